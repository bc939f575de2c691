/-
  The walk of writes (written by gen_w47.py).
-/
import Derived.Test.YtkddckfgdiemkaaGreatCW46
set_option linter.unusedVariables false
set_option linter.unusedSimpArgs false
namespace Go.Proofs.YtkddckfgdiemkaaGreat
open Go.RowKit Go.Shelf Mem
set_option maxRecDepth 100000
attribute [local go_sem] Oper.semAt_some

theorem info78 : (Tryz.prog.info? 78).map (fun i => (i.zero, i.size, i.bytes)) = some (some (.agg #[.int .i64 0, .int .i64 0, .int .i64 0, .int .i64 0, .bool false]), 5, 40) := by kernel_rfl
theorem msgC_one (e : Msg) : ∀ u ∈ msgC e, u.oneCell' = true := by
  intro u hu
  simp only [msgC, List.mem_cons, List.not_mem_nil, or_false] at hu
  rcases hu with h | h | h | h | h <;> (rw [h]; rfl)
theorem msgs_snoc (a : List Msg) (x : Msg) : msgs (a ++ [x]) = msgs a ++ msgC x := by simp [msgs]
/-- A box of the call's own turns. -/
theorem IsV.setBox {w : World} {B g N t j : Nat} {q : List (List Ev)} {m : VM} {z : MV} {cs : List Value} (h : IsV w B g q m z) (hb : Blk w N t cs) (h1 : (t ≠ 62 ∧ t ≠ 78 ∧ t ≠ 80 ∧ t ≠ 3) ∧ t ≠ 45 ∧ t ≠ 47) (u : Value) : IsV (w.setCell ⟨N, j, none⟩ u) B g q m z := by
  have hk : Kept w (w.setCell ⟨N, j, none⟩ u) (fun k => k = N) := (Kept.refl w (fun k => k = N)).setCell (p := ⟨N, j, none⟩) (.inl rfl) u
  have hf := h.foot_ne hb h1.1
  have hg : g ≠ N := fun e => hf (.inl e.symm)
  have off : ∀ {t' y n : Nat} {v : Value} {xs : List Value}, Row w B t' y v n xs → t' ≠ t → Row (w.setCell ⟨N, j, none⟩ u) B t' y v n xs := fun hr hne => Row.keep hr hk (fun k hk2 e => Row.ne_blk hr hb hne (e ▸ hk2))
  exact ⟨h.blk.keep hk (fun e => hg e), h.gB, h.p.setBlk hb h1.2.1 h1.2.2, off h.ms (fun e => h1.1.2.1 e.symm), h.n3, fun k hk3 => off (h.ln k hk3) (fun e => h1.1.2.2.2 e.symm), h.rl, off h.th (fun e => h1.1.2.2.1 e.symm), fun i hi => off (h.rd i hi) (fun e => h1.1.2.2.2 e.symm), h.ap⟩
theorem Did.setBox {a w : World} {g N j : Nat} {z z' : MV} (h : Did a w g z z') (hN : a.heap.size ≤ N) (u : Value) : Did a (w.setCell ⟨N, j, none⟩ u) g z z' := ⟨h.kept.setCell (p := ⟨N, j, none⟩) (.inr hN) u, h.new⟩
def v3L (v : V3) : List Value := [.int .i64 v.a, .int .i64 v.b, .int .i64 v.c]
def BoxV (w : World) (B g : Nat) (q : List (List Ev)) (m : VM) (z0 z : MV) (OB VB : Nat) (oc : List Value) (v : V3) (wx : World) : Prop := IsV wx B g q m z ∧ Did w wx g z0 z ∧ Blk wx OB 47 oc ∧ Blk wx VB 60 (v3L v)
theorem writes_plain {m0 m1 m2 m3 m4 : VM} {t k L F : Nat} {K V W R T wd : Int} {TB : Bool} {lw : List (List Int)} {v5 : V3} (ht : t < m0.thr.length) (hF : (m0.ln L).getD k 0 = (F : Int)) (hFm : F < m0.msgs.length) (h1 : ({ m0 with line := lineW m0 L k } : VM) = m1) (h2 : ({ m1 with msgs := m1.msgs ++ [⟨wd, ⟨0, 0, 0⟩, TB⟩] } : VM) = m2)
    (h3 : setTh m2 t (thNow (m2.th t) ((m2.th t).now.put L (m0.msgs.length : Int))) = m3) (hlw : m3.line = lw) (h4 : setTh m3 t (thGained (m3.th t) (joinV lw (m3.th t).gained (m3.th t).now)) = m4) (h5 : cond (oRel R) (m4.th t).now (m4.th t).given = v5) :
    ({ m4 with msgs := m4.msgs.set m0.msgs.length { m4.msg m0.msgs.length with view := (cond TB (joinV lw v5 (m0.msg F).view) v5).put L (m0.msgs.length : Int) } } : VM) = writesV m0 t k wd ⟨K, (L : Int), V, W, R, T⟩ TB := by
  subst h1
  have hm2 : m2.msgs = m0.msgs ++ [⟨wd, ⟨0, 0, 0⟩, TB⟩] ∧ m2.line = lineW m0 L k ∧ m2.thr = m0.thr ∧ m2.all = m0.all := by rw [← h2]; exact ⟨rfl, rfl, rfl, rfl⟩
  have t2 : t < m2.thr.length := by rw [hm2.2.2.1]; exact ht
  have e2 : m2.th t = m0.th t := by unfold VM.th; rw [hm2.2.2.1]
  have e3 : m3.th t = thNow (m0.th t) ((m0.th t).now.put L (m0.msgs.length : Int)) := by rw [← h3, setTh_same t2, e2]
  have t3 : t < m3.thr.length := by rw [← h3, setTh_len]; exact t2
  have e4 : m4.th t = thGained (m3.th t) (joinV lw (m3.th t).gained (m3.th t).now) := by rw [← h4, setTh_same t3]
  have elw : lw = lineW m0 L k := by rw [← hlw, ← h3, ← hm2.2.1]; rfl
  have m4m : m4.msgs = m0.msgs ++ [⟨wd, ⟨0, 0, 0⟩, TB⟩] := by rw [← h4, ← h3, ← hm2.1]; rfl
  have m4a : m4.all = m0.all := by rw [← h4, ← h3, ← hm2.2.2.2]; rfl
  have m4l : m4.line = lineW m0 L k := by rw [← h4, ← h3, ← hm2.2.1]; rfl
  have m4t : m4.thr = m0.thr.set t (thGained (thNow (m0.th t) ((m0.th t).now.put L (m0.msgs.length : Int))) (joinV (lineW m0 L k) (m0.th t).gained ((m0.th t).now.put L (m0.msgs.length : Int)))) := by
    rw [← h4, e3, elw]
    show (m3.thr).set t _ = _
    rw [← h3]
    show (m2.thr.set t _).set t _ = _
    rw [List.set_set, hm2.2.2.1]; rfl
  have eta : m4 = ⟨m4.msgs, m4.line, m4.thr, m4.all⟩ := rfl
  have hm4 : m4 = ⟨m0.msgs ++ [⟨wd, ⟨0, 0, 0⟩, TB⟩], lineW m0 L k, m0.thr.set t (thGained (thNow (m0.th t) ((m0.th t).now.put L (m0.msgs.length : Int))) (joinV (lineW m0 L k) (m0.th t).gained ((m0.th t).now.put L (m0.msgs.length : Int)))), m0.all⟩ := by
    rw [eta, m4m, m4l, m4t, m4a]
  have hv5 : v5 = cond (oRel R) ((m0.th t).now.put L (m0.msgs.length : Int)) (m0.th t).given := by
    rw [← h5, e4, e3]; rfl
  have hmsg : m4.msg m0.msgs.length = ⟨wd, ⟨0, 0, 0⟩, TB⟩ := by unfold VM.msg; rw [m4m]; simp
  rw [hmsg]
  unfold writesV
  have hset : ∀ x : Msg, (m0.msgs ++ [(⟨wd, ⟨0, 0, 0⟩, TB⟩ : Msg)]).set m0.msgs.length x = m0.msgs ++ [x] := fun x => by rw [List.set_append_right _ _ (Nat.le_refl _), Nat.sub_self]; rfl
  have hvw : (cond TB (joinV lw v5 (m0.msg F).view) v5).put L (m0.msgs.length : Int) = viewW m0 t k ⟨K, (L : Int), V, W, R, T⟩ TB := by
    unfold viewW
    have e : (m0.ln (⟨K, (L : Int), V, W, R, T⟩ : Ev).loc.toNat).getD k 0 = (F : Int) := hF
    rw [e, hv5, elw]
    show _ = V3.put _ L _
    cases oRel R <;> cases TB <;> rfl
  rw [hvw, hm4]
  show (⟨(m0.msgs ++ [(⟨wd, ⟨0, 0, 0⟩, TB⟩ : Msg)]).set m0.msgs.length _, _, _, _⟩ : VM) = _
  rw [hset]
  rfl
set_option maxHeartbeats 8000000 in
theorem vwrites_any {w : World} {B g : Nat} {q : List (List Ev)} {m0 : VM} {z0 : MV} (h : IsV w B g q m0 z0) (ho : VmOk m0) {t k L : Nat} {K V W R T wd : Int} {TB : Bool} (ht : t < m0.thr.length) (hL : L < 3) (hk : k < (m0.ln L).length) (hR : 0 ≤ R ∧ R < 5) (hB : B ≤ w.heap.size) :
    Calls Tryz.prog 59 #[.pointer (some ⟨g, 0, none⟩), .int .i64 (t : Int), .int .i64 (k : Int), .int .i64 wd, .agg #[.int .i64 K, .int .i64 (L : Int), .int .i64 V, .int .i64 W, .int .i64 R], .bool TB] w (DidV w B g q (writesV m0 t k wd ⟨K, (L : Int), V, W, R, T⟩ TB) z0) := by
  obtain ⟨w0, hw0⟩ : ∃ w0, w.alloc (.cells #[.int .i64 K, .int .i64 (L : Int), .int .i64 V, .int .i64 W, .int .i64 R] 47) = w0 := ⟨_, rfl⟩
  have b0 : Below w.heap.size w w0 := by rw [← hw0]; exact (Below.refl _ w).alloc (Nat.le_refl _) _
  have X := show Blk w0 w.heap.size 47 [.int .i64 K, .int .i64 (L : Int), .int .i64 V, .int .i64 W, .int .i64 R] by rw [← hw0]; exact Blk.new w 47 _
  have hsz : w.heap.size ≤ w0.heap.size := b0.size
  have i0 := h.below b0
  obtain ⟨bt, ct, hzt, hct1, hct2, _, _, hf0_, hbg, hc0_⟩ := i0.tv_at ht
  have c5 : w0.cell? ⟨g, 5, none⟩ = some (.slice (some ⟨bt, 0, none⟩) m0.thr.length ct) := by rw [i0.cells.2.2.1, hzt]
  obtain ⟨Am, cm, hcm1, hcm2, _, cm1, hms_⟩ := i0.msgs_
  obtain ⟨Al, cl, hcl1, hcl2, hzl, cl1, hrl⟩ := i0.line hL
  obtain ⟨bl, ol, rfl, hbl, yl⟩ := RdI.atn hrl rfl hk
  obtain ⟨y0, y1⟩ := ho.ln L hL k _ (List.getElem?_eq_getElem hk)
  rw [int_getD hk] at yl
  obtain ⟨F, hF⟩ : ∃ F : Nat, (m0.ln L)[k] = (F : Int) := ⟨((m0.ln L)[k]).toNat, by omega⟩
  rw [hF] at yl y0 y1
  have HFF := Lib.hid (show (m0.ln L).getD k 0 = (F : Int) by rw [int_getD hk, hF])
  have hll := ho.ll L hL
  have hml := ho.ml
  obtain ⟨N, hN⟩ : ∃ N, m0.thr.length = N := ⟨_, rfl⟩
  rw [hN] at c5 ht hzt
  obtain ⟨M, hM⟩ : ∃ M, m0.msgs.length = M := ⟨_, rfl⟩
  rw [hM] at cm1 y1 hml
  have t0 : (0 : Int) ≤ (t : Int) := by omega
  have t3 : (t : Int) < (N : Int) := by omega
  have l0 : (0 : Int) ≤ (L : Int) := by omega
  have l3 : (L : Int) < 3 := by omega
  obtain ⟨n, hn⟩ : ∃ n, (m0.ln L).length = n := ⟨_, rfl⟩
  have hown := i0.ln L hL
  rw [hzl] at hown
  have hownB := hown
  rw [hn] at cl1 hk hll hcl1 hzl
  have k0 : (0 : Int) ≤ (k : Int) := by omega
  have k1 : (k : Int) < (n : Int) := by omega
  have kw : IntKind.i64.wrap ((k : Int) + 1) = (k : Int) + 1 := by rw [IntKind.wrap_i64]; omega
  have HINS : Hid (∀ W' vb, Below w0.heap.size w0 W' → w0.heap.size ≤ vb → Blk W' vb 3 [.int .i64 (M : Int)] → Calls Tryz.prog 91 #[.slice (some ⟨bl, ol, none⟩) n cl, .int .i64 ((k : Int) + 1), .slice (some ⟨vb, 0, none⟩) 1 1] W' (Inserted W' B (.slice (some ⟨bl, ol, none⟩) n cl) (m0.ln L) (k + 1) (M : Int))) := Lib.hid (fun W' vb hW hvb hx => by
    have h1 := Row.below hown hW
    have h2 := insert_any (w := W') (B := B) (i := k + 1) (x := (M : Int)) h1 (by omega) (by omega) (by omega) hx (fun e => by have := (Row.at_lt hown e).2; omega) (Nat.le_trans hB (Nat.le_trans hsz hW.size))
    rw [hn] at h2
    exact h2)
  have b1 : Below w0.heap.size w0 (w0.alloc (.cells #[.int .i64 (M : Int)] 3)) := (Below.refl _ w0).alloc (Nat.le_refl _) _
  have HB1 := Lib.hid b1
  have HB2 := Lib.hid b1.drew
  have hlg : (Value.slice (some ⟨bl, ol, none⟩) n cl).ownBlock ≠ some g := by
    have := i0.row_g (i := L) (by omega)
    rw [z0.row_ln hL, hzl] at this; exact this
  have o1_ := X.cell 1 rfl
  have f1_ := X.free 1
  have hXlt := X.lt
  have hglt := i0.blk.lt
  have hgf := i0.blk.free (2 + L)
  have hlX : (Value.slice (some ⟨bl, ol, none⟩) n cl).ownBlock ≠ some w.heap.size := by rw [hn] at hown; exact Row.ne_blk hown X (by decide)
  have HKX : Hid (∀ W', Kept w0 W' (fun j => (Value.slice (some ⟨bl, ol, none⟩) n cl).ownBlock = some j) → (W'.cell? ⟨w.heap.size, 1, none⟩ = some (.int .i64 (L : Int)) ∧ W'.cell? ⟨g, 2 + L, none⟩ = some (.slice (some ⟨bl, ol, none⟩) n cl)) ∧ W'.frozen? ⟨g, 2 + L, none⟩ = false) := Lib.hid (fun W' hW => ⟨⟨(Kept.at_ hW hXlt hlX 1).1.trans o1_, (Kept.at_ hW hglt hlg _).1.trans cl1⟩, (Kept.at_ hW hglt hlg _).2.trans hgf⟩)
  have o1 := o1_
  have XO0 := Lib.hid X
  have I0 := Lib.hid i0
  have L0 := Lib.hid hN
  have T0 := Lib.hid hzt
  have D0 := Lib.hid (Did.below g z0 b0)
  have HW0 := Lib.hid hw0
  have HM := Lib.hid hM
  have HLNL := Lib.hid hn
  have HZL := Lib.hid hzl
  have HOWN := Lib.hid hown
  have HKW := Lib.hid kw
  have HY1 : Hid (F < M) := Lib.hid (by omega)
  have HHO := Lib.hid ho
  obtain ⟨RC, hRC⟩ : ∃ RC, oRel R = RC := ⟨_, rfl⟩
  have HRC := Lib.hid hRC
  obtain ⟨LW, hLW⟩ : ∃ x, lineW m0 L k = x := ⟨_, rfl⟩
  have HLW := Lib.hid hLW
  have HLWX : Hid (m0.line.set L (insAt (m0.ln L) (k + 1) (M : Int)) = LW) := Lib.hid (by rw [← hLW, ← hM]; rfl)
  clear hf0_ hc0_ h ho b0 X i0 hzt hct1 hN hw0 hM hn hzl hown hownB hRC hLW hms_ hrl hF b1 hlg o1_ f1_ hgf hlX kw hcm1
  go_enter Tryz.func59, Tryz.ntmps59
  go_upto_region 1 with fail
  rw [HW0.out]
  go_upto_region 3 with fail
  go_quiet (fail)
  go_upto_region 4 with fail
  have kw := HKW.out
  have ca1 : ∀ a o, ((w0.drewN a).alloc o).cell? ⟨g, 2 + L, none⟩ = some (.slice (some ⟨bl, ol, none⟩) n cl) := fun a o => ((((Below.refl _ w0).drewN a).alloc (Nat.le_refl _) o).cell (p := ⟨g, _, none⟩) hglt).trans cl1
  have ca2 : ∀ a o, ((w0.drewN a).alloc o).cell? ⟨w.heap.size, 1, none⟩ = some (.int .i64 (L : Int)) := fun a o => ((((Below.refl _ w0).drewN a).alloc (Nat.le_refl _) o).cell (p := ⟨w.heap.size, _, none⟩) hXlt).trans o1
  go_cut [] from 39 to 56 (fun wx => AtV w0 B g q { m0 with line := LW } z0 wx)
  case first =>
    go_region_law (go_simp; go_at_call 91; refine (HINS.out _ w0.heap.size (by first | exact ((Below.refl _ w0).drewN _).alloc (Nat.le_refl _) _ | exact (((Below.refl _ w0).drewN _).alloc (Nat.le_refl _) _).drew | exact (((Below.refl _ w0).drewN _).alloc (Nat.le_refl _) _).drewN _) (Nat.le_refl _) (by first | exact Blk.new (w0.drewN _) 3 _)).mono ?_; rintro e5 w5 ⟨u5, rfl, ho5, hk5, hn5⟩; have hk6 : Kept w0 w5 (fun j => (Value.slice (some ⟨bl, ol, none⟩) n cl).ownBlock = some j) := (Kept.of_below (by first | exact ((Below.refl _ w0).drewN _).alloc (Nat.le_refl _) _ | exact (((Below.refl _ w0).drewN _).alloc (Nat.le_refl _) _).drew | exact (((Below.refl _ w0).drewN _).alloc (Nat.le_refl _) _).drewN _) _).trans hk5 (fun _ _ h => h); have hn6 : ∀ j, u5.ownBlock = some j → (Value.slice (some ⟨bl, ol, none⟩) n cl).ownBlock = some j ∨ w0.heap.size ≤ j := fun j hj => (hn5 j hj).imp id (fun h => Nat.le_trans (Below.size (B := w0.heap.size) (by first | exact ((Below.refl _ w0).drewN _).alloc (Nat.le_refl _) _ | exact (((Below.refl _ w0).drewN _).alloc (Nat.le_refl _) _).drew | exact (((Below.refl _ w0).drewN _).alloc (Nat.le_refl _) _).drewN _)) h); obtain ⟨A5, c5, rfl, hc51, hc52⟩ := (Row.rd ho5).shape; obtain ⟨⟨cc0, cc1⟩, ff0⟩ := HKX.out w5 hk6)
    all_goals
      have hst := I0.out.setLine (l := L) hL (u := .slice A5 (insAt (m0.ln L) (k + 1) (M : Int)).length c5) (x := insAt (m0.ln L) (k + 1) (M : Int)) (by rw [HZL.out]; exact hk6) ho5 (fun j hj => by rw [HZL.out]; exact hn6 j hj)
      rw [HLWX.out] at hst
      have HST := Lib.hid hst
      clear hst ho5 hk5 hk6 hn5 hn6 cc0 cc1 ff0
      go_wp2_with fail
      go_meet
      exact ⟨_, HST.out.1, HST.out.2, (z0.setLn_rs L _).2.2.1⟩
  case rest =>
    clear ca1 ca2 HINS HKX HB1 HB2 cl1 yl cm1 o1 c5 hglt hXlt hbl
    have XO1' := hcut.box I0.out XO0.out (by decide)
    obtain ⟨z1, i1, d1, t1⟩ := hcut
    obtain ⟨w1, hw1⟩ : ∃ x, wc = x := ⟨_, rfl⟩
    rw [hw1] at i1 d1 XO1' ⊢
    clear hw1 wc
    obtain ⟨m1, hm1⟩ : ∃ x, ({ m0 with line := LW } : VM) = x := ⟨_, rfl⟩
    rw [hm1] at i1
    have M1 := Lib.hid hm1
    have I1 := Lib.hid i1
    have D1 := Lib.hid (D0.out.trans d1)
    have E1 := Lib.hid d1
    have TE1 := Lib.hid t1
    have T1 := Lib.hid (show z1.tv = .slice (some ⟨bt, 0, none⟩) N ct by rw [t1, T0.out])
    have XO1 := Lib.hid XO1'
    clear hm1 i1 d1 t1 XO1'
    have L1 : Hid (m1.thr.length = N) := Lib.hid (by rw [← M1.out]; exact L0.out)
    have ML1 : Hid (m1.msgs.length = M) := Lib.hid (by rw [← M1.out]; exact HM.out)
    obtain ⟨Am1, cm1, hzm1, hcm11, hcm12⟩ := (Row.rd I1.out.ms).shape
    have q1 := I1.out.cells.2.1
    have hrow1 := I1.out.ms
    have hmg1 : z1.mv.ownBlock ≠ some g := Row.ne_blk hrow1 I1.out.blk (by decide)
    have hg1 := I1.out.blk.lt
    have hgf1 := I1.out.blk.free 1
    rw [hzm1, ML1.out] at q1 hrow1 hmg1
    have HZM1 := Lib.hid (hzm1.trans (by rw [ML1.out]))
    have HROW1 := Lib.hid hrow1
    have HK1 : Hid (∀ W', Kept w1 W' (fun j => (Value.slice Am1 M cm1).ownBlock = some j) → W'.cell? ⟨g, 1, none⟩ = some (.slice Am1 M cm1) ∧ W'.frozen? ⟨g, 1, none⟩ = false) := Lib.hid (fun W' hW => ⟨(Kept.at_ hW hg1 hmg1 1).1.trans q1, (Kept.at_ hW hg1 hmg1 1).2.trans hgf1⟩)
    have hB1 : B ≤ w1.heap.size := Nat.le_trans hB D1.out.kept.size
    clear hzm1 hcm11 hrow1 hmg1 hgf1 kw
    go_upto_region 6 with (at_builtin; refine wpList_app rfl (.tmp 61) (.tmp 65) rfl Tryz.underlying56 info78 rfl (by decide) (by decide) B _ _ _ w1.heap.size (msgC ⟨wd, ⟨0, 0, 0⟩, TB⟩) rfl (World.ownsRow.alloc HROW1.out _) rfl (Blk.new w1 78 (msgC ⟨wd, ⟨0, 0, 0⟩, TB⟩)) rfl (msgC_one _) (by simp; omega) (by omega) ?_; intro v6 w6 hrow6 hk6 hat6; have hk7 : Kept w1 w6 (fun j => (Value.slice Am1 M cm1).ownBlock = some j) := ((Kept.refl w1 _).alloc _).trans hk6 (fun _ _ h => h); obtain ⟨cc0, ff0⟩ := HK1.out w6 hk7; obtain ⟨A6, c6, rfl, hc61, hc62⟩ := (Row.rd hrow6).shape)
    obtain ⟨i2, d2⟩ := I1.out.setMsgs (w' := w6) (u := .slice A6 (M + 1) c6) (x := m1.msgs ++ [⟨wd, ⟨0, 0, 0⟩, TB⟩]) (by rw [HZM1.out]; exact hk7) (by rw [List.length_append, ML1.out, msgs_snoc]; exact hrow6) (fun j hj => by rw [HZM1.out]; exact (hat6 j hj).imp id (fun h => by simp at h; omega))
    obtain ⟨w2, hw2⟩ : ∃ x, w6.setCell ⟨g, 1, none⟩ (.slice A6 (M + 1) c6) = x := ⟨_, rfl⟩
    rw [hw2] at i2 d2 ⊢
    obtain ⟨m2, hm2⟩ : ∃ x, ({ m1 with msgs := m1.msgs ++ [⟨wd, ⟨0, 0, 0⟩, TB⟩] } : VM) = x := ⟨_, rfl⟩
    rw [hm2] at i2
    obtain ⟨z2, hz2⟩ : ∃ x, ({ z1 with mv := .slice A6 (M + 1) c6 } : MV) = x := ⟨_, rfl⟩
    rw [hz2] at i2 d2
    have XO2 := Lib.hid (XO1.out.keep d2.kept (I1.out.foot_ne XO1.out (by decide)))
    have T2 := Lib.hid (show z2.tv = .slice (some ⟨bt, 0, none⟩) N ct by rw [← hz2]; exact T1.out)
    have M2 := Lib.hid hm2
    have I2 := Lib.hid i2
    have D2 := Lib.hid (D1.out.trans d2)
    have L2 : Hid (m2.thr.length = N) := Lib.hid (by rw [← hm2]; exact L1.out)
    clear i2 d2 hw2 hm2 hz2 hrow6 hk6 hat6 hk7 cc0 ff0 q1 hg1 HK1
    obtain ⟨b', c', e1, _, _, _, hbt2, hft2, _, hcs2⟩ := I2.out.tv_at (t := t) (by rw [L2.out]; exact ht)
    have eb : b' = bt := by rw [T2.out] at e1; injection e1 with e1; injection e1 with e1; injection e1 with e1; exact e1.symm
    rw [eb] at hcs2 hft2 hbt2
    obtain ⟨now2, hnow2⟩ : ∃ x, (m2.th t).now = x := ⟨_, rfl⟩
    have ynow0 : w2.cell? ⟨bt, t * 11, none⟩ = some (.int .i64 now2.a) := by rw [← hnow2]; exact hcs2 0 (by decide)
    have ynow1 : w2.cell? ⟨bt, t * 11 + 1, none⟩ = some (.int .i64 now2.b) := by rw [← hnow2]; exact hcs2 1 (by decide)
    have ynow2 : w2.cell? ⟨bt, t * 11 + 2, none⟩ = some (.int .i64 now2.c) := by rw [← hnow2]; exact hcs2 2 (by decide)
    have Nnow2 := Lib.hid hnow2
    clear hnow2
    have y0 : w2.cell? ⟨bt, t * 11 + L, none⟩ = some (.int .i64 (now2.at_ L)) := by
      rw [← Nnow2.out, hcs2 L (by omega)]
      rcases (by omega : L = 0 ∨ L = 1 ∨ L = 2) with rfl | rfl | rfl <;> rfl
    have g0 := hft2 (t * 11 + L)
    have o1 := XO2.out.cell 1 rfl
    clear e1 eb hcs2
    clear hft2 ynow0 ynow1 ynow2
    go_region
    obtain ⟨i3, d3⟩ := I2.out.setNow1 (t := t) (b := bt) (c := ct) (p := t * 11 + L) (by rw [L2.out]; exact ht) (by rw [L2.out]; exact T2.out) hL rfl (M : Int)
    replace i3 := i3.below ((Below.refl _ _).drew)
    replace d3 := d3.trans (Did.below g z2 ((Below.refl _ _).drew))
    obtain ⟨w3, hw3⟩ : ∃ x, (w2.setCell ⟨bt, t * 11 + L, none⟩ (.int .i64 (M : Int))).drew = x := ⟨_, rfl⟩
    rw [hw3] at i3 d3 ⊢
    obtain ⟨m3, hm3⟩ : ∃ x, setTh m2 t (thNow (m2.th t) ((m2.th t).now.put L (M : Int))) = x := ⟨_, rfl⟩
    have i3 : IsV w3 B g q m3 z2 := by rw [← hm3]; exact i3
    have XO3 := Lib.hid (XO2.out.keep d3.kept (I2.out.foot_ne XO2.out (by decide)))
    have M3 := Lib.hid hm3
    have I3 := Lib.hid i3
    have D3 := Lib.hid (D2.out.trans d3)
    have T3 := T2
    have L3 : Hid (m3.thr.length = N) := Lib.hid (by rw [← hm3, setTh_len]; exact L2.out)
    have LN3 : Hid (m3.line = LW) := Lib.hid (by rw [← hm3, ← M2.out, ← M1.out]; rfl)
    clear i3 d3 hw3 hm3 y0 g0 o1
    obtain ⟨b', c', e1, _, _, _, hbt3, hft3, _, hcs3⟩ := I3.out.tv_at (t := t) (by rw [L3.out]; exact ht)
    have eb : b' = bt := by rw [T3.out] at e1; injection e1 with e1; injection e1 with e1; injection e1 with e1; exact e1.symm
    rw [eb] at hcs3 hft3 hbt3
    obtain ⟨now3, hnow3⟩ : ∃ x, (m3.th t).now = x := ⟨_, rfl⟩
    have ynow0 : w3.cell? ⟨bt, t * 11, none⟩ = some (.int .i64 now3.a) := by rw [← hnow3]; exact hcs3 0 (by decide)
    have ynow1 : w3.cell? ⟨bt, t * 11 + 1, none⟩ = some (.int .i64 now3.b) := by rw [← hnow3]; exact hcs3 1 (by decide)
    have ynow2 : w3.cell? ⟨bt, t * 11 + 2, none⟩ = some (.int .i64 now3.c) := by rw [← hnow3]; exact hcs3 2 (by decide)
    have Nnow3 := Lib.hid hnow3
    clear hnow3
    obtain ⟨gained3, hgained3⟩ : ∃ x, (m3.th t).gained = x := ⟨_, rfl⟩
    have ygained0 : w3.cell? ⟨bt, t * 11 + 3, none⟩ = some (.int .i64 gained3.a) := by rw [← hgained3]; exact hcs3 3 (by decide)
    have ygained1 : w3.cell? ⟨bt, t * 11 + 4, none⟩ = some (.int .i64 gained3.b) := by rw [← hgained3]; exact hcs3 4 (by decide)
    have ygained2 : w3.cell? ⟨bt, t * 11 + 5, none⟩ = some (.int .i64 gained3.c) := by rw [← hgained3]; exact hcs3 5 (by decide)
    have Ngained3 := Lib.hid hgained3
    clear hgained3
    clear e1 eb hcs3
    have HFB : Hid (∀ W', Below w3.heap.size w3 W' → (W'.cell? ⟨bt, t * 11 + 3, none⟩ = some (.int .i64 gained3.a) ∧ W'.cell? ⟨bt, t * 11 + 3 + 1, none⟩ = some (.int .i64 gained3.b) ∧ W'.cell? ⟨bt, t * 11 + 3 + 2, none⟩ = some (.int .i64 gained3.c)) ∧ W'.frozen? ⟨bt, t * 11 + 3, none⟩ = false ∧ W'.frozen? ⟨bt, t * 11 + 3 + 1, none⟩ = false ∧ W'.frozen? ⟨bt, t * 11 + 3 + 2, none⟩ = false) := Lib.hid (fun W' hW => ⟨⟨(hW.cell (p := ⟨bt, _, none⟩) hbt3).trans ygained0, (hW.cell (p := ⟨bt, _, none⟩) hbt3).trans ygained1, (hW.cell (p := ⟨bt, _, none⟩) hbt3).trans ygained2⟩, (hW.frozen (p := ⟨bt, _, none⟩) hbt3).trans (hft3 _), (hW.frozen (p := ⟨bt, _, none⟩) hbt3).trans (hft3 _), (hW.frozen (p := ⟨bt, _, none⟩) hbt3).trans (hft3 _)⟩)
    clear hft3
    have HJ : Hid (∀ W', Below w3.heap.size w3 W' → ∀ u v, Calls Tryz.prog 89 #[.pointer (some ⟨g, 0, none⟩), v3V u, v3V v] W' (fun e w' => e = .returned (v3V (joinV LW u v)) ∧ Below W'.heap.size W' w')) := Lib.hid (fun W' hW u v => by have := join_any (I3.out.below hW) (u := u) (v := v); rw [LN3.out] at this; exact this)
    go_upto_region 7 with fail
    go_cut [] from 76 to 88 (fun wx => AtV w3 B g q (setTh m3 t (thGained (m3.th t) (joinV LW gained3 now3))) z2 wx)
    case first =>
      go_region_with (go_at_call 89; (with_reducible refine (HJ.out _ ((Below.refl _ w3).drew) gained3 now3).mono ?_); rintro e5 w5 ⟨rfl, hb5⟩; have hb6 : Below w3.heap.size w3 w5 := (Below.refl _ w3).drew.trans hb5; obtain ⟨⟨cc0, cc1, cc2⟩, ff0, ff1, ff2⟩ := HFB.out w5 hb6)
      all_goals
        have i5 := I3.out.below hb6
        have hst := i5.setGained (t := t) (b := bt) (c := ct) (p := t * 11 + 3) (by rw [L3.out]; exact ht) (by rw [L3.out]; exact T3.out) rfl (joinV LW gained3 now3)
        have HST := Lib.hid hst
        have HB6 := Lib.hid hb6
        clear hst i5 hb5 hb6
        go_wp2_with fail
        go_meet
        exact ⟨z2, HST.out.1, (Did.below g z2 HB6.out).trans HST.out.2, rfl⟩
    case rest =>
      clear HJ HFB ynow0 ynow1 ynow2 ygained0 ygained1 ygained2
      have XO4' := hcut.box I3.out XO3.out (by decide)
      obtain ⟨z4, i4, d4, t4⟩ := hcut
      obtain ⟨w4, hw4⟩ : ∃ x, wc = x := ⟨_, rfl⟩
      rw [hw4] at i4 d4 XO4' ⊢
      clear hw4 wc
      obtain ⟨m4, hm4⟩ : ∃ x, setTh m3 t (thGained (m3.th t) (joinV LW gained3 now3)) = x := ⟨_, rfl⟩
      rw [hm4] at i4
      have M4 := Lib.hid hm4
      have I4 := Lib.hid i4
      have D4 := Lib.hid (D3.out.trans d4)
      have E4 := Lib.hid d4
      have TE4 := Lib.hid t4
      have T4 := Lib.hid (show z4.tv = .slice (some ⟨bt, 0, none⟩) N ct by rw [t4, T3.out])
      have XO4 := Lib.hid XO4'
      clear hm4 i4 d4 t4 XO4'
      have L4 : Hid (m4.thr.length = N) := Lib.hid (by rw [← M4.out, setTh_len]; exact L3.out)
      have LN4 : Hid (m4.line = LW) := Lib.hid (by rw [← M4.out]; exact LN3.out)
      have MM4 : Hid (m4.msgs = m0.msgs ++ [(⟨wd, ⟨0, 0, 0⟩, TB⟩ : Msg)]) := Lib.hid (by rw [← M4.out, ← M3.out, ← M2.out, ← M1.out]; rfl)
      have ML4 : Hid (m4.msgs.length = M + 1) := Lib.hid (by rw [MM4.out, List.length_append, HM.out]; rfl)
      obtain ⟨b', c', e1, _, _, _, hbt4, hft4, _, hcs4⟩ := I4.out.tv_at (t := t) (by rw [L4.out]; exact ht)
      have eb : b' = bt := by rw [T4.out] at e1; injection e1 with e1; injection e1 with e1; injection e1 with e1; exact e1.symm
      rw [eb] at hcs4 hft4 hbt4
      obtain ⟨now4, hnow4⟩ : ∃ x, (m4.th t).now = x := ⟨_, rfl⟩
      have ynow0 : w4.cell? ⟨bt, t * 11, none⟩ = some (.int .i64 now4.a) := by rw [← hnow4]; exact hcs4 0 (by decide)
      have ynow1 : w4.cell? ⟨bt, t * 11 + 1, none⟩ = some (.int .i64 now4.b) := by rw [← hnow4]; exact hcs4 1 (by decide)
      have ynow2 : w4.cell? ⟨bt, t * 11 + 2, none⟩ = some (.int .i64 now4.c) := by rw [← hnow4]; exact hcs4 2 (by decide)
      have Nnow4 := Lib.hid hnow4
      clear hnow4
      obtain ⟨given4, hgiven4⟩ : ∃ x, (m4.th t).given = x := ⟨_, rfl⟩
      have ygiven0 : w4.cell? ⟨bt, t * 11 + 6, none⟩ = some (.int .i64 given4.a) := by rw [← hgiven4]; exact hcs4 6 (by decide)
      have ygiven1 : w4.cell? ⟨bt, t * 11 + 7, none⟩ = some (.int .i64 given4.b) := by rw [← hgiven4]; exact hcs4 7 (by decide)
      have ygiven2 : w4.cell? ⟨bt, t * 11 + 8, none⟩ = some (.int .i64 given4.c) := by rw [← hgiven4]; exact hcs4 8 (by decide)
      have Ngiven4 := Lib.hid hgiven4
      clear hgiven4
      clear e1 eb hcs4
      clear hft4
      go_upto_region 9 with fail
      obtain ⟨wa, hwa⟩ : ∃ x, w4.alloc (.cells #[.int .i64 given4.a, .int .i64 given4.b, .int .i64 given4.c] 60) = x := ⟨_, rfl⟩
      rw [hwa]
      have ba : Below w4.heap.size w4 wa := by rw [← hwa]; exact (Below.refl _ w4).alloc (Nat.le_refl _) _
      have xva : Blk wa w4.heap.size 60 (v3L given4) := by rw [← hwa]; exact Blk.new w4 60 (v3L given4)
      obtain ⟨VB, hVB⟩ : ∃ x, w4.heap.size = x := ⟨_, rfl⟩
      have hVo : w.heap.size < VB := by rw [← hVB]; exact XO4.out.lt
      have hVw : w.heap.size ≤ VB := Nat.le_of_lt hVo
      have yb0 := (ba.cell (p := ⟨bt, _, none⟩) hbt4).trans ynow0
      have yb1 := (ba.cell (p := ⟨bt, _, none⟩) hbt4).trans ynow1
      have yb2 := (ba.cell (p := ⟨bt, _, none⟩) hbt4).trans ynow2
      have Ia := Lib.hid (I4.out.below ba)
      have Da := Lib.hid (D4.out.trans (Did.below g z4 ba))
      have XOa := Lib.hid (XO4.out.below ba)
      rw [hVB] at xva ⊢
      have XVa := Lib.hid xva
      have o4 := XOa.out.cell 4 rfl
      have va0 := XVa.out.cell 0 rfl
      have va1 := XVa.out.cell 1 rfl
      have va2 := XVa.out.cell 2 rfl
      have vf0 := XVa.out.free 0
      have vf1 := XVa.out.free 1
      have vf2 := XVa.out.free 2
      clear hwa ba xva hVB hbt4 ynow0 ynow1 ynow2 ygiven0 ygiven1 ygiven2
      go_upto_if 99 with (go_at_call 90; refine (order_releases_any hR.1 hR.2).mono ?_; rintro e5 w5 ⟨rfl, rfl⟩; rw [HRC.out])
      go_cut [] from 100 to 103 (fun wx => BoxV w B g q m4 z0 z4 w.heap.size VB [.int .i64 K, .int .i64 (L : Int), .int .i64 V, .int .i64 W, .int .i64 R] (cond RC now4 given4) wx)
      case first =>
        cases RC with
        | false =>
          go_wp2_with fail
          go_meet
          exact ⟨Ia.out, Da.out, XOa.out, XVa.out⟩
        | true =>
          go_wp2_with fail
          go_meet
          have x1 := XVa.out.set 0 (.int .i64 now4.a)
          have x2 := x1.set 1 (.int .i64 now4.b)
          exact ⟨((Ia.out.setBox XVa.out (by decide) _).setBox x1 (by decide) _).setBox x2 (by decide) _, ((Da.out.setBox hVw _).setBox hVw _).setBox hVw _, ((XOa.out.off (by omega)).off (by omega)).off (by omega), x2.set 2 _⟩
      case rest =>
        clear va0 va1 va2 vf0 vf1 vf2 yb0 yb1 yb2 o4
        obtain ⟨i5, d5, xo5, xv5⟩ := hcut
        obtain ⟨w5, hw5⟩ : ∃ x, wc = x := ⟨_, rfl⟩
        rw [hw5] at i5 d5 xo5 xv5 ⊢
        clear hw5 wc
        obtain ⟨v5, hv5⟩ : ∃ x, cond RC now4 given4 = x := ⟨_, rfl⟩
        rw [hv5] at xv5
        have I5 := Lib.hid i5
        have D5 := Lib.hid d5
        have XO5 := Lib.hid xo5
        have XV5 := Lib.hid xv5
        have HV5 := Lib.hid hv5
        clear i5 d5 xo5 xv5 hv5
        go_upto_if 104 with fail
        obtain ⟨bm, cmF, hzm, _, hcm2', _, _, hmf_, _, hms⟩ := I5.out.mv_at (k := F) (by rw [ML4.out]; have := HY1.out; omega)
        have q1 : w5.cell? ⟨g, 1, none⟩ = some (.slice (some ⟨bm, 0, none⟩) (M + 1) cmF) := by rw [I5.out.cells.2.1, hzm, ML4.out]
        obtain ⟨fv, hfv⟩ : ∃ x, (m4.msg F).view = x := ⟨_, rfl⟩
        have s1 : w5.cell? ⟨bm, F * 5 + 1, none⟩ = some (.int .i64 fv.a) := by rw [hms 1 (by decide), ← hfv]; rfl
        have s2 : w5.cell? ⟨bm, F * 5 + 2, none⟩ = some (.int .i64 fv.b) := by rw [hms 2 (by decide), ← hfv]; rfl
        have s3 : w5.cell? ⟨bm, F * 5 + 3, none⟩ = some (.int .i64 fv.c) := by rw [hms 3 (by decide), ← hfv]; rfl
        have HFV := Lib.hid hfv
        have yF : (F : Int) < ((M + 1 : Nat) : Int) := by omega
        have yF2 : (F : Int) < (M : Int) + 1 := by omega
        have va0 := XV5.out.cell 0 rfl
        have va1 := XV5.out.cell 1 rfl
        have va2 := XV5.out.cell 2 rfl
        have HJ : Hid (∀ W', Below w5.heap.size w5 W' → ∀ u v, Calls Tryz.prog 89 #[.pointer (some ⟨g, 0, none⟩), v3V u, v3V v] W' (fun e w' => e = .returned (v3V (joinV LW u v)) ∧ Below W'.heap.size W' w')) := Lib.hid (fun W' hW u v => by have := join_any (I5.out.below hW) (u := u) (v := v); rw [LN4.out] at this; exact this)
        have HFB : Hid (∀ W', Below w5.heap.size w5 W' → Blk W' VB 60 (v3L v5)) := Lib.hid (fun W' hW => XV5.out.below hW)
        clear hzm hmf_ hms hfv
        go_cut [] from 105 to 115 (fun wx => BoxV w B g q m4 z0 z4 w.heap.size VB [.int .i64 K, .int .i64 (L : Int), .int .i64 V, .int .i64 W, .int .i64 R] (cond TB (joinV LW v5 fv) v5) wx)
        case first =>
          cases TB with
          | false =>
            go_wp2_with fail
            go_meet
            exact ⟨I5.out, D5.out, XO5.out, XV5.out⟩
          | true =>
            go_upto_region 13 with fail
            go_region_with (go_at_call 89; (with_reducible refine (HJ.out _ ((Below.refl _ w5).drew) v5 fv).mono ?_); rintro e5 w6 ⟨rfl, hb5⟩; have hb6 : Below w5.heap.size w5 w6 := (Below.refl _ w5).drew.trans hb5; have ff0 := (HFB.out w6 hb6).free 0; have ff1 := (HFB.out w6 hb6).free 1; have ff2 := (HFB.out w6 hb6).free 2; have fc0 := (HFB.out w6 hb6).cell 0 rfl; have fc1 := (HFB.out w6 hb6).cell 1 rfl; have fc2 := (HFB.out w6 hb6).cell 2 rfl)
            all_goals
              have HB6 := Lib.hid hb6
              clear hb5 hb6 ff0 ff1 ff2 fc0 fc1 fc2
              go_wp2_with fail
              go_meet
              have x0 := XV5.out.below HB6.out
              have x1 := x0.set 0 (.int .i64 (joinV LW v5 fv).a)
              have x2 := x1.set 1 (.int .i64 (joinV LW v5 fv).b)
              exact ⟨(((I5.out.below HB6.out).setBox x0 (by decide) _).setBox x1 (by decide) _).setBox x2 (by decide) _, (((D5.out.trans (Did.below g z4 HB6.out)).setBox hVw _).setBox hVw _).setBox hVw _, (((XO5.out.below HB6.out).off (by omega)).off (by omega)).off (by omega), x2.set 2 _⟩
        case rest =>
          clear HJ HFB q1 s1 s2 s3 va0 va1 va2 yF yF2
          obtain ⟨i7, d7, xo7, xv7⟩ := hcut
          obtain ⟨w7, hw7⟩ : ∃ x, wc = x := ⟨_, rfl⟩
          rw [hw7] at i7 d7 xo7 xv7 ⊢
          clear hw7 wc
          obtain ⟨v7, hv7⟩ : ∃ x, cond TB (joinV LW v5 fv) v5 = x := ⟨_, rfl⟩
          rw [hv7] at xv7
          have I7 := Lib.hid i7
          have D7 := Lib.hid d7
          have XO7 := Lib.hid xo7
          have XV7 := Lib.hid xv7
          have HV7 := Lib.hid hv7
          clear i7 d7 xo7 xv7 hv7
          have o1 := XO7.out.cell 1 rfl
          have vL : w7.cell? ⟨VB, L, none⟩ = some (.int .i64 (v7.at_ L)) := by rcases (by omega : L = 0 ∨ L = 1 ∨ L = 2) with rfl | rfl | rfl; exact XV7.out.cell 0 rfl; exact XV7.out.cell 1 rfl; exact XV7.out.cell 2 rfl
          have vfL := XV7.out.free L
          go_upto_region 15 with fail
          obtain ⟨w8, hw8⟩ : ∃ x, w7.setCell ⟨VB, L, none⟩ (.int .i64 (M : Int)) = x := ⟨_, rfl⟩
          rw [hw8]
          have I8 : Hid (IsV w8 B g q m4 z4) := Lib.hid (by rw [← hw8]; exact I7.out.setBox XV7.out (by decide) _)
          have D8 : Hid (Did w w8 g z0 z4) := Lib.hid (by rw [← hw8]; exact D7.out.setBox hVw _)
          have XV8 : Hid (Blk w8 VB 60 (v3L (v7.put L (M : Int)))) := Lib.hid (by rw [← hw8]; have := XV7.out.set L (.int .i64 (M : Int)); rcases (by omega : L = 0 ∨ L = 1 ∨ L = 2) with rfl | rfl | rfl <;> exact this)
          obtain ⟨v8, hv8⟩ : ∃ x, v7.put L (M : Int) = x := ⟨_, rfl⟩
          rw [hv8] at XV8
          have HV8 := Lib.hid hv8
          clear hw8 o1 vL vfL hv8
          obtain ⟨bm, cmF, hzm, _, hcm3', _, _, hmf_, _, hms⟩ := I8.out.mv_at (k := M) (by rw [ML4.out]; omega)
          have q1 : w8.cell? ⟨g, 1, none⟩ = some (.slice (some ⟨bm, 0, none⟩) (M + 1) cmF) := by rw [I8.out.cells.2.1, hzm, ML4.out]
          have s1 : w8.cell? ⟨bm, M * 5 + 1, none⟩ = some _ := hms 1 (by decide)
          have s2 : w8.cell? ⟨bm, M * 5 + 1 + 1, none⟩ = some _ := hms 2 (by decide)
          have s3 : w8.cell? ⟨bm, M * 5 + 1 + 2, none⟩ = some _ := hms 3 (by decide)
          have g1 := hmf_ (M * 5 + 1)
          have g2 := hmf_ (M * 5 + 1 + 1)
          have g3 := hmf_ (M * 5 + 1 + 2)
          have yF : (M : Int) < ((M + 1 : Nat) : Int) := by omega
          have yF2 : (M : Int) < (M : Int) + 1 := by omega
          have yF0 : (0 : Int) ≤ (M : Int) := by omega
          have va0 := XV8.out.cell 0 rfl
          have va1 := XV8.out.cell 1 rfl
          have va2 := XV8.out.cell 2 rfl
          have HZM := Lib.hid hzm
          clear hzm hmf_ hms
          go_region
          all_goals
            have hst := I8.out.msg3 (k := M) (b := bm) (c := cmF) (p := M * 5 + 1) (by rw [ML4.out]; omega) HZM.out rfl v8
            have HST := Lib.hid hst
            clear hst q1 s1 s2 s3 g1 g2 g3 va0 va1 va2
            have hfv0 : (m0.msg F).view = fv := by
              rw [← HFV.out]; congr 1; unfold VM.msg
              rw [MM4.out, List.getD_eq_getElem?_getD, List.getD_eq_getElem?_getD, List.getElem?_append_left (by rw [HM.out]; exact HY1.out)]
            have e := writes_plain (m0 := m0) (m1 := m1) (m2 := m2) (m3 := m3) (m4 := m4) (v5 := v5) (lw := LW) (F := F) (wd := wd) (TB := TB) (K := K) (L := L) (V := V) (W := W) (R := R) (T := T) (show t < m0.thr.length by rw [L0.out]; exact ht) HFF.out (by rw [HM.out]; exact HY1.out) (by rw [HLW.out]; exact M1.out) M2.out (by rw [HM.out]; exact M3.out) LN3.out (by rw [Ngained3.out, Nnow3.out]; exact M4.out) (by rw [HRC.out, Nnow4.out, Ngiven4.out]; exact HV5.out)
            rw [HM.out, hfv0, HV7.out, HV8.out] at e
            have HE := Lib.hid e
            clear e hfv0
            go_returns
            refine ⟨rfl, z4, ?_, (D8.out.trans HST.out.2).trans (Did.below g z4 ((Below.refl _ _).drew))⟩
            rw [← HE.out]
            exact HST.out.1.below ((Below.refl _ _).drew)
end Go.Proofs.YtkddckfgdiemkaaGreat
