/-
  The walks of rebuilt (by Expand's function) and Expand.
-/
import Derived.Test.YtkddckfgdiemkaaGreatCW30
set_option linter.unusedVariables false
set_option linter.unusedSimpArgs false
namespace Go.Proofs.YtkddckfgdiemkaaGreat
open Go.RowKit Go.Shelf Mem
set_option maxRecDepth 100000
attribute [local go_sem] Oper.semAt_some

theorem results_cell_tmp_row {P : Program} {fn : Func} {p u : Tmp} {ty : TypeId} (h : fn.results = #[.cell p ty, .tmp u]) (tmps : Array Value) (w : World) (g : Nat) (t : TypeId) (cs : Array Value) (fr : Nat × Nat) (d : TypeDesc)
    (hp : tmps.getD p undef = .pointer (some ⟨g, 0, none⟩)) (hg : w.heap[g]? = some (.cells cs t fr))
    (hu : P.underlying ty = some d) (hd : (match d with | .struct _ | .array _ _ => true | _ => false) = true) (hi : (P.info? ty).map (·.size) = some cs.size) :
    (results fn tmps).run P w = .ok (.tuple #[.agg cs, tmps.getD u undef]) w := by
  have hp' : tmps[p]?.getD undef = .pointer (some ⟨g, 0, none⟩) := by simpa using hp
  simp [results, h, hp', asAddr, run_loadVar_row w g t ty cs fr d hg hu hd hi]
def MadeP (ps : List (List Ev)) (w : World) (e : Ending) (w' : World) : Prop := ∃ v, e = .returned (.agg #[v]) ∧ OwnP w' w.heap.size v ps ∧ Below w.heap.size w w'
set_option maxHeartbeats 8000000 in
theorem rebuilt_any {w : World} {tv : Value} {ps : List (List Ev)} (hr : RdP w tv ps) (hv : Valid ps) :
    Calls Tryz.prog 49 #[.agg #[tv], .func (.func 50) #[] #[]] w (MadeP (expP ps) w) := by
  obtain ⟨A, c, rfl, hc1, hc2⟩ := hr.shape
  obtain ⟨w0, hw0⟩ : ∃ w0, ((w.alloc (.cells #[.slice A ps.length c] 24)).alloc (.cells #[.slice none 0 0] 24)).alloc (.cells #[.slice none 0 0] 24) = w0 := ⟨_, rfl⟩
  have b0 : Below w.heap.size w w0 := by rw [← hw0]; exact (((Below.refl _ w).alloc (Nat.le_refl _) _).alloc (by simp) _).alloc (by simp; omega) _
  have hsz : w0.heap.size = w.heap.size + 3 := by rw [← hw0]; simp
  have X0 := Lib.hid (show Blk w0 w.heap.size 24 [.slice A ps.length c] by rw [← hw0]; exact ((Blk.new w 24 [.slice A ps.length c]).alloc _).alloc _)
  have X4 := Lib.hid (show Blk w0 (w.heap.size + 1) 24 [.slice none 0 0] by rw [← hw0]; exact (blk_at_new 24 [.slice none 0 0] (by simp)).alloc _)
  have X5 := Lib.hid (show Blk w0 (w.heap.size + 1 + 1) 24 [.slice none 0 0] by rw [← hw0]; exact blk_at_new 24 [.slice none 0 0] (by simp))
  have R0 : Hid (∀ W, Below w.heap.size w W → RdP W (.slice A ps.length c) ps) := Lib.hid (fun W h => hr.below h)
  have HR := Lib.hid hr
  have HW0 := Lib.hid hw0
  have B0 := Lib.hid b0
  have HSZ := Lib.hid hsz
  have hOk : Hid (∀ k i, k < ps.length → i < (ps.getD k []).length → OkOp (ev (ps.getD k []) (i : Int))) := Lib.hid (fun k i hk hi => by
    refine hv.o _ (List.mem_flatten.2 ⟨ps.getD k [], getD_mem hk _, ?_⟩)
    rw [ev_at _ hi]; exact List.getElem_mem hi)
  have hLl : Hid (∀ k, k < ps.length → (ps.getD k []).length ≤ 100) := Lib.hid (fun k hk => by
    have h1 := hv.a
    have h2 := hv.f
    have h3 := cnt_all ps.flatten hv.o
    have h4 := sizeP_le ps (show k + 1 ≤ ps.length by omega)
    rw [sizeP_succ ps hk] at h4
    have h6 : sizeP ps ps.length = ps.flatten.length := by unfold sizeP; rw [List.take_length]
    omega)
  have hpl : ps.length ≤ 3 := hv.n
  have k0 := X0.out.cell 0 rfl
  clear hr hw0 b0 hsz hv
  go_enter Tryz.func49, Tryz.ntmps49
  go_upto_region 2 with fail
  rw [HW0.out]
  go_wp2
  clear k0
  go_loopw [15] (fun t wr => ∃ (k : Nat) (vq : Value), k ≤ ps.length ∧ t = .int .i64 k ∧ Blk wr w.heap.size 24 [.slice A ps.length c] ∧ Blk wr (w.heap.size + 1) 24 [.slice none 0 0] ∧ Blk wr (w.heap.size + 1 + 1) 24 [vq] ∧ OwnP wr w0.heap.size vq (expP (ps.take k)) ∧ Below w.heap.size w wr ∧ w0.heap.size ≤ wr.heap.size) (fun t _ => ps.length - (intOf t).toNat)
  case atStart => exact ⟨0, .slice none 0 0, Nat.zero_le _, rfl, X0.out, X4.out, X5.out, OwnP.nil _ _, B0.out, Nat.le_refl _⟩
  case round =>
    obtain ⟨k, vq, hk, rfl, hb0, hb4, hb5, hq, hbel, hszr⟩ := hrel
    by_cases hlt : k < ps.length
    · have hlt' : (k : Int) < (ps.length : Int) := by omega
      have i1 : (0 : Int) ≤ (k : Int) := by omega
      obtain ⟨b, off, A1, c1, rfl, hbb, hc0, hro0, hc3, hc4⟩ := RdP.at_ HR.out rfl hlt
      have hAt : Hid (∀ W, Below w.heap.size w W → W.cell? ⟨b, off + k, none⟩ = some (.slice A1 (ps.getD k []).length c1) ∧ Rd W (.slice A1 (ps.getD k []).length c1) (ps.getD k []).length 5 (ops (ps.getD k []))) := Lib.hid (fun W hW =>
        ⟨(World.cell?_of_block (hW.block b hbb)).trans hc0, Rd.below hro0 hW⟩)
      clear hc0 hro0
      have hOk2 := Lib.hid (fun i => hOk.out k i hlt)
      have hEP : Hid (expP (ps.take (k + 1)) = expP (ps.take k) ++ [expL (ps.getD k [])]) := Lib.hid (by rw [take_snoc hlt, expP_snoc]; simp [List.getD, List.getElem?_eq_getElem hlt])
      have hPL : Hid ((expP (ps.take k)).length = k) := Lib.hid (by rw [expP_len]; simp; omega)
      have hL100 := hLl.out k hlt
      obtain ⟨L, hL⟩ : ∃ L, ps.getD k [] = L := ⟨_, rfl⟩
      rw [hL] at hAt hOk2 hc3 hEP hL100
      obtain ⟨hc0, _⟩ := hAt.out wr hbel
      have HB0 := Lib.hid hb0
      have HB4 := Lib.hid hb4
      have HB5 := Lib.hid hb5
      have HQ := Lib.hid hq
      have HBL := Lib.hid hbel
      obtain ⟨wo, hwo⟩ : ∃ wo, wo = wr := ⟨_, rfl⟩
      subst hwo
      clear hL hbel hb0 hb4 hb5 hq
      go_wp2
      clear hc0
      go_loopw [8, 9, 21] (fun l f j wx => ∃ (i : Nat) (fb : Bool), i ≤ L.length ∧ j = .int .i64 i ∧ f = .bool fb ∧ Row wx wo.heap.size 47 5 l (expL (L.take i)).length (ops (expL (L.take i))) ∧ Below wo.heap.size wo wx) (fun _ _ j _ => L.length - (intOf j).toNat)
      case atStart => exact ⟨0, true, Nat.zero_le _, rfl, rfl, World.ownsRow_nil _ _ 47 5, Below.refl _ _⟩
      case round =>
        obtain ⟨i, fb, hi, rfl, rfl, hrow, hbx⟩ := hrel
        have hbw := HBL.out.trans (hbx.mono HBL.out.size)
        obtain ⟨hc0, hro⟩ := hAt.out _ hbw
        obtain ⟨Al, cl, rfl, hcl1, hcl2⟩ := (Row.rd hrow).shape
        by_cases hlti : i < L.length
        · have hlti' : (i : Int) < (L.length : Int) := by omega
          have i2 : (0 : Int) ≤ (i : Int) := by omega
          obtain ⟨bo, oo, rfl, hbo, x0, x1, x2, x3, x4⟩ := RdO.at_ hro rfl hlti
          have hok := hOk2.out i hlti
          have hEL : Hid (expL (L.take (i + 1)) = expL (L.take i) ++ expOp (ev L (i : Int))) := Lib.hid (by rw [take_snoc hlti, ev_at L hlti, expL_snoc])
          have hpos := expOp_pos (ev L (i : Int))
          have hlen : (expL (L.take i)).length ≤ 300 := by have := expL_len (L.take i); simp at this; omega
          obtain ⟨G, hG⟩ : ∃ G, ev L (i : Int) = G := ⟨_, rfl⟩
          rw [hG] at x0 x1 x2 x3 x4 hok hEL hpos
          obtain ⟨F, hF⟩ : ∃ F, expL (L.take i) = F := ⟨_, rfl⟩
          rw [hF] at hrow hEL hlen hcl1 ⊢
          obtain ⟨XO, hXO⟩ : ∃ XO, expOp G = XO := ⟨_, rfl⟩
          rw [hXO] at hEL hpos
          obtain ⟨wa, hwa⟩ : ∃ wa, wr.alloc (.cells #[.int .i64 G.kind, .int .i64 G.loc, .int .i64 G.v, .int .i64 G.w, .int .i64 G.ord] 47) = wa := ⟨_, rfl⟩
          have ba : Below wr.heap.size wr wa := by rw [← hwa]; exact (Below.refl _ wr).alloc (Nat.le_refl _) _
          have XE := (show Blk wa wr.heap.size 47 [.int .i64 G.kind, .int .i64 G.loc, .int .i64 G.v, .int .i64 G.w, .int .i64 G.ord] by rw [← hwa]; exact Blk.new wr 47 _)
          have hsa : wa.heap.size = wr.heap.size + 1 := by rw [← hwa]; simp
          obtain ⟨e0, e1, e2, e3, e4⟩ : wa.cell? ⟨wr.heap.size, 0, none⟩ = some (.int .i64 G.kind) ∧ wa.cell? ⟨wr.heap.size, 1, none⟩ = some (.int .i64 G.loc) ∧ wa.cell? ⟨wr.heap.size, 2, none⟩ = some (.int .i64 G.v) ∧ wa.cell? ⟨wr.heap.size, 3, none⟩ = some (.int .i64 G.w) ∧ wa.cell? ⟨wr.heap.size, 4, none⟩ = some (.int .i64 G.ord) :=
            ⟨XE.cell 0 rfl, XE.cell 1 rfl, XE.cell 2 rfl, XE.cell 3 rfl, XE.cell 4 rfl⟩
          have hne : (Value.slice Al F.length cl).ownBlock ≠ some wr.heap.size := fun h => by have := (Row.at_lt hrow h).2; omega
          have HXE := Lib.hid XE
          have HRA := Lib.hid (Row.below hrow ba)
          have HBX := Lib.hid (hbx.trans (ba.mono hbx.size))
          have HWA := Lib.hid hwa
          have HEX := Lib.hid (expand1_any (w := wa) (f := fb) hok)
          have HKA := Lib.hid hok.m.hk
          have HXO := Lib.hid hXO
          have HNE := Lib.hid hne
          have hwol : wo.heap.size ≤ wr.heap.size := hbx.size
          rw [hXO] at HEX
          clear hG hro hbx ba XE hwa hok hrow hF hXO hc0 hne hbw
          go_upto_region 10 with fail
          rw [HWA.out]
          go_upto_region 11 with (first
            | (go_at_call 50; refine HEX.out.mono ?_; rintro e5 w5 ⟨u5, rfl, hrow5, hb5⟩; obtain ⟨A5, c5, rfl, hc51, hc52⟩ := (Row.rd hrow5).shape)
            | (at_builtin; refine wpList_apps rfl (.tmp 25) (.tmp 29) rfl Tryz.underlying45 info47 rfl (by decide) (by decide) wo.heap.size _ _ _ _ _ (ops XO) rfl (Row.below HRA.out hb5) rfl (Row.rd hrow5) hpos.1 (ops_one XO) (by have := hb5.size; omega) (by omega) ?_; intro v6 w6 hrow6 hk6 hat6))
          have XE6 : Blk w6 wr.heap.size 47 [.int .i64 G.kind, .int .i64 G.loc, .int .i64 G.v, .int .i64 G.w, .int .i64 G.ord] := (HXE.out.below hb5).keep hk6 (fun h => HNE.out h)
          have hb6 : Below wo.heap.size wo w6 := (HBX.out.trans (hb5.mono HBX.out.size)).trans (hk6.below (by have := hb5.size; omega) (fun g hg => (Row.at_lt HRA.out hg).1))
          have g0 := XE6.cell 0 rfl
          have g1 := XE6.cell 1 rfl
          have g2 := XE6.cell 2 rfl
          have g3 := XE6.cell 3 rfl
          have g4 := XE6.cell 4 rfl
          obtain ⟨A6, c6, rfl, hc61, hc62⟩ := (Row.rd hrow6).shape
          have hrow7 : Row w6 wo.heap.size 47 5 (.slice A6 (F.length + XO.length) c6) (F ++ XO).length (ops (F ++ XO)) := by rw [List.length_append, ops_app]; exact hrow6
          have HR7 := Lib.hid hrow7
          have HB6 := Lib.hid hb6
          clear hrow6 hrow7 hb6 hk6 hat6 hrow5 hb5 XE6 e0 e1 e2 e3 e4 x0 x1 x2 x3 x4
          cases fb with
          | true =>
            go_wp2_with (go_at_call 51; refine (access_any (e := G) HKA.out).mono ?_; rintro e7 w7 ⟨rfl, hb7⟩)
            go_roundw
            case measure => simp [intOf]; all_goals omega
            case rel => exact ⟨i + 1, _, by omega, by go_num, rfl, by { rw [hEL.out]; exact Row.below HR7.out hb7 }, HB6.out.trans (hb7.mono HB6.out.size)⟩
          | false =>
            go_wp2
            go_roundw
            case measure => simp [intOf]; all_goals omega
            case rel => exact ⟨i + 1, _, by omega, by go_num, rfl, by { rw [hEL.out]; exact HR7.out }, HB6.out⟩
        · have hin : i = L.length := by omega
          subst hin
          rw [List.take_length] at hrow hcl1 ⊢
          have hlen : (expL L).length ≤ 300 := by have := expL_len L; omega
          obtain ⟨us, r1, r2, r3⟩ := HQ.out
          obtain ⟨Aq, cq, rfl, hcq1, hcq2⟩ := (Row.rd r1).shape
          obtain ⟨wb, hwb⟩ : ∃ wb, wr.alloc (.cells #[.slice Al (expL L).length cl] 45) = wb := ⟨_, rfl⟩
          have bb : Below wr.heap.size wr wb := by rw [← hwb]; exact (Below.refl _ wr).alloc (Nat.le_refl _) _
          have XB : Blk wb wr.heap.size 45 [.slice Al (expL L).length cl] := by rw [← hwb]; exact Blk.new wr 45 _
          have hob : Below wo.heap.size wo wb := hbx.trans (bb.mono hbx.size)
          have q1 := Row.below r1 hob
          have q3 := fun j u hu => Row.below (r3 j u hu) hob
          have ql := Row.mono (Row.below hrow bb) hszr
          have c5 := (HB5.out.below hbx).cell 0 rfl
          have Y5 := HB5.out.below hob
          have Y0 := HB0.out.below hob
          have Y4 := HB4.out.below hob
          have HWB := Lib.hid hwb
          have H1 := Lib.hid q1
          have H3 := Lib.hid q3
          have HL := Lib.hid ql
          have HU := Lib.hid r2
          have HXB := Lib.hid XB
          have HBW := Lib.hid (HBL.out.trans (hob.mono HBL.out.size))
          have hsb : w0.heap.size ≤ wb.heap.size := Nat.le_trans hszr hob.size
          have hn1 : (expP (ps.take k)).length < 999999 := by rw [hPL.out]; omega
          clear hwb bb XB hob q1 q3 ql r1 r2 r3 hrow hbx hbw hc0 hro
          go_upto_region 14 with (first
            | (at_builtin; rw [HWB.out]; refine wpList_app rfl (.tmp 39) (.tmp 41) rfl Tryz.underlying22 info45 rfl (by decide) (by decide) w0.heap.size _ _ _ wr.heap.size _ rfl H1.out rfl HXB.out rfl (by intro u hu; rw [List.mem_singleton.1 hu]; rfl) hsb (by omega) ?_; intro v6 w6 hrow6 hk6 hat6; have fz5 := (Y5.keep hk6 (fun h => Row.ne_blk H1.out Y5 (by decide) h)).free 0; have cz5 := (Y5.keep hk6 (fun h => Row.ne_blk H1.out Y5 (by decide) h)).cell 0 rfl; obtain ⟨A6, c6, rfl, hc61, hc62⟩ := (Row.rd hrow6).shape))
          have hn0 := fun h => Row.ne_blk H1.out Y0 (by decide) h
          have hn4 := fun h => Row.ne_blk H1.out Y4 (by decide) h
          have hn5 := fun h => Row.ne_blk H1.out Y5 (by decide) h
          have Z0 := Y0.keep hk6 hn0
          have Z4 := Y4.keep hk6 hn4
          have Z5 := Y5.keep hk6 hn5
          have hoq := OwnP.snoc H1.out HU.out H3.out HL.out hrow6 hk6
          rw [← hEP.out] at hoq
          have hb6 : Below w.heap.size w w6 := HBW.out.trans (hk6.below HBW.out.size (fun g hg => by have := (Row.at_lt H1.out hg).1; have := HSZ.out; omega))
          have hs6 : w0.heap.size ≤ w6.heap.size := Nat.le_trans hsb hk6.size
          have HOQ := Lib.hid hoq
          have HB6 := Lib.hid hb6
          have HZ := Lib.hid (And.intro Z0 (And.intro Z4 Z5))
          clear hn0 hn4 hn5 Z0 Z4 Z5 hoq hb6 hrow6 hk6 hat6 Y0 Y4 Y5 fz5 cz5
          go_wp2
          go_roundw
          case measure => simp [intOf]; all_goals omega
          case rel => exact ⟨k + 1, _, by omega, by go_num, HZ.out.1.off (by omega), HZ.out.2.1.off (by omega), HZ.out.2.2.set 0 _, HOQ.out.setBlk HZ.out.2.2 (by decide) (by decide), HB6.out.setCell (p := ⟨w.heap.size + 1 + 1, 0, none⟩) (by show w.heap.size ≤ w.heap.size + 1 + 1; omega) _, by rw [World.size_setCell]; exact hs6⟩
    · have hin : k = ps.length := by omega
      subst hin
      rw [List.take_length] at hq
      have c5 := hb5.cell 0 rfl
      have c4 := hb4.cell 0 rfl
      have f4 := hb4.free 0
      obtain ⟨us, r1, r2, r3⟩ := hq
      have hq : OwnP wr w0.heap.size vq (expP ps) := ⟨us, r1, r2, r3⟩
      obtain ⟨Aq, cq, rfl, hcq1, hcq2⟩ := (Row.rd r1).shape
      have HQ := Lib.hid hq
      have HB4 := Lib.hid hb4
      have HBL := Lib.hid hbel
      clear hq hb4 hbel r1 r2 r3 hb0 hb5
      go_wp2
      have hXX : Blk (wr.setCell ⟨w.heap.size + 1, 0, none⟩ (.slice Aq (expP ps).length cq)) (w.heap.size + 1) 24 [.slice Aq (expP ps).length cq] := HB4.out.set 0 _
      refine bodyPost_ret (results_cell_row rfl _ _ (w.heap.size + 1) 24 _ (0, 0) _ rfl hXX Tryz.underlying24 rfl (by kernel_rfl)) rfl ?_
      exact ⟨_, rfl, (HQ.out.setBlk HB4.out (by decide) (by decide)).mono (by have := HSZ.out; omega), HBL.out.setCell (p := ⟨w.heap.size + 1, 0, none⟩) (by show w.heap.size ≤ w.heap.size + 1; omega) _⟩
theorem expand_any {w : World} {tv : Value} {ps : List (List Ev)} (hr : RdP w tv ps) (hv : Valid ps) :
    Calls Tryz.prog 28 #[.agg #[tv]] w fun e w' => ∃ v, e = .returned (.tuple #[.agg #[v], .int .i64 0]) ∧ OwnP w' w.heap.size v (expP ps) ∧ Below w.heap.size w w' := by
  obtain ⟨A, c, rfl, hc1, hc2⟩ := hr.shape
  obtain ⟨w0, hw0⟩ : ∃ w0, (w.alloc (.cells #[.slice A ps.length c] 24)).alloc (.cells #[.slice none 0 0] 24) = w0 := ⟨_, rfl⟩
  have b0 : Below w.heap.size w w0 := by rw [← hw0]; exact ((Below.refl _ w).alloc (Nat.le_refl _) _).alloc (by simp) _
  have hsz : w0.heap.size = w.heap.size + 2 := by rw [← hw0]; simp
  have X0 := (show Blk w0 w.heap.size 24 [.slice A ps.length c] by rw [← hw0]; exact (Blk.new w 24 [.slice A ps.length c]).alloc _)
  have X2 := (show Blk w0 (w.heap.size + 1) 24 [.slice none 0 0] by rw [← hw0]; exact blk_at_new 24 [.slice none 0 0] (by simp))
  have k0 := X0.cell 0 rfl
  have HC := Lib.hid (check_any (hr.below b0) hv)
  have HRB := Lib.hid (fun W (h : Below w0.heap.size w0 W) => rebuilt_any ((hr.below b0).below h) hv)
  have HX0 := Lib.hid X0
  have HX2 := Lib.hid X2
  have HW0 := Lib.hid hw0
  have B0 := Lib.hid b0
  have HSZ := Lib.hid hsz
  clear hr hv hw0 b0 hsz X0 X2
  go_enter Tryz.func28, Tryz.ntmps28
  go_upto_region 1 with fail
  rw [HW0.out]
  go_wp2_with (first | (go_at_call 48; refine HC.out.mono ?_; rintro e1 w1 ⟨rfl, hb1⟩; have k1 := (HX0.out.below hb1).cell 0 rfl) | (go_at_call 49; refine (HRB.out w1 hb1).mono ?_; rintro e2 w2 ⟨v2, rfl, ho2, hb2⟩; have c2 := ((HX2.out.below hb1).below hb2).cell 0 rfl; have f2 := ((HX2.out.below hb1).below hb2).free 0; have hv2 : ∃ A2 c2, v2 = .slice A2 (expP ps).length c2 := (by obtain ⟨us, r1, _⟩ := ho2; obtain ⟨A2, c2, h, _⟩ := (Row.rd r1).shape; exact ⟨A2, c2, h⟩); obtain ⟨A2, cc2, rfl⟩ := hv2))
  have Y2 := (HX2.out.below hb1).below hb2
  have hXX : Blk (w2.setCell ⟨w.heap.size + 1, 0, none⟩ (.slice A2 (expP ps).length cc2)) (w.heap.size + 1) 24 [.slice A2 (expP ps).length cc2] := Y2.set 0 _
  refine bodyPost_ret_by (results_cell_tmp_row rfl _ _ (w.heap.size + 1) 24 _ (0, 0) _ rfl hXX Tryz.underlying24 rfl (by kernel_rfl)) rfl ?_
  have h12 : w.heap.size ≤ w1.heap.size := Nat.le_trans B0.out.size hb1.size
  exact ⟨_, rfl, (ho2.setBlk Y2 (by decide) (by decide)).mono h12, (B0.out.trans ((hb1.trans (hb2.mono hb1.size)).mono B0.out.size)).setCell (p := ⟨w.heap.size + 1, 0, none⟩) (by show w.heap.size ≤ w.heap.size + 1; omega) _⟩
end Go.Proofs.YtkddckfgdiemkaaGreat
