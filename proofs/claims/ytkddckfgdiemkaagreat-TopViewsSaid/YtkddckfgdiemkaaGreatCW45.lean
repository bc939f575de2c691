/-
  The walk of reads.
-/
import Derived.Test.YtkddckfgdiemkaaGreatCW44
import Derived.Test.YtkddckfgdiemkaaGreatCW42
import Derived.Test.YtkddckfgdiemkaaGreatCIns
import Derived.Test.YtkddckfgdiemkaaGreatCP16
set_option linter.unusedVariables false
set_option linter.unusedSimpArgs false
namespace Go.Proofs.YtkddckfgdiemkaaGreat
open Go.RowKit Go.Shelf Mem
set_option maxRecDepth 100000
attribute [local go_sem] Oper.semAt_some

def thRead (x : Thr) (l : List Int) : Thr := { x with read := l }
def thNow (x : Thr) (v : V3) : Thr := { x with now := v }
def thGained (x : Thr) (v : V3) : Thr := { x with gained := v }
def thGiven (x : Thr) (v : V3) : Thr := { x with given := v }
theorem setTh_self (m : VM) (t : Nat) : setTh m t (m.th t) = m := by unfold setTh VM.th; rw [set_getD_self]
def AtV (w0 : World) (B g : Nat) (q : List (List Ev)) (m1 : VM) (z : MV) (wx : World) : Prop := ∃ z', IsV wx B g q m1 z' ∧ Did w0 wx g z z' ∧ z'.tv = z.tv
theorem AtV.box {w0 wx : World} {B g k t : Nat} {q : List (List Ev)} {m m1 : VM} {z : MV} {cs : List Value} (h : AtV w0 B g q m1 z wx) (h0 : IsV w0 B g q m z) (hb : Blk w0 k t cs) (h1 : t ≠ 62 ∧ t ≠ 78 ∧ t ≠ 80 ∧ t ≠ 3) : Blk wx k t cs := by
  obtain ⟨z', _, d, _⟩ := h
  exact hb.keep d.kept (h0.foot_ne hb h1)
theorem Kept.undrew {w w' : World} {S : Nat → Prop} (h : Kept w.drew w' S) : Kept w w' S := ⟨h.os, h.tape, h.output, h.size, h.block⟩
theorem Kept.at_ {w w' : World} {S : Nat → Prop} (k : Kept w w' S) {b : Nat} (hb : b < w.heap.size) (hs : ¬ S b) (j : Nat) : w'.cell? ⟨b, j, none⟩ = w.cell? ⟨b, j, none⟩ ∧ w'.frozen? ⟨b, j, none⟩ = w.frozen? ⟨b, j, none⟩ :=
  ⟨World.cell?_of_block (w := w) (k.block b hb hs), by unfold World.frozen?; rw [show w'.heap[(⟨b, j, none⟩ : Addr).block]? = w.heap[(⟨b, j, none⟩ : Addr).block]? from k.block b hb hs]⟩
theorem reads_plain {m m1 m2 m3 : VM} {t n L : Nat} {K V W R T wd : Int} {RL : List Int} {sv nv n3v gv : V3} {AC : Bool} (ht : t < m.thr.length) (hrl : (m.th t).read = RL) (hwd : (m.msg n).word = wd) (hsv : (m.msg n).view = sv) (h1 : setTh m t (thRead (m.th t) (RL ++ [wd])) = m1) (h2 : setTh m1 t (thNow (m1.th t) ((m1.th t).now.put L (n : Int))) = m2)
    (hnv : (m2.th t).now = nv) (hac : oAcq R = AC) (h3 : setTh m2 t (thNow (m2.th t) (cond AC (joinV m.line nv sv) nv)) = m3) (hn3 : (m3.th t).now = n3v) (hg : (m3.th t).gained = gv) :
    setTh m3 t { m3.th t with gained := joinV m.line (joinV m.line gv sv) n3v } = readsF m t n ⟨K, (L : Int), V, W, R, T⟩ := by
  have e1 : m1.th t = thRead (m.th t) (RL ++ [wd]) := by rw [← h1, setTh_same ht]
  have l1 : t < m1.thr.length := by rw [← h1, setTh_len]; exact ht
  have e2 : m2.th t = thNow (m1.th t) ((m1.th t).now.put L (n : Int)) := by rw [← h2, setTh_same l1]
  have l2 : t < m2.thr.length := by rw [← h2, setTh_len]; exact l1
  have e3 : m3.th t = thNow (m2.th t) (cond AC (joinV m.line nv sv) nv) := by rw [← h3, setTh_same l2]
  rw [← h3, setTh_twice, ← h2, setTh_twice, ← h1, setTh_twice, h1, h2, h3]
  unfold readsF
  congr 1
  subst hg hn3 hsv hwd hrl hnv hac
  rw [e3, e2, e1]
  cases h : oAcq R <;> simp [readT, thNow, thRead, h]
set_option maxHeartbeats 4000000 in
theorem vreads_any {w : World} {B g : Nat} {q : List (List Ev)} {m : VM} {z : MV} (h : IsV w B g q m z) {t L n : Nat} {K V W R T : Int} (ht : t < m.thr.length) (hL : L < 3) (hn : n < m.msgs.length) (hrl : (m.th t).read.length ≤ 1000) (hR : 0 ≤ R ∧ R < 5) (hB : B ≤ w.heap.size) :
    Calls Tryz.prog 58 #[.pointer (some ⟨g, 0, none⟩), .int .i64 (t : Int), .int .i64 (n : Int), .agg #[.int .i64 K, .int .i64 (L : Int), .int .i64 V, .int .i64 W, .int .i64 R]] w (DidV w B g q (readsF m t n ⟨K, (L : Int), V, W, R, T⟩) z) := by
  obtain ⟨w0, hw0⟩ : ∃ w0, w.alloc (.cells #[.int .i64 K, .int .i64 (L : Int), .int .i64 V, .int .i64 W, .int .i64 R] 47) = w0 := ⟨_, rfl⟩
  have b0 : Below w.heap.size w w0 := by rw [← hw0]; exact (Below.refl _ w).alloc (Nat.le_refl _) _
  have X := show Blk w0 w.heap.size 47 [.int .i64 K, .int .i64 (L : Int), .int .i64 V, .int .i64 W, .int .i64 R] by rw [← hw0]; exact Blk.new w 47 _
  have hsz : w.heap.size ≤ w0.heap.size := b0.size
  have h1 := h.below b0
  obtain ⟨bt, ct, hzt, hct1, hct2, _, hbt, hft, hbg, hcs⟩ := h1.tv_at ht
  obtain ⟨bm, cm, hzm, hcm1, hcm2, _, hbm, _, hmg, hms⟩ := h1.mv_at hn
  have c5 : w0.cell? ⟨g, 5, none⟩ = some (.slice (some ⟨bt, 0, none⟩) m.thr.length ct) := by rw [h1.cells.2.2.1, hzt]
  have c1 : w0.cell? ⟨g, 1, none⟩ = some (.slice (some ⟨bm, 0, none⟩) m.msgs.length cm) := by rw [h1.cells.2.1, hzm]
  have r9 : w0.cell? ⟨bt, t * 11 + 9, none⟩ = some (z.rs.getD t default) := hcs 9 (by decide)
  have f9 := hft (t * 11 + 9)
  have w5 : w0.cell? ⟨bm, n * 5, none⟩ = some (.int .i64 (m.msg n).word) := hms 0 (by decide)
  have hrd := h1.rd t ht
  obtain ⟨Ar, cr, hrv, hcr1, hcr2⟩ := (Row.rd hrd).shape
  have hzr := hrv
  rw [hrv] at r9 hrd
  obtain ⟨N, hN⟩ : ∃ N, m.thr.length = N := ⟨_, rfl⟩
  obtain ⟨M, hM⟩ : ∃ M, m.msgs.length = M := ⟨_, rfl⟩
  obtain ⟨wd, hwd⟩ : ∃ wd, (m.msg n).word = wd := ⟨_, rfl⟩
  rw [hN] at c5 ht
  rw [hM] at c1 hn
  rw [hwd] at w5
  obtain ⟨RL, hRL⟩ : ∃ RL, (m.th t).read = RL := ⟨_, rfl⟩
  rw [hRL] at hrd r9 hcr1 hrl hzr
  have t0 : (0 : Int) ≤ (t : Int) := by omega
  have t3 : (t : Int) < (N : Int) := by omega
  have n0 : (0 : Int) ≤ (n : Int) := by omega
  have n3 : (n : Int) < (M : Int) := by omega
  have HX := Lib.hid X
  have H1 := Lib.hid h1
  have HN := Lib.hid hN
  have HM := Lib.hid hM
  have HWD := Lib.hid hwd
  have HRL := Lib.hid hRL
  have HZR := Lib.hid hzr
  have HZT := Lib.hid hzt
  have HRD := Lib.hid hrd
  have HW0 := Lib.hid hw0
  have B0 := Lib.hid b0
  have hB0 : B ≤ w0.heap.size := by omega
  have HF6 : Hid (∀ W6, Kept (w0.alloc (.cells #[.int .i64 wd] 3)) W6 (fun j => (Value.slice Ar RL.length cr).ownBlock = some j) → W6.cell? ⟨bt, t * 11 + 9, none⟩ = some (.slice Ar RL.length cr) ∧ W6.frozen? ⟨bt, t * 11 + 9, none⟩ = false) := Lib.hid (fun W6 hk => by
    have hns : ¬ (Value.slice Ar RL.length cr).ownBlock = some bt := fun e => Row.ne_row h1.th hrd (by decide) (by rw [hzt]; rfl) e
    have k2 := ((Kept.refl w0 (fun j => (Value.slice Ar RL.length cr).ownBlock = some j)).alloc (.cells #[.int .i64 wd] 3)).trans hk (fun _ _ h => h)
    obtain ⟨a1, a2⟩ := Kept.at_ k2 hbt hns (t * 11 + 9)
    exact ⟨a1.trans r9, a2.trans f9⟩)
  clear h h1 hcs hms X hw0 b0 hzr hzt hzm hrd hN hM hwd hRL hrv hft hct1 hcm1
  go_enter Tryz.func58, Tryz.ntmps58
  go_upto_region 1 with fail
  rw [HW0.out]
  go_upto_region 2 with fail
  go_cut [] from 18 to 34 (fun wx => AtV w0 B g q (setTh m t (thRead (m.th t) (RL ++ [wd]))) z wx)
  case first =>
    go_region_law (first
      | (refine step_app rfl (.tmp 22) (.tmp 31) rfl Tryz.underlying28 info3 rfl (by decide) (by decide) B _ _ _ w0.heap.size [.int .i64 wd] (by simp [Act.eval, Act.put]) (World.ownsRow.alloc HRD.out _) (by simp [Act.eval, Act.put]) (Blk.new w0 3 _) rfl (by intro u hu; rw [List.mem_singleton.1 hu]; rfl) (by simp; omega) (by omega) ?_; intro v6 w6 hrow6 hk6 hat6; have hk7 : Kept (w0.alloc (.cells #[.int .i64 wd] 3)) w6 (fun j => (Value.slice Ar RL.length cr).ownBlock = some j) := (by first | exact hk6 | exact Kept.undrew hk6); obtain ⟨cc6, ff6⟩ := HF6.out w6 hk7; obtain ⟨A6, c6, rfl, hc61, hc62⟩ := (Row.rd hrow6).shape))
    all_goals
      have hst := H1.out.readOn (w' := w6) (b := bt) (c := ct) (p := t * 11 + 9) (u := .slice A6 (RL.length + 1) c6) (x := RL ++ [wd]) (by rw [HN.out]; exact ht) HZT.out rfl (by rw [HZR.out]; exact ((Kept.refl w0 _).alloc _).trans hk7 (fun _ _ h => h)) (by simpa [Own, ints] using hrow6) (fun k hk => by rw [HZR.out]; rcases hat6 k hk with h | h; exact .inl h; exact .inr (by simp at h; omega))
      have HST := Lib.hid hst
      clear hst hrow6 hk6 hat6 hk7 cc6 ff6
      go_wp2_with fail
      go_meet
      exact ⟨_, HST.out.1, HST.out.2, rfl⟩
  case rest =>
    have X1 := hcut.box H1.out HX.out (by decide)
    obtain ⟨z1, i1, d1, tv1⟩ := hcut
    obtain ⟨m1, hm1⟩ : ∃ m1, setTh m t (thRead (m.th t) (RL ++ [wd])) = m1 := ⟨_, rfl⟩
    rw [hm1] at i1
    have hmsg : m1.msgs = m.msgs := by rw [← hm1]; rfl
    have hlen1 : m1.thr.length = m.thr.length := by rw [← hm1]; simp [setTh]
    obtain ⟨bm1, cm1, hzm1, hcm11, hcm12, _, hbm1, _, hmg1, hms1⟩ := i1.mv_at (k := n) (by rw [hmsg, HM.out]; exact hn)
    have q1 : wc.cell? ⟨g, 1, none⟩ = some (.slice (some ⟨bm1, 0, none⟩) M cm1) := by rw [i1.cells.2.1, hzm1, hmsg, HM.out]
    have hmsg2 : m1.msg n = m.msg n := by unfold VM.msg; rw [hmsg]
    obtain ⟨sv, hsv⟩ : ∃ sv, (m.msg n).view = sv := ⟨_, rfl⟩
    rw [hmsg2] at hms1
    have s1 : wc.cell? ⟨bm1, n * 5 + 1, none⟩ = some (.int .i64 sv.a) := by rw [hms1 1 (by decide), ← hsv]; rfl
    have s2 : wc.cell? ⟨bm1, n * 5 + 2, none⟩ = some (.int .i64 sv.b) := by rw [hms1 2 (by decide), ← hsv]; rfl
    have s3 : wc.cell? ⟨bm1, n * 5 + 3, none⟩ = some (.int .i64 sv.c) := by rw [hms1 3 (by decide), ← hsv]; rfl
    have I1 := Lib.hid i1
    have D1 := Lib.hid d1
    have HM1 := Lib.hid hm1
    have HL1 := Lib.hid (hlen1.trans HN.out)
    have HSV := Lib.hid hsv
    have HX1 := Lib.hid X1
    clear i1 d1 hm1 hmsg hlen1 hzm1 hcm11 hmsg2 hms1 hsv X1 c5 c1 r9 f9 w5 hrl hcr1 HF6
    have HTV1 := Lib.hid (show z1.tv = .slice (some ⟨bt, 0, none⟩) N ct by rw [tv1, HZT.out, HN.out])
    clear tv1
    go_upto_region 4 with fail
    obtain ⟨wS, hwS⟩ : ∃ wS, wc.alloc (.cells #[.int .i64 sv.a, .int .i64 sv.b, .int .i64 sv.c] 60) = wS := ⟨_, rfl⟩
    rw [hwS]
    have bS : Below wc.heap.size wc wS := by rw [← hwS]; exact (Below.refl _ wc).alloc (Nat.le_refl _) _
    have XS : Blk wS wc.heap.size 60 [.int .i64 sv.a, .int .i64 sv.b, .int .i64 sv.c] := by rw [← hwS]; exact Blk.new wc 60 _
    have IS := I1.out.below bS
    have XO := HX1.out.below bS
    have x1 := XO.cell 1 rfl
    obtain ⟨b', c', e1, _, _, _, hbt2, hft2, hbg2, hcs2⟩ := IS.tv_at (t := t) (by rw [HL1.out]; exact ht)
    have eb : b' = bt := by rw [HTV1.out] at e1; injection e1 with e1; injection e1 with e1; injection e1 with e1; exact e1.symm
    rw [eb] at hcs2 hft2
    have y0 : wS.cell? ⟨bt, t * 11 + L, none⟩ = some (.int .i64 ((m1.th t).now.at_ L)) := by
      rw [hcs2 L (by omega)]
      rcases (by omega : L = 0 ∨ L = 1 ∨ L = 2) with rfl | rfl | rfl <;> rfl
    have g0 := hft2 (t * 11 + L)
    have l0 : (0 : Int) ≤ (L : Int) := by omega
    have l3 : (L : Int) < 3 := by omega
    obtain ⟨SN, hSN⟩ : ∃ SN, wc.heap.size = SN := ⟨_, rfl⟩
    rw [hSN] at XS ⊢
    have HXS := Lib.hid XS
    have HXO := Lib.hid XO
    have HIS := Lib.hid IS
    have BS := Lib.hid bS
    have HWS := Lib.hid hwS
    clear hSN hwS bS XS IS XO e1 hbt2 hft2 hbg2 hcs2 eb q1 s1 s2 s3
    go_region
    obtain ⟨i2, d2⟩ := HIS.out.setNow1 (t := t) (b := bt) (c := ct) (p := t * 11 + L) (by rw [HL1.out]; exact ht) (by rw [HL1.out]; exact HTV1.out) hL rfl (n : Int)
    replace i2 := i2.below ((Below.refl _ _).drew)
    replace d2 := d2.trans (Did.below g z1 ((Below.refl _ _).drew))
    obtain ⟨w2, hw2⟩ : ∃ w2, (wS.setCell ⟨bt, t * 11 + L, none⟩ (.int .i64 (n : Int))).drew = w2 := ⟨_, rfl⟩
    rw [hw2] at i2 d2 ⊢
    obtain ⟨m2, hm2⟩ : ∃ m2, setTh m1 t (thNow (m1.th t) ((m1.th t).now.put L (n : Int))) = m2 := ⟨_, rfl⟩
    have i3 : IsV w2 B g q m2 z1 := by rw [← hm2]; exact i2
    have XS2 := HXS.out.keep d2.kept (HIS.out.foot_ne HXS.out (by decide))
    have XO2 := HXO.out.keep d2.kept (HIS.out.foot_ne HXO.out (by decide))
    have hl2 : m2.thr.length = N := by rw [← hm2, setTh_len]; exact HL1.out
    have hln2 : m2.line = m.line := by rw [← hm2, ← HM1.out]; rfl
    obtain ⟨b', c', e1, _, _, _, hbt2, hft2, hbg2, hcs2⟩ := i3.tv_at (t := t) (by rw [hl2]; exact ht)
    have eb : b' = bt := by rw [HTV1.out] at e1; injection e1 with e1; injection e1 with e1; injection e1 with e1; exact e1.symm
    rw [eb] at hcs2 hft2 hbt2
    obtain ⟨nv, hnv⟩ : ∃ nv, (m2.th t).now = nv := ⟨_, rfl⟩
    have y0 : w2.cell? ⟨bt, t * 11, none⟩ = some (.int .i64 nv.a) := by rw [← hnv]; exact hcs2 0 (by decide)
    have y1 : w2.cell? ⟨bt, t * 11 + 1, none⟩ = some (.int .i64 nv.b) := by rw [← hnv]; exact hcs2 1 (by decide)
    have y2 : w2.cell? ⟨bt, t * 11 + 2, none⟩ = some (.int .i64 nv.c) := by rw [← hnv]; exact hcs2 2 (by decide)
    have z0 := XS2.cell 0 rfl
    have z1' := XS2.cell 1 rfl
    have z2 := XS2.cell 2 rfl
    have o4 := XO2.cell 4 rfl
    have HJ : Hid (∀ W', Below w2.heap.size w2 W' → ∀ u v, Calls Tryz.prog 89 #[.pointer (some ⟨g, 0, none⟩), v3V u, v3V v] W' (fun e w' => e = .returned (v3V (joinV m.line u v)) ∧ Below W'.heap.size W' w')) := Lib.hid (fun W' hW u v => by have := join_any (i3.below hW) (u := u) (v := v); rw [hln2] at this; exact this)
    have HFB : Hid (∀ W', Below w2.heap.size w2 W' → (W'.cell? ⟨bt, t * 11, none⟩ = some (.int .i64 nv.a) ∧ W'.cell? ⟨bt, t * 11 + 1, none⟩ = some (.int .i64 nv.b) ∧ W'.cell? ⟨bt, t * 11 + 2, none⟩ = some (.int .i64 nv.c)) ∧ W'.frozen? ⟨bt, t * 11, none⟩ = false ∧ W'.frozen? ⟨bt, t * 11 + 1, none⟩ = false ∧ W'.frozen? ⟨bt, t * 11 + 2, none⟩ = false) := Lib.hid (fun W' hW => ⟨⟨(hW.cell (p := ⟨bt, _, none⟩) hbt2).trans y0, (hW.cell (p := ⟨bt, _, none⟩) hbt2).trans y1, (hW.cell (p := ⟨bt, _, none⟩) hbt2).trans y2⟩, (hW.frozen (p := ⟨bt, _, none⟩) hbt2).trans (hft2 _), (hW.frozen (p := ⟨bt, _, none⟩) hbt2).trans (hft2 _), (hW.frozen (p := ⟨bt, _, none⟩) hbt2).trans (hft2 _)⟩)
    have HI3 := Lib.hid i3
    have HD2 := Lib.hid d2
    have HW2 := Lib.hid hw2
    have HM2 := Lib.hid hm2
    have HL2 := Lib.hid hl2
    have HLN2 := Lib.hid hln2
    have HNV := Lib.hid hnv
    have HXS2 := Lib.hid XS2
    obtain ⟨AC, hAC⟩ : ∃ AC, oAcq R = AC := ⟨_, rfl⟩
    have HAC := Lib.hid hAC
    clear i2 i3 d2 hw2 hm2 hl2 hln2 hnv XS2 XO2 e1 hft2 hbg2 hcs2 eb g0 hAC x1
    go_upto_if 56 with (go_at_call 88; refine (order_acquires_any hR.1 hR.2).mono ?_; rintro e5 w5 ⟨rfl, rfl⟩; rw [HAC.out])
    go_cut [] from 57 to 66 (fun wx => AtV w2 B g q (setTh m2 t (thNow (m2.th t) (cond AC (joinV m.line nv sv) nv))) z1 wx)
    case first =>
      cases AC with
      | false =>
        go_wp2_with fail
        go_meet
        exact ⟨z1, by rw [← HNV.out]; exact (setTh_self m2 t).symm ▸ HI3.out, Did.refl _ _ _, rfl⟩
      | true =>
        go_upto_region 7 with fail
        go_region_with (go_at_call 89; (with_reducible refine (HJ.out _ ((Below.refl _ w2).drew) nv sv).mono ?_); rintro e5 w5 ⟨rfl, hb5⟩; have hb6 : Below w2.heap.size w2 w5 := (Below.refl _ w2).drew.trans hb5; obtain ⟨⟨_, _, _⟩, ff0, ff1, ff2⟩ := HFB.out w5 hb6)
        all_goals
          have i5 := HI3.out.below hb6
          have hst := i5.setNow (t := t) (b := bt) (c := ct) (p := t * 11) (by rw [HL2.out]; exact ht) (by rw [HL2.out]; exact HTV1.out) rfl (joinV m.line nv sv)
          have HST := Lib.hid hst
          have HB6 := Lib.hid hb6
          clear hst i5 hb5 hb6
          go_wp2_with fail
          go_meet
          exact ⟨z1, HST.out.1, (Did.below g z1 HB6.out).trans HST.out.2, rfl⟩
    case rest =>
      have XS3 := hcut.box HI3.out HXS2.out (by decide)
      obtain ⟨z2, i3, d3, tv3⟩ := hcut
      obtain ⟨m3, hm3⟩ : ∃ m3, setTh m2 t (thNow (m2.th t) (cond AC (joinV m.line nv sv) nv)) = m3 := ⟨_, rfl⟩
      rw [hm3] at i3
      have hl3 : m3.thr.length = N := by rw [← hm3, setTh_len]; exact HL2.out
      have hln3 : m3.line = m.line := by rw [← hm3, ← HLN2.out]; rfl
      have htv3 : z2.tv = .slice (some ⟨bt, 0, none⟩) N ct := by rw [tv3, HTV1.out]
      obtain ⟨b', c', e1, _, _, _, hbt3, hft3, _, hcs3⟩ := i3.tv_at (t := t) (by rw [hl3]; exact ht)
      have eb : b' = bt := by rw [htv3] at e1; injection e1 with e1; injection e1 with e1; injection e1 with e1; exact e1.symm
      rw [eb] at hcs3 hft3 hbt3
      obtain ⟨n3v, hn3v⟩ : ∃ n3v, (m3.th t).now = n3v := ⟨_, rfl⟩
      obtain ⟨gv, hgv⟩ : ∃ gv, (m3.th t).gained = gv := ⟨_, rfl⟩
      have y0 : wc.cell? ⟨bt, t * 11, none⟩ = some (.int .i64 n3v.a) := by rw [← hn3v]; exact hcs3 0 (by decide)
      have y1 : wc.cell? ⟨bt, t * 11 + 1, none⟩ = some (.int .i64 n3v.b) := by rw [← hn3v]; exact hcs3 1 (by decide)
      have y2 : wc.cell? ⟨bt, t * 11 + 2, none⟩ = some (.int .i64 n3v.c) := by rw [← hn3v]; exact hcs3 2 (by decide)
      have y3 : wc.cell? ⟨bt, t * 11 + 3, none⟩ = some (.int .i64 gv.a) := by rw [← hgv]; exact hcs3 3 (by decide)
      have y4 : wc.cell? ⟨bt, t * 11 + 4, none⟩ = some (.int .i64 gv.b) := by rw [← hgv]; exact hcs3 4 (by decide)
      have y5 : wc.cell? ⟨bt, t * 11 + 5, none⟩ = some (.int .i64 gv.c) := by rw [← hgv]; exact hcs3 5 (by decide)
      have z0 := XS3.cell 0 rfl
      have z1' := XS3.cell 1 rfl
      have z2' := XS3.cell 2 rfl
      have HJ : Hid (∀ W', Below wc.heap.size wc W' → ∀ u v, Calls Tryz.prog 89 #[.pointer (some ⟨g, 0, none⟩), v3V u, v3V v] W' (fun e w' => e = .returned (v3V (joinV m.line u v)) ∧ Below W'.heap.size W' w')) := Lib.hid (fun W' hW u v => by have := join_any (i3.below hW) (u := u) (v := v); rw [hln3] at this; exact this)
      have HFB : Hid (∀ W', Below wc.heap.size wc W' → (W'.cell? ⟨bt, t * 11, none⟩ = some (.int .i64 n3v.a) ∧ W'.cell? ⟨bt, t * 11 + 1, none⟩ = some (.int .i64 n3v.b) ∧ W'.cell? ⟨bt, t * 11 + 2, none⟩ = some (.int .i64 n3v.c)) ∧ (W'.cell? ⟨bt, t * 11 + 3, none⟩ = some (.int .i64 gv.a) ∧ W'.cell? ⟨bt, t * 11 + 4, none⟩ = some (.int .i64 gv.b) ∧ W'.cell? ⟨bt, t * 11 + 5, none⟩ = some (.int .i64 gv.c)) ∧ W'.frozen? ⟨bt, t * 11 + 3, none⟩ = false ∧ W'.frozen? ⟨bt, t * 11 + 4, none⟩ = false ∧ W'.frozen? ⟨bt, t * 11 + 5, none⟩ = false) := Lib.hid (fun W' hW => ⟨⟨(hW.cell (p := ⟨bt, _, none⟩) hbt3).trans y0, (hW.cell (p := ⟨bt, _, none⟩) hbt3).trans y1, (hW.cell (p := ⟨bt, _, none⟩) hbt3).trans y2⟩, ⟨(hW.cell (p := ⟨bt, _, none⟩) hbt3).trans y3, (hW.cell (p := ⟨bt, _, none⟩) hbt3).trans y4, (hW.cell (p := ⟨bt, _, none⟩) hbt3).trans y5⟩, (hW.frozen (p := ⟨bt, _, none⟩) hbt3).trans (hft3 _), (hW.frozen (p := ⟨bt, _, none⟩) hbt3).trans (hft3 _), (hW.frozen (p := ⟨bt, _, none⟩) hbt3).trans (hft3 _)⟩)
      have HI4 := Lib.hid i3
      have HD3 := Lib.hid d3
      have HM3 := Lib.hid hm3
      have HL3 := Lib.hid hl3
      have HN3 := Lib.hid hn3v
      have HG3 := Lib.hid hgv
      have HTV3 := Lib.hid htv3
      clear i3 d3 hm3 hl3 hln3 hn3v hgv htv3 XS3 e1 eb hft3 hcs3 tv3 o4
      go_upto_region 8 with fail
      go_region_with (first
        | (go_at_call 89; (with_reducible refine (HJ.out _ ((Below.refl _ wc).drew) gv sv).mono ?_); rintro e5 w5 ⟨rfl, hb5⟩; have hb6 : Below wc.heap.size wc w5 := (Below.refl _ wc).drew.trans hb5; obtain ⟨⟨_, _, _⟩, _, _⟩ := HFB.out w5 hb6)
        | (go_at_call 89; (with_reducible refine (HJ.out _ hb6 (joinV m.line gv sv) n3v).mono ?_); rintro e7 w7 ⟨rfl, hb7⟩; have hb8 : Below wc.heap.size wc w7 := hb6.trans (hb7.mono hb6.size); obtain ⟨⟨_, _, _⟩, ⟨_, _, _⟩, ff0, ff1, ff2⟩ := HFB.out w7 hb8))
      all_goals
        have i5 := HI4.out.below hb8
        have hst := i5.setGained (t := t) (b := bt) (c := ct) (p := t * 11 + 3) (by rw [HL3.out]; exact ht) (by rw [HL3.out]; exact HTV3.out) rfl (joinV m.line (joinV m.line gv sv) n3v)
        have HST := Lib.hid hst
        have HB8 := Lib.hid hb8
        clear hst i5 hb5 hb6 hb7 hb8
        go_returns
        refine ⟨rfl, z2, ?_, ((((((Did.below g z B0.out).trans D1.out).trans (Did.below g z1 BS.out)).trans HD2.out).trans HD3.out).trans (Did.below g z2 HB8.out)).trans HST.out.2⟩
        rw [← reads_plain (K := K) (L := L) (V := V) (W := W) (R := R) (T := T) (show t < m.thr.length by rw [HN.out]; exact ht) HRL.out HWD.out HSV.out HM1.out HM2.out HNV.out HAC.out HM3.out HN3.out HG3.out]
        exact HST.out.1
end Go.Proofs.YtkddckfgdiemkaaGreat
