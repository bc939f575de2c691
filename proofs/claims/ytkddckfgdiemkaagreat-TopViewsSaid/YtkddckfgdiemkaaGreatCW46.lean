/-
  The walk of fenced (written by gen_w46.py).
-/
import Derived.Test.YtkddckfgdiemkaaGreatCW45
set_option linter.unusedVariables false
set_option linter.unusedSimpArgs false
namespace Go.Proofs.YtkddckfgdiemkaaGreat
open Go.RowKit Go.Shelf Mem
set_option maxRecDepth 100000
attribute [local go_sem] Oper.semAt_some

def fenA (m : VM) (t : Nat) (b : Bool) : VM := setTh m t (thNow (m.th t) (cond b (joinV m.line (m.th t).now (m.th t).gained) (m.th t).now))
def fenB (m : VM) (t : Nat) : VM := setTh m t (thNow (m.th t) (joinV m.line (m.th t).now m.all))
def fenAll (m : VM) (t : Nat) : VM := { m with all := (m.th t).now }
def fenC (m : VM) (t : Nat) : VM := setTh m t (thGained (m.th t) (joinV m.line (m.th t).gained (m.th t).now))
def fenS (m : VM) (t : Nat) (b : Bool) : VM := cond b (fenC (fenAll (fenB m t) t) t) m
def fenD (m : VM) (t : Nat) (b : Bool) : VM := cond b (setTh m t (thGiven (m.th t) (m.th t).now)) m
theorem fenced_plain {m : VM} {t : Nat} {K L V W R T : Int} (ht : t < m.thr.length) : fenD (fenS (fenA m t (oAcq R)) t (R == 4)) t (oRel R) = fencedF m t ⟨K, L, V, W, R, T⟩ := by
  have e1 : ∀ b, (fenA m t b).th t = thNow (m.th t) (cond b (joinV m.line (m.th t).now (m.th t).gained) (m.th t).now) := fun b => by unfold fenA; exact setTh_same ht _
  obtain ⟨th, hth⟩ : ∃ th, m.th t = th := ⟨_, rfl⟩
  by_cases hR : R = 4
  · subst hR
    have l : ∀ x : Thr, (setTh m t x).th t = x := fun x => setTh_same ht x
    have la : ∀ (x : Thr) (v : V3), ({ setTh m t x with all := v } : VM).th t = x := fun x v => setTh_same ht x
    have lb : ∀ (x y : Thr) (v : V3), setTh ({ setTh m t x with all := v } : VM) t y = { setTh m t y with all := v } := fun x y v => by simp [setTh, List.set_set]
    have e2 : fenA m t true = setTh m t (thNow th (joinV m.line th.now th.gained)) := by unfold fenA; rw [hth]; rfl
    have e3 : fenB (setTh m t (thNow th (joinV m.line th.now th.gained))) t = setTh m t (thNow th (joinV m.line (joinV m.line th.now th.gained) m.all)) := by unfold fenB; rw [l, setTh_twice]; rfl
    obtain ⟨n2, hn2⟩ : ∃ n2, joinV m.line (joinV m.line th.now th.gained) m.all = n2 := ⟨_, rfl⟩
    rw [hn2] at e3
    have e4 : fenAll (setTh m t (thNow th n2)) t = { setTh m t (thNow th n2) with all := n2 } := by unfold fenAll; rw [l]; rfl
    have e5 : fenC ({ setTh m t (thNow th n2) with all := n2 } : VM) t = { setTh m t (thGained (thNow th n2) (joinV m.line th.gained n2)) with all := n2 } := by unfold fenC; rw [la, lb]; rfl
    have e6 : fenD ({ setTh m t (thGained (thNow th n2) (joinV m.line th.gained n2)) with all := n2 } : VM) t true = { setTh m t (thGiven (thGained (thNow th n2) (joinV m.line th.gained n2)) n2) with all := n2 } := by
      show setTh _ t _ = _
      rw [la, lb]; rfl
    have e7 : oAcq 4 = true ∧ oRel 4 = true := ⟨rfl, rfl⟩
    rw [e7.1, e7.2]
    show fenD (fenC (fenAll (fenB (fenA m t true) t) t) t) t true = _
    rw [e2, e3, e4, e5, e6]
    have e8 : fenT m t ⟨K, L, V, W, 4, T⟩ = thGiven (thGained (thNow th n2) (joinV m.line th.gained n2)) n2 := by
      rw [← hn2, ← hth]; rfl
    unfold fencedF
    rw [if_pos (show (⟨K, L, V, W, 4, T⟩ : Ev).ord = 4 from rfl), e8]
    rfl
  · have h4 : (R == 4) = false := beq_eq_false_iff_ne.2 hR
    rw [h4]
    show fenD (fenA m t (oAcq R)) t (oRel R) = _
    unfold fencedF
    rw [if_neg (show ¬ (⟨K, L, V, W, R, T⟩ : Ev).ord = 4 from hR)]
    show _ = setTh m t (fenT m t ⟨K, L, V, W, R, T⟩)
    unfold fenD fenT
    rw [e1]
    show cond (oRel R) _ _ = _
    have h5 : ∀ (x y : V3), (if (⟨K, L, V, W, R, T⟩ : Ev).ord = 4 then x else y) = y := fun x y => if_neg hR
    simp only [h5]
    cases oRel R <;> cases oAcq R
    · show fenA m t false = _
      unfold fenA; rfl
    · show fenA m t true = _
      unfold fenA; rfl
    · show setTh (fenA m t false) t _ = _
      unfold fenA; rw [setTh_twice]; rfl
    · show setTh (fenA m t true) t _ = _
      unfold fenA; rw [setTh_twice]; rfl
set_option maxHeartbeats 4000000 in
theorem vfenced_any {w : World} {B g : Nat} {q : List (List Ev)} {m0 : VM} {z0 : MV} (h : IsV w B g q m0 z0) {t : Nat} {K L V W R T : Int} (ht : t < m0.thr.length) (hR : 0 ≤ R ∧ R < 5) :
    Calls Tryz.prog 57 #[.pointer (some ⟨g, 0, none⟩), .int .i64 (t : Int), .agg #[.int .i64 K, .int .i64 L, .int .i64 V, .int .i64 W, .int .i64 R]] w (DidV w B g q (fencedF m0 t ⟨K, L, V, W, R, T⟩) z0) := by
  rw [← fenced_plain ht]
  obtain ⟨w0, hw0⟩ : ∃ w0, w.alloc (.cells #[.int .i64 K, .int .i64 L, .int .i64 V, .int .i64 W, .int .i64 R] 47) = w0 := ⟨_, rfl⟩
  have b0 : Below w.heap.size w w0 := by rw [← hw0]; exact (Below.refl _ w).alloc (Nat.le_refl _) _
  have X := show Blk w0 w.heap.size 47 [.int .i64 K, .int .i64 L, .int .i64 V, .int .i64 W, .int .i64 R] by rw [← hw0]; exact Blk.new w 47 _
  have i0 := h.below b0
  obtain ⟨bt, ct, hzt, hct1, hct2, _, _, hf0_, hbg, hc0_⟩ := i0.tv_at ht
  have c5 : w0.cell? ⟨g, 5, none⟩ = some (.slice (some ⟨bt, 0, none⟩) m0.thr.length ct) := by rw [i0.cells.2.2.1, hzt]
  obtain ⟨N, hN⟩ : ∃ N, m0.thr.length = N := ⟨_, rfl⟩
  rw [hN] at c5 ht hzt
  have t0 : (0 : Int) ≤ (t : Int) := by omega
  have t3 : (t : Int) < (N : Int) := by omega
  obtain ⟨LINE, hLN⟩ : ∃ x, m0.line = x := ⟨_, rfl⟩
  have o4 := X.cell 4 rfl
  have XO0 := Lib.hid X
  have I0 := Lib.hid i0
  have L0 := Lib.hid hN
  have T0 := Lib.hid hzt
  have LN0 := Lib.hid hLN
  have D0 := Lib.hid (Did.below g z0 b0)
  have HW0 := Lib.hid hw0
  obtain ⟨AC, hAC⟩ : ∃ AC, oAcq R = AC := ⟨_, rfl⟩
  obtain ⟨RC, hRC⟩ : ∃ RC, oRel R = RC := ⟨_, rfl⟩
  obtain ⟨SB, hSB⟩ : ∃ SB, (R == 4) = SB := ⟨_, rfl⟩
  rw [hAC, hRC, hSB]
  have HAC := Lib.hid hAC
  have HRC := Lib.hid hRC
  have HSB := Lib.hid hSB
  clear hf0_ hc0_ h b0 X i0 hzt hct1 hN hLN hw0 hAC hRC hSB
  go_enter Tryz.func57, Tryz.ntmps57
  go_upto_region 1 with fail
  rw [HW0.out]
  go_upto_region 2 with fail
  clear c5
  go_upto_if 23 with (go_at_call 88; refine (order_acquires_any hR.1 hR.2).mono ?_; rintro e5 w5 ⟨rfl, rfl⟩; rw [HAC.out])
  obtain ⟨b', c', e1, _, _, _, hbt0, hft0, _, hcs0⟩ := I0.out.tv_at (t := t) (by rw [L0.out]; exact ht)
  have eb : b' = bt := by rw [T0.out] at e1; injection e1 with e1; injection e1 with e1; injection e1 with e1; exact e1.symm
  rw [eb] at hcs0 hft0 hbt0
  obtain ⟨now0, hnow0⟩ : ∃ x, (m0.th t).now = x := ⟨_, rfl⟩
  have ynow0 : w0.cell? ⟨bt, t * 11, none⟩ = some (.int .i64 now0.a) := by rw [← hnow0]; exact hcs0 0 (by decide)
  have ynow1 : w0.cell? ⟨bt, t * 11 + 1, none⟩ = some (.int .i64 now0.b) := by rw [← hnow0]; exact hcs0 1 (by decide)
  have ynow2 : w0.cell? ⟨bt, t * 11 + 2, none⟩ = some (.int .i64 now0.c) := by rw [← hnow0]; exact hcs0 2 (by decide)
  have Nnow0 := Lib.hid hnow0
  clear hnow0
  obtain ⟨gained0, hgained0⟩ : ∃ x, (m0.th t).gained = x := ⟨_, rfl⟩
  have ygained0 : w0.cell? ⟨bt, t * 11 + 3, none⟩ = some (.int .i64 gained0.a) := by rw [← hgained0]; exact hcs0 3 (by decide)
  have ygained1 : w0.cell? ⟨bt, t * 11 + 4, none⟩ = some (.int .i64 gained0.b) := by rw [← hgained0]; exact hcs0 4 (by decide)
  have ygained2 : w0.cell? ⟨bt, t * 11 + 5, none⟩ = some (.int .i64 gained0.c) := by rw [← hgained0]; exact hcs0 5 (by decide)
  have Ngained0 := Lib.hid hgained0
  clear hgained0
  clear e1 eb hcs0
  have HFB : Hid (∀ W', Below w0.heap.size w0 W' → (W'.cell? ⟨bt, t * 11, none⟩ = some (.int .i64 now0.a) ∧ W'.cell? ⟨bt, t * 11 + 1, none⟩ = some (.int .i64 now0.b) ∧ W'.cell? ⟨bt, t * 11 + 2, none⟩ = some (.int .i64 now0.c)) ∧ W'.frozen? ⟨bt, t * 11, none⟩ = false ∧ W'.frozen? ⟨bt, t * 11 + 1, none⟩ = false ∧ W'.frozen? ⟨bt, t * 11 + 2, none⟩ = false) := Lib.hid (fun W' hW => ⟨⟨(hW.cell (p := ⟨bt, _, none⟩) hbt0).trans ynow0, (hW.cell (p := ⟨bt, _, none⟩) hbt0).trans ynow1, (hW.cell (p := ⟨bt, _, none⟩) hbt0).trans ynow2⟩, (hW.frozen (p := ⟨bt, _, none⟩) hbt0).trans (hft0 _), (hW.frozen (p := ⟨bt, _, none⟩) hbt0).trans (hft0 _), (hW.frozen (p := ⟨bt, _, none⟩) hbt0).trans (hft0 _)⟩)
  clear hft0
  have HJ : Hid (∀ W', Below w0.heap.size w0 W' → ∀ u v, Calls Tryz.prog 89 #[.pointer (some ⟨g, 0, none⟩), v3V u, v3V v] W' (fun e w' => e = .returned (v3V (joinV LINE u v)) ∧ Below W'.heap.size W' w')) := Lib.hid (fun W' hW u v => by have := join_any (I0.out.below hW) (u := u) (v := v); rw [LN0.out] at this; exact this)
  go_cut [] from 24 to 36 (fun wx => AtV w0 B g q (setTh m0 t (thNow (m0.th t) (cond AC (joinV LINE now0 gained0) now0))) z0 wx)
  case first =>
    cases AC with
    | false =>
      go_wp2_with fail
      go_meet
      exact ⟨z0, by rw [← Nnow0.out]; exact (setTh_self m0 t).symm ▸ I0.out, Did.refl _ _ _, rfl⟩
    | true =>
      go_upto_region 4 with fail
      go_region_with (go_at_call 89; (with_reducible refine (HJ.out _ ((Below.refl _ w0).drew) now0 gained0).mono ?_); rintro e5 w5 ⟨rfl, hb5⟩; have hb6 : Below w0.heap.size w0 w5 := (Below.refl _ w0).drew.trans hb5; obtain ⟨⟨cc0, cc1, cc2⟩, ff0, ff1, ff2⟩ := HFB.out w5 hb6)
      all_goals
        have i5 := I0.out.below hb6
        have hst := i5.setNow (t := t) (b := bt) (c := ct) (p := t * 11) (by rw [L0.out]; exact ht) (by rw [L0.out]; exact T0.out) rfl (joinV LINE now0 gained0)
        have HST := Lib.hid hst
        have HB6 := Lib.hid hb6
        clear hst i5 hb5 hb6
        go_wp2_with fail
        go_meet
        exact ⟨z0, HST.out.1, (Did.below g z0 HB6.out).trans HST.out.2, rfl⟩
  case rest =>
    clear HJ HFB o4 ynow0 ynow1 ynow2 ygained0 ygained1 ygained2
    have XO1' := hcut.box I0.out XO0.out (by decide)
    obtain ⟨z1, i1, d1, t1⟩ := hcut
    obtain ⟨w1, hw1⟩ : ∃ x, wc = x := ⟨_, rfl⟩
    rw [hw1] at i1 d1 XO1' ⊢
    clear hw1 wc
    obtain ⟨m1, hm1⟩ : ∃ x, setTh m0 t (thNow (m0.th t) (cond AC (joinV LINE now0 gained0) now0)) = x := ⟨_, rfl⟩
    rw [hm1] at i1
    have M1 := Lib.hid hm1
    have I1 := Lib.hid i1
    have D1 := Lib.hid (D0.out.trans d1)
    have E1 := Lib.hid d1
    have TE1 := Lib.hid t1
    have T1 := Lib.hid (show z1.tv = .slice (some ⟨bt, 0, none⟩) N ct by rw [t1, T0.out])
    have XO1 := Lib.hid XO1'
    clear hm1 i1 d1 t1 XO1'
    have MM1 : Hid (m1 = fenA m0 t AC) := Lib.hid (by rw [← M1.out, ← Nnow0.out, ← Ngained0.out, ← LN0.out]; rfl)
    have L1 : Hid (m1.thr.length = N) := Lib.hid (by rw [← M1.out, setTh_len]; exact L0.out)
    have LN1 : Hid (m1.line = LINE) := Lib.hid (by rw [← M1.out]; exact LN0.out)
    have o4 := XO1.out.cell 4 rfl
    have hsb := HSB.out
    go_upto_if 39 with fail
    clear o4 hsb
    go_cut [] from 40 to 72 (fun wx => AtV w1 B g q (fenS m1 t SB) z1 wx)
    case first =>
      cases SB with
      | false =>
        go_wp2_with fail
        go_meet
        exact ⟨z1, I1.out, Did.refl _ _ _, rfl⟩
      | true =>
        obtain ⟨b', c', e1, _, _, _, hbt1, hft1, _, hcs1⟩ := I1.out.tv_at (t := t) (by rw [L1.out]; exact ht)
        have eb : b' = bt := by rw [T1.out] at e1; injection e1 with e1; injection e1 with e1; injection e1 with e1; exact e1.symm
        rw [eb] at hcs1 hft1 hbt1
        obtain ⟨now1, hnow1⟩ : ∃ x, (m1.th t).now = x := ⟨_, rfl⟩
        have ynow0 : w1.cell? ⟨bt, t * 11, none⟩ = some (.int .i64 now1.a) := by rw [← hnow1]; exact hcs1 0 (by decide)
        have ynow1 : w1.cell? ⟨bt, t * 11 + 1, none⟩ = some (.int .i64 now1.b) := by rw [← hnow1]; exact hcs1 1 (by decide)
        have ynow2 : w1.cell? ⟨bt, t * 11 + 2, none⟩ = some (.int .i64 now1.c) := by rw [← hnow1]; exact hcs1 2 (by decide)
        have Nnow1 := Lib.hid hnow1
        clear hnow1
        clear e1 eb hcs1
        have HFB : Hid (∀ W', Below w1.heap.size w1 W' → (W'.cell? ⟨bt, t * 11, none⟩ = some (.int .i64 now1.a) ∧ W'.cell? ⟨bt, t * 11 + 1, none⟩ = some (.int .i64 now1.b) ∧ W'.cell? ⟨bt, t * 11 + 2, none⟩ = some (.int .i64 now1.c)) ∧ W'.frozen? ⟨bt, t * 11, none⟩ = false ∧ W'.frozen? ⟨bt, t * 11 + 1, none⟩ = false ∧ W'.frozen? ⟨bt, t * 11 + 2, none⟩ = false) := Lib.hid (fun W' hW => ⟨⟨(hW.cell (p := ⟨bt, _, none⟩) hbt1).trans ynow0, (hW.cell (p := ⟨bt, _, none⟩) hbt1).trans ynow1, (hW.cell (p := ⟨bt, _, none⟩) hbt1).trans ynow2⟩, (hW.frozen (p := ⟨bt, _, none⟩) hbt1).trans (hft1 _), (hW.frozen (p := ⟨bt, _, none⟩) hbt1).trans (hft1 _), (hW.frozen (p := ⟨bt, _, none⟩) hbt1).trans (hft1 _)⟩)
        clear hft1
        have HJ : Hid (∀ W', Below w1.heap.size w1 W' → ∀ u v, Calls Tryz.prog 89 #[.pointer (some ⟨g, 0, none⟩), v3V u, v3V v] W' (fun e w' => e = .returned (v3V (joinV LINE u v)) ∧ Below W'.heap.size W' w')) := Lib.hid (fun W' hW u v => by have := join_any (I1.out.below hW) (u := u) (v := v); rw [LN1.out] at this; exact this)
        obtain ⟨all1, hall1⟩ : ∃ x, m1.all = x := ⟨_, rfl⟩
        have ya0 : w1.cell? ⟨g, 6, none⟩ = some (.int .i64 all1.a) := by rw [← hall1]; exact I1.out.cells.2.2.2.1
        have ya1 : w1.cell? ⟨g, 7, none⟩ = some (.int .i64 all1.b) := by rw [← hall1]; exact I1.out.cells.2.2.2.2.1
        have ya2 : w1.cell? ⟨g, 8, none⟩ = some (.int .i64 all1.c) := by rw [← hall1]; exact I1.out.cells.2.2.2.2.2.1
        have Nall1 := Lib.hid hall1
        clear hall1
        go_upto_region 6 with fail
        go_cut [] from 40 to 52 (fun wx => AtV w1 B g q (setTh m1 t (thNow (m1.th t) (joinV LINE now1 all1))) z1 wx)
        case first =>
          go_region_with (go_at_call 89; (with_reducible refine (HJ.out _ ((Below.refl _ w1).drew) now1 all1).mono ?_); rintro e5 w5 ⟨rfl, hb5⟩; have hb6 : Below w1.heap.size w1 w5 := (Below.refl _ w1).drew.trans hb5; obtain ⟨⟨cc0, cc1, cc2⟩, ff0, ff1, ff2⟩ := HFB.out w5 hb6)
          all_goals
            have i5 := I1.out.below hb6
            have hst := i5.setNow (t := t) (b := bt) (c := ct) (p := t * 11) (by rw [L1.out]; exact ht) (by rw [L1.out]; exact T1.out) rfl (joinV LINE now1 all1)
            have HST := Lib.hid hst
            have HB6 := Lib.hid hb6
            clear hst i5 hb5 hb6
            go_wp2_with fail
            go_meet
            exact ⟨z1, HST.out.1, (Did.below g z1 HB6.out).trans HST.out.2, rfl⟩
        case rest =>
          clear HJ HFB ya0 ya1 ya2 ynow0 ynow1 ynow2
          obtain ⟨z2, i2, d2, t2⟩ := hcut
          obtain ⟨w2, hw2⟩ : ∃ x, wc = x := ⟨_, rfl⟩
          rw [hw2] at i2 d2  ⊢
          clear hw2 wc
          obtain ⟨m2, hm2⟩ : ∃ x, setTh m1 t (thNow (m1.th t) (joinV LINE now1 all1)) = x := ⟨_, rfl⟩
          rw [hm2] at i2
          have M2 := Lib.hid hm2
          have I2 := Lib.hid i2
          have D2 := Lib.hid (D1.out.trans d2)
          have E2 := Lib.hid d2
          have TE2 := Lib.hid t2
          have T2 := Lib.hid (show z2.tv = .slice (some ⟨bt, 0, none⟩) N ct by rw [t2, T1.out])
          clear hm2 i2 d2 t2 
          have MM2 : Hid (m2 = fenB m1 t) := Lib.hid (by rw [← M2.out, ← Nnow1.out, ← Nall1.out, ← LN1.out]; rfl)
          have L2 : Hid (m2.thr.length = N) := Lib.hid (by rw [← M2.out, setTh_len]; exact L1.out)
          have LN2 : Hid (m2.line = LINE) := Lib.hid (by rw [← M2.out]; exact LN1.out)
          obtain ⟨b', c', e1, _, _, _, hbt2, hft2, _, hcs2⟩ := I2.out.tv_at (t := t) (by rw [L2.out]; exact ht)
          have eb : b' = bt := by rw [T2.out] at e1; injection e1 with e1; injection e1 with e1; injection e1 with e1; exact e1.symm
          rw [eb] at hcs2 hft2 hbt2
          obtain ⟨now2, hnow2⟩ : ∃ x, (m2.th t).now = x := ⟨_, rfl⟩
          have ynow0 : w2.cell? ⟨bt, t * 11, none⟩ = some (.int .i64 now2.a) := by rw [← hnow2]; exact hcs2 0 (by decide)
          have ynow1 : w2.cell? ⟨bt, t * 11 + 1, none⟩ = some (.int .i64 now2.b) := by rw [← hnow2]; exact hcs2 1 (by decide)
          have ynow2 : w2.cell? ⟨bt, t * 11 + 2, none⟩ = some (.int .i64 now2.c) := by rw [← hnow2]; exact hcs2 2 (by decide)
          have Nnow2 := Lib.hid hnow2
          clear hnow2
          clear e1 eb hcs2
          have ya0 := I2.out.cells.2.2.2.1
          have ya1 := I2.out.cells.2.2.2.2.1
          have ya2 := I2.out.cells.2.2.2.2.2.1
          have fa6 := I2.out.blk.free 6
          have fa7 := I2.out.blk.free 7
          have fa8 := I2.out.blk.free 8
          go_upto_region 8 with fail
          obtain ⟨i3, d3⟩ := I2.out.setAll now2
          obtain ⟨w3, hw3⟩ : ∃ w3, ((w2.setCell ⟨g, 6, none⟩ (.int .i64 now2.a)).setCell ⟨g, 7, none⟩ (.int .i64 now2.b)).setCell ⟨g, 8, none⟩ (.int .i64 now2.c) = w3 := ⟨_, rfl⟩
          rw [hw3] at i3 d3 ⊢
          have i3 : IsV w3 B g q (fenAll m2 t) z2 := by unfold fenAll; rw [Nnow2.out]; exact i3
          obtain ⟨m3, hm3⟩ : ∃ m3, fenAll m2 t = m3 := ⟨_, rfl⟩
          rw [hm3] at i3
          have T3 := T2
          have I3 := Lib.hid i3
          have E3 := Lib.hid (E2.out.trans d3)
          have M3 := Lib.hid hm3
          have HTVP := TE2
          have L3 : Hid (m3.thr.length = N) := Lib.hid (by rw [← hm3]; exact L2.out)
          have LN3 : Hid (m3.line = LINE) := Lib.hid (by rw [← hm3]; exact LN2.out)
          clear i3 d3 hw3 hm3 fa6 fa7 fa8 ya0 ya1 ya2 hft2 ynow0 ynow1 ynow2
          obtain ⟨b', c', e1, _, _, _, hbt3, hft3, _, hcs3⟩ := I3.out.tv_at (t := t) (by rw [L3.out]; exact ht)
          have eb : b' = bt := by rw [T3.out] at e1; injection e1 with e1; injection e1 with e1; injection e1 with e1; exact e1.symm
          rw [eb] at hcs3 hft3 hbt3
          obtain ⟨now3, hnow3⟩ : ∃ x, (m3.th t).now = x := ⟨_, rfl⟩
          have ynow0 : w3.cell? ⟨bt, t * 11, none⟩ = some (.int .i64 now3.a) := by rw [← hnow3]; exact hcs3 0 (by decide)
          have ynow1 : w3.cell? ⟨bt, t * 11 + 1, none⟩ = some (.int .i64 now3.b) := by rw [← hnow3]; exact hcs3 1 (by decide)
          have ynow2 : w3.cell? ⟨bt, t * 11 + 2, none⟩ = some (.int .i64 now3.c) := by rw [← hnow3]; exact hcs3 2 (by decide)
          have Nnow3 := Lib.hid hnow3
          clear hnow3
          obtain ⟨gained3, hgained3⟩ : ∃ x, (m3.th t).gained = x := ⟨_, rfl⟩
          have ygained0 : w3.cell? ⟨bt, t * 11 + 3, none⟩ = some (.int .i64 gained3.a) := by rw [← hgained3]; exact hcs3 3 (by decide)
          have ygained1 : w3.cell? ⟨bt, t * 11 + 4, none⟩ = some (.int .i64 gained3.b) := by rw [← hgained3]; exact hcs3 4 (by decide)
          have ygained2 : w3.cell? ⟨bt, t * 11 + 5, none⟩ = some (.int .i64 gained3.c) := by rw [← hgained3]; exact hcs3 5 (by decide)
          have Ngained3 := Lib.hid hgained3
          clear hgained3
          clear e1 eb hcs3
          have HFB : Hid (∀ W', Below w3.heap.size w3 W' → (W'.cell? ⟨bt, t * 11 + 3, none⟩ = some (.int .i64 gained3.a) ∧ W'.cell? ⟨bt, t * 11 + 3 + 1, none⟩ = some (.int .i64 gained3.b) ∧ W'.cell? ⟨bt, t * 11 + 3 + 2, none⟩ = some (.int .i64 gained3.c)) ∧ W'.frozen? ⟨bt, t * 11 + 3, none⟩ = false ∧ W'.frozen? ⟨bt, t * 11 + 3 + 1, none⟩ = false ∧ W'.frozen? ⟨bt, t * 11 + 3 + 2, none⟩ = false) := Lib.hid (fun W' hW => ⟨⟨(hW.cell (p := ⟨bt, _, none⟩) hbt3).trans ygained0, (hW.cell (p := ⟨bt, _, none⟩) hbt3).trans ygained1, (hW.cell (p := ⟨bt, _, none⟩) hbt3).trans ygained2⟩, (hW.frozen (p := ⟨bt, _, none⟩) hbt3).trans (hft3 _), (hW.frozen (p := ⟨bt, _, none⟩) hbt3).trans (hft3 _), (hW.frozen (p := ⟨bt, _, none⟩) hbt3).trans (hft3 _)⟩)
          clear hft3
          have HJ : Hid (∀ W', Below w3.heap.size w3 W' → ∀ u v, Calls Tryz.prog 89 #[.pointer (some ⟨g, 0, none⟩), v3V u, v3V v] W' (fun e w' => e = .returned (v3V (joinV LINE u v)) ∧ Below W'.heap.size W' w')) := Lib.hid (fun W' hW u v => by have := join_any (I3.out.below hW) (u := u) (v := v); rw [LN3.out] at this; exact this)
          have HF : Hid (fenS m1 t true = setTh m3 t { m3.th t with gained := joinV LINE gained3 now3 }) := Lib.hid (by rw [← Ngained3.out, ← Nnow3.out, ← LN3.out, ← M3.out, MM2.out]; rfl)
          go_region_with (go_at_call 89; (with_reducible refine (HJ.out _ ((Below.refl _ w3).drew) gained3 now3).mono ?_); rintro e5 w5 ⟨rfl, hb5⟩; have hb6 : Below w3.heap.size w3 w5 := (Below.refl _ w3).drew.trans hb5; obtain ⟨⟨cc0, cc1, cc2⟩, ff0, ff1, ff2⟩ := HFB.out w5 hb6)
          all_goals
            have i5 := I3.out.below hb6
            have hst := i5.setGained (t := t) (b := bt) (c := ct) (p := t * 11 + 3) (by rw [L3.out]; exact ht) (by rw [L3.out]; exact T3.out) rfl (joinV LINE gained3 now3)
            have HST := Lib.hid hst
            have HB6 := Lib.hid hb6
            clear hst i5 hb5 hb6
            go_wp2_with fail
            go_meet
            rw [HF.out]
            exact ⟨z2, HST.out.1, (E3.out).trans ((Did.below g z2 HB6.out).trans HST.out.2), HTVP.out⟩
    case rest =>
      have XO4' := hcut.box I1.out XO1.out (by decide)
      obtain ⟨z4, i4, d4, t4⟩ := hcut
      obtain ⟨w4, hw4⟩ : ∃ x, wc = x := ⟨_, rfl⟩
      rw [hw4] at i4 d4 XO4' ⊢
      clear hw4 wc
      obtain ⟨m4, hm4⟩ : ∃ x, fenS m1 t SB = x := ⟨_, rfl⟩
      rw [hm4] at i4
      have M4 := Lib.hid hm4
      have I4 := Lib.hid i4
      have D4 := Lib.hid (D1.out.trans d4)
      have E4 := Lib.hid d4
      have TE4 := Lib.hid t4
      have T4 := Lib.hid (show z4.tv = .slice (some ⟨bt, 0, none⟩) N ct by rw [t4, T1.out])
      have XO4 := Lib.hid XO4'
      clear hm4 i4 d4 t4 XO4'
      have L4 : Hid (m4.thr.length = N) := Lib.hid (by rw [← M4.out]; cases SB <;> simp [fenS, fenC, fenAll, fenB, setTh, L1.out])
      have o4 := XO4.out.cell 4 rfl
      go_upto_if 79 with (go_at_call 90; refine (order_releases_any hR.1 hR.2).mono ?_; rintro e5 w5 ⟨rfl, rfl⟩; rw [HRC.out])
      clear o4
      obtain ⟨b', c', e1, _, _, _, hbt4, hft4, _, hcs4⟩ := I4.out.tv_at (t := t) (by rw [L4.out]; exact ht)
      have eb : b' = bt := by rw [T4.out] at e1; injection e1 with e1; injection e1 with e1; injection e1 with e1; exact e1.symm
      rw [eb] at hcs4 hft4 hbt4
      obtain ⟨now4, hnow4⟩ : ∃ x, (m4.th t).now = x := ⟨_, rfl⟩
      have ynow0 : w4.cell? ⟨bt, t * 11, none⟩ = some (.int .i64 now4.a) := by rw [← hnow4]; exact hcs4 0 (by decide)
      have ynow1 : w4.cell? ⟨bt, t * 11 + 1, none⟩ = some (.int .i64 now4.b) := by rw [← hnow4]; exact hcs4 1 (by decide)
      have ynow2 : w4.cell? ⟨bt, t * 11 + 2, none⟩ = some (.int .i64 now4.c) := by rw [← hnow4]; exact hcs4 2 (by decide)
      have Nnow4 := Lib.hid hnow4
      clear hnow4
      obtain ⟨given4, hgiven4⟩ : ∃ x, (m4.th t).given = x := ⟨_, rfl⟩
      have ygiven0 : w4.cell? ⟨bt, t * 11 + 6, none⟩ = some (.int .i64 given4.a) := by rw [← hgiven4]; exact hcs4 6 (by decide)
      have ygiven1 : w4.cell? ⟨bt, t * 11 + 7, none⟩ = some (.int .i64 given4.b) := by rw [← hgiven4]; exact hcs4 7 (by decide)
      have ygiven2 : w4.cell? ⟨bt, t * 11 + 8, none⟩ = some (.int .i64 given4.c) := by rw [← hgiven4]; exact hcs4 8 (by decide)
      have Ngiven4 := Lib.hid hgiven4
      clear hgiven4
      have f6 := hft4 (t * 11 + 6)
      have f7 := hft4 (t * 11 + 6 + 1)
      have f8 := hft4 (t * 11 + 6 + 2)
      clear e1 eb hcs4
      have HG : Hid (fenD (fenS (fenA m0 t AC) t SB) t RC = fenD m4 t RC) := Lib.hid (by rw [← MM1.out, M4.out])
      rw [HG.out]
      clear hft4
      cases RC with
      | false =>
        go_wp2
        go_returns
        exact ⟨rfl, z4, I4.out, D4.out⟩
      | true =>
        have hst := I4.out.setGiven (t := t) (b := bt) (c := ct) (p := t * 11 + 6) (by rw [L4.out]; exact ht) (by rw [L4.out]; exact T4.out) rfl now4
        have HST := Lib.hid hst
        have HGG : Hid (fenD m4 t true = setTh m4 t { m4.th t with given := now4 }) := Lib.hid (by rw [← Nnow4.out]; rfl)
        rw [HGG.out]
        clear hst
        go_wp2
        go_returns
        exact ⟨rfl, z4, HST.out.1, D4.out.trans HST.out.2⟩
end Go.Proofs.YtkddckfgdiemkaaGreat
