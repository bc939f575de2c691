/-
  The document's manager of eras: the walks of met, forget, sweep, Waiting.
-/
import Derived.Test.YtiokifkppfegfaaRef1
set_option linter.unusedVariables false
set_option linter.unusedSimpArgs false
namespace Go.Proofs.Ytiokifkppfegfaa
open Go.RowKit Mem Qm
set_option maxRecDepth 100000

theorem info85 : (Try.prog.info? 85).map (fun i => (i.zero, i.size, i.bytes)) = some (some (.agg #[.int .i64 0, .int .i64 0]), 2, 16) := by kernel_rfl
theorem info87 : (Try.prog.info? 87).map (fun i => (i.zero, i.size, i.bytes)) = some (some (.agg #[.int .i64 0, .int .i64 0, .int .i64 0]), 3, 24) := by kernel_rfl
theorem bCells_one (x : Bi) : ∀ u ∈ bCells x, u.oneCell' = true := by intro u hu; simp only [bCells, List.mem_cons, List.not_mem_nil, or_false] at hu; rcases hu with rfl | rfl <;> rfl
theorem lCells_one (x : Life) : ∀ u ∈ lCells x, u.oneCell' = true := by intro u hu; simp only [lCells, List.mem_cons, List.not_mem_nil, or_false] at hu; rcases hu with rfl | rfl | rfl <;> rfl
theorem met_of_to {q : Q} {x : Life} {m : Nat} (hm : m ≤ 4) (hout : ∀ i, (m : Int) ≤ i → 0 ≤ i → i < 4 → (q.get i).i = false) : metTo q x m = q.met x := by
  rw [← metTo_all]
  have step : ∀ k : Nat, m ≤ k → k < 4 → metTo q x (k + 1) = metTo q x k := fun k h1 h2 => by
    simp only [metTo]
    rw [sn_met_out (hout (k : Int) (by omega) (by omega) (by omega)), Bool.or_false]
  rcases (show m = 0 ∨ m = 1 ∨ m = 2 ∨ m = 3 ∨ m = 4 by omega) with rfl | rfl | rfl | rfl | rfl
  · rw [step 3 (by omega) (by omega), step 2 (by omega) (by omega), step 1 (by omega) (by omega), step 0 (by omega) (by omega)]
  · rw [step 3 (by omega) (by omega), step 2 (by omega) (by omega), step 1 (by omega) (by omega)]
  · rw [step 3 (by omega) (by omega), step 2 (by omega) (by omega)]
  · rw [step 3 (by omega) (by omega)]
  · rfl
theorem sn_met_any {s : Sn} {x : Life} (hi : s.i = true) (h : (x.b ≤ s.hi ∧ s.lo ≤ x.e) ∨ s.h0 = x.a ∨ s.h1 = x.a ∨ s.h2 = x.a) : s.met x = true := by
  simp only [Sn.met, hi, Bool.true_and, hasB, Sn.holds, List.any_cons, List.any_nil, Bool.or_false]
  rcases h with ⟨h1, h2⟩ | h | h | h
  · simp [h1, h2]
  · simp [h]
  · simp [h]
  · simp [h]
theorem sn_met_not {s : Sn} {x : Life} (h : ¬ (x.b ≤ s.hi ∧ s.lo ≤ x.e)) (h0 : ¬ s.h0 = x.a) (h1 : ¬ s.h1 = x.a) (h2 : ¬ s.h2 = x.a) : s.met x = false := by
  have e0 : ¬ x.a = s.h0 := fun e => h0 e.symm
  have e1 : ¬ x.a = s.h1 := fun e => h1 e.symm
  have e2 : ¬ x.a = s.h2 := fun e => h2 e.symm
  simp only [Sn.met, hasB, Sn.holds, List.any_cons, List.any_nil, Bool.or_false, decide_eq_false e0, decide_eq_false e1, decide_eq_false e2]
  by_cases ha : x.b ≤ s.hi
  · have hb : ¬ s.lo ≤ x.e := fun hb => h ⟨ha, hb⟩
    simp [hb]
  · simp [ha]
def hAt (s : Sn) (j : Nat) : Int := if j = 0 then s.h0 else if j = 1 then s.h1 else s.h2
theorem hAt_cell (s : Sn) {j : Nat} (hj : j < 3) : (sCells s)[3 + j]? = some (.int .i64 (hAt s j)) := by
  rcases (show j = 0 ∨ j = 1 ∨ j = 2 by omega) with rfl | rfl | rfl <;> rfl
theorem hAt_met {s : Sn} {x : Life} {j : Nat} (hj : j < 3) (hi : s.i = true) (h : hAt s j = x.a) : s.met x = true := by
  rcases (show j = 0 ∨ j = 1 ∨ j = 2 by omega) with rfl | rfl | rfl
  · exact sn_met_any hi (.inr (.inl h))
  · exact sn_met_any hi (.inr (.inr (.inl h)))
  · exact sn_met_any hi (.inr (.inr (.inr h)))
set_option maxHeartbeats 2000000 in
theorem rmet_any {w : World} {B g gv m : Nat} {vb vi : Value} {q : Q} {L : List Bi} (h : IsR w B g gv vb vi m q L) (hm4 : m ≤ 4) (hout : ∀ i, q.n ≤ i → 0 ≤ i → i < 4 → (q.get i).i = false) (x : Life) :
    Calls Try.prog 50 #[.pointer (some ⟨g, 0, none⟩), .agg #[.int .i64 x.a, .int .i64 x.b, .int .i64 x.e]] w fun e w' => e = .returned (.bool (q.met x)) ∧ Below w.heap.size w w' := by
  have b1 : Below w.heap.size w (w.alloc (.cells #[.int .i64 x.a, .int .i64 x.b, .int .i64 x.e] 87)) := (Below.refl _ _).alloc (Nat.le_refl _) _
  have hX := Lib.hid (Blk.new w 87 [.int .i64 x.a, .int .i64 x.b, .int .i64 x.e])
  have hF := Lib.hid (met_of_to (q := q) (x := x) hm4 (by rw [← h.nm]; exact hout))
  have hB1 := Lib.hid b1
  have H := Lib.hid (h.below b1)
  clear h b1 hout
  go_enter Try.func50, Try.ntmps50
  go_wp2_with fail
  go_loopw [5] (fun i wr => ∃ k : Nat, k ≤ m ∧ i = .int .i64 k ∧ Hid (metTo q x k = false) ∧ Below (w.alloc (.cells #[.int .i64 x.a, .int .i64 x.b, .int .i64 x.e] 87)).heap.size (w.alloc (.cells #[.int .i64 x.a, .int .i64 x.b, .int .i64 x.e] 87)) wr) (fun i _ => m - (intOf i).toNat)
  case atStart => exact ⟨0, by omega, rfl, rfl, Below.refl _ _⟩
  case round =>
    obtain ⟨k, hk, rfl, hm, hbel⟩ := hrel
    have HB := Lib.hid hbel
    have X := hX.out.below hbel
    have R := H.out.below hbel
    have x0 := X.cell 0 rfl
    have x1 := X.cell 1 rfl
    have x2 := X.cell 2 rfl
    have r0 := R.blk.cell 0 rfl
    have r2 := R.blk.cell 2 rfl
    have xl : w.heap.size < wr.heap.size := X.lt
    have gl := R.vis.lt
    by_cases hltm : k < m
    · have hat := fun j (hj : j < 6) => (seenTo_at q hm4 hltm hj)
      have hms := Lib.hid (show metTo q x (k + 1) = (q.get k).met x by simp only [metTo]; rw [hm.out]; rfl)
      have hend := Lib.hid (fun (hm' : (q.get k).met x = true) => show q.met x = true from met_true (q := q) (x := x) (k := k) (by omega) (by omega) (by rw [hms.out]; exact hm'))
      have c0 := R.vis.cell (k * 6) (by have := hat 0 (by omega); rw [Nat.add_zero] at this; rw [this]; rfl)
      have c1 := R.vis.cell (k * 6 + 1) (by rw [hat 1 (by omega)]; rfl)
      have c2 := R.vis.cell (k * 6 + 2) (by rw [hat 2 (by omega)]; rfl)
      have c3 := R.vis.cell (k * 6 + 3) (by rw [hat 3 (by omega)]; rfl)
      have c4 := R.vis.cell (k * 6 + 4) (by rw [hat 4 (by omega)]; rfl)
      have c5 := R.vis.cell (k * 6 + 5) (by rw [hat 5 (by omega)]; rfl)
      obtain ⟨s, hs⟩ : ∃ s, q.get (k : Int) = s := ⟨_, rfl⟩
      rw [hs] at c0 c1 c2 c3 c4 c5 hms hend
      clear hs hat hbel X R
      cases hsi : s.i with
      | false =>
        rw [hsi] at c0
        have hmet := Lib.hid (sn_met_out hsi x)
        have HSI := Lib.hid hsi
        go_wp2_with fail
        go_loopw [7] (fun i w2 => ∃ j : Nat, j ≤ 3 ∧ i = .int .i64 j ∧ Blk w2 wr.heap.size 82 (sCells s) ∧ Below wr.heap.size wr w2) (fun i _ => 3 - (intOf i).toNat)
        case atStart => exact ⟨0, by omega, rfl, by have h9 := Blk.new wr 82 (sCells s); simp only [sCells, hsi] at h9 ⊢; exact h9, (Below.refl _ _).alloc (Nat.le_refl _) _⟩
        case round =>
          obtain ⟨j, hj, rfl, hb2, hbel2⟩ := hrel
          have y0 := hb2.cell 0 rfl
          rw [HSI.out] at y0
          have HB2 := Lib.hid hb2
          have HL2 := Lib.hid hbel2
          clear hb2 hbel2
          by_cases hj3 : j < 3
          · go_wp2_with fail
            go_quiet (fail)
            go_wp2
            go_roundw
            case measure => simp [intOf]; omega
            case rel => exact ⟨j + 1, by omega, by go_num, HB2.out, HL2.out.drewN _⟩
          · go_wp2
            go_roundw
            case measure => simp [intOf]; omega
            case rel => exact ⟨k + 1, by omega, by go_num, by rw [hms.out]; exact hmet.out, HB.out.trans (HL2.out.mono (by simp; have := HB.out.size; simp at this; omega))⟩
      | true =>
        rw [hsi] at c0
        have HS := Lib.hid hsi
        clear hsi
        by_cases hA : x.b ≤ s.hi ∧ s.lo ≤ x.e
        · obtain ⟨hA1, hA2⟩ := hA
          have hmet := Lib.hid (sn_met_any (x := x) HS.out (.inl ⟨hA1, hA2⟩))
          go_wp2_with fail
          go_ret
          exact ⟨by rw [hend.out hmet.out]; rfl, hB1.out.trans (HB.out.alloc HB.out.size _ |>.mono (by simp))⟩
        · have HNA := Lib.hid hA
          by_cases hA1 : x.b ≤ s.hi
          · have hA2 : ¬ s.lo ≤ x.e := fun h => hA ⟨hA1, h⟩
            clear hA
            go_wp2_with fail
            go_loopw [7] (fun i w2 => ∃ j : Nat, j ≤ 3 ∧ i = .int .i64 j ∧ Hid (∀ t, t < j → hAt s t ≠ x.a) ∧ Blk w2 wr.heap.size 82 (sCells s) ∧ Below wr.heap.size wr w2) (fun i _ => 3 - (intOf i).toNat)
            case atStart => exact ⟨0, by omega, rfl, fun t ht => by omega, by have h9 := Blk.new wr 82 (sCells s); simp only [sCells, HS.out] at h9 ⊢; exact h9, (Below.refl _ _).alloc (Nat.le_refl _) _⟩
            case round =>
              obtain ⟨j, hj, rfl, hn, hb2, hbel2⟩ := hrel
              have y0 := hb2.cell 0 rfl
              rw [HS.out] at y0
              have HB2 := Lib.hid hb2
              have HL2 := Lib.hid hbel2
              have X2 := (hX.out.below HB.out).below hbel2
              have z0 := X2.cell 0 rfl
              clear hb2 hbel2 X2
              by_cases hj3 : j < 3
              · have yj := HB2.out.cell (3 + j) (hAt_cell s hj3)
                by_cases he : hAt s j = x.a
                · have e1 : (hAt s j == x.a) = true := beq_iff_eq.2 he
                  have hmet := Lib.hid (hAt_met hj3 HS.out he)
                  clear he
                  go_wp2_with fail
                  go_quiet (fail)
                  go_wp2
                  go_ret
                  exact ⟨by rw [hend.out hmet.out]; rfl, hB1.out.trans ((HB.out.trans ((HL2.out.drewN _).mono (by simp; have := HB.out.size; simp at this; omega))).mono (by simp))⟩
                · have e1 : (hAt s j == x.a) = false := beq_eq_false_iff_ne.2 he
                  have HE := Lib.hid (show ∀ t, t < j + 1 → hAt s t ≠ x.a from fun t ht => by
                    by_cases e : t = j
                    · rw [e]; exact he
                    · exact hn.out t (by omega))
                  clear he
                  go_wp2_with fail
                  go_quiet (fail)
                  go_wp2
                  go_roundw
                  case measure => simp [intOf]; omega
                  case rel => exact ⟨j + 1, by omega, by go_num, HE.out, HB2.out, HL2.out.drewN _⟩
              · have hje : j = 3 := by omega
                have hmet := Lib.hid (show s.met x = false from sn_met_not HNA.out (hn.out 0 (by omega)) (hn.out 1 (by omega)) (hn.out 2 (by omega)))
                clear hje
                go_wp2
                go_roundw
                case measure => simp [intOf]; omega
                case rel => exact ⟨k + 1, by omega, by go_num, by rw [hms.out]; exact hmet.out, HB.out.trans (HL2.out.mono (by simp; have := HB.out.size; simp at this; omega))⟩
          · clear hA
            go_wp2_with fail
            go_loopw [7] (fun i w2 => ∃ j : Nat, j ≤ 3 ∧ i = .int .i64 j ∧ Hid (∀ t, t < j → hAt s t ≠ x.a) ∧ Blk w2 wr.heap.size 82 (sCells s) ∧ Below wr.heap.size wr w2) (fun i _ => 3 - (intOf i).toNat)
            case atStart => exact ⟨0, by omega, rfl, fun t ht => by omega, by have h9 := Blk.new wr 82 (sCells s); simp only [sCells, HS.out] at h9 ⊢; exact h9, (Below.refl _ _).alloc (Nat.le_refl _) _⟩
            case round =>
              obtain ⟨j, hj, rfl, hn, hb2, hbel2⟩ := hrel
              have y0 := hb2.cell 0 rfl
              rw [HS.out] at y0
              have HB2 := Lib.hid hb2
              have HL2 := Lib.hid hbel2
              have X2 := (hX.out.below HB.out).below hbel2
              have z0 := X2.cell 0 rfl
              clear hb2 hbel2 X2
              by_cases hj3 : j < 3
              · have yj := HB2.out.cell (3 + j) (hAt_cell s hj3)
                by_cases he : hAt s j = x.a
                · have e1 : (hAt s j == x.a) = true := beq_iff_eq.2 he
                  have hmet := Lib.hid (hAt_met hj3 HS.out he)
                  clear he
                  go_wp2_with fail
                  go_quiet (fail)
                  go_wp2
                  go_ret
                  exact ⟨by rw [hend.out hmet.out]; rfl, hB1.out.trans ((HB.out.trans ((HL2.out.drewN _).mono (by simp; have := HB.out.size; simp at this; omega))).mono (by simp))⟩
                · have e1 : (hAt s j == x.a) = false := beq_eq_false_iff_ne.2 he
                  have HE := Lib.hid (show ∀ t, t < j + 1 → hAt s t ≠ x.a from fun t ht => by
                    by_cases e : t = j
                    · rw [e]; exact he
                    · exact hn.out t (by omega))
                  clear he
                  go_wp2_with fail
                  go_quiet (fail)
                  go_wp2
                  go_roundw
                  case measure => simp [intOf]; omega
                  case rel => exact ⟨j + 1, by omega, by go_num, HE.out, HB2.out, HL2.out.drewN _⟩
              · have hje : j = 3 := by omega
                have hmet := Lib.hid (show s.met x = false from sn_met_not HNA.out (hn.out 0 (by omega)) (hn.out 1 (by omega)) (hn.out 2 (by omega)))
                clear hje
                go_wp2
                go_roundw
                case measure => simp [intOf]; omega
                case rel => exact ⟨k + 1, by omega, by go_num, by rw [hms.out]; exact hmet.out, HB.out.trans (HL2.out.mono (by simp; have := HB.out.size; simp at this; omega))⟩
    · have hke : k = m := by omega
      have hmet := Lib.hid (show q.met x = false by rw [← hF.out, ← hke]; exact hm.out)
      clear hke hbel X R
      go_wp2
      go_ret
      exact ⟨by rw [hmet.out]; rfl, hB1.out.trans (HB.out.mono (by simp))⟩
set_option maxHeartbeats 1000000 in
theorem rforget_any {w : World} {B g gv m : Nat} {vb vi : Value} {q : Q} {L : List Bi} (h : IsR w B g gv vb vi m q L) (hBw : B ≤ w.heap.size) (hl : L.length < 1000000) (a : Int) :
    Calls Try.prog 48 #[.pointer (some ⟨g, 0, none⟩), .int .i64 a] w fun e w' => ∃ vb', e = .returned (.tuple #[]) ∧ IsR w' B g gv vb' vi m q (forgetL L a) ∧ Kept w w' (fun k => k = g) ∧ (∀ k, vb'.ownBlock = some k → w.heap.size ≤ k) := by
  obtain ⟨A, c, rfl, hc1, hc2⟩ := Row.shape h.brow
  have hc3 : c ≤ 9223372036854775807 := by simpa [maxLen] using hc2
  have H := Lib.hid h
  clear hc2 h
  go_enter Try.func48, Try.ntmps48
  go_wp2
  go_loopw [4, 5] (fun l i wr => ∃ k : Nat, k ≤ L.length ∧ i = .int .i64 k ∧ Row wr w.heap.size 85 2 l (forgetL (L.take k) a).length (flatB (forgetL (L.take k) a)) ∧ Below w.heap.size w wr) (fun _ i _ => L.length - (intOf i).toNat)
  case atStart => exact ⟨0, Nat.zero_le _, rfl, World.ownsRow_nil _ _ _ _, Below.refl _ _⟩
  case round =>
    obtain ⟨k, hk, rfl, hrow, hbel⟩ := hrel
    have hR := H.out.below hbel
    have c3 := hR.blk.cell 3 rfl
    have hsz := hbel.size
    by_cases hlt : k < L.length
    · obtain ⟨bb, off, rfl, hb, hcell⟩ := Rd.elem (Row.rd hR.brow) hlt
      have hat := fun i hi => (hcell i hi).trans (flatB_at L k hlt i hi)
      have d0 := hat 0 (by decide)
      have d1 := hat 1 (by decide)
      simp only [bCells, List.getElem?_cons_zero, List.getElem?_cons_succ, Nat.add_zero] at d0 d1
      have hfs := Lib.hid (forget_snoc hlt a)
      have hfl := Lib.hid (forget_le (L.take k) a)
      have HB := Lib.hid hbel
      obtain ⟨x, hx⟩ : ∃ x, L[k] = x := ⟨_, rfl⟩
      rw [hx] at d0 d1 hfs
      clear hcell hat hR hx hbel
      by_cases hxa : x.1 = a
      · have e1 : (x.1 == a) = true := beq_iff_eq.2 hxa
        have e2 : (x.1 != a) = false := by simp [hxa]
        have HX := Lib.hid (show forgetL (L.take (k + 1)) a = forgetL (L.take k) a by rw [hfs.out, if_pos hxa])
        clear hxa
        go_wp2
        go_roundw
        case measure => simp [intOf]; omega
        case rel => exact ⟨k + 1, by omega, by go_num, by rw [HX.out]; exact hrow, HB.out⟩
      · have e1 : (x.1 == a) = false := beq_eq_false_iff_ne.2 hxa
        have e2 : (x.1 != a) = true := by simp [hxa]
        have HX := Lib.hid (show forgetL (L.take (k + 1)) a = forgetL (L.take k) a ++ [x] by rw [hfs.out, if_neg hxa])
        clear hxa
        go_wp2_with (at_builtin; refine wpList_app rfl (.tmp 25) (.tmp 33) rfl Try.underlying73 info85 rfl (by decide) (by decide) w.heap.size u4 _ _ wr.heap.size (bCells x) rfl (World.ownsRow.alloc hrow _) rfl (Blk.new wr 85 (bCells x)) rfl (bCells_one x) (by simp; omega) (by have := hfl.out; simp at this; omega) ?_)
        intro v1 w1 ho1 hk1 hm1
        have HO := Lib.hid (show Row w1 w.heap.size 85 2 v1 (forgetL (L.take (k + 1)) a).length (flatB (forgetL (L.take (k + 1)) a)) by rw [HX.out, flatB_app]; simpa [flatB] using ho1)
        have HK := Lib.hid (HB.out.trans (((Below.refl _ wr).alloc (Nat.le_refl _) (.cells (bCells x).toArray 85)).mono hsz) |>.trans (hk1.below (by simp; omega) (fun i hi => (Row.at_lt hrow hi).1)))
        clear ho1 hk1 hm1 hrow d0 d1
        go_wp2
        go_roundw
        case measure => simp [intOf]; omega
        case rel => exact ⟨k + 1, by omega, by go_num, HO.out, HK.out⟩
    · have hkn : k = L.length := by omega
      rw [hkn, List.take_length] at hrow
      obtain ⟨A4, c4, rfl, _, _⟩ := Row.shape hrow
      have f3 := hR.blk.free 3
      have HI := Lib.hid hR
      have HO := Lib.hid hrow
      have HB := Lib.hid hbel
      clear hkn hrow hbel hR
      go_wp2
      have kk : Kept wr (wr.setCell ⟨g, 3, none⟩ (.slice A4 (forgetL L a).length c4)) (fun i => i = g) := (Kept.refl wr (fun i => i = g)).setCell (p := ⟨g, 3, none⟩) (.inl rfl) _
      go_returns
      refine ⟨(.slice A4 (forgetL L a).length c4), rfl, ⟨HI.out.lo, HI.out.lov, HI.out.nm, Blk.of (HI.out.blk.set 3 _) rfl, HI.out.vis.keep kk HI.out.ne_vis, Row.mono (Row.keep HO.out kk (fun i hi e => Row.ne_blk HO.out HI.out.blk (by decide) (e ▸ hi))) hBw, Row.keep HI.out.irow kk (fun i hi e => HI.out.ne_i (e ▸ hi))⟩, (Kept.of_below HB.out _).trans kk (fun _ _ e => e), fun i hi => (Row.at_lt HO.out hi).1⟩
theorem rwaiting_any {w : World} {B g gv m : Nat} {vb vi : Value} {q : Q} {L : List Bi} (h : IsR w B g gv vb vi m q L) (hl : q.ws.length < 1000000) :
    Calls Try.prog 40 #[.pointer (some ⟨g, 0, none⟩)] w (Gives (addrs q.ws) w) := by
  obtain ⟨A, c, rfl, hc1, hc2⟩ := Row.shape h.irow
  have hc3 : c ≤ 9223372036854775807 := by simpa [maxLen] using hc2
  have H := Lib.hid h
  clear hc2 h
  go_enter Try.func40, Try.ntmps40
  go_wp2
  go_loopw [3, 4] (fun u i wr => ∃ k : Nat, k ≤ q.ws.length ∧ i = .int .i64 k ∧ Own wr w.heap.size u (addrs (q.ws.take k)) ∧ Below w.heap.size w wr) (fun _ i _ => q.ws.length - (intOf i).toNat)
  case atStart => exact ⟨0, Nat.zero_le _, rfl, Own.nil _ _, Below.refl _ _⟩
  case round =>
    obtain ⟨k, hk, rfl, hown, hbel⟩ := hrel
    have hR := H.out.below hbel
    have c4 := hR.blk.cell 4 rfl
    have hsz := hbel.size
    by_cases hlt : k < q.ws.length
    · obtain ⟨bb, off, rfl, hb, hcell⟩ := Rd.elem (Row.rd hR.irow) hlt
      have d0 := (hcell 0 (by decide)).trans (flat_at q.ws k hlt 0 (by decide))
      simp only [lCells, List.getElem?_cons_zero, Nat.add_zero] at d0
      have Htk := Lib.hid (addrs_snoc hlt)
      have hlen : (addrs (q.ws.take k)).length < 1000000 := by simp [addrs]; omega
      have HB := Lib.hid hbel
      clear hcell hR hbel
      go_wp2_with (at_builtin; refine wpList_append_int rfl (.tmp 17) (.tmp 26) rfl Try.underlying32 info3 w.heap.size u3 (addrs (q.ws.take k)) _ _ rfl hown rfl ?c1 hsz hlen ?_)
      case c1 => rfl
      intro v1 w1 ho1 hk1 hm1
      have HO := Lib.hid (show Own w1 w.heap.size v1 (addrs (q.ws.take (k + 1))) by rw [Htk.out]; exact ho1)
      have HK := Lib.hid (HB.out.trans (hk1.below hsz (fun i hi => (Row.at_lt hown hi).1)))
      clear ho1 hk1 hm1 hown
      go_wp2
      go_roundw
      case measure => simp [intOf]; omega
      case rel => exact ⟨k + 1, by omega, by go_num, HO.out, HK.out⟩
    · have hkn : k = q.ws.length := by omega
      have Hkn := Lib.hid hkn
      clear hkn hR
      go_wp2
      go_ret
      exact ⟨u3, rfl, by rw [Hkn.out, List.take_length] at hown; exact hown, hbel⟩
end Go.Proofs.Ytiokifkppfegfaa
