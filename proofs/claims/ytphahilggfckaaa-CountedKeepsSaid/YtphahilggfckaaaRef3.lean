/-
  The document's manager, of the kind that counts: the walks of Sweep, Rest.
-/
import Derived.Test.YtphahilggfckaaaRef2
set_option linter.unusedVariables false
set_option linter.unusedSimpArgs false
namespace Go.Proofs.Ytphahilggfckaaa
open Go.RowKit Mem Qm
set_option maxRecDepth 100000

theorem info78 : (Try.prog.info? 78).map (fun i => (i.zero, i.size, i.bytes)) = some (some (.agg #[.int .i64 0, .int .i64 0, .int .i64 0, .int .i64 0, .bool false, .bool false, .bool false, .bool false]), 8, 40) := by kernel_rfl
theorem iCells_one (x : It) : ∀ u ∈ iCells x, u.oneCell' = true := by
  intro u hu; simp only [iCells, List.mem_cons, List.not_mem_nil, or_false] at hu; rcases hu with rfl | rfl | rfl | rfl | rfl | rfl | rfl | rfl <;> rfl
def leftsI (q : Q) (L : List It) : List It := L.filter fun x => !decide (q.c x.1 = 0)
theorem leftsI_snoc {q : Q} {L : List It} {k : Nat} (h : k < L.length) : leftsI q (L.take (k + 1)) = if q.c L[k].1 = 0 then leftsI q (L.take k) else leftsI q (L.take k) ++ [L[k]] := by
  rw [take_snoc h, leftsI, List.filter_append]
  split
  · rename_i hn; simp [hn, leftsI]
  · rename_i hn; simp [hn, leftsI]
theorem backsI_snoc {q : Q} {L : List It} {k : Nat} (h : k < L.length) : backs q (adI (L.take (k + 1))) = if q.c L[k].1 = 0 then backs q (adI (L.take k)) ++ [L[k].1] else backs q (adI (L.take k)) := by
  rw [adI_snoc h, backs, List.filter_append]
  split
  · rename_i hn; simp [hn, backs]
  · rename_i hn; simp [hn, backs]
theorem leftsI_le (q : Q) (L : List It) : (leftsI q L).length ≤ L.length := List.length_filter_le _ _
theorem adI_lefts (q : Q) : ∀ L : List It, adI (leftsI q L) = lefts q (adI L)
  | [] => rfl
  | x :: t => by
    have ih := adI_lefts q t
    simp only [adI, leftsI, lefts, List.map_cons] at ih ⊢
    by_cases h : q.c x.1 = 0
    · rw [List.filter_cons_of_neg (by simp [h]), List.filter_cons_of_neg (by simp [h])]; exact ih
    · rw [List.filter_cons_of_pos (by simp [h]), List.filter_cons_of_pos (by simp [h]), List.map_cons, ih]
theorem backsI_le (q : Q) (L : List It) : (backs q (adI L)).length ≤ L.length := Nat.le_trans (backs_le q _) (by simp [adI])
/-- What a sweep, or a call that ends in one, leaves. -/
def SweptM (w : World) (B g : Nat) (mv : Value) (l : List Int) (q : Q) (F : Value → Ending) (e : Ending) (w' : World) : Prop :=
  ∃ u mv' bl its, e = F u ∧ Own w' w.heap.size u l ∧ IsM w' B g mv' q bl its ∧ Kept w w' (footM g mv) ∧ Moved w mv mv'
theorem SweptM.after {w w1 : World} {B g : Nat} {mv mv1 : Value} {l : List Int} {q : Q} {F : Value → Ending} {e : Ending} {w' : World} (h : SweptM w1 B g mv1 l q F e w') (hk : Kept w w1 (footM g mv)) (hm : Moved w mv mv1) : SweptM w B g mv l q F e w' := by
  obtain ⟨u, mv', bl, its, he, ho, hi, hk2, hm2⟩ := h
  refine ⟨u, mv', bl, its, he, Row.mono ho hk.size, hi, hk.trans hk2 (fun i hi hf => ?_), fun i hi => ?_⟩
  · rcases hf with e | e
    · exact .inl e
    · exact (hm i e).elim .inr (fun h => absurd hi (by omega))
  · rcases hm2 i hi with e | e
    · exact hm i e
    · exact .inr (Nat.le_trans hk.size e)
section
variable {w : World} {B g : Nat} {mv : Value} {q : Q} {bl : List Bool} {its : List It}
set_option maxHeartbeats 2000000 in
theorem rsweep_any (h : IsM w B g mv q bl its) (hv : NN q) (hBw : B ≤ w.heap.size) (hl : its.length < 1000000) :
    Calls Try.prog 48 #[.pointer (some ⟨g, 0, none⟩), .int .i64 (-1)] w (SweptM w B g mv (backs q q.ws) q.loose .returned) := by
  obtain ⟨A, c, rfl, hc1, hc2⟩ := Row.shape h.row
  have hc3 : c ≤ 9223372036854775807 := by simpa [maxLen] using hc2
  have H := Lib.hid h
  have HV := Lib.hid hv
  clear hc2 h hv
  go_enter Try.func48, Try.ntmps48
  go_wp2
  go_loopw [5, 6, 7] (fun l u i wr => ∃ k : Nat, k ≤ its.length ∧ i = .int .i64 k ∧ Own wr w.heap.size u (backs q (adI (its.take k))) ∧ Row wr w.heap.size 78 8 l (leftsI q (its.take k)).length (flatI (leftsI q (its.take k))) ∧ Below w.heap.size w wr) (fun _ _ i _ => its.length - (intOf i).toNat)
  case atStart => exact ⟨0, Nat.zero_le _, rfl, Own.nil _ _, World.ownsRow_nil _ _ _ _, Below.refl _ _⟩
  case round =>
    obtain ⟨k, hk, rfl, hown, hrow, hbel⟩ := hrel
    have hR := H.out.below hbel
    have c28 := hR.blk.cell 28 (m_items hR.h12 hR.b4)
    have hsz := hbel.size
    by_cases hlt : k < its.length
    · obtain ⟨bb, off, rfl, hb, hcell⟩ := Rd.elem (Row.rd hR.row) hlt
      have hat := fun i hi => (hcell i hi).trans (flatI_at its k hlt i hi)
      have d0 := hat 0 (by decide)
      have d1 := hat 1 (by decide)
      have d2 := hat 2 (by decide)
      have d3 := hat 3 (by decide)
      have d4 := hat 4 (by decide)
      have d5 := hat 5 (by decide)
      have d6 := hat 6 (by decide)
      have d7 := hat 7 (by decide)
      simp only [iCells, List.getElem?_cons_zero, List.getElem?_cons_succ, Nat.add_zero] at d0 d1 d2 d3 d4 d5 d6 d7
      have hbs := Lib.hid (backsI_snoc (q := q) hlt)
      have hls := Lib.hid (leftsI_snoc (q := q) hlt)
      have hbl := Lib.hid (backsI_le q (its.take k))
      have hll := Lib.hid (leftsI_le q (its.take k))
      have HB := Lib.hid hbel
      have HOW := Lib.hid hown
      have HRO := Lib.hid hrow
      have HR := Lib.hid hR
      obtain ⟨x, hx⟩ : ∃ x, its[k] = x := ⟨_, rfl⟩
      rw [hx] at d0 d1 hbs hls
      clear hcell hat hx hbel hown hrow hR
      go_wp2_with fail
      obtain ⟨WA, hWA⟩ : ∃ WA : World, WA = wr.alloc (.cells #[.int .i64 x.1, .int .i64 x.2, .int .i64 0, .int .i64 0, .bool false, .bool false, .bool false, .bool false] 78) := ⟨_, rfl⟩
      rw [← hWA]
      have bA : Below wr.heap.size wr WA := by rw [hWA]; exact (Below.refl _ _).alloc (Nat.le_refl _) _
      have HX := Lib.hid (show Blk WA wr.heap.size 78 (iCells x) by rw [hWA]; exact Blk.new wr 78 (iCells x))
      have sA := bA.size
      have HBA := Lib.hid bA
      clear hWA bA
      refine (rfree_any (HR.out.below HBA.out) HV.out x).mono ?_
      rintro e w2 ⟨rfl, b2⟩
      have HX2 := Lib.hid (HX.out.below b2)
      have HB2 := Lib.hid (HBA.out.trans (b2.mono sA))
      have HBL := Lib.hid (HB.out.trans (HB2.out.mono hsz))
      have s2 := b2.size
      have x0 := HX2.out.cell 0 rfl
      clear b2
      by_cases hm : q.c x.1 = 0
      · have hmd : decide (q.c x.1 = 0) = true := decide_eq_true hm
        have hbs2 := Lib.hid (show backs q (adI (its.take (k + 1))) = backs q (adI (its.take k)) ++ [x.1] by rw [hbs.out, if_pos hm])
        have hls2 := Lib.hid (show leftsI q (its.take (k + 1)) = leftsI q (its.take k) by rw [hls.out, if_pos hm])
        clear hm d0 d1 d2 d3 d4 d5 d6 d7 c28
        go_wp2_with (at_builtin; refine wpList_append_int rfl (.tmp 39) (.tmp 42) rfl Try.underlying42 info3 w.heap.size u6 (backs q (adI (its.take k))) _ _ rfl (Row.below HOW.out HB2.out) rfl ?c1 (by omega) (by have := hbl.out; simp at this; omega) ?_)
        case c1 => rfl
        intro v1 w3 ho1 hk1 hm1
        have HU := Lib.hid (show Own w3 w.heap.size v1 (backs q (adI (its.take (k + 1)))) by rw [hbs2.out]; exact ho1)
        have HO := Lib.hid (show Row w3 w.heap.size 78 8 u5 (leftsI q (its.take (k + 1))).length (flatI (leftsI q (its.take (k + 1)))) by rw [hls2.out]; exact Row.keep (Row.below HRO.out HB2.out) hk1 (fun i hi => fun e => Row.ne_row HRO.out HOW.out (by decide) hi e))
        have HK := Lib.hid (HBL.out.trans (hk1.below (by omega) (fun i hi => (Row.at_lt HOW.out hi).1)))
        clear ho1 hk1 hm1
        go_wp2
        go_roundw
        case measure => simp [intOf]; omega
        case rel => exact ⟨k + 1, by omega, by go_num, HU.out, HO.out, HK.out⟩
      · have hmd : decide (q.c x.1 = 0) = false := decide_eq_false hm
        have hbs2 := Lib.hid (show backs q (adI (its.take (k + 1))) = backs q (adI (its.take k)) by rw [hbs.out, if_neg hm])
        have hls2 := Lib.hid (show leftsI q (its.take (k + 1)) = leftsI q (its.take k) ++ [x] by rw [hls.out, if_neg hm])
        have x1 := HX2.out.cell 1 rfl
        have x2 := HX2.out.cell 2 rfl
        have x3 := HX2.out.cell 3 rfl
        have x4 := HX2.out.cell 4 rfl
        have x5 := HX2.out.cell 5 rfl
        have x6 := HX2.out.cell 6 rfl
        have x7 := HX2.out.cell 7 rfl
        clear hm d0 d1 d2 d3 d4 d5 d6 d7 c28
        go_wp2_with (at_builtin; refine wpList_app rfl (.tmp 44) (.tmp 46) rfl Try.underlying34 info78 rfl (by decide) (by decide) w.heap.size u5 _ _ w2.heap.size (iCells x) rfl (World.ownsRow.alloc (Row.below HRO.out HB2.out) _) rfl (Blk.new w2 78 (iCells x)) rfl (iCells_one x) (by simp; omega) (by have := hll.out; simp at this; omega) ?_)
        intro v1 w3 ho1 hk1 hm1
        have HO := Lib.hid (show Row w3 w.heap.size 78 8 v1 (leftsI q (its.take (k + 1))).length (flatI (leftsI q (its.take (k + 1)))) by rw [hls2.out, flatI_app]; simpa [flatI] using ho1)
        have HU := Lib.hid (show Own w3 w.heap.size u6 (backs q (adI (its.take (k + 1)))) by rw [hbs2.out]; exact Row.keep (World.ownsRow.alloc (Row.below HOW.out HB2.out) _) hk1 (fun i hi => fun e => Row.ne_row HOW.out HRO.out (by decide) hi e))
        have HK := Lib.hid (HBL.out.trans (((Below.refl _ w2).alloc (Nat.le_refl _) (.cells (iCells x).toArray 78)).mono (by omega)) |>.trans (hk1.below (by simp; omega) (fun i hi => (Row.at_lt HRO.out hi).1)))
        clear ho1 hk1 hm1 x0 x1 x2 x3 x4 x5 x6 x7
        go_wp2
        go_roundw
        case measure => simp [intOf]; omega
        case rel => exact ⟨k + 1, by omega, by go_num, HU.out, HO.out, HK.out⟩
    · have hkn : k = its.length := by omega
      rw [hkn, List.take_length] at hown hrow
      rw [hR.eqw] at hown
      obtain ⟨A4, c4', rfl, _, _⟩ := Row.shape hrow
      obtain ⟨A3, c3', rfl, hc31, hc32⟩ := Row.shape hown
      have f28 := hR.blk.free 28
      have HI := Lib.hid hR
      have HO := Lib.hid hown
      have HR := Lib.hid hrow
      have HB := Lib.hid hbel
      have hbl := Lib.hid (backs_le q q.ws)
      have hc33 : c3' ≤ 9223372036854775807 := by simpa [maxLen] using hc32
      clear hkn hown hrow hbel hR hc32
      go_wp2_with fail
      have kk : Kept wr (wr.setCell ⟨g, 28, none⟩ (.slice A4 (leftsI q its).length c4')) (fun i => i = g) := (Kept.refl wr (fun i => i = g)).setCell (p := ⟨g, 28, none⟩) (.inl rfl) _
      have hi1 : IsM (wr.setCell ⟨g, 28, none⟩ (.slice A4 (leftsI q its).length c4')) B g (.slice A4 (leftsI q its).length c4') q.loose bl (leftsI q its) := by
        refine ⟨HI.out.lo, ?_, Row.mono (Row.keep HR.out kk (fun i hi e => Row.ne_blk HR.out HI.out.blk (by decide) (e ▸ hi))) hBw, HI.out.h12, HI.out.b4, ?_, HI.out.n1, HI.out.n4, HI.out.len⟩
        · have := Blk.set HI.out.blk 28 (.slice A4 (leftsI q its).length c4')
          rwa [m_set_items HI.out.h12 HI.out.b4] at this
        · rw [adI_lefts, HI.out.eqw]; rfl
      have ho1 : Own (wr.setCell ⟨g, 28, none⟩ (.slice A4 (leftsI q its).length c4')) w.heap.size (.slice A3 (backs q q.ws).length c3') (backs q q.ws) := Row.keep HO.out kk (fun i hi e => Row.ne_blk HO.out HI.out.blk (by decide) (e ▸ hi))
      have hk1 : Kept w (wr.setCell ⟨g, 28, none⟩ (.slice A4 (leftsI q its).length c4')) (footM g (.slice A its.length c)) := (Kept.of_below HB.out _).trans kk (fun i _ e => .inl e)
      have HI1 := Lib.hid hi1
      have HO1 := Lib.hid ho1
      have HK1 := Lib.hid hk1
      have HML := Lib.hid (show ∀ i, (Value.slice A4 (leftsI q its).length c4').ownBlock = some i → w.heap.size ≤ i from fun i hi => (Row.at_lt HR.out hi).1)
      clear kk hi1 ho1 hk1 c28 f28
      go_loopw [9] (fun i w2 => ∃ (j : Nat), j ≤ (backs q q.ws).length ∧ i = .int .i64 j ∧ Own w2 w.heap.size (.slice A3 (backs q q.ws).length c3') (backs q q.ws) ∧ IsM w2 B g (.slice A4 (leftsI q its).length c4') q.loose bl (leftsI q its) ∧ Kept w w2 (footM g (.slice A its.length c))) (fun i _ => (backs q q.ws).length - (intOf i).toNat)
      case atStart => exact ⟨0, Nat.zero_le _, rfl, HO1.out, HI1.out, HK1.out⟩
      case round =>
        obtain ⟨j, hj, rfl, ho2, hi2, hk2⟩ := hrel
        have HO2 := Lib.hid ho2
        have HI2 := Lib.hid hi2
        have HK2 := Lib.hid hk2
        clear hi2 hk2
        by_cases hjl : j < (backs q q.ws).length
        · obtain ⟨b9, o9, rfl, hb9, hc9⟩ := (Row.rd ho2).one hjl
          have dj := hc9.trans (Qm.ints_at _ j hjl)
          clear hc9 ho2
          go_wp2_with fail
          refine (rbear_any HI2.out _).mono ?_
          rintro e w3 ⟨rfl, hi3, hk3⟩
          have HI3 := Lib.hid hi3
          have HO3 := Lib.hid (Row.keep HO2.out hk3 (fun i hi e => Row.ne_blk HO2.out HI2.out.blk (by decide) (e ▸ hi)))
          have HK3 := Lib.hid (HK2.out.trans hk3 (fun i _ e => .inl e))
          clear hi3 hk3 dj
          go_wp2
          go_roundw
          case measure => simp [intOf]; omega
          case rel => exact ⟨j + 1, by omega, by go_num, HO3.out, HI3.out, HK3.out⟩
        · clear ho2
          go_wp2
          go_ret
          exact ⟨_, _, bl, _, rfl, HO2.out, HI2.out, HK2.out, fun i hi => .inr (HML.out i hi)⟩
theorem rrest_any (h : IsM w B g mv q bl its) (hv : NN q) (hBw : B ≤ w.heap.size) (hl : its.length < 1000000) :
    Calls Try.prog 40 #[.pointer (some ⟨g, 0, none⟩)] w (SweptM w B g mv (backs q q.ws) q.loose .returned) := by
  have c0 := h.blk.cell 0 rfl
  have c1 := h.blk.cell 1 rfl
  have H := Lib.hid h
  clear h
  go_enter Try.func40, Try.ntmps40
  go_wp2_with fail
  refine (rsweep_any H.out hv hBw hl).mono ?_
  rintro e w1 ⟨u, mv', bl', its', rfl, h1, h2, h3, h4⟩
  have HH := Lib.hid (show Own w1 w.heap.size u (backs q q.ws) ∧ IsM w1 B g mv' q.loose bl' its' ∧ Kept w w1 (footM g mv) ∧ Moved w mv mv' from ⟨h1, h2, h3, h4⟩)
  clear h1 h2 h3 h4
  go_wp2
  go_ret
  exact ⟨u, mv', bl', its', rfl, HH.out⟩
end
end Go.Proofs.Ytphahilggfckaaa
