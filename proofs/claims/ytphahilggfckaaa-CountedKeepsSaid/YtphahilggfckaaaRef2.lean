/-
  The document's manager, of the kind that counts: the walks of Count, Waits, Birth, Bear, Free.
-/
import Derived.Test.YtphahilggfckaaaRefNew
import Derived.Test.YtphahilggfckaaaLaws1
set_option linter.unusedVariables false
set_option linter.unusedSimpArgs false
namespace Go.Proofs.Ytphahilggfckaaa
open Go.RowKit Mem Qm
set_option maxRecDepth 100000

theorem cnt_h12 (q : Q) {a : Int} (h : a ≠ 0) : cnt (h12 q) a = cnt q.hs a := by rw [h12, cnt_app, cnt_zeros _ h]; rfl
theorem c_h12 {q : Q} (h : NN q) (a : Int) : q.c a = if 0 < a then (cnt (h12 q) a : Int) else 0 := by
  rw [c_count h]
  split
  · rename_i ha; rw [cnt_h12 q (by omega)]
  · rfl
section
variable {w : World} {B g : Nat} {mv : Value} {q : Q} {bl : List Bool} {its : List It}
set_option maxHeartbeats 1000000 in
theorem rcount_any (h : IsM w B g mv q bl its) (hv : NN q) (a : Int) :
    Calls Try.prog 24 #[.pointer (some ⟨g, 0, none⟩), .int .i64 a] w fun e w' => e = .returned (.int .i64 (q.c a)) ∧ w = w' := by
  have HC := Lib.hid (c_h12 hv a)
  have HB := Lib.hid h.blk
  have HL := Lib.hid h.h12
  clear h hv
  go_enter Try.func24, Try.ntmps24
  go_wp2
  go_loop [5, 6] (fun c' t' => ∃ (j : Nat) (cc : Int), j ≤ 4 ∧ t' = .int .i64 j ∧ c' = .int .i64 cc ∧ 0 ≤ cc ∧ cc ≤ 3 * j ∧ Hid (cc = if 0 < a then (cnt ((h12 q).take (j * 3)) a : Int) else 0)) (fun _ t' => 4 - (intOf t').toNat)
  case atStart => exact ⟨0, 0, Nat.zero_le _, rfl, rfl, by omega, by omega, Lib.hid (by simp [cnt])⟩
  case round =>
    obtain ⟨j, cc, hj, rfl, rfl, hc0, hc3, HCC⟩ := hrel
    by_cases hjm : j < 4
    · go_wp2_with fail
      go_loop [5, 7] (fun c' t' => ∃ (l : Nat) (cc : Int), l ≤ 3 ∧ t' = .int .i64 l ∧ c' = .int .i64 cc ∧ 0 ≤ cc ∧ cc ≤ 3 * j + l ∧ Hid (cc = if 0 < a then (cnt ((h12 q).take (j * 3 + l)) a : Int) else 0)) (fun _ t' => 3 - (intOf t').toNat)
      case atStart => exact ⟨0, cc, Nat.zero_le _, rfl, rfl, hc0, by omega, HCC⟩
      case round =>
        obtain ⟨l, c2, hl, rfl, rfl, hd0, hd3, HC2⟩ := hrel
        by_cases hl3 : l < 3
        · have hjl : j * 3 + l < (h12 q).length := by rw [HL.out]; omega
          have e0 := Blk.cell HB.out (4 + (j * 3 + l)) (m_hold HL.out (by omega))
          rw [← Nat.add_assoc, nth_at hjl] at e0
          have HS := Lib.hid (cnt_snoc hjl a)
          have jl0 : (l : Int) < 3 := by omega
          have jj4 : (j : Int) < 4 := by omega
          obtain ⟨x, hx⟩ : ∃ x, (h12 q)[j * 3 + l] = x := ⟨_, rfl⟩
          rw [hx] at e0 HS
          clear hx
          by_cases ha : 0 < a
          · by_cases hxa : x = a
            · have hb : (x == a) = true := beq_iff_eq.2 hxa
              have Hxa := Lib.hid hxa
              clear hxa
              go_wp2
              go_round
              case measure => simp [intOf]; omega
              case rel => exact ⟨l + 1, c2 + 1, by omega, by go_num, by go_num, by omega, by omega, Lib.hid (by
                have h1 := HC2.out; have h2 := HS.out; rw [if_pos ha] at h1 ⊢; rw [if_pos Hxa.out] at h2; rw [← Nat.add_assoc, h2]; omega)⟩
            · have hb : (x == a) = false := beq_eq_false_iff_ne.2 hxa
              have Hxa := Lib.hid hxa
              clear hxa
              go_wp2
              go_round
              case measure => simp [intOf]; omega
              case rel => exact ⟨l + 1, c2, by omega, by go_num, rfl, by omega, by omega, Lib.hid (by
                have h1 := HC2.out; have h2 := HS.out; rw [if_pos ha] at h1 ⊢; rw [if_neg Hxa.out] at h2; rw [← Nat.add_assoc, h2]; omega)⟩
          · go_wp2
            go_round
            case measure => simp [intOf]; omega
            case rel => exact ⟨l + 1, c2, by omega, by go_num, rfl, by omega, by omega, Lib.hid (by
              have h1 := HC2.out; rw [if_neg ha] at h1 ⊢; exact h1)⟩
        · have hle : l = 3 := by omega
          have HC3 := Lib.hid (show c2 = if 0 < a then (cnt ((h12 q).take ((j + 1) * 3)) a : Int) else 0 by have := HC2.out; rw [hle] at this; rw [Nat.succ_mul]; exact this)
          clear HC2 hle
          go_wp2
          go_round
          case measure => simp [intOf]; omega
          case rel => exact ⟨j + 1, c2, by omega, by go_num, rfl, by omega, by omega, HC3⟩
    · have hje : j = 4 := by omega
      have HEQ := Lib.hid (show q.c a = cc by
        have h1 := HCC.out
        rw [HC.out, h1, hje, show (h12 q).take (4 * 3) = h12 q from List.take_of_length_le (by rw [HL.out]; decide)])
      clear hje
      go_wp2
      go_ret
      exact ⟨by rw [HEQ.out]; simp, rfl⟩
theorem hasB_snoc {l : List Int} {k : Nat} (h : k < l.length) (x : Int) : hasB (l.take (k + 1)) x = (hasB (l.take k) x || decide (x = l[k])) := by
  rw [take_snoc h]; simp only [hasB, List.any_append, List.any_cons, List.any_nil, Bool.or_false]
theorem adI_at {L : List It} {k : Nat} (h : k < L.length) : (adI L)[k]'(by simp [adI]; exact h) = L[k].1 := by simp [adI]
set_option maxHeartbeats 400000 in
theorem rwaits_any (h : IsM w B g mv q bl its) (hl : its.length < 1000000) (a : Int) :
    Calls Try.prog 50 #[.pointer (some ⟨g, 0, none⟩), .int .i64 a] w fun e w' => e = .returned (.bool (hasB q.ws a)) ∧ w = w' := by
  obtain ⟨A, c, rfl, hc1, hc2⟩ := Row.shape h.row
  have hc3 : c ≤ 9223372036854775807 := by simpa [maxLen] using hc2
  have c28 := h.blk.cell 28 (m_items h.h12 h.b4)
  have HQ := Lib.hid h.eqw
  have H := Lib.hid h
  clear hc2 h
  go_enter Try.func50, Try.ntmps50
  go_wp2
  go_loop [5] (fun i => ∃ k : Nat, k ≤ its.length ∧ i = .int .i64 k ∧ Hid (hasB (adI (its.take k)) a = false)) (fun i => its.length - (intOf i).toNat)
  case atStart => exact ⟨0, Nat.zero_le _, rfl, Lib.hid rfl⟩
  case round =>
    obtain ⟨k, hk, rfl, hn⟩ := hrel
    by_cases hlt : k < its.length
    · obtain ⟨bb, off, rfl, hb, hcell⟩ := Rd.elem (Row.rd H.out.row) hlt
      have d0 := (hcell 0 (by decide)).trans (flatI_at its k hlt 0 (by decide))
      simp only [iCells, List.getElem?_cons_zero, Nat.add_zero] at d0
      have Hs := Lib.hid (adI_snoc hlt)
      have HX := Lib.hid (List.getElem_mem hlt)
      obtain ⟨x, hx⟩ : ∃ x, its[k] = x := ⟨_, rfl⟩
      rw [hx] at d0 Hs HX
      clear hcell hx
      by_cases he : x.1 = a
      · have e1 : (x.1 == a) = true := beq_iff_eq.2 he
        have HD := Lib.hid (show hasB q.ws a = true by
          rw [← HQ.out]
          simp only [hasB, List.any_eq_true, decide_eq_true_eq]
          exact ⟨a, List.mem_map.2 ⟨_, HX.out, he⟩, rfl⟩)
        clear he
        go_wp2
        go_ret
        exact ⟨by rw [HD.out]; rfl, rfl⟩
      · have e1 : (x.1 == a) = false := beq_eq_false_iff_ne.2 he
        have HN := Lib.hid (show hasB (adI (its.take (k + 1))) a = false by
          rw [Hs.out]
          simp only [hasB, List.any_append, List.any_cons, List.any_nil, Bool.or_false]
          have := hn.out
          simp only [hasB] at this
          rw [this, decide_eq_false (fun e => he e.symm)]; rfl)
        clear he
        go_wp2
        go_round
        case measure => simp [intOf]; omega
        case rel => exact ⟨k + 1, by omega, by go_num, HN⟩
    · have hkn : k = its.length := by omega
      have HD := Lib.hid (show hasB q.ws a = false by have := hn.out; rw [hkn, List.take_length, HQ.out] at this; exact this)
      clear hkn
      go_wp2
      go_ret
      exact ⟨by rw [HD.out]; rfl, rfl⟩
theorem rbirth_any (h : IsM w B g mv q bl its) (a : Int) :
    Calls Try.prog 51 #[.pointer (some ⟨g, 0, none⟩), .int .i64 a] w fun e w' => e = .returned (.int .i64 0) ∧ w = w' := by
  have c29 := h.blk.cell 29 (m_born h.h12 h.b4)
  clear h
  go_enter Try.func51, Try.ntmps51
  go_wp2
  go_loop [5] (fun i => i = .int .i64 0) (fun i => 0)
  case atStart => rfl
  case round =>
    obtain rfl := hrel
    go_wp2
    go_ret
    exact ⟨rfl, rfl⟩
theorem IsM.set_born (h : IsM w B g mv q bl its) : IsM (w.setCell ⟨g, 29, none⟩ (.slice none 0 0)) B g mv q bl its := by
  have kk : Kept w (w.setCell ⟨g, 29, none⟩ (.slice none 0 0)) (fun i => i = g) := (Kept.refl w (fun i => i = g)).setCell (p := ⟨g, 29, none⟩) (.inl rfl) _
  refine ⟨h.lo, ?_, Row.keep h.row kk (fun i hi e => h.ne (e ▸ hi)), h.h12, h.b4, h.eqw, h.n1, h.n4, h.len⟩
  have := Blk.set h.blk 29 (.slice none 0 0)
  rwa [m_set_born h.h12 h.b4] at this
theorem rbear_any (h : IsM w B g mv q bl its) (a : Int) :
    Calls Try.prog 49 #[.pointer (some ⟨g, 0, none⟩), .int .i64 a, .int .i64 0] w fun e w' => e = .returned (.tuple #[]) ∧ IsM w' B g mv q bl its ∧ Kept w w' (fun i => i = g) := by
  have c29 := h.blk.cell 29 (m_born h.h12 h.b4)
  have f29 := h.blk.free 29
  have HE := Lib.hid h.set_born
  clear h
  go_enter Try.func49, Try.ntmps49
  go_wp2
  go_loop [6, 7] (fun o i => o = .slice none 0 0 ∧ i = .int .i64 0) (fun _ _ => 0)
  case atStart => exact ⟨rfl, rfl⟩
  case round =>
    obtain ⟨rfl, rfl⟩ := hrel
    go_wp2
    go_returns
    exact ⟨rfl, HE.out, (Kept.refl w (fun i => i = g)).setCell (p := ⟨g, 29, none⟩) (.inl rfl) _⟩
def itV (x : It) : Value := .agg #[.int .i64 x.1, .int .i64 x.2, .int .i64 0, .int .i64 0, .bool false, .bool false, .bool false, .bool false]
theorem rfree_any (h : IsM w B g mv q bl its) (hv : NN q) (x : It) :
    Calls Try.prog 55 #[.pointer (some ⟨g, 0, none⟩), itV x] w fun e w' => e = .returned (.bool (decide (q.c x.1 = 0))) ∧ Below w.heap.size w w' := by
  simp only [itV]
  have b1 : Below w.heap.size w (w.alloc (.cells #[.int .i64 x.1, .int .i64 x.2, .int .i64 0, .int .i64 0, .bool false, .bool false, .bool false, .bool false] 78)) := (Below.refl _ _).alloc (Nat.le_refl _) _
  have c1 := (h.below b1).blk.cell 1 rfl
  have H := Lib.hid (h.below b1)
  have HV := Lib.hid hv
  have hgl := h.blk.lt
  clear h b1 hv
  go_enter Try.func55, Try.ntmps55
  go_wp2_with fail
  refine (rcount_any H.out HV.out x.1).mono ?_
  rintro e w1 ⟨rfl, rfl⟩
  go_wp2
  go_ret
  exact ⟨by rw [show (q.c x.1 == 0) = decide (q.c x.1 = 0) from rfl]; rfl, (Below.refl _ _).alloc (Nat.le_refl _) _⟩
end
end Go.Proofs.Ytphahilggfckaaa
