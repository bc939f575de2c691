/-
  What a thread holds is not given back: plain.
-/
import Derived.Test.YtphahilggfckaaaLaws3
set_option linter.unusedVariables false
set_option linter.unusedSimpArgs false
namespace Go.Proofs.Ytphahilggfckaaa
open Go.RowKit Mem Qm
set_option maxRecDepth 100000

/-- What is given back nobody holds. -/
theorem step_back (q : Q) (d : Deed) : ∀ x ∈ (stepQ q d).2.1, (stepQ q d).1.c x = 0 := by
  have key : ∀ (q' : Q) (ws : List Int), ∀ x ∈ backs q' ws, q'.loose.c x = 0 := fun q' ws x hx => by
    have h9 := (List.mem_filter.1 hx).2
    have h8 : q'.c x = 0 := by simpa using h9
    exact h8
  unfold stepQ inQ outQ holdQ retQ restQ
  repeat' split
  all_goals first
    | (intro x hx; cases hx)
    | exact key _ _
theorem nth_set3 {l : List Int} {a b : Nat} (h : a + 2 < l.length) (hb : b < a ∨ a + 2 < b) : nth (((l.set (a + 0) 0).set (a + 1) 0).set (a + 2) 0) b = nth l b := by
  rw [nth_set (by simp; omega), nth_set (by simp; omega), nth_set (by omega), if_neg (by omega), if_neg (by omega), if_neg (by omega)]
/-- A hold stays, whatever another does. -/
theorem step_keep {q : Q} {d : Deed} {t k : Nat} (hl : q.hs.length = q.n * 3) (hk : k < 3) (h : ¬ (d.th = (t : Int) ∧ (d.what = 1 ∨ (d.what = 2 ∧ d.ho = (k : Int))))) : nth (stepQ q d).1.hs (t * 3 + k) = nth q.hs (t * 3 + k) := by
  by_cases h1 : d.what = 1 ∧ q.ok d.th
  · rw [step_out h1.1 h1.2]
    have h2 : d.th ≠ t := fun e => h ⟨e, .inl h1.1⟩
    have h3 := h1.2.1
    have h4 := h1.2.2
    rw [nth_set3 (by omega) (by omega)]
  · by_cases h2 : d.what = 2 ∧ (stepQ q d).2.2 = 0
    · obtain ⟨h5, h6, h7, h8, h9⟩ := step_hold h2.1 h2.2
      have h3 := h5.1
      have h4 := h5.2
      rw [h9, nth_set (by omega), if_neg]
      intro e
      exact h ⟨by omega, .inr ⟨h2.1, by omega⟩⟩
    · rw [step_same h1 h2]
theorem held_c {q : Q} {i : Nat} {a : Int} (ha : 0 < a) (hi : i < q.hs.length) (h : nth q.hs i = a) : 1 ≤ q.c a := by
  have := cnt_pos (l := q.hs) (i := i) hi
  rw [h] at this
  unfold Q.c
  rw [if_neg (by omega)]
  omega
/-- What is held is not given back. -/
theorem step_not {q : Q} {d : Deed} {a : Int} (h : 1 ≤ (stepQ q d).1.c a) : hasL (stepQ q d).2.1 a = false := by
  cases hh : hasL (stepQ q d).2.1 a with
  | false => rfl
  | true =>
    simp only [hasL, List.any_eq_true, decide_eq_true_eq] at hh
    obtain ⟨y, hy, rfl⟩ := hh
    have := step_back q d y hy
    omega
/-- What is held waits. -/
theorem ret_held {q : Q} {a t : Int} (hI : Inv q) (hc : 1 ≤ q.c a) (ha : 0 < a) (ht : q.ok t) : (retQ q t a).2.1 = [] ∧ ((retQ q t a).2.2 = 0 ∨ (retQ q t a).2.2 = 6) ∧ hasL (retQ q t a).1.ws a = true := by
  cases hw : hasB q.ws a with
  | true =>
    have e : retQ q t a = (q, [], 6) := by unfold retQ; rw [if_pos ⟨ht, ha⟩, if_pos hw]
    rw [e]
    exact ⟨rfl, .inr rfl, by rw [hasL_hasB]; exact hw⟩
  | false =>
    have e : retQ q t a = ((q.add a).loose, backs (q.add a) (q.add a).ws, 0) := by unfold retQ; rw [if_pos ⟨ht, ha⟩, if_neg (by rw [hw]; decide)]
    have hca : (q.add a).c a ≠ 0 := by show q.c a ≠ 0; omega
    have hb : backs (q.add a) q.ws = [] := inv_backs hI
    rw [e]
    refine ⟨?_, .inl rfl, ?_⟩
    · show backs (q.add a) (q.ws ++ [a]) = []
      rw [backs, List.filter_append]
      show backs (q.add a) q.ws ++ _ = _
      rw [hb]; simp [hca]
    · show hasL (lefts (q.add a) (q.ws ++ [a])) a = true
      simp only [hasL, List.any_eq_true, decide_eq_true_eq]
      exact ⟨a, List.mem_filter.2 ⟨by simp, by simp [hca]⟩, rfl⟩
theorem uint_mod3 (x : Int) : ∃ k : Nat, k < 3 ∧ wrap64 ((IntKind.u64.wrap x).tmod 3) = (k : Int) := uint_mod x (m := 3) (by decide) (by decide)
end Go.Proofs.Ytphahilggfckaaa
