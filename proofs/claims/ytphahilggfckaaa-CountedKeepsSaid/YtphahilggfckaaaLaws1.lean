/-
  What the deeds make of the holds: plain.
-/
import Derived.Test.YtphahilggfckaaaLaws0
import Derived.Test.YtphahilggfckaaaRef1
set_option linter.unusedVariables false
set_option linter.unusedSimpArgs false
namespace Go.Proofs.Ytphahilggfckaaa
open Go.RowKit Mem Qm
set_option maxRecDepth 100000

theorem step_out {q : Q} {d : Deed} (h : d.what = 1) (ht : q.ok d.th) : (stepQ q d).1.hs = ((q.hs.set (d.th.toNat * 3 + 0) 0).set (d.th.toNat * 3 + 1) 0).set (d.th.toNat * 3 + 2) 0 := by
  unfold stepQ
  rw [if_neg (by omega), if_pos h]
  unfold outQ
  rw [if_pos ht]
  rfl
theorem step_hold {q : Q} {d : Deed} (h : d.what = 2) (he : (stepQ q d).2.2 = 0) : q.ok d.th ∧ 0 ≤ d.ho ∧ d.ho < 3 ∧ 0 ≤ d.ad ∧ (stepQ q d).1.hs = q.hs.set (d.th.toNat * 3 + d.ho.toNat) d.ad := by
  unfold stepQ at he ⊢
  rw [if_neg (by omega), if_neg (by omega), if_pos h] at he ⊢
  unfold holdQ at he ⊢
  split at he
  · rename_i hc
    rw [if_pos hc]
    exact ⟨hc.1, hc.2.1, hc.2.2.1, hc.2.2.2, rfl⟩
  · exact absurd (show (1 : Int) = 0 from he) (by decide)
theorem step_same {q : Q} {d : Deed} (h1 : ¬ (d.what = 1 ∧ q.ok d.th)) (h2 : ¬ (d.what = 2 ∧ (stepQ q d).2.2 = 0)) : (stepQ q d).1.hs = q.hs := by
  unfold stepQ at h2 ⊢
  split
  · unfold inQ; split <;> rfl
  split
  · rename_i h; unfold outQ; rw [if_neg (fun ht => h1 ⟨h, ht⟩)]
  split
  · rename_i ha hb hc
    rw [if_neg ha, if_neg hb, if_pos hc] at h2
    unfold holdQ at h2 ⊢
    split
    · rename_i hd; exact absurd ⟨hc, by rw [if_pos hd]⟩ h2
    · rfl
  split
  · rfl
  split
  · unfold retQ; split
    · split <;> rfl
    · rfl
  split
  · unfold restQ; split <;> rfl
  · rfl
/-- No hold is below 0. -/
def NN (q : Q) : Prop := ∀ x ∈ q.hs, 0 ≤ x
theorem nn_set {l : List Int} (h : ∀ x ∈ l, 0 ≤ x) (i : Nat) {a : Int} (ha : 0 ≤ a) : ∀ x ∈ l.set i a, 0 ≤ x := fun x hx => by
  rcases List.mem_or_eq_of_mem_set hx with h1 | h1
  · exact h x h1
  · rw [h1]; exact ha
theorem nn_step {q : Q} (h : NN q) (d : Deed) : NN (stepQ q d).1 := by
  unfold NN
  by_cases h1 : d.what = 1 ∧ q.ok d.th
  · rw [step_out h1.1 h1.2]
    exact nn_set (nn_set (nn_set h _ (Int.le_refl 0)) _ (Int.le_refl 0)) _ (Int.le_refl 0)
  · by_cases h2 : d.what = 2 ∧ (stepQ q d).2.2 = 0
    · obtain ⟨_, _, _, h3, h4⟩ := step_hold h2.1 h2.2
      rw [h4]
      exact nn_set h _ h3
    · rw [step_same h1 h2]; exact h
theorem cnt_neg : ∀ {l : List Int} {a : Int}, (∀ x ∈ l, 0 ≤ x) → a < 0 → cnt l a = 0
  | [], _, _, _ => rfl
  | y :: t, a, h, ha => by
    have := h y List.mem_cons_self
    simp only [cnt, if_neg (show ¬ y = a by omega), Nat.zero_add]
    exact cnt_neg (fun x hx => h x (List.mem_cons_of_mem _ hx)) ha
theorem cnt_app : ∀ (l m : List Int) (a : Int), cnt (l ++ m) a = cnt l a + cnt m a
  | [], m, a => by simp [cnt]
  | y :: t, m, a => by simp only [List.cons_append, cnt, cnt_app t m a]; omega
theorem cnt_snoc {l : List Int} {i : Nat} (h : i < l.length) (a : Int) : cnt (l.take (i + 1)) a = cnt (l.take i) a + (if l[i] = a then 1 else 0) := by
  rw [take_snoc h, cnt_app]
  simp [cnt]
theorem c_count {q : Q} (h : NN q) (a : Int) : q.c a = if 0 < a then (cnt q.hs a : Int) else 0 := by
  unfold Q.c
  by_cases h0 : a = 0
  · rw [if_pos h0, if_neg (by omega)]
  · rw [if_neg h0]
    split
    · rfl
    · rw [cnt_neg h (by omega)]; rfl
end Go.Proofs.Ytphahilggfckaaa
