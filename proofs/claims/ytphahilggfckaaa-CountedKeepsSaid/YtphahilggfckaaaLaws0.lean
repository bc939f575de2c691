/-
  What always holds of the manager that counts: plain.
-/
import Derived.Test.YtphahilggfckaaaWalks6
set_option linter.unusedVariables false
set_option linter.unusedSimpArgs false
namespace Go.Proofs.Ytphahilggfckaaa
open Go.RowKit Mem Qm
set_option maxRecDepth 100000

theorem good_step {q : Q} {k : Nat} (h : Good q k) {d : Deed} (hd : Wf d.ad) : Good (stepQ q d).1 (k + 1) := by
  unfold stepQ inQ outQ holdQ retQ restQ
  repeat' split
  all_goals first
    | exact h.mono (by omega)
    | exact (good_loose (good_outTo h _ _)).mono (by omega)
    | exact (good_loose (good_put h _ _ hd)).mono (by omega)
    | exact good_loose (good_add h hd)
    | exact (good_loose h).mono (by omega)
theorem step_n (q : Q) (d : Deed) : (stepQ q d).1.n = q.n := by
  unfold stepQ inQ outQ holdQ retQ restQ
  repeat' split
  all_goals first
    | rfl
    | exact outTo_n q _ _
theorem cnt_mem : ∀ {l : List Int} {a : Int}, cnt l a ≠ 0 → a ∈ l
  | y :: t, a, h => by
    by_cases e : y = a
    · exact e ▸ List.mem_cons_self
    · simp only [cnt, if_neg e, Nat.zero_add] at h
      exact List.mem_cons_of_mem _ (cnt_mem h)
  | [], _, h => absurd rfl h
theorem nodup_le : ∀ (l : List Int) {m : List Int}, l.Nodup → (∀ x ∈ l, x ∈ m) → l.length ≤ m.length
  | [], _, _, _ => Nat.zero_le _
  | x :: t, m, hn, hs => by
    obtain ⟨hx, ht⟩ := List.nodup_cons.1 hn
    have hm := hs x List.mem_cons_self
    have ih := nodup_le t (m := m.erase x) ht (fun y hy => (List.mem_erase_of_ne (fun (e : y = x) => hx (e ▸ hy))).2 (hs y (List.mem_cons_of_mem _ hy)))
    have := List.length_erase_of_mem hm
    have := List.length_pos_of_mem hm
    simp only [List.length_cons]
    omega
/-- What waits waits once, and is held. -/
structure Inv (q : Q) : Prop where
  nd : q.ws.Nodup
  held : ∀ x ∈ q.ws, q.c x ≠ 0
theorem inv_loose {q : Q} (h : q.ws.Nodup) : Inv q.loose := ⟨h.sublist List.filter_sublist, fun x hx => by
  have := (List.mem_filter.1 hx).2
  simpa [Q.loose, Q.c] using this⟩
theorem hasB_mem {l : List Int} {x : Int} (h : ¬ hasB l x = true) : x ∉ l := fun hm => h (by simp [hasB]; exact hm)
theorem inv_step {q : Q} (h : Inv q) (d : Deed) : Inv (stepQ q d).1 := by
  unfold stepQ inQ outQ holdQ retQ restQ
  repeat' split
  all_goals first
    | exact h
    | exact inv_loose (by rw [outTo_ws]; exact h.nd)
    | exact inv_loose h.nd
    | (rename_i hb; exact inv_loose (by
        have hx := hasB_mem hb
        simp only [Q.add]
        rw [List.nodup_append]
        exact ⟨h.nd, by simp, fun a ha b hb' e => hx (by rw [List.mem_singleton.1 hb'] at e; exact e ▸ ha)⟩))
theorem inv_backs {q : Q} (h : Inv q) : backs q q.ws = [] := List.filter_eq_nil_iff.2 fun x hx => by simpa using h.held x hx
theorem inv_loose_same {q : Q} (h : Inv q) : q.loose = q := by
  have : lefts q q.ws = q.ws := List.filter_eq_self.2 fun x hx => by simpa using h.held x hx
  simp [Q.loose, this]
theorem inv_most {q : Q} (h : Inv q) (hl : q.hs.length = q.n * 3) : q.ws.length ≤ q.n * 3 := by
  rw [← hl]
  refine nodup_le q.ws h.nd fun x hx => ?_
  have := h.held x hx
  unfold Q.c at this
  split at this
  · exact absurd rfl this
  · exact cnt_mem (fun e => this (by rw [e]; rfl))
theorem inv_count {q : Q} (h : Inv q) {x : Int} (hx : x ∈ q.ws) : 1 ≤ q.c x := by
  have := h.held x hx
  unfold Q.c at this ⊢
  split at this
  · exact absurd rfl this
  · rename_i hz; rw [if_neg hz]; omega
theorem inv_q0 (m : Nat) : Inv (q0 m) := ⟨List.nodup_nil, fun x hx => by cases hx⟩
end Go.Proofs.Ytphahilggfckaaa
