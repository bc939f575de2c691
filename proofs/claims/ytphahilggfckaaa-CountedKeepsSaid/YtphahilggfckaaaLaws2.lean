/-
  What comes back, and in which order; that nothing waits when all have left: plain.
-/
import Derived.Test.YtphahilggfckaaaRef6
set_option linter.unusedVariables false
set_option linter.unusedSimpArgs false
namespace Go.Proofs.Ytphahilggfckaaa
open Go.RowKit Mem Qm
set_option maxRecDepth 100000

theorem backs_split (q : Q) (ws : List Int) (i : Nat) : backs q ws = backs q (ws.take i) ++ backs q (ws.drop i) := by
  rw [backs, backs, backs, ← List.filter_append, List.take_append_drop]
theorem back_at {q : Q} {ws : List Int} {i : Nat} (h : i < ws.length) (hc : q.c ws[i] = 0) : ∃ hl : (backs q (ws.take i)).length < (backs q ws).length, (backs q ws)[(backs q (ws.take i)).length] = ws[i] := by
  have e := backs_split q ws i
  rw [List.drop_eq_getElem_cons h] at e
  have e2 : backs q (ws[i] :: ws.drop (i + 1)) = ws[i] :: backs q (ws.drop (i + 1)) := by rw [backs, List.filter_cons_of_pos (by simpa using hc)]; rfl
  rw [e2] at e
  have hl : (backs q (ws.take i)).length < (backs q ws).length := by rw [e]; simp
  refine ⟨hl, ?_⟩
  have : (backs q ws)[(backs q (ws.take i)).length]? = some ws[i] := by rw [e, List.getElem?_append_right (Nat.le_refl _)]; simp
  rw [List.getElem?_eq_getElem hl] at this
  exact Option.some.inj this
theorem back_no {q : Q} {ws : List Int} {x : Int} (hc : q.c x ≠ 0) {j : Nat} (hj : j < (backs q ws).length) : (backs q ws)[j] ≠ x := by
  intro e
  have hm := List.getElem_mem hj
  rw [e] at hm
  have := (List.mem_filter.1 hm).2
  simp only [decide_eq_true_eq] at this
  exact hc this
theorem c_nonneg (q : Q) (x : Int) : 0 ≤ q.c x := by unfold Q.c; split <;> omega
/-- The holds of the first threads are none. -/
def Zero (q : Q) (t : Nat) : Prop := ∀ j, j < t * 3 → nth q.hs j = 0
theorem nth_set {l : List Int} {i : Nat} (h : i < l.length) (x : Int) (j : Nat) : nth (l.set i x) j = if j = i then x else nth l j := by
  simp only [nth, List.getD_eq_getElem?_getD, List.getElem?_set]
  by_cases e : i = j
  · subst e; simp [h]
  · rw [if_neg e, if_neg (fun h => e h.symm)]
theorem zero_out {q : Q} {t : Nat} (h : Zero q t) (hl : q.hs.length = q.n * 3) (ht : t < q.n) : Zero (Q.out q (t : Int)) (t + 1) := by
  intro j hj
  show nth (((q.hs.set (t * 3 + 0) 0).set (t * 3 + 1) 0).set (t * 3 + 2) 0) j = 0
  rw [nth_set (by simp; omega), nth_set (by simp; omega), nth_set (by omega)]
  repeat' split
  all_goals first
    | rfl
    | exact h j (by omega)
theorem cnt_zero : ∀ {l : List Int} {x : Int}, (∀ j, j < l.length → nth l j = 0) → x ≠ 0 → cnt l x = 0
  | [], _, _, _ => rfl
  | y :: t, x, h, hx => by
    have h0 := h 0 (by simp)
    simp only [nth, List.getD_cons_zero] at h0
    have := cnt_zero (l := t) (x := x) (fun j hj => by have := h (j + 1) (by simpa using hj); simpa [nth] using this) hx
    simp only [cnt, this, h0]
    rw [if_neg (fun e => hx e.symm)]
theorem zero_c {q : Q} (h : Zero q q.n) (hl : q.hs.length = q.n * 3) (x : Int) : q.c x = 0 := by
  unfold Q.c
  split
  · rfl
  · rename_i hx
    rw [cnt_zero (fun j hj => h j (by omega)) hx]; rfl
theorem zero_ws {q : Q} (h : Zero q q.n) (hl : q.hs.length = q.n * 3) (hI : Inv q) : q.ws = [] := by
  cases he : q.ws with
  | nil => rfl
  | cons x t => exact absurd (zero_c h hl x) (hI.held x (by rw [he]; exact List.mem_cons_self))
theorem out_c (q : Q) (t : Int) (x : Int) : (Q.out q t).c x = (outTo q t.toNat 3).c x := rfl
theorem step_is_out (q : Q) (t : Int) : stepQ q ⟨1, t, 0, 0⟩ = outQ q t := by simp [stepQ]
theorem inv_out {q : Q} (h : Inv q) {t : Int} (ht : q.ok t) : Inv (Q.out q t) := by
  have := inv_step h ⟨1, t, 0, 0⟩
  rwa [step_is_out, show outQ q t = (Q.out q t, Q.outBack q t, 0) from if_pos ht] at this
theorem good_out {q : Q} {k : Nat} (h : Good q k) (t : Int) : Good (Q.out q t) k := good_loose (good_outTo h _ _)
theorem out_n (q : Q) (t : Int) : (Q.out q t).n = q.n := outTo_n q _ _
end Go.Proofs.Ytphahilggfckaaa
