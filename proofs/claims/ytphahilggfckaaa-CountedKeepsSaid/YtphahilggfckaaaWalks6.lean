/-
  Acts that come in, as a list of plain acts.
-/
import Derived.Test.YtphahilggfckaaaWalks5
set_option linter.unusedVariables false
set_option linter.unusedSimpArgs false
namespace Go.Proofs.Ytphahilggfckaaa
open Go.RowKit Mem Qm
set_option maxRecDepth 100000

/-! Deeds that come in -/
def dCells (d : Deed) : List Value := [.int .i64 d.what, .int .i64 d.th, .int .i64 d.ho, .int .i64 d.ad]
def flatD (ds : List Deed) : List Value := ds.flatMap dCells
theorem flatD_at : ∀ (ds : List Deed) (j : Nat) (h : j < ds.length) (i : Nat), i < 4 → (flatD ds)[j * 4 + i]? = (dCells ds[j])[i]?
  | x :: t, 0, _, i, hi => by
    simp only [flatD, List.flatMap_cons, List.getElem_cons_zero, Nat.zero_mul, Nat.zero_add]
    rw [List.getElem?_append_left (by simp [dCells]; omega)]
  | x :: t, j + 1, h, i, hi => by
    have ih := flatD_at t j (by simpa using h) i hi
    simp only [flatD, List.flatMap_cons, List.getElem_cons_succ] at ih ⊢
    rw [List.getElem?_append_right (by simp [dCells]; omega), ← ih]
    congr 1
    simp [dCells]; omega
theorem flatD_length : ∀ l : List Deed, (flatD l).length = l.length * 4
  | [] => rfl
  | x :: t => by have ih := flatD_length t; simp only [flatD, List.flatMap_cons, List.length_append, List.length_cons] at ih ⊢; rw [ih]; simp [dCells]; omega
structure RdD (w : World) (v : Value) (ds : List Deed) : Prop where
  rd : Rd w v ds.length 4 (flatD ds)
  wf : ∀ d ∈ ds, Wf d.ad
theorem RdD.shape {w : World} {v : Value} {ds : List Deed} (h : RdD w v ds) : ∃ A c, v = .slice A ds.length c ∧ ds.length ≤ c ∧ c ≤ 9223372036854775807 := h.rd.shape
theorem RdD.below {w w' : World} {v : Value} {ds : List Deed} (h : RdD w v ds) (k : Below w.heap.size w w') : RdD w' v ds := ⟨h.rd.below k, h.wf⟩
/-- The cells of a deed, as the walk spells them. -/
theorem RdD.at_ {w : World} {A : Option Addr} {c : Nat} {ds : List Deed} (h : RdD w (.slice A ds.length c) ds) {k : Nat} (hk : k < ds.length) : ∃ b off, A = some ⟨b, off, none⟩ ∧ b < w.heap.size ∧
    w.cell? ⟨b, off + k * 4, none⟩ = some (.int .i64 ds[k].what) ∧ w.cell? ⟨b, off + k * 4 + 1, none⟩ = some (.int .i64 ds[k].th) ∧ w.cell? ⟨b, off + k * 4 + 2, none⟩ = some (.int .i64 ds[k].ho) ∧ w.cell? ⟨b, off + k * 4 + 3, none⟩ = some (.int .i64 ds[k].ad) := by
  obtain ⟨b, off, hA, hb, hc⟩ := Rd.elem h.rd hk
  have hat := fun i hi => (hc i hi).trans (flatD_at ds k hk i hi)
  exact ⟨b, off, hA, hb, hat 0 (by decide), hat 1 (by decide), hat 2 (by decide), hat 3 (by decide)⟩
theorem RdD.wf_at {w : World} {v : Value} {ds : List Deed} (h : RdD w v ds) {k : Nat} (hk : k < ds.length) : Wf ds[k].ad := h.wf _ (List.getElem_mem hk)
end Go.Proofs.Ytphahilggfckaaa
