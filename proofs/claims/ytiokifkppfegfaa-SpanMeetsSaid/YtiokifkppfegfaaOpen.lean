/-
  Deeds that come in as an argument: what is read of them, as a list of plain deeds.
-/
import Derived.Test.YtiokifkppfegfaaWalks8
import Derived.Test.YtiokifkppfegfaaRows
import Derived.Deep.Slices
import Derived.Deep.Fields
import Derived.ChangeSame
import Derived.ProofKit
set_option linter.unusedVariables false
set_option linter.unusedSimpArgs false
namespace Go.Proofs.Ytiokifkppfegfaa
open Go.RowKit Mem Qm Go.ChangeShapes Go.WideShapes Go.Deep

section
variable {H : Type} {enc : TypeId × Value → H} {P : Program} {w : World} {base : Nat} {spare : Nat → Bool} {held : Bool}
/-- A slice of structs of whole numbers, opened to its cells. -/
theorem open_rows {t e : TypeId} {fs : Array Field} {fuel : Nat} {cs : List Value} {x : DataW H × List MemPlace} (ht : P.underlying t = some (.slice e)) (he : P.underlying e = some (.struct fs)) (hone : oneCellFields P fs = true) (hC : P.cellsOf e = fs.size)
    (hint : ∀ (j : Nat) (f : Field), fs[j]? = some f → P.underlying f.type = some (.int .i64)) (h : DataW.trod enc P w base spare held fuel t cs = some x) :
    ∃ (A : Option Addr) (len cap : Nat), cs = [.slice A len cap] ∧ len ≤ cap ∧ cap ≤ maxLen ∧
      (0 < len → ∃ b off, A = some ⟨b, off, none⟩ ∧ b < w.heap.size ∨ fs.size = 0) ∧
      ∀ i, i < len → ∀ j, j < fs.size → ∃ b off n, A = some ⟨b, off, none⟩ ∧ b < w.heap.size ∧ w.cell? ⟨b, off + (i * fs.size + j), none⟩ = some (.int .i64 n) ∧ Wf n := by
  rcases open_slice ht h with ⟨rfl, _⟩ | ⟨a, len, cap, m, n, D, Pl, rfl, hb, hl, hm, hmm, hx, hi⟩
  · exact ⟨none, 0, 0, rfl, Nat.le_refl _, by simp [maxLen], fun h => absurd h (by omega), fun i hi => absurd hi (by omega)⟩
  · have key : ∀ i, i < len → ∀ j, j < fs.size → ∃ b off n, some a = some (⟨b, off, none⟩ : Addr) ∧ b < w.heap.size ∧ w.cell? ⟨b, off + (i * fs.size + j), none⟩ = some (.int .i64 n) ∧ Wf n := by
      intro i hil j hj
      have hlm : len ≤ m := by rw [hmm]; split <;> omega
      obtain ⟨cs', hc, ht'⟩ := hi i (by omega)
      rw [hC] at hc
      obtain ⟨ys, n', hn', hy, hlen, hyl, hf⟩ := DataW.trod_struct he ht'
      obtain ⟨_, hcl, hat⟩ := World.cells?_some hc
      have hfj : fs[j]? = some fs[j] := Array.getElem?_eq_getElem hj
      obtain ⟨ho, hk⟩ := hone_of hone j _ hfj
      have h1 := hf j _ hfj
      rw [ho, hk] at h1
      have hone' : (cs'.drop j).take 1 = [cs'[j]'(by omega)] := by rw [List.drop_eq_getElem_cons (by omega)]; rfl
      rw [hone', List.getElem?_eq_getElem (by omega)] at h1
      obtain ⟨nn, hv, _, hwf⟩ := DataW.trod_int (hint j _ hfj) h1
      injection hv with hv
      have hcell := hat j hj
      rw [List.getElem?_eq_getElem (by omega), hv, Go.Deep.add_add] at hcell
      have hlt := World.block_lt_of_cell? w _ hcell
      obtain ⟨b, off, spot⟩ := a
      by_cases hz : i * fs.size + j = 0
      · have hij : (⟨b, off, spot⟩ : Addr).add (i * fs.size + j) = ⟨b, off, spot⟩ := by unfold Addr.add; rw [if_pos hz]
        rw [hij] at hcell hlt
        cases spot with
        | none => exact ⟨b, off, nn, rfl, hlt, by rw [hz, Nat.add_zero]; exact hcell, hwf⟩
        | some s =>
          unfold World.cell? at hcell
          split at hcell <;> simp at hcell
      · have hij : (⟨b, off, spot⟩ : Addr).add (i * fs.size + j) = ⟨b, off + (i * fs.size + j), none⟩ := by unfold Addr.add; rw [if_neg hz]
        rw [hij] at hcell hlt
        obtain ⟨cs0, hc0, _⟩ := hi 0 (by omega)
        obtain ⟨_, hcl0, hat0⟩ := World.cells?_some hc0
        rw [hC] at hat0 hcl0
        have h00 := hat0 0 (by omega)
        rw [Nat.zero_mul] at h00
        have e00 : ((⟨b, off, spot⟩ : Addr).add 0).add 0 = ⟨b, off, spot⟩ := rfl
        rw [e00, List.getElem?_eq_getElem (by omega)] at h00
        cases spot with
        | none => exact ⟨b, off, nn, rfl, hlt, hcell, hwf⟩
        | some s =>
          unfold World.cell? at h00
          split at h00 <;> simp at h00
    refine ⟨some a, len, cap, rfl, hl, hm, fun h0 => ?_, key⟩
    by_cases hz : fs.size = 0
    · exact ⟨0, 0, .inr hz⟩
    · obtain ⟨b, off, _, h1, h2, _, _⟩ := key 0 h0 0 (by omega)
      exact ⟨b, off, .inl ⟨h1, h2⟩⟩
end
theorem choose_two {P : Nat → Nat → Int → Prop} {len : Nat} (h : ∀ i, i < len → ∀ j, j < 4 → ∃ n, P i j n) : ∃ N : Nat → Nat → Int, ∀ i, i < len → ∀ j, j < 4 → P i j (N i j) :=
  ⟨fun i j => if h' : i < len ∧ j < 4 then (h i h'.1 j h'.2).choose else 0, fun i hi j hj => by simp only [hi, hj, and_self, dite_true]; exact (h i hi j hj).choose_spec⟩
/-- Deeds, opened. -/
theorem open_deeds {H : Type} {enc : TypeId × Value → H} {w : World} {base : Nat} {spare : Nat → Bool} {held : Bool} {v : Value} {r : Reach} {b0 : Nat} {d : DataW H} {p : List MemPlace}
    (hv : Value.okWide Try.prog w r b0 22 v) (h : DataW.Trod enc Try.prog w base spare held 22 v d p) : ∃ ds : List Deed, RdD w v ds := by
  obtain ⟨a0, len0, cap0, rfl⟩ := okWide_slice Try.underlying22 hv
  obtain ⟨fuel, hf⟩ := h
  obtain ⟨A, len, cap, hcs, hl, hm, h0, hk⟩ := open_rows Try.underlying22 Try.underlying31 (by kernel_rfl) (by kernel_rfl) (fun j f hj => by
    match j, hj with
    | 0, hj => injection hj with hj; subst hj; exact Try.underlying3
    | 1, hj => injection hj with hj; subst hj; exact Try.underlying3
    | 2, hj => injection hj with hj; subst hj; exact Try.underlying3
    | 3, hj => injection hj with hj; subst hj; exact Try.underlying3
    | n + 4, hj => simp at hj) hf
  simp only [Value.cells, List.cons.injEq, and_true] at hcs
  injection hcs with e1 e2 e3
  subst e1 e2 e3
  obtain ⟨N, hN⟩ := choose_two (len := len0) (P := fun i j n => ∃ b off, a0 = some ⟨b, off, none⟩ ∧ b < w.heap.size ∧ w.cell? ⟨b, off + (i * 4 + j), none⟩ = some (.int .i64 n) ∧ Wf n) (fun i hi j hj => by
    obtain ⟨b, off, n, h1, h2, h3, h4⟩ := hk i hi j hj
    exact ⟨n, b, off, h1, h2, h3, h4⟩)
  have hlen : ∀ n : Nat, ((List.range n).map fun i => (⟨N i 0, N i 1, N i 2, N i 3⟩ : Deed)).length = n := fun n => by simp
  refine ⟨(List.range len0).map fun i => ⟨N i 0, N i 1, N i 2, N i 3⟩, ⟨?_, a0, cap0, by rw [hlen], by rw [hlen]; exact hl, hm, fun hp => ?_⟩, fun d hd => ?_⟩
  · simp only [flatD, List.length_flatMap]
    have : ∀ l : List Nat, (((l.map fun i => (⟨N i 0, N i 1, N i 2, N i 3⟩ : Deed)).map fun d => (dCells d).length)).sum = l.length * 4 := by
      intro l
      induction l with
      | nil => rfl
      | cons x t ih => simp only [List.map_cons, List.sum_cons, List.length_cons, ih]; simp [dCells]; omega
    rw [this]; simp
  · rw [hlen] at hp
    obtain ⟨b, off, hA, hb, _, _⟩ := hN 0 hp 0 (by decide)
    refine ⟨b, off, hA, hb, fun q u hu => ?_⟩
    have hq : q < len0 * 4 := by
      have h1 := (List.getElem?_eq_some_iff.1 hu).1
      have h2 : ∀ l : List Deed, (flatD l).length = l.length * 4 := by
        intro l
        induction l with
        | nil => rfl
        | cons x t ih => simp only [flatD, List.flatMap_cons, List.length_append, List.length_cons] at ih ⊢; rw [ih]; simp [dCells]; omega
      rw [h2, hlen] at h1
      exact h1
    have hi : q / 4 < len0 := by omega
    have hj : q % 4 < 4 := Nat.mod_lt _ (by decide)
    have hqq : q = q / 4 * 4 + q % 4 := by omega
    rw [hqq, flatD_at _ (q / 4) (by rw [hlen]; exact hi) (q % 4) hj] at hu
    obtain ⟨b', off', hA', _, hc, _⟩ := hN (q / 4) hi (q % 4) hj
    rw [hA] at hA'
    injection hA' with hA'
    injection hA' with e1 e2
    subst e1 e2
    rw [hqq, hc]
    simp only [List.getElem_map, List.getElem_range] at hu
    rcases (show q % 4 = 0 ∨ q % 4 = 1 ∨ q % 4 = 2 ∨ q % 4 = 3 by omega) with e | e | e | e <;> rw [e] at hu ⊢ <;> simpa [dCells] using hu
  · obtain ⟨i, hi, rfl⟩ := List.mem_map.1 hd
    obtain ⟨_, _, _, _, _, hw⟩ := hN i (List.mem_range.1 hi) 3 (by decide)
    exact hw
end Go.Proofs.Ytiokifkppfegfaa
