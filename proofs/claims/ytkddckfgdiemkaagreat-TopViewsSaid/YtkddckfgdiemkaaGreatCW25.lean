/-
  The walk of isOp of the document. (Written by gen_w25.py.)
-/
import Derived.Test.YtkddckfgdiemkaaGreatCW23
set_option linter.unusedVariables false
set_option linter.unusedSimpArgs false
namespace Go.Proofs.YtkddckfgdiemkaaGreat
open Go.RowKit Go.Shelf Mem
set_option maxRecDepth 100000
attribute [local go_sem] Oper.semAt_some

set_option maxHeartbeats 8000000 in
theorem isOp_any {w : World} {e : Ev} : Calls Tryz.prog 26 #[opV e] w (Tells w (dec (OkOp e))) := by
  obtain ⟨k, l, v, x, o, t⟩ := e
  have HC := Lib.hid (fun W (h : Below (w.alloc (.cells #[.int .i64 k, .int .i64 l, .int .i64 v, .int .i64 x, .int .i64 o] 47)).heap.size (w.alloc (.cells #[.int .i64 k, .int .i64 l, .int .i64 v, .int .i64 x, .int .i64 o] 47)) W) =>
    (have X := (Blk.new w 47 [.int .i64 k, .int .i64 l, .int .i64 v, .int .i64 x, .int .i64 o]).below h
     ⟨X.cell 0 rfl, X.cell 1 rfl, X.cell 2 rfl, X.cell 3 rfl⟩ : W.cell? ⟨w.heap.size, 0, none⟩ = some (.int .i64 k) ∧ W.cell? ⟨w.heap.size, 1, none⟩ = some (.int .i64 l) ∧ W.cell? ⟨w.heap.size, 2, none⟩ = some (.int .i64 v) ∧ W.cell? ⟨w.heap.size, 3, none⟩ = some (.int .i64 x)))
  by_cases hm : MayOk k o
  · have HM := Lib.hid (dec_true hm)
    have hk := hm.hk
    have HMM := Lib.hid hm
    clear hm
    rcases (by omega : l < 0 ∨ l ≥ 3 ∨ (0 ≤ l ∧ l < 3)) with h | h | ⟨h, h2⟩
    · have hn := Lib.hid (show ¬ OkOp ⟨k, l, v, x, o, t⟩ from fun hm => absurd hm.l (by show ¬ (0 ≤ l ∧ l < 3); omega))
      go_enter Tryz.func26, Tryz.ntmps26
      go_wp2_with (go_at_call 47; refine may3_any.mono ?_; rintro e1 w1 ⟨rfl, hb1⟩; rw [HM.out]; obtain ⟨q0, q1, q2, q3⟩ := HC.out w1 hb1)
      go_ret
      exact tells_false hn.out (((Below.refl _ w).alloc (Nat.le_refl _) _).trans (hb1.mono (by simp)))
    · have hn := Lib.hid (show ¬ OkOp ⟨k, l, v, x, o, t⟩ from fun hm => absurd hm.l (by show ¬ (0 ≤ l ∧ l < 3); omega))
      have h0 : ¬ l < 0 := by omega
      go_enter Tryz.func26, Tryz.ntmps26
      go_wp2_with (go_at_call 47; refine may3_any.mono ?_; rintro e1 w1 ⟨rfl, hb1⟩; rw [HM.out]; obtain ⟨q0, q1, q2, q3⟩ := HC.out w1 hb1)
      go_ret
      exact tells_false hn.out (((Below.refl _ w).alloc (Nat.le_refl _) _).trans (hb1.mono (by simp)))
    · have h0 : ¬ l < 0 := by omega
      have h3 : ¬ l ≥ 3 := by omega
      have HL := Lib.hid (And.intro h h2)
      clear h h2
      rcases (by omega : k = 0 ∨ k = 1 ∨ k = 2 ∨ k = 3 ∨ k = 4 ∨ k = 5) with rfl | rfl | rfl | rfl | rfl | rfl
      · rcases (by omega : (v ≠ 0) ∨ (v = 0 ∧ x ≠ 0) ∨ (v = 0 ∧ x = 0)) with h4 | ⟨h4, h5⟩ | ⟨h4, h5⟩
        · have hn := Lib.hid (show ¬ OkOp ⟨0, l, v, x, o, t⟩ from fun hm => by have h : v = 0 ∧ x = 0 := hm.k0 rfl; omega)
          go_enter Tryz.func26, Tryz.ntmps26
          go_wp2_with (go_at_call 47; refine may3_any.mono ?_; rintro e1 w1 ⟨rfl, hb1⟩; rw [HM.out]; obtain ⟨q0, q1, q2, q3⟩ := HC.out w1 hb1)
          go_ret
          first | exact tells_false hn.out (((Below.refl _ w).alloc (Nat.le_refl _) _).trans (hb1.mono (by simp))) | exact ⟨by { rw [dec_false hn.out]; exact congrArg (fun b => Ending.returned (.bool b)) (by simp <;> omega) }, (((Below.refl _ w).alloc (Nat.le_refl _) _).trans (hb1.mono (by simp)))⟩
        · have hn := Lib.hid (show ¬ OkOp ⟨0, l, v, x, o, t⟩ from fun hm => by have h : v = 0 ∧ x = 0 := hm.k0 rfl; omega)
          subst h4
          go_enter Tryz.func26, Tryz.ntmps26
          go_wp2_with (go_at_call 47; refine may3_any.mono ?_; rintro e1 w1 ⟨rfl, hb1⟩; rw [HM.out]; obtain ⟨q0, q1, q2, q3⟩ := HC.out w1 hb1)
          go_ret
          first | exact tells_false hn.out (((Below.refl _ w).alloc (Nat.le_refl _) _).trans (hb1.mono (by simp))) | exact ⟨by { rw [dec_false hn.out]; exact congrArg (fun b => Ending.returned (.bool b)) (by simp <;> omega) }, (((Below.refl _ w).alloc (Nat.le_refl _) _).trans (hb1.mono (by simp)))⟩
        · have hn := Lib.hid (show OkOp ⟨0, l, v, x, o, t⟩ from ⟨HMM.out, HL.out, fun h => by have h : (0 : Int) = 0 := h; show v = 0 ∧ x = 0; omega, fun h => by have h : (0 : Int) = 1 := h; show (0 ≤ v ∧ v ≤ 9) ∧ x = 0; omega, fun h => by have h : (0 : Int) = 2 := h; show (-9 ≤ v ∧ v ≤ 9) ∧ x = 0; omega, fun h => by have h : (0 : Int) = 3 ∨ (0 : Int) = 4 := h; show (0 ≤ v ∧ v ≤ 9) ∧ (0 ≤ x ∧ x ≤ 9); omega, fun h => by have h : (0 : Int) = 5 := h; show l = 0 ∧ v = 0 ∧ x = 0; omega⟩)
          subst h4
          subst h5
          go_enter Tryz.func26, Tryz.ntmps26
          go_wp2_with (go_at_call 47; refine may3_any.mono ?_; rintro e1 w1 ⟨rfl, hb1⟩; rw [HM.out]; obtain ⟨q0, q1, q2, q3⟩ := HC.out w1 hb1)
          go_ret
          first | exact tells_true hn.out (((Below.refl _ w).alloc (Nat.le_refl _) _).trans (hb1.mono (by simp))) | exact ⟨by { rw [dec_true hn.out]; exact congrArg (fun b => Ending.returned (.bool b)) (by simp <;> omega) }, (((Below.refl _ w).alloc (Nat.le_refl _) _).trans (hb1.mono (by simp)))⟩
      · rcases (by omega : (¬ v ≥ 0) ∨ (v ≥ 0 ∧ ¬ v ≤ 9) ∨ (v ≥ 0 ∧ v ≤ 9 ∧ x ≠ 0) ∨ (v ≥ 0 ∧ v ≤ 9 ∧ x = 0)) with h4 | ⟨h4, h5⟩ | ⟨h4, h5, h6⟩ | ⟨h4, h5, h6⟩
        · have hn := Lib.hid (show ¬ OkOp ⟨1, l, v, x, o, t⟩ from fun hm => by have h : (0 ≤ v ∧ v ≤ 9) ∧ x = 0 := hm.k1 rfl; omega)
          go_enter Tryz.func26, Tryz.ntmps26
          go_wp2_with (go_at_call 47; refine may3_any.mono ?_; rintro e1 w1 ⟨rfl, hb1⟩; rw [HM.out]; obtain ⟨q0, q1, q2, q3⟩ := HC.out w1 hb1)
          go_ret
          first | exact tells_false hn.out (((Below.refl _ w).alloc (Nat.le_refl _) _).trans (hb1.mono (by simp))) | exact ⟨by { rw [dec_false hn.out]; exact congrArg (fun b => Ending.returned (.bool b)) (by simp <;> omega) }, (((Below.refl _ w).alloc (Nat.le_refl _) _).trans (hb1.mono (by simp)))⟩
        · have hn := Lib.hid (show ¬ OkOp ⟨1, l, v, x, o, t⟩ from fun hm => by have h : (0 ≤ v ∧ v ≤ 9) ∧ x = 0 := hm.k1 rfl; omega)
          go_enter Tryz.func26, Tryz.ntmps26
          go_wp2_with (go_at_call 47; refine may3_any.mono ?_; rintro e1 w1 ⟨rfl, hb1⟩; rw [HM.out]; obtain ⟨q0, q1, q2, q3⟩ := HC.out w1 hb1)
          go_ret
          first | exact tells_false hn.out (((Below.refl _ w).alloc (Nat.le_refl _) _).trans (hb1.mono (by simp))) | exact ⟨by { rw [dec_false hn.out]; exact congrArg (fun b => Ending.returned (.bool b)) (by simp <;> omega) }, (((Below.refl _ w).alloc (Nat.le_refl _) _).trans (hb1.mono (by simp)))⟩
        · have hn := Lib.hid (show ¬ OkOp ⟨1, l, v, x, o, t⟩ from fun hm => by have h : (0 ≤ v ∧ v ≤ 9) ∧ x = 0 := hm.k1 rfl; omega)
          go_enter Tryz.func26, Tryz.ntmps26
          go_wp2_with (go_at_call 47; refine may3_any.mono ?_; rintro e1 w1 ⟨rfl, hb1⟩; rw [HM.out]; obtain ⟨q0, q1, q2, q3⟩ := HC.out w1 hb1)
          go_ret
          first | exact tells_false hn.out (((Below.refl _ w).alloc (Nat.le_refl _) _).trans (hb1.mono (by simp))) | exact ⟨by { rw [dec_false hn.out]; exact congrArg (fun b => Ending.returned (.bool b)) (by simp <;> omega) }, (((Below.refl _ w).alloc (Nat.le_refl _) _).trans (hb1.mono (by simp)))⟩
        · have hn := Lib.hid (show OkOp ⟨1, l, v, x, o, t⟩ from ⟨HMM.out, HL.out, fun h => by have h : (1 : Int) = 0 := h; show v = 0 ∧ x = 0; omega, fun h => by have h : (1 : Int) = 1 := h; show (0 ≤ v ∧ v ≤ 9) ∧ x = 0; omega, fun h => by have h : (1 : Int) = 2 := h; show (-9 ≤ v ∧ v ≤ 9) ∧ x = 0; omega, fun h => by have h : (1 : Int) = 3 ∨ (1 : Int) = 4 := h; show (0 ≤ v ∧ v ≤ 9) ∧ (0 ≤ x ∧ x ≤ 9); omega, fun h => by have h : (1 : Int) = 5 := h; show l = 0 ∧ v = 0 ∧ x = 0; omega⟩)
          subst h6
          go_enter Tryz.func26, Tryz.ntmps26
          go_wp2_with (go_at_call 47; refine may3_any.mono ?_; rintro e1 w1 ⟨rfl, hb1⟩; rw [HM.out]; obtain ⟨q0, q1, q2, q3⟩ := HC.out w1 hb1)
          go_ret
          first | exact tells_true hn.out (((Below.refl _ w).alloc (Nat.le_refl _) _).trans (hb1.mono (by simp))) | exact ⟨by { rw [dec_true hn.out]; exact congrArg (fun b => Ending.returned (.bool b)) (by simp <;> omega) }, (((Below.refl _ w).alloc (Nat.le_refl _) _).trans (hb1.mono (by simp)))⟩
      · rcases (by omega : (¬ v ≥ -9) ∨ (v ≥ -9 ∧ ¬ v ≤ 9) ∨ (v ≥ -9 ∧ v ≤ 9 ∧ x ≠ 0) ∨ (v ≥ -9 ∧ v ≤ 9 ∧ x = 0)) with h4 | ⟨h4, h5⟩ | ⟨h4, h5, h6⟩ | ⟨h4, h5, h6⟩
        · have hn := Lib.hid (show ¬ OkOp ⟨2, l, v, x, o, t⟩ from fun hm => by have h : (-9 ≤ v ∧ v ≤ 9) ∧ x = 0 := hm.k2 rfl; omega)
          go_enter Tryz.func26, Tryz.ntmps26
          go_wp2_with (go_at_call 47; refine may3_any.mono ?_; rintro e1 w1 ⟨rfl, hb1⟩; rw [HM.out]; obtain ⟨q0, q1, q2, q3⟩ := HC.out w1 hb1)
          go_ret
          first | exact tells_false hn.out (((Below.refl _ w).alloc (Nat.le_refl _) _).trans (hb1.mono (by simp))) | exact ⟨by { rw [dec_false hn.out]; exact congrArg (fun b => Ending.returned (.bool b)) (by simp <;> omega) }, (((Below.refl _ w).alloc (Nat.le_refl _) _).trans (hb1.mono (by simp)))⟩
        · have hn := Lib.hid (show ¬ OkOp ⟨2, l, v, x, o, t⟩ from fun hm => by have h : (-9 ≤ v ∧ v ≤ 9) ∧ x = 0 := hm.k2 rfl; omega)
          go_enter Tryz.func26, Tryz.ntmps26
          go_wp2_with (go_at_call 47; refine may3_any.mono ?_; rintro e1 w1 ⟨rfl, hb1⟩; rw [HM.out]; obtain ⟨q0, q1, q2, q3⟩ := HC.out w1 hb1)
          go_ret
          first | exact tells_false hn.out (((Below.refl _ w).alloc (Nat.le_refl _) _).trans (hb1.mono (by simp))) | exact ⟨by { rw [dec_false hn.out]; exact congrArg (fun b => Ending.returned (.bool b)) (by simp <;> omega) }, (((Below.refl _ w).alloc (Nat.le_refl _) _).trans (hb1.mono (by simp)))⟩
        · have hn := Lib.hid (show ¬ OkOp ⟨2, l, v, x, o, t⟩ from fun hm => by have h : (-9 ≤ v ∧ v ≤ 9) ∧ x = 0 := hm.k2 rfl; omega)
          go_enter Tryz.func26, Tryz.ntmps26
          go_wp2_with (go_at_call 47; refine may3_any.mono ?_; rintro e1 w1 ⟨rfl, hb1⟩; rw [HM.out]; obtain ⟨q0, q1, q2, q3⟩ := HC.out w1 hb1)
          go_ret
          first | exact tells_false hn.out (((Below.refl _ w).alloc (Nat.le_refl _) _).trans (hb1.mono (by simp))) | exact ⟨by { rw [dec_false hn.out]; exact congrArg (fun b => Ending.returned (.bool b)) (by simp <;> omega) }, (((Below.refl _ w).alloc (Nat.le_refl _) _).trans (hb1.mono (by simp)))⟩
        · have hn := Lib.hid (show OkOp ⟨2, l, v, x, o, t⟩ from ⟨HMM.out, HL.out, fun h => by have h : (2 : Int) = 0 := h; show v = 0 ∧ x = 0; omega, fun h => by have h : (2 : Int) = 1 := h; show (0 ≤ v ∧ v ≤ 9) ∧ x = 0; omega, fun h => by have h : (2 : Int) = 2 := h; show (-9 ≤ v ∧ v ≤ 9) ∧ x = 0; omega, fun h => by have h : (2 : Int) = 3 ∨ (2 : Int) = 4 := h; show (0 ≤ v ∧ v ≤ 9) ∧ (0 ≤ x ∧ x ≤ 9); omega, fun h => by have h : (2 : Int) = 5 := h; show l = 0 ∧ v = 0 ∧ x = 0; omega⟩)
          subst h6
          go_enter Tryz.func26, Tryz.ntmps26
          go_wp2_with (go_at_call 47; refine may3_any.mono ?_; rintro e1 w1 ⟨rfl, hb1⟩; rw [HM.out]; obtain ⟨q0, q1, q2, q3⟩ := HC.out w1 hb1)
          go_ret
          first | exact tells_true hn.out (((Below.refl _ w).alloc (Nat.le_refl _) _).trans (hb1.mono (by simp))) | exact ⟨by { rw [dec_true hn.out]; exact congrArg (fun b => Ending.returned (.bool b)) (by simp <;> omega) }, (((Below.refl _ w).alloc (Nat.le_refl _) _).trans (hb1.mono (by simp)))⟩
      · rcases (by omega : (¬ v ≥ 0) ∨ (v ≥ 0 ∧ ¬ v ≤ 9) ∨ (v ≥ 0 ∧ v ≤ 9 ∧ ¬ x ≥ 0) ∨ (v ≥ 0 ∧ v ≤ 9 ∧ x ≥ 0 ∧ ¬ x ≤ 9) ∨ (v ≥ 0 ∧ v ≤ 9 ∧ x ≥ 0 ∧ x ≤ 9)) with h4 | ⟨h4, h5⟩ | ⟨h4, h5, h6⟩ | ⟨h4, h5, h6, h7⟩ | ⟨h4, h5, h6, h7⟩
        · have hn := Lib.hid (show ¬ OkOp ⟨3, l, v, x, o, t⟩ from fun hm => by have h : (0 ≤ v ∧ v ≤ 9) ∧ (0 ≤ x ∧ x ≤ 9) := hm.k3 (.inl rfl); omega)
          go_enter Tryz.func26, Tryz.ntmps26
          go_wp2_with (go_at_call 47; refine may3_any.mono ?_; rintro e1 w1 ⟨rfl, hb1⟩; rw [HM.out]; obtain ⟨q0, q1, q2, q3⟩ := HC.out w1 hb1)
          go_ret
          first | exact tells_false hn.out (((Below.refl _ w).alloc (Nat.le_refl _) _).trans (hb1.mono (by simp))) | exact ⟨by { rw [dec_false hn.out]; exact congrArg (fun b => Ending.returned (.bool b)) (by simp <;> omega) }, (((Below.refl _ w).alloc (Nat.le_refl _) _).trans (hb1.mono (by simp)))⟩
        · have hn := Lib.hid (show ¬ OkOp ⟨3, l, v, x, o, t⟩ from fun hm => by have h : (0 ≤ v ∧ v ≤ 9) ∧ (0 ≤ x ∧ x ≤ 9) := hm.k3 (.inl rfl); omega)
          go_enter Tryz.func26, Tryz.ntmps26
          go_wp2_with (go_at_call 47; refine may3_any.mono ?_; rintro e1 w1 ⟨rfl, hb1⟩; rw [HM.out]; obtain ⟨q0, q1, q2, q3⟩ := HC.out w1 hb1)
          go_ret
          first | exact tells_false hn.out (((Below.refl _ w).alloc (Nat.le_refl _) _).trans (hb1.mono (by simp))) | exact ⟨by { rw [dec_false hn.out]; exact congrArg (fun b => Ending.returned (.bool b)) (by simp <;> omega) }, (((Below.refl _ w).alloc (Nat.le_refl _) _).trans (hb1.mono (by simp)))⟩
        · have hn := Lib.hid (show ¬ OkOp ⟨3, l, v, x, o, t⟩ from fun hm => by have h : (0 ≤ v ∧ v ≤ 9) ∧ (0 ≤ x ∧ x ≤ 9) := hm.k3 (.inl rfl); omega)
          go_enter Tryz.func26, Tryz.ntmps26
          go_wp2_with (go_at_call 47; refine may3_any.mono ?_; rintro e1 w1 ⟨rfl, hb1⟩; rw [HM.out]; obtain ⟨q0, q1, q2, q3⟩ := HC.out w1 hb1)
          go_ret
          first | exact tells_false hn.out (((Below.refl _ w).alloc (Nat.le_refl _) _).trans (hb1.mono (by simp))) | exact ⟨by { rw [dec_false hn.out]; exact congrArg (fun b => Ending.returned (.bool b)) (by simp <;> omega) }, (((Below.refl _ w).alloc (Nat.le_refl _) _).trans (hb1.mono (by simp)))⟩
        · have hn := Lib.hid (show ¬ OkOp ⟨3, l, v, x, o, t⟩ from fun hm => by have h : (0 ≤ v ∧ v ≤ 9) ∧ (0 ≤ x ∧ x ≤ 9) := hm.k3 (.inl rfl); omega)
          go_enter Tryz.func26, Tryz.ntmps26
          go_wp2_with (go_at_call 47; refine may3_any.mono ?_; rintro e1 w1 ⟨rfl, hb1⟩; rw [HM.out]; obtain ⟨q0, q1, q2, q3⟩ := HC.out w1 hb1)
          go_ret
          first | exact tells_false hn.out (((Below.refl _ w).alloc (Nat.le_refl _) _).trans (hb1.mono (by simp))) | exact ⟨by { rw [dec_false hn.out]; exact congrArg (fun b => Ending.returned (.bool b)) (by simp <;> omega) }, (((Below.refl _ w).alloc (Nat.le_refl _) _).trans (hb1.mono (by simp)))⟩
        · have hn := Lib.hid (show OkOp ⟨3, l, v, x, o, t⟩ from ⟨HMM.out, HL.out, fun h => by have h : (3 : Int) = 0 := h; show v = 0 ∧ x = 0; omega, fun h => by have h : (3 : Int) = 1 := h; show (0 ≤ v ∧ v ≤ 9) ∧ x = 0; omega, fun h => by have h : (3 : Int) = 2 := h; show (-9 ≤ v ∧ v ≤ 9) ∧ x = 0; omega, fun h => by have h : (3 : Int) = 3 ∨ (3 : Int) = 4 := h; show (0 ≤ v ∧ v ≤ 9) ∧ (0 ≤ x ∧ x ≤ 9); omega, fun h => by have h : (3 : Int) = 5 := h; show l = 0 ∧ v = 0 ∧ x = 0; omega⟩)
          go_enter Tryz.func26, Tryz.ntmps26
          go_wp2_with (go_at_call 47; refine may3_any.mono ?_; rintro e1 w1 ⟨rfl, hb1⟩; rw [HM.out]; obtain ⟨q0, q1, q2, q3⟩ := HC.out w1 hb1)
          go_ret
          first | exact tells_true hn.out (((Below.refl _ w).alloc (Nat.le_refl _) _).trans (hb1.mono (by simp))) | exact ⟨by { rw [dec_true hn.out]; exact congrArg (fun b => Ending.returned (.bool b)) (by simp <;> omega) }, (((Below.refl _ w).alloc (Nat.le_refl _) _).trans (hb1.mono (by simp)))⟩
      · rcases (by omega : (¬ v ≥ 0) ∨ (v ≥ 0 ∧ ¬ v ≤ 9) ∨ (v ≥ 0 ∧ v ≤ 9 ∧ ¬ x ≥ 0) ∨ (v ≥ 0 ∧ v ≤ 9 ∧ x ≥ 0 ∧ ¬ x ≤ 9) ∨ (v ≥ 0 ∧ v ≤ 9 ∧ x ≥ 0 ∧ x ≤ 9)) with h4 | ⟨h4, h5⟩ | ⟨h4, h5, h6⟩ | ⟨h4, h5, h6, h7⟩ | ⟨h4, h5, h6, h7⟩
        · have hn := Lib.hid (show ¬ OkOp ⟨4, l, v, x, o, t⟩ from fun hm => by have h : (0 ≤ v ∧ v ≤ 9) ∧ (0 ≤ x ∧ x ≤ 9) := hm.k3 (.inr rfl); omega)
          go_enter Tryz.func26, Tryz.ntmps26
          go_wp2_with (go_at_call 47; refine may3_any.mono ?_; rintro e1 w1 ⟨rfl, hb1⟩; rw [HM.out]; obtain ⟨q0, q1, q2, q3⟩ := HC.out w1 hb1)
          go_ret
          first | exact tells_false hn.out (((Below.refl _ w).alloc (Nat.le_refl _) _).trans (hb1.mono (by simp))) | exact ⟨by { rw [dec_false hn.out]; exact congrArg (fun b => Ending.returned (.bool b)) (by simp <;> omega) }, (((Below.refl _ w).alloc (Nat.le_refl _) _).trans (hb1.mono (by simp)))⟩
        · have hn := Lib.hid (show ¬ OkOp ⟨4, l, v, x, o, t⟩ from fun hm => by have h : (0 ≤ v ∧ v ≤ 9) ∧ (0 ≤ x ∧ x ≤ 9) := hm.k3 (.inr rfl); omega)
          go_enter Tryz.func26, Tryz.ntmps26
          go_wp2_with (go_at_call 47; refine may3_any.mono ?_; rintro e1 w1 ⟨rfl, hb1⟩; rw [HM.out]; obtain ⟨q0, q1, q2, q3⟩ := HC.out w1 hb1)
          go_ret
          first | exact tells_false hn.out (((Below.refl _ w).alloc (Nat.le_refl _) _).trans (hb1.mono (by simp))) | exact ⟨by { rw [dec_false hn.out]; exact congrArg (fun b => Ending.returned (.bool b)) (by simp <;> omega) }, (((Below.refl _ w).alloc (Nat.le_refl _) _).trans (hb1.mono (by simp)))⟩
        · have hn := Lib.hid (show ¬ OkOp ⟨4, l, v, x, o, t⟩ from fun hm => by have h : (0 ≤ v ∧ v ≤ 9) ∧ (0 ≤ x ∧ x ≤ 9) := hm.k3 (.inr rfl); omega)
          go_enter Tryz.func26, Tryz.ntmps26
          go_wp2_with (go_at_call 47; refine may3_any.mono ?_; rintro e1 w1 ⟨rfl, hb1⟩; rw [HM.out]; obtain ⟨q0, q1, q2, q3⟩ := HC.out w1 hb1)
          go_ret
          first | exact tells_false hn.out (((Below.refl _ w).alloc (Nat.le_refl _) _).trans (hb1.mono (by simp))) | exact ⟨by { rw [dec_false hn.out]; exact congrArg (fun b => Ending.returned (.bool b)) (by simp <;> omega) }, (((Below.refl _ w).alloc (Nat.le_refl _) _).trans (hb1.mono (by simp)))⟩
        · have hn := Lib.hid (show ¬ OkOp ⟨4, l, v, x, o, t⟩ from fun hm => by have h : (0 ≤ v ∧ v ≤ 9) ∧ (0 ≤ x ∧ x ≤ 9) := hm.k3 (.inr rfl); omega)
          go_enter Tryz.func26, Tryz.ntmps26
          go_wp2_with (go_at_call 47; refine may3_any.mono ?_; rintro e1 w1 ⟨rfl, hb1⟩; rw [HM.out]; obtain ⟨q0, q1, q2, q3⟩ := HC.out w1 hb1)
          go_ret
          first | exact tells_false hn.out (((Below.refl _ w).alloc (Nat.le_refl _) _).trans (hb1.mono (by simp))) | exact ⟨by { rw [dec_false hn.out]; exact congrArg (fun b => Ending.returned (.bool b)) (by simp <;> omega) }, (((Below.refl _ w).alloc (Nat.le_refl _) _).trans (hb1.mono (by simp)))⟩
        · have hn := Lib.hid (show OkOp ⟨4, l, v, x, o, t⟩ from ⟨HMM.out, HL.out, fun h => by have h : (4 : Int) = 0 := h; show v = 0 ∧ x = 0; omega, fun h => by have h : (4 : Int) = 1 := h; show (0 ≤ v ∧ v ≤ 9) ∧ x = 0; omega, fun h => by have h : (4 : Int) = 2 := h; show (-9 ≤ v ∧ v ≤ 9) ∧ x = 0; omega, fun h => by have h : (4 : Int) = 3 ∨ (4 : Int) = 4 := h; show (0 ≤ v ∧ v ≤ 9) ∧ (0 ≤ x ∧ x ≤ 9); omega, fun h => by have h : (4 : Int) = 5 := h; show l = 0 ∧ v = 0 ∧ x = 0; omega⟩)
          go_enter Tryz.func26, Tryz.ntmps26
          go_wp2_with (go_at_call 47; refine may3_any.mono ?_; rintro e1 w1 ⟨rfl, hb1⟩; rw [HM.out]; obtain ⟨q0, q1, q2, q3⟩ := HC.out w1 hb1)
          go_ret
          first | exact tells_true hn.out (((Below.refl _ w).alloc (Nat.le_refl _) _).trans (hb1.mono (by simp))) | exact ⟨by { rw [dec_true hn.out]; exact congrArg (fun b => Ending.returned (.bool b)) (by simp <;> omega) }, (((Below.refl _ w).alloc (Nat.le_refl _) _).trans (hb1.mono (by simp)))⟩
      · rcases (by omega : (l ≠ 0) ∨ (l = 0 ∧ v ≠ 0) ∨ (l = 0 ∧ v = 0 ∧ x ≠ 0) ∨ (l = 0 ∧ v = 0 ∧ x = 0)) with h4 | ⟨h4, h5⟩ | ⟨h4, h5, h6⟩ | ⟨h4, h5, h6⟩
        · have hn := Lib.hid (show ¬ OkOp ⟨5, l, v, x, o, t⟩ from fun hm => by have h : l = 0 ∧ v = 0 ∧ x = 0 := hm.k5 rfl; omega)
          go_enter Tryz.func26, Tryz.ntmps26
          go_wp2_with (go_at_call 47; refine may3_any.mono ?_; rintro e1 w1 ⟨rfl, hb1⟩; rw [HM.out]; obtain ⟨q0, q1, q2, q3⟩ := HC.out w1 hb1)
          go_ret
          first | exact tells_false hn.out (((Below.refl _ w).alloc (Nat.le_refl _) _).trans (hb1.mono (by simp))) | exact ⟨by { rw [dec_false hn.out]; exact congrArg (fun b => Ending.returned (.bool b)) (by simp <;> omega) }, (((Below.refl _ w).alloc (Nat.le_refl _) _).trans (hb1.mono (by simp)))⟩
        · have hn := Lib.hid (show ¬ OkOp ⟨5, l, v, x, o, t⟩ from fun hm => by have h : l = 0 ∧ v = 0 ∧ x = 0 := hm.k5 rfl; omega)
          subst h4
          go_enter Tryz.func26, Tryz.ntmps26
          go_wp2_with (go_at_call 47; refine may3_any.mono ?_; rintro e1 w1 ⟨rfl, hb1⟩; rw [HM.out]; obtain ⟨q0, q1, q2, q3⟩ := HC.out w1 hb1)
          go_ret
          first | exact tells_false hn.out (((Below.refl _ w).alloc (Nat.le_refl _) _).trans (hb1.mono (by simp))) | exact ⟨by { rw [dec_false hn.out]; exact congrArg (fun b => Ending.returned (.bool b)) (by simp <;> omega) }, (((Below.refl _ w).alloc (Nat.le_refl _) _).trans (hb1.mono (by simp)))⟩
        · have hn := Lib.hid (show ¬ OkOp ⟨5, l, v, x, o, t⟩ from fun hm => by have h : l = 0 ∧ v = 0 ∧ x = 0 := hm.k5 rfl; omega)
          subst h4
          subst h5
          go_enter Tryz.func26, Tryz.ntmps26
          go_wp2_with (go_at_call 47; refine may3_any.mono ?_; rintro e1 w1 ⟨rfl, hb1⟩; rw [HM.out]; obtain ⟨q0, q1, q2, q3⟩ := HC.out w1 hb1)
          go_ret
          first | exact tells_false hn.out (((Below.refl _ w).alloc (Nat.le_refl _) _).trans (hb1.mono (by simp))) | exact ⟨by { rw [dec_false hn.out]; exact congrArg (fun b => Ending.returned (.bool b)) (by simp <;> omega) }, (((Below.refl _ w).alloc (Nat.le_refl _) _).trans (hb1.mono (by simp)))⟩
        · have hn := Lib.hid (show OkOp ⟨5, l, v, x, o, t⟩ from ⟨HMM.out, HL.out, fun h => by have h : (5 : Int) = 0 := h; show v = 0 ∧ x = 0; omega, fun h => by have h : (5 : Int) = 1 := h; show (0 ≤ v ∧ v ≤ 9) ∧ x = 0; omega, fun h => by have h : (5 : Int) = 2 := h; show (-9 ≤ v ∧ v ≤ 9) ∧ x = 0; omega, fun h => by have h : (5 : Int) = 3 ∨ (5 : Int) = 4 := h; show (0 ≤ v ∧ v ≤ 9) ∧ (0 ≤ x ∧ x ≤ 9); omega, fun h => by have h : (5 : Int) = 5 := h; show l = 0 ∧ v = 0 ∧ x = 0; omega⟩)
          subst h4
          subst h5
          subst h6
          go_enter Tryz.func26, Tryz.ntmps26
          go_wp2_with (go_at_call 47; refine may3_any.mono ?_; rintro e1 w1 ⟨rfl, hb1⟩; rw [HM.out]; obtain ⟨q0, q1, q2, q3⟩ := HC.out w1 hb1)
          go_ret
          first | exact tells_true hn.out (((Below.refl _ w).alloc (Nat.le_refl _) _).trans (hb1.mono (by simp))) | exact ⟨by { rw [dec_true hn.out]; exact congrArg (fun b => Ending.returned (.bool b)) (by simp <;> omega) }, (((Below.refl _ w).alloc (Nat.le_refl _) _).trans (hb1.mono (by simp)))⟩
  · have HM := Lib.hid (dec_false hm)
    have hn := Lib.hid (show ¬ OkOp ⟨k, l, v, x, o, t⟩ from fun h => hm h.m)
    clear hm
    go_enter Tryz.func26, Tryz.ntmps26
    go_wp2_with (go_at_call 47; refine may3_any.mono ?_; rintro e1 w1 ⟨rfl, hb1⟩; rw [HM.out]; obtain ⟨q0, q1, q2, q3⟩ := HC.out w1 hb1)
    go_ret
    exact tells_false hn.out (((Below.refl _ w).alloc (Nat.le_refl _) _).trans (hb1.mono (by simp)))
end Go.Proofs.YtkddckfgdiemkaaGreat
