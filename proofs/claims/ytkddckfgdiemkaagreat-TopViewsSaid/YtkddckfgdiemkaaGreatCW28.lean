/-
  Of litmus and order, at operations that are valid: digit, fits, may, May, Plain, strongFence, Expand's function.
-/
import Derived.Test.YtkddckfgdiemkaaGreatCW26
set_option linter.unusedVariables false
set_option linter.unusedSimpArgs false
namespace Go.Proofs.YtkddckfgdiemkaaGreat
open Go.RowKit Go.Shelf Mem
set_option maxRecDepth 100000
attribute [local go_sem] Oper.semAt_some

theorem digit_any {w : World} {n : Int} (h : 0 ≤ n ∧ n ≤ 9) : Calls Tryz.prog 104 #[.int .i64 n] w fun e w' => e = .returned (.bool true) ∧ w = w' := by
  obtain ⟨h0, h1⟩ := h
  have h0' : n ≥ 0 := h0
  go_enter Tryz.func104, Tryz.ntmps104
  go_wp2
  go_ret
  exact ⟨rfl, rfl⟩
set_option maxHeartbeats 1000000 in
theorem mayO_any {w : World} {k o : Int} (h : MayOk k o) : Calls Tryz.prog 103 #[.int .i64 k, .int .i64 o] w fun e w' => e = .returned (.bool true) ∧ w = w' := by
  have hh := h
  obtain ⟨⟨o0, o4⟩, ⟨k0, k5⟩, hl, hs, hf⟩ := h
  rcases (by omega : k = 0 ∨ k = 1 ∨ k = 5 ∨ (2 ≤ k ∧ k ≤ 4)) with rfl | rfl | rfl | hk
  · rcases hl rfl with rfl | rfl | rfl
    all_goals
      go_enter Tryz.func103, Tryz.ntmps103
      go_wp2
      go_ret
      exact ⟨rfl, rfl⟩
  · rcases hs rfl with rfl | rfl | rfl
    all_goals
      go_enter Tryz.func103, Tryz.ntmps103
      go_wp2
      go_ret
      exact ⟨rfl, rfl⟩
  · rcases (by have := hf rfl; omega : o = 1 ∨ o = 2 ∨ o = 3 ∨ o = 4) with rfl | rfl | rfl | rfl
    all_goals
      go_enter Tryz.func103, Tryz.ntmps103
      go_wp2
      go_ret
      exact ⟨rfl, rfl⟩
  · have h0 : k ≠ 0 := by omega
    have h1 : k ≠ 1 := by omega
    have h5 : k ≠ 5 := by omega
    clear hl hs hf hh
    go_enter Tryz.func103, Tryz.ntmps103
    go_wp2
    go_ret
    exact ⟨rfl, rfl⟩
theorem mayE_any {w : World} {k o : Int} (h : MayOk k o) : Calls Tryz.prog 86 #[.int .i64 k, .int .i64 o] w fun e w' => e = two (.bool true) (.int .i64 0) ∧ w = w' := by
  have o0 := h.ho
  have k0 : ¬ k < 0 := by have := h.hk; omega
  have k6 : ¬ k ≥ 6 := by have := h.hk; omega
  have H := Lib.hid h
  have HO := Lib.hid (And.intro o0.1 (show o < 5 by omega))
  clear h o0
  go_enter Tryz.func86, Tryz.ntmps86
  go_wp2_with (first | (go_at_call 102; refine (isorder_any HO.out.1 HO.out.2).mono ?_; rintro e1 w1 ⟨rfl, rfl⟩) | (go_at_call 103; refine (mayO_any H.out).mono ?_; rintro e2 w2 ⟨rfl, rfl⟩))
  go_ret2
  exact ⟨rfl, rfl⟩
/-- The order of an access without strong. -/
def plainO (k : Int) : Int := if k = 0 then 1 else if k = 1 then 2 else 3
theorem plain_any {w : World} {k : Int} (h : MayOk k 4) (h5 : k ≠ 5) : Calls Tryz.prog 52 #[.int .i64 k, .int .i64 4] w fun e w' => e = two (.int .i64 (plainO k)) (.int .i64 0) ∧ w = w' := by
  have hk := h.hk
  rcases (by omega : k = 0 ∨ k = 1 ∨ k = 2 ∨ k = 3 ∨ k = 4) with rfl | rfl | rfl | rfl | rfl
  all_goals
    have H := Lib.hid (mayE_any (w := w) h)
    clear h hk
    go_enter Tryz.func52, Tryz.ntmps52
    go_wp2_with (go_at_call 86; refine H.out.mono ?_; rintro e1 w1 ⟨rfl, rfl⟩)
    go_ret2
    exact ⟨rfl, rfl⟩
set_option maxHeartbeats 4000000 in
theorem fits_any {w : World} {e : Ev} (h : OkOp e) : Calls Tryz.prog 87 #[opV e] w (Tells w true) := by
  obtain ⟨k, l, v, x, o, t⟩ := e
  have hk : 0 ≤ k ∧ k ≤ 5 := h.m.hk
  have hl : 0 ≤ l ∧ l < 3 := h.l
  have l0 : ¬ l < 0 := by omega
  have l3 : ¬ l ≥ 3 := by omega
  have f0 : k = 0 → v = 0 ∧ x = 0 := h.k0
  have f1 : k = 1 → (0 ≤ v ∧ v ≤ 9) ∧ x = 0 := h.k1
  have f2 : k = 2 → (-9 ≤ v ∧ v ≤ 9) ∧ x = 0 := h.k2
  have f3 : k = 3 ∨ k = 4 → (0 ≤ v ∧ v ≤ 9) ∧ (0 ≤ x ∧ x ≤ 9) := h.k3
  have f5 : k = 5 → l = 0 ∧ v = 0 ∧ x = 0 := h.k5
  clear h
  rcases (by omega : k = 0 ∨ k = 1 ∨ k = 2 ∨ k = 3 ∨ k = 4 ∨ k = 5) with rfl | rfl | rfl | rfl | rfl | rfl
  · obtain ⟨rfl, rfl⟩ := f0 rfl
    clear f0 f1 f2 f3 f5
    go_enter Tryz.func87, Tryz.ntmps87
    go_wp2
    go_ret
    exact ⟨rfl, (Below.refl _ w).alloc (Nat.le_refl _) _⟩
  · obtain ⟨hv, rfl⟩ := f1 rfl
    clear f0 f1 f2 f3 f5
    have HV := Lib.hid hv
    clear hv
    go_enter Tryz.func87, Tryz.ntmps87
    go_wp2_with (go_at_call 104; refine (digit_any HV.out).mono ?_; rintro e1 w1 ⟨rfl, rfl⟩)
    go_ret
    exact ⟨rfl, (Below.refl _ w).alloc (Nat.le_refl _) _⟩
  · obtain ⟨⟨hv, hv2⟩, rfl⟩ := f2 rfl
    clear f0 f1 f2 f3 f5
    have hv' : v ≥ -9 := hv
    go_enter Tryz.func87, Tryz.ntmps87
    go_wp2
    go_ret
    exact ⟨rfl, (Below.refl _ w).alloc (Nat.le_refl _) _⟩
  · obtain ⟨hv, hx⟩ := f3 (.inl rfl)
    clear f0 f1 f2 f3 f5
    have HV := Lib.hid hv
    have HX := Lib.hid hx
    clear hv hx
    go_enter Tryz.func87, Tryz.ntmps87
    go_wp2_with (go_at_call 104; (first | refine (digit_any HV.out).mono ?_ | refine (digit_any HX.out).mono ?_); rintro e1 w1 ⟨rfl, rfl⟩)
    go_ret
    exact ⟨rfl, (Below.refl _ w).alloc (Nat.le_refl _) _⟩
  · obtain ⟨hv, hx⟩ := f3 (.inr rfl)
    clear f0 f1 f2 f3 f5
    have HV := Lib.hid hv
    have HX := Lib.hid hx
    clear hv hx
    go_enter Tryz.func87, Tryz.ntmps87
    go_wp2_with (go_at_call 104; (first | refine (digit_any HV.out).mono ?_ | refine (digit_any HX.out).mono ?_); rintro e1 w1 ⟨rfl, rfl⟩)
    go_ret
    exact ⟨rfl, (Below.refl _ w).alloc (Nat.le_refl _) _⟩
  · obtain ⟨rfl, rfl, rfl⟩ := f5 rfl
    clear f0 f1 f2 f3 f5
    go_enter Tryz.func87, Tryz.ntmps87
    go_wp2
    go_ret
    exact ⟨rfl, (Below.refl _ w).alloc (Nat.le_refl _) _⟩
theorem strongFence_any {w : World} : Calls Tryz.prog 53 #[] w fun e w' => e = .returned (opV ⟨5, 0, 0, 0, 4, 0⟩) ∧ Below w.heap.size w w' := by
  go_enter Tryz.func53, Tryz.ntmps53
  go_wp2
  have hXX : Blk (w.alloc (.cells #[.int .i64 5, .int .i64 0, .int .i64 0, .int .i64 0, .int .i64 4] 47)) w.heap.size 47 [.int .i64 5, .int .i64 0, .int .i64 0, .int .i64 0, .int .i64 4] := Blk.new w 47 _
  refine bodyPost_ret (results_cell_row rfl _ _ w.heap.size 47 _ (0, 0) _ rfl hXX Tryz.underlying47 rfl (by kernel_rfl)) rfl ?_
  exact ⟨rfl, (Below.refl _ w).alloc (Nat.le_refl _) _⟩
end Go.Proofs.YtkddckfgdiemkaaGreat
