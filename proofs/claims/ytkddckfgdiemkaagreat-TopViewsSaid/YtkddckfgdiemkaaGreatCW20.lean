/-
  The walk of same (does not build yet).
-/
import Derived.Test.YtkddckfgdiemkaaGreatCW19
set_option linter.unusedVariables false
set_option linter.unusedSimpArgs false
namespace Go.Proofs.YtkddckfgdiemkaaGreat
open Go.RowKit Go.Shelf Mem
set_option maxRecDepth 100000
attribute [local go_sem] Oper.semAt_some

set_option maxHeartbeats 2000000 in
theorem same_any {w : World} {u v : Value} {a b : List Int} (ha : RdI w u a) (hb : RdI w v b) (hub : ∀ g, u.ownBlock = some g → g < w.heap.size) (hl : a.length ≤ 1000) :
    Calls Tryz.prog 83 #[u, v] w (Tells w (decide (sortI a = b))) := by
  obtain ⟨A, c, rfl, hc1, hc2⟩ := ha.shape
  obtain ⟨A', c', rfl, hc1', hc2'⟩ := hb.shape
  obtain ⟨w1, hw1⟩ : ∃ w1, w.alloc (.cells #[.slice A a.length c] 28) = w1 := ⟨_, rfl⟩
  have b1 : Below w.heap.size w w1 := by rw [← hw1]; exact (Below.refl _ w).alloc (Nat.le_refl _) _
  have X1 : Blk w1 w.heap.size 28 [.slice A a.length c] := by rw [← hw1]; exact Blk.new w 28 _
  have hsz : w1.heap.size = w.heap.size + 1 := by rw [← hw1]; simp
  have HS := Lib.hid (sorted_any (w := w1) (gf := 112) (lb := #[.pointer (some ⟨w.heap.size, 0, none⟩)]) (l := a) (enters_of Tryz.func112 (by kernel_rfl) rfl) hl
    (fun W hW => values_gives (X1.below hW) (Rd.below (Rd.below ha b1) hW) (by omega) (fun g hg => by have := hub g hg; omega) (fun g hg => by have := hub g hg; have := hW.size; omega) hl))
  have HB := Lib.hid (Rd.below hb b1)
  have HB1 := Lib.hid b1
  have HW1 := Lib.hid hw1.symm
  obtain ⟨S, hS⟩ : ∃ S, sortI a = S := ⟨_, rfl⟩
  rw [hS] at HS ⊢
  clear ha hb hub b1 X1 hw1 hS
  go_enter Tryz.func83, Tryz.ntmps83
  go_wp2_with (first | (go_at_call 100; refine values_any.mono ?_; rintro e w2 ⟨rfl, rfl⟩; rw [← HW1.out]) | (go_at_call 99; refine HS.out.mono ?_; rintro e w3 ⟨q, rfl, hq, hb3⟩; obtain ⟨Aq, cq, rfl, _, _⟩ := (Row.rd hq).shape) | (go_at_call 23; refine (equal_any (Row.rd hq) (Rd.below HB.out hb3)).mono ?_; rintro e w4 ⟨rfl, hb4⟩))
  go_ret
  exact ⟨rfl, HB1.out.trans ((hb3.trans (hb4.mono hb3.size)).mono HB1.out.size)⟩
end Go.Proofs.YtkddckfgdiemkaaGreat
