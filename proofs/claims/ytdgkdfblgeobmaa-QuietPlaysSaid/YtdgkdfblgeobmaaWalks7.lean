/-
  The walk of the laws' example.
-/
import Derived.Test.YtdgkdfblgeobmaaWalks6
set_option linter.unusedVariables false
set_option linter.unusedSimpArgs false
namespace Go.Proofs.Ytdgkdfblgeobmaa
open Go.RowKit Mem Qm
set_option maxRecDepth 100000

/-- A list of one number, just made. -/
theorem one_rd (w : World) (x : Int) : RdI (w.alloc (.cells #[.int .i64 x] 3)) (.slice (some ⟨w.heap.size, 0, none⟩) 1 1) [x] := by
  refine ⟨rfl, _, _, rfl, Nat.le_refl _, by simp [maxLen], fun _ => ⟨_, 0, rfl, by simp, fun q u hu => ?_⟩⟩
  rw [Nat.zero_add, World.cell?_alloc_new]
  simpa [ints] using hu
def sq1 : Q := ⟨2, ⟨true, false, false, false⟩, []⟩
def sq2 : Q := ⟨2, ⟨true, false, false, false⟩, [(100, ⟨true, false, false, false⟩)]⟩
def sq3 : Q := ⟨2, ⟨true, true, false, false⟩, [(100, ⟨true, false, false, false⟩)]⟩
def sq4 : Q := ⟨2, ⟨false, true, false, false⟩, []⟩
set_option maxHeartbeats 1000000 in
theorem sane_any (w : World) : Calls Try.prog 10 #[] w (Tells w true) := by
  go_enter Try.func10, Try.ntmps10
  go_wp2_with fail
  refine (new_yes (by decide) (by decide)).mono ?_
  rintro e w1 ⟨rfl, h1, b1⟩
  have s1 := b1.size
  go_wp2_with fail
  have ct2 := in_did h1 (by decide) 0
  rw [show inQ ⟨2, Cr.none, []⟩ 0 = (sq1, [], 0) from rfl] at ct2
  refine ct2.mono ?_
  rintro e w2 ⟨u2, v2, rfl, o2, h2, k2, m2⟩
  have b2 : Below w.heap.size w w2 := b1.trans (k2.below s1 h1.foot_lo)
  have s2 := b2.size
  clear ct2 h1 k2 b1
  go_wp2_with fail
  have ct3 := ret_did h2 s2 (by decide) 1 100
  rw [show retQ sq1 1 100 = (sq2, [], 0) from rfl] at ct3
  refine ct3.mono ?_
  rintro e w3 ⟨u3, v3, rfl, o3, h3, k3, m3⟩
  have b3 : Below w.heap.size w w3 := b2.trans (k3.below s2 h2.foot_lo)
  have s3 := b3.size
  clear ct3 h2 k3 b2 o2
  go_wp2_with fail
  have ct4 := in_did h3 (by decide) 1
  rw [show inQ sq2 1 = (sq3, [], 0) from rfl] at ct4
  refine ct4.mono ?_
  rintro e w4 ⟨u4, v4, rfl, o4, h4, k4, m4⟩
  have b4 : Below w.heap.size w w4 := b3.trans (k4.below s3 h3.foot_lo)
  have s4 := b4.size
  clear ct4 h3 k4 b3 o3
  go_wp2_with fail
  refine (for_yes h4 100 (by decide) (by decide)).mono ?_
  rintro e w5 ⟨u5, rfl, o5, b5⟩
  rw [show forOf 100 sq3.ws = [0] from rfl] at o5
  have b6 : Below w.heap.size w w5 := b4.trans (b5.mono s4)
  have h5 := h4.below b5
  have s5 := b6.size
  clear h4 b5 b4
  go_wp2_with fail
  refine (ints_any (Row.rd (World.ownsRow.alloc o5 _)) (one_rd w5 0)).mono ?_
  rintro e w6 ⟨rfl, b7⟩
  rw [show decide (([0] : List Int) = [0]) = true from rfl]
  have h6 := (h5.below ((Below.refl _ w5).alloc (Nat.le_refl _) _)).below b7
  have b8 : Below w.heap.size w w6 := (b6.alloc s5 _).trans (b7.mono (by simp; omega))
  have s6 := b8.size
  clear h5 b7 b6 o5
  go_wp2_with fail
  have ct7 := out_did h6 (by decide) s6 (by decide) 0
  rw [show outQ sq3 0 = (sq4, [100], 0) from rfl] at ct7
  refine ct7.mono ?_
  rintro e w7 ⟨u7, v7, rfl, o7, h7, k7, m7⟩
  have b9 : Below w.heap.size w w7 := b8.trans (k7.below s6 h6.foot_lo)
  have s7 := b9.size
  clear ct7 h6 k7 b8
  go_wp2_with fail
  refine (ints_any (Row.rd (World.ownsRow.alloc o7 _)) (one_rd w7 100)).mono ?_
  rintro e w8 ⟨rfl, b10⟩
  rw [show decide (([100] : List Int) = [100]) = true from rfl]
  have b11 : Below w.heap.size w w8 := (b9.alloc s7 _).trans (b10.mono (by simp; omega))
  clear b9 b10 h7 o7
  go_wp2
  go_ret
  exact ⟨rfl, b11⟩
end Go.Proofs.Ytdgkdfblgeobmaa
