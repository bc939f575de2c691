/-
  The walk of the laws' example.
-/
import Derived.Test.YtiokifkppfegfaaWalks8
set_option linter.unusedVariables false
set_option linter.unusedSimpArgs false
namespace Go.Proofs.Ytiokifkppfegfaa
open Go.RowKit Mem Qm
set_option maxRecDepth 100000

/-- A list of one number, just made. -/
theorem one_rd (w : World) (x : Int) : RdI (w.alloc (.cells #[.int .i64 x] 3)) (.slice (some ⟨w.heap.size, 0, none⟩) 1 1) [x] := by
  refine ⟨rfl, _, _, rfl, Nat.le_refl _, by simp [maxLen], fun _ => ⟨_, 0, rfl, by simp, fun q u hu => ?_⟩⟩
  rw [Nat.zero_add, World.cell?_alloc_new]
  simpa [ints] using hu
set_option maxHeartbeats 1000000 in
theorem sane_any (w : World) : Calls Try.prog 10 #[] w (Tells w true) := by
  have W100 : Wf 100 := wf_of (by decide) (by decide)
  have HW := Lib.hid W100
  clear W100
  go_enter Try.func10, Try.ntmps10
  go_wp2_with fail
  refine (new_yes (by decide) (by decide)).mono ?_
  rintro e w1 ⟨rfl, h1, b1⟩
  have s1 := b1.size
  have g1 := Lib.hid (good_q0 (n := 1) (by decide))
  go_wp2_with fail
  have ct2 := in_did h1 (by decide) 0
  rw [show inQ (q0 1) 0 = ((q0 1).in_ 0, [], 0) from rfl] at ct2
  refine ct2.mono ?_
  rintro e w2 ⟨u2, v2, rfl, o2, h2, k2, m2⟩
  have b2 : Below w.heap.size w w2 := b1.trans (k2.below s1 h1.foot_lo)
  have s2 := b2.size
  have g2 := Lib.hid (good_put g1.out 0 (Sn.in_ (q0 1).era))
  clear ct2 h1 k2 b1
  go_wp2_with fail
  have ct3 := born_did h2 g2.out (by decide) 100 HW.out
  rw [show bornQ ((q0 1).in_ 0) 100 = (((q0 1).in_ 0).born 100, [], 0) from rfl] at ct3
  refine ct3.mono ?_
  rintro e w3 ⟨rfl, _, h3, k3⟩
  have b3 : Below w.heap.size w w3 := b2.trans (k3.below s2 h2.foot_lo)
  have s3 := b3.size
  have g3 := Lib.hid (good_born g2.out 100)
  clear ct3 h2 k3 b2 o2
  go_wp2_with fail
  have ct4 := ret_did h3 g3.out (by decide) s3 0 100 HW.out
  rw [show retQ (((q0 1).in_ 0).born 100) 0 100 = (((((q0 1).in_ 0).born 100).add 100).swept, [100], 0) from rfl] at ct4
  refine ct4.mono ?_
  rintro e w4 ⟨u4, v4, rfl, o4, h4, k4, m4⟩
  have b4 : Below w.heap.size w w4 := b3.trans (k4.below s3 h3.foot_lo)
  have s4 := b4.size
  clear ct4 h3 k4 b3
  go_wp2_with fail
  refine (ints_any (Row.rd (World.ownsRow.alloc o4 _)) (one_rd w4 100)).mono ?_
  rintro e w6 ⟨rfl, b7⟩
  rw [show decide (([100] : List Int) = [100]) = true from rfl]
  have h6 := (h4.below ((Below.refl _ w4).alloc (Nat.le_refl _) _)).below b7
  have b8 := Lib.hid ((b4.alloc s4 _).trans (b7.mono (by simp; omega)))
  clear h4 b7 b4 o4
  go_wp2_with fail
  refine (era_yes h6 ⟨by decide, by decide⟩).mono ?_
  rintro e w7 ⟨rfl, rfl⟩
  rw [show (((((q0 1).in_ 0).born 100).add 100).swept).era = 1 from rfl]
  go_wp2
  go_ret
  exact ⟨rfl, b8.out⟩
end Go.Proofs.Ytiokifkppfegfaa
