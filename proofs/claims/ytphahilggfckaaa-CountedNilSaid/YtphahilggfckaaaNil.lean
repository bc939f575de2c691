/-
  What a nil manager, and a zero one, tells: the walk of the law.
-/
import Derived.Test.YtphahilggfckaaaWalks6
set_option linter.unusedVariables false
set_option linter.unusedSimpArgs false
namespace Go.Proofs.Ytphahilggfckaaa
open Go.RowKit Mem Qm
set_option maxRecDepth 100000
theorem copy_no {w : World} {p : Value} (h : NoT w p 0) :
    Calls Try.prog 32 #[p] w fun e w' => e = .returned (.pointer none) ∧ w = w' := by
  have H := Lib.hid h
  clear h
  go_enter Try.func32, Try.ntmps32
  go_wp2_with (go_at_call 33; refine (has_not H.out).mono ?_; rintro e w' ⟨rfl, rfl⟩)
  go_ret
  exact ⟨rfl, rfl⟩
def zq : List Value := [.slice none 0 0, .map none, .slice none 0 0]
set_option maxHeartbeats 1000000 in
theorem nil_walk {w : World} {d : Deed} : Calls Try.prog 10 #[deedV d] w (Tells w true) := by
  simp only [deedV]
  go_enter Try.func10, Try.ntmps10
  go_wp2_with fail
  have bA : Below w.heap.size w (w.alloc (.cells #[.int .i64 d.what, .int .i64 d.th, .int .i64 d.ho, .int .i64 d.ad] 41)) := (Below.refl _ _).alloc (Nat.le_refl _) _
  have hX := Blk.new w 41 [.int .i64 d.what, .int .i64 d.th, .int .i64 d.ho, .int .i64 d.ad]
  have HBA := Lib.hid bA
  have HX0 := Lib.hid hX
  have sA := bA.size
  clear bA hX
  refine (awake_any _).mono ?_
  rintro e w1 ⟨rfl, b1⟩
  have HB1 := Lib.hid (HBA.out.trans (b1.mono sA))
  have HX1 := Lib.hid (HX0.out.below b1)
  have s1 := HB1.out.size
  clear b1
  go_wp2_with fail
  obtain ⟨W, hW⟩ : ∃ W : World, W = (w1.alloc (.cells #[.slice none 0 0, .map none, .slice none 0 0] 69)).alloc (.cells #[.pointer none, .pointer (some ⟨w1.heap.size, 0, none⟩)] 29) := ⟨_, rfl⟩
  rw [← hW]
  have bz : Below w1.heap.size w1 W := by rw [hW]; exact ((Below.refl _ _).alloc (Nat.le_refl _) _).alloc (by simp) _
  have HZ := Lib.hid (show Blk W w1.heap.size 69 zq by rw [hW]; exact (Blk.new w1 69 zq).alloc _)
  have hp : Blk W (w1.heap.size + 1) 29 [.pointer none, .pointer (some ⟨w1.heap.size, 0, none⟩)] := by
    have := Blk.new (w1.alloc (.cells #[.slice none 0 0, .map none, .slice none 0 0] 69)) 29 [.pointer none, .pointer (some ⟨w1.heap.size, 0, none⟩)]
    rw [show (w1.alloc (.cells #[.slice none 0 0, .map none, .slice none 0 0] 69)).heap.size = w1.heap.size + 1 by simp] at this
    rw [hW]; exact this
  have HP := Lib.hid hp
  have hx := HX1.out.below bz
  have d1 := hx.cell 1 rfl
  have d2 := hx.cell 2 rfl
  have d3 := hx.cell 3 rfl
  have HBW := Lib.hid (HB1.out.trans (bz.mono s1))
  clear hW bz hp hx
  go_loop [22] (fun i => ∃ k : Nat, k ≤ 2 ∧ i = .int .i64 k) (fun i => 2 - (intOf i).toNat)
  case atStart => exact ⟨0, by omega, rfl⟩
  case round =>
    obtain ⟨k, hk, rfl⟩ := hrel
    by_cases hk2 : k < 2
    · obtain ⟨p, hc, hn⟩ : ∃ p, W.cell? ⟨w1.heap.size + 1, k, none⟩ = some p ∧ ∀ t, NoT W p t := by
        rcases (show k = 0 ∨ k = 1 by omega) with rfl | rfl
        · exact ⟨_, HP.out.cell 0 rfl, fun t => .inl rfl⟩
        · exact ⟨_, HP.out.cell 1 rfl, fun t => .inr (.inl ⟨_, zq, rfl, HZ.out, rfl⟩)⟩
      have Hn := Lib.hid hn
      clear hn
      go_wp2_with fail
      refine (in_no (Hn.out _)).mono ?_
      rintro e w2 ⟨rfl, rfl⟩
      go_wp2_with fail
      refine (out_no (Hn.out _)).mono ?_
      rintro e w2 ⟨rfl, rfl⟩
      go_wp2_with fail
      refine (hold_no (Hn.out _)).mono ?_
      rintro e w2 ⟨rfl, rfl⟩
      go_wp2_with fail
      refine (born_no (Hn.out _)).mono ?_
      rintro e w2 ⟨rfl, rfl⟩
      go_wp2_with fail
      refine (retire_no (Hn.out _)).mono ?_
      rintro e w2 ⟨rfl, rfl⟩
      go_wp2_with fail
      refine (rest_no (Hn.out _)).mono ?_
      rintro e w2 ⟨rfl, rfl⟩
      go_wp2_with fail
      refine (waiting_no (Hn.out _)).mono ?_
      rintro e w2 ⟨rfl, rfl⟩
      go_wp2_with fail
      refine (copy_no (Hn.out _)).mono ?_
      rintro e w2 ⟨rfl, rfl⟩
      go_wp2_with fail
      refine (count_no (Hn.out _)).mono ?_
      rintro e w2 ⟨rfl, rfl⟩
      go_wp2
      go_round
      case measure => simp [intOf]; omega
      case rel => exact ⟨k + 1, by omega, by go_num⟩
    · go_wp2
      go_ret
      exact ⟨rfl, HBW.out⟩
end Go.Proofs.Ytphahilggfckaaa
