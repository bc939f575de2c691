/-
  The walk of large and of Check of the document.
-/
import Derived.Test.YtkddckfgdiemkaaGreatCW25
set_option linter.unusedVariables false
set_option linter.unusedSimpArgs false
namespace Go.Proofs.YtkddckfgdiemkaaGreat
open Go.RowKit Go.Shelf Mem
set_option maxRecDepth 100000
attribute [local go_sem] Oper.semAt_some

/-- How many operations there are. -/
def sizeP (ps : List (List Ev)) (k : Nat) : Nat := ((ps.take k).flatten).length
theorem sizeP_succ (ps : List (List Ev)) {k : Nat} (hk : k < ps.length) : sizeP ps (k + 1) = sizeP ps k + (ps.getD k []).length := by
  unfold sizeP
  rw [take_snoc hk]
  simp only [List.flatten_append, List.length_append, List.flatten_cons, List.flatten_nil, List.append_nil, List.getD, List.getElem?_eq_getElem hk, Option.getD_some]
theorem sizeP_le (ps : List (List Ev)) {k : Nat} (hk : k ≤ ps.length) : sizeP ps k ≤ sizeP ps ps.length := by
  unfold sizeP
  have h2 : ps.take k ++ ps.drop k = ps := List.take_append_drop _ _
  have h3 : ps.flatten.length = (ps.take k).flatten.length + (ps.drop k).flatten.length := by
    conv => lhs; rw [← h2]
    rw [List.flatten_append, List.length_append]
  rw [List.take_length, h3]; exact Nat.le_add_right _ _
def SizeOk (ps : List (List Ev)) : Prop := ps.length ≤ 1000000000000000 ∧ ∀ k, (ps.getD k []).length ≤ 1000000000000000
def LargeT (w : World) (ps : List (List Ev)) (e : Ending) (w' : World) : Prop := ∃ b, e = .returned (.bool b) ∧ (b = false → ps.length + sizeP ps ps.length < 60) ∧ (b = true → ¬ ps.length + sizeP ps ps.length < 60) ∧ Below w.heap.size w w'
set_option maxHeartbeats 1000000 in
theorem large_any {w : World} {tv : Value} {ps : List (List Ev)} (hr : RdP w tv ps) (hs : SizeOk ps) :
    Calls Tryz.prog 11 #[.agg #[tv]] w (LargeT w ps) := by
  obtain ⟨A, c, rfl, hc1, hc2⟩ := hr.shape
  obtain ⟨w0, hw0⟩ : ∃ w0, w.alloc (.cells #[.slice A ps.length c] 24) = w0 := ⟨_, rfl⟩
  have b0 : Below w.heap.size w w0 := by rw [← hw0]; exact (Below.refl _ w).alloc (Nat.le_refl _) _
  have X24 := Lib.hid (show Blk w0 w.heap.size 24 [.slice A ps.length c] by rw [← hw0]; exact Blk.new w 24 [.slice A ps.length c])
  have R0 := Lib.hid (hr.below b0)
  have k0 := X24.out.cell 0 rfl
  have HW0 := Lib.hid hw0
  have B0 := Lib.hid b0
  have hs1 := hs.1
  have HS := Lib.hid hs
  clear hr hw0 b0 hs
  go_enter Tryz.func11, Tryz.ntmps11
  go_upto_region 1 with fail
  rw [HW0.out]
  go_wp2
  go_loopw [3, 4] (fun n i wr => ∃ (k m : Nat), k ≤ ps.length ∧ i = .int .i64 k ∧ n = .int .i64 (m : Int) ∧ m = ps.length + sizeP ps k ∧ m ≤ 2000000000000000 ∧ wr = w0) (fun _ i _ => ps.length - (intOf i).toNat)
  case atStart => exact ⟨0, ps.length, Nat.zero_le _, rfl, rfl, by simp [sizeP], by omega, rfl⟩
  case round =>
    obtain ⟨k, m, hk, rfl, rfl, hm, hmb, rfl⟩ := hrel
    have HM := Lib.hid hm
    by_cases hlt : k < ps.length
    · have hlt' : (k : Int) < (ps.length : Int) := by omega
      have i1 : (0 : Int) ≤ (k : Int) := by omega
      by_cases hm60 : m < 60
      · have hm60' : (m : Int) < 60 := by omega
        obtain ⟨b, off, A1, c1, rfl, hb, hc, hro, h1, h2⟩ := RdP.at_ R0.out rfl hlt
        have hl := HS.out.2 k
        have HP := Lib.hid (sizeP_succ ps hlt)
        clear hro hm
        have hw : wrap64 ((m : Int) + ((ps.getD k []).length : Int)) = ((m + (ps.getD k []).length : Nat) : Int) := by unfold wrap64; omega
        obtain ⟨L, hL⟩ : ∃ L, (ps.getD k []).length = L := ⟨_, rfl⟩
        rw [hL] at hc h1 hl hw HP
        clear hL
        go_wp2
        go_roundw
        case measure => simp [intOf]; all_goals omega
        case rel => exact ⟨k + 1, m + L, by omega, by go_num, by first | rw [hw] | simp, by rw [HP.out]; have := HM.out; omega, by omega, by first | trivial | rfl⟩
      · have hm60' : ¬ (m : Int) < 60 := by omega
        have hge : (m : Int) ≥ 60 := by omega
        clear hm
        go_wp2
        go_ret
        exact ⟨true, rfl, fun h => (by cases h), fun _ => by have h1 := HM.out; have h2 := sizeP_le ps hk; omega, B0.out⟩
    · have hin : k = ps.length := by omega
      subst hin
      by_cases hm60 : m < 60
      · have hge : ¬ (m : Int) ≥ 60 := by omega
        clear hm
        go_wp2
        go_ret
        exact ⟨false, rfl, fun _ => (by have := HM.out; omega), fun h => (by cases h), B0.out⟩
      · have hge : (m : Int) ≥ 60 := by omega
        clear hm
        go_wp2
        go_ret
        exact ⟨true, rfl, fun h => (by cases h), fun _ => by have h1 := HM.out; have h2 := sizeP_le ps hk; omega, B0.out⟩
end Go.Proofs.YtkddckfgdiemkaaGreat
