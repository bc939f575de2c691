/-
  The document's manager, of the kind that counts: in memory, and the walks of its small functions.
-/
import Derived.Test.YtphahilggfckaaaWalks6
set_option linter.unusedVariables false
set_option linter.unusedSimpArgs false
namespace Go.Proofs.Ytphahilggfckaaa
open Go.RowKit Mem Qm
set_option maxRecDepth 100000

def bools (l : List Bool) : List Value := l.map .bool
theorem bools_at (l : List Bool) (j : Nat) (h : j < l.length) : (bools l)[j]? = some (.bool l[j]) := by simp [bools, List.getElem?_eq_getElem h]
/-- The holds of four threads. -/
def h12 (q : Q) : List Int := q.hs ++ zeros (12 - q.n * 3)
/-- The cells of a manager. -/
def mCells (q : Q) (bl : List Bool) (mv : Value) : List Value :=
  [.bool true, .int .i64 4, .int .i64 (q.n : Int), .int .i64 0] ++ (ints (h12 q) ++ (bools bl ++ (ints (zeros 8) ++ [mv, .slice none 0 0])))
theorem at_pre {A R : List Value} {n j : Nat} (hA : A.length = n) : (A ++ R)[n + j]? = R[j]? := by
  rw [List.getElem?_append_right (by omega), show n + j - A.length = j by omega]
theorem set_pre {A R : List Value} {n j : Nat} (hA : A.length = n) (v : Value) : (A ++ R).set (n + j) v = A ++ R.set j v := by
  rw [List.set_append, if_neg (by omega), show n + j - A.length = j by omega]
theorem at_in {A R : List Value} {j : Nat} (hj : j < A.length) : (A ++ R)[j]? = A[j]? := List.getElem?_append_left hj
theorem set_in {A R : List Value} {j : Nat} (hj : j < A.length) (v : Value) : (A ++ R).set j v = A.set j v ++ R := by rw [List.set_append, if_pos hj]
section
variable {q : Q} {bl : List Bool} {mv : Value} (hl : (h12 q).length = 12) (hb : bl.length = 4)
include hl in
theorem m_hold {i : Nat} (hi : i < 12) : (mCells q bl mv)[4 + i]? = some (.int .i64 (nth (h12 q) i)) := by
  rw [mCells, at_pre (n := 4) rfl, at_in (by simp [ints, hl]; omega)]
  exact ints_nth _ _ (by omega)
include hl hb in
theorem m_ins {i : Nat} (hi : i < 4) : (mCells q bl mv)[16 + i]? = some (.bool (bl[i]'(by omega))) := by
  rw [show 16 + i = 4 + (12 + i) by omega, mCells, at_pre (n := 4) rfl, at_pre (n := 12) (by simp [ints, hl]), at_in (by simp [bools, hb]; omega)]
  exact bools_at _ _ (by omega)
include hl hb in
theorem m_low {i : Nat} (hi : i < 8) : (mCells q bl mv)[20 + i]? = some (.int .i64 0) := by
  rw [show 20 + i = 4 + (12 + (4 + i)) by omega, mCells, at_pre (n := 4) rfl, at_pre (n := 12) (by simp [ints, hl]), at_pre (n := 4) (by simp [bools, hb]), at_in (by simp [ints, zeros_length]; omega)]
  rcases (show i = 0 ∨ i = 1 ∨ i = 2 ∨ i = 3 ∨ i = 4 ∨ i = 5 ∨ i = 6 ∨ i = 7 by omega) with rfl | rfl | rfl | rfl | rfl | rfl | rfl | rfl <;> rfl
include hl hb in
theorem m_items : (mCells q bl mv)[28]? = some mv := by
  rw [show 28 = 4 + (12 + (4 + (8 + 0))) by omega, mCells, at_pre (n := 4) rfl, at_pre (n := 12) (by simp [ints, hl]), at_pre (n := 4) (by simp [bools, hb]), at_pre (n := 8) (by simp [ints, zeros_length])]; rfl
include hl hb in
theorem m_born : (mCells q bl mv)[29]? = some (.slice none 0 0) := by
  rw [show 29 = 4 + (12 + (4 + (8 + 1))) by omega, mCells, at_pre (n := 4) rfl, at_pre (n := 12) (by simp [ints, hl]), at_pre (n := 4) (by simp [bools, hb]), at_pre (n := 8) (by simp [ints, zeros_length])]; rfl
include hl in
theorem m_set_hold {i : Nat} (hi : i < 12) (x : Int) (q' : Q) (hn : q'.n = q.n) (h : h12 q' = (h12 q).set i x) : (mCells q bl mv).set (4 + i) (.int .i64 x) = mCells q' bl mv := by
  rw [mCells, set_pre (n := 4) rfl, set_in (by simp [ints, hl]; omega), mCells, h, ints_set, hn]
include hl hb in
theorem m_set_ins {i : Nat} (hi : i < 4) (x : Bool) : (mCells q bl mv).set (16 + i) (.bool x) = mCells q (bl.set i x) mv := by
  rw [show 16 + i = 4 + (12 + i) by omega, mCells, set_pre (n := 4) rfl, set_pre (n := 12) (by simp [ints, hl]), set_in (by simp [bools, hb]; omega), mCells]
  simp [bools, List.map_set]
include hl hb in
theorem m_set_low {i : Nat} (hi : i < 8) : (mCells q bl mv).set (20 + i) (.int .i64 0) = mCells q bl mv := by
  have h := m_low (mv := mv) hl hb hi
  have hlt := (List.getElem?_eq_some_iff.1 h).1
  have he := (List.getElem?_eq_some_iff.1 h).2
  conv => lhs; rw [← he]
  exact List.set_getElem_self hlt
include hl hb in
theorem m_set_items (x : Value) : (mCells q bl mv).set 28 x = mCells q bl x := by
  rw [show 28 = 4 + (12 + (4 + (8 + 0))) by omega, mCells, set_pre (n := 4) rfl, set_pre (n := 12) (by simp [ints, hl]), set_pre (n := 4) (by simp [bools, hb]), set_pre (n := 8) (by simp [ints, zeros_length])]; rfl
include hl hb in
theorem m_set_born : (mCells q bl mv).set 29 (.slice none 0 0) = mCells q bl mv := by
  rw [show 29 = 4 + (12 + (4 + (8 + 1))) by omega, mCells, set_pre (n := 4) rfl, set_pre (n := 12) (by simp [ints, hl]), set_pre (n := 4) (by simp [bools, hb]), set_pre (n := 8) (by simp [ints, zeros_length])]; rfl
end
/-- What waits: an address, and who retired it. -/
abbrev It := Int × Int
def iCells (x : It) : List Value := [.int .i64 x.1, .int .i64 x.2, .int .i64 0, .int .i64 0, .bool false, .bool false, .bool false, .bool false]
def flatI (L : List It) : List Value := L.flatMap iCells
theorem flatI_length : ∀ L : List It, (flatI L).length = L.length * 8
  | [] => rfl
  | x :: t => by simp only [flatI, List.flatMap_cons, List.length_append, List.length_cons]; have := flatI_length t; simp only [flatI] at this; rw [this]; simp [iCells]; omega
theorem flatI_app (a b : List It) : flatI (a ++ b) = flatI a ++ flatI b := by simp [flatI]
theorem flatI_at : ∀ (L : List It) (j : Nat) (h : j < L.length) (i : Nat), i < 8 → (flatI L)[j * 8 + i]? = (iCells L[j])[i]?
  | x :: t, 0, _, i, hi => by
    simp only [flatI, List.flatMap_cons, List.getElem_cons_zero, Nat.zero_mul, Nat.zero_add]
    rw [List.getElem?_append_left (by simp [iCells]; omega)]
  | x :: t, j + 1, h, i, hi => by
    have ih := flatI_at t j (by simpa using h) i hi
    simp only [flatI, List.flatMap_cons, List.getElem_cons_succ] at ih ⊢
    rw [List.getElem?_append_right (by simp [iCells]; omega), ← ih]
    congr 1
    simp [iCells]; omega
def adI (L : List It) : List Int := L.map (·.1)
theorem adI_snoc {L : List It} {k : Nat} (h : k < L.length) : adI (L.take (k + 1)) = adI (L.take k) ++ [L[k].1] := by rw [take_snoc h, adI, List.map_append]; rfl
/-- The document's manager at block g, what waits mv. -/
structure IsM (w : World) (B g : Nat) (mv : Value) (q : Q) (bl : List Bool) (its : List It) : Prop where
  lo : B ≤ g
  blk : Blk w g 37 (mCells q bl mv)
  row : Row w B 78 8 mv its.length (flatI its)
  h12 : (h12 q).length = 12
  b4 : bl.length = 4
  eqw : adI its = q.ws
  n1 : 1 ≤ q.n
  n4 : q.n ≤ 4
  len : q.hs.length = q.n * 3
def footM (g : Nat) (mv : Value) (k : Nat) : Prop := k = g ∨ mv.ownBlock = some k
section
variable {w w' : World} {B g : Nat} {mv : Value} {q : Q} {bl : List Bool} {its : List It}
theorem IsM.keep {S : Nat → Prop} (h : IsM w B g mv q bl its) (k : Kept w w' S) (hs : ∀ i, footM g mv i → ¬ S i) : IsM w' B g mv q bl its :=
  ⟨h.lo, h.blk.keep k (hs g (.inl rfl)), Row.keep h.row k (fun i hi => hs i (.inr hi)), h.h12, h.b4, h.eqw, h.n1, h.n4, h.len⟩
theorem IsM.below (h : IsM w B g mv q bl its) (k : Below w.heap.size w w') : IsM w' B g mv q bl its := h.keep (Kept.of_below k (fun _ => False)) (fun _ _ => id)
theorem IsM.drew (h : IsM w B g mv q bl its) : IsM w.drew B g mv q bl its := ⟨h.lo, h.blk, h.row, h.h12, h.b4, h.eqw, h.n1, h.n4, h.len⟩
theorem IsM.foot_lo (h : IsM w B g mv q bl its) : ∀ k, footM g mv k → B ≤ k := by
  rintro k (rfl | hk)
  · exact h.lo
  · exact (Row.at_lt h.row hk).1
theorem IsM.foot_lt (h : IsM w B g mv q bl its) : ∀ k, footM g mv k → k < w.heap.size := by
  rintro k (rfl | hk)
  · exact h.blk.lt
  · exact (Row.at_lt h.row hk).2
theorem IsM.ne (h : IsM w B g mv q bl its) : mv.ownBlock ≠ some g := Row.ne_blk h.row h.blk (by decide)
theorem IsM.apart {B' : Nat} {u : Value} {n : Nat} {xs : List Value} (h : IsM w B g mv q bl its) (hu : Row w B' 3 1 u n xs) : ∀ k, u.ownBlock = some k → ¬ footM g mv k := by
  rintro k hk (rfl | hv)
  · exact Row.ne_blk hu h.blk (by decide) hk
  · exact Row.ne_row hu h.row (by decide) hk hv
theorem IsM.ilen (h : IsM w B g mv q bl its) : its.length = q.ws.length := by rw [← h.eqw]; simp [adI]
end
theorem thread_yes {w : World} {B g : Nat} {mv : Value} {q : Q} {bl : List Bool} {its : List It} (h : IsM w B g mv q bl its) (t : Int) (ht : q.ok t) :
    Calls Try.prog 47 #[.pointer (some ⟨g, 0, none⟩), .int .i64 t] w fun e w' => e = .returned (.bool true) ∧ w = w' := by
  obtain ⟨h0, h1⟩ := ht
  have c0 := h.blk.cell 0 rfl
  have c2 := h.blk.cell 2 rfl
  go_enter Try.func47, Try.ntmps47
  go_wp2
  go_ret
  exact ⟨rfl, rfl⟩
theorem thread_no {w : World} {B g : Nat} {mv : Value} {q : Q} {bl : List Bool} {its : List It} (h : IsM w B g mv q bl its) (t : Int) (ht : ¬ q.ok t) :
    Calls Try.prog 47 #[.pointer (some ⟨g, 0, none⟩), .int .i64 t] w fun e w' => e = .returned (.bool false) ∧ w = w' := by
  have c0 := h.blk.cell 0 rfl
  have c2 := h.blk.cell 2 rfl
  by_cases h0 : 0 ≤ t
  · have h1 : ¬ t < (q.n : Int) := fun h1 => ht ⟨h0, h1⟩
    clear ht
    go_enter Try.func47, Try.ntmps47
    go_wp2
    go_ret
    exact ⟨rfl, rfl⟩
  · clear ht
    go_enter Try.func47, Try.ntmps47
    go_wp2
    go_ret
    exact ⟨rfl, rfl⟩
theorem rwaiting_any {w : World} {B g : Nat} {mv : Value} {q : Q} {bl : List Bool} {its : List It} (h : IsM w B g mv q bl its) (hl : its.length < 1000000) :
    Calls Try.prog 23 #[.pointer (some ⟨g, 0, none⟩)] w (Gives q.ws w) := by
  obtain ⟨A, c, rfl, hc1, hc2⟩ := Row.shape h.row
  have hc3 : c ≤ 9223372036854775807 := by simpa [maxLen] using hc2
  have HQ := Lib.hid h.eqw
  have H := Lib.hid h
  clear hc2 h
  go_enter Try.func23, Try.ntmps23
  go_wp2
  go_loopw [3, 4] (fun u i wr => ∃ k : Nat, k ≤ its.length ∧ i = .int .i64 k ∧ Own wr w.heap.size u (adI (its.take k)) ∧ Below w.heap.size w wr) (fun _ i _ => its.length - (intOf i).toNat)
  case atStart => exact ⟨0, Nat.zero_le _, rfl, Own.nil _ _, Below.refl _ _⟩
  case round =>
    obtain ⟨k, hk, rfl, hown, hbel⟩ := hrel
    have hR := H.out.below hbel
    have c28 := hR.blk.cell 28 (m_items hR.h12 hR.b4)
    have hsz := hbel.size
    by_cases hlt : k < its.length
    · obtain ⟨bb, off, rfl, hb, hcell⟩ := Rd.elem (Row.rd hR.row) hlt
      have d0 := (hcell 0 (by decide)).trans (flatI_at its k hlt 0 (by decide))
      simp only [iCells, List.getElem?_cons_zero, Nat.add_zero] at d0
      have Htk := Lib.hid (adI_snoc hlt)
      have hlen : (adI (its.take k)).length < 1000000 := by simp [adI]; omega
      have HB := Lib.hid hbel
      clear hcell hR hbel
      go_wp2_with (at_builtin; refine wpList_append_int rfl (.tmp 14) (.tmp 23) rfl Try.underlying42 info3 w.heap.size u3 (adI (its.take k)) _ _ rfl hown rfl ?c1 hsz hlen ?_)
      case c1 => rfl
      intro v1 w1 ho1 hk1 hm1
      have HO := Lib.hid (show Own w1 w.heap.size v1 (adI (its.take (k + 1))) by rw [Htk.out]; exact ho1)
      have HK := Lib.hid (HB.out.trans (hk1.below hsz (fun i hi => (Row.at_lt hown hi).1)))
      clear ho1 hk1 hm1 hown
      go_wp2
      go_roundw
      case measure => simp [intOf]; omega
      case rel => exact ⟨k + 1, by omega, by go_num, HO.out, HK.out⟩
    · have hkn : k = its.length := by omega
      have Hkn := Lib.hid hkn
      clear hkn hR
      go_wp2
      go_ret
      exact ⟨u3, rfl, by rw [Hkn.out, List.take_length, HQ.out] at hown; exact hown, hbel⟩
end Go.Proofs.Ytphahilggfckaaa
