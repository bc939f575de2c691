/-
  The manager that counts holds, as plain data: what each call makes of it and gives back.
-/
import Derived.Test.YtphahilggfckaaaMapI
import Derived.Test.YtphahilggfckaaaAppRow
set_option linter.unusedVariables false
set_option linter.unusedSimpArgs false
namespace Go.Proofs.Ytphahilggfckaaa.Qm
open Go.RowKit Go.Proofs.Ytphahilggfckaaa.Mem

theorem take_snoc {α : Type} {l : List α} {k : Nat} (h : k < l.length) : l.take (k + 1) = l.take k ++ [l[k]] := by rw [List.take_add_one, List.getElem?_eq_getElem h]; rfl
/-- How often a number is in a list. -/
def cnt : List Int → Int → Nat
  | [], _ => 0
  | y :: t, a => (if y = a then 1 else 0) + cnt t a
def nth (l : List Int) (i : Nat) : Int := l.getD i 0
theorem nth_at {l : List Int} {i : Nat} (h : i < l.length) : nth l i = l[i] := by simp [nth, List.getD, List.getElem?_eq_getElem h]
theorem cnt_le : ∀ (l : List Int) (a : Int), cnt l a ≤ l.length
  | [], _ => Nat.le_refl _
  | y :: t, a => by
    have := cnt_le t a
    simp only [cnt, List.length_cons]
    split <;> omega
theorem cnt_pos : ∀ {l : List Int} {i : Nat}, i < l.length → 0 < cnt l (nth l i)
  | y :: t, 0, _ => by simp only [cnt, nth, List.getD_cons_zero, if_true]; omega
  | y :: t, i + 1, h => by
    have ih := cnt_pos (l := t) (i := i) (by simpa using h)
    simp only [nth, List.getD_cons_succ] at ih ⊢
    simp only [cnt]
    omega
theorem cnt_set : ∀ (l : List Int) (i : Nat) (a x : Int), i < l.length → cnt (l.set i a) x + (if nth l i = x then 1 else 0) = cnt l x + (if a = x then 1 else 0)
  | y :: t, 0, a, x, _ => by
    simp only [List.set_cons_zero, cnt, nth, List.getD_cons_zero]
    by_cases h1 : a = x <;> by_cases h2 : y = x <;> simp only [h1, h2, if_true, if_false] <;> omega
  | y :: t, i + 1, a, x, h => by
    have ih := cnt_set t i a x (by simpa using h)
    simp only [List.set_cons_succ, cnt, nth, List.getD_cons_succ] at ih ⊢
    by_cases h1 : a = x <;> by_cases h2 : y = x <;> by_cases h3 : t.getD i 0 = x <;> simp only [h1, h2, h3, if_true, if_false] at ih ⊢ <;> omega
/-- The last two are the memory's own: how much room the holds' list has, and what lies in the room. -/
structure Q where
  n : Nat
  hs : List Int
  ws : List Int
  cap : Nat
  rest : List Value
def Q.c (q : Q) (a : Int) : Int := if a = 0 then 0 else (cnt q.hs a : Int)
def Q.ok (q : Q) (t : Int) : Prop := 0 ≤ t ∧ t < (q.n : Int)
def Q.put (q : Q) (t k : Nat) (a : Int) : Q := { q with hs := q.hs.set (t * 3 + k) a }
def backs (q : Q) (ws : List Int) : List Int := ws.filter fun x => decide (q.c x = 0)
def lefts (q : Q) (ws : List Int) : List Int := ws.filter fun x => !decide (q.c x = 0)
def Q.loose (q : Q) : Q := { q with ws := lefts q q.ws }
def Q.none (q : Q) (t : Nat) : Q := ((q.put t 0 0).put t 1 0).put t 2 0
def Q.add (q : Q) (a : Int) : Q := { q with ws := q.ws ++ [a] }
def hasB (l : List Int) (x : Int) : Bool := l.any fun y => decide (x = y)
theorem backs_snoc {q : Q} {ws : List Int} {k : Nat} (h : k < ws.length) : backs q (ws.take (k + 1)) = if q.c ws[k] = 0 then backs q (ws.take k) ++ [ws[k]] else backs q (ws.take k) := by
  rw [take_snoc h, backs, List.filter_append]
  split
  · rename_i hn; simp [hn, backs]
  · rename_i hn; simp [hn, backs]
theorem lefts_snoc {q : Q} {ws : List Int} {k : Nat} (h : k < ws.length) : lefts q (ws.take (k + 1)) = if q.c ws[k] = 0 then lefts q (ws.take k) else lefts q (ws.take k) ++ [ws[k]] := by
  rw [take_snoc h, lefts, List.filter_append]
  split
  · rename_i hn; simp [hn, lefts]
  · rename_i hn; simp [hn, lefts]
theorem backs_le (q : Q) (ws : List Int) : (backs q ws).length ≤ ws.length := List.length_filter_le _ _
theorem lefts_le (q : Q) (ws : List Int) : (lefts q ws).length ≤ ws.length := List.length_filter_le _ _

/-! In memory. -/
def ints (l : List Int) : List Value := l.map (.int .i64)
theorem ints_length (l : List Int) : (ints l).length = l.length := by simp [ints]
theorem ints_app (a b : List Int) : ints (a ++ b) = ints a ++ ints b := by simp [ints]
theorem ints_at (l : List Int) (j : Nat) (h : j < l.length) : (ints l)[j]? = some (.int .i64 l[j]) := by simp [ints, List.getElem?_eq_getElem h]
theorem ints_nth (l : List Int) (j : Nat) (h : j < l.length) : (ints l)[j]? = some (.int .i64 (nth l j)) := by rw [ints_at l j h, nth_at h]
theorem ints_set (l : List Int) (j : Nat) (x : Int) : ints (l.set j x) = (ints l).set j (.int .i64 x) := by simp [ints, List.map_set]
abbrev Own (w : World) (B : Nat) (v : Value) (l : List Int) : Prop := Row w B 3 1 v l.length (ints l)
theorem Own.nil (w : World) (B : Nat) : Own w B (.slice .none 0 0) [] := World.ownsRow_nil w B 3 1
/-- A manager at block g: its holds at block gh, its counts' map (of at most N entries) at block b, what waits v. -/
structure Is (P : Program) (w : World) (B g gh b N : Nat) (v : Value) (q : Q) : Prop where
  lo : B ≤ g
  loh : B ≤ gh
  lob : B ≤ b
  blk : Blk w g 69 [.slice (some ⟨gh, 0, none⟩) q.n q.cap, .map (some b), v]
  hold : Blk w gh 30 (ints q.hs ++ q.rest)
  map : MapI P w b N q.c
  row : Own w B v q.ws
  len : q.hs.length = q.n * 3
def foot (g gh b : Nat) (v : Value) (k : Nat) : Prop := k = g ∨ k = gh ∨ k = b ∨ v.ownBlock = some k
def Moved (w : World) (v v' : Value) : Prop := ∀ k, v'.ownBlock = some k → v.ownBlock = some k ∨ w.heap.size ≤ k
section
variable {P : Program} {w w' : World} {B g gh b N : Nat} {v : Value} {q : Q}
theorem Is.keep {S : Nat → Prop} (h : Is P w B g gh b N v q) (k : Kept w w' S) (hs : ∀ i, foot g gh b v i → ¬ S i) : Is P w' B g gh b N v q :=
  ⟨h.lo, h.loh, h.lob, h.blk.keep k (hs g (.inl rfl)), h.hold.keep k (hs gh (.inr (.inl rfl))), h.map.keep k (hs b (.inr (.inr (.inl rfl)))), Row.keep h.row k (fun i hi => hs i (.inr (.inr (.inr hi)))), h.len⟩
theorem Is.below (h : Is P w B g gh b N v q) (k : Below w.heap.size w w') : Is P w' B g gh b N v q := h.keep (Kept.of_below k (fun _ => False)) (fun _ _ => id)
theorem Is.drew (h : Is P w B g gh b N v q) : Is P w.drew B g gh b N v q := ⟨h.lo, h.loh, h.lob, h.blk, h.hold, h.map, h.row, h.len⟩
theorem Is.foot_lo (h : Is P w B g gh b N v q) : ∀ k, foot g gh b v k → B ≤ k := by
  rintro k (rfl | rfl | rfl | hk)
  · exact h.lo
  · exact h.loh
  · exact h.lob
  · exact (Row.at_lt h.row hk).1
theorem Is.foot_lt (h : Is P w B g gh b N v q) : ∀ k, foot g gh b v k → k < w.heap.size := by
  rintro k (rfl | rfl | rfl | hk)
  · exact h.blk.lt
  · exact h.hold.lt
  · exact h.map.lt
  · exact (Row.at_lt h.row hk).2
theorem Is.ne_h (h : Is P w B g gh b N v q) : gh ≠ g := by
  rintro rfl
  exact absurd (h.blk.type h.hold).1 (by decide)
theorem Is.ne_m (h : Is P w B g gh b N v q) : b ≠ g := h.map.ne_blk h.blk
theorem Is.ne_mh (h : Is P w B g gh b N v q) : b ≠ gh := h.map.ne_blk h.hold
theorem Is.ne_v (h : Is P w B g gh b N v q) : v.ownBlock ≠ some g := Row.ne_blk h.row h.blk (by decide)
theorem Is.ne_vh (h : Is P w B g gh b N v q) : v.ownBlock ≠ some gh := Row.ne_blk h.row h.hold (by decide)
theorem Is.ne_vm (h : Is P w B g gh b N v q) : v.ownBlock ≠ some b := h.map.ne_row h.row
theorem Is.mono (h : Is P w B g gh b N v q) {N' : Nat} (hN : N ≤ N') : Is P w B g gh b N' v q := ⟨h.lo, h.loh, h.lob, h.blk, h.hold, h.map.mono hN, h.row, h.len⟩
theorem Is.lower (h : Is P w B g gh b N v q) {B' : Nat} (hB : B' ≤ B) : Is P w B' g gh b N v q := ⟨Nat.le_trans hB h.lo, Nat.le_trans hB h.loh, Nat.le_trans hB h.lob, h.blk, h.hold, h.map, Row.mono h.row hB, h.len⟩
end
end Go.Proofs.Ytphahilggfckaaa.Qm
