/-
  The manager of eras, as plain data: what each call makes of it and gives back.
-/
import Derived.Test.YtiokifkppfegfaaMapI
set_option linter.unusedVariables false
set_option linter.unusedSimpArgs false
namespace Go.Proofs.Ytiokifkppfegfaa.Qm
open Go.RowKit Go.Proofs.Ytiokifkppfegfaa.Mem

/-- What a thread inside may have seen. -/
structure Sn where
  i : Bool
  lo : Int
  hi : Int
  h0 : Int
  h1 : Int
  h2 : Int
def Sn.none : Sn := ⟨false, 0, 0, 0, 0, 0⟩
def Sn.in_ (e : Int) : Sn := ⟨true, e, e, 0, 0, 0⟩
def Sn.hold (s : Sn) (e k a : Int) : Sn := ⟨s.i, s.lo, e, if k = 0 then a else s.h0, if k = 1 then a else s.h1, if k = 2 then a else s.h2⟩
def Sn.holds (s : Sn) : List Int := [s.h0, s.h1, s.h2]
/-- An address that was retired: its birth, its end. -/
structure Life where
  a : Int
  b : Int
  e : Int
structure Q where
  era : Int
  n : Int
  s0 : Sn
  s1 : Sn
  s2 : Sn
  s3 : Sn
  nb : Nat
  bi : Int → Int
  ws : List Life
def Q.get (q : Q) (t : Int) : Sn := if t = 0 then q.s0 else if t = 1 then q.s1 else if t = 2 then q.s2 else q.s3
def Q.put (q : Q) (t : Int) (s : Sn) : Q := { q with s0 := if t = 0 then s else q.s0, s1 := if t = 1 then s else q.s1, s2 := if t = 2 then s else q.s2, s3 := if t = 3 then s else q.s3 }
/-- Whether a number is in a list. -/
def hasB (l : List Int) (x : Int) : Bool := l.any fun y => decide (x = y)
def Sn.met (s : Sn) (x : Life) : Bool := s.i && ((decide (x.b ≤ s.hi) && decide (s.lo ≤ x.e)) || hasB s.holds x.a)
def Q.met (q : Q) (x : Life) : Bool := q.s0.met x || (q.s1.met x || (q.s2.met x || q.s3.met x))
def Q.ok (q : Q) (t : Int) : Prop := 0 ≤ t ∧ t < q.n
def addrs (ws : List Life) : List Int := ws.map (·.a)
def backs (q : Q) (ws : List Life) : List Int := addrs (ws.filter fun x => !q.met x)
def lefts (q : Q) (ws : List Life) : List Life := ws.filter fun x => q.met x
def clr (f : Int → Int) (l : List Int) : Int → Int := fun x => if x ∈ l then 0 else f x
def Q.swept (q : Q) : Q := { q with bi := clr q.bi (backs q q.ws), ws := lefts q q.ws }
def Q.in_ (q : Q) (t : Int) : Q := q.put t (Sn.in_ q.era)
def Q.out (q : Q) (t : Int) : Q := (q.put t Sn.none).swept
def Q.outBack (q : Q) (t : Int) : List Int := backs (q.put t Sn.none) q.ws
def Q.hold (q : Q) (t k a : Int) : Q := if (q.get t).i then q.put t ((q.get t).hold q.era k a) else q
def Q.born (q : Q) (a : Int) : Q := { q with era := q.era + 1, nb := q.nb + 1, bi := upd q.bi a (q.era + 1) }
def Q.add (q : Q) (a : Int) : Q := { q with ws := q.ws ++ [⟨a, q.bi a, q.era⟩] }

/-! In memory. -/
def sCells (s : Sn) : List Value := [.bool s.i, .int .i64 s.lo, .int .i64 s.hi, .int .i64 s.h0, .int .i64 s.h1, .int .i64 s.h2]
def lCells (x : Life) : List Value := [.int .i64 x.a, .int .i64 x.b, .int .i64 x.e]
def qCells (q : Q) (m v : Value) : List Value := [.int .i64 q.era, .int .i64 q.n, .bool q.s0.i, .int .i64 q.s0.lo, .int .i64 q.s0.hi, .int .i64 q.s0.h0, .int .i64 q.s0.h1, .int .i64 q.s0.h2,
  .bool q.s1.i, .int .i64 q.s1.lo, .int .i64 q.s1.hi, .int .i64 q.s1.h0, .int .i64 q.s1.h1, .int .i64 q.s1.h2, .bool q.s2.i, .int .i64 q.s2.lo, .int .i64 q.s2.hi, .int .i64 q.s2.h0, .int .i64 q.s2.h1, .int .i64 q.s2.h2,
  .bool q.s3.i, .int .i64 q.s3.lo, .int .i64 q.s3.hi, .int .i64 q.s3.h0, .int .i64 q.s3.h1, .int .i64 q.s3.h2, m, v]
def flat (ws : List Life) : List Value := ws.flatMap lCells
theorem flat_length : ∀ ws : List Life, (flat ws).length = ws.length * 3
  | [] => rfl
  | x :: t => by simp only [flat, List.flatMap_cons, List.length_append, List.length_cons]; have := flat_length t; simp only [flat] at this; rw [this]; simp [lCells]; omega
theorem flat_app (a b : List Life) : flat (a ++ b) = flat a ++ flat b := by simp [flat]
theorem flat_at : ∀ (ws : List Life) (j : Nat) (h : j < ws.length) (i : Nat), i < 3 → (flat ws)[j * 3 + i]? = (lCells ws[j])[i]?
  | x :: t, 0, _, i, hi => by
    simp only [flat, List.flatMap_cons, List.getElem_cons_zero, Nat.zero_mul, Nat.zero_add]
    rw [List.getElem?_append_left (by simp [lCells]; omega)]
  | x :: t, j + 1, h, i, hi => by
    have ih := flat_at t j (by simpa using h) i hi
    simp only [flat, List.flatMap_cons, List.getElem_cons_succ] at ih ⊢
    rw [List.getElem?_append_right (by simp [lCells]; omega), ← ih]
    congr 1
    simp [lCells]; omega
def ints (l : List Int) : List Value := l.map (.int .i64)
theorem ints_length (l : List Int) : (ints l).length = l.length := by simp [ints]
theorem ints_app (a b : List Int) : ints (a ++ b) = ints a ++ ints b := by simp [ints]
theorem ints_at (l : List Int) (j : Nat) (h : j < l.length) : (ints l)[j]? = some (.int .i64 l[j]) := by simp [ints, List.getElem?_eq_getElem h]
theorem addrs_length (ws : List Life) : (addrs ws).length = ws.length := by simp [addrs]
theorem take_snoc {α : Type} {l : List α} {k : Nat} (h : k < l.length) : l.take (k + 1) = l.take k ++ [l[k]] := by rw [List.take_add_one, List.getElem?_eq_getElem h]; rfl
theorem addrs_snoc {ws : List Life} {k : Nat} (h : k < ws.length) : addrs (ws.take (k + 1)) = addrs (ws.take k) ++ [ws[k].a] := by rw [take_snoc h, addrs, List.map_append]; rfl
/-- A list of numbers of the call's own. -/
abbrev Own (w : World) (B : Nat) (v : Value) (l : List Int) : Prop := Row w B 3 1 v l.length (ints l)
theorem Own.nil (w : World) (B : Nat) : Own w B (.slice .none 0 0) [] := World.ownsRow_nil w B 3 1

/-- A manager at block g; its births' map at block b; its list of what waits is v. -/
structure Is (P : Program) (w : World) (B g b : Nat) (v : Value) (q : Q) : Prop where
  lo : B ≤ g
  lob : B ≤ b
  blk : Blk w g 65 (qCells q (.map (some b)) v)
  map : MapI P w b q.nb q.bi
  row : Row w B 71 3 v q.ws.length (flat q.ws)
/-- The blocks of a manager. -/
def foot (g b : Nat) (v : Value) (k : Nat) : Prop := k = g ∨ k = b ∨ v.ownBlock = some k
/-- The list of what waits is the old one's block, or a new one. -/
def Moved (w : World) (v v' : Value) : Prop := ∀ k, v'.ownBlock = some k → v.ownBlock = some k ∨ w.heap.size ≤ k
section
variable {P : Program} {w w' : World} {B g b : Nat} {v : Value} {q : Q}
theorem Is.keep {S : Nat → Prop} (h : Is P w B g b v q) (k : Kept w w' S) (hs : ∀ i, foot g b v i → ¬ S i) : Is P w' B g b v q :=
  ⟨h.lo, h.lob, h.blk.keep k (hs g (.inl rfl)), h.map.keep k (hs b (.inr (.inl rfl))), Row.keep h.row k (fun i hi => hs i (.inr (.inr hi)))⟩
theorem Is.below (h : Is P w B g b v q) (k : Below w.heap.size w w') : Is P w' B g b v q := h.keep (Kept.of_below k (fun _ => False)) (fun _ _ => id)
theorem Is.foot_lo (h : Is P w B g b v q) : ∀ k, foot g b v k → B ≤ k := by
  rintro k (rfl | rfl | hk)
  · exact h.lo
  · exact h.lob
  · exact (Row.at_lt h.row hk).1
theorem Is.foot_lt (h : Is P w B g b v q) : ∀ k, foot g b v k → k < w.heap.size := by
  rintro k (rfl | rfl | hk)
  · exact h.blk.lt
  · exact h.map.lt
  · exact (Row.at_lt h.row hk).2
/-- A list of numbers is no part of a manager. -/
theorem Is.apart {B' : Nat} {u : Value} {n : Nat} {xs : List Value} (h : Is P w B g b v q) (hu : Row w B' 3 1 u n xs) : ∀ k, u.ownBlock = some k → ¬ foot g b v k := by
  rintro k hk (rfl | rfl | hv)
  · exact Row.ne_blk hu h.blk (by decide) hk
  · exact h.map.ne_row hu hk
  · exact Row.ne_row hu h.row (by decide) hk hv
theorem Own.keep {B' : Nat} {u : Value} {l : List Int} (hu : Own w B' u l) (h : Is P w B g b v q) (k : Kept w w' (foot g b v)) : Own w' B' u l := Row.keep hu k (h.apart hu)
theorem Is.ne_row (h : Is P w B g b v q) : v.ownBlock ≠ some g := Row.ne_blk h.row h.blk (by decide)
theorem Is.ne_map (h : Is P w B g b v q) : b ≠ g := h.map.ne_blk h.blk
end
end Go.Proofs.Ytiokifkppfegfaa.Qm
