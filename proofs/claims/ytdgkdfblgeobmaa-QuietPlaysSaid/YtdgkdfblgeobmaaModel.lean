/-
  The manager of grace periods, as plain data: what each call makes of it and gives back.
-/
import Derived.Test.YtdgkdfblgeobmaaMem
set_option linter.unusedVariables false
set_option linter.unusedSimpArgs false
namespace Go.Proofs.Ytdgkdfblgeobmaa.Qm
open Go.RowKit Go.Proofs.Ytdgkdfblgeobmaa.Mem

/-- Of four threads: whether each is one of some. -/
structure Cr where
  a : Bool
  b : Bool
  c : Bool
  d : Bool
def Cr.none : Cr := ⟨false, false, false, false⟩
def Cr.get (x : Cr) : Int → Bool := fun t => if t = 0 then x.a else if t = 1 then x.b else if t = 2 then x.c else if t = 3 then x.d else false
def Cr.set (x : Cr) (t : Int) (v : Bool) : Cr := ⟨if t = 0 then v else x.a, if t = 1 then v else x.b, if t = 2 then v else x.c, if t = 3 then v else x.d⟩
/-- It has nobody. -/
def Cr.no (x : Cr) : Bool := !x.a && (!x.b && (!x.c && !x.d))
/-- The threads in it, in ascending order. -/
def Cr.list (x : Cr) : List Int := (if x.a then [0] else []) ++ ((if x.b then [1] else []) ++ ((if x.c then [2] else []) ++ (if x.d then [3] else [])))
abbrev W := Int × Cr
structure Q where
  n : Int
  ins : Cr
  ws : List W
def backs (ws : List W) : List Int := (ws.filter fun x => x.2.no).map (·.1)
def lefts (ws : List W) : List W := ws.filter fun x => !x.2.no
def addrs (ws : List W) : List Int := ws.map (·.1)
def Q.ok (q : Q) (t : Int) : Prop := 0 ≤ t ∧ t < q.n
def Q.in_ (q : Q) (t : Int) : Q := ⟨q.n, q.ins.set t true, q.ws⟩
def cutBy (t : Int) (ws : List W) : List W := ws.map fun x => (x.1, x.2.set t false)
def Q.out (q : Q) (t : Int) : Q := ⟨q.n, q.ins.set t false, lefts (cutBy t q.ws)⟩
def Q.outBack (q : Q) (t : Int) : List Int := backs (cutBy t q.ws)
def Q.ret (q : Q) (a : Int) : Q := ⟨q.n, q.ins, lefts (q.ws ++ [(a, q.ins)])⟩
def Q.retBack (q : Q) (a : Int) : List Int := backs (q.ws ++ [(a, q.ins)])
def forOf (a : Int) (ws : List W) : List Int := ws.flatMap fun x => if x.1 = a then x.2.list else []

/-! In memory. -/
def crCells (x : Cr) : List Value := [.bool x.a, .bool x.b, .bool x.c, .bool x.d]
def wCells (x : W) : List Value := [.int .i64 x.1, .bool x.2.a, .bool x.2.b, .bool x.2.c, .bool x.2.d]
def flat (ws : List W) : List Value := ws.flatMap wCells
theorem flat_length : ∀ ws : List W, (flat ws).length = ws.length * 5
  | [] => rfl
  | x :: t => by simp only [flat, List.flatMap_cons, List.length_append, List.length_cons]; have := flat_length t; simp only [flat] at this; rw [this]; simp [wCells]; omega
theorem flat_app (a b : List W) : flat (a ++ b) = flat a ++ flat b := by simp [flat]
theorem flat_at : ∀ (ws : List W) (j : Nat) (h : j < ws.length) (i : Nat), i < 5 → (flat ws)[j * 5 + i]? = (wCells ws[j])[i]?
  | x :: t, 0, _, i, hi => by
    simp only [flat, List.flatMap_cons, List.getElem_cons_zero, Nat.zero_mul, Nat.zero_add]
    rw [List.getElem?_append_left (by simp [wCells]; omega)]
  | x :: t, j + 1, h, i, hi => by
    have ih := flat_at t j (by simpa using h) i hi
    simp only [flat, List.flatMap_cons, List.getElem_cons_succ] at ih ⊢
    rw [List.getElem?_append_right (by simp [wCells]; omega), ← ih]
    congr 1
    simp [wCells]; omega
def ints (l : List Int) : List Value := l.map (.int .i64)
theorem ints_length (l : List Int) : (ints l).length = l.length := by simp [ints]
theorem ints_app (a b : List Int) : ints (a ++ b) = ints a ++ ints b := by simp [ints]
theorem ints_at (l : List Int) (j : Nat) (h : j < l.length) : (ints l)[j]? = some (.int .i64 l[j]) := by simp [ints, List.getElem?_eq_getElem h]
theorem addrs_length (ws : List W) : (addrs ws).length = ws.length := by simp [addrs]
theorem take_snoc {α : Type} {l : List α} {k : Nat} (h : k < l.length) : l.take (k + 1) = l.take k ++ [l[k]] := by rw [List.take_add_one, List.getElem?_eq_getElem h]; rfl
theorem addrs_snoc {ws : List W} {k : Nat} (h : k < ws.length) : addrs (ws.take (k + 1)) = addrs (ws.take k) ++ [ws[k].1] := by rw [take_snoc h, addrs, List.map_append]; rfl
/-- A list of numbers of the call's own. -/
abbrev Own (w : World) (B : Nat) (v : Value) (l : List Int) : Prop := Row w B 3 1 v l.length (ints l)
theorem Own.nil (w : World) (B : Nat) : Own w B (.slice .none 0 0) [] := World.ownsRow_nil w B 3 1

/-- A manager at block g; its list of what waits is v. -/
structure Is (w : World) (B g : Nat) (v : Value) (q : Q) : Prop where
  lo : B ≤ g
  blk : Blk w g 56 [.int .i64 q.n, .bool q.ins.a, .bool q.ins.b, .bool q.ins.c, .bool q.ins.d, v]
  row : Row w B 62 5 v q.ws.length (flat q.ws)
/-- The blocks of a manager. -/
def foot (g : Nat) (v : Value) (k : Nat) : Prop := k = g ∨ v.ownBlock = some k
/-- The list of what waits is the old one's block, or a new one. -/
def Moved (w : World) (v v' : Value) : Prop := ∀ k, v'.ownBlock = some k → v.ownBlock = some k ∨ w.heap.size ≤ k
theorem Is.keep {w w' : World} {S : Nat → Prop} {B g : Nat} {v : Value} {q : Q} (h : Is w B g v q) (k : Kept w w' S) (hs : ∀ i, foot g v i → ¬ S i) : Is w' B g v q :=
  ⟨h.lo, h.blk.keep k (hs g (.inl rfl)), Row.keep h.row k (fun i hi => hs i (.inr hi))⟩
theorem Is.below {w w' : World} {B g : Nat} {v : Value} {q : Q} (h : Is w B g v q) (k : Below w.heap.size w w') : Is w' B g v q := h.keep (Kept.of_below k (fun _ => False)) (fun _ _ => id)
theorem Is.foot_lo {w : World} {B g : Nat} {v : Value} {q : Q} (h : Is w B g v q) : ∀ k, foot g v k → B ≤ k := by
  rintro k (rfl | hk)
  · exact h.lo
  · exact (Row.at_lt h.row hk).1
theorem Is.foot_lt {w : World} {B g : Nat} {v : Value} {q : Q} (h : Is w B g v q) : ∀ k, foot g v k → k < w.heap.size := by
  rintro k (rfl | hk)
  · exact h.blk.lt
  · exact (Row.at_lt h.row hk).2
/-- A list of numbers is no part of a manager. -/
theorem Is.apart {w : World} {B B' g : Nat} {v u : Value} {q : Q} {n : Nat} {xs : List Value} (h : Is w B g v q) (hu : Row w B' 3 1 u n xs) : ∀ k, u.ownBlock = some k → ¬ foot g v k := by
  rintro k hk (rfl | hv)
  · exact Row.ne_blk hu h.blk (by decide) hk
  · exact Row.ne_row hu h.row (by decide) hk hv
theorem Own.keep {w w' : World} {B B' g : Nat} {v u : Value} {q : Q} {l : List Int} (hu : Own w B' u l) (h : Is w B g v q) (k : Kept w w' (foot g v)) : Own w' B' u l := Row.keep hu k (h.apart hu)
end Go.Proofs.Ytdgkdfblgeobmaa.Qm
