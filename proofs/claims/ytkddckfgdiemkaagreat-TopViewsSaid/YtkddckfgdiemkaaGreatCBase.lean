/-
  Rows of numbers, of bools, of events; what is read, what is a call's own.
-/
import Derived.Test.YtkddckfgdiemkaaGreatCMem
import Derived.Test.YtkddckfgdiemkaaGreatProg
import Derived.Deep.RegionHeld3
import Derived.Deep.MidRow
import Derived.Deep.RegionLaw
import Derived.Laws.MakeOwn
import Derived.Laws.AppendOwnNone
set_option linter.unusedVariables false
set_option linter.unusedSimpArgs false
namespace Go.Proofs.YtkddckfgdiemkaaGreat
open Go.RowKit Mem
set_option maxRecDepth 100000

theorem take_snoc {α : Type} {l : List α} {k : Nat} (h : k < l.length) : l.take (k + 1) = l.take k ++ [l[k]] := by rw [List.take_add_one, List.getElem?_eq_getElem h]; rfl
def ints (l : List Int) : List Value := l.map (.int .i64)
theorem ints_length (l : List Int) : (ints l).length = l.length := by simp [ints]
theorem ints_app (a b : List Int) : ints (a ++ b) = ints a ++ ints b := by simp [ints]
theorem ints_at (l : List Int) (j : Nat) (h : j < l.length) : (ints l)[j]? = some (.int .i64 l[j]) := by simp [ints, List.getElem?_eq_getElem h]
theorem ints_set (l : List Int) (j : Nat) (x : Int) : ints (l.set j x) = (ints l).set j (.int .i64 x) := by simp [ints, List.map_set]
theorem ints_one (l : List Int) : ∀ u ∈ ints l, u.oneCell' = true := by
  intro u hu
  simp only [ints, List.mem_map] at hu
  obtain ⟨x, _, rfl⟩ := hu
  rfl
def bools (l : List Bool) : List Value := l.map .bool
theorem bools_length (l : List Bool) : (bools l).length = l.length := by simp [bools]
theorem bools_app (a b : List Bool) : bools (a ++ b) = bools a ++ bools b := by simp [bools]
theorem bools_at (l : List Bool) (j : Nat) (h : j < l.length) : (bools l)[j]? = some (.bool l[j]) := by simp [bools, List.getElem?_eq_getElem h]
theorem bools_set (l : List Bool) (j : Nat) (x : Bool) : bools (l.set j x) = (bools l).set j (.bool x) := by simp [bools, List.map_set]
theorem bools_one (l : List Bool) : ∀ u ∈ bools l, u.oneCell' = true := by
  intro u hu
  simp only [bools, List.mem_map] at hu
  obtain ⟨x, _, rfl⟩ := hu
  rfl
abbrev Own (w : World) (B : Nat) (v : Value) (l : List Int) : Prop := Row w B 3 1 v l.length (ints l)
abbrev OwnB (w : World) (B : Nat) (v : Value) (l : List Bool) : Prop := Row w B 4 1 v l.length (bools l)
theorem Own.nil (w : World) (B : Nat) : Own w B (.slice .none 0 0) [] := World.ownsRow_nil w B 3 1
abbrev RdI (w : World) (v : Value) (l : List Int) : Prop := Rd w v l.length 1 (ints l)
abbrev RdB (w : World) (v : Value) (l : List Bool) : Prop := Rd w v l.length 1 (bools l)
theorem info3 : (Tryz.prog.info? 3).map (fun i => (i.zero, i.size, i.bytes)) = some (some (.int .i64 0), 1, 8) := by kernel_rfl
theorem info4 : (Tryz.prog.info? 4).map (fun i => (i.zero, i.size, i.bytes)) = some (some (.bool false), 1, 1) := by kernel_rfl
theorem _root_.Go.RowKit.Below.drewN {B : Nat} {a w : World} (h : Below B a w) (n : Nat) : Below B a (w.drewN n) := ⟨h.os, h.tape, h.output, h.size, h.block⟩
theorem Rd.drew {w : World} {v : Value} {n z : Nat} {xs : List Value} (h : Rd w v n z xs) : Rd w.drew v n z xs := h.below ((Below.refl _ w).drew)
/-- A piece of what is read. -/
theorem Rd.piece {w : World} {A : Option Addr} {c n : Nat} {l : List Int} (h : Rd w (.slice A n c) n 1 (ints l)) {i j : Nat} (hij : i ≤ j) (hj : j ≤ n) (A' : Option Addr) (hA : ∀ a, A = some a → i < j → A' = some (a.add i)) :
    Rd w (.slice A' (j - i) (c - i)) (j - i) 1 (ints ((l.take j).drop i)) := by
  obtain ⟨hl, A1, c1, hv, h1, h2, h3⟩ := h
  injection hv with e1 _ e3
  subst e1 e3
  rw [ints_length, Nat.mul_one] at hl
  refine ⟨by simp [ints]; omega, A', c - i, rfl, by omega, by omega, fun h0 => ?_⟩
  obtain ⟨b, off, rfl, hb, hc⟩ := h3 (by omega)
  refine ⟨b, off + i, ?_, hb, fun q u hu => ?_⟩
  · rw [hA _ rfl (by omega)]
    congr 1
    unfold Addr.add; split <;> simp_all
  · have hq : q < j - i := by
      have := (List.getElem?_eq_some_iff.1 hu).1
      simp [ints] at this
      omega
    rw [Nat.add_assoc]
    refine hc (i + q) u ?_
    rw [← hu]
    simp only [ints, List.map_drop, List.map_take, List.getElem?_drop, List.getElem?_take]
    rw [if_pos (by omega)]

theorem Rd.front {w : World} {A : Option Addr} {c : Nat} {l : List Int} (h : RdI w (.slice A l.length c) l) {k : Nat} (hk : k ≤ l.length) : RdI w (.slice A k c) (l.take k) := by
  have := Rd.piece h (i := 0) (j := k) (Nat.zero_le _) hk A (fun a ha _ => by rw [ha]; rfl)
  rw [Nat.sub_zero, Nat.sub_zero, List.drop_zero] at this
  unfold RdI
  rw [show (l.take k).length = k by simp; omega]
  exact this
theorem Rd.back {w : World} {b off : Nat} {c : Nat} {l : List Int} (h : RdI w (.slice (some ⟨b, off, none⟩) l.length c) l) {k : Nat} (hk : k ≤ l.length) (A' : Option Addr) (hA : k < l.length → A' = some ⟨b, off + k, none⟩) : RdI w (.slice A' (l.length - k) (c - k)) (l.drop k) := by
  have := Rd.piece h (i := k) (j := l.length) hk (Nat.le_refl _) A' (fun a ha hh => by rw [hA hh]; injection ha with ha; subst ha; rw [Addr.add_mid])
  rw [List.take_length] at this
  unfold RdI
  rw [show (l.drop k).length = l.length - k by simp]
  exact this

/-! Events -/
structure Ev where
  kind : Int
  loc : Int
  v : Int
  w : Int
  ord : Int
  th : Int
deriving Inhabited
def evCells (e : Ev) : List Value := [.int .i64 e.kind, .int .i64 e.loc, .int .i64 e.v, .int .i64 e.w, .int .i64 e.ord, .int .i64 e.th]
def evs (es : List Ev) : List Value := es.flatMap evCells
theorem evs_at : ∀ (ds : List Ev) (j : Nat) (h : j < ds.length) (i : Nat), i < 6 → (evs ds)[j * 6 + i]? = (evCells ds[j])[i]?
  | x :: t, 0, _, i, hi => by
    simp only [evs, List.flatMap_cons, List.getElem_cons_zero, Nat.zero_mul, Nat.zero_add]
    rw [List.getElem?_append_left (by simp [evCells]; omega)]
  | x :: t, j + 1, h, i, hi => by
    have ih := evs_at t j (by simpa using h) i hi
    simp only [evs, List.flatMap_cons, List.getElem_cons_succ] at ih ⊢
    rw [List.getElem?_append_right (by simp [evCells]; omega), ← ih]
    congr 1
    simp [evCells]; omega
theorem evs_length : ∀ l : List Ev, (evs l).length = l.length * 6
  | [] => rfl
  | x :: t => by have ih := evs_length t; simp only [evs, List.flatMap_cons, List.length_append, List.length_cons] at ih ⊢; rw [ih]; simp [evCells]; omega
abbrev RdE (w : World) (v : Value) (es : List Ev) : Prop := Rd w v es.length 6 (evs es)
/-- The event of a number. -/
def ev (es : List Ev) (i : Int) : Ev := es.getD i.toNat default
theorem ev_at (es : List Ev) {k : Nat} (h : k < es.length) : ev es (k : Int) = es[k] := by simp [ev, List.getD, List.getElem?_eq_getElem h]
/-- The cells of an event, as the walk spells them. -/
theorem RdE.at_ {w : World} {A : Option Addr} {c : Nat} {es : List Ev} (h : RdE w (.slice A es.length c) es) {k : Nat} (hk : k < es.length) : ∃ b off, A = some ⟨b, off, none⟩ ∧ b < w.heap.size ∧
    w.cell? ⟨b, off + k * 6, none⟩ = some (.int .i64 (ev es k).kind) ∧ w.cell? ⟨b, off + k * 6 + 1, none⟩ = some (.int .i64 (ev es k).loc) ∧ w.cell? ⟨b, off + k * 6 + 2, none⟩ = some (.int .i64 (ev es k).v) ∧
    w.cell? ⟨b, off + k * 6 + 3, none⟩ = some (.int .i64 (ev es k).w) ∧ w.cell? ⟨b, off + k * 6 + 4, none⟩ = some (.int .i64 (ev es k).ord) ∧ w.cell? ⟨b, off + k * 6 + 5, none⟩ = some (.int .i64 (ev es k).th) := by
  obtain ⟨b, off, hA, hb, hc⟩ := Rd.elem h hk
  have hat := fun i hi => (hc i hi).trans (evs_at es k hk i hi)
  rw [ev_at es hk]
  exact ⟨b, off, hA, hb, hat 0 (by decide), hat 1 (by decide), hat 2 (by decide), hat 3 (by decide), hat 4 (by decide), hat 5 (by decide)⟩
/-- A number of an event. -/
def In (es : List Ev) (i : Int) : Prop := 0 ≤ i ∧ i < (es.length : Int)
theorem In.nat {es : List Ev} {i : Int} (h : In es i) : ∃ k : Nat, i = (k : Int) ∧ k < es.length := ⟨i.toNat, by have := h.1; omega, by have := h.1; have := h.2; omega⟩
end Go.Proofs.YtkddckfgdiemkaaGreat
