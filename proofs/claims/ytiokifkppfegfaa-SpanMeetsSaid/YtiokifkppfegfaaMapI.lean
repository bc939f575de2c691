/-
  Maps of whole numbers to whole numbers, as a function: what a lookup, a store, a removal make of it.
-/
import Derived.Test.YtiokifkppfegfaaMem
import Derived.Maps.OwnSet
import Derived.Maps.Views
set_option linter.unusedVariables false
set_option linter.unusedSimpArgs false
namespace Go.Proofs.Ytiokifkppfegfaa.Mem
open Go.RowKit Go.Maps

def Wf (x : Int) : Prop := (Lit.int .i64 x).wf = true
theorem wf_of {x : Int} (h0 : -9223372036854775808 ≤ x) (h1 : x ≤ 9223372036854775807) : Wf x := WalkArith.wf_i64 ⟨h0, h1⟩
/-- A function turned at one place. -/
def upd (f : Int → Int) (x y : Int) : Int → Int := fun z => if z = x then y else f z
/-- A map at block b, of at most n entries, that reads as f (0 where there is none). -/
def MapI (P : Program) (w : World) (b n : Nat) (f : Int → Int) : Prop :=
  ∃ D : DataW Unit, IsMap D ∧ w.ownsMap P 3 (plainElem P 3) b n D ∧ ∀ x, D.atKey (.int .i64 x) (.lit (.int .i64 0)) = .lit (.int .i64 (f x))
section
variable {P : Program} {w : World} {b n : Nat} {f : Int → Int}
theorem MapI.made (w : World) (P : Program) : MapI P (w.alloc (.map #[] 0)) w.heap.size 0 (fun _ => 0) :=
  ⟨.map [], isMap_empty, World.ownsMap_made w P 3 _, fun x => rfl⟩
theorem MapI.lt (h : MapI P w b n f) : b < w.heap.size := by obtain ⟨D, _, h, _⟩ := h; exact h.lt
theorem MapI.mono (h : MapI P w b n f) {n' : Nat} (hn : n ≤ n') : MapI P w b n' f := by obtain ⟨D, h1, h2, h3⟩ := h; exact ⟨D, h1, h2.mono hn, h3⟩
theorem MapI.keep {w' : World} {S : Nat → Prop} (h : MapI P w b n f) (k : Kept w w' S) (hs : ¬ S b) : MapI P w' b n f := by
  have hlt := h.lt
  obtain ⟨D, h1, ⟨es, clock, hb, F, hs', hD⟩, h3⟩ := h
  exact ⟨D, h1, ⟨es, clock, (k.block b hlt hs).trans hb, F, hs', hD⟩, h3⟩
theorem MapI.below {w' : World} (h : MapI P w b n f) (k : Below w.heap.size w w') : MapI P w' b n f := h.keep (Kept.of_below k (fun _ => False)) id
theorem MapI.ne_blk {g : Nat} {t : TypeId} {cs : List Value} (h : MapI P w b n f) (hb : Blk w g t cs) : b ≠ g := by
  obtain ⟨D, h1, ⟨es, clock, hb', _⟩, h3⟩ := h
  rintro rfl
  have := hb'.symm.trans hb
  cases this
theorem MapI.ne_row {B : Nat} {e : TypeId} {z m : Nat} {v : Value} {xs : List Value} (h : MapI P w b n f) (hr : Row w B e z v m xs) : v.ownBlock ≠ some b := by
  intro hv
  obtain ⟨D, h1, ⟨es, clock, hb', _⟩, h3⟩ := h
  rcases hr.2 with ⟨rfl, _⟩ | ⟨g', cap, cur, rfl, _, hg, _⟩
  · cases hv
  · simp only [Value.ownBlock, Option.some.injEq] at hv
    subst hv
    have := hb'.symm.trans hg
    cases this
variable (h3 : P.underlying 3 = some (.int .i64)) (hz : ∀ w, (zeroValue 3).run P w = .ok (.int .i64 0) w) {t : TypeId} (ht : P.underlying t = some (.map 3 3))
include h3 hz ht in
theorem MapI.look (h : MapI P w b n f) {x : Int} (hx : Wf x) : (Instr.lookup t (.map (some b)) (.int .i64 x) false).run P w = .ok (.int .i64 (f x)) w := by
  obtain ⟨D, h1, h2, hf⟩ := h
  obtain ⟨c, hrun, hat, _⟩ := h2.lookup_int (int_keyed h3) ht h3 (hz w) (keyOf_int_mk h3 hx)
  rw [hf] at hat
  injection hat with hat
  injection hat with _ hat
  rw [hrun, hat]
include h3 hz ht in
theorem look_nil {x : Int} (hx : Wf x) (w : World) : (Instr.lookup t (.map none) (.int .i64 x) false).run P w = .ok (.int .i64 0) w := by
  have := Maps.look_nil (P := P) (w := w) false (int_keyed h3) ht (hz w) (keyOf_int_mk h3 hx)
  simpa using this
theorem kept_of_grown {w w' : World} {b : Nat} (h : w.grownBy w' (some b)) : Kept w w' (fun k => k = b) := ⟨h.os, h.tape, h.output, h.size, fun k hk hs => h.block k hk (fun e => hs (by injection e))⟩
include h3 ht in
theorem MapI.store (h : MapI P w b n f) (hn : n < 1000000) {x y : Int} (hx : Wf x) (hy : Wf y) :
    ∃ w', (Instr.mapUpdate t (.map (some b)) (.int .i64 x) (.int .i64 y)).run P w = .ok () w' ∧ MapI P w' b (n + 1) (upd f x y) ∧ Kept w w' (fun k => k = b) := by
  obtain ⟨D, h1, h2, hf⟩ := h
  obtain ⟨w', hrun, r1, r2⟩ := h2.update (int_keyed h3) ht (by simp only [maxLen]; omega) (keyOf_int_mk h3 hx) (plainElem_int h3 hy)
  refine ⟨w', hrun, ⟨_, h1.put _ _, r1, fun z => ?_⟩, kept_of_grown r2⟩
  simp only [upd]
  by_cases e : z = x
  · subst e
    rw [if_pos rfl, atKey_put_same h1 (show WideAt.IsKeyLit (.int .i64 z) from trivial)]
  · rw [if_neg e, atKey_put_other (by intro e'; injection e' with _ e'; exact e e')]
    exact hf z
include h3 ht in
theorem MapI.drop (h : MapI P w b n f) {x : Int} (hx : Wf x) (ty : TypeId) :
    ∃ w', (Builtin.delete_ #[t, 3] ty #[.map (some b), .int .i64 x]).run P w = .ok (.tuple #[]) w' ∧ MapI P w' b n (upd f x 0) ∧ Kept w w' (fun k => k = b) := by
  obtain ⟨D, h1, h2, hf⟩ := h
  obtain ⟨w', hrun, r1, r2⟩ := World.ownsMap.drop h2 (int_keyed h3) ht (keyOf_int_mk h3 hx) ty
  refine ⟨w', hrun, ⟨_, h1.del _, r1, fun z => ?_⟩, kept_of_grown r2.grown⟩
  simp only [upd]
  by_cases e : z = x
  · subst e
    rw [if_pos rfl, atKey_del_same]
  · rw [if_neg e, atKey_del_other (by intro e'; injection e' with _ e'; exact e e')]
    exact hf z
include h3 ht in
/-- A store at the operation, in a region whose order is drawn. -/
theorem step_mapUpdate {ops : Array Oper} {o : Oper} {a : Act} {K : Act → World → Prop} {Q : Exit → Act → World → Prop} {E : Prop} (hgd : o.guard = none) (m x y : Operand)
    (ho : o.op = Op.mapUpdate t m x y) (h : MapI P w b n f) (hn : n < 1000000) (kx ky : Int) (hm : a.eval m = .map (some b)) (hx : a.eval x = .int .i64 kx) (hy : a.eval y = .int .i64 ky) (wx : Wf kx) (wy : Wf ky)
    (hK : ∀ w', MapI P w' b (n + 1) (upd f kx ky) → Kept w w' (fun k => k = b) → K (a.put o.dst undef) w') :
    if Region.wanted o (yielded ops a.tmps) = true then Oper.wp P o a w K Q else E := by
  have hw : Region.wanted o (yielded ops a.tmps) = true := by simp [Region.wanted, hgd]
  rw [if_pos hw]
  obtain ⟨w', hrun, r1, r2⟩ := h.store h3 ht hn wx wy
  unfold Oper.wp
  simp [execOp, ho, hm, hx, hy, hrun, Result.andThen]
  exact hK w' r1 r2
include h3 ht in
/-- A removal at the operation, in a region whose order is drawn. -/
theorem step_delete {ops : Array Oper} {o : Oper} {a : Act} {K : Act → World → Prop} {Q : Exit → Act → World → Prop} {E : Prop} (hgd : o.guard = none) (m x : Operand)
    (ho : o.op = Op.call { callee := Callee.builtin Builtin.delete, args := #[m, x], argTypes := #[t, 3] }) (h : MapI P w b n f) (kx : Int) (hm : a.eval m = .map (some b)) (hx : a.eval x = .int .i64 kx) (wx : Wf kx)
    (hK : ∀ w', MapI P w' b n (upd f kx 0) → Kept w w' (fun k => k = b) → K (a.put o.dst (.tuple #[])) w') :
    if Region.wanted o (yielded ops a.tmps) = true then Oper.wp P o a w K Q else E := by
  have hw : Region.wanted o (yielded ops a.tmps) = true := by simp [Region.wanted, hgd]
  rw [if_pos hw]
  obtain ⟨w', hrun, r1, r2⟩ := h.drop h3 ht wx o.type
  unfold Oper.wp
  simp [execOp, ho, resolve, invoke, builtin, hm, hx, hrun, Result.andThen]
  exact hK w' r1 r2
include h3 ht in
/-- A store at the operation. -/
theorem wpList_map_put {ops : Array Oper} {rest : List Oper} {o : Oper} {a : Act} {Q : Exit → Act → World → Prop} (hgd : o.guard = none) (m x y : Operand)
    (ho : o.op = Op.mapUpdate t m x y) (h : MapI P w b n f) (hn : n < 1000000) (kx ky : Int) (hm : a.eval m = .map (some b)) (hx : a.eval x = .int .i64 kx) (hy : a.eval y = .int .i64 ky) (wx : Wf kx) (wy : Wf ky)
    (hK : ∀ w', MapI P w' b (n + 1) (upd f kx ky) → Kept w w' (fun k => k = b) → wpList P ops Q rest (a.put o.dst undef) w') : wpList P ops Q (o :: rest) a w := by
  refine wpList_plain hgd fun K' hK' => ?_
  obtain ⟨w', hrun, r1, r2⟩ := h.store h3 ht hn wx wy
  unfold Oper.wp
  simp [execOp, ho, hm, hx, hy, hrun, Result.andThen]
  exact hK' _ _ (hK w' r1 r2)
include h3 ht in
/-- A removal at the operation. -/
theorem wpList_map_del {ops : Array Oper} {rest : List Oper} {o : Oper} {a : Act} {Q : Exit → Act → World → Prop} (hgd : o.guard = none) (m x : Operand)
    (ho : o.op = Op.call { callee := Callee.builtin Builtin.delete, args := #[m, x], argTypes := #[t, 3] }) (h : MapI P w b n f) (kx : Int) (hm : a.eval m = .map (some b)) (hx : a.eval x = .int .i64 kx) (wx : Wf kx)
    (hK : ∀ w', MapI P w' b n (upd f kx 0) → Kept w w' (fun k => k = b) → wpList P ops Q rest (a.put o.dst (.tuple #[])) w') : wpList P ops Q (o :: rest) a w := by
  refine wpList_plain hgd fun K' hK' => ?_
  obtain ⟨w', hrun, r1, r2⟩ := h.drop h3 ht wx o.type
  unfold Oper.wp
  simp [execOp, ho, resolve, invoke, builtin, hm, hx, hrun, Result.andThen]
  exact hK' _ _ (hK w' r1 r2)
end
end Go.Proofs.Ytiokifkppfegfaa.Mem
