/-
  Memory, for walks over structs, arrays and slices of a call's own: which blocks may have turned; a block known whole; a row of cells that is read.
-/
import Derived.WalkKit
import Derived.KernelRfl
import Derived.Maps.AppendAt
import Derived.Lib.Hide
import Derived.Deep.Draws
import Derived.Deep.QuietTactic
import Derived.BigQuiet
import Derived.Handy
set_option linter.unusedVariables false
set_option linter.unusedSimpArgs false
namespace Go.Proofs.YtkddckfgdiemkaaGreat.Mem
open Go.RowKit

/-- Of what was there only blocks in S may have turned. -/
structure Kept (w w' : World) (S : Nat → Prop) : Prop where
  os : w'.os = w.os
  tape : w'.tape = w.tape
  output : w'.output = w.output
  size : w.heap.size ≤ w'.heap.size
  block : ∀ k, k < w.heap.size → ¬ S k → w'.heap[k]? = w.heap[k]?
theorem Kept.refl (w : World) (S : Nat → Prop) : Kept w w S := ⟨rfl, rfl, rfl, Nat.le_refl _, fun _ _ _ => rfl⟩
theorem Kept.mono {w w' : World} {S T : Nat → Prop} (h : Kept w w' S) (hs : ∀ k, k < w.heap.size → S k → T k) : Kept w w' T :=
  ⟨h.os, h.tape, h.output, h.size, fun k hk ht => h.block k hk (fun s => ht (hs k hk s))⟩
theorem Kept.trans {a b c : World} {S T : Nat → Prop} (h : Kept a b S) (k : Kept b c T) (ht : ∀ i, i < a.heap.size → T i → S i) : Kept a c S :=
  ⟨k.os.trans h.os, k.tape.trans h.tape, k.output.trans h.output, Nat.le_trans h.size k.size, fun i hi hs => (k.block i (Nat.lt_of_lt_of_le hi h.size) (fun t => hs (ht i hi t))).trans (h.block i hi hs)⟩
theorem Kept.of_below {w w' : World} (h : Below w.heap.size w w') (S : Nat → Prop) : Kept w w' S := ⟨h.os, h.tape, h.output, h.size, fun k hk _ => h.block k hk⟩
theorem Kept.below {w w' : World} {S : Nat → Prop} {B : Nat} (h : Kept w w' S) (hB : B ≤ w.heap.size) (hs : ∀ k, S k → B ≤ k) : Below B w w' :=
  ⟨h.os, h.tape, h.output, h.size, fun k hk => h.block k (by omega) (fun s => by have := hs k s; omega)⟩
theorem Kept.alloc {a w : World} {S : Nat → Prop} (h : Kept a w S) (o : Obj) : Kept a (w.alloc o) S :=
  ⟨h.os, h.tape, h.output, Nat.le_trans h.size (by simp), fun k hk hs => (Below.heap_alloc w o k (Nat.lt_of_lt_of_le hk h.size)).trans (h.block k hk hs)⟩
theorem Kept.drew {a w : World} {S : Nat → Prop} (h : Kept a w S) : Kept a w.drew S := ⟨h.os, h.tape, h.output, h.size, h.block⟩
theorem Kept.drewN {a w : World} {S : Nat → Prop} (h : Kept a w S) (n : Nat) : Kept a (w.drewN n) S := ⟨h.os, h.tape, h.output, h.size, h.block⟩
theorem Kept.setCell {a w : World} {S : Nat → Prop} (h : Kept a w S) {p : Addr} (hp : S p.block ∨ a.heap.size ≤ p.block) (u : Value) : Kept a (w.setCell p u) S :=
  ⟨h.os, h.tape, h.output, by simpa [World.setCell] using h.size, fun k hk hs => (Below.heap_setCell w p u k (fun e => hp.elim (fun h => hs (e ▸ h)) (fun h => absurd hk (by omega)))).trans (h.block k hk hs)⟩
theorem Kept.grown {a w w' : World} {S : Nat → Prop} {row : Option Nat} (h : Kept a w S) (hg : w.grownBy w' row) (hr : ∀ k, row = some k → S k ∨ a.heap.size ≤ k) : Kept a w' S :=
  h.trans (T := fun k => row = some k) ⟨hg.os, hg.tape, hg.output, hg.size, fun k hk hs => hg.block k hk (fun e => hs e.symm)⟩ (fun i hi e => (hr i e).elim id (fun h => absurd hi (by omega)))
theorem Kept.then_below {a b c : World} {S : Nat → Prop} (h : Kept a b S) (k : Below b.heap.size b c) : Kept a c S := h.trans (Kept.of_below k (fun _ => False)) (fun _ _ => False.elim)

/-- A block of cells, known whole. -/
def Blk (w : World) (g : Nat) (t : TypeId) (cs : List Value) : Prop := w.heap[g]? = some (.cells cs.toArray t (0, 0))
theorem Blk.lt {w : World} {g : Nat} {t : TypeId} {cs : List Value} (h : Blk w g t cs) : g < w.heap.size := (Array.getElem?_eq_some_iff.1 h).1
theorem Blk.cell {w : World} {g : Nat} {t : TypeId} {cs : List Value} (h : Blk w g t cs) (j : Nat) {v : Value} (hv : cs[j]? = some v) : w.cell? ⟨g, j, none⟩ = some v := by
  rw [cell_of_row w g j _ t _ h]; simpa using hv
theorem Blk.free {w : World} {g : Nat} {t : TypeId} {cs : List Value} (h : Blk w g t cs) (j : Nat) : w.frozen? ⟨g, j, none⟩ = false := frozen_of_row w g j _ t h
theorem Blk.set {w : World} {g : Nat} {t : TypeId} {cs : List Value} (h : Blk w g t cs) (j : Nat) (v : Value) : Blk (w.setCell ⟨g, j, none⟩ v) g t (cs.set j v) := by
  have := heap_setCell_same w g j cs.toArray t v h
  simpa [Blk] using this
theorem Blk.keep {w w' : World} {S : Nat → Prop} {g : Nat} {t : TypeId} {cs : List Value} (h : Blk w g t cs) (k : Kept w w' S) (hg : ¬ S g) : Blk w' g t cs := (k.block g h.lt hg).trans h
theorem Blk.below {w w' : World} {g : Nat} {t : TypeId} {cs : List Value} (h : Blk w g t cs) (k : Below w.heap.size w w') : Blk w' g t cs := (k.block g h.lt).trans h
theorem Blk.new (w : World) (t : TypeId) (cs : List Value) : Blk (w.alloc (.cells cs.toArray t)) w.heap.size t cs := heap_alloc_new (w := w) _
theorem Blk.alloc {w : World} {g : Nat} {t : TypeId} {cs : List Value} (h : Blk w g t cs) (o : Obj) : Blk (w.alloc o) g t cs := (Below.heap_alloc w o g h.lt).trans h
theorem Blk.type {w : World} {g : Nat} {t t' : TypeId} {cs cs' : List Value} (h : Blk w g t cs) (h' : Blk w g t' cs') : t = t' ∧ cs = cs' := by
  have e := h.symm.trans h'
  injection e with e
  injection e with e1 e2
  exact ⟨e2, by simpa using congrArg Array.toList e1⟩

/-! Rows of a call's own: 'World.ownsRow'. -/
abbrev Row := World.ownsRow
theorem Row.keep {w w' : World} {S : Nat → Prop} {B : Nat} {e : TypeId} {z n : Nat} {v : Value} {xs : List Value} (h : Row w B e z v n xs) (k : Kept w w' S) (hs : ∀ g, v.ownBlock = some g → ¬ S g) : Row w' B e z v n xs := by
  refine ⟨h.1, ?_⟩
  rcases h.2 with hn | ⟨g, cap, cur, rfl, hb, hg, rest⟩
  · exact .inl hn
  · refine .inr ⟨g, cap, cur, rfl, hb, ?_, rest⟩
    rw [k.block g (Array.getElem?_eq_some_iff.1 hg).1 (hs g rfl)]
    exact hg
theorem Row.below {w w' : World} {B : Nat} {e : TypeId} {z n : Nat} {v : Value} {xs : List Value} (h : Row w B e z v n xs) (k : Below w.heap.size w w') : Row w' B e z v n xs := h.keep (Kept.of_below k (fun _ => False)) (fun _ _ => id)
theorem Row.mono {w : World} {B B' : Nat} {e : TypeId} {z n : Nat} {v : Value} {xs : List Value} (h : Row w B e z v n xs) (hB : B' ≤ B) : Row w B' e z v n xs := by
  refine ⟨h.1, ?_⟩
  rcases h.2 with hn | ⟨g, cap, cur, rfl, hb, rest⟩
  · exact .inl hn
  · exact .inr ⟨g, cap, cur, rfl, Nat.le_trans hB hb, rest⟩
theorem Row.at_lt {w : World} {B : Nat} {e : TypeId} {z n : Nat} {v : Value} {xs : List Value} (h : Row w B e z v n xs) {g : Nat} (hg : v.ownBlock = some g) : B ≤ g ∧ g < w.heap.size := World.ownsRow.lt h g hg
/-- A row's block is none of another type's. -/
theorem Row.ne_blk {w : World} {B : Nat} {e t : TypeId} {z n g : Nat} {v : Value} {xs cs : List Value} (h : Row w B e z v n xs) (hb : Blk w g t cs) (ht : e ≠ t) : v.ownBlock ≠ some g := by
  intro hv
  rcases h.2 with ⟨rfl, _⟩ | ⟨g', cap, cur, rfl, _, hg, _⟩
  · cases hv
  · simp only [Value.ownBlock, Option.some.injEq] at hv
    subst hv
    have e1 := hg.symm.trans hb
    injection e1 with e1
    injection e1 with _ e2
    exact ht e2
theorem Row.ne_row {w : World} {B B' : Nat} {e e' : TypeId} {z n z' n' : Nat} {v v' : Value} {xs xs' : List Value} (h : Row w B e z v n xs) (h' : Row w B' e' z' v' n' xs') (ht : e ≠ e') {g : Nat} (hv : v.ownBlock = some g) : v'.ownBlock ≠ some g := by
  intro hv'
  rcases h.2 with ⟨rfl, _⟩ | ⟨g1, cap, cur, rfl, _, hg, _⟩
  · cases hv
  · rcases h'.2 with ⟨rfl, _⟩ | ⟨g2, cap', cur', rfl, _, hg', _⟩
    · cases hv'
    · simp only [Value.ownBlock, Option.some.injEq] at hv hv'
      subst hv hv'
      have e1 := hg.symm.trans hg'
      injection e1 with e1
      injection e1 with _ e2
      exact ht e2
/-- The row's shape. -/
theorem Row.shape {w : World} {B : Nat} {e : TypeId} {z n : Nat} {v : Value} {xs : List Value} (h : Row w B e z v n xs) : ∃ A c, v = .slice A n c ∧ n ≤ c ∧ c ≤ maxLen := by
  rcases h.2 with ⟨rfl, rfl⟩ | ⟨g, cap, cur, rfl, _, _, h1, h2, _⟩
  · exact ⟨none, 0, rfl, Nat.le_refl _, by simp [maxLen]⟩
  · exact ⟨_, cap, rfl, h1, h2⟩
theorem Row.form {w : World} {B : Nat} {e : TypeId} {z n : Nat} {v : Value} {xs : List Value} (h : Row w B e z v n xs) (h0 : 0 < n) : ∃ g cap, v = .slice (some ⟨g, 0, none⟩) n cap ∧ B ≤ g ∧ g < w.heap.size ∧ n ≤ cap ∧ cap ≤ maxLen ∧
    ∃ cur : Array Value, w.heap[g]? = some (.cells cur e (0, 0)) ∧ cur.size = cap * z ∧ cur.toList.take (n * z) = xs := by
  rcases h.2 with ⟨_, hn⟩ | ⟨g, cap, cur, rfl, hb, hg, h1, h2, h3, h4⟩
  · omega
  · exact ⟨g, cap, rfl, hb, (Array.getElem?_eq_some_iff.1 hg).1, h1, h2, cur, hg, h3, h4⟩

/-- A row of cells that is read, z cells each element: whoever made it. -/
def Rd (w : World) (v : Value) (n z : Nat) (xs : List Value) : Prop :=
  xs.length = n * z ∧ ∃ A c, v = .slice A n c ∧ n ≤ c ∧ c ≤ maxLen ∧ (0 < n → ∃ b off, A = some ⟨b, off, none⟩ ∧ b < w.heap.size ∧ ∀ q u, xs[q]? = some u → w.cell? ⟨b, off + q, none⟩ = some u)
theorem Row.rd {w : World} {B : Nat} {e : TypeId} {z n : Nat} {v : Value} {xs : List Value} (h : Row w B e z v n xs) : Rd w v n z xs := by
  refine ⟨h.1, ?_⟩
  obtain ⟨A, c, rfl, h1, h2⟩ := Row.shape h
  refine ⟨A, c, rfl, h1, h2, fun h0 => ?_⟩
  obtain ⟨g, cap, hv, _, hl, _, _, cur, hg, _, ht⟩ := Row.form h h0
  injection hv with hA
  refine ⟨g, 0, hA, hl, fun q u hu => ?_⟩
  rw [Nat.zero_add, cell_of_row w g q cur e _ hg]
  rw [← ht, List.getElem?_take] at hu
  split at hu
  · simpa using hu
  · cases hu
/-- What is read stays, whatever happens to other blocks. -/
theorem Rd.keep {w w' : World} {S : Nat → Prop} {v : Value} {n z : Nat} {xs : List Value} (h : Rd w v n z xs) (k : Kept w w' S) (hs : ∀ g, v.ownBlock = some g → ¬ S g) : Rd w' v n z xs := by
  obtain ⟨hl, A, c, rfl, h1, h2, h3⟩ := h
  refine ⟨hl, A, c, rfl, h1, h2, fun h0 => ?_⟩
  obtain ⟨b, off, rfl, hb, hc⟩ := h3 h0
  refine ⟨b, off, rfl, Nat.lt_of_lt_of_le hb k.size, fun q u hu => ?_⟩
  exact (World.cell?_of_block (w := w) (k.block b hb (hs b rfl))).trans (hc q u hu)
theorem Rd.below {w w' : World} {v : Value} {n z : Nat} {xs : List Value} (h : Rd w v n z xs) (k : Below w.heap.size w w') : Rd w' v n z xs := h.keep (Kept.of_below k (fun _ => False)) (fun _ _ => id)
theorem Rd.shape {w : World} {v : Value} {n z : Nat} {xs : List Value} (h : Rd w v n z xs) : ∃ A c, v = .slice A n c ∧ n ≤ c ∧ c ≤ 9223372036854775807 := by
  obtain ⟨_, A, c, rfl, h1, h2, _⟩ := h
  exact ⟨A, c, rfl, h1, by simpa [maxLen] using h2⟩
/-- The cells of one element. -/
theorem Rd.elem {w : World} {A : Option Addr} {c n z : Nat} {xs : List Value} (h : Rd w (.slice A n c) n z xs) {k : Nat} (hk : k < n) : ∃ b off, A = some ⟨b, off, none⟩ ∧ b < w.heap.size ∧ ∀ i, i < z → w.cell? ⟨b, off + k * z + i, none⟩ = xs[k * z + i]? := by
  obtain ⟨hl, A', c', hv, _, _, h3⟩ := h
  injection hv with hA _ _
  subst hA
  obtain ⟨b, off, rfl, hb, hc⟩ := h3 (by omega)
  refine ⟨b, off, rfl, hb, fun i hi => ?_⟩
  have hlt : k * z + i < xs.length := by
    have : (k + 1) * z ≤ n * z := Nat.mul_le_mul_right _ hk
    rw [Nat.add_mul, Nat.one_mul] at this
    omega
  rw [List.getElem?_eq_getElem hlt, Nat.add_assoc]
  exact hc _ _ (List.getElem?_eq_getElem hlt)
/-- One cell of a row of one-cell elements. -/
theorem Rd.one {w : World} {A : Option Addr} {c n : Nat} {xs : List Value} (h : Rd w (.slice A n c) n 1 xs) {k : Nat} (hk : k < n) : ∃ b off, A = some ⟨b, off, none⟩ ∧ b < w.heap.size ∧ w.cell? ⟨b, off + k, none⟩ = xs[k]? := by
  obtain ⟨b, off, hA, hb, hc⟩ := h.elem hk
  exact ⟨b, off, hA, hb, by simpa using hc 0 (by decide)⟩
theorem Row.free {w : World} {B : Nat} {e : TypeId} {z n g c : Nat} {xs : List Value} (h : Row w B e z (.slice (some ⟨g, 0, none⟩) n c) n xs) (j : Nat) : w.frozen? ⟨g, j, none⟩ = false := by
  rcases h.2 with ⟨h, _⟩ | ⟨g', cap, cur, h, _, hg, _⟩
  · cases h
  · injection h with h
    injection h with h
    injection h with h
    subst h
    exact frozen_of_row w g j cur e hg
end Go.Proofs.YtkddckfgdiemkaaGreat.Mem
/-
  'append(v, x)' of one element of several cells to a row of the call's own, at any element type.
-/
set_option linter.unusedVariables false
set_option linter.unusedSimpArgs false
namespace Go.Proofs.YtkddckfgdiemkaaGreat.Mem
open Go.RowKit

theorem info_one {P : Program} {t : TypeId} {z : Value} {n b : Nat} (h : (P.info? t).map (fun i => (i.zero, i.size, i.bytes)) = some (some z, n, b)) : ∃ i, P.info? t = some i ∧ i.zero = some z ∧ i.size = n ∧ i.bytes = b := by
  cases hi : P.info? t with
  | none => rw [hi] at h; cases h
  | some i =>
    rw [hi] at h
    simp only [Option.map_some, Option.some.injEq, Prod.mk.injEq] at h
    exact ⟨i, rfl, h.1, h.2.1, h.2.2⟩
section
variable {P : Program} {ty e : TypeId} {z : Value} {k b : Nat}
/-- The box of the element lies at block N. -/
theorem wpList_app {ops : Array Oper} {rest : List Oper} {o : Oper} {a : Act} {Q : Exit → Act → World → Prop} {w : World} (hgd : o.guard = none) (s x : Operand)
    (ho : o.op = .call { callee := .builtin .append, args := #[s, x], argTypes := #[ty, ty] }) (ht : P.underlying ty = some (.slice e)) (hi : (P.info? e).map (fun i => (i.zero, i.size, i.bytes)) = some (some z, k, b)) (hz : z.cells.size = k) (hk : 0 < k) (hb : b ≤ 100000000)
    (B : Nat) (v : Value) (n : Nat) (xs : List Value) (N : Nat) (ys : List Value) (hs : a.eval s = v) (hown : Row w B e k v n xs) (hx : a.eval x = .slice (some ⟨N, 0, none⟩) 1 1) (hN : Blk w N e ys) (hy : ys.length = k) (h1 : ∀ u ∈ ys, u.oneCell' = true) (hB : B ≤ w.heap.size) (hl : n < 1000000)
    (h : ∀ v' w', Row w' B e k v' (n + 1) (xs ++ ys) → Kept w w' (fun j => v.ownBlock = some j) → (∀ j, v'.ownBlock = some j → v.ownBlock = some j ∨ w.heap.size ≤ j) → wpList P ops Q rest (a.put o.dst v') w') :
    wpList P ops Q (o :: rest) a w := by
  obtain ⟨i0, hi0, hz0, hz1, hz2⟩ := info_one hi
  refine wpList_append_own_at _ hgd s x ty ho B e i0 z k b ht hi0 hz0 hz1 hz2 hz hk v n xs hs hown ⟨N, 0, none⟩ 1 1 ys hx (by omega)
    (fun j u hu => by rw [show (⟨N, 0, none⟩ : Addr).add j = ⟨N, j, none⟩ by unfold Addr.add; split <;> simp_all]; exact hN.cell j hu) h1 (by simp only [maxLen]; omega) ?_ hB ?_
  · have : (n + 1) * b ≤ 1000000 * 100000000 := Nat.mul_le_mul (by omega) hb
    omega
  · intro v' w' hown' hg _ hat
    refine h v' w' hown' ((Kept.refl w _).grown hg (fun k hk => .inl hk)) (fun k hk => ?_)
    rcases hat with hat | hat
    · exact .inl (hat ▸ hk)
    · rw [hat] at hk; simp at hk; exact .inr (by omega)
/-- The same in a region whose order is drawn. -/
theorem step_app {ops : Array Oper} {o : Oper} {a : Act} {w : World} {K : Act → World → Prop} {Q : Exit → Act → World → Prop} {E : Prop} (hgd : o.guard = none) (s x : Operand)
    (ho : o.op = .call { callee := .builtin .append, args := #[s, x], argTypes := #[ty, ty] }) (ht : P.underlying ty = some (.slice e)) (hi : (P.info? e).map (fun i => (i.zero, i.size, i.bytes)) = some (some z, k, b)) (hz : z.cells.size = k) (hk : 0 < k) (hb : b ≤ 100000000)
    (B : Nat) (v : Value) (n : Nat) (xs : List Value) (N : Nat) (ys : List Value) (hs : a.eval s = v) (hown : Row w B e k v n xs) (hx : a.eval x = .slice (some ⟨N, 0, none⟩) 1 1) (hN : Blk w N e ys) (hy : ys.length = k) (h1 : ∀ u ∈ ys, u.oneCell' = true) (hB : B ≤ w.heap.size) (hl : n < 1000000)
    (h : ∀ v' w', Row w' B e k v' (n + 1) (xs ++ ys) → Kept w w' (fun j => v.ownBlock = some j) → (∀ j, v'.ownBlock = some j → v.ownBlock = some j ∨ w.heap.size ≤ j) → K (a.put o.dst v') w') :
    if Region.wanted o (yielded ops a.tmps) = true then Oper.wp P o a w K Q else E := by
  have hw : Region.wanted o (yielded ops a.tmps) = true := by simp [Region.wanted, hgd]
  rw [if_pos hw]
  obtain ⟨i0, hi0, hz0, hz1, hz2⟩ := info_one hi
  obtain ⟨v', w', hr, h2, h3, h4, h5⟩ := run_append_own_at (P := P) w B ty o.type e i0 z k b ht hi0 hz0 hz1 hz2 hz hk v n xs hown ⟨N, 0, none⟩ 1 1 ys (by omega)
    (fun j u hu => by rw [show (⟨N, 0, none⟩ : Addr).add j = ⟨N, j, none⟩ by unfold Addr.add; split <;> simp_all]; exact hN.cell j hu) h1 (by simp only [maxLen]; omega)
    (by have : (n + 1) * b ≤ 1000000 * 100000000 := Nat.mul_le_mul (by omega) hb
        omega) hB
  unfold Oper.wp execOp
  simp only [ho, resolve, invoke, builtin, Sem.run_bind, Sem.run_pure, Result.andThen_ok, List.map_toArray, List.map_cons, List.map_nil, hs, hx, hr]
  refine h v' w' h2 ((Kept.refl w _).grown h3 (fun k hk => .inl hk)) (fun k hk => ?_)
  rcases h5 with hat | hat
  · exact .inl (hat ▸ hk)
  · rw [hat] at hk; simp at hk; exact .inr (by omega)
end
end Go.Proofs.YtkddckfgdiemkaaGreat.Mem
