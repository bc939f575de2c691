/-
  'append(v, x)' of one element of several cells to a row of the call's own, at any element type.
-/
import Derived.Test.YtiokifkppfegfaaMem
set_option linter.unusedVariables false
set_option linter.unusedSimpArgs false
namespace Go.Proofs.Ytiokifkppfegfaa.Mem
open Go.RowKit

theorem info_one {P : Program} {t : TypeId} {z : Value} {n b : Nat} (h : (P.info? t).map (fun i => (i.zero, i.size, i.bytes)) = some (some z, n, b)) : ∃ i, P.info? t = some i ∧ i.zero = some z ∧ i.size = n ∧ i.bytes = b := by
  cases hi : P.info? t with
  | none => rw [hi] at h; cases h
  | some i =>
    rw [hi] at h
    simp only [Option.map_some, Option.some.injEq, Prod.mk.injEq] at h
    exact ⟨i, rfl, h.1, h.2.1, h.2.2⟩
section
variable {P : Program} {ty e : TypeId} {z : Value} {k b : Nat}
/-- The box of the element lies at block N. -/
theorem wpList_app {ops : Array Oper} {rest : List Oper} {o : Oper} {a : Act} {Q : Exit → Act → World → Prop} {w : World} (hgd : o.guard = none) (s x : Operand)
    (ho : o.op = .call { callee := .builtin .append, args := #[s, x], argTypes := #[ty, ty] }) (ht : P.underlying ty = some (.slice e)) (hi : (P.info? e).map (fun i => (i.zero, i.size, i.bytes)) = some (some z, k, b)) (hz : z.cells.size = k) (hk : 0 < k) (hb : b ≤ 100000000)
    (B : Nat) (v : Value) (n : Nat) (xs : List Value) (N : Nat) (ys : List Value) (hs : a.eval s = v) (hown : Row w B e k v n xs) (hx : a.eval x = .slice (some ⟨N, 0, none⟩) 1 1) (hN : Blk w N e ys) (hy : ys.length = k) (h1 : ∀ u ∈ ys, u.oneCell' = true) (hB : B ≤ w.heap.size) (hl : n < 1000000)
    (h : ∀ v' w', Row w' B e k v' (n + 1) (xs ++ ys) → Kept w w' (fun j => v.ownBlock = some j) → (∀ j, v'.ownBlock = some j → v.ownBlock = some j ∨ w.heap.size ≤ j) → wpList P ops Q rest (a.put o.dst v') w') :
    wpList P ops Q (o :: rest) a w := by
  obtain ⟨i0, hi0, hz0, hz1, hz2⟩ := info_one hi
  refine wpList_append_own_at _ hgd s x ty ho B e i0 z k b ht hi0 hz0 hz1 hz2 hz hk v n xs hs hown ⟨N, 0, none⟩ 1 1 ys hx (by omega)
    (fun j u hu => by rw [show (⟨N, 0, none⟩ : Addr).add j = ⟨N, j, none⟩ by unfold Addr.add; split <;> simp_all]; exact hN.cell j hu) h1 (by simp only [maxLen]; omega) ?_ hB ?_
  · have : (n + 1) * b ≤ 1000000 * 100000000 := Nat.mul_le_mul (by omega) hb
    omega
  · intro v' w' hown' hg _ hat
    refine h v' w' hown' ((Kept.refl w _).grown hg (fun k hk => .inl hk)) (fun k hk => ?_)
    rcases hat with hat | hat
    · exact .inl (hat ▸ hk)
    · rw [hat] at hk; simp at hk; exact .inr (by omega)
/-- The same in a region whose order is drawn. -/
theorem step_app {ops : Array Oper} {o : Oper} {a : Act} {w : World} {K : Act → World → Prop} {Q : Exit → Act → World → Prop} {E : Prop} (hgd : o.guard = none) (s x : Operand)
    (ho : o.op = .call { callee := .builtin .append, args := #[s, x], argTypes := #[ty, ty] }) (ht : P.underlying ty = some (.slice e)) (hi : (P.info? e).map (fun i => (i.zero, i.size, i.bytes)) = some (some z, k, b)) (hz : z.cells.size = k) (hk : 0 < k) (hb : b ≤ 100000000)
    (B : Nat) (v : Value) (n : Nat) (xs : List Value) (N : Nat) (ys : List Value) (hs : a.eval s = v) (hown : Row w B e k v n xs) (hx : a.eval x = .slice (some ⟨N, 0, none⟩) 1 1) (hN : Blk w N e ys) (hy : ys.length = k) (h1 : ∀ u ∈ ys, u.oneCell' = true) (hB : B ≤ w.heap.size) (hl : n < 1000000)
    (h : ∀ v' w', Row w' B e k v' (n + 1) (xs ++ ys) → Kept w w' (fun j => v.ownBlock = some j) → (∀ j, v'.ownBlock = some j → v.ownBlock = some j ∨ w.heap.size ≤ j) → K (a.put o.dst v') w') :
    if Region.wanted o (yielded ops a.tmps) = true then Oper.wp P o a w K Q else E := by
  have hw : Region.wanted o (yielded ops a.tmps) = true := by simp [Region.wanted, hgd]
  rw [if_pos hw]
  obtain ⟨i0, hi0, hz0, hz1, hz2⟩ := info_one hi
  obtain ⟨v', w', hr, h2, h3, h4, h5⟩ := run_append_own_at (P := P) w B ty o.type e i0 z k b ht hi0 hz0 hz1 hz2 hz hk v n xs hown ⟨N, 0, none⟩ 1 1 ys (by omega)
    (fun j u hu => by rw [show (⟨N, 0, none⟩ : Addr).add j = ⟨N, j, none⟩ by unfold Addr.add; split <;> simp_all]; exact hN.cell j hu) h1 (by simp only [maxLen]; omega)
    (by have : (n + 1) * b ≤ 1000000 * 100000000 := Nat.mul_le_mul (by omega) hb
        omega) hB
  unfold Oper.wp execOp
  simp only [ho, resolve, invoke, builtin, Sem.run_bind, Sem.run_pure, Result.andThen_ok, List.map_toArray, List.map_cons, List.map_nil, hs, hx, hr]
  refine h v' w' h2 ((Kept.refl w _).grown h3 (fun k hk => .inl hk)) (fun k hk => ?_)
  rcases h5 with hat | hat
  · exact .inl (hat ▸ hk)
  · rw [hat] at hk; simp at hk; exact .inr (by omega)
end
end Go.Proofs.Ytiokifkppfegfaa.Mem
