/-
  The document's manager of eras: in memory, and the walks of its small functions.
-/
import Derived.Test.YtiokifkppfegfaaLaws0
import Derived.Test.YtiokifkppfegfaaAppRow
import Derived.Laws.MakeOwn
set_option linter.unusedVariables false
set_option linter.unusedSimpArgs false
namespace Go.Proofs.Ytiokifkppfegfaa
open Go.RowKit Mem Qm
set_option maxRecDepth 100000

/-! Births, as a list: who is in it more than once was born when the last one says. -/
abbrev Bi := Int × Int
def bCells (x : Bi) : List Value := [.int .i64 x.1, .int .i64 x.2]
def flatB (L : List Bi) : List Value := L.flatMap bCells
theorem flatB_length : ∀ L : List Bi, (flatB L).length = L.length * 2
  | [] => rfl
  | x :: t => by simp only [flatB, List.flatMap_cons, List.length_append, List.length_cons]; have := flatB_length t; simp only [flatB] at this; rw [this]; simp [bCells]; omega
theorem flatB_app (a b : List Bi) : flatB (a ++ b) = flatB a ++ flatB b := by simp [flatB]
theorem flatB_at : ∀ (L : List Bi) (j : Nat) (h : j < L.length) (i : Nat), i < 2 → (flatB L)[j * 2 + i]? = (bCells L[j])[i]?
  | x :: t, 0, _, i, hi => by
    simp only [flatB, List.flatMap_cons, List.getElem_cons_zero, Nat.zero_mul, Nat.zero_add]
    rw [List.getElem?_append_left (by simp [bCells]; omega)]
  | x :: t, j + 1, h, i, hi => by
    have ih := flatB_at t j (by simpa using h) i hi
    simp only [flatB, List.flatMap_cons, List.getElem_cons_succ] at ih ⊢
    rw [List.getElem?_append_right (by simp [bCells]; omega), ← ih]
    congr 1
    simp [bCells]; omega
def lookFrom (a : Int) : Int → List Bi → Int
  | x, [] => x
  | x, p :: t => lookFrom a (if p.1 = a then p.2 else x) t
def look (L : List Bi) (a : Int) : Int := lookFrom a 0 L
theorem lookFrom_app (a : Int) : ∀ (L M : List Bi) (x : Int), lookFrom a x (L ++ M) = lookFrom a (lookFrom a x L) M
  | [], M, x => rfl
  | p :: t, M, x => lookFrom_app a t M _
theorem look_snoc (L : List Bi) (p : Bi) (a : Int) : look (L ++ [p]) a = if p.1 = a then p.2 else look L a := by
  rw [look, lookFrom_app]; rfl
theorem look_take {L : List Bi} {k : Nat} (h : k < L.length) (a : Int) : look (L.take (k + 1)) a = if L[k].1 = a then L[k].2 else look (L.take k) a := by
  rw [take_snoc h, look_snoc]
def forgetL (L : List Bi) (a : Int) : List Bi := L.filter fun p => decide (p.1 ≠ a)
theorem forget_snoc {L : List Bi} {k : Nat} (h : k < L.length) (a : Int) : forgetL (L.take (k + 1)) a = if L[k].1 = a then forgetL (L.take k) a else forgetL (L.take k) a ++ [L[k]] := by
  rw [take_snoc h, forgetL, List.filter_append]
  split
  · rename_i e; simp [forgetL, e]
  · rename_i e; simp [forgetL, e]
theorem forget_le (L : List Bi) (a : Int) : (forgetL L a).length ≤ L.length := List.length_filter_le _ _
theorem lookFrom_forget (a x : Int) : ∀ (L : List Bi) (v : Int), lookFrom x v (forgetL L a) = if x = a then v else lookFrom x v L
  | [], v => by simp [forgetL, lookFrom]
  | p :: t, v => by
    have ih := lookFrom_forget a x t
    by_cases hp : p.1 = a
    · have e : forgetL (p :: t) a = forgetL t a := by simp [forgetL, hp]
      rw [e, ih]
      split
      · rfl
      · rename_i hx
        simp only [lookFrom]
        rw [if_neg (fun h => hx (h.symm.trans hp))]
    · have e : forgetL (p :: t) a = p :: forgetL t a := by simp [forgetL, hp]
      rw [e]
      simp only [lookFrom]
      rw [ih]
      split
      · rename_i hx
        rw [if_neg (fun h => hp (h.trans hx))]
      · rfl
theorem look_forget (L : List Bi) (a x : Int) : look (forgetL L a) x = if x = a then 0 else look L x := lookFrom_forget a x L 0
def forgetAll (L : List Bi) : List Int → List Bi
  | [] => L
  | a :: t => forgetAll (forgetL L a) t
theorem forgetAll_app : ∀ (l m : List Int) (L : List Bi), forgetAll L (l ++ m) = forgetAll (forgetAll L l) m
  | [], m, L => rfl
  | a :: t, m, L => forgetAll_app t m _
theorem forgetAll_take {l : List Int} {k : Nat} (h : k < l.length) (L : List Bi) : forgetAll L (l.take (k + 1)) = forgetL (forgetAll L (l.take k)) l[k] := by
  rw [take_snoc h, forgetAll_app]; rfl
theorem forgetAll_le : ∀ (l : List Int) (L : List Bi), (forgetAll L l).length ≤ L.length
  | [], L => Nat.le_refl _
  | a :: t, L => Nat.le_trans (forgetAll_le t _) (forget_le L a)
theorem look_forgetAll : ∀ (l : List Int) (L : List Bi) (x : Int), look (forgetAll L l) x = clr (look L) l x
  | [], L, x => by simp [forgetAll, clr]
  | a :: t, L, x => by
    rw [forgetAll, look_forgetAll t]
    simp only [clr, look_forget, List.mem_cons]
    by_cases h1 : x ∈ t
    · simp [h1]
    · by_cases h2 : x = a
      · simp [h1, h2]
      · simp [h1, h2]

/-! In memory. -/
def seenTo (q : Q) (n : Nat) : List Value := (seen q).take (n * 6)
theorem seen_get (q : Q) {k : Nat} (hk : k < 4) {j : Nat} (hj : j < 6) : (seen q)[k * 6 + j]? = (sCells (q.get (k : Int)))[j]? := by
  rcases (show k = 0 ∨ k = 1 ∨ k = 2 ∨ k = 3 by omega) with rfl | rfl | rfl | rfl <;> rcases (show j = 0 ∨ j = 1 ∨ j = 2 ∨ j = 3 ∨ j = 4 ∨ j = 5 by omega) with rfl | rfl | rfl | rfl | rfl | rfl <;> rfl
theorem seenTo_at (q : Q) {n k j : Nat} (hn : n ≤ 4) (hk : k < n) (hj : j < 6) : (seenTo q n)[k * 6 + j]? = (sCells (q.get (k : Int)))[j]? := by
  rw [seenTo, List.getElem?_take_of_lt (by omega), seen_get q (by omega) hj]
theorem seenTo_put (q : Q) {n k : Nat} (hn : n ≤ 4) (hk : k < n) (s : Sn) : seenTo (q.put (k : Int) s) n =
    (((((((seenTo q n).set (k * 6) (.bool s.i)).set (k * 6 + 1) (.int .i64 s.lo)).set (k * 6 + 2) (.int .i64 s.hi)).set (k * 6 + 3) (.int .i64 s.h0)).set (k * 6 + 4) (.int .i64 s.h1)).set (k * 6 + 5) (.int .i64 s.h2)) := by
  simp only [seenTo, ← List.take_set]
  congr 1
  rcases (show k = 0 ∨ k = 1 ∨ k = 2 ∨ k = 3 by omega) with rfl | rfl | rfl | rfl <;> rfl
/-- The document's manager at block g; the threads' visits at block gv; births vb; what waits vi. -/
structure IsR (w : World) (B g gv : Nat) (vb vi : Value) (m : Nat) (q : Q) (L : List Bi) : Prop where
  lo : B ≤ g
  lov : B ≤ gv
  nm : q.n = (m : Int)
  blk : Blk w g 76 [.int .i64 (m : Int), .int .i64 q.era, .slice (some ⟨gv, 0, none⟩) m m, vb, vi]
  vis : Blk w gv 82 (seenTo q m)
  brow : Row w B 85 2 vb L.length (flatB L)
  irow : Row w B 87 3 vi q.ws.length (flat q.ws)
def footR (g gv : Nat) (vb vi : Value) (k : Nat) : Prop := k = g ∨ k = gv ∨ vb.ownBlock = some k ∨ vi.ownBlock = some k
section
variable {w w' : World} {B g gv m : Nat} {vb vi : Value} {q : Q} {L : List Bi}
theorem IsR.keep {S : Nat → Prop} (h : IsR w B g gv vb vi m q L) (k : Kept w w' S) (hs : ∀ i, footR g gv vb vi i → ¬ S i) : IsR w' B g gv vb vi m q L :=
  ⟨h.lo, h.lov, h.nm, h.blk.keep k (hs g (.inl rfl)), h.vis.keep k (hs gv (.inr (.inl rfl))), Row.keep h.brow k (fun i hi => hs i (.inr (.inr (.inl hi)))), Row.keep h.irow k (fun i hi => hs i (.inr (.inr (.inr hi))))⟩
theorem IsR.below (h : IsR w B g gv vb vi m q L) (k : Below w.heap.size w w') : IsR w' B g gv vb vi m q L := h.keep (Kept.of_below k (fun _ => False)) (fun _ _ => id)
theorem IsR.foot_lo (h : IsR w B g gv vb vi m q L) : ∀ k, footR g gv vb vi k → B ≤ k := by
  rintro k (rfl | rfl | hk | hk)
  · exact h.lo
  · exact h.lov
  · exact (Row.at_lt h.brow hk).1
  · exact (Row.at_lt h.irow hk).1
theorem IsR.foot_lt (h : IsR w B g gv vb vi m q L) : ∀ k, footR g gv vb vi k → k < w.heap.size := by
  rintro k (rfl | rfl | hk | hk)
  · exact h.blk.lt
  · exact h.vis.lt
  · exact (Row.at_lt h.brow hk).2
  · exact (Row.at_lt h.irow hk).2
theorem IsR.apart {B' : Nat} {u : Value} {n : Nat} {xs : List Value} (h : IsR w B g gv vb vi m q L) (hu : Row w B' 3 1 u n xs) : ∀ k, u.ownBlock = some k → ¬ footR g gv vb vi k := by
  rintro k hk (rfl | rfl | hv | hv)
  · exact Row.ne_blk hu h.blk (by decide) hk
  · exact Row.ne_blk hu h.vis (by decide) hk
  · exact Row.ne_row hu h.brow (by decide) hk hv
  · exact Row.ne_row hu h.irow (by decide) hk hv
theorem IsR.ne_vis (h : IsR w B g gv vb vi m q L) : gv ≠ g := by
  rintro rfl
  have := (h.blk.type h.vis).1
  exact absurd this (by decide)
theorem IsR.ne_b (h : IsR w B g gv vb vi m q L) : vb.ownBlock ≠ some g := Row.ne_blk h.brow h.blk (by decide)
theorem IsR.ne_i (h : IsR w B g gv vb vi m q L) : vi.ownBlock ≠ some g := Row.ne_blk h.irow h.blk (by decide)
theorem IsR.ne_bv (h : IsR w B g gv vb vi m q L) : vb.ownBlock ≠ some gv := Row.ne_blk h.brow h.vis (by decide)
theorem IsR.ne_iv (h : IsR w B g gv vb vi m q L) : vi.ownBlock ≠ some gv := Row.ne_blk h.irow h.vis (by decide)
end
theorem rnew_no {w : World} {n : Int} (h : ¬ (1 ≤ n ∧ n ≤ 4)) :
    Calls Try.prog 21 #[.int .i64 n] w fun e w' => e = res (.pointer none) 1 ∧ w = w' := by
  by_cases h0 : n < 1
  · go_enter Try.func21, Try.ntmps21
    go_wp2
    go_ret2
    exact ⟨rfl, rfl⟩
  · have h1 : 4 < n := by omega
    clear h
    go_enter Try.func21, Try.ntmps21
    go_wp2
    go_ret2
    exact ⟨rfl, rfl⟩
theorem info82 : (Try.prog.info? 82).map (fun i => (i.zero, i.size, i.bytes)) = some (some (.agg #[.bool false, .int .i64 0, .int .i64 0, .int .i64 0, .int .i64 0, .int .i64 0]), 6, 48) := by kernel_rfl
theorem run_make_rows {P : Program} (t e : TypeId) (z : Value) (k b : Nat) (ht : P.underlying t = some (.slice e)) (hi : (P.info? e).map (fun i => (i.zero, i.size, i.bytes)) = some (some z, k, b)) (m : Nat) (hb : b ≤ 100000000) (hm : m < 1000000) :
    ∀ W : World, (Instr.makeSlice t (.int .i64 (m : Int)) (.int .i64 (m : Int))).run P W = .ok (.slice (some ⟨W.heap.size, 0, none⟩) m m) (W.alloc (.cells (madeCells z.cells (m * k)) e)) := by
  intro W
  obtain ⟨i0, hi0, hz0, hz1, hz2⟩ := info_one hi
  have hb' : (i0.bytes : Int) * (m : Int) ≤ 281474976710656 := by
    have : i0.bytes * m ≤ 100000000 * 1000000 := Nat.mul_le_mul (by omega) (by omega)
    have h : ((i0.bytes * m : Nat) : Int) ≤ 281474976710656 := by omega
    rwa [Int.natCast_mul] at h
  have := run_make (P := P) W t e i0 z ht hi0 hz0 .i64 .i64 (m : Int) (m : Int) (by omega) (Int.le_refl _) hb' (by omega)
  simp only [Int.toNat_natCast, hz1] at this
  exact this
theorem made_seen {m : Nat} (h0 : 1 ≤ m) (h1 : m ≤ 4) : (madeCells (Value.cells (.agg #[.bool false, .int .i64 0, .int .i64 0, .int .i64 0, .int .i64 0, .int .i64 0])) (m * 6)).toList = seenTo (q0 (m : Int)) m := by
  rcases (show m = 1 ∨ m = 2 ∨ m = 3 ∨ m = 4 by omega) with rfl | rfl | rfl | rfl <;> kernel_rfl
theorem rnew_yes {w : World} {m : Nat} (h0 : 1 ≤ m) (h1 : m ≤ 4) :
    Calls Try.prog 21 #[.int .i64 (m : Int)] w fun e w' => e = res (.pointer (some ⟨w.heap.size + 1, 0, none⟩)) 0 ∧ IsR w' w.heap.size (w.heap.size + 1) w.heap.size (.slice none 0 0) (.slice none 0 0) m (q0 m) [] ∧ Below w.heap.size w w' := by
  have mk := run_make_rows (P := Try.prog) 72 82 _ 6 48 Try.underlying72 info82 m (by omega) (by omega)
  have HV := Lib.hid (made_seen h0 h1)
  go_enter Try.func21, Try.ntmps21
  go_wp2
  go_ret2
  have b1 : Below w.heap.size w (w.alloc (.cells (madeCells (Value.cells (.agg #[.bool false, .int .i64 0, .int .i64 0, .int .i64 0, .int .i64 0, .int .i64 0])) (m * 6)) 82)) := (Below.refl _ _).alloc (Nat.le_refl _) _
  have hv : Blk (w.alloc (.cells (madeCells (Value.cells (.agg #[.bool false, .int .i64 0, .int .i64 0, .int .i64 0, .int .i64 0, .int .i64 0])) (m * 6)) 82)) w.heap.size 82 (seenTo (q0 (m : Int)) m) := by
    rw [← HV.out]; exact Blk.new w 82 _
  refine ⟨rfl, ⟨by omega, Nat.le_refl _, rfl, ?_, hv.alloc _, World.ownsRow_nil _ _ _ _, World.ownsRow_nil _ _ _ _⟩, b1.alloc (by simp) _⟩
  have := Blk.new (w.alloc (.cells (madeCells (Value.cells (.agg #[.bool false, .int .i64 0, .int .i64 0, .int .i64 0, .int .i64 0, .int .i64 0])) (m * 6)) 82)) 76 [.int .i64 (m : Int), .int .i64 0, .slice (some ⟨w.heap.size, 0, none⟩) m m, .slice none 0 0, .slice none 0 0]
  rw [show (w.alloc (.cells (madeCells (Value.cells (.agg #[.bool false, .int .i64 0, .int .i64 0, .int .i64 0, .int .i64 0, .int .i64 0])) (m * 6)) 82)).heap.size = w.heap.size + 1 by simp] at this
  exact this
theorem isThread_yes {w : World} {B g gv m : Nat} {vb vi : Value} {q : Q} {L : List Bi} (h : IsR w B g gv vb vi m q L) (t : Int) (ht : q.ok t) :
    Calls Try.prog 46 #[.pointer (some ⟨g, 0, none⟩), .int .i64 t] w fun e w' => e = .returned (.bool true) ∧ w = w' := by
  obtain ⟨h0, h1⟩ := ht
  rw [h.nm] at h1
  have c1 := h.blk.cell 0 rfl
  go_enter Try.func46, Try.ntmps46
  go_wp2
  go_ret
  exact ⟨rfl, rfl⟩
theorem isThread_no {w : World} {B g gv m : Nat} {vb vi : Value} {q : Q} {L : List Bi} (h : IsR w B g gv vb vi m q L) (t : Int) (ht : ¬ q.ok t) :
    Calls Try.prog 46 #[.pointer (some ⟨g, 0, none⟩), .int .i64 t] w fun e w' => e = .returned (.bool false) ∧ w = w' := by
  have c1 := h.blk.cell 0 rfl
  by_cases h0 : 0 ≤ t
  · have h1 : ¬ t < (m : Int) := fun h1 => ht ⟨h0, by rw [h.nm]; exact h1⟩
    clear ht
    go_enter Try.func46, Try.ntmps46
    go_wp2
    go_ret
    exact ⟨rfl, rfl⟩
  · clear ht
    go_enter Try.func46, Try.ntmps46
    go_wp2
    go_ret
    exact ⟨rfl, rfl⟩
theorem rera_any {w : World} {B g gv m : Nat} {vb vi : Value} {q : Q} {L : List Bi} (h : IsR w B g gv vb vi m q L) :
    Calls Try.prog 41 #[.pointer (some ⟨g, 0, none⟩)] w fun e w' => e = .returned (.int .i64 q.era) ∧ w = w' := by
  have c1 := h.blk.cell 1 rfl
  go_enter Try.func41, Try.ntmps41
  go_wp2
  go_ret
  exact ⟨rfl, rfl⟩
theorem rbound_yes {w : World} {n : Int} (h0 : 1 ≤ n) (h1 : n ≤ 4) :
    Calls Try.prog 23 #[.int .i64 n] w fun e w' => e = .returned (.tuple #[.int .i64 (-1), .int .i64 0]) ∧ w = w' := by
  go_enter Try.func23, Try.ntmps23
  go_wp2
  go_ret2
  exact ⟨rfl, rfl⟩
theorem rbound_no {w : World} {n : Int} (h : ¬ (1 ≤ n ∧ n ≤ 4)) :
    Calls Try.prog 23 #[.int .i64 n] w fun e w' => e = .returned (.tuple #[.int .i64 0, .int .i64 1]) ∧ w = w' := by
  by_cases h0 : n < 1
  · go_enter Try.func23, Try.ntmps23
    go_wp2
    go_ret2
    exact ⟨rfl, rfl⟩
  · have h1 : 4 < n := by omega
    clear h
    go_enter Try.func23, Try.ntmps23
    go_wp2
    go_ret2
    exact ⟨rfl, rfl⟩
end Go.Proofs.Ytiokifkppfegfaa
