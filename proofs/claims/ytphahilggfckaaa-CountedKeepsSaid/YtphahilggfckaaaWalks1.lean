/-
  The walks of has, New, set.
-/
import Derived.Test.YtphahilggfckaaaModel
import Derived.Test.YtphahilggfckaaaProg
import Derived.Deep.RegionLaw
import Derived.Laws.MakeOwn
set_option linter.unusedVariables false
set_option linter.unusedSimpArgs false
namespace Go.Proofs.Ytphahilggfckaaa
open Go.RowKit Mem Qm
set_option maxRecDepth 100000

abbrev IsC := Is Try.prog
theorem zero3 : ∀ w : World, (zeroValue 3).run Try.prog w = .ok (.int .i64 0) w := fun w => by kernel_rfl
theorem info3 : (Try.prog.info? 3).map (fun i => (i.zero, i.size, i.bytes)) = some (some (.int .i64 0), 1, 8) := by kernel_rfl
theorem info30 : (Try.prog.info? 30).map (fun i => (i.zero, i.size, i.bytes)) = some (some (.agg #[.int .i64 0, .int .i64 0, .int .i64 0]), 3, 24) := by kernel_rfl
abbrev res (l : Value) (e : Int) : Ending := .returned (.tuple #[l, .int .i64 e])
theorem has_yes {w : World} {B g gh b N : Nat} {v : Value} {q : Q} (h : IsC w B g gh b N v q) (t : Int) (ht : q.ok t) :
    Calls Try.prog 33 #[.pointer (some ⟨g, 0, none⟩), .int .i64 t] w fun e w' => e = .returned (.bool true) ∧ w = w' := by
  obtain ⟨h0, h1⟩ := ht
  have c1 := h.blk.cell 0 rfl
  go_enter Try.func33, Try.ntmps33
  go_wp2
  go_ret
  exact ⟨rfl, rfl⟩
theorem has_no {w : World} {B g gh b N : Nat} {v : Value} {q : Q} (h : IsC w B g gh b N v q) (t : Int) (ht : ¬ q.ok t) :
    Calls Try.prog 33 #[.pointer (some ⟨g, 0, none⟩), .int .i64 t] w fun e w' => e = .returned (.bool false) ∧ w = w' := by
  have c1 := h.blk.cell 0 rfl
  by_cases h0 : 0 ≤ t
  · have h1 : ¬ t < (q.n : Int) := fun h1 => ht ⟨h0, h1⟩
    clear ht
    go_enter Try.func33, Try.ntmps33
    go_wp2
    go_ret
    exact ⟨rfl, rfl⟩
  · clear ht
    go_enter Try.func33, Try.ntmps33
    go_wp2
    go_ret
    exact ⟨rfl, rfl⟩
theorem has_nil {w : World} (t : Int) :
    Calls Try.prog 33 #[.pointer none, .int .i64 t] w fun e w' => e = .returned (.bool false) ∧ w = w' := by
  go_enter Try.func33, Try.ntmps33
  go_wp2
  go_ret
  exact ⟨rfl, rfl⟩
theorem has_zero {w : World} {g : Nat} {cs : List Value} (h : Blk w g 69 cs) (hc : cs[0]? = some (.slice none 0 0)) (t : Int) :
    Calls Try.prog 33 #[.pointer (some ⟨g, 0, none⟩), .int .i64 t] w fun e w' => e = .returned (.bool false) ∧ w = w' := by
  have c1 := h.cell 0 hc
  by_cases h0 : 0 ≤ t
  · have h1 : ¬ t < 0 := by omega
    go_enter Try.func33, Try.ntmps33
    go_wp2
    go_ret
    exact ⟨rfl, rfl⟩
  · go_enter Try.func33, Try.ntmps33
    go_wp2
    go_ret
    exact ⟨rfl, rfl⟩
/-- There is no such thread. -/
def NoT (w : World) (p : Value) (t : Int) : Prop := p = .pointer none ∨ (∃ g cs, p = .pointer (some ⟨g, 0, none⟩) ∧ Blk w g 69 cs ∧ cs[0]? = some (.slice none 0 0)) ∨ ∃ B g gh b N v q, p = .pointer (some ⟨g, 0, none⟩) ∧ IsC w B g gh b N v q ∧ ¬ q.ok t
theorem has_not {w : World} {p : Value} {t : Int} (h : NoT w p t) :
    Calls Try.prog 33 #[p, .int .i64 t] w fun e w' => e = .returned (.bool false) ∧ w = w' := by
  rcases h with rfl | ⟨g, cs, rfl, h, hc⟩ | ⟨B, g, gh, b, N, v, q, rfl, h, ht⟩
  · exact has_nil t
  · exact has_zero h hc t
  · exact has_no h t ht
theorem NoT.below {w w' : World} {p : Value} {t : Int} (h : NoT w p t) (hb : Below w.heap.size w w') : NoT w' p t := by
  rcases h with h | ⟨g, cs, h1, h2, h3⟩ | ⟨B, g, gh, b, N, v, q, h1, h2, h3⟩
  · exact .inl h
  · exact .inr (.inl ⟨g, cs, h1, h2.below hb, h3⟩)
  · exact .inr (.inr ⟨B, g, gh, b, N, v, q, h1, h2.below hb, h3⟩)
theorem new_no {w : World} {n : Int} (h : ¬ (1 ≤ n ∧ n ≤ 4)) :
    Calls Try.prog 18 #[.int .i64 n] w fun e w' => e = res (.pointer none) 1 ∧ w = w' := by
  by_cases h0 : n < 1
  · go_enter Try.func18, Try.ntmps18
    go_wp2
    go_ret2
    exact ⟨rfl, rfl⟩
  · have h1 : 4 < n := by omega
    clear h
    go_enter Try.func18, Try.ntmps18
    go_wp2
    go_ret2
    exact ⟨rfl, rfl⟩
def zeros : Nat → List Int
  | 0 => []
  | n + 1 => 0 :: zeros n
theorem zeros_length : ∀ n, (zeros n).length = n
  | 0 => rfl
  | n + 1 => by simp [zeros, zeros_length n]
theorem cnt_zeros : ∀ (n : Nat) {a : Int}, a ≠ 0 → cnt (zeros n) a = 0
  | 0, _, _ => rfl
  | n + 1, a, h => by simp only [zeros, cnt, cnt_zeros n h]; rw [if_neg (fun e => h e.symm)]
def q0 (n : Nat) : Q := ⟨n, zeros (n * 3), [], n, []⟩
theorem q0_c (n : Nat) : (q0 n).c = fun _ => 0 := by
  funext a
  simp only [Q.c, q0]
  split
  · rfl
  · rename_i h; rw [cnt_zeros _ h]; rfl
theorem run_make_rows {P : Program} (t e : TypeId) (z : Value) (k b : Nat) (ht : P.underlying t = some (.slice e)) (hi : (P.info? e).map (fun i => (i.zero, i.size, i.bytes)) = some (some z, k, b)) (m : Nat) (hb : b ≤ 100000000) (hm : m < 1000000) :
    ∀ W : World, (Instr.makeSlice t (.int .i64 (m : Int)) (.int .i64 (m : Int))).run P W = .ok (.slice (some ⟨W.heap.size, 0, none⟩) m m) (W.alloc (.cells (madeCells z.cells (m * k)) e)) := by
  intro W
  obtain ⟨i0, hi0, hz0, hz1, hz2⟩ := info_one hi
  have hb' : (i0.bytes : Int) * (m : Int) ≤ 281474976710656 := by
    have : i0.bytes * m ≤ 100000000 * 1000000 := Nat.mul_le_mul (by omega) (by omega)
    have h : ((i0.bytes * m : Nat) : Int) ≤ 281474976710656 := by omega
    rwa [Int.natCast_mul] at h
  have := run_make (P := P) W t e i0 z ht hi0 hz0 .i64 .i64 (m : Int) (m : Int) (by omega) (Int.le_refl _) hb' (by omega)
  simp only [Int.toNat_natCast, hz1] at this
  exact this
theorem made_zeros {m : Nat} (h0 : 1 ≤ m) (h1 : m ≤ 4) : (madeCells (Value.cells (.agg #[.int .i64 0, .int .i64 0, .int .i64 0])) (m * 3)).toList = ints (q0 m).hs := by
  rcases (show m = 1 ∨ m = 2 ∨ m = 3 ∨ m = 4 by omega) with rfl | rfl | rfl | rfl <;> kernel_rfl
theorem new_yes {w : World} {m : Nat} (h0 : 1 ≤ m) (h1 : m ≤ 4) :
    Calls Try.prog 18 #[.int .i64 (m : Int)] w fun e w' => e = res (.pointer (some ⟨w.heap.size + 2, 0, none⟩)) 0 ∧ IsC w' w.heap.size (w.heap.size + 2) w.heap.size (w.heap.size + 1) 0 (.slice none 0 0) (q0 m) ∧ Below w.heap.size w w' := by
  have mk := run_make_rows (P := Try.prog) 66 30 _ 3 24 Try.underlying66 info30 m (by omega) (by omega)
  have hmm := @run_makeMap Try.prog
  have HV := Lib.hid (made_zeros h0 h1)
  go_enter Try.func18, Try.ntmps18
  go_wp2
  go_ret2
  have b1 : Below w.heap.size w (w.alloc (.cells (madeCells (Value.cells (.agg #[.int .i64 0, .int .i64 0, .int .i64 0])) (m * 3)) 30)) := (Below.refl _ _).alloc (Nat.le_refl _) _
  have hv : Blk (w.alloc (.cells (madeCells (Value.cells (.agg #[.int .i64 0, .int .i64 0, .int .i64 0])) (m * 3)) 30)) w.heap.size 30 (ints (q0 m).hs ++ (q0 m).rest) := by
    rw [show (q0 m).rest = [] from rfl, List.append_nil, ← HV.out]; exact Blk.new w 30 _
  have e1 : (w.alloc (.cells (madeCells (Value.cells (.agg #[.int .i64 0, .int .i64 0, .int .i64 0])) (m * 3)) 30)).heap.size = w.heap.size + 1 := by simp
  have hm := MapI.made (w.alloc (.cells (madeCells (Value.cells (.agg #[.int .i64 0, .int .i64 0, .int .i64 0])) (m * 3)) 30)) Try.prog
  rw [e1] at hm
  have hb := Blk.new ((w.alloc (.cells (madeCells (Value.cells (.agg #[.int .i64 0, .int .i64 0, .int .i64 0])) (m * 3)) 30)).alloc (.map #[] 0)) 69 [.slice (some ⟨w.heap.size, 0, none⟩) m m, .map (some (w.heap.size + 1)), .slice none 0 0]
  rw [show ((w.alloc (.cells (madeCells (Value.cells (.agg #[.int .i64 0, .int .i64 0, .int .i64 0])) (m * 3)) 30)).alloc (.map #[] 0)).heap.size = w.heap.size + 2 by simp] at hb
  refine ⟨rfl, ⟨by omega, Nat.le_refl _, by omega, hb, (hv.alloc _).alloc _, ?_, Own.nil _ _, by simp [q0, zeros_length]⟩, (b1.alloc (by simp) _).alloc (by simp; omega) _⟩
  rw [q0_c]
  exact hm.below ((Below.refl _ _).alloc (Nat.le_refl _) _)
end Go.Proofs.Ytphahilggfckaaa
