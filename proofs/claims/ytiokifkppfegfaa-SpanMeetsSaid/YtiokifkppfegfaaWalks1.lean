/-
  The walks of the manager's small functions.
-/
import Derived.Test.YtiokifkppfegfaaModel
import Derived.Test.YtiokifkppfegfaaProg
import Derived.Deep.RegionLaw
set_option linter.unusedVariables false
set_option linter.unusedSimpArgs false
namespace Go.Proofs.Ytiokifkppfegfaa
open Go.RowKit Mem Qm
set_option maxRecDepth 100000

abbrev IsS := Is Try.prog
theorem zero3 : ∀ w : World, (zeroValue 3).run Try.prog w = .ok (.int .i64 0) w := fun w => by kernel_rfl
theorem has_yes {w : World} {B g b : Nat} {v : Value} {q : Q} (h : IsS w B g b v q) (t : Int) (ht : q.ok t) :
    Calls Try.prog 31 #[.pointer (some ⟨g, 0, none⟩), .int .i64 t] w fun e w' => e = .returned (.bool true) ∧ w = w' := by
  obtain ⟨h0, h1⟩ := ht
  have c1 := h.blk.cell 1 rfl
  go_enter Try.func31, Try.ntmps31
  go_wp2
  go_ret
  exact ⟨rfl, rfl⟩
theorem has_no {w : World} {B g b : Nat} {v : Value} {q : Q} (h : IsS w B g b v q) (t : Int) (ht : ¬ q.ok t) :
    Calls Try.prog 31 #[.pointer (some ⟨g, 0, none⟩), .int .i64 t] w fun e w' => e = .returned (.bool false) ∧ w = w' := by
  have c1 := h.blk.cell 1 rfl
  by_cases h0 : 0 ≤ t
  · have h1 : ¬ t < q.n := fun h1 => ht ⟨h0, h1⟩
    go_enter Try.func31, Try.ntmps31
    go_wp2
    go_ret
    exact ⟨rfl, rfl⟩
  · go_enter Try.func31, Try.ntmps31
    go_wp2
    go_ret
    exact ⟨rfl, rfl⟩
theorem has_nil {w : World} (t : Int) :
    Calls Try.prog 31 #[.pointer none, .int .i64 t] w fun e w' => e = .returned (.bool false) ∧ w = w' := by
  go_enter Try.func31, Try.ntmps31
  go_wp2
  go_ret
  exact ⟨rfl, rfl⟩
/-- Its field 'threads' alone: a zero manager has nobody. -/
theorem has_zero {w : World} {g : Nat} {cs : List Value} (h : Blk w g 65 cs) (hc : cs[1]? = some (.int .i64 0)) (t : Int) :
    Calls Try.prog 31 #[.pointer (some ⟨g, 0, none⟩), .int .i64 t] w fun e w' => e = .returned (.bool false) ∧ w = w' := by
  have c1 := h.cell 1 hc
  by_cases h0 : 0 ≤ t
  · have h1 : ¬ t < 0 := by omega
    go_enter Try.func31, Try.ntmps31
    go_wp2
    go_ret
    exact ⟨rfl, rfl⟩
  · go_enter Try.func31, Try.ntmps31
    go_wp2
    go_ret
    exact ⟨rfl, rfl⟩
/-- Two results: a list, and an error. -/
abbrev res (l : Value) (e : Int) : Ending := .returned (.tuple #[l, .int .i64 e])
/-- There is no such thread: no manager, or a zero one, or it is none of its threads. -/
def NoT (w : World) (p : Value) (t : Int) : Prop := p = .pointer none ∨ (∃ g cs, p = .pointer (some ⟨g, 0, none⟩) ∧ Blk w g 65 cs ∧ cs[1]? = some (.int .i64 0)) ∨ ∃ B g b v q, p = .pointer (some ⟨g, 0, none⟩) ∧ IsS w B g b v q ∧ ¬ q.ok t
theorem has_not {w : World} {p : Value} {t : Int} (h : NoT w p t) :
    Calls Try.prog 31 #[p, .int .i64 t] w fun e w' => e = .returned (.bool false) ∧ w = w' := by
  rcases h with rfl | ⟨g, cs, rfl, h, hc⟩ | ⟨B, g, b, v, q, rfl, h, ht⟩
  · exact has_nil t
  · exact has_zero h hc t
  · exact has_no h t ht
theorem in_no {w : World} {p : Value} {t : Int} (h : NoT w p t) :
    Calls Try.prog 28 #[p, .int .i64 t] w fun e w' => e = res (.slice none 0 0) 1 ∧ w = w' := by
  have H := Lib.hid h
  clear h
  go_enter Try.func28, Try.ntmps28
  go_wp2_with (go_at_call 31; refine (has_not H.out).mono ?_; rintro e w' ⟨rfl, rfl⟩)
  go_ret2
  exact ⟨rfl, rfl⟩
theorem new_no {w : World} {n : Int} (h : ¬ (1 ≤ n ∧ n ≤ 4)) :
    Calls Try.prog 11 #[.int .i64 n] w fun e w' => e = res (.pointer none) 1 ∧ w = w' := by
  by_cases h0 : n < 1
  · go_enter Try.func11, Try.ntmps11
    go_wp2
    go_ret2
    exact ⟨rfl, rfl⟩
  · have h1 : 4 < n := by omega
    clear h
    go_enter Try.func11, Try.ntmps11
    go_wp2
    go_ret2
    exact ⟨rfl, rfl⟩
def q0 (n : Int) : Q := ⟨0, n, Sn.none, Sn.none, Sn.none, Sn.none, 0, fun _ => 0, []⟩
theorem new_yes {w : World} {n : Int} (h0 : 1 ≤ n) (h1 : n ≤ 4) :
    Calls Try.prog 11 #[.int .i64 n] w fun e w' => e = res (.pointer (some ⟨w.heap.size + 1, 0, none⟩)) 0 ∧ IsS w' w.heap.size (w.heap.size + 1) w.heap.size (.slice none 0 0) (q0 n) ∧ Below w.heap.size w w' := by
  have hmm := @run_makeMap Try.prog
  go_enter Try.func11, Try.ntmps11
  go_wp2
  go_ret2
  have b1 : Below w.heap.size w (w.alloc (.map #[] 0)) := (Below.refl _ _).alloc (Nat.le_refl _) _
  have b2 := b1.alloc (by simp) (.cells (qCells (q0 n) (.map (some w.heap.size)) (.slice none 0 0)).toArray 65)
  have hm := MapI.made w Try.prog
  refine ⟨rfl, ⟨by omega, Nat.le_refl _, ?_, ?_, World.ownsRow_nil _ _ _ _⟩, b2⟩
  · have := Blk.new (w.alloc (.map #[] 0)) 65 (qCells (q0 n) (.map (some w.heap.size)) (.slice none 0 0))
    rw [show (w.alloc (.map #[] 0)).heap.size = w.heap.size + 1 by simp] at this
    exact this
  · exact hm.below ((Below.refl _ _).alloc (Nat.le_refl _) _)
/-- Six cells of a thread, written. -/
def six (w : World) (g o o1 o2 o3 o4 o5 : Nat) (s : Sn) : World := (((((w.setCell ⟨g, o, none⟩ (.bool s.i)).setCell ⟨g, o1, none⟩ (.int .i64 s.lo)).setCell ⟨g, o2, none⟩ (.int .i64 s.hi)).setCell ⟨g, o3, none⟩ (.int .i64 s.h0)).setCell ⟨g, o4, none⟩ (.int .i64 s.h1)).setCell ⟨g, o5, none⟩ (.int .i64 s.h2)
theorem six_kept (w : World) (g o o1 o2 o3 o4 o5 : Nat) (s : Sn) : Kept w (six w g o o1 o2 o3 o4 o5 s) (fun k => k = g) :=
  (((((((Kept.refl w (fun k => k = g)).setCell (.inl rfl) _).setCell (.inl rfl) _).setCell (.inl rfl) _).setCell (.inl rfl) _).setCell (.inl rfl) _).setCell (.inl rfl) _)
theorem six_blk {w : World} {g : Nat} {t : TypeId} {cs : List Value} (h : Blk w g t cs) (o o1 o2 o3 o4 o5 : Nat) (s : Sn) :
    Blk (six w g o o1 o2 o3 o4 o5 s) g t ((((((cs.set o (.bool s.i)).set o1 (.int .i64 s.lo)).set o2 (.int .i64 s.hi)).set o3 (.int .i64 s.h0)).set o4 (.int .i64 s.h1)).set o5 (.int .i64 s.h2)) :=
  (((((h.set o _).set o1 _).set o2 _).set o3 _).set o4 _).set o5 _
theorem Blk.of {w : World} {g : Nat} {t : TypeId} {cs cs' : List Value} (h : Blk w g t cs) (e : cs' = cs) : Blk w g t cs' := by rw [e]; exact h
/-- A thread's interval is written. -/
theorem put_is {w : World} {B g b : Nat} {v : Value} {q : Q} (h : IsS w B g b v q) {t : Int} {o o1 o2 o3 o4 o5 : Nat} (s : Sn)
    (e : qCells (q.put t s) (.map (some b)) v = (((((((qCells q (.map (some b)) v).set o (.bool s.i)).set o1 (.int .i64 s.lo)).set o2 (.int .i64 s.hi)).set o3 (.int .i64 s.h0)).set o4 (.int .i64 s.h1)).set o5 (.int .i64 s.h2))) :
    IsS (six w g o o1 o2 o3 o4 o5 s) B g b v (q.put t s) ∧ Kept w (six w g o o1 o2 o3 o4 o5 s) (foot g b v) := by
  have hk := six_kept w g o o1 o2 o3 o4 o5 s
  exact ⟨⟨h.lo, h.lob, Blk.of (six_blk h.blk o o1 o2 o3 o4 o5 s) e, h.map.keep hk h.ne_map, Row.keep h.row hk (fun k hk e => h.ne_row (e ▸ hk))⟩, hk.mono (fun k _ e => .inl e)⟩
theorem drew_is {w : World} {B g b : Nat} {v : Value} {q : Q} (h : IsS w B g b v q) : IsS w.drew B g b v q := ⟨h.lo, h.lob, h.blk, h.map, h.row⟩
theorem drew_map {w : World} {b n : Nat} {f : Int → Int} (h : MapI Try.prog w b n f) : MapI Try.prog w.drew b n f := h
set_option maxHeartbeats 1000000 in
theorem in_yes {w : World} {B g b : Nat} {v : Value} {q : Q} (h : IsS w B g b v q) (t : Int) (ht : q.ok t) (h4 : q.n ≤ 4) :
    Calls Try.prog 28 #[.pointer (some ⟨g, 0, none⟩), .int .i64 t] w fun e w' => e = res (.slice none 0 0) 0 ∧ IsS w' B g b v (q.in_ t) ∧ Kept w w' (foot g b v) := by
  obtain ⟨h0, h1⟩ := id ht
  have e0 := h.blk.cell 0 rfl
  have ff : ∀ j, w.frozen? ⟨g, j, none⟩ = false := fun j => h.blk.free j
  have Ht := Lib.hid ht
  clear ht
  by_cases ht0 : t = 0
  · subst ht0
    have d0 := h.blk.cell 2 rfl
    have d1 := h.blk.cell 3 rfl
    have d2 := h.blk.cell 4 rfl
    have d3 := h.blk.cell 5 rfl
    have d4 := h.blk.cell 6 rfl
    have d5 := h.blk.cell 7 rfl
    go_enter Try.func28, Try.ntmps28
    go_wp2_with (go_at_call 31; refine (has_yes h _ Ht.out).mono ?_; rintro e w' ⟨rfl, rfl⟩)
    go_region
    go_wp2
    go_ret2
    obtain ⟨p1, p2⟩ := put_is h (t := 0) (o := 2) (o1 := 3) (o2 := 4) (o3 := 5) (o4 := 6) (o5 := 7) (Sn.in_ q.era) rfl
    simp only [six, Sn.in_] at p1 p2
    exact ⟨rfl, drew_is p1, p2.drew⟩
  by_cases ht1 : t = 1
  · subst ht1
    have d0 := h.blk.cell 8 rfl
    have d1 := h.blk.cell 9 rfl
    have d2 := h.blk.cell 10 rfl
    have d3 := h.blk.cell 11 rfl
    have d4 := h.blk.cell 12 rfl
    have d5 := h.blk.cell 13 rfl
    go_enter Try.func28, Try.ntmps28
    go_wp2_with (go_at_call 31; refine (has_yes h _ Ht.out).mono ?_; rintro e w' ⟨rfl, rfl⟩)
    go_region
    go_wp2
    go_ret2
    obtain ⟨p1, p2⟩ := put_is h (t := 1) (o := 8) (o1 := 9) (o2 := 10) (o3 := 11) (o4 := 12) (o5 := 13) (Sn.in_ q.era) rfl
    simp only [six, Sn.in_] at p1 p2
    exact ⟨rfl, drew_is p1, p2.drew⟩
  by_cases ht2 : t = 2
  · subst ht2
    have d0 := h.blk.cell 14 rfl
    have d1 := h.blk.cell 15 rfl
    have d2 := h.blk.cell 16 rfl
    have d3 := h.blk.cell 17 rfl
    have d4 := h.blk.cell 18 rfl
    have d5 := h.blk.cell 19 rfl
    go_enter Try.func28, Try.ntmps28
    go_wp2_with (go_at_call 31; refine (has_yes h _ Ht.out).mono ?_; rintro e w' ⟨rfl, rfl⟩)
    go_region
    go_wp2
    go_ret2
    obtain ⟨p1, p2⟩ := put_is h (t := 2) (o := 14) (o1 := 15) (o2 := 16) (o3 := 17) (o4 := 18) (o5 := 19) (Sn.in_ q.era) rfl
    simp only [six, Sn.in_] at p1 p2
    exact ⟨rfl, drew_is p1, p2.drew⟩
  by_cases ht3 : t = 3
  · subst ht3
    have d0 := h.blk.cell 20 rfl
    have d1 := h.blk.cell 21 rfl
    have d2 := h.blk.cell 22 rfl
    have d3 := h.blk.cell 23 rfl
    have d4 := h.blk.cell 24 rfl
    have d5 := h.blk.cell 25 rfl
    go_enter Try.func28, Try.ntmps28
    go_wp2_with (go_at_call 31; refine (has_yes h _ Ht.out).mono ?_; rintro e w' ⟨rfl, rfl⟩)
    go_region
    go_wp2
    go_ret2
    obtain ⟨p1, p2⟩ := put_is h (t := 3) (o := 20) (o1 := 21) (o2 := 22) (o3 := 23) (o4 := 24) (o5 := 25) (Sn.in_ q.era) rfl
    simp only [six, Sn.in_] at p1 p2
    exact ⟨rfl, drew_is p1, p2.drew⟩
  omega
end Go.Proofs.Ytiokifkppfegfaa
