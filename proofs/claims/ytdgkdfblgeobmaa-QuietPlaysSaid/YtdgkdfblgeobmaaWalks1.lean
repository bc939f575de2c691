/-
  The walks of the manager's small functions.
-/
import Derived.Test.YtdgkdfblgeobmaaModel
import Derived.Test.YtdgkdfblgeobmaaProg
set_option linter.unusedVariables false
set_option linter.unusedSimpArgs false
namespace Go.Proofs.Ytdgkdfblgeobmaa
open Go.RowKit Mem Qm
set_option maxRecDepth 100000

theorem has_yes {w : World} {B g : Nat} {v : Value} {q : Q} (h : Is w B g v q) (t : Int) (ht : q.ok t) :
    Calls Try.prog 31 #[.pointer (some ⟨g, 0, none⟩), .int .i64 t] w fun e w' => e = .returned (.bool true) ∧ w = w' := by
  obtain ⟨h0, h1⟩ := ht
  have c0 := h.blk.cell 0 rfl
  go_enter Try.func31, Try.ntmps31
  go_wp2
  go_ret
  exact ⟨rfl, rfl⟩
theorem has_no {w : World} {B g : Nat} {v : Value} {q : Q} (h : Is w B g v q) (t : Int) (ht : ¬ q.ok t) :
    Calls Try.prog 31 #[.pointer (some ⟨g, 0, none⟩), .int .i64 t] w fun e w' => e = .returned (.bool false) ∧ w = w' := by
  have c0 := h.blk.cell 0 rfl
  by_cases h0 : 0 ≤ t
  · have h1 : ¬ t < q.n := fun h1 => ht ⟨h0, h1⟩
    go_enter Try.func31, Try.ntmps31
    go_wp2
    go_ret
    exact ⟨rfl, rfl⟩
  · go_enter Try.func31, Try.ntmps31
    go_wp2
    go_ret
    exact ⟨rfl, rfl⟩
theorem has_nil {w : World} (t : Int) :
    Calls Try.prog 31 #[.pointer none, .int .i64 t] w fun e w' => e = .returned (.bool false) ∧ w = w' := by
  go_enter Try.func31, Try.ntmps31
  go_wp2
  go_ret
  exact ⟨rfl, rfl⟩

/-- Two results: a list, and an error. -/
abbrev res (l : Value) (e : Int) : Ending := .returned (.tuple #[l, .int .i64 e])

theorem in_yes {w : World} {B g : Nat} {v : Value} {q : Q} (h : Is w B g v q) (t : Int) (ht : q.ok t) (h4 : q.n ≤ 4) :
    Calls Try.prog 18 #[.pointer (some ⟨g, 0, none⟩), .int .i64 t] w fun e w' => e = res (.slice none 0 0) 0 ∧ Is w' B g v (q.in_ t) ∧ Kept w w' (foot g v) := by
  have hb := h.blk
  obtain ⟨h0, h1⟩ := id ht
  have c1 := h.blk.cell 1 rfl
  have c2 := h.blk.cell 2 rfl
  have c3 := h.blk.cell 3 rfl
  have c4 := h.blk.cell 4 rfl
  have f1 := h.blk.free 1
  have f2 := h.blk.free 2
  have f3 := h.blk.free 3
  have f4 := h.blk.free 4
  have key : ∀ (j : Nat), Kept w (w.setCell ⟨g, j, none⟩ (.bool true)) (foot g v) := fun j => (Kept.refl w _).setCell (.inl (.inl rfl)) _
  have row : ∀ (j : Nat), Row (w.setCell ⟨g, j, none⟩ (.bool true)) B 62 5 v q.ws.length (flat q.ws) := fun j =>
    Row.keep h.row ((Kept.refl w (fun k => k = g)).setCell (.inl rfl) _) (fun k hk e => Row.ne_blk h.row hb (by decide) (e ▸ hk))
  have lo := h.lo
  have Ht := Lib.hid ht
  clear ht
  rcases (show t = 0 ∨ t = 1 ∨ t = 2 ∨ t = 3 by omega) with rfl | rfl | rfl | rfl
  all_goals
    go_enter Try.func18, Try.ntmps18
    go_wp2_with (go_at_call 31; refine (has_yes h _ Ht.out).mono ?_; rintro e w' ⟨rfl, rfl⟩)
    go_ret2
    refine ⟨rfl, ⟨lo, hb.set _ _, row _⟩, key _⟩

/-- There is no such thread: no manager, or it is none of its threads. -/
def NoT (w : World) (p : Value) (t : Int) : Prop := p = .pointer none ∨ ∃ B g v q, p = .pointer (some ⟨g, 0, none⟩) ∧ Is w B g v q ∧ ¬ q.ok t
theorem has_not {w : World} {p : Value} {t : Int} (h : NoT w p t) :
    Calls Try.prog 31 #[p, .int .i64 t] w fun e w' => e = .returned (.bool false) ∧ w = w' := by
  rcases h with rfl | ⟨B, g, v, q, rfl, h, ht⟩
  · exact has_nil t
  · exact has_no h t ht
theorem in_no {w : World} {p : Value} {t : Int} (h : NoT w p t) :
    Calls Try.prog 18 #[p, .int .i64 t] w fun e w' => e = res (.slice none 0 0) 1 ∧ w = w' := by
  have H := Lib.hid h
  clear h
  go_enter Try.func18, Try.ntmps18
  go_wp2_with (go_at_call 31; refine (has_not H.out).mono ?_; rintro e w' ⟨rfl, rfl⟩)
  go_ret2
  exact ⟨rfl, rfl⟩
theorem hold_yes {w : World} {B g : Nat} {v : Value} {q : Q} (h : Is w B g v q) (t k a : Int) (ht : q.ok t) (hk0 : 0 ≤ k) (hk1 : k < 3) (ha : 0 ≤ a) :
    Calls Try.prog 29 #[.pointer (some ⟨g, 0, none⟩), .int .i64 t, .int .i64 k, .int .i64 a] w fun e w' => e = res (.slice none 0 0) 0 ∧ w = w' := by
  have H := Lib.hid ht
  clear ht
  go_enter Try.func29, Try.ntmps29
  go_wp2_with (go_at_call 31; refine (has_yes h _ H.out).mono ?_; rintro e w' ⟨rfl, rfl⟩)
  go_ret2
  exact ⟨rfl, rfl⟩
theorem hold_no {w : World} {p : Value} {t k a : Int} (h : NoT w p t) :
    Calls Try.prog 29 #[p, .int .i64 t, .int .i64 k, .int .i64 a] w fun e w' => e = res (.slice none 0 0) 1 ∧ w = w' := by
  have H := Lib.hid h
  clear h
  go_enter Try.func29, Try.ntmps29
  go_wp2_with (go_at_call 31; refine (has_not H.out).mono ?_; rintro e w' ⟨rfl, rfl⟩)
  go_ret2
  exact ⟨rfl, rfl⟩
theorem hold_bad {w : World} {B g : Nat} {v : Value} {q : Q} (h : Is w B g v q) (t k a : Int) (ht : q.ok t) (hb : ¬ (0 ≤ k ∧ k < 3 ∧ 0 ≤ a)) :
    Calls Try.prog 29 #[.pointer (some ⟨g, 0, none⟩), .int .i64 t, .int .i64 k, .int .i64 a] w fun e w' => e = res (.slice none 0 0) 1 ∧ w = w' := by
  have H := Lib.hid ht
  clear ht
  by_cases h0 : 0 ≤ k
  · by_cases h1 : k < 3
    · have h2 : ¬ 0 ≤ a := fun h2 => hb ⟨h0, h1, h2⟩
      clear hb
      go_enter Try.func29, Try.ntmps29
      go_wp2_with (go_at_call 31; refine (has_yes h _ H.out).mono ?_; rintro e w' ⟨rfl, rfl⟩)
      go_ret2
      exact ⟨rfl, rfl⟩
    · clear hb
      go_enter Try.func29, Try.ntmps29
      go_wp2_with (go_at_call 31; refine (has_yes h _ H.out).mono ?_; rintro e w' ⟨rfl, rfl⟩)
      go_ret2
      exact ⟨rfl, rfl⟩
  · clear hb
    go_enter Try.func29, Try.ntmps29
    go_wp2_with (go_at_call 31; refine (has_yes h _ H.out).mono ?_; rintro e w' ⟨rfl, rfl⟩)
    go_ret2
    exact ⟨rfl, rfl⟩
theorem born_yes {w : World} {B g : Nat} {v : Value} {q : Q} (h : Is w B g v q) (a : Int) (ht : q.ok 0) (ha : 0 < a) :
    Calls Try.prog 30 #[.pointer (some ⟨g, 0, none⟩), .int .i64 a] w fun e w' => e = .returned (.int .i64 0) ∧ w = w' := by
  have H := Lib.hid ht
  clear ht
  go_enter Try.func30, Try.ntmps30
  go_wp2_with (go_at_call 31; refine (has_yes h _ H.out).mono ?_; rintro e w' ⟨rfl, rfl⟩)
  go_ret
  exact ⟨rfl, rfl⟩
theorem born_bad {w : World} {B g : Nat} {v : Value} {q : Q} (h : Is w B g v q) (a : Int) (ht : q.ok 0) (ha : ¬ 0 < a) :
    Calls Try.prog 30 #[.pointer (some ⟨g, 0, none⟩), .int .i64 a] w fun e w' => e = .returned (.int .i64 1) ∧ w = w' := by
  have H := Lib.hid ht
  clear ht
  go_enter Try.func30, Try.ntmps30
  go_wp2_with (go_at_call 31; refine (has_yes h _ H.out).mono ?_; rintro e w' ⟨rfl, rfl⟩)
  go_ret
  exact ⟨rfl, rfl⟩
theorem born_no {w : World} {p : Value} {a : Int} (h : NoT w p 0) :
    Calls Try.prog 30 #[p, .int .i64 a] w fun e w' => e = .returned (.int .i64 1) ∧ w = w' := by
  have H := Lib.hid h
  clear h
  go_enter Try.func30, Try.ntmps30
  go_wp2_with (go_at_call 31; refine (has_not H.out).mono ?_; rintro e w' ⟨rfl, rfl⟩)
  go_ret
  exact ⟨rfl, rfl⟩
theorem rest_any {w : World} {p : Value} :
    Calls Try.prog 28 #[p] w fun e w' => e = .returned (.slice none 0 0) ∧ w = w' := by
  go_enter Try.func28, Try.ntmps28
  go_wp2
  go_ret
  exact ⟨rfl, rfl⟩
theorem new_no {w : World} {n : Int} (h : ¬ (1 ≤ n ∧ n ≤ 4)) :
    Calls Try.prog 11 #[.int .i64 n] w fun e w' => e = res (.pointer none) 1 ∧ w = w' := by
  by_cases h0 : n < 1
  · go_enter Try.func11, Try.ntmps11
    go_wp2
    go_ret2
    exact ⟨rfl, rfl⟩
  · have h1 : 4 < n := by omega
    clear h
    go_enter Try.func11, Try.ntmps11
    go_wp2
    go_ret2
    exact ⟨rfl, rfl⟩
theorem new_yes {w : World} {n : Int} (h0 : 1 ≤ n) (h1 : n ≤ 4) :
    Calls Try.prog 11 #[.int .i64 n] w fun e w' => e = res (.pointer (some ⟨w.heap.size, 0, none⟩)) 0 ∧ Is w' w.heap.size w.heap.size (.slice none 0 0) ⟨n, Cr.none, []⟩ ∧ Below w.heap.size w w' := by
  go_enter Try.func11, Try.ntmps11
  go_wp2
  go_ret2
  exact ⟨rfl, ⟨Nat.le_refl _, Blk.new _ _ _, World.ownsRow_nil _ _ _ _⟩, (Below.refl _ _).alloc (Nat.le_refl _) _⟩
theorem bound_yes {w : World} {n : Int} (h0 : 1 ≤ n) (h1 : n ≤ 4) :
    Calls Try.prog 23 #[.int .i64 n] w fun e w' => e = .returned (.tuple #[.int .i64 (-1), .int .i64 0]) ∧ w = w' := by
  go_enter Try.func23, Try.ntmps23
  go_wp2
  go_ret2
  exact ⟨rfl, rfl⟩
theorem bound_no {w : World} {n : Int} (h : ¬ (1 ≤ n ∧ n ≤ 4)) :
    Calls Try.prog 23 #[.int .i64 n] w fun e w' => e = .returned (.tuple #[.int .i64 0, .int .i64 1]) ∧ w = w' := by
  by_cases h0 : n < 1
  · go_enter Try.func23, Try.ntmps23
    go_wp2
    go_ret2
    exact ⟨rfl, rfl⟩
  · have h1 : 4 < n := by omega
    clear h
    go_enter Try.func23, Try.ntmps23
    go_wp2
    go_ret2
    exact ⟨rfl, rfl⟩
end Go.Proofs.Ytdgkdfblgeobmaa
