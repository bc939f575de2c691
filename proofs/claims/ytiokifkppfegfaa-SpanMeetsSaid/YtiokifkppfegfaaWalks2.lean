/-
  The walks of Hold, Born, Era, Bound, Waiting.
-/
import Derived.Test.YtiokifkppfegfaaWalks1
set_option linter.unusedVariables false
set_option linter.unusedSimpArgs false
namespace Go.Proofs.Ytiokifkppfegfaa
open Go.RowKit Mem Qm
set_option maxRecDepth 100000

theorem turn_is {w W : World} {B g b : Nat} {v : Value} {q q' : Q} (h : IsS w B g b v q) (hk : Kept w W (fun k => k = g)) (hb : Blk W g 65 (qCells q' (.map (some b)) v)) (e1 : q'.nb = q.nb) (e2 : q'.bi = q.bi) (e3 : q'.ws = q.ws) :
    IsS W B g b v q' ∧ Kept w W (foot g b v) :=
  ⟨⟨h.lo, h.lob, hb, by rw [e1, e2]; exact h.map.keep hk h.ne_map, by rw [e3]; exact Row.keep h.row hk (fun k hk e => h.ne_row (e ▸ hk))⟩, hk.mono (fun k _ e => .inl e)⟩
theorem hold_no {w : World} {p : Value} {t k a : Int} (h : NoT w p t) :
    Calls Try.prog 30 #[p, .int .i64 t, .int .i64 k, .int .i64 a] w fun e w' => e = res (.slice none 0 0) 1 ∧ w = w' := by
  have H := Lib.hid h
  clear h
  go_enter Try.func30, Try.ntmps30
  go_wp2_with (go_at_call 31; refine (has_not H.out).mono ?_; rintro e w' ⟨rfl, rfl⟩)
  go_ret2
  exact ⟨rfl, rfl⟩
theorem hold_bad {w : World} {B g b : Nat} {v : Value} {q : Q} (h : IsS w B g b v q) (t k a : Int) (ht : q.ok t) (hb : ¬ (0 ≤ k ∧ k < 3 ∧ 0 ≤ a)) :
    Calls Try.prog 30 #[.pointer (some ⟨g, 0, none⟩), .int .i64 t, .int .i64 k, .int .i64 a] w fun e w' => e = res (.slice none 0 0) 1 ∧ w = w' := by
  have H := Lib.hid ht
  clear ht
  by_cases h0 : 0 ≤ k
  · by_cases h1 : k < 3
    · have h2 : ¬ 0 ≤ a := fun h2 => hb ⟨h0, h1, h2⟩
      clear hb
      go_enter Try.func30, Try.ntmps30
      go_wp2_with (go_at_call 31; refine (has_yes h _ H.out).mono ?_; rintro e w' ⟨rfl, rfl⟩)
      go_ret2
      exact ⟨rfl, rfl⟩
    · clear hb
      go_enter Try.func30, Try.ntmps30
      go_wp2_with (go_at_call 31; refine (has_yes h _ H.out).mono ?_; rintro e w' ⟨rfl, rfl⟩)
      go_ret2
      exact ⟨rfl, rfl⟩
  · clear hb
    go_enter Try.func30, Try.ntmps30
    go_wp2_with (go_at_call 31; refine (has_yes h _ H.out).mono ?_; rintro e w' ⟨rfl, rfl⟩)
    go_ret2
    exact ⟨rfl, rfl⟩
set_option maxHeartbeats 2000000 in
theorem hold_yes {w : World} {B g b : Nat} {v : Value} {q : Q} (h : IsS w B g b v q) (t k a : Int) (ht : q.ok t) (h4 : q.n ≤ 4) (hk0 : 0 ≤ k) (hk1 : k < 3) (ha : 0 ≤ a) :
    Calls Try.prog 30 #[.pointer (some ⟨g, 0, none⟩), .int .i64 t, .int .i64 k, .int .i64 a] w fun e w' => e = res (.slice none 0 0) 0 ∧ IsS w' B g b v (q.hold t k a) ∧ Kept w w' (foot g b v) := by
  obtain ⟨h0, h1⟩ := id ht
  have e0 := h.blk.cell 0 rfl
  have ff : ∀ j, w.frozen? ⟨g, j, none⟩ = false := fun j => h.blk.free j
  have Ht := Lib.hid ht
  clear ht
  by_cases ht0 : t = 0
  · subst ht0
    have d0 := h.blk.cell 2 rfl
    have d2 := h.blk.cell 4 rfl
    by_cases hi : q.s0.i = true
    · by_cases hk0 : k = 0
      · subst hk0
        have d3 := h.blk.cell 5 rfl
        go_enter Try.func30, Try.ntmps30
        go_wp2_with (go_at_call 31; refine (has_yes h _ Ht.out).mono ?_; rintro e w' ⟨rfl, rfl⟩)
        go_region
        go_wp2
        go_ret2
        have p0 := turn_is (q' := q.hold 0 0 a) h (((Kept.refl w (fun k => k = g)).setCell (p := ⟨g, 4, none⟩) (.inl rfl) (.int .i64 q.era)).setCell (p := ⟨g, 5, none⟩) (.inl rfl) (.int .i64 a)) (Blk.of ((h.blk.set 4 (.int .i64 q.era)).set 5 (.int .i64 a)) (by rw [show q.hold 0 0 a = q.put 0 (q.s0.hold q.era 0 a) by simp [Q.hold, Q.get, hi]]; rfl)) (by simp only [Q.hold]; split <;> rfl) (by simp only [Q.hold]; split <;> rfl) (by simp only [Q.hold]; split <;> rfl)
        refine ⟨rfl, ?_, ?_⟩
        · exact drew_is p0.1
        · exact p0.2.drew
      by_cases hk1 : k = 1
      · subst hk1
        have d3 := h.blk.cell 6 rfl
        go_enter Try.func30, Try.ntmps30
        go_wp2_with (go_at_call 31; refine (has_yes h _ Ht.out).mono ?_; rintro e w' ⟨rfl, rfl⟩)
        go_region
        go_wp2
        go_ret2
        have p0 := turn_is (q' := q.hold 0 1 a) h (((Kept.refl w (fun k => k = g)).setCell (p := ⟨g, 4, none⟩) (.inl rfl) (.int .i64 q.era)).setCell (p := ⟨g, 6, none⟩) (.inl rfl) (.int .i64 a)) (Blk.of ((h.blk.set 4 (.int .i64 q.era)).set 6 (.int .i64 a)) (by rw [show q.hold 0 1 a = q.put 0 (q.s0.hold q.era 1 a) by simp [Q.hold, Q.get, hi]]; rfl)) (by simp only [Q.hold]; split <;> rfl) (by simp only [Q.hold]; split <;> rfl) (by simp only [Q.hold]; split <;> rfl)
        refine ⟨rfl, ?_, ?_⟩
        · exact drew_is p0.1
        · exact p0.2.drew
      by_cases hk2 : k = 2
      · subst hk2
        have d3 := h.blk.cell 7 rfl
        go_enter Try.func30, Try.ntmps30
        go_wp2_with (go_at_call 31; refine (has_yes h _ Ht.out).mono ?_; rintro e w' ⟨rfl, rfl⟩)
        go_region
        go_wp2
        go_ret2
        have p0 := turn_is (q' := q.hold 0 2 a) h (((Kept.refl w (fun k => k = g)).setCell (p := ⟨g, 4, none⟩) (.inl rfl) (.int .i64 q.era)).setCell (p := ⟨g, 7, none⟩) (.inl rfl) (.int .i64 a)) (Blk.of ((h.blk.set 4 (.int .i64 q.era)).set 7 (.int .i64 a)) (by rw [show q.hold 0 2 a = q.put 0 (q.s0.hold q.era 2 a) by simp [Q.hold, Q.get, hi]]; rfl)) (by simp only [Q.hold]; split <;> rfl) (by simp only [Q.hold]; split <;> rfl) (by simp only [Q.hold]; split <;> rfl)
        refine ⟨rfl, ?_, ?_⟩
        · exact drew_is p0.1
        · exact p0.2.drew
      omega
    · have hi' : q.s0.i = false := by simpa using hi
      have hq : q.hold 0 k a = q := by simp only [Q.hold, Q.get]; simp [hi']
      have HQ := Lib.hid hq
      clear hq hi
      go_enter Try.func30, Try.ntmps30
      go_wp2_with (go_at_call 31; refine (has_yes h _ Ht.out).mono ?_; rintro e w' ⟨rfl, rfl⟩)
      go_ret2
      rw [HQ.out]
      exact ⟨rfl, h, Kept.refl _ _⟩
  by_cases ht1 : t = 1
  · subst ht1
    have d0 := h.blk.cell 8 rfl
    have d2 := h.blk.cell 10 rfl
    by_cases hi : q.s1.i = true
    · by_cases hk0 : k = 0
      · subst hk0
        have d3 := h.blk.cell 11 rfl
        go_enter Try.func30, Try.ntmps30
        go_wp2_with (go_at_call 31; refine (has_yes h _ Ht.out).mono ?_; rintro e w' ⟨rfl, rfl⟩)
        go_region
        go_wp2
        go_ret2
        have p0 := turn_is (q' := q.hold 1 0 a) h (((Kept.refl w (fun k => k = g)).setCell (p := ⟨g, 10, none⟩) (.inl rfl) (.int .i64 q.era)).setCell (p := ⟨g, 11, none⟩) (.inl rfl) (.int .i64 a)) (Blk.of ((h.blk.set 10 (.int .i64 q.era)).set 11 (.int .i64 a)) (by rw [show q.hold 1 0 a = q.put 1 (q.s1.hold q.era 0 a) by simp [Q.hold, Q.get, hi]]; rfl)) (by simp only [Q.hold]; split <;> rfl) (by simp only [Q.hold]; split <;> rfl) (by simp only [Q.hold]; split <;> rfl)
        refine ⟨rfl, ?_, ?_⟩
        · exact drew_is p0.1
        · exact p0.2.drew
      by_cases hk1 : k = 1
      · subst hk1
        have d3 := h.blk.cell 12 rfl
        go_enter Try.func30, Try.ntmps30
        go_wp2_with (go_at_call 31; refine (has_yes h _ Ht.out).mono ?_; rintro e w' ⟨rfl, rfl⟩)
        go_region
        go_wp2
        go_ret2
        have p0 := turn_is (q' := q.hold 1 1 a) h (((Kept.refl w (fun k => k = g)).setCell (p := ⟨g, 10, none⟩) (.inl rfl) (.int .i64 q.era)).setCell (p := ⟨g, 12, none⟩) (.inl rfl) (.int .i64 a)) (Blk.of ((h.blk.set 10 (.int .i64 q.era)).set 12 (.int .i64 a)) (by rw [show q.hold 1 1 a = q.put 1 (q.s1.hold q.era 1 a) by simp [Q.hold, Q.get, hi]]; rfl)) (by simp only [Q.hold]; split <;> rfl) (by simp only [Q.hold]; split <;> rfl) (by simp only [Q.hold]; split <;> rfl)
        refine ⟨rfl, ?_, ?_⟩
        · exact drew_is p0.1
        · exact p0.2.drew
      by_cases hk2 : k = 2
      · subst hk2
        have d3 := h.blk.cell 13 rfl
        go_enter Try.func30, Try.ntmps30
        go_wp2_with (go_at_call 31; refine (has_yes h _ Ht.out).mono ?_; rintro e w' ⟨rfl, rfl⟩)
        go_region
        go_wp2
        go_ret2
        have p0 := turn_is (q' := q.hold 1 2 a) h (((Kept.refl w (fun k => k = g)).setCell (p := ⟨g, 10, none⟩) (.inl rfl) (.int .i64 q.era)).setCell (p := ⟨g, 13, none⟩) (.inl rfl) (.int .i64 a)) (Blk.of ((h.blk.set 10 (.int .i64 q.era)).set 13 (.int .i64 a)) (by rw [show q.hold 1 2 a = q.put 1 (q.s1.hold q.era 2 a) by simp [Q.hold, Q.get, hi]]; rfl)) (by simp only [Q.hold]; split <;> rfl) (by simp only [Q.hold]; split <;> rfl) (by simp only [Q.hold]; split <;> rfl)
        refine ⟨rfl, ?_, ?_⟩
        · exact drew_is p0.1
        · exact p0.2.drew
      omega
    · have hi' : q.s1.i = false := by simpa using hi
      have hq : q.hold 1 k a = q := by simp only [Q.hold, Q.get]; simp [hi']
      have HQ := Lib.hid hq
      clear hq hi
      go_enter Try.func30, Try.ntmps30
      go_wp2_with (go_at_call 31; refine (has_yes h _ Ht.out).mono ?_; rintro e w' ⟨rfl, rfl⟩)
      go_ret2
      rw [HQ.out]
      exact ⟨rfl, h, Kept.refl _ _⟩
  by_cases ht2 : t = 2
  · subst ht2
    have d0 := h.blk.cell 14 rfl
    have d2 := h.blk.cell 16 rfl
    by_cases hi : q.s2.i = true
    · by_cases hk0 : k = 0
      · subst hk0
        have d3 := h.blk.cell 17 rfl
        go_enter Try.func30, Try.ntmps30
        go_wp2_with (go_at_call 31; refine (has_yes h _ Ht.out).mono ?_; rintro e w' ⟨rfl, rfl⟩)
        go_region
        go_wp2
        go_ret2
        have p0 := turn_is (q' := q.hold 2 0 a) h (((Kept.refl w (fun k => k = g)).setCell (p := ⟨g, 16, none⟩) (.inl rfl) (.int .i64 q.era)).setCell (p := ⟨g, 17, none⟩) (.inl rfl) (.int .i64 a)) (Blk.of ((h.blk.set 16 (.int .i64 q.era)).set 17 (.int .i64 a)) (by rw [show q.hold 2 0 a = q.put 2 (q.s2.hold q.era 0 a) by simp [Q.hold, Q.get, hi]]; rfl)) (by simp only [Q.hold]; split <;> rfl) (by simp only [Q.hold]; split <;> rfl) (by simp only [Q.hold]; split <;> rfl)
        refine ⟨rfl, ?_, ?_⟩
        · exact drew_is p0.1
        · exact p0.2.drew
      by_cases hk1 : k = 1
      · subst hk1
        have d3 := h.blk.cell 18 rfl
        go_enter Try.func30, Try.ntmps30
        go_wp2_with (go_at_call 31; refine (has_yes h _ Ht.out).mono ?_; rintro e w' ⟨rfl, rfl⟩)
        go_region
        go_wp2
        go_ret2
        have p0 := turn_is (q' := q.hold 2 1 a) h (((Kept.refl w (fun k => k = g)).setCell (p := ⟨g, 16, none⟩) (.inl rfl) (.int .i64 q.era)).setCell (p := ⟨g, 18, none⟩) (.inl rfl) (.int .i64 a)) (Blk.of ((h.blk.set 16 (.int .i64 q.era)).set 18 (.int .i64 a)) (by rw [show q.hold 2 1 a = q.put 2 (q.s2.hold q.era 1 a) by simp [Q.hold, Q.get, hi]]; rfl)) (by simp only [Q.hold]; split <;> rfl) (by simp only [Q.hold]; split <;> rfl) (by simp only [Q.hold]; split <;> rfl)
        refine ⟨rfl, ?_, ?_⟩
        · exact drew_is p0.1
        · exact p0.2.drew
      by_cases hk2 : k = 2
      · subst hk2
        have d3 := h.blk.cell 19 rfl
        go_enter Try.func30, Try.ntmps30
        go_wp2_with (go_at_call 31; refine (has_yes h _ Ht.out).mono ?_; rintro e w' ⟨rfl, rfl⟩)
        go_region
        go_wp2
        go_ret2
        have p0 := turn_is (q' := q.hold 2 2 a) h (((Kept.refl w (fun k => k = g)).setCell (p := ⟨g, 16, none⟩) (.inl rfl) (.int .i64 q.era)).setCell (p := ⟨g, 19, none⟩) (.inl rfl) (.int .i64 a)) (Blk.of ((h.blk.set 16 (.int .i64 q.era)).set 19 (.int .i64 a)) (by rw [show q.hold 2 2 a = q.put 2 (q.s2.hold q.era 2 a) by simp [Q.hold, Q.get, hi]]; rfl)) (by simp only [Q.hold]; split <;> rfl) (by simp only [Q.hold]; split <;> rfl) (by simp only [Q.hold]; split <;> rfl)
        refine ⟨rfl, ?_, ?_⟩
        · exact drew_is p0.1
        · exact p0.2.drew
      omega
    · have hi' : q.s2.i = false := by simpa using hi
      have hq : q.hold 2 k a = q := by simp only [Q.hold, Q.get]; simp [hi']
      have HQ := Lib.hid hq
      clear hq hi
      go_enter Try.func30, Try.ntmps30
      go_wp2_with (go_at_call 31; refine (has_yes h _ Ht.out).mono ?_; rintro e w' ⟨rfl, rfl⟩)
      go_ret2
      rw [HQ.out]
      exact ⟨rfl, h, Kept.refl _ _⟩
  by_cases ht3 : t = 3
  · subst ht3
    have d0 := h.blk.cell 20 rfl
    have d2 := h.blk.cell 22 rfl
    by_cases hi : q.s3.i = true
    · by_cases hk0 : k = 0
      · subst hk0
        have d3 := h.blk.cell 23 rfl
        go_enter Try.func30, Try.ntmps30
        go_wp2_with (go_at_call 31; refine (has_yes h _ Ht.out).mono ?_; rintro e w' ⟨rfl, rfl⟩)
        go_region
        go_wp2
        go_ret2
        have p0 := turn_is (q' := q.hold 3 0 a) h (((Kept.refl w (fun k => k = g)).setCell (p := ⟨g, 22, none⟩) (.inl rfl) (.int .i64 q.era)).setCell (p := ⟨g, 23, none⟩) (.inl rfl) (.int .i64 a)) (Blk.of ((h.blk.set 22 (.int .i64 q.era)).set 23 (.int .i64 a)) (by rw [show q.hold 3 0 a = q.put 3 (q.s3.hold q.era 0 a) by simp [Q.hold, Q.get, hi]]; rfl)) (by simp only [Q.hold]; split <;> rfl) (by simp only [Q.hold]; split <;> rfl) (by simp only [Q.hold]; split <;> rfl)
        refine ⟨rfl, ?_, ?_⟩
        · exact drew_is p0.1
        · exact p0.2.drew
      by_cases hk1 : k = 1
      · subst hk1
        have d3 := h.blk.cell 24 rfl
        go_enter Try.func30, Try.ntmps30
        go_wp2_with (go_at_call 31; refine (has_yes h _ Ht.out).mono ?_; rintro e w' ⟨rfl, rfl⟩)
        go_region
        go_wp2
        go_ret2
        have p0 := turn_is (q' := q.hold 3 1 a) h (((Kept.refl w (fun k => k = g)).setCell (p := ⟨g, 22, none⟩) (.inl rfl) (.int .i64 q.era)).setCell (p := ⟨g, 24, none⟩) (.inl rfl) (.int .i64 a)) (Blk.of ((h.blk.set 22 (.int .i64 q.era)).set 24 (.int .i64 a)) (by rw [show q.hold 3 1 a = q.put 3 (q.s3.hold q.era 1 a) by simp [Q.hold, Q.get, hi]]; rfl)) (by simp only [Q.hold]; split <;> rfl) (by simp only [Q.hold]; split <;> rfl) (by simp only [Q.hold]; split <;> rfl)
        refine ⟨rfl, ?_, ?_⟩
        · exact drew_is p0.1
        · exact p0.2.drew
      by_cases hk2 : k = 2
      · subst hk2
        have d3 := h.blk.cell 25 rfl
        go_enter Try.func30, Try.ntmps30
        go_wp2_with (go_at_call 31; refine (has_yes h _ Ht.out).mono ?_; rintro e w' ⟨rfl, rfl⟩)
        go_region
        go_wp2
        go_ret2
        have p0 := turn_is (q' := q.hold 3 2 a) h (((Kept.refl w (fun k => k = g)).setCell (p := ⟨g, 22, none⟩) (.inl rfl) (.int .i64 q.era)).setCell (p := ⟨g, 25, none⟩) (.inl rfl) (.int .i64 a)) (Blk.of ((h.blk.set 22 (.int .i64 q.era)).set 25 (.int .i64 a)) (by rw [show q.hold 3 2 a = q.put 3 (q.s3.hold q.era 2 a) by simp [Q.hold, Q.get, hi]]; rfl)) (by simp only [Q.hold]; split <;> rfl) (by simp only [Q.hold]; split <;> rfl) (by simp only [Q.hold]; split <;> rfl)
        refine ⟨rfl, ?_, ?_⟩
        · exact drew_is p0.1
        · exact p0.2.drew
      omega
    · have hi' : q.s3.i = false := by simpa using hi
      have hq : q.hold 3 k a = q := by simp only [Q.hold, Q.get]; simp [hi']
      have HQ := Lib.hid hq
      clear hq hi
      go_enter Try.func30, Try.ntmps30
      go_wp2_with (go_at_call 31; refine (has_yes h _ Ht.out).mono ?_; rintro e w' ⟨rfl, rfl⟩)
      go_ret2
      rw [HQ.out]
      exact ⟨rfl, h, Kept.refl _ _⟩
  omega
theorem bound_yes {w : World} {n : Int} (h0 : 1 ≤ n) (h1 : n ≤ 4) :
    Calls Try.prog 22 #[.int .i64 n] w fun e w' => e = .returned (.tuple #[.int .i64 (-1), .int .i64 0]) ∧ w = w' := by
  go_enter Try.func22, Try.ntmps22
  go_wp2
  go_ret2
  exact ⟨rfl, rfl⟩
theorem bound_no {w : World} {n : Int} (h : ¬ (1 ≤ n ∧ n ≤ 4)) :
    Calls Try.prog 22 #[.int .i64 n] w fun e w' => e = .returned (.tuple #[.int .i64 0, .int .i64 1]) ∧ w = w' := by
  by_cases h0 : n < 1
  · go_enter Try.func22, Try.ntmps22
    go_wp2
    go_ret2
    exact ⟨rfl, rfl⟩
  · have h1 : 4 < n := by omega
    clear h
    go_enter Try.func22, Try.ntmps22
    go_wp2
    go_ret2
    exact ⟨rfl, rfl⟩
theorem era_yes {w : World} {B g b : Nat} {v : Value} {q : Q} (h : IsS w B g b v q) (ht : q.ok 0) :
    Calls Try.prog 29 #[.pointer (some ⟨g, 0, none⟩)] w fun e w' => e = .returned (.int .i64 q.era) ∧ w = w' := by
  have H := Lib.hid ht
  clear ht
  have e0 := h.blk.cell 0 rfl
  go_enter Try.func29, Try.ntmps29
  go_wp2_with (go_at_call 31; refine (has_yes h _ H.out).mono ?_; rintro e w' ⟨rfl, rfl⟩)
  go_ret
  exact ⟨rfl, rfl⟩
theorem born_bad {w : World} {B g b : Nat} {v : Value} {q : Q} (h : IsS w B g b v q) (a : Int) (ht : q.ok 0) (ha : ¬ 0 < a) :
    Calls Try.prog 19 #[.pointer (some ⟨g, 0, none⟩), .int .i64 a] w fun e w' => e = .returned (.int .i64 1) ∧ w = w' := by
  have H := Lib.hid ht
  clear ht
  go_enter Try.func19, Try.ntmps19
  go_wp2_with (go_at_call 31; refine (has_yes h _ H.out).mono ?_; rintro e w' ⟨rfl, rfl⟩)
  go_ret
  exact ⟨rfl, rfl⟩
theorem born_no {w : World} {p : Value} {a : Int} (h : NoT w p 0) :
    Calls Try.prog 19 #[p, .int .i64 a] w fun e w' => e = .returned (.int .i64 1) ∧ w = w' := by
  have H := Lib.hid h
  clear h
  go_enter Try.func19, Try.ntmps19
  go_wp2_with (go_at_call 31; refine (has_not H.out).mono ?_; rintro e w' ⟨rfl, rfl⟩)
  go_ret
  exact ⟨rfl, rfl⟩
set_option maxHeartbeats 1000000 in
theorem born_yes {w : World} {B g b : Nat} {v : Value} {q : Q} (h : IsS w B g b v q) (a : Int) (ht : q.ok 0) (ha : 0 < a) (hw : Wf a) (he0 : 0 ≤ q.era) (he1 : q.era < 1000000) (hn : q.nb < 1000000) :
    Calls Try.prog 19 #[.pointer (some ⟨g, 0, none⟩), .int .i64 a] w fun e w' => e = .returned (.int .i64 0) ∧ IsS w' B g b v (q.born a) ∧ Kept w w' (foot g b v) := by
  have H := Lib.hid ht
  have e0 := h.blk.cell 0 rfl
  have f0 := h.blk.free 0
  have e27 := h.blk.cell 26 rfl
  have k1 : Kept w (w.setCell ⟨g, 0, none⟩ (.int .i64 (q.era + 1))) (fun k => k = g) := (Kept.refl w (fun k => k = g)).setCell (p := ⟨g, 0, none⟩) (.inl rfl) _
  obtain ⟨i1, i2⟩ := turn_is (q' := { q with era := q.era + 1 }) h k1 (Blk.of (h.blk.set 0 (.int .i64 (q.era + 1))) rfl) rfl rfl rfl
  have I1 := Lib.hid i1
  have K1 := Lib.hid i2
  have c0 := i1.blk.cell 0 rfl
  have c26 := i1.blk.cell 26 rfl
  obtain ⟨w2, hrun, hm2, hk2⟩ := MapI.store Try.underlying3 Try.underlying62 (drew_map i1.map) hn hw (show Wf (q.era + 1) from wf_of (by omega) (by omega))
  have HM := Lib.hid hm2
  have HK := Lib.hid hk2
  clear ht hw k1 i1 i2 hm2 hk2
  go_enter Try.func19, Try.ntmps19
  go_wp2_with (go_at_call 31; refine (has_yes h _ H.out).mono ?_; rintro e w' ⟨rfl, rfl⟩)
  go_region
  go_wp2
  go_ret
  have i3 := drew_is I1.out
  refine ⟨rfl, ⟨i3.lo, i3.lob, Blk.of (i3.blk.keep HK.out (fun e => i3.ne_map e.symm)) rfl, HM.out, Row.keep i3.row HK.out (fun k hk e => i3.map.ne_row i3.row (e ▸ hk))⟩, K1.out.drew.trans HK.out (fun i _ e => .inr (.inl e))⟩
end Go.Proofs.Ytiokifkppfegfaa
