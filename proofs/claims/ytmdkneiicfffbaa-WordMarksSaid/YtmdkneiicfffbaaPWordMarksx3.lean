-- text made by a program of this session, for this seat
import Derived.Test.YtmdkneiicfffbaaPWordMarksx0
import Derived.Test.YtmdkneiicfffbaaPWordMarksx2
namespace Go.Proofs.Ytmdkneiicfffbaa.PWordMarks
open Go.RowKit Go.Proofs.YtmdkneiicfffbaaW.PrintWords Go.Proofs.YtmdkneiicfffbaaW.PrintLast Go.Proofs.YtmdkneiicfffbaaW.PrintMore
attribute [local go_sem] max2_int min2_int max_two min_two max_three min_three max_four min_four   -- for this text's walks alone
set_option linter.unusedVariables false
set_option linter.unusedSimpArgs false

/-! ### locklesslaw01_WordMarks: function 7 -/
def locklesslaw01_WordMarks.j0 : Nat → Int → Int → Int → Bool → Option (Bool)
  | 0, _, _, _, _ => none
  | k + 1, x0, x3, x4, x76 => if x76 = true then (some false) else (if x4 = 0 then ((word_Bare.f k x3).bind fun bt169 => ((word_Marked.f k x3).bind fun bt171 => (if bt169.1 = x0 then (if bt169.2 = 0 then (if bt171.1 = true then (if bt171.2 = 0 then ((locklesslaw01_sane.f k).bind fun t173 => (some t173)) else (some false)) else (some false)) else (some false)) else (some false)))) else ((locklesslaw01_sane.f k).bind fun t174 => (some t174)))
def locklesslaw01_WordMarks.f (k : Nat) (a0 : Int) : Option (Bool) := (word_Mark.f k a0).bind fun bt157 => ((locklessref01_Mark.f a0).bind fun bt159 => ((word_Bare.f k a0).bind fun bt161 => ((locklessref01_Bare.f a0).bind fun bt163 => ((word_Marked.f k a0).bind fun bt165 => ((locklessref01_Marked.f a0).bind fun bt167 => (if bt157.1 = bt159.1 then (if bt157.2 = bt159.2 then (if bt161.1 = bt163.1 then (if bt161.2 = bt163.2 then (if (bt165.1 != bt167.1) = true then (locklesslaw01_WordMarks.j0 k a0 bt157.1 bt157.2 true) else (locklesslaw01_WordMarks.j0 k a0 bt157.1 bt157.2 (bt165.2 != bt167.2))) else (locklesslaw01_WordMarks.j0 k a0 bt157.1 bt157.2 true)) else (locklesslaw01_WordMarks.j0 k a0 bt157.1 bt157.2 true)) else (locklesslaw01_WordMarks.j0 k a0 bt157.1 bt157.2 true)) else (locklesslaw01_WordMarks.j0 k a0 bt157.1 bt157.2 true)))))))
theorem locklesslaw01_WordMarks.mono_l : ∀ k, (∀ y0 y1 y2 y3, LeO (locklesslaw01_WordMarks.j0 k y0 y1 y2 y3) (locklesslaw01_WordMarks.j0 (k + 1) y0 y1 y2 y3))
  | 0 => fun _ _ _ _ r h => by simp [locklesslaw01_WordMarks.j0] at h
  | k + 1 => by
    have ih0 := locklesslaw01_WordMarks.mono_l k
    · intro y0 y1 y2 y3
      unfold locklesslaw01_WordMarks.j0
      repeat' first
      | (with_reducible exact ih0 _ _ _ _)
      | (with_reducible exact locklesslaw01_sane.mono _)
      | (with_reducible exact word_Bare.mono _ _)
      | (with_reducible exact word_Mark.mono _ _)
      | (with_reducible exact word_Marked.mono _ _)
      | (with_reducible exact LeO.refl _)
      | (with_reducible exact LeO.none _)
      | (with_reducible refine LeO.ite ?_ ?_)
      | (with_reducible refine LeO.bind ?_ (fun _ => ?_))
      | exact ih0 _ _ _ _
      | exact locklesslaw01_sane.mono _
      | exact word_Bare.mono _ _
      | exact word_Mark.mono _ _
      | exact word_Marked.mono _ _
      | exact LeO.none _
      | refine LeO.ite ?_ ?_
      | refine LeO.bind ?_ (fun _ => ?_)
theorem locklesslaw01_WordMarks.mono : ∀ a0 k, LeO (locklesslaw01_WordMarks.f k a0) (locklesslaw01_WordMarks.f (k + 1) a0) := by
  intro a0 k
  have ih0 := locklesslaw01_WordMarks.mono_l k
  unfold locklesslaw01_WordMarks.f
  repeat' first
      | (with_reducible exact ih0 _ _ _ _)
      | (with_reducible exact locklesslaw01_sane.mono _)
      | (with_reducible exact word_Bare.mono _ _)
      | (with_reducible exact word_Mark.mono _ _)
      | (with_reducible exact word_Marked.mono _ _)
      | (with_reducible exact LeO.refl _)
      | (with_reducible exact LeO.none _)
      | (with_reducible refine LeO.ite ?_ ?_)
      | (with_reducible refine LeO.bind ?_ (fun _ => ?_))
      | exact ih0 _ _ _ _
      | exact locklesslaw01_sane.mono _
      | exact word_Bare.mono _ _
      | exact word_Mark.mono _ _
      | exact word_Marked.mono _ _
      | exact LeO.none _
      | refine LeO.ite ?_ ?_
      | refine LeO.bind ?_ (fun _ => ?_)
set_option maxHeartbeats 8000000 in
set_option maxRecDepth 100000 in
theorem locklesslaw01_WordMarks.calls (k : Nat) (a0 : Int) (r : Bool) (w : World) (h : locklesslaw01_WordMarks.f k a0 = some r) :
    Calls Try.prog 7 #[.int .i64 a0] w fun e w' => e = .returned (.bool r) ∧ Below w.heap.size w w' := by
  have HB := Aside0.mk (Below.refl w.heap.size w)
  have H : ((word_Mark.f k a0).bind fun bt157 => ((locklessref01_Mark.f a0).bind fun bt159 => ((word_Bare.f k a0).bind fun bt161 => ((locklessref01_Bare.f a0).bind fun bt163 => ((word_Marked.f k a0).bind fun bt165 => ((locklessref01_Marked.f a0).bind fun bt167 => (if bt157.1 = bt159.1 then (if bt157.2 = bt159.2 then (if bt161.1 = bt163.1 then (if bt161.2 = bt163.2 then (if (bt165.1 != bt167.1) = true then (locklesslaw01_WordMarks.j0 k a0 bt157.1 bt157.2 true) else (locklesslaw01_WordMarks.j0 k a0 bt157.1 bt157.2 (bt165.2 != bt167.2))) else (locklesslaw01_WordMarks.j0 k a0 bt157.1 bt157.2 true)) else (locklesslaw01_WordMarks.j0 k a0 bt157.1 bt157.2 true)) else (locklesslaw01_WordMarks.j0 k a0 bt157.1 bt157.2 true)) else (locklesslaw01_WordMarks.j0 k a0 bt157.1 bt157.2 true)))))))) = some r := h
  clear h
  replace H := Option.bind_eq_some_iff.mp H
  obtain ⟨⟨t157, t158⟩, A20, H⟩ := H
  replace H : ((locklessref01_Mark.f a0).bind fun bt159 => ((word_Bare.f k a0).bind fun bt161 => ((locklessref01_Bare.f a0).bind fun bt163 => ((word_Marked.f k a0).bind fun bt165 => ((locklessref01_Marked.f a0).bind fun bt167 => (if t157 = bt159.1 then (if t158 = bt159.2 then (if bt161.1 = bt163.1 then (if bt161.2 = bt163.2 then (if (bt165.1 != bt167.1) = true then (locklesslaw01_WordMarks.j0 k a0 t157 t158 true) else (locklesslaw01_WordMarks.j0 k a0 t157 t158 (bt165.2 != bt167.2))) else (locklesslaw01_WordMarks.j0 k a0 t157 t158 true)) else (locklesslaw01_WordMarks.j0 k a0 t157 t158 true)) else (locklesslaw01_WordMarks.j0 k a0 t157 t158 true)) else (locklesslaw01_WordMarks.j0 k a0 t157 t158 true))))))) = some r := H
  have A2 := Aside0.mk A20
  clear A20
  replace H := Option.bind_eq_some_iff.mp H
  obtain ⟨⟨t159, t160⟩, A30, H⟩ := H
  replace H : ((word_Bare.f k a0).bind fun bt161 => ((locklessref01_Bare.f a0).bind fun bt163 => ((word_Marked.f k a0).bind fun bt165 => ((locklessref01_Marked.f a0).bind fun bt167 => (if t157 = t159 then (if t158 = t160 then (if bt161.1 = bt163.1 then (if bt161.2 = bt163.2 then (if (bt165.1 != bt167.1) = true then (locklesslaw01_WordMarks.j0 k a0 t157 t158 true) else (locklesslaw01_WordMarks.j0 k a0 t157 t158 (bt165.2 != bt167.2))) else (locklesslaw01_WordMarks.j0 k a0 t157 t158 true)) else (locklesslaw01_WordMarks.j0 k a0 t157 t158 true)) else (locklesslaw01_WordMarks.j0 k a0 t157 t158 true)) else (locklesslaw01_WordMarks.j0 k a0 t157 t158 true)))))) = some r := H
  have A3 := Aside0.mk A30
  clear A30
  replace H := Option.bind_eq_some_iff.mp H
  obtain ⟨⟨t161, t162⟩, A40, H⟩ := H
  replace H : ((locklessref01_Bare.f a0).bind fun bt163 => ((word_Marked.f k a0).bind fun bt165 => ((locklessref01_Marked.f a0).bind fun bt167 => (if t157 = t159 then (if t158 = t160 then (if t161 = bt163.1 then (if t162 = bt163.2 then (if (bt165.1 != bt167.1) = true then (locklesslaw01_WordMarks.j0 k a0 t157 t158 true) else (locklesslaw01_WordMarks.j0 k a0 t157 t158 (bt165.2 != bt167.2))) else (locklesslaw01_WordMarks.j0 k a0 t157 t158 true)) else (locklesslaw01_WordMarks.j0 k a0 t157 t158 true)) else (locklesslaw01_WordMarks.j0 k a0 t157 t158 true)) else (locklesslaw01_WordMarks.j0 k a0 t157 t158 true))))) = some r := H
  have A4 := Aside0.mk A40
  clear A40
  replace H := Option.bind_eq_some_iff.mp H
  obtain ⟨⟨t163, t164⟩, A50, H⟩ := H
  replace H : ((word_Marked.f k a0).bind fun bt165 => ((locklessref01_Marked.f a0).bind fun bt167 => (if t157 = t159 then (if t158 = t160 then (if t161 = t163 then (if t162 = t164 then (if (bt165.1 != bt167.1) = true then (locklesslaw01_WordMarks.j0 k a0 t157 t158 true) else (locklesslaw01_WordMarks.j0 k a0 t157 t158 (bt165.2 != bt167.2))) else (locklesslaw01_WordMarks.j0 k a0 t157 t158 true)) else (locklesslaw01_WordMarks.j0 k a0 t157 t158 true)) else (locklesslaw01_WordMarks.j0 k a0 t157 t158 true)) else (locklesslaw01_WordMarks.j0 k a0 t157 t158 true)))) = some r := H
  have A5 := Aside0.mk A50
  clear A50
  replace H := Option.bind_eq_some_iff.mp H
  obtain ⟨⟨t165, t166⟩, A60, H⟩ := H
  replace H : ((locklessref01_Marked.f a0).bind fun bt167 => (if t157 = t159 then (if t158 = t160 then (if t161 = t163 then (if t162 = t164 then (if (t165 != bt167.1) = true then (locklesslaw01_WordMarks.j0 k a0 t157 t158 true) else (locklesslaw01_WordMarks.j0 k a0 t157 t158 (t166 != bt167.2))) else (locklesslaw01_WordMarks.j0 k a0 t157 t158 true)) else (locklesslaw01_WordMarks.j0 k a0 t157 t158 true)) else (locklesslaw01_WordMarks.j0 k a0 t157 t158 true)) else (locklesslaw01_WordMarks.j0 k a0 t157 t158 true))) = some r := H
  have A6 := Aside0.mk A60
  clear A60
  replace H := Option.bind_eq_some_iff.mp H
  obtain ⟨⟨t167, t168⟩, A70, H⟩ := H
  replace H : (if t157 = t159 then (if t158 = t160 then (if t161 = t163 then (if t162 = t164 then (if (t165 != t167) = true then (locklesslaw01_WordMarks.j0 k a0 t157 t158 true) else (locklesslaw01_WordMarks.j0 k a0 t157 t158 (t166 != t168))) else (locklesslaw01_WordMarks.j0 k a0 t157 t158 true)) else (locklesslaw01_WordMarks.j0 k a0 t157 t158 true)) else (locklesslaw01_WordMarks.j0 k a0 t157 t158 true)) else (locklesslaw01_WordMarks.j0 k a0 t157 t158 true)) = some r := H
  have A7 := Aside0.mk A70
  clear A70
  have HC8 := Aside0.mk H
  clear H
  go_enter Try.func7, Try.ntmps7
  go_upto_region 7 with (first | ((with_reducible refine gate_callee (f := 24) rfl ?_); refine goesL_ (some 21) rfl rfl Try.func24 (by kernel_rfl) rfl #[.int .i64 a0] rfl (by (try simp only [List.map_toArray, List.map_cons, List.map_nil]); first | done | rfl | (simp only [List.length_drop, List.length_take]; rfl)) ?_; (with_reducible refine (word_Mark.calls k a0 t157 t158 _ A2.out).mono ?_); rintro e w9 ⟨rfl, hb⟩; refine ⟨_, rfl, ?_⟩; have n0_ := Aside0.mk (below_step (by repeat (first | (with_reducible first | exact HB.out | apply below_alloc | apply pw_below_drewN | apply below_drew1) | exact HB.out)) hb); clear HB; have HB := n0_; clear n0_; (try clear hb); (try clear hb2); (try clear hk); (try clear hi)) | ((with_reducible refine gate_callee (f := 25) rfl ?_); refine goesL_ (some 26) rfl rfl Try.func25 (by kernel_rfl) rfl #[.int .i64 a0] rfl (by (try simp only [List.map_toArray, List.map_cons, List.map_nil]); first | done | rfl | (simp only [List.length_drop, List.length_take]; rfl)) ?_; (with_reducible refine (locklessref01_Mark.calls a0 t159 t160 _ A3.out).mono ?_); rintro e w' ⟨rfl, ⟨nd, rfl⟩⟩; refine ⟨_, rfl, ?_⟩) | ((with_reducible refine gate_callee (f := 26) rfl ?_); refine goesL_ (some 31) rfl rfl Try.func26 (by kernel_rfl) rfl #[.int .i64 a0] rfl (by (try simp only [List.map_toArray, List.map_cons, List.map_nil]); first | done | rfl | (simp only [List.length_drop, List.length_take]; rfl)) ?_; (with_reducible refine (word_Bare.calls k a0 t161 t162 _ A4.out).mono ?_); rintro e w10 ⟨rfl, hb⟩; refine ⟨_, rfl, ?_⟩; have n0_ := Aside0.mk (below_step (by repeat (first | (with_reducible first | exact HB.out | apply below_alloc | apply pw_below_drewN | apply below_drew1) | exact HB.out)) hb); clear HB; have HB := n0_; clear n0_; (try clear hb); (try clear hb2); (try clear hk); (try clear hi)) | ((with_reducible refine gate_callee (f := 27) rfl ?_); refine goesL_ (some 36) rfl rfl Try.func27 (by kernel_rfl) rfl #[.int .i64 a0] rfl (by (try simp only [List.map_toArray, List.map_cons, List.map_nil]); first | done | rfl | (simp only [List.length_drop, List.length_take]; rfl)) ?_; (with_reducible refine (locklessref01_Bare.calls a0 t163 t164 _ A5.out).mono ?_); rintro e w' ⟨rfl, ⟨nd, rfl⟩⟩; refine ⟨_, rfl, ?_⟩) | ((with_reducible refine gate_callee (f := 28) rfl ?_); refine goesL_ (some 41) rfl rfl Try.func28 (by kernel_rfl) rfl #[.int .i64 a0] rfl (by (try simp only [List.map_toArray, List.map_cons, List.map_nil]); first | done | rfl | (simp only [List.length_drop, List.length_take]; rfl)) ?_; (with_reducible refine (word_Marked.calls k a0 t165 t166 _ A6.out).mono ?_); rintro e w11 ⟨rfl, hb⟩; refine ⟨_, rfl, ?_⟩; have n0_ := Aside0.mk (below_step (by repeat (first | (with_reducible first | exact HB.out | apply below_alloc | apply pw_below_drewN | apply below_drew1) | exact HB.out)) hb); clear HB; have HB := n0_; clear n0_; (try clear hb); (try clear hb2); (try clear hk); (try clear hi)) | ((with_reducible refine gate_callee (f := 29) rfl ?_); refine goesL_ (some 46) rfl rfl Try.func29 (by kernel_rfl) rfl #[.int .i64 a0] rfl (by (try simp only [List.map_toArray, List.map_cons, List.map_nil]); first | done | rfl | (simp only [List.length_drop, List.length_take]; rfl)) ?_; (with_reducible refine (locklessref01_Marked.calls a0 t167 t168 _ A7.out).mono ?_); rintro e w' ⟨rfl, ⟨nd, rfl⟩⟩; refine ⟨_, rfl, ?_⟩))
  (try simp only [Act.put, List.setIfInBounds_toArray, List.set_cons_zero, List.set_cons_succ])
  go_cut [76] (fun v76 wc => ∃ (kq : Nat) (x76_7 : Bool), v76 = .bool x76_7 ∧ Aside0 (locklesslaw01_WordMarks.j0 kq a0 t157 t158 x76_7 = some r) ∧ Aside0 (kq ≤ k) ∧ Aside0 (Below w.heap.size w wc))
  case first =>
    have H := HC8.out
    clear HC8
    by_cases c12 : t157 = t159
    · rw [if_pos c12] at H
      have c12b0 : (t157 == t159) = true := beq_iff_eq.mpr c12
      have c12b1 : (t157 != t159) = false := bne_eq_false_iff_eq.mpr c12
      clear c12
      (first | rw [c12b0] | (simp only [i64_w, i32_w]; rw [c12b0]) | skip)
      by_cases c13 : t158 = t160
      · rw [if_pos c13] at H
        have c13b0 : (t158 == t160) = true := beq_iff_eq.mpr c13
        have c13b1 : (t158 != t160) = false := bne_eq_false_iff_eq.mpr c13
        clear c13
        by_cases c14 : t161 = t163
        · rw [if_pos c14] at H
          have c14b0 : (t161 == t163) = true := beq_iff_eq.mpr c14
          have c14b1 : (t161 != t163) = false := bne_eq_false_iff_eq.mpr c14
          clear c14
          by_cases c15 : t162 = t164
          · rw [if_pos c15] at H
            have c15b0 : (t162 == t164) = true := beq_iff_eq.mpr c15
            have c15b1 : (t162 != t164) = false := bne_eq_false_iff_eq.mpr c15
            clear c15
            by_cases c16 : (t165 != t167) = true
            · rw [if_pos c16] at H
              have c16b0 : (t165 != t167) = true := c16
              (try (have c16b1 : decide (t165 = t167) = false := by simpa using c16))
              (try (have c16b2 : (t165 == t167) = false := by simpa using c16))
              (try (have c16b3 : ¬ (t165 = t167) := by simpa using c16))
              clear c16
              have H' := Aside0.mk H
              clear H
              go_wp2
              go_meet
              case rel => exact ⟨_, (true), (by first | rfl | (simp; done) | (simp [*]; done)), H', ⟨by first | omega | exact Nat.le_refl _⟩, ⟨by repeat (first | (with_reducible first | exact HB.out | apply below_alloc | apply pw_below_drewN | apply below_drew1) | exact HB.out)⟩⟩
            · rw [if_neg c16] at H
              have c16b0 : (t165 != t167) = false := by simpa using c16
              (try (have c16b1 : decide (t165 = t167) = true := by simpa using c16))
              (try (have c16b2 : (t165 == t167) = true := by simpa using c16))
              clear c16
              have H' := Aside0.mk H
              clear H
              go_wp2
              go_meet
              case rel => exact ⟨_, ((t166 != t168)), (by first | rfl | (simp; done) | (simp [*]; done)), H', ⟨by first | omega | exact Nat.le_refl _⟩, ⟨by repeat (first | (with_reducible first | exact HB.out | apply below_alloc | apply pw_below_drewN | apply below_drew1) | exact HB.out)⟩⟩
          · rw [if_neg c15] at H
            have c15b0 : (t162 == t164) = false := beq_eq_false_iff_ne.mpr c15
            have c15b1 : (t162 != t164) = true := bne_iff_ne.mpr c15
            have H' := Aside0.mk H
            clear H
            go_wp2
            go_meet
            case rel => exact ⟨_, (true), (by first | rfl | (simp; done) | (simp [*]; done)), H', ⟨by first | omega | exact Nat.le_refl _⟩, ⟨by repeat (first | (with_reducible first | exact HB.out | apply below_alloc | apply pw_below_drewN | apply below_drew1) | exact HB.out)⟩⟩
        · rw [if_neg c14] at H
          have c14b0 : (t161 == t163) = false := beq_eq_false_iff_ne.mpr c14
          have c14b1 : (t161 != t163) = true := bne_iff_ne.mpr c14
          have H' := Aside0.mk H
          clear H
          go_wp2
          go_meet
          case rel => exact ⟨_, (true), (by first | rfl | (simp; done) | (simp [*]; done)), H', ⟨by first | omega | exact Nat.le_refl _⟩, ⟨by repeat (first | (with_reducible first | exact HB.out | apply below_alloc | apply pw_below_drewN | apply below_drew1) | exact HB.out)⟩⟩
      · rw [if_neg c13] at H
        have c13b0 : (t158 == t160) = false := beq_eq_false_iff_ne.mpr c13
        have c13b1 : (t158 != t160) = true := bne_iff_ne.mpr c13
        have H' := Aside0.mk H
        clear H
        go_wp2
        go_meet
        case rel => exact ⟨_, (true), (by first | rfl | (simp; done) | (simp [*]; done)), H', ⟨by first | omega | exact Nat.le_refl _⟩, ⟨by repeat (first | (with_reducible first | exact HB.out | apply below_alloc | apply pw_below_drewN | apply below_drew1) | exact HB.out)⟩⟩
    · rw [if_neg c12] at H
      have c12b0 : (t157 == t159) = false := beq_eq_false_iff_ne.mpr c12
      have c12b1 : (t157 != t159) = true := bne_iff_ne.mpr c12
      (first | rw [c12b0] | (simp only [i64_w, i32_w]; rw [c12b0]) | skip)
      have H' := Aside0.mk H
      clear H
      go_wp2
      go_meet
      case rel => exact ⟨_, (true), (by first | rfl | (simp; done) | (simp [*]; done)), H', ⟨by first | omega | exact Nat.le_refl _⟩, ⟨by repeat (first | (with_reducible first | exact HB.out | apply below_alloc | apply pw_below_drewN | apply below_drew1) | exact HB.out)⟩⟩
  case rest =>
    clear HC8
    try clear c1
    try clear c2
    try clear p2
    try clear c7
    try clear c12
    try clear c12b0
    try clear c12b1
    try clear c13
    try clear c13b0
    try clear c13b1
    try clear c14
    try clear c14b0
    try clear c14b1
    try clear c15
    try clear c15b0
    try clear c15b1
    try clear c16
    try clear c16b0
    try clear c16b1
    try clear c16b2
    obtain ⟨kq, x76_7, rfl, HA, HJ7, HB⟩ := hcut
    cases kq with
    | zero => exact absurd HA.out (by simp [locklesslaw01_WordMarks.j0])
    | succ kj7 =>
      have H := HA.out
      clear HA
      simp only [locklesslaw01_WordMarks.j0] at H
      by_cases c17 : x76_7 = true
      · subst c17
        have H1 : (some false) = some r := by rw [if_pos rfl] at H; exact H
        clear H
        have H := H1
        clear H1
        obtain rfl := Option.some.inj H
        go_wp2
        go_ret
        exact ⟨by first | rfl | (simp [errW_none, errW_some] <;> rfl) | (simp [*, errW_none, errW_some] <;> rfl), by repeat (first | (with_reducible first | exact HB.out | apply below_alloc | apply pw_below_drewN | apply below_drew1) | exact HB.out)⟩
      · replace c17 := Bool.eq_false_iff.mpr c17
        subst c17
        have H1 : (if t158 = 0 then ((word_Bare.f kj7 t157).bind fun bt169 => ((word_Marked.f kj7 t157).bind fun bt171 => (if bt169.1 = a0 then (if bt169.2 = 0 then (if bt171.1 = true then (if bt171.2 = 0 then ((locklesslaw01_sane.f kj7).bind fun t173 => (some t173)) else (some false)) else (some false)) else (some false)) else (some false)))) else ((locklesslaw01_sane.f kj7).bind fun t174 => (some t174))) = some r := by rw [if_neg (show ¬ (false = true) by decide)] at H; exact H
        clear H
        have H := H1
        clear H1
        by_cases c18 : t158 = 0
        · rw [if_pos c18] at H
          have c18b0 : (t158 == 0) = true := beq_iff_eq.mpr c18
          have c18b1 : (t158 != 0) = false := bne_eq_false_iff_eq.mpr c18
          clear c18
          replace H := Option.bind_eq_some_iff.mp H
          obtain ⟨⟨t169, t170⟩, A190, H⟩ := H
          replace H : ((word_Marked.f kj7 t157).bind fun bt171 => (if t169 = a0 then (if t170 = 0 then (if bt171.1 = true then (if bt171.2 = 0 then ((locklesslaw01_sane.f kj7).bind fun t173 => (some t173)) else (some false)) else (some false)) else (some false)) else (some false))) = some r := H
          have A19 := Aside0.mk A190
          clear A190
          replace H := Option.bind_eq_some_iff.mp H
          obtain ⟨⟨t171, t172⟩, A200, H⟩ := H
          replace H : (if t169 = a0 then (if t170 = 0 then (if t171 = true then (if t172 = 0 then ((locklesslaw01_sane.f kj7).bind fun t173 => (some t173)) else (some false)) else (some false)) else (some false)) else (some false)) = some r := H
          have A20 := Aside0.mk A200
          clear A200
          by_cases c21 : t169 = a0
          · rw [if_pos c21] at H
            have c21b0 : (t169 == a0) = true := beq_iff_eq.mpr c21
            have c21b1 : (t169 != a0) = false := bne_eq_false_iff_eq.mpr c21
            clear c21
            by_cases c22 : t170 = 0
            · rw [if_pos c22] at H
              have c22b0 : (t170 == 0) = true := beq_iff_eq.mpr c22
              have c22b1 : (t170 != 0) = false := bne_eq_false_iff_eq.mpr c22
              clear c22
              by_cases c23 : t171 = true
              · subst c23
                have H1 : (if t172 = 0 then ((locklesslaw01_sane.f kj7).bind fun t173 => (some t173)) else (some false)) = some r := by rw [if_pos rfl] at H; exact H
                clear H
                have H := H1
                clear H1
                by_cases c24 : t172 = 0
                · rw [if_pos c24] at H
                  have c24b0 : (t172 == 0) = true := beq_iff_eq.mpr c24
                  have c24b1 : (t172 != 0) = false := bne_eq_false_iff_eq.mpr c24
                  clear c24
                  replace H := Option.bind_eq_some_iff.mp H
                  obtain ⟨t173, A250, H⟩ := H
                  replace H : (some t173) = some r := H
                  have A25 := Aside0.mk A250
                  clear A250
                  obtain rfl := Option.some.inj H
                  go_wp2_with (first | ((with_reducible refine gate_callee (f := 26) rfl ?_); refine goesL_ (some 81) rfl rfl Try.func26 (by kernel_rfl) rfl #[.int .i64 t157] rfl (by (try simp only [List.map_toArray, List.map_cons, List.map_nil]); first | done | rfl | (simp only [List.length_drop, List.length_take]; rfl)) ?_; (with_reducible refine (word_Bare.calls kj7 t157 t169 t170 _ A19.out).mono ?_); rintro e w26 ⟨rfl, hb⟩; refine ⟨_, rfl, ?_⟩; have n0_ := Aside0.mk (below_step (by repeat (first | (with_reducible first | exact HB.out | apply below_alloc | apply pw_below_drewN | apply below_drew1) | exact HB.out)) hb); clear HB; have HB := n0_; clear n0_; (try clear hb); (try clear hb2); (try clear hk); (try clear hi)) | ((with_reducible refine gate_callee (f := 28) rfl ?_); refine goesL_ (some 86) rfl rfl Try.func28 (by kernel_rfl) rfl #[.int .i64 t157] rfl (by (try simp only [List.map_toArray, List.map_cons, List.map_nil]); first | done | rfl | (simp only [List.length_drop, List.length_take]; rfl)) ?_; (with_reducible refine (word_Marked.calls kj7 t157 true t172 _ A20.out).mono ?_); rintro e w27 ⟨rfl, hb⟩; refine ⟨_, rfl, ?_⟩; have n0_ := Aside0.mk (below_step (by repeat (first | (with_reducible first | exact HB.out | apply below_alloc | apply pw_below_drewN | apply below_drew1) | exact HB.out)) hb); clear HB; have HB := n0_; clear n0_; (try clear hb); (try clear hb2); (try clear hk); (try clear hi)) | ((with_reducible refine gate_callee (f := 9) rfl ?_); refine goesL_ (some 104) rfl rfl Try.func9 (by kernel_rfl) rfl #[] rfl (by (try simp only [List.map_toArray, List.map_cons, List.map_nil]); first | done | rfl | (simp only [List.length_drop, List.length_take]; rfl)) ?_; (with_reducible refine (locklesslaw01_sane.calls kj7  t173 _ A25.out).mono ?_); rintro e w28 ⟨rfl, hb⟩; refine ⟨_, rfl, ?_⟩; have n0_ := Aside0.mk (below_step (by repeat (first | (with_reducible first | exact HB.out | apply below_alloc | apply pw_below_drewN | apply below_drew1) | exact HB.out)) hb); clear HB; have HB := n0_; clear n0_; (try clear hb); (try clear hb2); (try clear hk); (try clear hi)))
                  go_ret
                  exact ⟨by first | rfl | (simp [errW_none, errW_some] <;> rfl) | (simp [*, errW_none, errW_some] <;> rfl), by repeat (first | (with_reducible first | exact HB.out | apply below_alloc | apply pw_below_drewN | apply below_drew1) | exact HB.out)⟩
                · rw [if_neg c24] at H
                  have c24b0 : (t172 == 0) = false := beq_eq_false_iff_ne.mpr c24
                  have c24b1 : (t172 != 0) = true := bne_iff_ne.mpr c24
                  obtain rfl := Option.some.inj H
                  go_wp2_with (first | ((with_reducible refine gate_callee (f := 26) rfl ?_); refine goesL_ (some 81) rfl rfl Try.func26 (by kernel_rfl) rfl #[.int .i64 t157] rfl (by (try simp only [List.map_toArray, List.map_cons, List.map_nil]); first | done | rfl | (simp only [List.length_drop, List.length_take]; rfl)) ?_; (with_reducible refine (word_Bare.calls kj7 t157 t169 t170 _ A19.out).mono ?_); rintro e w29 ⟨rfl, hb⟩; refine ⟨_, rfl, ?_⟩; have n0_ := Aside0.mk (below_step (by repeat (first | (with_reducible first | exact HB.out | apply below_alloc | apply pw_below_drewN | apply below_drew1) | exact HB.out)) hb); clear HB; have HB := n0_; clear n0_; (try clear hb); (try clear hb2); (try clear hk); (try clear hi)) | ((with_reducible refine gate_callee (f := 28) rfl ?_); refine goesL_ (some 86) rfl rfl Try.func28 (by kernel_rfl) rfl #[.int .i64 t157] rfl (by (try simp only [List.map_toArray, List.map_cons, List.map_nil]); first | done | rfl | (simp only [List.length_drop, List.length_take]; rfl)) ?_; (with_reducible refine (word_Marked.calls kj7 t157 true t172 _ A20.out).mono ?_); rintro e w30 ⟨rfl, hb⟩; refine ⟨_, rfl, ?_⟩; have n0_ := Aside0.mk (below_step (by repeat (first | (with_reducible first | exact HB.out | apply below_alloc | apply pw_below_drewN | apply below_drew1) | exact HB.out)) hb); clear HB; have HB := n0_; clear n0_; (try clear hb); (try clear hb2); (try clear hk); (try clear hi)))
                  go_ret
                  exact ⟨by first | rfl | (simp [errW_none, errW_some] <;> rfl) | (simp [*, errW_none, errW_some] <;> rfl), by repeat (first | (with_reducible first | exact HB.out | apply below_alloc | apply pw_below_drewN | apply below_drew1) | exact HB.out)⟩
              · replace c23 := Bool.eq_false_iff.mpr c23
                subst c23
                have H1 : (some false) = some r := by rw [if_neg (show ¬ (false = true) by decide)] at H; exact H
                clear H
                have H := H1
                clear H1
                obtain rfl := Option.some.inj H
                go_wp2_with (first | ((with_reducible refine gate_callee (f := 26) rfl ?_); refine goesL_ (some 81) rfl rfl Try.func26 (by kernel_rfl) rfl #[.int .i64 t157] rfl (by (try simp only [List.map_toArray, List.map_cons, List.map_nil]); first | done | rfl | (simp only [List.length_drop, List.length_take]; rfl)) ?_; (with_reducible refine (word_Bare.calls kj7 t157 t169 t170 _ A19.out).mono ?_); rintro e w31 ⟨rfl, hb⟩; refine ⟨_, rfl, ?_⟩; have n0_ := Aside0.mk (below_step (by repeat (first | (with_reducible first | exact HB.out | apply below_alloc | apply pw_below_drewN | apply below_drew1) | exact HB.out)) hb); clear HB; have HB := n0_; clear n0_; (try clear hb); (try clear hb2); (try clear hk); (try clear hi)) | ((with_reducible refine gate_callee (f := 28) rfl ?_); refine goesL_ (some 86) rfl rfl Try.func28 (by kernel_rfl) rfl #[.int .i64 t157] rfl (by (try simp only [List.map_toArray, List.map_cons, List.map_nil]); first | done | rfl | (simp only [List.length_drop, List.length_take]; rfl)) ?_; (with_reducible refine (word_Marked.calls kj7 t157 false t172 _ A20.out).mono ?_); rintro e w32 ⟨rfl, hb⟩; refine ⟨_, rfl, ?_⟩; have n0_ := Aside0.mk (below_step (by repeat (first | (with_reducible first | exact HB.out | apply below_alloc | apply pw_below_drewN | apply below_drew1) | exact HB.out)) hb); clear HB; have HB := n0_; clear n0_; (try clear hb); (try clear hb2); (try clear hk); (try clear hi)))
                go_ret
                exact ⟨by first | rfl | (simp [errW_none, errW_some] <;> rfl) | (simp [*, errW_none, errW_some] <;> rfl), by repeat (first | (with_reducible first | exact HB.out | apply below_alloc | apply pw_below_drewN | apply below_drew1) | exact HB.out)⟩
            · rw [if_neg c22] at H
              have c22b0 : (t170 == 0) = false := beq_eq_false_iff_ne.mpr c22
              have c22b1 : (t170 != 0) = true := bne_iff_ne.mpr c22
              obtain rfl := Option.some.inj H
              go_wp2_with (first | ((with_reducible refine gate_callee (f := 26) rfl ?_); refine goesL_ (some 81) rfl rfl Try.func26 (by kernel_rfl) rfl #[.int .i64 t157] rfl (by (try simp only [List.map_toArray, List.map_cons, List.map_nil]); first | done | rfl | (simp only [List.length_drop, List.length_take]; rfl)) ?_; (with_reducible refine (word_Bare.calls kj7 t157 t169 t170 _ A19.out).mono ?_); rintro e w33 ⟨rfl, hb⟩; refine ⟨_, rfl, ?_⟩; have n0_ := Aside0.mk (below_step (by repeat (first | (with_reducible first | exact HB.out | apply below_alloc | apply pw_below_drewN | apply below_drew1) | exact HB.out)) hb); clear HB; have HB := n0_; clear n0_; (try clear hb); (try clear hb2); (try clear hk); (try clear hi)) | ((with_reducible refine gate_callee (f := 28) rfl ?_); refine goesL_ (some 86) rfl rfl Try.func28 (by kernel_rfl) rfl #[.int .i64 t157] rfl (by (try simp only [List.map_toArray, List.map_cons, List.map_nil]); first | done | rfl | (simp only [List.length_drop, List.length_take]; rfl)) ?_; (with_reducible refine (word_Marked.calls kj7 t157 t171 t172 _ A20.out).mono ?_); rintro e w34 ⟨rfl, hb⟩; refine ⟨_, rfl, ?_⟩; have n0_ := Aside0.mk (below_step (by repeat (first | (with_reducible first | exact HB.out | apply below_alloc | apply pw_below_drewN | apply below_drew1) | exact HB.out)) hb); clear HB; have HB := n0_; clear n0_; (try clear hb); (try clear hb2); (try clear hk); (try clear hi)))
              go_ret
              exact ⟨by first | rfl | (simp [errW_none, errW_some] <;> rfl) | (simp [*, errW_none, errW_some] <;> rfl), by repeat (first | (with_reducible first | exact HB.out | apply below_alloc | apply pw_below_drewN | apply below_drew1) | exact HB.out)⟩
          · rw [if_neg c21] at H
            have c21b0 : (t169 == a0) = false := beq_eq_false_iff_ne.mpr c21
            have c21b1 : (t169 != a0) = true := bne_iff_ne.mpr c21
            obtain rfl := Option.some.inj H
            go_wp2_with (first | ((with_reducible refine gate_callee (f := 26) rfl ?_); refine goesL_ (some 81) rfl rfl Try.func26 (by kernel_rfl) rfl #[.int .i64 t157] rfl (by (try simp only [List.map_toArray, List.map_cons, List.map_nil]); first | done | rfl | (simp only [List.length_drop, List.length_take]; rfl)) ?_; (with_reducible refine (word_Bare.calls kj7 t157 t169 t170 _ A19.out).mono ?_); rintro e w35 ⟨rfl, hb⟩; refine ⟨_, rfl, ?_⟩; have n0_ := Aside0.mk (below_step (by repeat (first | (with_reducible first | exact HB.out | apply below_alloc | apply pw_below_drewN | apply below_drew1) | exact HB.out)) hb); clear HB; have HB := n0_; clear n0_; (try clear hb); (try clear hb2); (try clear hk); (try clear hi)) | ((with_reducible refine gate_callee (f := 28) rfl ?_); refine goesL_ (some 86) rfl rfl Try.func28 (by kernel_rfl) rfl #[.int .i64 t157] rfl (by (try simp only [List.map_toArray, List.map_cons, List.map_nil]); first | done | rfl | (simp only [List.length_drop, List.length_take]; rfl)) ?_; (with_reducible refine (word_Marked.calls kj7 t157 t171 t172 _ A20.out).mono ?_); rintro e w36 ⟨rfl, hb⟩; refine ⟨_, rfl, ?_⟩; have n0_ := Aside0.mk (below_step (by repeat (first | (with_reducible first | exact HB.out | apply below_alloc | apply pw_below_drewN | apply below_drew1) | exact HB.out)) hb); clear HB; have HB := n0_; clear n0_; (try clear hb); (try clear hb2); (try clear hk); (try clear hi)))
            go_ret
            exact ⟨by first | rfl | (simp [errW_none, errW_some] <;> rfl) | (simp [*, errW_none, errW_some] <;> rfl), by repeat (first | (with_reducible first | exact HB.out | apply below_alloc | apply pw_below_drewN | apply below_drew1) | exact HB.out)⟩
        · rw [if_neg c18] at H
          have c18b0 : (t158 == 0) = false := beq_eq_false_iff_ne.mpr c18
          have c18b1 : (t158 != 0) = true := bne_iff_ne.mpr c18
          replace H := Option.bind_eq_some_iff.mp H
          obtain ⟨t174, A370, H⟩ := H
          replace H : (some t174) = some r := H
          have A37 := Aside0.mk A370
          clear A370
          obtain rfl := Option.some.inj H
          go_wp2_with (first | ((with_reducible refine gate_callee (f := 9) rfl ?_); refine goesL_ (some 104) rfl rfl Try.func9 (by kernel_rfl) rfl #[] rfl (by (try simp only [List.map_toArray, List.map_cons, List.map_nil]); first | done | rfl | (simp only [List.length_drop, List.length_take]; rfl)) ?_; (with_reducible refine (locklesslaw01_sane.calls kj7  t174 _ A37.out).mono ?_); rintro e w38 ⟨rfl, hb⟩; refine ⟨_, rfl, ?_⟩; have n0_ := Aside0.mk (below_step (by repeat (first | (with_reducible first | exact HB.out | apply below_alloc | apply pw_below_drewN | apply below_drew1) | exact HB.out)) hb); clear HB; have HB := n0_; clear n0_; (try clear hb); (try clear hb2); (try clear hk); (try clear hi)))
          go_ret
          exact ⟨by first | rfl | (simp [errW_none, errW_some] <;> rfl) | (simp [*, errW_none, errW_some] <;> rfl), by repeat (first | (with_reducible first | exact HB.out | apply below_alloc | apply pw_below_drewN | apply below_drew1) | exact HB.out)⟩

/-- THE ONE PURE STATEMENT of locklesslaw01_WordMarks: yours. -/
def locklesslaw01_WordMarks.Pure : Prop := ∀ (a0 : Int), (Lit.int .i64 a0).wf = true → ∃ k, locklesslaw01_WordMarks.f k a0 = some true
theorem locklesslaw01_WordMarks.walk (P : locklesslaw01_WordMarks.Pure) (a0 : Int) (w : World) (w0 : (Lit.int .i64 a0).wf = true) :
    Calls Try.prog 7 #[.int .i64 a0] w fun e w' => e = .returned (.bool true) ∧ Below w.heap.size w w' := by
  obtain ⟨k, h⟩ := P a0 w0
  refine (locklesslaw01_WordMarks.calls k a0 true w h).mono ?_
  rintro e w' ⟨rfl, hd⟩
  exact ⟨rfl, hd⟩

end Go.Proofs.Ytmdkneiicfffbaa.PWordMarks
