/-
  A manager that is nil, or was not made, does nothing, whatever is asked: the walk of the law.
-/
import Derived.Test.YtiokifkppfegfaaLaws0
set_option linter.unusedVariables false
set_option linter.unusedSimpArgs false
namespace Go.Proofs.Ytiokifkppfegfaa
open Go.RowKit Mem Qm
set_option maxRecDepth 100000
theorem NoT.below {w w' : World} {p : Value} {t : Int} (h : NoT w p t) (hb : Below w.heap.size w w') : NoT w' p t := by
  rcases h with h | ⟨g, cs, h1, h2, h3⟩ | ⟨B, g, b, v, q, h1, h2, h3⟩
  · exact .inl h
  · exact .inr (.inl ⟨g, cs, h1, h2.below hb, h3⟩)
  · exact .inr (.inr ⟨B, g, b, v, q, h1, h2.below hb, h3⟩)
def nothingE (what : Int) : Int := if 0 ≤ what ∧ what ≤ 4 then 1 else 0
theorem done_nothing {w : World} {p : Value} (h : ∀ t, NoT w p t) (d : Deed) :
    Calls Try.prog 12 #[p, deedV d] w fun e w' => e = res (.slice none 0 0) (nothingE d.what) ∧ Below w.heap.size w w' := by
  have h' : ∀ (o : Obj) t, NoT (w.alloc o) p t := fun o t => (h t).below ((Below.refl _ _).alloc (Nat.le_refl _) o)
  have H := Lib.hid h'
  obtain ⟨what, th, ho, ad⟩ := d
  clear h' h
  simp only [deedV]
  by_cases e0 : what = 0
  · subst e0
    go_enter Try.func12, Try.ntmps12
    go_wp2_with (go_at_call 28; refine (in_no (H.out _ _)).mono ?_; rintro e w' ⟨rfl, rfl⟩)
    go_ret2
    exact ⟨rfl, (Below.refl _ _).alloc (Nat.le_refl _) _⟩
  · by_cases e1 : what = 1
    · subst e1
      go_enter Try.func12, Try.ntmps12
      go_wp2_with (go_at_call 16; refine (out_no (H.out _ _)).mono ?_; rintro e w' ⟨rfl, rfl⟩)
      go_ret2
      exact ⟨rfl, (Below.refl _ _).alloc (Nat.le_refl _) _⟩
    · by_cases e2 : what = 2
      · subst e2
        go_enter Try.func12, Try.ntmps12
        go_wp2_with (go_at_call 30; refine (hold_no (H.out _ _)).mono ?_; rintro e w' ⟨rfl, rfl⟩)
        go_ret2
        exact ⟨rfl, (Below.refl _ _).alloc (Nat.le_refl _) _⟩
      · by_cases e3 : what = 3
        · subst e3
          go_enter Try.func12, Try.ntmps12
          go_wp2_with (go_at_call 19; refine (born_no (H.out _ _)).mono ?_; rintro e w' ⟨rfl, rfl⟩)
          go_ret2
          exact ⟨rfl, (Below.refl _ _).alloc (Nat.le_refl _) _⟩
        · by_cases e4 : what = 4
          · subst e4
            go_enter Try.func12, Try.ntmps12
            go_wp2_with (go_at_call 17; refine (retire_no (H.out _ _)).mono ?_; rintro e w' ⟨rfl, rfl⟩)
            go_ret2
            exact ⟨rfl, (Below.refl _ _).alloc (Nat.le_refl _) _⟩
          · have hE := Lib.hid (show nothingE what = 0 by unfold nothingE; rw [if_neg (by omega)])
            by_cases e5 : what = 5
            · subst e5
              go_enter Try.func12, Try.ntmps12
              go_wp2_with (go_at_call 27; refine (rest_no (H.out _ _)).mono ?_; rintro e w' ⟨rfl, rfl⟩)
              go_ret2
              exact ⟨rfl, (Below.refl _ _).alloc (Nat.le_refl _) _⟩
            · have b0 : (what == 0) = false := beq_eq_false_iff_ne.2 e0
              have b1 : (what == 1) = false := beq_eq_false_iff_ne.2 e1
              have b2 : (what == 2) = false := beq_eq_false_iff_ne.2 e2
              have b3 : (what == 3) = false := beq_eq_false_iff_ne.2 e3
              have b4 : (what == 4) = false := beq_eq_false_iff_ne.2 e4
              have b5 : (what == 5) = false := beq_eq_false_iff_ne.2 e5
              clear e0 e1 e2 e3 e4 e5
              go_enter Try.func12, Try.ntmps12
              go_wp2
              go_ret2
              exact ⟨by rw [hE.out]; rfl, (Below.refl _ _).alloc (Nat.le_refl _) _⟩
/-- A manager that was not made. -/
def zs : List Value := [.bool false, .int .i64 0, .int .i64 0, .int .i64 0, .int .i64 0, .int .i64 0]
def zq : List Value := [.int .i64 0, .int .i64 0] ++ (zs ++ (zs ++ (zs ++ (zs ++ [.map none, .slice none 0 0]))))
theorem zero_not {w : World} {g : Nat} (h : Blk w g 65 zq) (t : Int) : NoT w (.pointer (some ⟨g, 0, none⟩)) t := .inr (.inl ⟨g, zq, rfl, h, rfl⟩)
set_option maxHeartbeats 1000000 in
theorem nothing_walk {w : World} {d : Deed} : Calls Try.prog 9 #[deedV d] w (Tells w true) := by
  simp only [deedV]
  go_enter Try.func9, Try.ntmps9
  go_wp2_with fail
  have hb0 := Blk.new w 31 [.int .i64 d.what, .int .i64 d.th, .int .i64 d.ho, .int .i64 d.ad]
  have hz0 := Blk.new (w.alloc (.cells #[.int .i64 d.what, .int .i64 d.th, .int .i64 d.ho, .int .i64 d.ad] 31)) 65 zq
  go_loopw [5] (fun i wr => ∃ k : Nat, k ≤ 2 ∧ i = .int .i64 k ∧ Blk wr (w.heap.size + 1) 65 zq ∧ Blk wr w.heap.size 31 [.int .i64 d.what, .int .i64 d.th, .int .i64 d.ho, .int .i64 d.ad] ∧ Below w.heap.size w wr) (fun i _ => 2 - (intOf i).toNat)
  case atStart =>
    refine ⟨0, by omega, rfl, (by have h9 := hz0; rw [show (w.alloc (.cells #[.int .i64 d.what, .int .i64 d.th, .int .i64 d.ho, .int .i64 d.ad] 31)).heap.size = w.heap.size + 1 by simp] at h9; exact h9), hb0.alloc _, ((Below.refl _ w).alloc (Nat.le_refl _) _).alloc (by simp) _⟩
  case round =>
    clear hb0 hz0
    obtain ⟨k, hk, rfl, hz, hbx, hbel⟩ := hrel
    have hsz := hbel.size
    have d0 := hbx.cell 0 rfl
    have d1 := hbx.cell 1 rfl
    have d2 := hbx.cell 2 rfl
    have d3 := hbx.cell 3 rfl
    have HB := Lib.hid hbel
    have HX := Lib.hid hbx
    have HZ := Lib.hid hz
    clear hbel hbx hz
    by_cases hk2 : k < 2
    · obtain ⟨p, hp, hnot⟩ : ∃ p, p = (if k = 1 then Value.pointer (some ⟨w.heap.size + 1, 0, none⟩) else .pointer none) ∧ ∀ t, NoT wr p t := by
        refine ⟨_, rfl, fun t => ?_⟩
        split
        · exact zero_not HZ.out t
        · exact .inl rfl
      have Hn := Lib.hid hnot
      clear hnot
      have hcases : k = 0 ∨ k = 1 := by omega
      have HD := Lib.hid (show ∀ w', Below wr.heap.size wr w' → Below w.heap.size w w' from fun w' hb => HB.out.trans (hb.mono hsz))
      rcases hcases with rfl | rfl
      all_goals
        subst hp
        go_wp2_with fail
        have ct := done_nothing Hn.out d
        refine ct.mono ?_
        rintro e w1 ⟨rfl, b1⟩
        have c0 := (HX.out.below b1).cell 0 rfl
        have H1 := Lib.hid b1
        have s1 := b1.size
        clear ct b1 d0 d1 d2 d3
        by_cases hr : 0 ≤ d.what ∧ d.what ≤ 4
        · have hE : nothingE d.what = 1 := if_pos hr
          rw [hE]
          obtain ⟨r0, r1⟩ := hr
          clear hE
          go_wp2_with fail
          refine (waiting_no ((Hn.out 0).below H1.out)).mono ?_
          rintro e w2 ⟨rfl, rfl⟩
          go_wp2_with fail
          refine (rest_no ((Hn.out 0).below H1.out)).mono ?_
          rintro e w2 ⟨rfl, rfl⟩
          go_wp2_with fail
          refine (copy_no ((Hn.out 0).below H1.out)).mono ?_
          rintro e w2 ⟨rfl, rfl⟩
          go_wp2
          first
            | exact ⟨⟨1, by decide, rfl, HZ.out.below H1.out, HX.out.below H1.out, HD.out _ H1.out⟩, by simp [intOf]⟩
            | exact ⟨⟨2, by decide, rfl, HZ.out.below H1.out, HX.out.below H1.out, HD.out _ H1.out⟩, by simp [intOf]⟩
        · have hE : nothingE d.what = 0 := if_neg hr
          rw [hE]
          clear hE
          by_cases r0 : 0 ≤ d.what
          · have r1 : ¬ d.what ≤ 4 := fun h => hr ⟨r0, h⟩
            clear hr
            go_wp2_with fail
            refine (waiting_no ((Hn.out 0).below H1.out)).mono ?_
            rintro e w2 ⟨rfl, rfl⟩
            go_wp2_with fail
            refine (rest_no ((Hn.out 0).below H1.out)).mono ?_
            rintro e w2 ⟨rfl, rfl⟩
            go_wp2_with fail
            refine (copy_no ((Hn.out 0).below H1.out)).mono ?_
            rintro e w2 ⟨rfl, rfl⟩
            go_wp2
            first
              | exact ⟨⟨1, by decide, rfl, HZ.out.below H1.out, HX.out.below H1.out, HD.out _ H1.out⟩, by simp [intOf]⟩
              | exact ⟨⟨2, by decide, rfl, HZ.out.below H1.out, HX.out.below H1.out, HD.out _ H1.out⟩, by simp [intOf]⟩
          · clear hr
            go_wp2_with fail
            refine (waiting_no ((Hn.out 0).below H1.out)).mono ?_
            rintro e w2 ⟨rfl, rfl⟩
            go_wp2_with fail
            refine (rest_no ((Hn.out 0).below H1.out)).mono ?_
            rintro e w2 ⟨rfl, rfl⟩
            go_wp2_with fail
            refine (copy_no ((Hn.out 0).below H1.out)).mono ?_
            rintro e w2 ⟨rfl, rfl⟩
            go_wp2
            first
              | exact ⟨⟨1, by decide, rfl, HZ.out.below H1.out, HX.out.below H1.out, HD.out _ H1.out⟩, by simp [intOf]⟩
              | exact ⟨⟨2, by decide, rfl, HZ.out.below H1.out, HX.out.below H1.out, HD.out _ H1.out⟩, by simp [intOf]⟩
    · obtain rfl : k = 2 := by omega
      go_wp2_with (go_at_call 10; refine (sane_any _).mono ?_; rintro e w6 ⟨rfl, b7⟩)
      go_ret
      exact ⟨rfl, HB.out.trans (b7.mono hsz)⟩
end Go.Proofs.Ytiokifkppfegfaa
