/-
  The walks of Index, Contains, meets.
-/
import Derived.Test.YtiokifkppfegfaaWalks2
import Derived.Deep.MidRow
set_option linter.unusedVariables false
set_option linter.unusedSimpArgs false
namespace Go.Proofs.Ytiokifkppfegfaa
open Go.RowKit Mem Qm
set_option maxRecDepth 100000

/-- Where a number is first in a list, from k on; -1: nowhere. -/
def idxFrom (x : Int) : Nat → List Int → Int
  | _, [] => -1
  | k, y :: t => if x = y then (k : Int) else idxFrom x (k + 1) t
theorem idxFrom_drop {l : List Int} {k : Nat} (x : Int) (h : k < l.length) : idxFrom x k (l.drop k) = if x = l[k] then (k : Int) else idxFrom x (k + 1) (l.drop (k + 1)) := by
  rw [List.drop_eq_getElem_cons h]; rfl
theorem idxFrom_has (x : Int) : ∀ (l : List Int) (k : Nat), decide (0 ≤ idxFrom x k l) = hasB l x
  | [], _ => rfl
  | y :: t, k => by
    have ih := idxFrom_has x t (k + 1)
    simp only [idxFrom, hasB, List.any_cons] at ih ⊢
    split
    · rename_i h; simp [h]
    · rename_i h; simp [h, ih]
set_option maxHeartbeats 400000 in
theorem index_any {w : World} {v : Value} {l : List Int} {x : Int} (h : Rd w v l.length 1 (ints l)) :
    Calls Try.prog 45 #[v, .int .i64 x] w fun e w' => e = .returned (.int .i64 (idxFrom x 0 l)) ∧ w = w' := by
  obtain ⟨A, c, rfl, hc1, hc2⟩ := h.shape
  have hrd := Lib.hid h
  clear h
  go_enter Try.func45, Try.ntmps45
  go_wp2
  go_loop [8] (fun i => ∃ k : Nat, k ≤ l.length ∧ i = .int .i64 k ∧ idxFrom x 0 l = idxFrom x k (l.drop k)) (fun i => l.length - (intOf i).toNat)
  case atStart => exact ⟨0, Nat.zero_le _, rfl, by rw [List.drop_zero]⟩
  case round =>
    obtain ⟨k, hk, rfl, hi⟩ := hrel
    have Hi := Lib.hid hi
    clear hi
    by_cases hlt : k < l.length
    · obtain ⟨b, off, rfl, hb, hcell⟩ := hrd.out.one hlt
      have d0 := hcell.trans (Qm.ints_at l k hlt)
      clear hcell
      have Hd := Lib.hid (idxFrom_drop x hlt)
      by_cases hx : x = l[k]
      · have hxb : (x == l[k]) = true := beq_iff_eq.2 hx
        have Hx := Lib.hid hx
        clear hx
        go_wp2
        go_ret
        exact ⟨by rw [Hi.out, Hd.out, if_pos Hx.out]; rfl, rfl⟩
      · have hxb : (x == l[k]) = false := beq_eq_false_iff_ne.2 hx
        have Hx := Lib.hid hx
        clear hx
        go_wp2
        go_round
        case measure => simp [intOf]; omega
        case rel => exact ⟨k + 1, by omega, by go_num, by rw [Hi.out, Hd.out, if_neg Hx.out]⟩
    · have hkn : k = l.length := by omega
      have Hkn := Lib.hid hkn
      clear hkn
      go_wp2
      go_ret
      exact ⟨by rw [Hi.out, Hkn.out, List.drop_length]; rfl, rfl⟩
theorem contains_any {w : World} {v : Value} {l : List Int} {x : Int} (h : Rd w v l.length 1 (ints l)) :
    Calls Try.prog 33 #[v, .int .i64 x] w fun e w' => e = .returned (.bool (hasB l x)) ∧ w = w' := by
  have hrd := Lib.hid h
  clear h
  have H := Lib.hid (idxFrom_has x l 0)
  go_enter Try.func33, Try.ntmps33
  go_wp2_with (go_at_call 45; refine (index_any hrd.out).mono ?_; rintro e w' ⟨rfl, rfl⟩)
  go_ret
  exact ⟨by rw [← H.out]; rfl, rfl⟩

theorem contains_same {w : World} {v : Value} {l : List Int} {x : Int} (h : Rd w v l.length 1 (ints l)) :
    Calls Try.prog 33 #[v, .int .i64 x] w fun e w' => e = .returned (.bool (hasB l x)) ∧ w' = w :=
  (contains_any h).mono fun _ _ ⟨h1, h2⟩ => ⟨h1, h2.symm⟩
def metTo (q : Q) (x : Life) : Nat → Bool
  | 0 => false
  | k + 1 => metTo q x k || (q.get k).met x
theorem metTo_all (q : Q) (x : Life) : metTo q x 4 = q.met x := by
  simp only [metTo, Q.met, Q.get, Bool.false_or]
  simp [Bool.or_assoc]
/-- The cells of the threads. -/
def seen (q : Q) : List Value := (sCells q.s0 ++ sCells q.s1) ++ (sCells q.s2 ++ sCells q.s3)
theorem seen_at {w : World} {B g b : Nat} {v : Value} {q : Q} (h : IsS w B g b v q) : w.rangeAt g 2 (seen q) := by
  intro j u hu
  have hj : j < 24 := (List.getElem?_eq_some_iff.1 hu).1
  rw [show 2 + j = j + 2 by omega]
  refine h.blk.cell (j + 2) ?_
  rw [← hu]
  rcases (show j = 0 ∨ j = 1 ∨ j = 2 ∨ j = 3 ∨ j = 4 ∨ j = 5 ∨ j = 6 ∨ j = 7 ∨ j = 8 ∨ j = 9 ∨ j = 10 ∨ j = 11 ∨ j = 12 ∨ j = 13 ∨ j = 14 ∨ j = 15 ∨ j = 16 ∨ j = 17 ∨ j = 18 ∨ j = 19 ∨ j = 20 ∨ j = 21 ∨ j = 22 ∨ j = 23 by omega) with rfl | rfl | rfl | rfl | rfl | rfl | rfl | rfl | rfl | rfl | rfl | rfl | rfl | rfl | rfl | rfl | rfl | rfl | rfl | rfl | rfl | rfl | rfl | rfl <;> rfl
theorem index_seen (q : Q) (k : Nat) (hk : k < 4) (w : World) : (Instr.index 61 (.agg (seen q).toArray) (.int .i64 (k : Int))).run Try.prog w =
    .ok (.agg #[.bool (q.get k).i, .int .i64 (q.get k).lo, .int .i64 (q.get k).hi, .int .i64 (q.get k).h0, .int .i64 (q.get k).h1, .int .i64 (q.get k).h2]) w := by
  rcases (show k = 0 ∨ k = 1 ∨ k = 2 ∨ k = 3 by omega) with rfl | rfl | rfl | rfl <;> kernel_rfl
theorem rd_holds (w : World) (s : Sn) : Rd (w.alloc (.cells #[.bool s.i, .int .i64 s.lo, .int .i64 s.hi, .int .i64 s.h0, .int .i64 s.h1, .int .i64 s.h2] 60)) (.slice (some ⟨w.heap.size, 3, none⟩) 3 3) 3 1 (ints s.holds) := by
  have hb := Blk.new w 60 [.bool s.i, .int .i64 s.lo, .int .i64 s.hi, .int .i64 s.h0, .int .i64 s.h1, .int .i64 s.h2]
  refine ⟨rfl, _, _, rfl, Nat.le_refl _, by simp [maxLen], fun _ => ⟨_, 3, rfl, hb.lt, fun j u hu => ?_⟩⟩
  have hj : j < 3 := (List.getElem?_eq_some_iff.1 hu).1
  refine hb.cell (3 + j) ?_
  rw [← hu]
  rcases (show j = 0 ∨ j = 1 ∨ j = 2 by omega) with rfl | rfl | rfl <;> rfl
theorem met_mono {q : Q} {x : Life} : ∀ {k : Nat} (j : Nat), k ≤ j → metTo q x k = true → metTo q x j = true
  | k, 0, h, hm => by rw [show k = 0 by omega] at hm; exact hm
  | k, j + 1, h, hm => by
    by_cases e : k = j + 1
    · rw [← e]; exact hm
    · simp only [metTo, met_mono j (by omega) hm, Bool.true_or]
theorem met_true {q : Q} {x : Life} {k : Nat} (hk : k ≤ 4) (hk4 : k < 4) (h : metTo q x (k + 1) = true) : q.met x = true := by
  rw [← metTo_all]; exact met_mono 4 (by omega) h
theorem _root_.Go.RowKit.Below.drewN {B : Nat} {a w : World} (h : Below B a w) (n : Nat) : Below B a (w.drewN n) := ⟨h.os, h.tape, h.output, h.size, h.block⟩
set_option maxHeartbeats 1000000 in
theorem meets_any {w : World} {B g b : Nat} {v : Value} {q : Q} (h : IsS w B g b v q) (x : Life) :
    Calls Try.prog 44 #[.pointer (some ⟨g, 0, none⟩), .agg #[.int .i64 x.a, .int .i64 x.b, .int .i64 x.e]] w fun e w' => e = .returned (.bool (q.met x)) ∧ Below w.heap.size w w' := by
  have hlt := h.blk.lt
  have b1 : Below w.heap.size w (w.alloc (.cells #[.int .i64 x.a, .int .i64 x.b, .int .i64 x.e] 71)) := (Below.refl _ _).alloc (Nat.le_refl _) _
  have hX := Lib.hid (Blk.new w 71 [.int .i64 x.a, .int .i64 x.b, .int .i64 x.e])
  have hS := Lib.hid (seen_at (h.below b1))
  have hF := Lib.hid (metTo_all q x)
  have hI := Lib.hid (index_seen q)
  have hB1 := Lib.hid b1
  obtain ⟨CS, hCS⟩ : ∃ CS, seen q = CS := ⟨_, rfl⟩
  rw [hCS] at hS hI
  have hC := Lib.hid (show CS.length = 24 by rw [← hCS]; rfl)
  clear h b1 hCS
  go_enter Try.func44, Try.ntmps44
  go_wp2_with (refine wpList_load_mid rfl 61 (.tmp 9) rfl g 2 rfl CS _ hS.out Try.underlying61 rfl (by rw [hC.out]; kernel_rfl) ?_)
  go_loopw [11] (fun i wr => ∃ k : Nat, k ≤ 4 ∧ i = .int .i64 k ∧ Hid (metTo q x k = false) ∧ Below (w.alloc (.cells #[.int .i64 x.a, .int .i64 x.b, .int .i64 x.e] 71)).heap.size (w.alloc (.cells #[.int .i64 x.a, .int .i64 x.b, .int .i64 x.e] 71)) wr) (fun i _ => 4 - (intOf i).toNat)
  case atStart => exact ⟨0, by omega, rfl, rfl, Below.refl _ _⟩
  case round =>
    obtain ⟨k, hk, rfl, hm, hbel⟩ := hrel
    have HB := Lib.hid hbel
    have X := hX.out.below hbel
    have x0 := X.cell 0 rfl
    have x1 := X.cell 1 rfl
    have x2 := X.cell 2 rfl
    have xl : w.heap.size < wr.heap.size := X.lt
    clear hbel X
    by_cases hlt4 : k < 4
    · have hidx := hI.out k hlt4
      have hms := Lib.hid (show metTo q x (k + 1) = (q.get k).met x by simp only [metTo]; rw [hm.out]; rfl)
      obtain ⟨s, hs⟩ : ∃ s, q.get k = s := ⟨_, rfl⟩
      rw [hs] at hidx hms
      clear hs
      have hr := Lib.hid (rd_holds wr s)
      have hend := Lib.hid (fun (hm' : s.met x = true) => met_true (q := q) (x := x) (k := k) hk hlt4 (by rw [hms.out]; exact hm'))
      cases hsi : s.i with
      | false =>
        rw [hsi] at hidx
        have hmet := Lib.hid (show s.met x = false by simp only [Sn.met, hsi, Bool.false_and])
        clear hsi
        go_wp2_with fail
        go_quiet (fail)
        go_wp2
        go_roundw
        case measure => simp [intOf]; omega
        case rel => exact ⟨k + 1, by omega, by go_num, by rw [hms.out]; exact hmet.out, ((HB.out.alloc HB.out.size _).drewN _)⟩
      | true =>
        rw [hsi] at hidx hr
        have hsm := Lib.hid (show s.met x = ((decide (x.b ≤ s.hi) && decide (s.lo ≤ x.e)) || hasB s.holds x.a) by simp only [Sn.met, hsi, Bool.true_and])
        clear hsi
        by_cases hA : x.b ≤ s.hi
        · have dA : decide (x.b ≤ s.hi) = true := decide_eq_true hA
          by_cases hB : s.lo ≤ x.e
          · have dB : decide (s.lo ≤ x.e) = true := decide_eq_true hB
            have hmet := Lib.hid (show s.met x = true by rw [hsm.out, dA, dB]; rfl)
            go_wp2_with fail
            go_quiet (fail)
            go_wp2
            go_ret
            exact ⟨by rw [hend.out hmet.out]; rfl, hB1.out.trans (((HB.out.alloc HB.out.size _).drewN _).mono (by simp))⟩
          · have dB : decide (s.lo ≤ x.e) = false := decide_eq_false hB
            have hmm := Lib.hid (show s.met x = hasB s.holds x.a by rw [hsm.out, dB, Bool.and_false, Bool.false_or])
            cases hh : hasB s.holds x.a with
            | true =>
              have hmet := Lib.hid (show s.met x = true by rw [hmm.out, hh])
              have hC2 := Lib.hid hh
              clear hh
              go_wp2_with fail
              go_quiet (first | (go_at_call 33; refine Calls.quiet_of_same ((contains_same (l := s.holds) ?_).mono (fun _ _ h9 => ⟨h9.1.trans (by rw [hC2.out]), h9.2⟩)); exact hr.out))
              go_wp2
              go_ret
              exact ⟨by rw [hend.out hmet.out]; rfl, hB1.out.trans (((HB.out.alloc HB.out.size _).drewN _).mono (by simp))⟩
            | false =>
              have hmet := Lib.hid (show s.met x = false by rw [hmm.out, hh])
              have hC2 := Lib.hid hh
              clear hh
              go_wp2_with fail
              go_quiet (first | (go_at_call 33; refine Calls.quiet_of_same ((contains_same (l := s.holds) ?_).mono (fun _ _ h9 => ⟨h9.1.trans (by rw [hC2.out]), h9.2⟩)); exact hr.out))
              go_wp2
              go_roundw
              case measure => simp [intOf]; omega
              case rel => exact ⟨k + 1, by omega, by go_num, by rw [hms.out]; exact hmet.out, ((HB.out.alloc HB.out.size _).drewN _)⟩
        · have dA : decide (x.b ≤ s.hi) = false := decide_eq_false hA
          have hmm := Lib.hid (show s.met x = hasB s.holds x.a by rw [hsm.out, dA, Bool.false_and, Bool.false_or])
          cases hh : hasB s.holds x.a with
          | true =>
            have hmet := Lib.hid (show s.met x = true by rw [hmm.out, hh])
            have hC2 := Lib.hid hh
            clear hh
            go_wp2_with fail
            go_quiet (first | (go_at_call 33; refine Calls.quiet_of_same ((contains_same (l := s.holds) ?_).mono (fun _ _ h9 => ⟨h9.1.trans (by rw [hC2.out]), h9.2⟩)); exact hr.out))
            go_wp2
            go_ret
            exact ⟨by rw [hend.out hmet.out]; rfl, hB1.out.trans (((HB.out.alloc HB.out.size _).drewN _).mono (by simp))⟩
          | false =>
            have hmet := Lib.hid (show s.met x = false by rw [hmm.out, hh])
            have hC2 := Lib.hid hh
            clear hh
            go_wp2_with fail
            go_quiet (first | (go_at_call 33; refine Calls.quiet_of_same ((contains_same (l := s.holds) ?_).mono (fun _ _ h9 => ⟨h9.1.trans (by rw [hC2.out]), h9.2⟩)); exact hr.out))
            go_wp2
            go_roundw
            case measure => simp [intOf]; omega
            case rel => exact ⟨k + 1, by omega, by go_num, by rw [hms.out]; exact hmet.out, ((HB.out.alloc HB.out.size _).drewN _)⟩
    · have hke : k = 4 := by omega
      have hmet := Lib.hid (show q.met x = false by rw [← hF.out, ← hke]; exact hm.out)
      clear hke
      go_wp2
      go_ret
      exact ⟨by rw [hmet.out]; rfl, hB1.out.trans (HB.out.mono (by simp))⟩
end Go.Proofs.Ytiokifkppfegfaa
