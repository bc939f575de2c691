/-
  With nobody inside nothing waits: the walk of the law.
-/
import Derived.Test.YtiokifkppfegfaaLaws0
set_option linter.unusedVariables false
set_option linter.unusedSimpArgs false
namespace Go.Proofs.Ytiokifkppfegfaa
open Go.RowKit Mem Qm
set_option maxRecDepth 100000
theorem swept_met (q : Q) : ∀ x ∈ q.swept.ws, q.swept.met x = true := fun x hx => (List.mem_filter.1 hx).2
theorem nil_of_met {q : Q} (h : Empty q) (hm : ∀ x ∈ q.ws, q.met x = true) : q.ws = [] := by
  cases hw : q.ws with
  | nil => rfl
  | cons x t =>
    have := hm x (by rw [hw]; simp)
    rw [met_empty h] at this
    cases this
set_option maxHeartbeats 1000000 in
theorem empties_walk {w : World} {n : Int} {u : Value} {ds : List Deed} (hd : RdD w u ds) :
    Calls Try.prog 4 #[.int .i64 n, u] w (Tells w true) := by
  obtain ⟨A, c, rfl, hc1, hc2⟩ := hd.shape
  have Hd := Lib.hid hd
  clear hd
  by_cases hl : ds.length ≤ 200
  · by_cases hn : 1 ≤ n ∧ n ≤ 4
    · obtain ⟨n0, n4⟩ := hn
      go_enter Try.func4, Try.ntmps4
      go_wp2_with fail
      refine (played_yes n0 n4 Hd.out (by omega)).mono ?_
      rintro e w1 ⟨g, b, v1, rfl, h1, b1⟩
      have hN := run_n (q0 n) ds
      have hI := inv_run (inv_q0 n4) ds
      have hG := (run_good (good_q0 n4) ds Hd.out.wf).mono (show 0 + ds.length ≤ 200 by omega)
      generalize runQ (q0 n) ds = q1 at h1 hN hI hG
      have hN' : q1.n = n := hN
      clear hN
      have HN := Lib.hid hN'
      have HI := Lib.hid hI
      have HG := Lib.hid hG
      clear hN' hI hG
      go_wp2_with fail
      go_loopw [6] (fun i wr => ∃ (k : Nat) (v : Value) (q : Q), (k : Int) ≤ n ∧ i = .int .i64 k ∧ IsS wr w.heap.size g b v q ∧ Hid (q.n = n) ∧ Hid (Inv q) ∧ Hid (Good q 200) ∧ Hid (∀ j : Int, 0 ≤ j → j < k → (q.get j).i = false) ∧ Hid (k = 0 ∨ ∀ x ∈ q.ws, q.met x = true) ∧ Below w.heap.size w wr) (fun i _ => (n - intOf i).toNat)
      case atStart => exact ⟨0, v1, q1, by omega, rfl, h1, HN.out, HI.out, HG.out, fun j h0 h1 => absurd h1 (by omega), .inl rfl, b1⟩
      case round =>
        clear h1 b1
        obtain ⟨k, v, q, hk, rfl, h, hqn, hinv, hgd, hgone, hmet, hbel⟩ := hrel
        have hsz := hbel.size
        have HB := Lib.hid hbel
        clear hbel
        by_cases hlt : (k : Int) < n
        · have hok := Lib.hid (show q.ok (k : Int) from ⟨by omega, by rw [hqn.out]; exact hlt⟩)
          go_wp2_with (go_at_call 16; refine (out_yes h _ hok.out hgd.out.n4 hsz (by have := hgd.out.len; omega) hgd.out.wf).mono ?_; rintro e w' ⟨u', v', rfl, ho, hi, hk2, hm2⟩)
          go_roundw
          case measure => simp [intOf]; omega
          case rel =>
            refine ⟨k + 1, v', _, by omega, by go_num, hi, hqn, inv_out hinv.out hok.out, good_swept (good_put hgd.out _ _), ?_, .inr (swept_met _), HB.out.trans (hk2.below hsz h.foot_lo)⟩
            intro j hj hjt
            rw [out_get ⟨by omega, by omega⟩ ⟨hj, by omega⟩]
            split
            · rfl
            · exact hgone.out j hj (by omega)
        · have hemp : Empty q := fun i i0 i4 => by
            by_cases hin : i < n
            · exact hgone.out i i0 (by omega)
            · exact hinv.out.out i (by rw [hqn.out]; omega) i0 i4
          have hws := nil_of_met hemp (hmet.out.resolve_left (by omega))
          have HOK := Lib.hid (show q.ok 0 from ⟨Int.le_refl 0, by rw [hqn.out]; omega⟩)
          have hempA : Empty (q.add 2) := hemp
          have HR := Lib.hid (show retQ q 0 2 = ((q.add 2).swept, [2], 0) by
            unfold retQ
            rw [if_pos ⟨HOK.out, by decide⟩, hws]
            simp only [addrs, hasB, List.map_nil, List.any_nil]
            rw [if_neg (by decide), backs_empty hempA]
            simp [Q.add, hws, addrs])
          have HRW := Lib.hid (show (q.add 2).swept.ws = [] from lefts_empty hempA _)
          have HW := Lib.hid hws
          have W2 := Lib.hid (show Wf 2 from wf_of (by decide) (by decide))
          clear hws hemp hempA
          go_wp2_with fail
          have ct := waiting_yes h HOK.out (by have := hgd.out.len; omega)
          rw [HW.out] at ct
          refine ct.mono ?_
          rintro e w4 ⟨u4, rfl, o4, b4⟩
          obtain ⟨A4, c4, rfl, _, _⟩ := Row.shape o4
          have h4 := h.below b4
          have b5 := Lib.hid (HB.out.trans (b4.mono hsz))
          have s5 := b5.out.size
          clear ct h b4 o4
          go_wp2_with fail
          have ct := ret_did h4 hgd.out (by omega) s5 0 2 W2.out
          rw [HR.out] at ct
          refine ct.mono ?_
          rintro e w5 ⟨u5, v5, rfl, o5, h5, k5, m5⟩
          have b6 := Lib.hid (b5.out.trans (k5.below s5 h4.foot_lo))
          have s6 := b6.out.size
          clear ct h4 k5 m5
          go_wp2_with fail
          refine (ints_any (Row.rd (World.ownsRow.alloc o5 _)) (one_rd w5 2)).mono ?_
          rintro e w6 ⟨rfl, b7⟩
          rw [show decide (([2] : List Int) = [2]) = true from decide_eq_true rfl]
          have h6 := (h5.below ((Below.refl _ w5).alloc (Nat.le_refl _) _)).below b7
          have b8 := Lib.hid ((b6.out.alloc s6 _).trans (b7.mono (by simp; omega)))
          have s8 := b8.out.size
          have HOK2 := Lib.hid (show (q.add 2).swept.ok 0 from HOK.out)
          clear h5 b7 o5
          go_wp2_with fail
          have ct := waiting_yes h6 HOK2.out (by rw [HRW.out]; decide)
          rw [HRW.out] at ct
          refine ct.mono ?_
          rintro e w7 ⟨u7, rfl, o7, b9⟩
          obtain ⟨A7, c7, rfl, _, _⟩ := Row.shape o7
          have b10 := Lib.hid (b8.out.trans (b9.mono s8))
          have s10 := b10.out.size
          clear ct h6 b9 o7
          go_wp2_with (go_at_call 10; refine (sane_any _).mono ?_; rintro e w8 ⟨rfl, b11⟩)
          go_ret
          exact ⟨rfl, b10.out.trans (b11.mono s10)⟩
    · have Hn := Lib.hid hn
      clear hn
      go_enter Try.func4, Try.ntmps4
      go_wp2_with fail
      refine (played_no Hn.out Hd.out).mono ?_
      rintro e w1 ⟨rfl, rfl⟩
      go_wp2_with (go_at_call 10; refine (sane_any _).mono ?_; rintro e w6 ⟨rfl, b7⟩)
      go_ret
      exact ⟨rfl, b7⟩
  · go_enter Try.func4, Try.ntmps4
    go_wp2_with (go_at_call 10; refine (sane_any _).mono ?_; rintro e w6 ⟨rfl, b7⟩)
    go_ret
    exact ⟨rfl, b7⟩
end Go.Proofs.Ytiokifkppfegfaa
