/-
  With nobody inside what is retired is given back at once: the walk of the law.
-/
import Derived.Test.YtdgkdfblgeobmaaLaws0
set_option linter.unusedVariables false
set_option linter.unusedSimpArgs false
namespace Go.Proofs.Ytdgkdfblgeobmaa
open Go.RowKit Mem Qm
set_option maxRecDepth 100000
set_option maxHeartbeats 1000000 in
theorem empties_walk {w : World} {n a : Int} {u : Value} {ds : List Deed} (hd : RdD w u ds) :
    Calls Try.prog 5 #[.int .i64 n, u, .int .i64 a] w (Tells w true) := by
  obtain ⟨A, c, rfl, hc1, hc2⟩ := hd.shape
  have Hd := Lib.hid hd
  clear hd
  by_cases hl : ds.length ≤ 200
  · by_cases hn : 1 ≤ n ∧ n ≤ 4
    · obtain ⟨n0, n4⟩ := hn
      go_enter Try.func5, Try.ntmps5
      go_wp2_with fail
      refine (played_yes n0 n4 Hd.out (by omega)).mono ?_
      rintro e w1 ⟨g, v1, rfl, h1, b1⟩
      have hN := run_n (q0 n) ds
      have hI := inv_run (inv_q0 n) ds
      have hL : (runQ (q0 n) ds).ws.length ≤ 200 := by have := run_len (q0 n) ds; simp [q0] at this; simp [q0]; omega
      generalize runQ (q0 n) ds = q1 at h1 hN hI hL
      have hN' : q1.n = n := hN
      clear hN
      have HN := Lib.hid hN'
      have HI := Lib.hid hI
      clear hN' hI
      go_wp2_with fail
      go_loopw [8] (fun i wr => ∃ (k : Nat) (v : Value) (q : Q), (k : Int) ≤ n ∧ i = .int .i64 k ∧ Is wr w.heap.size g v q ∧ Hid (q.n = n) ∧ Inv q ∧ q.ws.length ≤ 200 ∧ Hid (∀ j : Int, 0 ≤ j → j < k → Gone q j ∧ q.ins.get j = false) ∧ Below w.heap.size w wr) (fun i _ => (n - intOf i).toNat)
      case atStart => exact ⟨0, v1, q1, by omega, rfl, h1, HN.out, HI.out, hL, fun j h0 h1 => absurd h1 (by omega), b1⟩
      case round =>
        clear h1 b1
        obtain ⟨k, v, q, hk, rfl, h, hqn, hinv, hql, hgone, hbel⟩ := hrel
        have hsz := hbel.size
        have HB := Lib.hid hbel
        have HV := Lib.hid hinv
        have hq4 : q.n ≤ 4 := by rw [hqn.out]; exact n4
        clear hbel hinv
        by_cases hlt : (k : Int) < n
        · have hok := Lib.hid (show q.ok (k : Int) from ⟨by omega, by rw [hqn.out]; exact hlt⟩)
          go_wp2_with (go_at_call 17; refine (out_yes h _ hok.out hq4 hsz (by omega)).mono ?_; rintro e w' ⟨u', v', rfl, ho, hi, hk2, hm2⟩)
          go_roundw
          case measure => simp [intOf]; omega
          case rel =>
            refine ⟨k + 1, v', _, by omega, by go_num, hi, hqn, inv_out HV.out hok.out, by have := out_len q (k : Int); omega, ?_, HB.out.trans (hk2.below hsz h.foot_lo)⟩
            intro j hj hjt
            by_cases e : j = (k : Int)
            · exact ⟨gone_out (.inl ⟨e, hj, by omega⟩), out_ins (.inl ⟨e, hj, by omega⟩)⟩
            · exact ⟨gone_out (.inr (hgone.out j hj (by omega)).1), out_ins (.inr (hgone.out j hj (by omega)).2)⟩
        · have hws := gone_all HV.out (fun i h0 h1 => (hgone.out i h0 (by rw [hqn.out] at h1; omega)).1)
          have hno := ins_no HV.out (fun i h0 h1 => (hgone.out i h0 (by rw [hqn.out] at h1; omega)).2)
          have HOK := Lib.hid (show q.ok 0 from ⟨Int.le_refl 0, by rw [hqn.out]; omega⟩)
          have HOKn := Lib.hid (show q.ok (n - 1) from ⟨by omega, by rw [hqn.out]; omega⟩)
          have HR := Lib.hid (show retQ q (n - 1) a = if 0 < a then (q.ret a, [a], 0) else (q, [], 1) by
            unfold retQ
            by_cases ha : 0 < a
            · rw [if_pos ⟨HOKn.out, ha⟩, if_pos ha, hws]
              simp only [addrs, hasB, List.map_nil, List.any_nil]
              rw [if_neg (by decide)]
              simp [Q.retBack, hws, backs, hno]
            · rw [if_neg (fun h => ha h.2), if_neg ha])
          have HRW := Lib.hid (show (q.ret a).ws = [] by simp [Q.ret, hws, lefts, hno])
          have HW := Lib.hid hws
          clear hws hno
          go_wp2_with fail
          have ct := waiting_yes h HOK.out (by omega)
          rw [HW.out] at ct
          refine ct.mono ?_
          rintro e w4 ⟨u4, rfl, o4, b4⟩
          obtain ⟨A4, c4, rfl, _, _⟩ := Row.shape o4
          have h4 := h.below b4
          have b5 := Lib.hid (HB.out.trans (b4.mono hsz))
          have s5 := b5.out.size
          clear ct h b4 o4
          by_cases ha : 0 < a
          · go_wp2_with fail
            have ct := ret_did h4 s5 (by omega) (n - 1) a
            rw [HR.out, if_pos ha] at ct
            refine ct.mono ?_
            rintro e w5 ⟨u5, v5, rfl, o5, h5, k5, m5⟩
            have b6 := Lib.hid (b5.out.trans (k5.below s5 h4.foot_lo))
            have s6 := b6.out.size
            clear ct h4 k5 m5
            go_wp2_with fail
            refine (ints_any (Row.rd (World.ownsRow.alloc o5 _)) (one_rd w5 a)).mono ?_
            rintro e w6 ⟨rfl, b7⟩
            rw [show decide (([a] : List Int) = [a]) = true from decide_eq_true rfl]
            have h6 := (h5.below ((Below.refl _ w5).alloc (Nat.le_refl _) _)).below b7
            have b8 := Lib.hid ((b6.out.alloc s6 _).trans (b7.mono (by simp; omega)))
            have s8 := b8.out.size
            have HOK2 := Lib.hid (show (q.ret a).ok 0 from HOK.out)
            clear h5 b7 o5
            go_wp2_with fail
            have ct := waiting_yes h6 HOK2.out (by rw [HRW.out]; decide)
            rw [HRW.out] at ct
            refine ct.mono ?_
            rintro e w7 ⟨u7, rfl, o7, b9⟩
            obtain ⟨A7, c7, rfl, _, _⟩ := Row.shape o7
            have b10 := Lib.hid (b8.out.trans (b9.mono s8))
            have s10 := b10.out.size
            clear ct h6 b9 o7
            go_wp2_with (go_at_call 10; refine (sane_any _).mono ?_; rintro e w8 ⟨rfl, b11⟩)
            go_ret
            exact ⟨rfl, b10.out.trans (b11.mono s10)⟩
          · go_wp2_with (go_at_call 10; refine (sane_any _).mono ?_; rintro e w8 ⟨rfl, b11⟩)
            go_ret
            exact ⟨rfl, b5.out.trans (b11.mono s5)⟩
    · have Hn := Lib.hid hn
      clear hn
      go_enter Try.func5, Try.ntmps5
      go_wp2_with fail
      refine (played_no Hn.out Hd.out).mono ?_
      rintro e w1 ⟨rfl, rfl⟩
      go_wp2_with (go_at_call 10; refine (sane_any _).mono ?_; rintro e w6 ⟨rfl, b7⟩)
      go_ret
      exact ⟨rfl, b7⟩
  · go_enter Try.func5, Try.ntmps5
    go_wp2_with (go_at_call 10; refine (sane_any _).mono ?_; rintro e w6 ⟨rfl, b7⟩)
    go_ret
    exact ⟨rfl, b7⟩
end Go.Proofs.Ytdgkdfblgeobmaa
