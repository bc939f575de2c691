/-
  A thread that enters behind a retirement is never waited for: behind any deeds, when one thread leaves and comes in again, and all others go out, nothing waits: the walk of the law.
-/
import Derived.Test.YtdgkdfblgeobmaaLaws0
set_option linter.unusedVariables false
set_option linter.unusedSimpArgs false
namespace Go.Proofs.Ytdgkdfblgeobmaa
open Go.RowKit Mem Qm
set_option maxRecDepth 100000
set_option maxHeartbeats 1000000 in
theorem later_walk {w : World} {n t : Int} {u : Value} {ds : List Deed} (hd : RdD w u ds) :
    Calls Try.prog 4 #[.int .i64 n, u, .int .i64 t] w (Tells w true) := by
  obtain ⟨A, c, rfl, hc1, hc2⟩ := hd.shape
  have Hd := Lib.hid hd
  clear hd
  by_cases hl : ds.length ≤ 200
  · by_cases hn : 1 ≤ n ∧ n ≤ 4
    · obtain ⟨n0, n4⟩ := hn
      by_cases ht : 0 ≤ t ∧ t < n
      · obtain ⟨t0, tn⟩ := ht
        go_enter Try.func4, Try.ntmps4
        go_wp2_with fail
        refine (played_yes n0 n4 Hd.out (by omega)).mono ?_
        rintro e w1 ⟨g, v1, rfl, h1, b1⟩
        have s1 := b1.size
        have hN := run_n (q0 n) ds
        have hI := inv_run (inv_q0 n) ds
        have hL : (runQ (q0 n) ds).ws.length ≤ 200 := by have := run_len (q0 n) ds; simp [q0] at this; simp [q0]; omega
        generalize runQ (q0 n) ds = q1 at h1 hN hI hL
        have hN' : q1.n = n := hN
        clear hN
        have HN := Lib.hid hN'
        have hok1 := Lib.hid (show q1.ok t from ⟨t0, by rw [hN']; exact tn⟩)
        have h41 : q1.n ≤ 4 := by rw [hN']; exact n4
        have HI := Lib.hid hI
        clear hN' hI
        go_wp2_with fail
        refine (out_yes h1 t hok1.out h41 s1 (by omega)).mono ?_
        rintro e w2 ⟨u2, v2, rfl, o2, h2, k2, m2⟩
        have b2 := Lib.hid (b1.trans (k2.below s1 h1.foot_lo))
        have s2 := b2.out.size
        clear h1 k2 b1 o2
        have hok2 := Lib.hid (show (q1.out t).ok t from hok1.out)
        go_wp2_with fail
        refine (in_yes h2 t hok2.out h41).mono ?_
        rintro e w3 ⟨rfl, h3, k3⟩
        have b3 := Lib.hid (b2.out.trans (k3.below s2 h2.foot_lo))
        have s3 := b3.out.size
        clear h2 k3
        go_wp2_with fail
        go_loopw [8] (fun i wr => ∃ (k : Nat) (v : Value) (q : Q), (k : Int) ≤ n ∧ i = .int .i64 k ∧ Is wr w.heap.size g v q ∧ Hid (q.n = n) ∧ Inv q ∧ q.ws.length ≤ 200 ∧ Hid (∀ j : Int, 0 ≤ j → (j < k ∨ j = t) → Gone q j) ∧ Below w.heap.size w wr) (fun i _ => (n - intOf i).toNat)
        case atStart =>
          refine ⟨0, v2, _, by omega, rfl, h3, HN.out, inv_in (inv_out HI.out hok1.out) hok2.out, by have := out_len q1 t; simp only [Q.in_]; omega, ?_, b3.out⟩
          intro j hj hjt
          have hjt' : j = t := by omega
          exact fun x hx => gone_out (q := q1) (.inl ⟨hjt', by omega, by omega⟩) x hx
        case round =>
          clear h3
          obtain ⟨k, v, q, hk, rfl, h, hqn, hinv, hql, hgone, hbel⟩ := hrel
          have hsz := hbel.size
          have HB := Lib.hid hbel
          have HV := Lib.hid hinv
          have hq4 : q.n ≤ 4 := by rw [hqn.out]; exact n4
          clear hbel hinv
          by_cases hlt : (k : Int) < n
          · by_cases hkt : (k : Int) = t
            · have e1 : ((k : Int) != t) = false := by simp [hkt]
              have e2 : ((k : Int) == t) = true := by simp [hkt]
              have HKT := Lib.hid hkt
              clear hkt
              go_wp2
              go_roundw
              case measure => simp [intOf]; omega
              case rel => exact ⟨k + 1, v, q, by omega, by go_num, h, hqn, HV.out, hql, fun j hj hjt => hgone.out j hj (by have := HKT.out; omega), HB.out⟩
            · have e1 : ((k : Int) != t) = true := by simp [hkt]
              have e2 : ((k : Int) == t) = false := by simp [hkt]
              have HKT := Lib.hid hkt
              have hok := Lib.hid (show q.ok (k : Int) from ⟨by omega, by rw [hqn.out]; exact hlt⟩)
              clear hkt
              go_wp2_with (go_at_call 17; refine (out_yes h _ hok.out hq4 hsz (by omega)).mono ?_; rintro e w' ⟨u', v', rfl, ho, hi, hk2, hm2⟩)
              go_roundw
              case measure => simp [intOf]; omega
              case rel =>
                refine ⟨k + 1, v', _, by omega, by go_num, hi, hqn, inv_out HV.out hok.out, by have := out_len q (k : Int); omega, ?_, HB.out.trans (hk2.below hsz h.foot_lo)⟩
                intro j hj hjt
                refine gone_out ?_
                by_cases e : j = (k : Int)
                · exact .inl ⟨e, hj, by omega⟩
                · exact .inr (hgone.out j hj (by omega))
          · have hws := gone_all HV.out (fun i h0 h1 => hgone.out i h0 (.inl (by rw [hqn.out] at h1; omega)))
            have hok0 : q.ok 0 := ⟨Int.le_refl 0, by rw [hqn.out]; omega⟩
            have HOK := Lib.hid hok0
            have HW := Lib.hid hws
            clear hws hok0
            go_wp2_with fail
            have ct := waiting_yes h HOK.out (by omega)
            rw [HW.out] at ct
            refine ct.mono ?_
            rintro e w4 ⟨u4, rfl, o4, b4⟩
            obtain ⟨A4, c4, rfl, _, _⟩ := Row.shape o4
            have h4 := h.below b4
            have b5 := Lib.hid (HB.out.trans (b4.mono hsz))
            have s5 := b5.out.size
            clear ct h b4 o4
            go_wp2_with fail
            have ct := for_yes h4 100 HOK.out (by omega)
            rw [HW.out] at ct
            refine ct.mono ?_
            rintro e w5 ⟨u5, rfl, o5, b5'⟩
            obtain ⟨A5, c5, rfl, _, _⟩ := Row.shape o5
            have b6 := Lib.hid (b5.out.trans (b5'.mono s5))
            have s6 := b6.out.size
            clear ct h4 b5' o5
            go_wp2_with fail
            refine (sane_any _).mono ?_
            rintro e w6 ⟨rfl, b7⟩
            have b8 := Lib.hid (b6.out.trans (b7.mono s6))
            clear b7
            go_wp2
            go_ret
            exact ⟨rfl, b8.out⟩
      · go_enter Try.func4, Try.ntmps4
        go_wp2_with fail
        refine (played_yes n0 n4 Hd.out (by omega)).mono ?_
        rintro e w1 ⟨g, v1, rfl, h1, b1⟩
        have s1 := b1.size
        clear h1
        by_cases t0 : 0 ≤ t
        · have tn : ¬ t < n := fun h => ht ⟨t0, h⟩
          clear ht
          go_wp2_with (go_at_call 10; refine (sane_any _).mono ?_; rintro e w6 ⟨rfl, b7⟩)
          go_ret
          exact ⟨rfl, b1.trans (b7.mono s1)⟩
        · clear ht
          go_wp2_with (go_at_call 10; refine (sane_any _).mono ?_; rintro e w6 ⟨rfl, b7⟩)
          go_ret
          exact ⟨rfl, b1.trans (b7.mono s1)⟩
    · have Hn := Lib.hid hn
      clear hn
      go_enter Try.func4, Try.ntmps4
      go_wp2_with fail
      refine (played_no Hn.out Hd.out).mono ?_
      rintro e w1 ⟨rfl, rfl⟩
      go_wp2_with (go_at_call 10; refine (sane_any _).mono ?_; rintro e w6 ⟨rfl, b7⟩)
      go_ret
      exact ⟨rfl, b7⟩
  · go_enter Try.func4, Try.ntmps4
    go_wp2_with (go_at_call 10; refine (sane_any _).mono ?_; rintro e w6 ⟨rfl, b7⟩)
    go_ret
    exact ⟨rfl, b7⟩
end Go.Proofs.Ytdgkdfblgeobmaa
