/-
  That what nobody holds comes back at once: the walk of the law.
-/
import Derived.Test.YtphahilggfckaaaLaws3
import Derived.Test.YtphahilggfckaaaOpen2
set_option linter.unusedVariables false
set_option linter.unusedSimpArgs false
namespace Go.Proofs.Ytphahilggfckaaa
open Go.RowKit Mem Qm
set_option maxRecDepth 100000

set_option maxHeartbeats 2000000 in
theorem once_walk {w : World} {v : Value} {x : Once} (h : OnceOk w v x) : Calls Try.prog 8 #[v] w (Tells w true) := by
  obtain ⟨th, bs, by_, ad⟩ := x
  obtain ⟨⟨u, rfl, hb⟩, hwf⟩ := h
  obtain ⟨A, c, rfl, hc1, hc2⟩ := hb.shape
  have HBS := Lib.hid hb
  have HWF := Lib.hid hwf
  clear hb hwf
  go_enter Try.func8, Try.ntmps8
  go_wp2_with fail
  go_quiet (fail)
  go_wp2_with fail
  refine (awake_any _).mono ?_
  rintro e w1 ⟨rfl, b1⟩
  have bA : Below w.heap.size w (w.alloc (.cells #[.int .i64 th, .slice A bs.length c, .int .i64 by_, .int .i64 ad] 63)) := (Below.refl _ _).alloc (Nat.le_refl _) _
  have HB1 := Lib.hid ((bA.drewN _).trans (b1.mono (by simp)))
  have HBS1 := Lib.hid (HBS.out.below HB1.out)
  have s1 := HB1.out.size
  clear b1 bA
  go_wp2_with fail
  refine (made_any HBS1.out).mono ?_
  rintro e w2 ⟨m, g, gh, b, B, N, vv, mv, q, bl, its, CS, h0, h1, rfl, hC, hCS, hB1, hB2, hi, hV, hN, hG, hNN, hInv, hn, b2⟩
  have HC := Lib.hid hC
  have HI2 := Lib.hid hi
  have HG2 := Lib.hid hG
  have HV2 := Lib.hid hInv
  have HN2 := Lib.hid hn
  have HB2 := Lib.hid (HB1.out.trans (b2.mono s1))
  have s2 := b2.size
  clear hC hCS hi hV hG hNN hInv hn b2
  go_wp2_with (refine wpList_store_new rfl 37 (.tmp 8) (.tmp 42) rfl CS.toArray _ 37 rfl rfl HC.out.inf (by have h9 := HC.out.len; simp [h9]) HC.out.one ?_)
  generalize hW3 : w2.alloc _ = W3
  have hb3 : Below w2.heap.size w2 W3 := by rw [← hW3]; exact (Below.refl _ _).alloc (Nat.le_refl _) _
  have HI3 := Lib.hid (HI2.out.below hb3)
  have HB3 := Lib.hid (HB2.out.trans (hb3.mono (by omega)))
  have s3 := hb3.size
  have HOK := Lib.hid (show q.ok 0 from ⟨Int.le_refl 0, by have := HN2.out; omega⟩)
  have hwl := HG2.out.len
  clear hW3 hb3
  obtain ⟨t0, ht0, hte⟩ := uint_mod by_ h0 h1
  obtain ⟨a, ha5, ha6, hae⟩ := addr_of ad
  rw [hte, hae]
  have HWA := Lib.hid (show Wf a from wf_of (by omega) (by omega))
  have HT := Lib.hid (show q.ok (t0 : Int) from ⟨by omega, by have := HN2.out; omega⟩)
  clear hte hae
  refine (waiting_yes HI3.out HOK.out (by omega)).mono ?_
  rintro e w4 ⟨u4, rfl, ho4, b4⟩
  have HO4 := Lib.hid ho4
  have HI4 := Lib.hid (HI3.out.below b4)
  have HB4 := Lib.hid (HB3.out.trans (b4.mono (by omega)))
  have s4 := b4.size
  clear ho4 b4
  go_wp2_with fail
  refine (count_yes HI4.out HOK.out HWA.out).mono ?_
  rintro e w5 ⟨rfl, rfl⟩
  have hc0 := c_nonneg q a
  by_cases hc : 0 < q.c a
  · go_wp2
    go_ret
    exact ⟨rfl, HB4.out⟩
  · have hcz : q.c a = 0 := by omega
    have HCZ := Lib.hid hcz
    clear hcz
    go_wp2_with fail
    refine (hasl_any (x := a) (Row.rd HO4.out)).mono ?_
    rintro e w5 ⟨rfl, rfl⟩
    rw [hasL_hasB]
    cases hw : hasB q.ws a with
    | true =>
      clear hw
      go_wp2
      go_ret
      exact ⟨rfl, HB4.out⟩
    | false =>
      have HW := Lib.hid hw
      clear hw
      have HRF := Lib.hid (ret_free HV2.out HCZ.out HW.out (show 0 < a by omega) HT.out)
      go_wp2_with fail
      clear hc
      refine (ret_did HI4.out HG2.out (by omega) (by omega) (t0 : Int) a HWA.out).mono ?_
      rintro e w5 ⟨u5, v5, N5, rfl, ho5, hi5, hN5, hk5, _⟩
      rw [HRF.out.1] at hi5
      rw [HRF.out.2.1] at ho5
      rw [HRF.out.2.2]
      have HO5 := Lib.hid ho5
      have HI5 := Lib.hid hi5
      have HU5 := Lib.hid (Row.keep HO4.out hk5 (fun i hi hf => by
        have h1 := (Row.at_lt HO4.out hi).1
        have h2 := HI3.out.foot_lt i hf
        omega))
      have HB5 := Lib.hid (HB4.out.trans (hk5.below (by omega) (fun i hi => by have := HI4.out.foot_lo i hi; omega)))
      have s5 := hk5.size
      clear ho5 hi5 hk5
      go_wp2_with fail
      refine (same_any (Row.rd (World.ownsRow.alloc HO5.out _)) (one_rd w5 a)).mono ?_
      rintro e w6 ⟨rfl, b6⟩
      rw [show decide (([a] : List Int) = [a]) = true from decide_eq_true rfl]
      have b56 : Below w5.heap.size w5 w6 := ((Below.refl _ w5).alloc (Nat.le_refl _) _).trans (b6.mono (by simp))
      have HI6 := Lib.hid (HI5.out.below b56)
      have HU6 := Lib.hid (Row.below HU5.out b56)
      have HB6 := Lib.hid (HB5.out.trans (b56.mono HB5.out.size))
      have s6 := b56.size
      clear b6 b56
      go_wp2_with fail
      refine (waiting_yes HI6.out HOK.out (by omega)).mono ?_
      rintro e w7 ⟨u7, rfl, ho7, b7⟩
      have HO7 := Lib.hid ho7
      have HI7 := Lib.hid (HI6.out.below b7)
      have HU7 := Lib.hid (Row.below HU6.out b7)
      have HB7 := Lib.hid (HB6.out.trans (b7.mono HB6.out.size))
      have s7 := b7.size
      clear ho7 b7
      go_wp2_with fail
      refine (same_any (Row.rd HO7.out) (Row.rd HU7.out)).mono ?_
      rintro e w8 ⟨rfl, b8⟩
      rw [show decide (q.ws = q.ws) = true from decide_eq_true rfl]
      have HI8 := Lib.hid (HI7.out.below b8)
      have HB8 := Lib.hid (HB7.out.trans (b8.mono HB7.out.size))
      have s8 := b8.size
      have HG8 := Lib.hid HG2.out
      have HV8 := Lib.hid HV2.out
      have HN8 := Lib.hid HN2.out
      clear b8 HU7 HO7 HI7 HB7 HU6 HI6 HB6 HU5 HO5 HI5 HB5 HRF HW HCZ HO4 HI4 HB4 HI3 HB3 HI2 HB2 HG2 HV2 HN2 HC HT HOK
      have hB8 : B ≤ w8.heap.size := by omega
      have hLO : w.heap.size ≤ B := by omega
      clear s2 s3 s4 s5 s6 s7 s8 hB2
      go_wp2_with fail
      go_loopw [16] (fun i wr => ∃ (k N : Nat) (vv : Value) (q : Q), k ≤ m ∧ i = .int .i64 k ∧ IsC wr B g gh b N vv q ∧ N ≤ 910 + 6 * k ∧ Good q 150 ∧ Inv q ∧ q.n = m ∧ Zero q k ∧ B ≤ wr.heap.size ∧ Below w.heap.size w wr) (fun i _ => m - (intOf i).toNat)
      case atStart => exact ⟨0, N5, _, q, Nat.zero_le _, rfl, HI8.out, by omega, HG8.out, HV8.out, HN8.out, (fun j hj => by omega), hB8, HB8.out⟩
      case round =>
        clear HI8 HG8 HV8 HN8 HB8 hB8
        obtain ⟨k, N, vv, q, hk, rfl, hi, hN, hg, hv, hn, hz, hBr, hbel⟩ := hrel
        have HI := Lib.hid hi
        have HG := Lib.hid hg
        have HV := Lib.hid hv
        have HN := Lib.hid hn
        have HZ := Lib.hid hz
        have HBE := Lib.hid hbel
        have hr0 := hbel.size
        clear hi hg hv hn hz hbel
        by_cases hlt : k < m
        · have HOKk := Lib.hid (show q.ok (k : Int) from ⟨by omega, by have := HN.out; omega⟩)
          have HGo := Lib.hid (good_out HG.out (k : Int))
          have HVo := Lib.hid (inv_out HV.out HOKk.out)
          have HNo := Lib.hid ((out_n q (k : Int)).trans HN.out)
          have HZo := Lib.hid (zero_out HZ.out HI.out.len (by have := HN.out; omega))
          have HQ := Lib.hid (show outQ q (k : Int) = (Q.out q (k : Int), Q.outBack q (k : Int), 0) from if_pos HOKk.out)
          go_wp2_with fail
          have ct := out_did HI.out HG.out (by omega) (by omega) (by omega) (k : Int)
          rw [HQ.out] at ct
          refine ct.mono ?_
          clear ct
          rintro e w6 ⟨u6, v6, N6, rfl, ho6, hi6, hN6, hk6, _⟩
          have HI6 := Lib.hid hi6
          have HB6 := Lib.hid (HBE.out.trans (hk6.below (by omega) (fun i hi => Nat.le_trans hLO (HI.out.foot_lo i hi))))
          have s6 := hk6.size
          clear ho6 hi6 hk6
          go_wp2
          go_roundw
          case measure => simp [intOf]; omega
          case rel => exact ⟨k + 1, N6, v6, _, by omega, by go_num, HI6.out, by omega, HGo.out, HVo.out, HNo.out, HZo.out, by omega, HB6.out⟩
        · have hke : k = m := by omega
          have HWS := Lib.hid (show q.ws = [] from zero_ws (by rw [HN.out, ← hke]; exact HZ.out) HI.out.len HV.out)
          have HS0 := Lib.hid (ha_0 (q := q) (m := m) (a := a) (by omega) HN.out (by rw [HI.out.len, HN.out]) (by rw [← hke]; exact HZ.out) HWS.out)
          have hN2 : N ≤ 940 := by omega
          clear hke HZ HV HWS HN hN
          go_wp2_with fail
          go_loopw [17] (fun i wr => ∃ (k N : Nat) (vv : Value) (q : Q), k ≤ m ∧ i = .int .i64 k ∧ IsC wr B g gh b N vv q ∧ N ≤ 940 + 6 * k ∧ Good q 150 ∧ HA m a k q ∧ B ≤ wr.heap.size ∧ Below w.heap.size w wr) (fun i _ => m - (intOf i).toNat)
          case atStart => exact ⟨0, N, _, q, Nat.zero_le _, rfl, HI.out, by omega, HG.out, HS0.out, hBr, HBE.out⟩
          case round =>
            clear HI HG HS0 HBE hN2 hr0 hBr
            obtain ⟨k, N, vv, q, hk, rfl, hi, hN, hg, hs, hBr, hbel⟩ := hrel
            have HI := Lib.hid hi
            have HG := Lib.hid hg
            have HS := Lib.hid hs
            have HBE := Lib.hid hbel
            have hr0 := hbel.size
            clear hi hg hs hbel
            by_cases hlt : k < m
            · have HST := Lib.hid (ha_step HS.out hlt (show 0 < a by omega))
              have HG1 := Lib.hid (show Good (holdQ q (k : Int) ((k : Int) % 3) a).1 150 by rw [hold_ok HS.out.n hlt (by omega)]; exact good_loose (good_put HG.out _ _ HWA.out))
              go_wp2_with fail
              refine (hold_did HI.out HG.out (by omega) (by omega) (by omega) (k : Int) ((k : Int) % 3) a HWA.out).mono ?_
              rintro e w6 ⟨u6, v6, N6, rfl, ho6, hi6, hN6, hk6, _⟩
              rw [HST.out.2.1] at ho6
              rw [HST.out.2.2]
              obtain ⟨A6, c6, rfl, _, _⟩ := Row.shape ho6
              have HI6 := Lib.hid hi6
              have HB6 := Lib.hid (HBE.out.trans (hk6.below (by omega) (fun i hi => Nat.le_trans hLO (HI.out.foot_lo i hi))))
              have s6 := hk6.size
              clear ho6 hi6 hk6
              go_wp2
              go_roundw
              case measure => simp [intOf]; omega
              case rel => exact ⟨k + 1, N6, v6, _, by omega, by go_num, HI6.out, by omega, HG1.out, HST.out.1, by omega, HB6.out⟩
            · have hke : k = m := by omega
              have HSM := Lib.hid (show HA m a m q by rw [hke] at HS; exact HS.out)
              have HTt := Lib.hid (show q.ok (t0 : Int) from ⟨by omega, by have := HSM.out.n; omega⟩)
              have HRW := Lib.hid (ret_wait HSM.out h0 (show 0 < a by omega) HTt.out)
              have hN2 : N ≤ 970 := by omega
              clear hke HS hN
              go_wp2_with fail
              refine (ret_did HI.out HG.out (by omega) (by omega) (t0 : Int) a HWA.out).mono ?_
              rintro e w6 ⟨u6, v6, N6, rfl, ho6, hi6, hN6, hk6, _⟩
              have HG6 := Lib.hid (show Good (retQ q (t0 : Int) a).1 151 by
                have := good_step HG.out (d := ⟨4, (t0 : Int), 0, a⟩) HWA.out
                simpa [stepQ] using this)
              rw [HRW.out.2.1] at ho6
              rw [HRW.out.2.2.1]
              have HS6 := Lib.hid HRW.out.1
              have HR6 := Lib.hid HRW.out.2.2.2
              obtain ⟨q6, hq6⟩ : ∃ q6, (retQ q (t0 : Int) a).1 = q6 := ⟨_, rfl⟩
              rw [hq6] at hi6 HG6 HS6 HR6
              obtain ⟨A6, c6, rfl, _, _⟩ := Row.shape ho6
              have HI6 := Lib.hid hi6
              have HB6 := Lib.hid (HBE.out.trans (hk6.below (by omega) (fun i hi => Nat.le_trans hLO (HI.out.foot_lo i hi))))
              have s6 := hk6.size
              clear ho6 hi6 hk6 hq6 HRW HI HG HSM HBE
              go_wp2_with fail
              refine (ret_did HI6.out HG6.out (by omega) (by omega) (t0 : Int) a HWA.out).mono ?_
              rintro e w7 ⟨u7, v7, N7, rfl, ho7, hi7, hN7, hk7, _⟩
              rw [HR6.out] at ho7 hi7
              rw [HR6.out]
              obtain ⟨A7, c7, rfl, _, _⟩ := Row.shape ho7
              have HI7 := Lib.hid hi7
              have HB7 := Lib.hid (HB6.out.trans (hk7.below (by omega) (fun i hi => Nat.le_trans hLO (HI6.out.foot_lo i hi))))
              have s7 := hk7.size
              have HOK7 := Lib.hid (show q6.ok 0 from ⟨Int.le_refl 0, by have := HS6.out.n; omega⟩)
              have HC7 := Lib.hid (show q6.c a = (m : Int) by rw [c_of (by omega) HS6.out.cnt]; omega)
              clear ho7 hi7 hk7
              go_wp2_with fail
              refine (count_yes HI7.out HOK7.out HWA.out).mono ?_
              rintro e w8 ⟨rfl, rfl⟩
              rw [HC7.out]
              go_wp2_with fail
              go_loopw [24] (fun i wr => ∃ (k N : Nat) (vv : Value) (q : Q), k ≤ m ∧ i = .int .i64 k ∧ IsC wr B g gh b N vv q ∧ N ≤ 990 + 6 * k ∧ Good q 151 ∧ HB m a k q ∧ B ≤ wr.heap.size ∧ Below w.heap.size w wr) (fun i _ => m - (intOf i).toNat)
              case atStart => exact ⟨0, N7, _, q6, Nat.zero_le _, rfl, HI7.out, by omega, HG6.out, HS6.out, by omega, HB7.out⟩
              case round =>
                clear HI6 HG6 HS6 HB6 HR6 HI7 HB7 HC7 HOK7 hN2 hr0 hBr hN6 hN7 s6 s7
                obtain ⟨k, N, vv, q, hk, rfl, hi, hN, hg, hs, hBr, hbel⟩ := hrel
                have HI := Lib.hid hi
                have HG := Lib.hid hg
                have HS := Lib.hid hs
                have HBl := Lib.hid hbel
                have hr0 := hbel.size
                clear hi hg hs hbel
                by_cases hlt : k < m
                · have HST := Lib.hid (hb_step HS.out hlt (show 0 < a by omega))
                  have HG1 := Lib.hid (show Good (holdQ q (k : Int) ((k : Int) % 3) 0).1 151 by rw [hold_ok HS.out.n hlt (Int.le_refl 0)]; exact good_loose (good_put HG.out _ _ wf0))
                  go_wp2_with fail
                  refine (hold_did HI.out HG.out (by omega) (by omega) (by omega) (k : Int) ((k : Int) % 3) 0 wf0).mono ?_
                  rintro e w6 ⟨u6, v6, N6, rfl, ho6, hi6, hN6, hk6, _⟩
                  rw [HST.out.2.1] at ho6
                  rw [HST.out.2.2]
                  have HI6 := Lib.hid hi6
                  have HB6 := Lib.hid (HBl.out.trans (hk6.below (by omega) (fun i hi => Nat.le_trans hLO (HI.out.foot_lo i hi))))
                  have HO6 := Lib.hid ho6
                  have s6 := hk6.size
                  clear ho6 hi6 hk6
                  by_cases hkm : k + 1 = m
                  · have HO7 := Lib.hid (show Own w6 wr.heap.size u6 [a] by have h9 := HO6.out; rw [if_pos hkm] at h9; exact h9)
                    have e1 : ((k : Int) == (m : Int) - 1) = true := by rw [beq_iff_eq]; omega
                    go_wp2_with fail
                    refine (same_any (Row.rd (World.ownsRow.alloc HO7.out _)) (one_rd w6 a)).mono ?_
                    rintro e w7 ⟨rfl, b7⟩
                    rw [show decide (([a] : List Int) = [a]) = true from decide_eq_true rfl]
                    have b67 : Below w6.heap.size w6 w7 := ((Below.refl _ w6).alloc (Nat.le_refl _) _).trans (b7.mono (by simp))
                    have HI7 := Lib.hid (HI6.out.below b67)
                    have HB7 := Lib.hid (HB6.out.trans (b67.mono HB6.out.size))
                    have s7 := b67.size
                    clear b7 b67
                    go_wp2
                    go_roundw
                    case measure => simp [intOf]; omega
                    case rel => exact ⟨k + 1, N6, v6, _, by omega, by go_num, HI7.out, by omega, HG1.out, HST.out.1, by omega, HB7.out⟩
                  · have HO7 := Lib.hid (show Own w6 wr.heap.size u6 [] by have h9 := HO6.out; rw [if_neg hkm] at h9; exact h9)
                    have e1 : ((k : Int) == (m : Int) - 1) = false := by rw [beq_eq_false_iff_ne]; omega
                    go_wp2_with fail
                    refine (same_any (Row.rd (World.ownsRow.alloc HO7.out _)) (one_rd w6 a)).mono ?_
                    rintro e w7 ⟨rfl, b7⟩
                    rw [show decide (([] : List Int) = [a]) = false from decide_eq_false (by simp)]
                    have b67 : Below w6.heap.size w6 w7 := ((Below.refl _ w6).alloc (Nat.le_refl _) _).trans (b7.mono (by simp))
                    have HI7 := Lib.hid (HI6.out.below b67)
                    have HB7 := Lib.hid (HB6.out.trans (b67.mono HB6.out.size))
                    have s7 := b67.size
                    clear b7 b67
                    go_wp2
                    go_roundw
                    case measure => simp [intOf]; omega
                    case rel => exact ⟨k + 1, N6, v6, _, by omega, by go_num, HI7.out, by omega, HG1.out, HST.out.1, by omega, HB7.out⟩
                · have hke : k = m := by omega
                  have HWS := Lib.hid (show q.ws = [] by have h9 := HS.out.ws; rw [if_neg (by omega)] at h9; exact h9)
                  have HOK9 := Lib.hid (show q.ok 0 from ⟨Int.le_refl 0, by have := HS.out.n; omega⟩)
                  clear hke
                  go_wp2_with fail
                  refine (waiting_yes HI.out HOK9.out (by rw [HWS.out]; decide)).mono ?_
                  rintro e w5 ⟨u2, rfl, ho5, hb5⟩
                  rw [HWS.out] at ho5
                  obtain ⟨A5, c5, rfl, hc51, hc52⟩ := Row.shape ho5
                  have HB5 := Lib.hid (HBl.out.trans (hb5.mono (by omega)))
                  clear ho5 hb5
                  go_wp2
                  go_ret
                  exact ⟨by simp, HB5.out⟩
end Go.Proofs.Ytphahilggfckaaa
