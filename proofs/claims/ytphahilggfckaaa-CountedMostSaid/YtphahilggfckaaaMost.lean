/-
  That at most as many wait as there are holds: the walk of the law.
-/
import Derived.Test.YtphahilggfckaaaRefNew
import Derived.Test.YtphahilggfckaaaLaws0
set_option linter.unusedVariables false
set_option linter.unusedSimpArgs false
namespace Go.Proofs.Ytphahilggfckaaa
open Go.RowKit Mem Qm
set_option maxRecDepth 100000

set_option maxHeartbeats 2000000 in
theorem most_walk {w : World} {t : Int} {v : Value} {ds : List Deed} (h : RdD w v ds) : Calls Try.prog 6 #[.int .i64 t, v] w (Tells w true) := by
  obtain ⟨A, c, rfl, hc1, hc2⟩ := h.shape
  have HD := Lib.hid h
  clear h
  go_enter Try.func6, Try.ntmps6
  go_wp2_with fail
  refine (awake_any _).mono ?_
  rintro e w1 ⟨rfl, b1⟩
  have HB1 := Lib.hid b1
  have s1 := b1.size
  clear b1
  go_wp2_with fail
  refine made_nil.mono ?_
  rintro e w2 ⟨m, g, gh, b, B, CS, h0, h1, rfl, hC, hB1, hB2, hi, b2⟩
  have HC := Lib.hid hC
  have HI2 := Lib.hid hi
  have HB2 := Lib.hid (HB1.out.trans (b2.mono s1))
  have s2 := b2.size
  clear hC hi b2
  go_wp2_with (refine wpList_store_new rfl 37 (.tmp 6) (.tmp 17) rfl CS.toArray _ 37 rfl rfl HC.out.inf (by have h9 := HC.out.len; simp [h9]) HC.out.one ?_)
  generalize hW3 : w2.alloc _ = W3
  have hb3 : Below w2.heap.size w2 W3 := by rw [← hW3]; exact (Below.refl _ _).alloc (Nat.le_refl _) _
  have HI3 := Lib.hid (HI2.out.below hb3)
  have HB3 := Lib.hid (HB2.out.trans (hb3.mono (by omega)))
  have s3 := hb3.size
  clear hW3 hb3
  go_loopw [8] (fun i wr => ∃ (k N : Nat) (vv : Value) (q : Q), k ≤ ds.length ∧ k ≤ 150 ∧ i = .int .i64 k ∧ IsC wr B g gh b N vv q ∧ N ≤ 6 * k ∧ Good q k ∧ Inv q ∧ q.n = m ∧ B ≤ wr.heap.size ∧ Below w.heap.size w wr) (fun i _ => ds.length - (intOf i).toNat)
  case atStart => exact ⟨0, 0, _, q0 m, Nat.zero_le _, Nat.zero_le _, rfl, HI3.out, Nat.le_refl _, good_q0 h1, inv_q0 m, rfl, by omega, HB3.out⟩
  case round =>
    obtain ⟨k, N, vv, q, hk, hk150, rfl, hi, hN, hg, hv, hn, hBr, hbel⟩ := hrel
    have HI := Lib.hid hi
    have HG := Lib.hid hg
    have HV := Lib.hid hv
    have HN := Lib.hid hn
    have HB := Lib.hid hbel
    have hr0 := hbel.size
    have HDr := Lib.hid (HD.out.below hbel)
    have HLO : w.heap.size ≤ B := by omega
    clear hi hg hv hn hbel
    by_cases hlt : k < ds.length
    · by_cases h15 : k < 150
      · obtain ⟨bb, off, rfl, hbb, d0, d1, d2, d3⟩ := HDr.out.at_ hlt
        have HW := Lib.hid (HD.out.wf_at hlt)
        have HG1 := Lib.hid (good_step HG.out (HD.out.wf_at hlt))
        have HV1 := Lib.hid (inv_step HV.out ds[k])
        have HN1 := Lib.hid ((step_n q ds[k]).trans HN.out)
        go_wp2_with fail
        refine (do_did HI.out HG.out (by omega) (by omega) hBr ds[k] HW.out).mono ?_
        rintro e w4 ⟨u1, v1, N1, rfl, _, hi4, hN1, hk4, _⟩
        have HI4 := Lib.hid hi4
        have HB4 := Lib.hid (HB.out.trans (hk4.below hr0 (fun i hi => Nat.le_trans HLO (HI.out.foot_lo i hi))))
        have s4 := hk4.size
        clear hi4 hk4
        obtain ⟨q1, hq1⟩ : ∃ q1, (stepQ q ds[k]).1 = q1 := ⟨_, rfl⟩
        rw [hq1] at HI4 HG1 HV1 HN1
        have HLEN := Lib.hid (inv_most HV1.out HI4.out.len)
        have HOK := Lib.hid (show q1.ok 0 from ⟨by decide, by have := HN1.out; omega⟩)
        have hq4 : q1.ws.length ≤ m * 3 := by rw [← HN1.out]; exact HLEN.out
        go_wp2_with fail
        refine (waiting_yes HI4.out HOK.out (by omega)).mono ?_
        rintro e w5 ⟨u2, rfl, ho5, hb5⟩
        obtain ⟨A5, c5, rfl, hc51, hc52⟩ := Row.shape ho5
        have HO5 := Lib.hid ho5
        have HI5 := Lib.hid (HI4.out.below hb5)
        have HB5 := Lib.hid (HB4.out.trans (hb5.mono (by omega)))
        have s5 := hb5.size
        clear ho5 hb5
        go_wp2_with fail
        refine (most_any (by omega) (by omega)).mono ?_
        rintro e w6 ⟨rfl, rfl⟩
        have hq5 : ¬ ((3 * (m : Int)) < (q1.ws.length : Int)) := by omega
        have HBK := Lib.hid (inv_backs HV1.out)
        have HLS := Lib.hid (inv_loose_same HV1.out)
        go_wp2_with fail
        refine (rest_yes HI5.out HOK.out (by omega) (by omega) HG1.out.wf).mono ?_
        rintro e w7 ⟨u3, v3, rfl, ho7, hi7, hk7, _⟩
        rw [HBK.out] at ho7
        rw [HLS.out] at hi7
        obtain ⟨A7, c7, rfl, _, _⟩ := Row.shape ho7
        have HI7 := Lib.hid hi7
        have HB7 := Lib.hid (HB5.out.trans (hk7.below (by omega) (fun i hi => Nat.le_trans HLO (HI5.out.foot_lo i hi))))
        have HO7 := Lib.hid (Row.keep HO5.out hk7 (fun i hi hf => by
          have h1 := (Row.at_lt HO5.out hi).1
          have h2 := HI4.out.foot_lt i hf
          omega))
        have s7 := hk7.size
        clear ho7 hi7 hk7
        go_wp2_with fail
        go_loop [10] (fun i => ∃ j : Nat, j ≤ q1.ws.length ∧ i = .int .i64 j) (fun i => q1.ws.length - (intOf i).toNat)
        case atStart => exact ⟨0, Nat.zero_le _, rfl⟩
        case round =>
          obtain ⟨j, hj, rfl⟩ := hrel
          by_cases hjl : j < q1.ws.length
          · obtain ⟨bx, ox, rfl, hbx, hcx⟩ := (Row.rd HO7.out).one hjl
            have e0 := hcx.trans (Qm.ints_at q1.ws j hjl)
            have HX := Lib.hid (HG1.out.wf _ (List.getElem_mem hjl))
            have hx1 := inv_count HV1.out (List.getElem_mem hjl)
            obtain ⟨x, hx⟩ : ∃ x, q1.ws[j] = x := ⟨_, rfl⟩
            rw [hx] at e0 HX hx1
            have hx2 : ¬ (q1.c x < 1) := by omega
            clear hcx hx
            go_wp2_with fail
            refine (count_yes HI7.out HOK.out HX.out).mono ?_
            rintro e w8 ⟨rfl, rfl⟩
            go_wp2
            go_round
            case measure => simp [intOf]; omega
            case rel => exact ⟨j + 1, by omega, by go_num⟩
          · go_wp2
            go_roundw
            case measure => simp [intOf]; omega
            case rel => exact ⟨k + 1, N1, v3, q1, by omega, by omega, by go_num, HI7.out, by omega, HG1.out, HV1.out, HN1.out, by omega, HB7.out⟩
      · go_wp2
        go_ret
        exact ⟨rfl, HB.out⟩
    · go_wp2
      go_ret
      exact ⟨rfl, HB.out⟩
end Go.Proofs.Ytphahilggfckaaa
