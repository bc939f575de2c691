/-
  That when all have left nothing waits: the walk of the law.
-/
import Derived.Test.YtphahilggfckaaaLaws2
set_option linter.unusedVariables false
set_option linter.unusedSimpArgs false
namespace Go.Proofs.Ytphahilggfckaaa
open Go.RowKit Mem Qm
set_option maxRecDepth 100000

theorem Is.drewN' {w : World} {B g gh b N : Nat} {v : Value} {q : Q} (h : IsC w B g gh b N v q) (n : Nat) : IsC (w.drewN n) B g gh b N v q := ⟨h.lo, h.loh, h.lob, h.blk, h.hold, h.map, h.row, h.len⟩
set_option maxHeartbeats 2000000 in
theorem leaves_walk {w : World} {t : Int} {v : Value} {ds : List Deed} (h : RdD w v ds) : Calls Try.prog 9 #[.int .i64 t, v] w (Tells w true) := by
  have HD := Lib.hid h
  clear h
  go_enter Try.func9, Try.ntmps9
  go_wp2_with fail
  refine (awake_any _).mono ?_
  rintro e w1 ⟨rfl, b1⟩
  have HB1 := Lib.hid b1
  have HD1 := Lib.hid (HD.out.below b1)
  have s1 := b1.size
  clear b1
  go_wp2_with fail
  refine (made_any HD1.out).mono ?_
  rintro e w2 ⟨m, g, gh, b, B, N, vv, mv, q, bl, its, CS, h0, h1, rfl, hC, hCS, hB1, hB2, hi, hV, hN, hG, hNN, hInv, hn, b2⟩
  have HC := Lib.hid hC
  have HI2 := Lib.hid hi
  have HG2 := Lib.hid hG
  have HV2 := Lib.hid hInv
  have HN2 := Lib.hid hn
  have HB2 := Lib.hid (HB1.out.trans (b2.mono s1))
  have s2 := b2.size
  clear hC hCS hi hV hG hNN hInv hn b2
  go_wp2_with (refine wpList_store_new rfl 37 (.tmp 6) (.tmp 21) rfl CS.toArray _ 37 rfl rfl HC.out.inf (by have h9 := HC.out.len; simp [h9]) HC.out.one ?_)
  generalize hW3 : w2.alloc _ = W3
  have hb3 : Below w2.heap.size w2 W3 := by rw [← hW3]; exact (Below.refl _ _).alloc (Nat.le_refl _) _
  have HI3 := Lib.hid (HI2.out.below hb3)
  have HB3 := Lib.hid (HB2.out.trans (hb3.mono (by omega)))
  have s3 := hb3.size
  clear hW3 hb3
  go_loopw [8] (fun i wr => ∃ (k N : Nat) (vv : Value) (q : Q), k ≤ m ∧ i = .int .i64 k ∧ IsC wr B g gh b N vv q ∧ N ≤ 900 + 6 * k ∧ Good q 150 ∧ Inv q ∧ q.n = m ∧ Zero q k ∧ B ≤ wr.heap.size ∧ Below w.heap.size w wr) (fun i _ => m - (intOf i).toNat)
  case atStart => exact ⟨0, N, _, q, Nat.zero_le _, rfl, HI3.out, by omega, HG2.out, HV2.out, HN2.out, (fun j hj => by omega), by omega, HB3.out⟩
  case round =>
    clear HI2 HI3 HG2 HV2 HN2
    obtain ⟨k, N, vv, q, hk, rfl, hi, hN, hg, hv, hn, hz, hBr, hbel⟩ := hrel
    have HI := Lib.hid hi
    have HG := Lib.hid hg
    have HV := Lib.hid hv
    have HN := Lib.hid hn
    have HZ := Lib.hid hz
    have HB := Lib.hid hbel
    have hr0 := hbel.size
    have HLO : w.heap.size ≤ B := by omega
    have HOK := Lib.hid (show q.ok 0 from ⟨Int.le_refl 0, by omega⟩)
    have hwl := hg.len
    clear hi hg hv hn hz hbel
    by_cases hlt : k < m
    · have HOKk := Lib.hid (show q.ok (k : Int) from ⟨by omega, by have := HN.out; omega⟩)
      have HGo := Lib.hid (good_out HG.out (k : Int))
      have HVo := Lib.hid (inv_out HV.out HOKk.out)
      have HNo := Lib.hid ((out_n q (k : Int)).trans HN.out)
      have HZo := Lib.hid (zero_out HZ.out HI.out.len (by have := HN.out; omega))
      have HOKo := Lib.hid (show (Q.out q (k : Int)).ok 0 from ⟨Int.le_refl 0, by have := HNo.out; omega⟩)
      have HQ := Lib.hid (show outQ q (k : Int) = (Q.out q (k : Int), Q.outBack q (k : Int), 0) from if_pos HOKk.out)
      go_wp2_with fail
      refine (waiting_yes HI.out HOK.out (by omega)).mono ?_
      rintro e w5 ⟨u2, rfl, ho5, hb5⟩
      obtain ⟨A5, c5, rfl, hc51, hc52⟩ := Row.shape ho5
      have hc53 : c5 ≤ 9223372036854775807 := by simpa [maxLen] using hc52
      have HO5 := Lib.hid ho5
      have HI5 := Lib.hid (HI.out.below hb5)
      have HB5 := Lib.hid (HB.out.trans (hb5.mono (by omega)))
      have s5 := hb5.size
      clear ho5 hb5 hc52
      go_wp2_with fail
      have ct := out_did HI5.out HG.out (by omega) (by omega) (by omega) (k : Int)
      rw [HQ.out] at ct
      refine ct.mono ?_
      clear ct
      rintro e w6 ⟨u6, v6, N6, rfl, ho6, hi6, hN6, hk6, _⟩
      obtain ⟨A6, c6, rfl, hc61, hc62⟩ := Row.shape ho6
      have hc63 : c6 ≤ 9223372036854775807 := by simpa [maxLen] using hc62
      have HO6 := Lib.hid ho6
      have HI6 := Lib.hid hi6
      have HP := Lib.hid (Row.keep HO5.out hk6 (fun i hi hf => by
        have h1 := (Row.at_lt HO5.out hi).1
        have h2 := HI.out.foot_lt i hf
        omega))
      have HB6 := Lib.hid (HB5.out.trans (hk6.below (by omega) (fun i hi => Nat.le_trans HLO (HI5.out.foot_lo i hi))))
      have s6 := hk6.size
      have hback : (Q.outBack q (k : Int)).length ≤ q.ws.length := backs_le _ _
      clear ho6 hi6 hk6 hc62
      obtain ⟨q1, hq1⟩ : ∃ q1, outTo q (k : Int).toNat 3 = q1 := ⟨_, rfl⟩
      have HBK := Lib.hid (show Q.outBack q (k : Int) = backs q1 q.ws by rw [← hq1]; rfl)
      have HCQ := Lib.hid (show ∀ x, (Q.out q (k : Int)).c x = q1.c x from fun x => by rw [← hq1]; rfl)
      clear hq1
      obtain ⟨back, hbk⟩ : ∃ back, Q.outBack q (k : Int) = back := ⟨_, rfl⟩
      obtain ⟨q2, hq2⟩ : ∃ q2, Q.out q (k : Int) = q2 := ⟨_, rfl⟩
      rw [hbk] at HO6 HBK hback hc61 ⊢
      rw [hq2] at HI6 HCQ HGo HVo HNo HZo HOKo
      clear hbk hq2 HQ
      go_wp2_with fail
      go_loopw [12, 13] (fun a i wx => ∃ j n : Nat, j ≤ q.ws.length ∧ i = .int .i64 j ∧ a = .int .i64 n ∧ n ≤ back.length ∧ Hid (n = (backs q1 (q.ws.take j)).length) ∧ IsC wx B g gh b N6 v6 q2 ∧ Own wx wr.heap.size (.slice A5 q.ws.length c5) q.ws ∧ Own wx w5.heap.size (.slice A6 back.length c6) back ∧ B ≤ wx.heap.size ∧ Below w.heap.size w wx) (fun _ i _ => q.ws.length - (intOf i).toNat)
      case atStart => exact ⟨0, 0, Nat.zero_le _, rfl, rfl, Nat.zero_le _, Lib.hid rfl, HI6.out, HP.out, HO6.out, by omega, HB6.out⟩
      case round =>
        clear HI6 HP HO6 HB6
        obtain ⟨j, n, hj, rfl, rfl, hnb, Hn, hi6, hp, ho6, hBx, hb6⟩ := hrel
        have HI6 := Lib.hid hi6
        have HP := Lib.hid hp
        have HO6 := Lib.hid ho6
        have HB6 := Lib.hid hb6
        clear hi6 hp ho6 hb6
        by_cases hjl : j < q.ws.length
        · obtain ⟨bx, ox, rfl, hbx, hcx⟩ := (Row.rd HP.out).one hjl
          have e0 := hcx.trans (Qm.ints_at q.ws j hjl)
          have HX := Lib.hid (HG.out.wf _ (List.getElem_mem hjl))
          have HAT := Lib.hid (fun hc => back_at (q := q1) hjl hc)
          have HNO := Lib.hid (show ∀ y ∈ back, q1.c y = 0 from fun y hy => by rw [HBK.out] at hy; simpa using (List.mem_filter.1 hy).2)
          have HSN := Lib.hid (backs_snoc (q := q1) hjl)
          obtain ⟨x, hx⟩ : ∃ x, q.ws[j] = x := ⟨_, rfl⟩
          rw [hx] at e0 HX HAT HSN
          clear hcx hx
          have j0 : (0 : Int) ≤ (j : Int) := by omega
          have j1 : (j : Int) < (q.ws.length : Int) := by omega
          by_cases hc : q1.c x = 0
          · obtain ⟨hl, hat⟩ := HAT.out hc
            have hnl : n < back.length := by rw [Hn.out, HBK.out]; exact hl
            obtain ⟨by_, oy, rfl, hby, hcy⟩ := (Row.rd HO6.out).one hnl
            have e1 := hcy.trans (Qm.ints_at back n hnl)
            have hbx2 : back[n] = x := by
              have h9 : back[n]? = some x := by
                rw [Hn.out, HBK.out, List.getElem?_eq_getElem hl, hat]
              rw [List.getElem?_eq_getElem hnl] at h9
              exact Option.some.inj h9
            rw [hbx2] at e1
            have HN2 := Lib.hid (show n + 1 = (backs q1 (q.ws.take (j + 1))).length by rw [HSN.out, if_pos hc, List.length_append, ← Hn.out]; rfl)
            have n0 : (0 : Int) ≤ (n : Int) := by omega
            have n1 : (n : Int) < (back.length : Int) := by omega
            clear hc hl hat hcy hbx2
            go_wp2
            go_quiet (fail)
            go_wp2
            go_roundw
            case measure => simp [intOf]; omega
            case rel => exact ⟨j + 1, n + 1, by omega, by go_num, by go_num, by omega, HN2, Is.drewN' HI6.out _, HP.out, HO6.out, hBx, HB6.out.drewN _⟩
          · have HC2 := Lib.hid (show q2.c x = q1.c x from HCQ.out x)
            have hc0 := c_nonneg q1 x
            have hc1 : 1 ≤ q1.c x := by omega
            have hc2 : ¬ (q1.c x < 1) := by omega
            have HN2 := Lib.hid (show n = (backs q1 (q.ws.take (j + 1))).length by rw [HSN.out, if_neg hc, ← Hn.out])
            by_cases hnl : n < back.length
            · obtain ⟨by_, oy, rfl, hby, hcy⟩ := (Row.rd HO6.out).one hnl
              have e1 := hcy.trans (Qm.ints_at back n hnl)
              have hne : ¬ back[n] = x := fun e => hc (by rw [← e]; exact HNO.out _ (List.getElem_mem hnl))
              obtain ⟨y, hy⟩ : ∃ y, back[n] = y := ⟨_, rfl⟩
              rw [hy] at e1 hne
              have hyb : (y == x) = false := beq_eq_false_iff_ne.2 hne
              have n0 : (0 : Int) ≤ (n : Int) := by omega
              have n1 : (n : Int) < (back.length : Int) := by omega
              clear hc hcy hy hne
              go_wp2
              go_quiet (fail)
              go_wp2_with fail
              refine (count_yes (Is.drewN' HI6.out _) HOKo.out HX.out).mono ?_
              rintro e w8 ⟨rfl, rfl⟩
              rw [HC2.out]
              go_wp2
              go_roundw
              case measure => simp [intOf]; omega
              case rel => exact ⟨j + 1, n, by omega, by go_num, rfl, by omega, HN2, Is.drewN' HI6.out _, HP.out, HO6.out, hBx, HB6.out.drewN _⟩
            · have hnd : decide ((n : Int) < (back.length : Int)) = false := by simp; omega
              clear hc
              go_wp2
              go_quiet (fail)
              go_wp2_with fail
              refine (count_yes (Is.drewN' HI6.out _) HOKo.out HX.out).mono ?_
              rintro e w8 ⟨rfl, rfl⟩
              rw [HC2.out]
              go_wp2
              go_roundw
              case measure => simp [intOf]; omega
              case rel => exact ⟨j + 1, n, by omega, by go_num, rfl, by omega, HN2, Is.drewN' HI6.out _, HP.out, HO6.out, hBx, HB6.out.drewN _⟩
        · have hje : j = q.ws.length := by omega
          have hne : n = back.length := by rw [Hn.out, hje, List.take_length, ← HBK.out]
          have hnb1 : ((n : Int) == (back.length : Int)) = true := by rw [beq_iff_eq]; omega
          have hnb2 : ((n : Int) != (back.length : Int)) = false := by simp [hne]
          clear hje hne
          go_wp2
          go_roundw
          case measure => simp [intOf]; omega
          case rel => exact ⟨k + 1, N6, v6, q2, by omega, by go_num, HI6.out, by omega, HGo.out, HVo.out, HNo.out, HZo.out, by omega, HB6.out⟩
    · have hke : k = m := by omega
      have HWS := Lib.hid (show q.ws = [] from zero_ws (by rw [HN.out, ← hke]; exact HZ.out) HI.out.len HV.out)
      clear hke
      go_wp2_with fail
      refine (waiting_yes HI.out HOK.out (by omega)).mono ?_
      rintro e w5 ⟨u2, rfl, ho5, hb5⟩
      rw [HWS.out] at ho5
      obtain ⟨A5, c5, rfl, hc51, hc52⟩ := Row.shape ho5
      have HB5 := Lib.hid (HB.out.trans (hb5.mono (by omega)))
      clear ho5 hb5
      go_wp2
      go_ret
      exact ⟨by simp, HB5.out⟩
end Go.Proofs.Ytphahilggfckaaa
