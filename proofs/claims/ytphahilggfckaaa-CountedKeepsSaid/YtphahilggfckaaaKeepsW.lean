/-
  That what a thread holds is not given back: the walk of the law.
-/
import Derived.Test.YtphahilggfckaaaLaws4
import Derived.Test.YtphahilggfckaaaOpen2
set_option linter.unusedVariables false
set_option linter.unusedSimpArgs false
namespace Go.Proofs.Ytphahilggfckaaa
open Go.RowKit Mem Qm
set_option maxRecDepth 100000

set_option maxHeartbeats 2000000 in
theorem keeps_walk {w : World} {v : Value} {x : Keeps} (h : KeepsOk w v x) : Calls Try.prog 7 #[v] w (Tells w true) := by
  obtain ⟨tn, bs, th, ho, by_, ad, ds⟩ := x
  obtain ⟨⟨u, u', rfl, hb, hd⟩, hwf⟩ := h
  obtain ⟨A, c, rfl, hc1, hc2⟩ := hb.shape
  obtain ⟨A', c', rfl, hc1', hc2'⟩ := hd.shape
  have HBS := Lib.hid hb
  have HD := Lib.hid hd
  have HWA := Lib.hid (show Wf ad from hwf)
  clear hb hd hwf
  go_enter Try.func7, Try.ntmps7
  go_wp2_with fail
  go_quiet (fail)
  go_wp2_with fail
  refine (awake_any _).mono ?_
  rintro e w1 ⟨rfl, b1⟩
  have bA : Below w.heap.size w (w.alloc (.cells #[.int .i64 tn, .slice A bs.length c, .int .i64 th, .int .i64 ho, .int .i64 by_, .int .i64 ad, .slice A' ds.length c'] 56)) := (Below.refl _ _).alloc (Nat.le_refl _) _
  have HB1 := Lib.hid ((bA.drewN _).trans (b1.mono (by simp)))
  have HBS1 := Lib.hid (HBS.out.below HB1.out)
  have s1 := HB1.out.size
  clear b1 bA
  go_wp2_with fail
  refine (made_any HBS1.out).mono ?_
  rintro e w2 ⟨m, g, gh, b, B, N, vv, mv, q, bl, its, CS, h0, h1, rfl, hC, hCS, hB1, hB2, hi, hV, hN, hG, hNN, hInv, hn, b2⟩
  have HC := Lib.hid hC
  have HI2 := Lib.hid hi
  have HG2 := Lib.hid hG
  have HV2 := Lib.hid hInv
  have HN2 := Lib.hid hn
  have HB2 := Lib.hid (HB1.out.trans (b2.mono s1))
  have s2 := b2.size
  clear hC hCS hi hV hG hNN hInv hn b2
  go_wp2_with (refine wpList_store_new rfl 37 (.tmp 11) (.tmp 44) rfl CS.toArray _ 37 rfl rfl HC.out.inf (by have h9 := HC.out.len; simp [h9]) HC.out.one ?_)
  generalize hW3 : w2.alloc _ = W3
  have hb3 : Below w2.heap.size w2 W3 := by rw [← hW3]; exact (Below.refl _ _).alloc (Nat.le_refl _) _
  have HI3 := Lib.hid (HI2.out.below hb3)
  have HB3 := Lib.hid (HB2.out.trans (hb3.mono (by omega)))
  have s3 := hb3.size
  have hwl := HG2.out.len
  clear hW3 hb3
  obtain ⟨t0, ht0, hte⟩ := uint_mod th h0 h1
  obtain ⟨k0, hk0, hke⟩ := uint_mod3 ho
  rw [hte, hke]
  have HT := Lib.hid (show q.ok (t0 : Int) from ⟨by omega, by have := HN2.out; omega⟩)
  clear hte hke
  have hLO : w.heap.size ≤ B := by omega
  by_cases ha : 0 ≤ ad
  · have HQ := Lib.hid (show holdQ q (t0 : Int) (k0 : Int) ad = ((Q.held q (t0 : Int) (k0 : Int) ad).loose, backs (Q.held q (t0 : Int) (k0 : Int) ad) q.ws, 0) from if_pos ⟨HT.out, by omega, by omega, ha⟩)
    have HG3 := Lib.hid (show Good (holdQ q (t0 : Int) (k0 : Int) ad).1 150 by rw [HQ.out]; exact good_loose (good_put HG2.out _ _ HWA.out))
    have HV3 := Lib.hid (show Inv (holdQ q (t0 : Int) (k0 : Int) ad).1 by have := inv_step HV2.out ⟨2, (t0 : Int), (k0 : Int), ad⟩; simpa [stepQ] using this)
    have HN3 := Lib.hid (show (holdQ q (t0 : Int) (k0 : Int) ad).1.n = m by rw [HQ.out]; exact HN2.out)
    have HH3 := Lib.hid (show nth (holdQ q (t0 : Int) (k0 : Int) ad).1.hs (t0 * 3 + k0) = ad by
      rw [HQ.out]
      show nth (q.hs.set ((t0 : Int).toNat * 3 + (k0 : Int).toNat) ad) _ = ad
      rw [Int.toNat_natCast, Int.toNat_natCast, nth_set (by rw [HI3.out.len, HN2.out]; omega), if_pos rfl])
    refine (hold_did HI3.out HG2.out (by omega) (by omega) (by omega) (t0 : Int) (k0 : Int) ad HWA.out).mono ?_
    rintro e w4 ⟨u4, v4, N4, rfl, ho4, hi4, hN4, hk4, _⟩
    obtain ⟨q4, hq4⟩ : ∃ q4, (holdQ q (t0 : Int) (k0 : Int) ad).1 = q4 := ⟨_, rfl⟩
    rw [show (holdQ q (t0 : Int) (k0 : Int) ad).2.2 = 0 by rw [HQ.out]]
    rw [hq4] at hi4 HG3 HV3 HN3 HH3
    have HI4 := Lib.hid hi4
    have HB4 := Lib.hid (HB3.out.trans (hk4.below (by omega) (fun i hi => by have := HI3.out.foot_lo i hi; omega)))
    have s4 := hk4.size
    have hN5 : N4 ≤ 906 := by omega
    have hB4 : B ≤ w4.heap.size := by omega
    clear ho4 hi4 hk4 hq4 HQ HI3 HB3 HI2 HB2 HG2 HV2 HN2 HC s2 s3 hwl hN4 hN hB2 s4 HT
    by_cases ha0 : ad = 0
    · subst ha0
      go_wp2
      go_ret
      exact ⟨by simp, HB4.out⟩
    · have hz : (ad == 0) = false := beq_eq_false_iff_ne.2 ha0
      have hap : 0 < ad := by omega
      clear ha0
      go_wp2_with fail
      go_loopw [17] (fun i wr => ∃ (k N : Nat) (vv : Value) (q : Q), k ≤ ds.length ∧ k ≤ 150 ∧ i = .int .i64 k ∧ IsC wr B g gh b N vv q ∧ N ≤ 906 + 6 * k ∧ Good q (150 + k) ∧ Inv q ∧ q.n = m ∧ Hid (nth q.hs (t0 * 3 + k0) = ad) ∧ B ≤ wr.heap.size ∧ Below w.heap.size w wr) (fun i _ => ds.length - (intOf i).toNat)
      case atStart => exact ⟨0, N4, _, q4, Nat.zero_le _, Nat.zero_le _, rfl, HI4.out, hN5, HG3.out, HV3.out, HN3.out, HH3, hB4, HB4.out⟩
      case round =>
        clear HI4 HG3 HV3 HN3 HH3 hB4 HB4 hN5
        obtain ⟨k, N, vv, q, hk, hk150, rfl, hi, hN, hg, hv, hn, HH, hBr, hbel⟩ := hrel
        have HI := Lib.hid hi
        have HG := Lib.hid hg
        have HV := Lib.hid hv
        have HN := Lib.hid hn
        have HBE := Lib.hid hbel
        have hr0 := hbel.size
        have HDr := Lib.hid (HD.out.below hbel)
        have HOK := Lib.hid (show q.ok 0 from ⟨Int.le_refl 0, by omega⟩)
        have hil : t0 * 3 + k0 < q.hs.length := by have := hi.len; omega
        have hwl := hg.len
        clear hi hg hv hn hbel
        by_cases hgo : k < ds.length ∧ k < 150
        · obtain ⟨hlt, h15⟩ := hgo
          obtain ⟨bb, off, rfl, hbb, d0, d1, d2, d3⟩ := HDr.out.at_ hlt
          have HW := Lib.hid (HD.out.wf_at hlt)
          have HG1 := Lib.hid (good_step HG.out (HD.out.wf_at hlt))
          have HV1 := Lib.hid (inv_step HV.out ds[k])
          have HN1 := Lib.hid ((step_n q ds[k]).trans HN.out)
          have HKE := Lib.hid (show ¬ (ds[k].th = (t0 : Int) ∧ (ds[k].what = 1 ∨ (ds[k].what = 2 ∧ ds[k].ho = (k0 : Int)))) → nth (stepQ q ds[k]).1.hs (t0 * 3 + k0) = nth q.hs (t0 * 3 + k0) from fun h => step_keep HI.out.len hk0 h)
          obtain ⟨d, hd⟩ : ∃ d, ds[k] = d := ⟨_, rfl⟩
          rw [hd] at d0 d1 d2 d3 HW HG1 HV1 HN1 HKE
          clear hd
          by_cases hsk : d.th = (t0 : Int) ∧ (d.what = 1 ∨ (d.what = 2 ∧ d.ho = (k0 : Int)))
          · obtain ⟨e1, e2⟩ := hsk
            have f1 : (d.th == (t0 : Int)) = true := beq_iff_eq.2 e1
            have HDONE := Lib.hid (show ∀ W : World, Below wr.heap.size wr W → ∃ (k' N : Nat) (vv : Value) (q : Q), k' ≤ ds.length ∧ k' ≤ 150 ∧ Value.int .i64 ((k : Int) + 1) = .int .i64 k' ∧ IsC W B g gh b N vv q ∧ N ≤ 906 + 6 * k' ∧ Good q (150 + k') ∧ Inv q ∧ q.n = m ∧ Hid (nth q.hs (t0 * 3 + k0) = ad) ∧ B ≤ W.heap.size ∧ Below w.heap.size w W from fun W hb =>
              ⟨k + 1, N, vv, q, by omega, by omega, by go_num, HI.out.below hb, by omega, HG.out.mono (by omega), HV.out, HN.out, HH, by have := hb.size; omega, HBE.out.trans (hb.mono hr0)⟩)
            have bA : Below wr.heap.size wr (wr.alloc (.cells #[.int .i64 d.what, .int .i64 d.th, .int .i64 d.ho, .int .i64 d.ad] 41)) := (Below.refl _ _).alloc (Nat.le_refl _) _
            have HBA := Lib.hid bA
            clear bA e1
            rcases e2 with e2 | ⟨e2, e3⟩
            · have f2 : (d.what == 1) = true := beq_iff_eq.2 e2
              clear e2
              go_wp2
              go_roundw
              case measure => simp [intOf]; omega
              case rel => exact HDONE.out _ HBA.out
            · have f2 : (d.what == 1) = false := beq_eq_false_iff_ne.2 (by omega)
              have f3 : (d.what == 2) = true := beq_iff_eq.2 e2
              have f4 : (d.ho == (k0 : Int)) = true := beq_iff_eq.2 e3
              clear e2 e3
              go_wp2
              go_roundw
              case measure => simp [intOf]; omega
              case rel => exact HDONE.out _ HBA.out
          · have HK2 := Lib.hid (HKE.out hsk)
            have hil1 := hil
            have HCA := Lib.hid (show ∀ q1 : Q, (stepQ q d).1 = q1 → q1.hs.length = m * 3 → 1 ≤ q1.c ad from fun q1 e hl => held_c hap (i := t0 * 3 + k0) (by omega) (by rw [← e, HK2.out]; exact HH.out))
            have hb : (d.th == (t0 : Int)) = false ∨ ((d.th == (t0 : Int)) = true ∧ (d.what == 1) = false ∧ (d.what == 2) = false) ∨ ((d.th == (t0 : Int)) = true ∧ (d.what == 1) = false ∧ (d.what == 2) = true ∧ (d.ho == (k0 : Int)) = false) := by
              by_cases e1 : d.th = (t0 : Int)
              · right
                have e2 : d.what ≠ 1 := fun e => hsk ⟨e1, .inl e⟩
                by_cases e3 : d.what = 2
                · right
                  have e4 : d.ho ≠ (k0 : Int) := fun e => hsk ⟨e1, .inr ⟨e3, e⟩⟩
                  exact ⟨beq_iff_eq.2 e1, beq_eq_false_iff_ne.2 e2, beq_iff_eq.2 e3, beq_eq_false_iff_ne.2 e4⟩
                · left
                  exact ⟨beq_iff_eq.2 e1, beq_eq_false_iff_ne.2 e2, beq_eq_false_iff_ne.2 e3⟩
              · left
                exact beq_eq_false_iff_ne.2 e1
            have bA : Below wr.heap.size wr (wr.alloc (.cells #[.int .i64 d.what, .int .i64 d.th, .int .i64 d.ho, .int .i64 d.ad] 41)) := (Below.refl _ _).alloc (Nat.le_refl _) _
            have HIA := Lib.hid (HI.out.below bA)
            have HBA := Lib.hid (HBE.out.trans (bA.mono hr0))
            have sA := bA.size
            clear bA hsk
            rcases hb with f1 | ⟨f1, f2, f3⟩ | ⟨f1, f2, f3, f4⟩
            all_goals
              go_wp2_with fail
              refine (do_did HIA.out HG.out (by omega) (by omega) (by omega) d HW.out).mono ?_
              rintro e w5 ⟨u1, v1, N1, rfl, ho5, hi5, hN1, hk5, _⟩
              have HC1 := Lib.hid (HCA.out _ rfl (by rw [hi5.len, HN1.out]))
              have HNT := Lib.hid (step_not (q := q) (d := d) HC1.out)
              obtain ⟨q1, hq1⟩ : ∃ q1, (stepQ q d).1 = q1 := ⟨_, rfl⟩
              obtain ⟨l1, hl1⟩ : ∃ l1, (stepQ q d).2.1 = l1 := ⟨_, rfl⟩
              have HHN := Lib.hid (show Hid (nth q1.hs (t0 * 3 + k0) = ad) from Lib.hid (by rw [← hq1, HK2.out]; exact HH.out))
              rw [hq1] at hi5 HC1
              rw [hl1] at ho5 HNT
              have HGq := Lib.hid (show Good q1 (150 + k + 1) by rw [← hq1]; exact HG1.out)
              have HVq := Lib.hid (show Inv q1 by rw [← hq1]; exact HV1.out)
              have HNq := Lib.hid (show q1.n = m by rw [← hq1]; exact HN1.out)
              have hc2 : ¬ (q1.c ad < 1) := by have := HC1.out; omega
              have HO5 := Lib.hid ho5
              have HI5 := Lib.hid hi5
              have HB5 := Lib.hid (HBA.out.trans (hk5.below (by omega) (fun i hi => Nat.le_trans hLO (HIA.out.foot_lo i hi))))
              have HOKq := Lib.hid (show q1.ok 0 from ⟨Int.le_refl 0, by have := HNq.out; omega⟩)
              have s5 := hk5.size
              clear ho5 hi5 hk5 hq1 hl1
              go_wp2_with fail
              refine (hasl_any (x := ad) (Row.rd HO5.out)).mono ?_
              rintro e w6 ⟨rfl, rfl⟩
              rw [HNT.out]
              go_wp2_with fail
              refine (count_yes HI5.out HOKq.out HWA.out).mono ?_
              rintro e w6 ⟨rfl, rfl⟩
              go_wp2
              go_roundw
              case measure => simp [intOf]; omega
              case rel => exact ⟨k + 1, N1, v1, q1, by omega, by omega, by go_num, HI5.out, by omega, HGq.out, HVq.out, HNq.out, HHN.out, by omega, HB5.out⟩
        · obtain ⟨t1, ht1, hte⟩ := uint_mod by_ h0 h1
          have HTE := Lib.hid hte
          have HT1 := Lib.hid (show q.ok (t1 : Int) from ⟨by omega, by have := HN.out; omega⟩)
          have HCA := Lib.hid (held_c hap (i := t0 * 3 + k0) hil HH.out)
          obtain ⟨r1, r2, r3⟩ := ret_held HV.out HCA.out hap HT1.out
          have HR1 := Lib.hid r1
          have HR3 := Lib.hid r3
          have HGq := Lib.hid (show Good (retQ q (t1 : Int) ad).1 301 from Good.mono (show Good (retQ q (t1 : Int) ad).1 (150 + k + 1) by
            have := good_step HG.out (d := ⟨4, (t1 : Int), 0, ad⟩) HWA.out
            simpa [stepQ] using this) (by omega))
          have HNq := Lib.hid (show (retQ q (t1 : Int) ad).1.n = m by
            have := step_n q ⟨4, (t1 : Int), 0, ad⟩
            simp [stepQ] at this
            rw [this]; exact HN.out)
          have HCTR := Lib.hid (ret_did HI.out HG.out (by omega) (by omega) (t1 : Int) ad HWA.out)
          clear hte r1 r3
          obtain ⟨er, her⟩ : ∃ er, (retQ q (t1 : Int) ad).2.2 = er := ⟨_, rfl⟩
          rw [her] at r2
          have HER := Lib.hid her
          clear her
          rcases (show ¬ k < ds.length ∨ (k < ds.length ∧ ¬ k < 150) by omega) with hx | ⟨hx, hy⟩
          all_goals
            clear hgo
            go_wp2_with fail
            rw [HTE.out]
            refine HCTR.out.mono ?_
            rintro e w5 ⟨u1, v1, N1, rfl, ho5, hi5, hN1, hk5, _⟩
            rw [HR1.out] at ho5
            rw [HER.out]
            obtain ⟨q1, hq1⟩ : ∃ q1, (retQ q (t1 : Int) ad).1 = q1 := ⟨_, rfl⟩
            have HQL := Lib.hid (show q1.ws.length ≤ 301 by rw [← hq1]; exact HGq.out.len)
            have HW3 := Lib.hid (show hasL q1.ws ad = true by rw [← hq1]; exact HR3.out)
            have HOKq := Lib.hid (show q1.ok 0 from ⟨Int.le_refl 0, by rw [← hq1, HNq.out]; omega⟩)
            rw [hq1] at hi5
            obtain ⟨A5, c5, rfl, _, _⟩ := Row.shape ho5
            have HI5 := Lib.hid hi5
            have HB5 := Lib.hid (HBE.out.trans (hk5.below (by omega) (fun i hi => Nat.le_trans hLO (HI.out.foot_lo i hi))))
            have s5 := hk5.size
            clear ho5 hi5 hk5 hq1
            rcases r2 with rfl | rfl
            all_goals
              go_wp2_with fail
              refine (waiting_yes HI5.out HOKq.out (by have := HQL.out; omega)).mono ?_
              rintro e w6 ⟨u6, rfl, ho6, b6⟩
              have HO6 := Lib.hid ho6
              have HB6 := Lib.hid (HB5.out.trans (b6.mono HB5.out.size))
              clear ho6 b6
              go_wp2_with fail
              refine (hasl_any (x := ad) (Row.rd HO6.out)).mono ?_
              rintro e w7 ⟨rfl, rfl⟩
              rw [HW3.out]
              go_wp2
              go_ret
              exact ⟨rfl, HB6.out⟩
  · have HQ := Lib.hid (show holdQ q (t0 : Int) (k0 : Int) ad = (q, [], 1) from if_neg (fun h => ha h.2.2.2))
    have ha' : ad < 0 := by omega
    have hal : ad ≤ 0 := by omega
    refine (hold_did HI3.out HG2.out (by omega) (by omega) (by omega) (t0 : Int) (k0 : Int) ad HWA.out).mono ?_
    rintro e w4 ⟨u4, v4, N4, rfl, ho4, hi4, hN4, hk4, _⟩
    rw [HQ.out]
    have HB4 := Lib.hid (HB3.out.trans (hk4.below (by omega) (fun i hi => by have := HI3.out.foot_lo i hi; omega)))
    clear ho4 hi4 hk4 ha
    go_wp2
    go_ret
    exact ⟨by simp [hal], HB4.out⟩
end Go.Proofs.Ytphahilggfckaaa
