/-
  That whatever is done with a manager, it tells what the specification says: the walk of the law.
-/
import Derived.Test.YtphahilggfckaaaLaws2
set_option linter.unusedVariables false
set_option linter.unusedSimpArgs false
namespace Go.Proofs.Ytphahilggfckaaa
open Go.RowKit Mem Qm
set_option maxRecDepth 100000

theorem rnew10_no {w : World} {n : Int} (h : ¬ (1 ≤ n ∧ n ≤ 4)) :
    Calls Try.prog 34 #[.int .i64 4, .int .i64 n] w fun e w' => e = .returned (.tuple #[.agg zCells.toArray, .int .i64 1]) ∧ Below w.heap.size w w' := by
  obtain ⟨CS, hCS⟩ : ∃ CS, zCells = CS := ⟨_, rfl⟩
  have HCS := Lib.hid hCS
  have hC := Lib.hid (thirty (CS := CS) (by rw [← hCS]; rfl) (by rw [← hCS]; simp [zCells, ints, bools, zeros, Value.oneCell']))
  clear hCS
  rcases (show n < 1 ∨ (¬ n < 1 ∧ 4 < n) by omega) with h2 | ⟨h2, h3⟩
  all_goals
    clear h
    go_enter Try.func34, Try.ntmps34
    go_wp2_with (first
      | (refine wpList_build_as rfl 37 _ rfl CS.toArray (by rw [← HCS.out]; kernel_rfl) ?_)
      | (refine wpList_store_new rfl 37 (.tmp 4) (.tmp 20) rfl CS.toArray _ 37 rfl rfl hC.out.inf (by have h9 := hC.out.len; simp [h9]) hC.out.one ?_))
    refine bodyPost_ret_by (results_cell_tmp_row rfl _ _ w.heap.size 37 CS.toArray (0, 0) _ rfl (heap_alloc_last w _) Try.underlying37 rfl hC.out.inf) rfl ?_
    exact ⟨by rw [HCS.out]; rfl, (Below.refl _ _).alloc (Nat.le_refl _) _⟩
theorem rnew12_no {w : World} {n : Int} (h : ¬ (1 ≤ n ∧ n ≤ 4)) :
    Calls Try.prog 19 #[.int .i64 n] w fun e w' => e = .returned (.tuple #[.agg zCells.toArray, .int .i64 1]) ∧ Below w.heap.size w w' := by
  have Hh := Lib.hid h
  clear h
  go_enter Try.func19, Try.ntmps19
  go_wp2_with fail
  have bA : Below w.heap.size w (w.alloc (.cells zCells.toArray 37)) := (Below.refl _ _).alloc (Nat.le_refl _) _
  have HBA := Lib.hid bA
  have sA := bA.size
  have hblk : Blk (w.alloc (.cells zCells.toArray 37)) w.heap.size 37 zCells := Blk.new w 37 zCells
  have HK := Lib.hid hblk
  clear bA hblk
  refine (rnew10_no Hh.out).mono ?_
  rintro e w1 ⟨rfl, b1⟩
  have HB1 := Lib.hid (HBA.out.trans (b1.mono sA))
  have HK1 := Lib.hid (HK.out.below b1)
  clear b1
  obtain ⟨CS, hCS⟩ : ∃ CS, zCells = CS := ⟨_, rfl⟩
  rw [hCS] at HK1 ⊢
  have hC := Lib.hid (thirty (CS := CS) (by rw [← hCS]; rfl) (by rw [← hCS]; simp [zCells, ints, bools, zeros, Value.oneCell']))
  have HCS := Lib.hid hCS
  clear hCS HK
  go_wp2_with (refine wpList_store_row rfl 37 (.tmp 2) (.tmp 6) rfl w.heap.size CS.toArray rfl rfl 37 CS.toArray HK1.out hC.out.inf rfl hC.out.one ?_)
  have HK2 := Lib.hid (Blk.setRow_ HK1.out CS)
  have HB2 := Lib.hid (Below.setRow_ HB1.out (Nat.le_refl _) CS.toArray)
  refine bodyPost_ret_by (results_cell_tmp_row rfl _ _ w.heap.size 37 CS.toArray (0, 0) _ rfl HK2.out Try.underlying37 rfl hC.out.inf) rfl ?_
  exact ⟨by rw [HCS.out]; rfl, HB2.out⟩
set_option maxHeartbeats 2000000 in
theorem scripts_walk {w : World} {t : Int} {v : Value} {ds : List Deed} (h : RdD w v ds) : Calls Try.prog 5 #[.int .i64 t, v] w (Tells w true) := by
  obtain ⟨A, c, rfl, hc1, hc2⟩ := h.shape
  have HD := Lib.hid h
  clear h
  by_cases ht : 1 ≤ t ∧ t ≤ 4
  · obtain ⟨m, rfl⟩ : ∃ m : Nat, t = m := ⟨t.toNat, by omega⟩
    have h0 : 1 ≤ m := by omega
    have h1 : m ≤ 4 := by omega
    clear ht
    go_enter Try.func5, Try.ntmps5
    go_wp2_with fail
    refine (awake_any _).mono ?_
    rintro e w1 ⟨rfl, b1⟩
    have HB1 := Lib.hid b1
    have s1 := b1.size
    clear b1
    go_wp2_with fail
    refine (new_yes h0 h1).mono ?_
    rintro e w2 ⟨rfl, hi2, b2⟩
    have HI2 := Lib.hid hi2
    have HB2 := Lib.hid (HB1.out.trans (b2.mono s1))
    have s2 := b2.size
    clear b2 hi2
    go_wp2_with fail
    refine (rnew12_yes h0 h1).mono ?_
    rintro e w3 ⟨rfl, b3⟩
    have HI3 := Lib.hid (HI2.out.below b3)
    have HB3 := Lib.hid (HB2.out.trans (b3.mono (by omega)))
    have s3 := b3.size
    clear b3
    rw [rCells_eq h0 h1]
    have hC := Lib.hid (isV_q0 w3 0 h0 h1).thirty
    obtain ⟨CS, hCS⟩ : ∃ CS, mCells (q0 m) [false, false, false, false] (.slice none 0 0) = CS := ⟨_, rfl⟩
    rw [hCS] at hC ⊢
    go_wp2_with (refine wpList_store_new rfl 37 (.tmp 7) (.tmp 24) rfl CS.toArray _ 37 rfl rfl hC.out.inf (by have h9 := hC.out.len; simp [h9]) hC.out.one ?_)
    generalize hW4 : w3.alloc _ = W4
    have hb4 : Below w3.heap.size w3 W4 := by rw [← hW4]; exact (Below.refl _ _).alloc (Nat.le_refl _) _
    have HM4 := Lib.hid ((isV_q0 W4 w.heap.size h0 h1).put (g := w3.heap.size) (by rw [hCS, ← hW4]; exact Blk.new w3 37 CS) (by omega))
    have HI4 := Lib.hid ((HI3.out.below hb4).lower s1)
    have HB4 := Lib.hid (HB3.out.trans (hb4.mono (by omega)))
    have s4 := hb4.size
    clear hW4 hb4 hCS
    go_loopw [9] (fun i wr => ∃ (k N : Nat) (v mv : Value) (q : Q) (bl : List Bool) (its : List It), k ≤ ds.length ∧ k ≤ 150 ∧ i = .int .i64 k ∧ IsC wr w.heap.size (w1.heap.size + 2) w1.heap.size (w1.heap.size + 1) N v q ∧ IsM wr w.heap.size w3.heap.size mv q bl its ∧ N ≤ 6 * k ∧ Good q k ∧ NN q ∧ q.n = m ∧ Below w.heap.size w wr) (fun i _ => ds.length - (intOf i).toNat)
    case atStart => exact ⟨0, 0, _, _, q0 m, _, _, Nat.zero_le _, Nat.zero_le _, rfl, HI4.out, HM4.out, Nat.le_refl _, good_q0 h1, nn_q0 m, rfl, HB4.out⟩
    case round =>
      clear HI2 HI3 HI4 HM4 HB1 HB2 HB3 HB4 hC
      obtain ⟨k, N, v, mv, q, bl, its, hk, hk150, rfl, hi, hM, hN, hg, hnn, hn, hbel⟩ := hrel
      have HI := Lib.hid hi
      have HMM := Lib.hid hM
      have HG := Lib.hid hg
      have HNN := Lib.hid hnn
      have HN := Lib.hid hn
      have HB := Lib.hid hbel
      have hr0 := hbel.size
      have HDr := Lib.hid (HD.out.below hbel)
      clear hi hM hg hnn hn hbel
      by_cases hlt : k < ds.length
      · by_cases h15 : k < 150
        · obtain ⟨bb, off, rfl, hbb, d0, d1, d2, d3⟩ := HDr.out.at_ hlt
          have HW := Lib.hid (HD.out.wf_at hlt)
          have HG1 := Lib.hid (good_step HG.out (HD.out.wf_at hlt))
          have HNN1 := Lib.hid (nn_step HNN.out ds[k])
          have HN1 := Lib.hid ((step_n q ds[k]).trans HN.out)
          have hil := HMM.out.ilen
          have hql := HG.out.len
          have hil1 : its.length < 800000 := by omega
          clear hil hql
          go_wp2_with fail
          refine (do_did HI.out HG.out (by omega) (by omega) hr0 ds[k] HW.out).mono ?_
          rintro e w4 ⟨u1, v1, N1, rfl, ho4, hi4, hN1, hk4, _⟩
          have HO4 := Lib.hid ho4
          have HI4 := Lib.hid hi4
          have HM4 := Lib.hid (HMM.out.keep hk4 (fun i hm hf => apart_cm HI.out HMM.out i hf hm))
          have HB4 := Lib.hid (HB.out.trans (hk4.below hr0 (fun i hi => HI.out.foot_lo _ hi)))
          have HD4 := Lib.hid (HD.out.below HB4.out)
          have s4 := hk4.size
          clear ho4 hi4 hk4 d0 d1 d2 d3
          obtain ⟨bb', off', hbe, hbb', d0, d1, d2, d3⟩ := HD4.out.at_ hlt
          injection hbe with hbe
          injection hbe with hb1 hb2
          subst hb1 hb2
          go_wp2_with fail
          refine (told_did HM4.out HNN.out (by omega) hil1 ds[k]).mono ?_
          rintro e w5 ⟨u2, mv2, bl2, its2, rfl, ho5, hm5, hk5, _⟩
          have HM5 := Lib.hid hm5
          have HI5 := Lib.hid (HI4.out.keep hk5 (fun i hf hm => apart_cm HI4.out HM4.out i hf hm))
          have HO5 := Lib.hid ho5
          have HP5 := Lib.hid (Row.keep HO4.out hk5 (fun i hi hf => by
            have h1 := (Row.at_lt HO4.out hi).1
            have h2 := HMM.out.foot_lt i hf
            omega))
          have HB5 := Lib.hid (HB4.out.trans (hk5.below (by omega) (fun i hi => HM4.out.foot_lo _ hi)))
          have s5 := hk5.size
          have HD5 := Lib.hid (HD.out.below HB5.out)
          clear hm5 hk5 ho5 d0 d1 d2 d3
          obtain ⟨bb', off', hbe, hbb', _, _, _, d3⟩ := HD5.out.at_ hlt
          injection hbe with hbe
          injection hbe with hb1 hb2
          subst hb1 hb2
          obtain ⟨q1, hq1⟩ : ∃ q1, (stepQ q ds[k]).1 = q1 := ⟨_, rfl⟩
          obtain ⟨l1, hl1⟩ : ∃ l1, (stepQ q ds[k]).2.1 = l1 := ⟨_, rfl⟩
          obtain ⟨er, her⟩ : ∃ er, (stepQ q ds[k]).2.2 = er := ⟨_, rfl⟩
          obtain ⟨ad, had⟩ : ∃ ad, ds[k].ad = ad := ⟨_, rfl⟩
          rw [hq1] at HI5 HM5 HG1 HNN1 HN1
          rw [hl1] at HO5 HP5
          rw [had] at d3 HW
          rw [her]
          clear hq1 hl1 her had
          have HOK := Lib.hid (show q1.ok 0 from ⟨Int.le_refl 0, by have := HN1.out; omega⟩)
          have hq1l : q1.ws.length < 1000000 := by have := HG1.out.len; omega
          have hi2l : its2.length < 1000000 := by rw [HM5.out.ilen]; exact hq1l
          have w0 : (er != er) = false := by simp
          go_wp2_with fail
          go_region_held3 (fun w' => w'.cell? ⟨bb, off + k * 4 + 3, none⟩ = some (.int .i64 ad))
            (first | go_keep | exact z1 | exact z2 | exact z3 | exact z4)
            (first
              | (go_at_call 21; refine (same_any (a := l1) (b := l1) (by exact Row.rd HP5.out) (by exact Row.rd HO5.out)).mono ?_; rintro e wa ⟨rfl, ba⟩; rw [show decide (l1 = l1) = true from decide_eq_true rfl]; have bra : Below w5.heap.size w5 wa := ((Below.refl _ _).drew).trans ba; have HBa := Lib.hid bra; have z1 := (bra.cell (p := ⟨bb, off + k * 4 + 3, none⟩) hbb').trans d3; have HIa := Lib.hid (HI5.out.below bra); have HMa := Lib.hid (HM5.out.below bra); clear ba bra)
              | (go_at_call 22; refine (waiting_yes HIa.out HOK.out hq1l).mono ?_; rintro e wb ⟨u3, rfl, ob, bb2⟩; have HBb := Lib.hid (HBa.out.trans (bb2.mono HBa.out.size)); have z2 := (HBb.out.cell (p := ⟨bb, off + k * 4 + 3, none⟩) hbb').trans d3; have HIb := Lib.hid (HIa.out.below bb2); have HMb := Lib.hid (HMa.out.below bb2); have HOb := Lib.hid ob; clear ob bb2)
              | (go_at_call 23; refine (rwaiting_any HMb.out hi2l).mono ?_; rintro e wc ⟨u4, rfl, oc, bc⟩; have HBc := Lib.hid (HBb.out.trans (bc.mono HBb.out.size)); have z3 := (HBc.out.cell (p := ⟨bb, off + k * 4 + 3, none⟩) hbb').trans d3; have HIc := Lib.hid (HIb.out.below bc); have HMc := Lib.hid (HMb.out.below bc); have HOc := Lib.hid oc; have HPc := Lib.hid (Row.below HOb.out bc); clear oc bc)
              | (go_at_call 21; refine (same_any (a := q1.ws) (b := q1.ws) (Row.rd HPc.out) (Row.rd HOc.out)).mono ?_; rintro e wd ⟨rfl, bd⟩; rw [show decide (q1.ws = q1.ws) = true from decide_eq_true rfl]; have HBd := Lib.hid (HBc.out.trans (bd.mono HBc.out.size)); have z4 := (HBd.out.cell (p := ⟨bb, off + k * 4 + 3, none⟩) hbb').trans d3; have HId := Lib.hid (HIc.out.below bd); have HMd := Lib.hid (HMc.out.below bd); clear bd)
              | (go_at_call 17; refine (count_yes HId.out HOK.out HW.out).mono ?_; rintro e we ⟨rfl, rfl⟩)
              | (go_at_call 24; refine (rcount_any HMd.out HNN1.out ad).mono ?_; rintro e we ⟨rfl, rfl⟩))
          all_goals
            go_wp2
            go_roundw
            case measure => simp [intOf]; omega
            case rel => exact ⟨k + 1, N1, v1, mv2, q1, bl2, its2, by omega, by omega, by go_num, HId.out, HMd.out, by omega, HG1.out, HNN1.out, HN1.out, HB5.out.trans (HBd.out.mono HB5.out.size)⟩
        · go_wp2
          go_ret
          exact ⟨rfl, HB.out⟩
      · go_wp2
        go_ret
        exact ⟨rfl, HB.out⟩
  · have Ht := Lib.hid ht
    clear ht
    go_enter Try.func5, Try.ntmps5
    go_wp2_with fail
    refine (awake_any _).mono ?_
    rintro e w1 ⟨rfl, b1⟩
    have HB1 := Lib.hid b1
    have s1 := b1.size
    clear b1
    go_wp2_with fail
    refine (new_no Ht.out).mono ?_
    rintro e w2 ⟨rfl, rfl⟩
    go_wp2_with fail
    refine (rnew12_no Ht.out).mono ?_
    rintro e w3 ⟨rfl, b3⟩
    have HB3 := Lib.hid (HB1.out.trans (b3.mono (by omega)))
    have s3 := b3.size
    clear b3
    obtain ⟨CS, hCS⟩ : ∃ CS, zCells = CS := ⟨_, rfl⟩
    rw [hCS]
    have hC := Lib.hid (thirty (CS := CS) (by rw [← hCS]; rfl) (by rw [← hCS]; simp [zCells, ints, bools, zeros, Value.oneCell']))
    clear hCS
    go_wp2_with (refine wpList_store_new rfl 37 (.tmp 7) (.tmp 24) rfl CS.toArray _ 37 rfl rfl hC.out.inf (by have h9 := hC.out.len; simp [h9]) hC.out.one ?_)
    generalize hW4 : w3.alloc _ = W4
    have hb4 : Below w3.heap.size w3 W4 := by rw [← hW4]; exact (Below.refl _ _).alloc (Nat.le_refl _) _
    have HB4 := Lib.hid (HB3.out.trans (hb4.mono (by omega)))
    clear hW4 hb4
    go_loop [9] (fun i => i = .int .i64 0) (fun _ => 0)
    case atStart => rfl
    case round =>
      obtain rfl := hrel
      by_cases hl : 0 < ds.length
      · go_wp2
        go_ret
        exact ⟨rfl, HB4.out⟩
      · go_wp2
        go_ret
        exact ⟨rfl, HB4.out⟩
end Go.Proofs.Ytphahilggfckaaa
