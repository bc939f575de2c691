/-
  That the count of an address is how many holds have it: the walk of the law.
-/
import Derived.Test.YtphahilggfckaaaRefNew
import Derived.Test.YtphahilggfckaaaLaws1
set_option linter.unusedVariables false
set_option linter.unusedSimpArgs false
namespace Go.Proofs.Ytphahilggfckaaa
open Go.RowKit Mem Qm
set_option maxRecDepth 100000

theorem h12_len {q : Q} (hl : q.hs.length = q.n * 3) (hn : q.n ≤ 4) : (h12 q).length = 12 := by simp [h12, zeros_length]; omega
theorem h12_set {q q' : Q} {i : Nat} {a : Int} (hi : i < q.hs.length) (hn : q'.n = q.n) (h : q'.hs = q.hs.set i a) : h12 q' = (h12 q).set i a := by
  rw [h12, h12, List.set_append, if_pos hi, h, hn]
theorem h12_out {q q' : Q} {i : Nat} (hi : i + 2 < q.hs.length) (hn : q'.n = q.n) (h : q'.hs = ((q.hs.set (i + 0) 0).set (i + 1) 0).set (i + 2) 0) : h12 q' = (((h12 q).set i 0).set (i + 1) 0).set (i + 2) 0 := by
  rw [h12, h12, List.set_append, if_pos (by omega), List.set_append, if_pos (by rw [List.length_set]; omega), List.set_append, if_pos (by rw [List.length_set, List.length_set]; omega), h, hn]
  rfl
theorem not_foot {w : World} {B g gh b N gx : Nat} {v : Value} {q : Q} {cs : List Value} (h : IsC w B g gh b N v q) (hx : Blk w gx 31 cs) : ¬ foot g gh b v gx := by
  rintro (rfl | rfl | rfl | hk)
  · exact absurd (h.blk.type hx).1 (by decide)
  · exact absurd (h.hold.type hx).1 (by decide)
  · exact h.map.ne_blk hx rfl
  · exact Row.ne_blk h.row hx (by decide) hk
set_option maxHeartbeats 2000000 in
theorem counts_walk {w : World} {t ad : Int} {v : Value} {ds : List Deed} (h : RdD w v ds) (hwa : Wf ad) : Calls Try.prog 4 #[.int .i64 t, v, .int .i64 ad] w (Tells w true) := by
  obtain ⟨A, c, rfl, hc1, hc2⟩ := h.shape
  have HD := Lib.hid h
  have HWA := Lib.hid hwa
  clear h hwa
  go_enter Try.func4, Try.ntmps4
  go_wp2_with fail
  refine (awake_any _).mono ?_
  rintro e w1 ⟨rfl, b1⟩
  have HB1 := Lib.hid b1
  have s1 := b1.size
  clear b1
  go_wp2_with fail
  refine made_nil.mono ?_
  rintro e w2 ⟨m, g, gh, b, B, CS, h0, h1, rfl, hC, hB1, hB2, hi, b2⟩
  have HC := Lib.hid hC
  have HI2 := Lib.hid hi
  have HB2 := Lib.hid (HB1.out.trans (b2.mono s1))
  have s2 := b2.size
  clear hC hi b2
  go_wp2_with (refine wpList_store_new rfl 37 (.tmp 8) (.tmp 24) rfl CS.toArray _ 37 rfl rfl HC.out.inf (by have h9 := HC.out.len; simp [h9]) HC.out.one ?_)
  generalize hW3 : w2.alloc (.cells CS.toArray 37) = W3
  have hb3 : Below w2.heap.size w2 W3 := by rw [← hW3]; exact (Below.refl _ _).alloc (Nat.le_refl _) _
  have HI3 := Lib.hid (HI2.out.below hb3)
  have HB3 := Lib.hid (HB2.out.trans (hb3.mono (by omega)))
  have s3 := hb3.size
  have e3 : W3.heap.size = w2.heap.size + 1 := by rw [← hW3]; simp
  clear hW3 hb3
  generalize hW4 : W3.alloc _ = W4
  have hb4 : Below W3.heap.size W3 W4 := by rw [← hW4]; exact (Below.refl _ _).alloc (Nat.le_refl _) _
  have HH4 := Lib.hid (show Blk W4 W3.heap.size 31 (ints (h12 (q0 m))) by
    rw [← hW4]
    rcases (show m = 1 ∨ m = 2 ∨ m = 3 ∨ m = 4 by omega) with rfl | rfl | rfl | rfl <;> exact Blk.new W3 31 _)
  rw [e3] at HH4
  have HI4 := Lib.hid (HI3.out.below hb4)
  have HB4 := Lib.hid (HB3.out.trans (hb4.mono (by omega)))
  have s4 := hb4.size
  clear hW4 hb4
  go_loopw [11] (fun i wr => ∃ (k N : Nat) (vv : Value) (q : Q), k ≤ ds.length ∧ k ≤ 150 ∧ i = .int .i64 k ∧ IsC wr B g gh b N vv q ∧ N ≤ 6 * k ∧ Good q k ∧ NN q ∧ q.n = m ∧ B ≤ wr.heap.size ∧ Blk wr (w2.heap.size + 1) 31 (ints (h12 q)) ∧ Below w.heap.size w wr) (fun i _ => ds.length - (intOf i).toNat)
  case atStart => exact ⟨0, 0, _, q0 m, Nat.zero_le _, Nat.zero_le _, rfl, HI4.out, Nat.le_refl _, good_q0 h1, (fun x hx => by
      have : ∀ n, ∀ x ∈ zeros n, 0 ≤ x := by
        intro n
        induction n with
        | zero => intro x hx; cases hx
        | succ n ih => intro x hx; rcases List.mem_cons.1 hx with rfl | hx; exact Int.le_refl 0; exact ih x hx
      exact this _ x hx), rfl, by omega, HH4.out, HB4.out⟩
  case round =>
    obtain ⟨k, N, vv, q, hk, hk150, rfl, hi, hN, hg, hv, hn, hBr, hbx, hbel⟩ := hrel
    have HI := Lib.hid hi
    have HG := Lib.hid hg
    have HV := Lib.hid hv
    have HN := Lib.hid hn
    have HX := Lib.hid hbx
    have HB := Lib.hid hbel
    have hr0 := hbel.size
    have HDr := Lib.hid (HD.out.below hbel)
    have HLO : w.heap.size ≤ B := by omega
    clear hi hg hv hn hbx hbel
    by_cases hlt : k < ds.length
    · by_cases h15 : k < 150
      · obtain ⟨bb, off, rfl, hbb, d0, d1, d2, d3⟩ := HDr.out.at_ hlt
        have HW := Lib.hid (HD.out.wf_at hlt)
        have HG1 := Lib.hid (good_step HG.out (HD.out.wf_at hlt))
        have HV1 := Lib.hid (nn_step HV.out ds[k])
        have HN1 := Lib.hid ((step_n q ds[k]).trans HN.out)
        obtain ⟨d, hd⟩ : ∃ d, ds[k] = d := ⟨_, rfl⟩
        rw [hd] at d0 d1 d2 d3 HW HG1 HV1 HN1
        clear hd
        go_wp2_with fail
        generalize hWa : wr.alloc _ = Wa
        have hba : Below wr.heap.size wr Wa := by rw [← hWa]; exact (Below.refl _ _).alloc (Nat.le_refl _) _
        have HY := Lib.hid (show Blk Wa wr.heap.size 41 [.int .i64 d.what, .int .i64 d.th, .int .i64 d.ho, .int .i64 d.ad] by rw [← hWa]; exact Blk.new wr 41 _)
        have HIa := Lib.hid (HI.out.below hba)
        have HXa := Lib.hid (Blk.below HX.out hba)
        have HBa := Lib.hid (HB.out.trans (hba.mono hr0))
        have sa := hba.size
        clear hWa hba
        refine (do_did HIa.out HG.out (by omega) (by omega) (by omega) d HW.out).mono ?_
        rintro e w5 ⟨u1, v1, N1, rfl, _, hi5, hN1, hk5, _⟩
        have HB5 := Lib.hid (HBa.out.trans (hk5.below (by omega) (fun i hi => Nat.le_trans HLO (HIa.out.foot_lo i hi))))
        have HY5 := Lib.hid (Blk.keep HY.out hk5 (fun hf => by have := HI.out.foot_lt _ hf; omega))
        have HX5 := Lib.hid (Blk.keep HXa.out hk5 (not_foot HIa.out HXa.out))
        have HI5 := Lib.hid hi5
        have s5 := hk5.size
        clear hi5 hk5
        have y0 := Blk.cell HY5.out 0 rfl
        have y1 := Blk.cell HY5.out 1 rfl
        have y2 := Blk.cell HY5.out 2 rfl
        have y3 := Blk.cell HY5.out 3 rfl
        obtain ⟨er, her⟩ : ∃ er, (stepQ q d).2.2 = er := ⟨_, rfl⟩
        obtain ⟨q1, hq1⟩ : ∃ q1, (stepQ q d).1 = q1 := ⟨_, rfl⟩
        have HOUT := Lib.hid (step_out (q := q) (d := d))
        have HHOLD := Lib.hid (step_hold (q := q) (d := d))
        have HSAME := Lib.hid (step_same (q := q) (d := d))
        rw [hq1] at HI5 HG1 HV1 HN1 HOUT
        rw [hq1, her] at HHOLD HSAME
        rw [her]
        clear her hq1
        have HN' := HN.out
        have HLEN := Lib.hid HI.out.len
        have HDONE := Lib.hid (fun (W : World) (hI : IsC W B g gh b N1 v1 q1) (hBW : B ≤ W.heap.size) (hX : Blk W (w2.heap.size + 1) 31 (ints (h12 q1))) (hB : Below w.heap.size w W) =>
          show ∃ (k' N : Nat) (vv : Value) (q : Q), k' ≤ ds.length ∧ k' ≤ 150 ∧ Value.int .i64 ((k : Int) + 1) = .int .i64 k' ∧ IsC W B g gh b N vv q ∧ N ≤ 6 * k' ∧ Good q k' ∧ NN q ∧ q.n = m ∧ B ≤ W.heap.size ∧ Blk W (w2.heap.size + 1) 31 (ints (h12 q)) ∧ Below w.heap.size w W from
            ⟨k + 1, N1, v1, q1, by omega, by omega, by go_num, hI, by omega, HG1.out, HV1.out, HN1.out, hBW, hX, hB⟩)
        by_cases hok : q.ok d.th
        · obtain ⟨t0, ht0⟩ : ∃ t0 : Nat, d.th = t0 := ⟨d.th.toNat, by have := hok.1; omega⟩
          have htm : t0 < m := by have := hok.2; omega
          have htn : (t0 : Int) < (m : Int) := by omega
          have htn' : ¬ ((m : Int) ≤ (t0 : Int)) := by omega
          have ht4 : (t0 : Int) < 4 := by omega
          have HT := Lib.hid ht0
          have Hok := Lib.hid hok
          have HL12 := Lib.hid (h12_len HLEN.out (by omega))
          have hll : q.hs.length = m * 3 := by rw [HLEN.out, HN']
          rw [ht0] at y1
          clear hok
          by_cases hw1 : d.what = 1
          · have e0 := Blk.cell HX5.out (t0 * 3) (ints_nth _ _ (by rw [HL12.out]; omega))
            have f0 := Blk.free HX5.out (t0 * 3)
            have HX6 := Lib.hid (show Blk (w5.setCell ⟨w2.heap.size + 1, t0 * 3, none⟩ (.int .i64 0)) (w2.heap.size + 1) 31 (ints ((h12 q).set (t0 * 3) 0)) by rw [ints_set]; exact Blk.set HX5.out _ _)
            have e1 := Blk.cell HX6.out (t0 * 3 + 1) (ints_nth _ _ (by rw [List.length_set, HL12.out]; omega))
            have f1 := Blk.free HX6.out (t0 * 3 + 1)
            have HX7 := Lib.hid (show Blk ((w5.setCell ⟨w2.heap.size + 1, t0 * 3, none⟩ (.int .i64 0)).setCell ⟨w2.heap.size + 1, t0 * 3 + 1, none⟩ (.int .i64 0)) (w2.heap.size + 1) 31 (ints (((h12 q).set (t0 * 3) 0).set (t0 * 3 + 1) 0)) by rw [ints_set]; exact Blk.set HX6.out _ _)
            have e2 := Blk.cell HX7.out (t0 * 3 + 2) (ints_nth _ _ (by rw [List.length_set, List.length_set, HL12.out]; omega))
            have f2 := Blk.free HX7.out (t0 * 3 + 2)
            have HX8 := Lib.hid (show Blk (((w5.setCell ⟨w2.heap.size + 1, t0 * 3, none⟩ (.int .i64 0)).setCell ⟨w2.heap.size + 1, t0 * 3 + 1, none⟩ (.int .i64 0)).setCell ⟨w2.heap.size + 1, t0 * 3 + 2, none⟩ (.int .i64 0)) (w2.heap.size + 1) 31 (ints ((((h12 q).set (t0 * 3) 0).set (t0 * 3 + 1) 0).set (t0 * 3 + 2) 0)) by rw [ints_set]; exact Blk.set HX7.out _ _)
            have hk8 : Kept w5 (((w5.setCell ⟨w2.heap.size + 1, t0 * 3, none⟩ (.int .i64 0)).setCell ⟨w2.heap.size + 1, t0 * 3 + 1, none⟩ (.int .i64 0)).setCell ⟨w2.heap.size + 1, t0 * 3 + 2, none⟩ (.int .i64 0)) (fun i => i = w2.heap.size + 1) := (((Kept.refl w5 (fun i => i = w2.heap.size + 1)).setCell (p := ⟨w2.heap.size + 1, t0 * 3, none⟩) (.inl rfl) _).setCell (p := ⟨w2.heap.size + 1, t0 * 3 + 1, none⟩) (.inl rfl) _).setCell (p := ⟨w2.heap.size + 1, t0 * 3 + 2, none⟩) (.inl rfl) _
            have hyne : wr.heap.size ≠ w2.heap.size + 1 := by have := Blk.lt HX.out; omega
            have hy8 := Blk.keep HY5.out hk8 hyne
            rw [hw1] at hy8
            have z0 := Blk.cell hy8 0 rfl
            have HI8 := Lib.hid (HI5.out.keep hk8 (fun i hf e => not_foot HI5.out HX5.out (e ▸ hf)))
            have HB8 := Lib.hid (HB5.out.trans (hk8.below (by omega) (fun i e => by omega)))
            have s8 := hk8.size
            clear hk8 hy8 hyne
            have Hw1 := Lib.hid hw1
            rw [hw1] at y0
            clear hw1 ht0
            go_wp2
            go_roundw
            case measure => simp [intOf]; omega
            case rel =>
              refine HDONE.out _ HI8.out (by omega) ?_ HB8.out
              have := h12_out (q := q) (q' := q1) (i := t0 * 3) (by omega) (by rw [HN1.out, HN.out]) (by have := HOUT.out Hw1.out Hok.out; rw [HT.out, Int.toNat_natCast] at this; exact this)
              rw [this]
              exact HX8.out
          · by_cases hw2 : d.what = 2 ∧ er = 0
            · obtain ⟨hw2, rfl⟩ := hw2
              obtain ⟨_, k0, k3, a0, hh⟩ := HHOLD.out hw2 rfl
              obtain ⟨j0, hj0⟩ : ∃ j0 : Nat, d.ho = j0 := ⟨d.ho.toNat, by omega⟩
              have hj3 : (j0 : Int) < 3 := by omega
              rw [HT.out, Int.toNat_natCast, hj0, Int.toNat_natCast] at hh
              have HH := Lib.hid hh
              have e0 := Blk.cell HX5.out (t0 * 3 + j0) (ints_nth _ _ (by rw [HL12.out]; omega))
              have f0 := Blk.free HX5.out (t0 * 3 + j0)
              rw [hw2] at y0
              rw [hj0] at y2
              clear hw1 hw2 ht0 hh
              go_wp2
              go_region
              have hk8 : Kept w5 (w5.drew.setCell ⟨w2.heap.size + 1, t0 * 3 + j0, none⟩ (.int .i64 d.ad)) (fun i => i = w2.heap.size + 1) := ((Kept.of_below (drew_below (Below.refl w5.heap.size w5)) (fun i => i = w2.heap.size + 1))).setCell (p := ⟨w2.heap.size + 1, t0 * 3 + j0, none⟩) (.inl rfl) _
              have HI8 := Lib.hid (HI5.out.keep hk8 (fun i hf e => not_foot HI5.out HX5.out (e ▸ hf)))
              have HB8 := Lib.hid (HB5.out.trans (hk8.below (by omega) (fun i e => by omega)))
              have s8 := hk8.size
              have HX8 := Lib.hid (show Blk (w5.drew.setCell ⟨w2.heap.size + 1, t0 * 3 + j0, none⟩ (.int .i64 d.ad)) (w2.heap.size + 1) 31 (ints (h12 q1)) by
                rw [h12_set (q := q) (i := t0 * 3 + j0) (by omega) (by rw [HN1.out, HN.out]) HH.out, ints_set]
                exact Blk.set (w := w5.drew) HX5.out _ _)
              have hB8 : B ≤ (w5.drew.setCell ⟨w2.heap.size + 1, t0 * 3 + j0, none⟩ (.int .i64 d.ad)).heap.size := by omega
              clear hk8
              go_wp2
              go_roundw
              case measure => simp [intOf]; omega
              case rel => exact HDONE.out _ HI8.out hB8 HX8.out HB8.out
            · have hx1 : h12 q1 = h12 q := by rw [h12, h12, HSAME.out (fun h => hw1 h.1) hw2, HN1.out, HN.out]
              have HX6 := Lib.hid (show Blk w5 (w2.heap.size + 1) 31 (ints (h12 q1)) by rw [hx1]; exact HX5.out)
              have z1 : (d.what == 1) = false := beq_eq_false_iff_ne.2 hw1
              clear hx1
              by_cases hw3 : d.what = 2
              · have z2 : (er == 0) = false := beq_eq_false_iff_ne.2 (fun e => hw2 ⟨hw3, e⟩)
                rw [hw3] at y0
                clear hw2 hw1 z1 hw3 ht0
                go_wp2
                go_roundw
                case measure => simp [intOf]; omega
                case rel => exact HDONE.out w5 HI5.out (by omega) HX6.out HB5.out
              · have z2 : (d.what == 2) = false := beq_eq_false_iff_ne.2 hw3
                clear hw2 hw1 hw3 ht0
                go_wp2
                go_roundw
                case measure => simp [intOf]; omega
                case rel => exact HDONE.out w5 HI5.out (by omega) HX6.out HB5.out
        · have hx1 : h12 q1 = h12 q := by rw [h12, h12, HSAME.out (fun h => hok h.2) (fun h => hok (HHOLD.out h.1 h.2).1), HN1.out, HN.out]
          have HX6 := Lib.hid (show Blk w5 (w2.heap.size + 1) 31 (ints (h12 q1)) by rw [hx1]; exact HX5.out)
          clear hx1
          by_cases ht0 : d.th < 0
          · clear hok
            go_wp2
            go_roundw
            case measure => simp [intOf]; omega
            case rel => exact HDONE.out w5 HI5.out (by omega) HX6.out HB5.out
          · have ht1 : (m : Int) ≤ d.th := by
              have : ¬ (0 ≤ d.th ∧ d.th < (q.n : Int)) := hok
              omega
            clear hok
            go_wp2
            go_roundw
            case measure => simp [intOf]; omega
            case rel => exact HDONE.out w5 HI5.out (by omega) HX6.out HB5.out
      · go_wp2_with fail
        have HBX := Lib.hid HX.out
        have hl12 := h12_len HI.out.len (by have := HN.out; omega)
        go_loop [15, 16] (fun c' t' => ∃ (j : Nat) (cc : Int), j ≤ m ∧ t' = .int .i64 j ∧ c' = .int .i64 cc ∧ 0 ≤ cc ∧ cc ≤ 3 * j ∧ Hid (cc = if 0 < ad then (cnt ((h12 q).take (j * 3)) ad : Int) else 0)) (fun _ t' => m - (intOf t').toNat)
        case atStart => exact ⟨0, 0, Nat.zero_le _, rfl, rfl, by omega, by omega, Lib.hid (by simp [cnt])⟩
        case round =>
          obtain ⟨j, cc, hj, rfl, rfl, hc0, hc3, HCC⟩ := hrel
          by_cases hjm : j < m
          · go_wp2_with fail
            go_loop [15, 17] (fun c' t' => ∃ (l : Nat) (cc : Int), l ≤ 3 ∧ t' = .int .i64 l ∧ c' = .int .i64 cc ∧ 0 ≤ cc ∧ cc ≤ 3 * j + l ∧ Hid (cc = if 0 < ad then (cnt ((h12 q).take (j * 3 + l)) ad : Int) else 0)) (fun _ t' => 3 - (intOf t').toNat)
            case atStart => exact ⟨0, cc, Nat.zero_le _, rfl, rfl, hc0, by omega, HCC⟩
            case round =>
              obtain ⟨l, c2, hl, rfl, rfl, hd0, hd3, HC2⟩ := hrel
              by_cases hl3 : l < 3
              · have hjl : j * 3 + l < (h12 q).length := by rw [hl12]; omega
                have e0 := Blk.cell HBX.out (j * 3 + l) (Qm.ints_at _ _ hjl)
                have HS := Lib.hid (cnt_snoc hjl ad)
                have jl0 : (l : Int) < 3 := by omega
                have jj4 : (j : Int) < 4 := by omega
                obtain ⟨x, hx⟩ : ∃ x, (h12 q)[j * 3 + l] = x := ⟨_, rfl⟩
                rw [hx] at e0 HS
                clear hx
                by_cases ha : 0 < ad
                · by_cases hxa : x = ad
                  · have hb : (x == ad) = true := beq_iff_eq.2 hxa
                    have Hxa := Lib.hid hxa
                    clear hxa
                    go_wp2
                    go_round
                    case measure => simp [intOf]; omega
                    case rel => exact ⟨l + 1, c2 + 1, by omega, by go_num, by go_num, by omega, by omega, Lib.hid (by
                      have h1 := HC2.out; have h2 := HS.out; rw [if_pos ha] at h1 ⊢; rw [if_pos Hxa.out] at h2; rw [← Nat.add_assoc, h2]; omega)⟩
                  · have hb : (x == ad) = false := beq_eq_false_iff_ne.2 hxa
                    have Hxa := Lib.hid hxa
                    clear hxa
                    go_wp2
                    go_round
                    case measure => simp [intOf]; omega
                    case rel => exact ⟨l + 1, c2, by omega, by go_num, rfl, by omega, by omega, Lib.hid (by
                      have h1 := HC2.out; have h2 := HS.out; rw [if_pos ha] at h1 ⊢; rw [if_neg Hxa.out] at h2; rw [← Nat.add_assoc, h2]; omega)⟩
                · go_wp2
                  go_round
                  case measure => simp [intOf]; omega
                  case rel => exact ⟨l + 1, c2, by omega, by go_num, rfl, by omega, by omega, Lib.hid (by
                    have h1 := HC2.out; rw [if_neg ha] at h1 ⊢; exact h1)⟩
              · have hle : l = 3 := by omega
                have HC3 := Lib.hid (show c2 = if 0 < ad then (cnt ((h12 q).take ((j + 1) * 3)) ad : Int) else 0 by have := HC2.out; rw [hle] at this; rw [Nat.succ_mul]; exact this)
                clear HC2 hle
                go_wp2
                go_round
                case measure => simp [intOf]; omega
                case rel => exact ⟨j + 1, c2, by omega, by go_num, rfl, by omega, by omega, HC3⟩
          · have hje : j = m := by omega
            have HEQ := Lib.hid (show q.c ad = cc by
              have h1 := HCC.out
              rw [c_count HV.out, h1, hje]
              have : (h12 q).take (m * 3) = q.hs := by rw [h12]; exact List.take_left' (by rw [HI.out.len, HN.out])
              rw [this])
            clear hje
            go_wp2_with fail
            refine (count_yes HI.out ⟨by decide, by have := HN.out; omega⟩ HWA.out).mono ?_
            rintro e w9 ⟨rfl, rfl⟩
            rw [HEQ.out]
            go_wp2
            go_ret
            exact ⟨by simp, HB.out⟩
    · go_wp2_with fail
      have HBX := Lib.hid HX.out
      have hl12 := h12_len HI.out.len (by have := HN.out; omega)
      go_loop [15, 16] (fun c' t' => ∃ (j : Nat) (cc : Int), j ≤ m ∧ t' = .int .i64 j ∧ c' = .int .i64 cc ∧ 0 ≤ cc ∧ cc ≤ 3 * j ∧ Hid (cc = if 0 < ad then (cnt ((h12 q).take (j * 3)) ad : Int) else 0)) (fun _ t' => m - (intOf t').toNat)
      case atStart => exact ⟨0, 0, Nat.zero_le _, rfl, rfl, by omega, by omega, Lib.hid (by simp [cnt])⟩
      case round =>
        obtain ⟨j, cc, hj, rfl, rfl, hc0, hc3, HCC⟩ := hrel
        by_cases hjm : j < m
        · go_wp2_with fail
          go_loop [15, 17] (fun c' t' => ∃ (l : Nat) (cc : Int), l ≤ 3 ∧ t' = .int .i64 l ∧ c' = .int .i64 cc ∧ 0 ≤ cc ∧ cc ≤ 3 * j + l ∧ Hid (cc = if 0 < ad then (cnt ((h12 q).take (j * 3 + l)) ad : Int) else 0)) (fun _ t' => 3 - (intOf t').toNat)
          case atStart => exact ⟨0, cc, Nat.zero_le _, rfl, rfl, hc0, by omega, HCC⟩
          case round =>
            obtain ⟨l, c2, hl, rfl, rfl, hd0, hd3, HC2⟩ := hrel
            by_cases hl3 : l < 3
            · have hjl : j * 3 + l < (h12 q).length := by rw [hl12]; omega
              have e0 := Blk.cell HBX.out (j * 3 + l) (Qm.ints_at _ _ hjl)
              have HS := Lib.hid (cnt_snoc hjl ad)
              have jl0 : (l : Int) < 3 := by omega
              have jj4 : (j : Int) < 4 := by omega
              obtain ⟨x, hx⟩ : ∃ x, (h12 q)[j * 3 + l] = x := ⟨_, rfl⟩
              rw [hx] at e0 HS
              clear hx
              by_cases ha : 0 < ad
              · by_cases hxa : x = ad
                · have hb : (x == ad) = true := beq_iff_eq.2 hxa
                  have Hxa := Lib.hid hxa
                  clear hxa
                  go_wp2
                  go_round
                  case measure => simp [intOf]; omega
                  case rel => exact ⟨l + 1, c2 + 1, by omega, by go_num, by go_num, by omega, by omega, Lib.hid (by
                    have h1 := HC2.out; have h2 := HS.out; rw [if_pos ha] at h1 ⊢; rw [if_pos Hxa.out] at h2; rw [← Nat.add_assoc, h2]; omega)⟩
                · have hb : (x == ad) = false := beq_eq_false_iff_ne.2 hxa
                  have Hxa := Lib.hid hxa
                  clear hxa
                  go_wp2
                  go_round
                  case measure => simp [intOf]; omega
                  case rel => exact ⟨l + 1, c2, by omega, by go_num, rfl, by omega, by omega, Lib.hid (by
                    have h1 := HC2.out; have h2 := HS.out; rw [if_pos ha] at h1 ⊢; rw [if_neg Hxa.out] at h2; rw [← Nat.add_assoc, h2]; omega)⟩
              · go_wp2
                go_round
                case measure => simp [intOf]; omega
                case rel => exact ⟨l + 1, c2, by omega, by go_num, rfl, by omega, by omega, Lib.hid (by
                  have h1 := HC2.out; rw [if_neg ha] at h1 ⊢; exact h1)⟩
            · have hle : l = 3 := by omega
              have HC3 := Lib.hid (show c2 = if 0 < ad then (cnt ((h12 q).take ((j + 1) * 3)) ad : Int) else 0 by have := HC2.out; rw [hle] at this; rw [Nat.succ_mul]; exact this)
              clear HC2 hle
              go_wp2
              go_round
              case measure => simp [intOf]; omega
              case rel => exact ⟨j + 1, c2, by omega, by go_num, rfl, by omega, by omega, HC3⟩
        · have hje : j = m := by omega
          have HEQ := Lib.hid (show q.c ad = cc by
            have h1 := HCC.out
            rw [c_count HV.out, h1, hje]
            have : (h12 q).take (m * 3) = q.hs := by rw [h12]; exact List.take_left' (by rw [HI.out.len, HN.out])
            rw [this])
          clear hje
          go_wp2_with fail
          refine (count_yes HI.out ⟨by decide, by have := HN.out; omega⟩ HWA.out).mono ?_
          rintro e w9 ⟨rfl, rfl⟩
          rw [HEQ.out]
          go_wp2
          go_ret
          exact ⟨by simp, HB.out⟩
end Go.Proofs.Ytphahilggfckaaa
