/-
  That a copy tells the same, and is independent: the walk of the law.
-/
import Derived.Test.YtphahilggfckaaaCopy
set_option linter.unusedVariables false
set_option linter.unusedSimpArgs false
namespace Go.Proofs.Ytphahilggfckaaa
open Go.RowKit Mem Qm
set_option maxRecDepth 100000

theorem moved_foot {w : World} {g gh b : Nat} {v v' : Value} (h : Moved w v v') : ∀ k, foot g gh b v' k → foot g gh b v k ∨ w.heap.size ≤ k := by
  rintro k (rfl | rfl | rfl | hk)
  · exact .inl (.inl rfl)
  · exact .inl (.inr (.inl rfl))
  · exact .inl (.inr (.inr (.inl rfl)))
  · exact (h k hk).imp (fun h => .inr (.inr (.inr h))) id
theorem IsV.room {w : World} {B : Nat} {mv : Value} {q : Q} {bl : List Bool} {its : List It} (h : IsV w B mv q bl its) (cap : Nat) (rest : List Value) : IsV w B mv (q.room cap rest) bl its := ⟨h.row, h.h12, h.b4, h.eqw, h.n1, h.n4, h.len⟩
theorem IsV.lower {w : World} {B B' : Nat} {mv : Value} {q : Q} {bl : List Bool} {its : List It} (h : IsV w B mv q bl its) (hB : B' ≤ B) : IsV w B' mv q bl its := ⟨Row.mono h.row hB, h.h12, h.b4, h.eqw, h.n1, h.n4, h.len⟩
theorem good_room {q : Q} {k : Nat} (h : Good q k) (cap : Nat) (rest : List Value) : Good (q.room cap rest) k := ⟨h.n4, h.len, h.hwf, h.wf⟩
set_option maxHeartbeats 2000000 in
theorem copies_walk {w : World} {t : Int} {v0 v : Value} {bs ds : List Deed} (hb : RdD w v0 bs) (h : RdD w v ds) : Calls Try.prog 11 #[.int .i64 t, v0, v] w (Tells w true) := by
  obtain ⟨A, c, rfl, hc1, hc2⟩ := h.shape
  have HD := Lib.hid h
  have HBS := Lib.hid hb
  clear h hb
  go_enter Try.func11, Try.ntmps11
  go_wp2_with fail
  refine (awake_any _).mono ?_
  rintro e w1 ⟨rfl, b1⟩
  have HB1 := Lib.hid b1
  have HBS1 := Lib.hid (HBS.out.below b1)
  have s1 := b1.size
  clear b1
  go_wp2_with fail
  refine (made_any HBS1.out).mono ?_
  rintro e w2 ⟨m, g, gh, b, B, N, vv, mv, q, bl, its, CS, h0, h1, rfl, hC, hCS, hB1, hB2, hi, hV, hN, hG, hNN, hInv, hn, b2⟩
  have HC := Lib.hid hC
  have HCS := Lib.hid hCS
  have HI2 := Lib.hid hi
  have HV2 := Lib.hid hV
  have HG2 := Lib.hid hG
  have HNN2 := Lib.hid hNN
  have HN2 := Lib.hid hn
  have HB2 := Lib.hid (HB1.out.trans (b2.mono s1))
  have s2 := b2.size
  clear hC hCS hi hV hG hNN hInv hn b2
  go_wp2_with (refine wpList_store_new rfl 37 (.tmp 8) (.tmp 24) rfl CS.toArray _ 37 rfl rfl HC.out.inf (by have h9 := HC.out.len; simp [h9]) HC.out.one ?_)
  generalize hW3 : w2.alloc _ = W3
  have hb3 : Below w2.heap.size w2 W3 := by rw [← hW3]; exact (Below.refl _ _).alloc (Nat.le_refl _) _
  have HM3 := Lib.hid ((HV2.out.below hb3).put (g := w2.heap.size) (by rw [← HCS.out, ← hW3]; exact Blk.new w2 37 CS) (by omega))
  have HI3 := Lib.hid (HI2.out.below hb3)
  have HB3 := Lib.hid (HB2.out.trans (hb3.mono (by omega)))
  have s3 := hb3.size
  have HOK := Lib.hid (show q.ok 0 from ⟨Int.le_refl 0, by have := HN2.out; omega⟩)
  have hwl := HG2.out.len
  clear hW3 hb3
  go_wp2_with fail
  refine (copy_yes HI3.out HOK.out (by have := HN2.out; omega) (by omega)).mono ?_
  rintro e w4 ⟨gx, ghx, bx, vx, cap, rest, rfl, hx4, b4⟩
  have HLT := Lib.hid (fun k hk => HI3.out.foot_lt k hk)
  have HI4 := Lib.hid (HI3.out.below b4)
  have HM4 := Lib.hid (HM3.out.below b4)
  have HX4 := Lib.hid hx4
  have HB4 := Lib.hid (HB3.out.trans (b4.mono (by omega)))
  have s4 := b4.size
  clear hx4 b4
  go_wp2_with fail
  refine (waiting_yes HI4.out HOK.out (by omega)).mono ?_
  rintro e w5 ⟨u5, rfl, ho5, b5⟩
  have HI5 := Lib.hid (HI4.out.below b5)
  have HM5 := Lib.hid (HM4.out.below b5)
  have HX5 := Lib.hid (HX4.out.below b5)
  have HO5 := Lib.hid ho5
  have HB5 := Lib.hid (HB4.out.trans (b5.mono (by omega)))
  have HAP := Lib.hid (show ∀ i, u5.ownBlock = some i → ¬ foot gx ghx bx vx i from fun i hi hf => by
    have h1 := (Row.at_lt ho5 hi).1
    have h2 := HX4.out.foot_lt i hf
    omega)
  have s5 := b5.size
  clear ho5 b5
  go_wp2_with fail
  go_loopw [12] (fun i wr => ∃ (k Nx : Nat) (vx mv : Value) (qx : Q) (bl : List Bool) (its : List It), k ≤ ds.length ∧ k ≤ 150 ∧ i = .int .i64 k ∧ IsC wr B g gh b N vv q ∧ IsC wr W3.heap.size gx ghx bx Nx vx qx ∧ IsM wr B w2.heap.size mv qx bl its ∧ Own wr w4.heap.size u5 q.ws ∧ Hid (∀ i, u5.ownBlock = some i → ¬ foot gx ghx bx vx i) ∧ Nx ≤ 900 + 6 * k ∧ Good qx (150 + k) ∧ NN qx ∧ qx.n = m ∧ W3.heap.size ≤ wr.heap.size ∧ Below w.heap.size w wr) (fun i _ => ds.length - (intOf i).toNat)
  case atStart => exact ⟨0, N, vx, mv, q.room cap rest, bl, its, Nat.zero_le _, Nat.zero_le _, rfl, HI5.out, HX5.out, (HM5.out.val.room cap rest).put (g := w2.heap.size) HM5.out.blk HM5.out.lo, HO5.out, HAP, by omega, good_room HG2.out cap rest, HNN2.out, HN2.out, by omega, HB5.out⟩
  case round =>
    clear HI2 HI3 HI4 HI5 HM3 HM4 HM5 HX4 HX5 HO5 HAP HB1 HB2 HB3 HB4 HB5 HV2 HC HCS HNN2
    obtain ⟨k, Nx, vx', mv', qx, bl', its', hk, hk150, rfl, hi, hx, hM, ho, HAP, hNx, hg, hnn, hn, hsz, hbel⟩ := hrel
    have HI := Lib.hid hi
    have HX := Lib.hid hx
    have HMM := Lib.hid hM
    have HO := Lib.hid ho
    have HG := Lib.hid hg
    have HNN := Lib.hid hnn
    have HN := Lib.hid hn
    have HB := Lib.hid hbel
    have hr0 := hbel.size
    have HDr := Lib.hid (HD.out.below hbel)
    clear hi hx hM ho hg hnn hn hbel
    by_cases hlt : k < ds.length ∧ k < 150
    · obtain ⟨hlt, h15⟩ := hlt
      obtain ⟨bb, off, rfl, hbb, d0, d1, d2, d3⟩ := HDr.out.at_ hlt
      have HW := Lib.hid (HD.out.wf_at hlt)
      have HG1 := Lib.hid (good_step HG.out (HD.out.wf_at hlt))
      have HNN1 := Lib.hid (nn_step HNN.out ds[k])
      have HN1 := Lib.hid ((step_n qx ds[k]).trans HN.out)
      have hil := HMM.out.ilen
      have hql := HG.out.len
      have hil1 : its'.length < 800000 := by omega
      clear hil hql
      go_wp2_with fail
      refine (do_did HX.out HG.out (by omega) (by omega) hsz ds[k] HW.out).mono ?_
      rintro e w6 ⟨u1, v1, N1, rfl, ho6, hi6, hN1, hk6, hm6⟩
      have HO6 := Lib.hid ho6
      have HX6 := Lib.hid hi6
      have HI6 := Lib.hid (HI.out.keep hk6 (fun i hf hx => by
        have h1 := HLT.out i hf
        have h2 := HX.out.foot_lo i hx
        omega))
      have HM6 := Lib.hid (HMM.out.keep hk6 (fun i hm hf => apart_cm HX.out HMM.out i hf hm))
      have HU6 := Lib.hid (Row.keep HO.out hk6 (fun i hi => HAP.out i hi))
      have HAP6 := Lib.hid (show ∀ i, u5.ownBlock = some i → ¬ foot gx ghx bx v1 i from fun i hi hf => by
        rcases moved_foot hm6 i hf with e | e
        · exact HAP.out i hi e
        · have := (Row.at_lt HO.out hi).2; omega)
      have HB6 := Lib.hid (HB.out.trans (hk6.below hr0 (fun i hi => by have := HX.out.foot_lo _ hi; omega)))
      have HD6 := Lib.hid (HD.out.below HB6.out)
      have s6 := hk6.size
      clear ho6 hi6 hk6 hm6 d0 d1 d2 d3
      obtain ⟨bb', off', hbe, hbb', d0, d1, d2, d3⟩ := HD6.out.at_ hlt
      injection hbe with hbe
      injection hbe with hb1 hb2
      subst hb1 hb2
      go_wp2_with fail
      refine (told_did HM6.out HNN.out (by omega) hil1 ds[k]).mono ?_
      rintro e w7 ⟨u2, mv2, bl2, its2, rfl, ho7, hm7, hk7, _⟩
      have HM7 := Lib.hid hm7
      have HX7 := Lib.hid (HX6.out.keep hk7 (fun i hf hm => apart_cm HX6.out HM6.out i hf hm))
      have HI7 := Lib.hid (HI6.out.keep hk7 (fun i hf hm => apart_cm HI6.out HM6.out i hf hm))
      have HU7 := Lib.hid (Row.keep HU6.out hk7 (fun i hi => HM6.out.apart HU6.out i hi))
      have HO7 := Lib.hid ho7
      have HP7 := Lib.hid (Row.keep HO6.out hk7 (fun i hi => HM6.out.apart HO6.out i hi))
      have HB7 := Lib.hid (HB6.out.trans (hk7.below (by omega) (fun i hi => by have := HM6.out.foot_lo _ hi; omega)))
      have s7 := hk7.size
      clear hm7 hk7 ho7 d0 d1 d2 d3
      obtain ⟨q1, hq1⟩ : ∃ q1, (stepQ qx ds[k]).1 = q1 := ⟨_, rfl⟩
      obtain ⟨l1, hl1⟩ : ∃ l1, (stepQ qx ds[k]).2.1 = l1 := ⟨_, rfl⟩
      obtain ⟨er, her⟩ : ∃ er, (stepQ qx ds[k]).2.2 = er := ⟨_, rfl⟩
      rw [hq1] at HX7 HM7 HG1 HNN1 HN1
      rw [hl1] at HO7 HP7
      rw [her]
      clear hq1 hl1 her
      have w0 : (er != er) = false := by simp
      go_wp2_with fail
      refine (same_any (a := l1) (b := l1) (Row.rd HP7.out) (Row.rd HO7.out)).mono ?_
      rintro e w8 ⟨rfl, b8⟩
      rw [show decide (l1 = l1) = true from decide_eq_true rfl]
      have HI8 := Lib.hid (HI7.out.below b8)
      have HX8 := Lib.hid (HX7.out.below b8)
      have HM8 := Lib.hid (HM7.out.below b8)
      have HU8 := Lib.hid (Row.below HU7.out b8)
      have HB8 := Lib.hid (HB7.out.trans (b8.mono HB7.out.size))
      have s8 := b8.size
      clear b8
      go_wp2
      go_roundw
      case measure => simp [intOf]; omega
      case rel => exact ⟨k + 1, N1, v1, mv2, q1, bl2, its2, by omega, by omega, by go_num, HI8.out, HX8.out, HM8.out, HU8.out, HAP6, by omega, HG1.out, HNN1.out, HN1.out, by omega, HB8.out⟩
    · have HOKx := Lib.hid (show qx.ok 0 from ⟨Int.le_refl 0, by have := HN.out; omega⟩)
      have hxl := HG.out.len
      have hil : its'.length < 1000000 := by rw [HMM.out.ilen]; omega
      rcases (show ¬ k < ds.length ∨ (k < ds.length ∧ ¬ k < 150) by omega) with hx | ⟨hx, hy⟩
      all_goals
        clear hlt
        go_wp2_with fail
        refine (waiting_yes HI.out HOK.out (by omega)).mono ?_
        rintro e w6 ⟨u6, rfl, ho6, b6⟩
        have HX6 := Lib.hid (HX.out.below b6)
        have HM6 := Lib.hid (HMM.out.below b6)
        have HU6 := Lib.hid (Row.below HO.out b6)
        have HO6 := Lib.hid ho6
        have HB6 := Lib.hid (HB.out.trans (b6.mono hr0))
        clear ho6 b6
        go_wp2_with fail
        refine (same_any (Row.rd HO6.out) (Row.rd HU6.out)).mono ?_
        rintro e w7 ⟨rfl, b7⟩
        rw [show decide (q.ws = q.ws) = true from decide_eq_true rfl]
        have HX7 := Lib.hid (HX6.out.below b7)
        have HM7 := Lib.hid (HM6.out.below b7)
        have HB7 := Lib.hid (HB6.out.trans (b7.mono HB6.out.size))
        clear b7
        go_wp2_with fail
        refine (waiting_yes HX7.out HOKx.out (by omega)).mono ?_
        rintro e w8 ⟨u8, rfl, ho8, b8⟩
        have HM8 := Lib.hid (HM7.out.below b8)
        have HO8 := Lib.hid ho8
        have HB8 := Lib.hid (HB7.out.trans (b8.mono HB7.out.size))
        clear ho8 b8
        go_wp2_with fail
        refine (rwaiting_any HM8.out hil).mono ?_
        rintro e w9 ⟨u9, rfl, ho9, b9⟩
        have HO9 := Lib.hid ho9
        have HP9 := Lib.hid (Row.below HO8.out b9)
        have HB9 := Lib.hid (HB8.out.trans (b9.mono HB8.out.size))
        clear ho9 b9
        go_wp2_with fail
        refine (same_any (Row.rd HP9.out) (Row.rd HO9.out)).mono ?_
        rintro e w10 ⟨rfl, b10⟩
        rw [show decide (qx.ws = qx.ws) = true from decide_eq_true rfl]
        have HB10 := Lib.hid (HB9.out.trans (b10.mono HB9.out.size))
        clear b10
        go_wp2
        go_ret
        exact ⟨rfl, HB10.out⟩
end Go.Proofs.Ytphahilggfckaaa
