/-
  The document's manager, of the kind that counts: the walks of the laws' helpers told, made (with acts).
-/
import Derived.Test.YtphahilggfckaaaRef5
set_option linter.unusedVariables false
set_option linter.unusedSimpArgs false
namespace Go.Proofs.Ytphahilggfckaaa
open Go.RowKit Mem Qm
set_option maxRecDepth 100000

section
variable {w : World} {B g : Nat} {mv : Value} {q : Q} {bl : List Bool} {its : List It}
theorem SweptM.alloc {w' : World} {o : Obj} {l : List Int} {F : Value → Ending} {e : Ending} (h : SweptM (w.alloc o) B g mv l q F e w') : SweptM w B g mv l q F e w' :=
  h.after (Kept.of_below ((Below.refl _ _).alloc (Nat.le_refl _) o) _) (fun _ h => .inl h)
set_option maxHeartbeats 1000000 in
theorem told_did (h : IsM w B g mv q bl its) (hv : NN q) (hB : B ≤ w.heap.size) (hl : its.length < 800000) (d : Deed) :
    Calls Try.prog 20 #[.pointer (some ⟨g, 0, none⟩), deedV d] w (DidM w B g mv (stepQ q d)) := by
  have hok : q.ok 0 := ⟨Int.le_refl 0, by have := h.n1; omega⟩
  have h' : ∀ o : Obj, IsM (w.alloc o) B g mv q bl its := fun o => h.below ((Below.refl _ _).alloc (Nat.le_refl _) o)
  have hB' : ∀ o : Obj, B ≤ (w.alloc o).heap.size := fun o => by simp; omega
  have H := Lib.hid h'
  have HB := Lib.hid hB'
  have HV := Lib.hid hv
  have HOK := Lib.hid hok
  obtain ⟨what, th, ho, ad⟩ := d
  clear h' hB' h hv hok
  simp only [deedV, stepQ]
  by_cases e0 : what = 0
  · subst e0
    go_enter Try.func20, Try.ntmps20
    go_wp2_with fail
    refine (rin_any (H.out _) _).mono ?_
    rintro e w' hd
    obtain ⟨u, mv', bl', its', rfl, hd2⟩ := SweptM.alloc hd
    have HD := Lib.hid hd2
    clear hd hd2
    go_wp2
    go_ret2
    exact ⟨u, mv', bl', its', rfl, HD.out⟩
  by_cases e1 : what = 1
  · subst e1
    go_enter Try.func20, Try.ntmps20
    go_wp2_with fail
    refine (rout_any (H.out _) HV.out (HB.out _) (by omega) _).mono ?_
    rintro e w' hd
    obtain ⟨u, mv', bl', its', rfl, hd2⟩ := SweptM.alloc hd
    have HD := Lib.hid hd2
    clear hd hd2
    go_wp2
    go_ret2
    exact ⟨u, mv', bl', its', rfl, HD.out⟩
  by_cases e2 : what = 2
  · subst e2
    go_enter Try.func20, Try.ntmps20
    go_wp2_with fail
    refine (rhold_any (H.out _) HV.out (HB.out _) (by omega) _ _ _).mono ?_
    rintro e w' hd
    obtain ⟨u, mv', bl', its', rfl, hd2⟩ := SweptM.alloc hd
    have HD := Lib.hid hd2
    clear hd hd2
    go_wp2
    go_ret2
    exact ⟨u, mv', bl', its', rfl, HD.out⟩
  by_cases e3 : what = 3
  · subst e3
    go_enter Try.func20, Try.ntmps20
    go_wp2_with fail
    refine (rbears_any (H.out _) _).mono ?_
    rintro e w' ⟨rfl, rfl⟩
    go_wp2
    go_ret2
    exact ⟨_, mv, bl, its, rfl, Own.nil _ _, H.out _, (Kept.refl w _).alloc _, fun _ h => .inl h⟩
  by_cases e4 : what = 4
  · subst e4
    go_enter Try.func20, Try.ntmps20
    go_wp2_with fail
    refine (rretire_any (H.out _) HV.out (HB.out _) (by omega) _ _).mono ?_
    rintro e w' hd
    obtain ⟨u, mv', bl', its', rfl, hd2⟩ := SweptM.alloc hd
    have HD := Lib.hid hd2
    clear hd hd2
    go_wp2
    go_ret2
    exact ⟨u, mv', bl', its', rfl, HD.out⟩
  by_cases e5 : what = 5
  · subst e5
    have HQ := Lib.hid (show restQ q = (q.loose, backs q q.ws, 0) from if_pos HOK.out)
    go_enter Try.func20, Try.ntmps20
    go_wp2_with fail
    refine (rrest_any (H.out _) HV.out (HB.out _) (by omega)).mono ?_
    rintro e w' hd
    obtain ⟨u, mv', bl', its', rfl, hd2⟩ := SweptM.alloc hd
    have HD := Lib.hid hd2
    clear hd hd2
    go_wp2
    go_ret2
    show DidM w B g mv (restQ q) _ _
    rw [HQ.out]
    exact ⟨u, mv', bl', its', rfl, HD.out⟩
  · rw [if_neg e0, if_neg e1, if_neg e2, if_neg e3, if_neg e4, if_neg e5]
    have b0 : (what == 0) = false := beq_eq_false_iff_ne.2 e0
    have b1 : (what == 1) = false := beq_eq_false_iff_ne.2 e1
    have b2 : (what == 2) = false := beq_eq_false_iff_ne.2 e2
    have b3 : (what == 3) = false := beq_eq_false_iff_ne.2 e3
    have b4 : (what == 4) = false := beq_eq_false_iff_ne.2 e4
    have b5 : (what == 5) = false := beq_eq_false_iff_ne.2 e5
    clear e0 e1 e2 e3 e4 e5
    go_enter Try.func20, Try.ntmps20
    go_wp2
    go_ret2
    exact ⟨_, mv, bl, its, rfl, Own.nil _ _, H.out _, (Kept.refl w _).alloc _, fun _ h => .inl h⟩
/-- What a manager's cells hold, without the block that they lie in. -/
structure IsV (w : World) (B : Nat) (mv : Value) (q : Q) (bl : List Bool) (its : List It) : Prop where
  row : Row w B 78 8 mv its.length (flatI its)
  h12 : (h12 q).length = 12
  b4 : bl.length = 4
  eqw : adI its = q.ws
  n1 : 1 ≤ q.n
  n4 : q.n ≤ 4
  len : q.hs.length = q.n * 3
theorem IsM.val (h : IsM w B g mv q bl its) : IsV w B mv q bl its := ⟨h.row, h.h12, h.b4, h.eqw, h.n1, h.n4, h.len⟩
theorem IsV.put (h : IsV w B mv q bl its) (hb : Blk w g 37 (mCells q bl mv)) (hlo : B ≤ g) : IsM w B g mv q bl its := ⟨hlo, hb, h.row, h.h12, h.b4, h.eqw, h.n1, h.n4, h.len⟩
theorem IsV.below {w' : World} (h : IsV w B mv q bl its) (k : Below w.heap.size w w') : IsV w' B mv q bl its := ⟨Row.below h.row k, h.h12, h.b4, h.eqw, h.n1, h.n4, h.len⟩
theorem IsV.thirty (h : IsV w B mv q bl its) : Thirty (mCells q bl mv) := by
  have h1 := h.h12
  have h2 := h.b4
  refine Go.Proofs.Ytphahilggfckaaa.thirty ?_ ?_
  · simp [mCells, ints, bools, zeros, h1, h2]
  · obtain ⟨A, c, rfl, _, _⟩ := Row.shape h.row
    simp [mCells, ints, bools, zeros, Value.oneCell']
theorem isV_q0 (w : World) (B : Nat) {m : Nat} (h0 : 1 ≤ m) (h1 : m ≤ 4) : IsV w B (.slice none 0 0) (q0 m) [false, false, false, false] [] := by
  refine ⟨World.ownsRow_nil _ _ _ _, ?_, rfl, rfl, h0, h1, zeros_length _⟩
  simp [h12, q0, zeros_length]
  omega
/-- A manager and the document's share no block. -/
theorem apart_cm {B' g' gh b N : Nat} {v : Value} {q' : Q} (hC : IsC w B' g' gh b N v q') (hM : IsM w B g mv q bl its) : ∀ k, foot g' gh b v k → ¬ footM g mv k := by
  rintro k (rfl | rfl | rfl | hk) (e | hm)
  · subst e; exact absurd (hC.blk.type hM.blk).1 (by decide)
  · exact Row.ne_blk hM.row hC.blk (by decide) hm
  · subst e; exact absurd (hC.hold.type hM.blk).1 (by decide)
  · exact Row.ne_blk hM.row hC.hold (by decide) hm
  · subst e; exact hC.map.ne_blk hM.blk rfl
  · exact hC.map.ne_row hM.row hm
  · subst e; exact Row.ne_blk hC.row hM.blk (by decide) hk
  · exact Row.ne_row hC.row hM.row (by decide) hk hm
end
/-- What 'made' leaves. -/
def Made (w : World) (e : Ending) (w' : World) : Prop :=
  ∃ (m g gh b B N : Nat) (v mv : Value) (q : Q) (bl : List Bool) (its : List It) (CS : List Value), 1 ≤ m ∧ m ≤ 4 ∧ e = .returned (.tuple #[.pointer (some ⟨g, 0, none⟩), .agg CS.toArray, .int .i64 (m : Int)]) ∧ Thirty CS ∧ CS = mCells q bl mv ∧ w.heap.size ≤ B ∧ B ≤ w'.heap.size ∧ IsC w' B g gh b N v q ∧ IsV w' B mv q bl its ∧ N ≤ 900 ∧ Good q 150 ∧ NN q ∧ Inv q ∧ q.n = m ∧ Below w.heap.size w w'
theorem nn_q0 (m : Nat) : NN (q0 m) := fun x hx => by
  have : ∀ n, ∀ x ∈ zeros n, 0 ≤ x := by
    intro n
    induction n with
    | zero => intro x hx; cases hx
    | succ n ih => intro x hx; rcases List.mem_cons.1 hx with rfl | hx; exact Int.le_refl 0; exact ih x hx
  exact this _ x hx
set_option maxHeartbeats 2000000 in
theorem made_any {w : World} {t : Int} {va : Value} {ds : List Deed} (h : RdD w va ds) : Calls Try.prog 15 #[.int .i64 t, va] w (Made w) := by
  obtain ⟨m, h0, h1, hm⟩ := made_n t
  obtain ⟨A, c, rfl, hc1, hc2⟩ := h.shape
  have HD := Lib.hid h
  have HM := Lib.hid hm
  have H01 := Lib.hid (And.intro h0 h1)
  clear hm h
  go_enter Try.func15, Try.ntmps15
  go_wp2_with fail
  generalize hW0 : w.alloc _ = W0
  have HBA := Lib.hid (show Below w.heap.size w W0 by rw [← hW0]; exact (Below.refl _ _).alloc (Nat.le_refl _) _)
  have HK := Lib.hid (show Blk W0 w.heap.size 37 zCells by rw [← hW0]; exact Blk.new w 37 zCells)
  have sA := HBA.out.size
  clear hW0
  rw [HM.out]
  refine (new_yes h0 h1).mono ?_
  rintro e w1 ⟨rfl, hi1, b1⟩
  have HI1 := Lib.hid hi1
  have HB1 := Lib.hid (HBA.out.trans (b1.mono sA))
  have HK1 := Lib.hid (HK.out.below b1)
  have s1 := b1.size
  clear b1 hi1
  go_wp2_with fail
  refine (rnew12_yes h0 h1).mono ?_
  rintro e w2 ⟨rfl, b2⟩
  have HI2 := Lib.hid (HI1.out.below b2)
  have HB2 := Lib.hid (HB1.out.trans (b2.mono (by omega)))
  have HK2 := Lib.hid (HK1.out.below b2)
  have s2 := b2.size
  clear b2
  rw [rCells_eq h0 h1]
  have hC := Lib.hid (isV_q0 w2 0 h0 h1).thirty
  obtain ⟨CS, hCS⟩ : ∃ CS, mCells (q0 m) [false, false, false, false] (.slice none 0 0) = CS := ⟨_, rfl⟩
  rw [hCS] at hC ⊢
  go_wp2_with (refine wpList_store_new rfl 37 (.tmp 10) (.tmp 24) rfl CS.toArray _ 37 rfl rfl hC.out.inf (by have h9 := hC.out.len; simp [h9]) hC.out.one ?_)
  generalize hW3 : w2.alloc _ = W3
  have hb3 : Below w2.heap.size w2 W3 := by rw [← hW3]; exact (Below.refl _ _).alloc (Nat.le_refl _) _
  have hlt0 := Blk.lt HK.out
  have HM3 := Lib.hid ((isV_q0 W3 W0.heap.size h0 h1).put (g := w2.heap.size) (by rw [hCS, ← hW3]; exact Blk.new w2 37 CS) (by omega))
  have HI3 := Lib.hid (HI2.out.below hb3)
  have HB3 := Lib.hid (HB2.out.trans (hb3.mono (by omega)))
  have HK3 := Lib.hid (HK2.out.below hb3)
  have s3 := hb3.size
  clear hW3 hb3 hCS
  go_loopw [12] (fun i wr => ∃ (k N : Nat) (v mv : Value) (q : Q) (bl : List Bool) (its : List It), k ≤ ds.length ∧ k ≤ 150 ∧ i = .int .i64 k ∧ IsC wr W0.heap.size (W0.heap.size + 2) W0.heap.size (W0.heap.size + 1) N v q ∧ IsM wr W0.heap.size w2.heap.size mv q bl its ∧ N ≤ 6 * k ∧ Good q k ∧ NN q ∧ Inv q ∧ q.n = m ∧ W0.heap.size ≤ wr.heap.size ∧ Blk wr w.heap.size 37 zCells ∧ Below w.heap.size w wr) (fun i _ => ds.length - (intOf i).toNat)
  case atStart => exact ⟨0, 0, _, _, q0 m, _, _, Nat.zero_le _, Nat.zero_le _, rfl, HI3.out, HM3.out, Nat.le_refl _, good_q0 h1, nn_q0 m, inv_q0 m, rfl, by omega, HK3.out, HB3.out⟩
  case round =>
    clear HI1 HI2 HI3 HM3 HK1 HK2 HK3 HB1 HB2 HB3 s1 s2 s3 hC
    obtain ⟨k, N, v, mv, q, bl, its, hk, hk150, rfl, hi, hM, hN, hg, hnn, hinv, hn, hBr, hz, hbel⟩ := hrel
    have HI := Lib.hid hi
    have HMM := Lib.hid hM
    have HG := Lib.hid hg
    have HNN := Lib.hid hnn
    have HV := Lib.hid hinv
    have HN := Lib.hid hn
    have HZ := Lib.hid hz
    have HB := Lib.hid hbel
    have hr0 := hbel.size
    have HDr := Lib.hid (HD.out.below hbel)
    clear hi hM hg hnn hinv hn hz hbel
    by_cases hgo : k < ds.length ∧ k < 150
    · obtain ⟨hlt, h15⟩ := hgo
      obtain ⟨bb, off, rfl, hbb, d0, d1, d2, d3⟩ := HDr.out.at_ hlt
      have HW := Lib.hid (HD.out.wf_at hlt)
      have HG1 := Lib.hid (good_step HG.out (HD.out.wf_at hlt))
      have HNN1 := Lib.hid (nn_step HNN.out ds[k])
      have HV1 := Lib.hid (inv_step HV.out ds[k])
      have HN1 := Lib.hid ((step_n q ds[k]).trans HN.out)
      have hil := HMM.out.ilen
      have hql := HG.out.len
      have hil1 : its.length < 800000 := by omega
      clear hil hql
      have e0 := fun (W : World) (hb : Below wr.heap.size wr W) => (hb.cell (p := ⟨bb, off + k * 4, none⟩) hbb).trans d0
      have E0 := Lib.hid e0
      have e1 := fun (W : World) (hb : Below wr.heap.size wr W) => (hb.cell (p := ⟨bb, off + k * 4 + 1, none⟩) hbb).trans d1
      clear e0 e1
      go_wp2_with fail
      refine (do_did HI.out HG.out (by omega) (by omega) hBr ds[k] HW.out).mono ?_
      rintro e w4 ⟨u1, v1, N1, rfl, _, hi4, hN1, hk4, _⟩
      have HI4 := Lib.hid hi4
      have HM4 := Lib.hid (HMM.out.keep hk4 (fun i hm hf => apart_cm HI.out HMM.out i hf hm))
      have HZ4 := Lib.hid (HZ.out.keep hk4 (fun hf => by have := HI.out.foot_lo _ hf; omega))
      have HK4 := Lib.hid (hk4.below (B := w.heap.size + 1) (by omega) (fun i hi => by have := HI.out.foot_lo _ hi; omega))
      have HB4 := Lib.hid (HB.out.trans (hk4.below hr0 (fun i hi => by have := HI.out.foot_lo _ hi; omega)))
      have HD4 := Lib.hid (HD.out.below HB4.out)
      have s4 := hk4.size
      clear hi4 hk4 d0 d1 d2 d3
      obtain ⟨bb', off', hbe, hbb', d0, d1, d2, d3⟩ := HD4.out.at_ hlt
      injection hbe with hbe
      injection hbe with hb1 hb2
      subst hb1 hb2
      go_wp2_with fail
      refine (told_did HM4.out HNN.out (by omega) hil1 ds[k]).mono ?_
      rintro e w5 ⟨u2, mv2, bl2, its2, rfl, _, hm5, hk5, _⟩
      have HM5 := Lib.hid hm5
      have HI5 := Lib.hid (HI4.out.keep hk5 (fun i hf hm => apart_cm HI4.out HM4.out i hf hm))
      have HZ5 := Lib.hid (HZ4.out.keep hk5 (fun hf => by have := HM4.out.foot_lo _ hf; omega))
      have HB5 := Lib.hid (HB4.out.trans (hk5.below (by omega) (fun i hi => by have := HM4.out.foot_lo _ hi; omega)))
      have s5 := hk5.size
      clear hm5 hk5 d0 d1 d2 d3
      go_wp2
      go_roundw
      case measure => simp [intOf]; omega
      case rel => exact ⟨k + 1, N1, v1, mv2, _, bl2, its2, by omega, by omega, by go_num, HI5.out, HM5.out, by omega, HG1.out, HNN1.out, HV1.out, HN1.out, by omega, HZ5.out, HB5.out⟩
    · have HGE := Lib.hid (show Good q 150 from HG.out.mono hk150)
      obtain ⟨CS, hCS⟩ : ∃ CS, mCells q bl mv = CS := ⟨_, rfl⟩
      have hC := Lib.hid HMM.out.val.thirty
      have HR3 := Lib.hid HMM.out.blk
      rw [hCS] at hC HR3
      have HCS := Lib.hid hCS
      have hu := Try.underlying37
      have hi : (Try.prog.info? 37).map (·.size) = some CS.length := by rw [hC.out.len]; kernel_rfl
      have HU := Lib.hid hu
      have HII := Lib.hid hi
      clear hCS hu hi
      rcases (show ¬ k < ds.length ∨ (k < ds.length ∧ ¬ k < 150) by omega) with hx | ⟨hx, hy⟩
      all_goals
        clear hgo
        go_wp2_with fail
        have hu := HU.out
        have hi := HII.out
        have r0 := range_blk HR3.out
        have t0 := there_blk HZ.out (n := 30) (by simp [zCells, ints, bools, zeros])
        refine wp_region_held_drew (S := fun w' => w'.there w.heap.size 0 30 ∧ (w'.rangeAt w2.heap.size 0 CS)) (by kernel_rfl) ?hS0 (fun hHeld => ?_)
        case hS0 => exact ⟨by simpa using t0, by simpa using r0⟩
        refine takeH_load 1 52 37 (.tmp 10) rfl rfl rfl rfl (by kernel_rfl) (by kernel_rfl) (by kernel_rfl) hHeld w2.heap.size rfl CS _ (fun w h => h.2) hu rfl hi (fun _ _ _ h => h) ?_
        simp only [Act.put, List.setIfInBounds_toArray, List.set_cons_zero, List.set_cons_succ]
        refine takeH_move 0 51 (.tmp 8) (.pointer (some ⟨W0.heap.size + 2, 0, none⟩)) rfl rfl rfl (.inl rfl) (by kernel_rfl) (by kernel_rfl) (by kernel_rfl) hHeld rfl (fun _ _ _ h => h) ?_
        simp only [Act.put, List.setIfInBounds_toArray, List.set_cons_zero, List.set_cons_succ]
        refine takeH_move 2 53 (.tmp 7) (.int .i64 (m : Int)) rfl rfl rfl (.inl rfl) (by kernel_rfl) (by kernel_rfl) (by kernel_rfl) hHeld rfl (fun _ _ _ h => h) ?_
        simp only [Act.put, List.setIfInBounds_toArray, List.set_cons_zero, List.set_cons_succ]
        refine takeH_move 3 4 (.tmp 51) (.pointer (some ⟨W0.heap.size + 2, 0, none⟩)) rfl rfl rfl (.inr rfl) (by kernel_rfl) (by kernel_rfl) (by kernel_rfl) hHeld rfl (fun _ _ _ h => h) ?_
        simp only [Act.put, List.setIfInBounds_toArray, List.set_cons_zero, List.set_cons_succ]
        have hne : w2.heap.size ≠ w.heap.size := by have := HMM.out.lo; omega
        have hS4 : (wr.drew.setCells w.heap.size 0 CS).there w.heap.size 0 30 ∧ (wr.drew.setCells w.heap.size 0 CS).rangeAt w2.heap.size 0 CS := ⟨World.there_setCells hHeld.1 _ _ _, World.rangeAt_setCells_apart hHeld.2 _ _ _ (.inl hne)⟩
        refine storeH 4 37 (.tmp 5) (.tmp 52) rfl rfl rfl rfl (by kernel_rfl) w.heap.size CS rfl rfl (by rw [hC.out.len]; exact hHeld.1) hi hC.out.one hS4 ?_
        refine takeH_move 5 6 (.tmp 53) (.int .i64 (m : Int)) rfl rfl rfl (.inr rfl) (by kernel_rfl) (by kernel_rfl) (by kernel_rfl) hS4 rfl (fun _ _ _ h => h) ?_
        simp only [Act.put, List.setIfInBounds_toArray, List.set_cons_zero, List.set_cons_succ]
        refine wpAnyH_done (by kernel_rfl) ?_ _
        have HI4 := Lib.hid ((HI.out.drew).keep (Kept.setCells_ (S := fun i => i = w.heap.size) rfl CS 0 (Kept.refl wr.drew _)) (fun i hi e => by
          have h1 := HI.out.foot_lo i hi
          omega))
        have HM4 := Lib.hid ((HMM.out.drew).keep (Kept.setCells_ (S := fun i => i = w.heap.size) rfl CS 0 (Kept.refl wr.drew _)) (fun i hi e => by
          have h1 := HMM.out.foot_lo i hi
          omega)).val
        have HB4 := Lib.hid (Below.setCells_ (Nat.le_refl w.heap.size) CS 0 (drew_below HB.out))
        have HS4 := Lib.hid (show W0.heap.size ≤ (wr.drew.setCells w.heap.size 0 CS).heap.size from by
          have := (Below.setCells_ (B := w.heap.size) (Nat.le_refl w.heap.size) CS 0 (Below.refl _ wr.drew)).size
          rw [size_drew] at this
          omega)
        have HR4 := Lib.hid (World.rangeAt_setCells_same wr.drew w.heap.size 0 CS (by rw [hC.out.len]; exact hHeld.1))
        generalize wr.drew.setCells w.heap.size 0 CS = W4 at *
        go_wp2
        refine bodyPost_ret_by (results_tmp_cell_tmp_mid rfl _ _ w.heap.size CS _ rfl HR4.out hu rfl hi) rfl ?_
        exact ⟨m, _, _, _, W0.heap.size, N, v, mv, q, bl, its, CS, h0, h1, rfl, hC.out, HCS.out.symm, sA, HS4.out, HI4.out, HM4.out, by omega, HGE.out, HNN.out, HV.out, HN.out, HB4.out⟩
end Go.Proofs.Ytphahilggfckaaa
