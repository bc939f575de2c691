/-
  For whom what waits is waited for, by the deeds alone: the walk of the law.
-/
import Derived.Test.YtdgkdfblgeobmaaAwaits0
import Derived.Laws.OwnMore
import Derived.Deep.OwnRows
set_option linter.unusedVariables false
set_option linter.unusedSimpArgs false
namespace Go.Proofs.Ytdgkdfblgeobmaa
open Go.RowKit Mem Qm
set_option maxRecDepth 100000

theorem Own.cell {w : World} {B g m c : Nat} {l : List Int} (h : Own w B (.slice (some ⟨g, 0, none⟩) m c) l) {j : Nat} (hj : j < l.length) : w.cell? ⟨g, j, none⟩ = some (.int .i64 (nth l j)) := by
  obtain ⟨A, c', e, _, _⟩ := Row.shape h
  injection e with _ e2 _
  subst e2
  have := World.ownsRow.cellAt h j (by omega)
  rw [this, Qm.ints_at l j hj, nth_at hj]
theorem Own.free {w : World} {B g m c : Nat} {l : List Int} (h : Own w B (.slice (some ⟨g, 0, none⟩) m c) l) (j : Nat) : w.frozen? ⟨g, j, none⟩ = false := by
  obtain ⟨A, c', e, _, _⟩ := Row.shape h
  injection e with _ e2 _
  subst e2
  exact World.ownsRow.frozenAt h j
theorem Own.of {w : World} {B : Nat} {v : Value} {l l' : List Int} (h : Own w B v l) (e : l' = l) : Own w B v l' := by rw [e]; exact h
theorem _root_.Go.RowKit.Below.drewN {B : Nat} {a w : World} (h : Below B a w) (n : Nat) : Below B a (w.drewN n) := ⟨h.os, h.tape, h.output, h.size, h.block⟩
theorem Kept.put (w : World) (p : Addr) (u : Value) : Kept w (w.setCell p u) (fun x => x = p.block) := Kept.setCell (S := fun x => x = p.block) (Kept.refl w _) (.inl rfl) u
theorem Own.put {w : World} {B g m c : Nat} {l : List Int} (h : Own w B (.slice (some ⟨g, 0, none⟩) m c) l) (j : Nat) (x : Int) : Own (w.setCell ⟨g, j, none⟩ (.int .i64 x)) B (.slice (some ⟨g, 0, none⟩) m c) (l.set j x) := by
  obtain ⟨A, c', e, _, _⟩ := Row.shape h
  injection e with _ e2 _
  subst e2
  have := (World.ownsRow.stored h j (.int .i64 x)).1
  have e1 : (l.set j x).length = l.length := by simp
  have e2 : ints (l.set j x) = (ints l).set j (.int .i64 x) := by simp [ints, List.map_set]
  rw [Own, e1, e2]
  exact this
theorem Own.made (w : World) (B m : Nat) (hB : B ≤ w.heap.size) (hm : m ≤ 4) : Own (w.alloc (.cells (madeCells #[.int .i64 0] m) 3)) B (.slice (some ⟨w.heap.size, 0, none⟩) m m) (List.replicate m 0) := by
  have h := World.ownsRow_lit (base := B) (e := 3) (size := 1) w (madeCells #[.int .i64 0] m) m hB (by simp [maxLen]; omega) (by have := congrArg List.length (toList_madeCells_one (.int .i64 0) m); simpa using this)
  rw [toList_madeCells_one] at h
  have e1 : (List.replicate m (0 : Int)).length = m := by simp
  have e2 : ints (List.replicate m 0) = List.replicate m (.int .i64 0) := by simp [ints]
  rw [Own, e1, e2]
  exact h
/-- The four lists lie apart. -/
structure Four (gi gl : Nat) (ua uw : Value) : Prop where
  il : gi ≠ gl
  ai : ua.ownBlock ≠ some gi
  al : ua.ownBlock ≠ some gl
  wi : uw.ownBlock ≠ some gi
  wl : uw.ownBlock ≠ some gl
  aw : ∀ k, ua.ownBlock = some k → uw.ownBlock ≠ some k
theorem fits_zero (m : Nat) : Fits (q0 m) ⟨List.replicate m 0, List.replicate m 0, [], []⟩ m 0 := by
  have hz : ∀ t, nth (List.replicate m (0 : Int)) t = 0 := by
    intro t
    simp only [nth, List.getD_eq_getElem?_getD, List.getElem?_replicate]
    split <;> rfl
  refine ⟨by simp, by simp, rfl, by simp, fun t _ => by simp [hz], fun t _ => by simp [hz], fun j hj => absurd hj (by simp), fun t _ => ?_, fun x hx => absurd hx (by simp [q0])⟩
  simp only [hz]
  simp [q0, Cr.none, Cr.get]
set_option maxHeartbeats 4000000 in
theorem awaits_walk {w : World} {n : Int} {u : Value} {ds : List Deed} (hd : RdD w u ds) :
    Calls Try.prog 3 #[.int .i64 n, u] w (Tells w true) := by
  obtain ⟨A, c, rfl, hc1, hc2⟩ := hd.shape
  have Hd := Lib.hid hd
  clear hd
  by_cases hl : ds.length ≤ 200
  · by_cases hn : 1 ≤ n ∧ n ≤ 4
    · obtain ⟨n0, n4⟩ := hn
      obtain ⟨m, rfl⟩ : ∃ m : Nat, n = m := ⟨n.toNat, by omega⟩
      have mk : ∀ W : World, (Instr.makeSlice 28 (.int .i64 (m : Int)) (.int .i64 (m : Int))).run Try.prog W = .ok (.slice (some ⟨W.heap.size, 0, none⟩) m m) (W.alloc (.cells (madeCells #[.int .i64 0] m) 3)) := run_make_row' 28 3 _ 8 Try.underlying28 info3 rfl .i64 .i64 m (by omega) (by omega)
      go_enter Try.func3, Try.ntmps3
      go_wp2_with fail
      refine (new_yes n0 n4).mono ?_
      rintro e w1 ⟨rfl, h1, b1⟩
      go_wp2_with fail
      have s1 := b1.size
      have s1' : w.heap.size < w1.heap.size := by have := h1.blk.lt; exact this
      go_loopw [9, 10, 11] (fun ua uw i wr => ∃ (k : Nat) (v : Value) (q : Q) (b : Bk), k ≤ ds.length ∧ i = .int .i64 k ∧ Is wr w.heap.size w.heap.size v q ∧ Hid (q.n = (m : Int)) ∧ Inv q ∧ q.ws.length ≤ k ∧ Hid (Fits q b m k) ∧
        Own wr w.heap.size (.slice (some ⟨w1.heap.size, 0, none⟩) m m) b.ins ∧ Own wr w.heap.size (.slice (some ⟨w1.heap.size + 1, 0, none⟩) m m) b.left ∧ Own wr w.heap.size ua b.ars ∧ Own wr w.heap.size uw b.wn ∧ Hid (Four w1.heap.size (w1.heap.size + 1) ua uw) ∧ Below w.heap.size w wr) (fun _ _ i _ => ds.length - (intOf i).toNat)
      case atStart =>
        have bb1 : Below w1.heap.size w1 (w1.alloc (.cells (madeCells #[.int .i64 0] m) 3)) := (Below.refl _ _).alloc (Nat.le_refl _) _
        have bb2 : Below w1.heap.size w1 ((w1.alloc (.cells (madeCells #[.int .i64 0] m) 3)).alloc (.cells (madeCells #[.int .i64 0] m) 3)) := bb1.alloc (by simp) _
        have o1 := Own.made w1 w.heap.size m s1 (by omega)
        have o2 := Own.made (w1.alloc (.cells (madeCells #[.int .i64 0] m) 3)) w.heap.size m (by simp; omega) (by omega)
        have bb3 : Below (w1.alloc (.cells (madeCells #[.int .i64 0] m) 3)).heap.size (w1.alloc (.cells (madeCells #[.int .i64 0] m) 3)) ((w1.alloc (.cells (madeCells #[.int .i64 0] m) 3)).alloc (.cells (madeCells #[.int .i64 0] m) 3)) := (Below.refl _ _).alloc (Nat.le_refl _) _
        refine ⟨0, _, q0 m, ⟨List.replicate m 0, List.replicate m 0, [], []⟩, Nat.zero_le _, rfl, h1.below bb2, rfl, inv_q0 m, Nat.le_refl _, fits_zero m, Row.below o1 bb3, ?_, Own.nil _ _, Own.nil _ _, ⟨by omega, by simp [Value.ownBlock], by simp [Value.ownBlock], by simp [Value.ownBlock], by simp [Value.ownBlock], by simp [Value.ownBlock]⟩, b1.trans (bb2.mono s1)⟩
        simpa using o2
      case round =>
        clear h1 b1 mk
        obtain ⟨k, v, q, b, hk, rfl, h, hqn, hinv, hql, hfit, hoi, hol, hoa, how, hap, hbel⟩ := hrel
        by_cases hlt : k < ds.length
        · obtain ⟨bd, off, rfl, hbd, d0, d1, d2, d3⟩ := RdD.at_ (Hd.out.below hbel) hlt
          have hsz := hbel.size
          have HB := Lib.hid hbel
          have HV := Lib.hid hinv
          have hq4 : q.n ≤ 4 := by rw [hqn.out]; exact n4
          have HLK := Lib.hid (show q.ws.length ≤ k ∧ (stepQ q ds[k]).1.ws.length ≤ k + 1 from ⟨hql, by have := step_len q ds[k]; omega⟩)
          clear hbel hinv
          go_wp2_with fail
          have bA : Below wr.heap.size wr (wr.alloc (.cells #[.int .i64 ds[k].what, .int .i64 ds[k].th, .int .i64 ds[k].ho, .int .i64 ds[k].ad] 30)) := (Below.refl _ _).alloc (Nat.le_refl _) _
          have hA := h.below bA
          refine (done_did hA hq4 (by simp; omega) (by omega) ds[k]).mono ?_
          rintro e w2 ⟨ub, v', rfl, ob, hi0, hk2, hm2⟩
          have hB2 := Lib.hid ((HB.out.trans (bA.mono hsz)).trans (hk2.below (by simp; omega) h.foot_lo))
          have blk2 := (Blk.new wr 30 [.int .i64 ds[k].what, .int .i64 ds[k].th, .int .i64 ds[k].ho, .int .i64 ds[k].ad]).keep hk2 (fun hf => absurd (h.foot_lt _ hf) (Nat.lt_irrefl _))
          have hoi2 := Own.keep (Row.below hoi bA) hA hk2
          have hol2 := Own.keep (Row.below hol bA) hA hk2
          have hoa2 := Own.keep (Row.below hoa bA) hA hk2
          have how2 := Own.keep (Row.below how bA) hA hk2
          have BLK := Lib.hid blk2
          have g1 : w1.heap.size < wr.heap.size := (Row.at_lt hoi rfl).2
          have g2 : w1.heap.size + 1 < wr.heap.size := (Row.at_lt hol rfl).2
          have d0 := blk2.cell 0 rfl
          have d1 := blk2.cell 1 rfl
          have d3 := blk2.cell 3 rfl
          have s2 := hB2.out.size
          have s22 : wr.heap.size < w2.heap.size := by have := hk2.size; simp at this; omega
          have hi := Lib.hid hi0
          have HSZ : w.heap.size ≤ wr.heap.size := hsz
          clear hA bA blk2 h hoi hol hoa how hi0 hk2 hm2 ob hsz
          by_cases he : (stepQ q ds[k]).2.2 = 0
          · have be : ((stepQ q ds[k]).2.2 != 0) = false := by simp [he]
            have HFS := Lib.hid (fits_step hfit.out hqn.out (by omega) he)
            have HOKT := Lib.hid (show ds[k].what = 0 ∨ ds[k].what = 1 → q.ok ds[k].th from fun hw9 => step_ok (q := q) (d := ds[k]) he hw9)
            have HE := Lib.hid he
            have li := Lib.hid hfit.out.li
            have ll := Lib.hid hfit.out.ll
            clear he
            by_cases e0 : ds[k].what = 0
            · have b0 : (ds[k].what == 0) = true := beq_iff_eq.2 e0
              have b1 : (ds[k].what == 1) = false := by rw [e0]; rfl
              have b4 : (ds[k].what == 4) = false := by rw [e0]; rfl
              obtain ⟨ht0, ht1⟩ := HOKT.out (.inl e0)
              rw [hqn.out] at ht1
              obtain ⟨tn, htn⟩ : ∃ tn : Nat, ds[k].th = tn := ⟨ds[k].th.toNat, by omega⟩
              rw [htn] at d1 ht1
              have htm : tn < m := by omega
              have htt : ds[k].th.toNat = tn := by omega
              have ci := Own.cell hoi2 (show tn < b.ins.length by rw [li.out]; exact htm)
              have fi := Own.free hoi2 tn
              have E0 := Lib.hid e0
              have HTT := Lib.hid htt
              clear e0 htn htt ht0
              by_cases ez : nth b.ins tn = 0
              · have bz : (nth b.ins tn == 0) = true := beq_iff_eq.2 ez
                have Hbook := Lib.hid (show book b k ds[k] = { b with ins := b.ins.set tn ((k : Int) + 1) } by simp only [book]; rw [if_pos E0.out, HTT.out, if_pos ez])
                have hF3 : Fits (stepQ q ds[k]).1 { b with ins := b.ins.set tn ((k : Int) + 1) } m (k + 1) := by rw [← Hbook.out]; exact HFS.out
                have KK : Kept w2 (w2.setCell ⟨w1.heap.size, tn, none⟩ (.int .i64 ((k : Int) + 1))) (fun x => x = w1.heap.size) := Kept.put w2 ⟨w1.heap.size, tn, none⟩ _
                have hB3 := hB2.out.trans (KK.below s2 (by intro x hx; omega))
                have hI3 := hi.out.keep KK (fun x hf hx => hi.out.apart hoi2 x (by rw [hx]; rfl) hf)
                have hi3 := Own.put hoi2 tn ((k : Int) + 1)
                have hl3 := Row.keep hol2 KK (fun x hx e => by simp only [Value.ownBlock, Option.some.injEq] at hx; omega)
                have ha3 := Row.keep hoa2 KK (fun x hx e => hap.out.ai (by rw [hx, e]))
                have hw3 := Row.keep how2 KK (fun x hx e => hap.out.wi (by rw [hx, e]))
                have hap3 := hap
                have blk3 := BLK.out.keep KK (by omega)
                have d0a := blk3.cell 0 rfl
                have d3a := blk3.cell 3 rfl
                clear hoi2 hol2 hoa2 how2 hap hi KK ez blk3
                have hb3 := Lib.hid hB3
                have s3 := hB3.size
                have hokw := Lib.hid (show (stepQ q ds[k]).1.ok 0 from ⟨Int.le_refl 0, by rw [step_n, hqn.out]; omega⟩)
                have hlw := Lib.hid (show (stepQ q ds[k]).1.ws.length ≤ k + 1 from HLK.out.2)
                have HV3 := Lib.hid (inv_step HV.out ds[k])
                have HQ3 := Lib.hid (show (stepQ q ds[k]).1.n = (m : Int) by rw [step_n]; exact hqn.out)
                generalize (stepQ q ds[k]).1 = q3 at hI3 hF3 hokw hlw HV3 HQ3
                obtain ⟨b3, hbb⟩ : ∃ b3 : Bk, b3 = { b with ins := b.ins.set tn ((k : Int) + 1) } := ⟨_, rfl⟩
                have HF3 : Hid (Fits q3 b3 m (k + 1)) := Lib.hid (by rw [hbb]; exact hF3)
                have hi4 := Own.of (l' := b3.ins) hi3 (by have e9 := congrArg Bk.ins hbb; exact e9)
                have hl4 := Own.of (l' := b3.left) hl3 (by have e9 := congrArg Bk.left hbb; exact e9)
                have ha4 := Own.of (l' := b3.ars) ha3 (by have e9 := congrArg Bk.ars hbb; exact e9)
                have hw4 := Own.of (l' := b3.wn) hw3 (by have e9 := congrArg Bk.wn hbb; exact e9)
                clear hB3 hF3 hbb hi3 hl3 ha3 hw3
                go_wp2_with fail
                generalize (w2.setCell ⟨w1.heap.size, tn, none⟩ (.int .i64 ((k : Int) + 1))) = wz at hI3 hi4 hl4 ha4 hw4 hb3 s3 ⊢
                obtain ⟨wq0, hwq0⟩ : ∃ wq0 : World, wq0 = wr := ⟨_, rfl⟩
                subst hwq0
                refine (waiting_yes hI3 hokw.out (by have := hlw.out; omega)).mono ?_
                rintro e w6 ⟨u6, rfl, o6, b6⟩
                obtain ⟨A9, c9, rfl, hc91, hc92⟩ := Row.shape o6
                have hc93 : c9 ≤ 9223372036854775807 := by simpa [maxLen] using hc92
                have Hob := Lib.hid (Row.rd o6)
                have HI6 := Lib.hid (hI3.below b6)
                have Hi6 := Lib.hid (Row.below hi4 b6)
                have Hl6 := Lib.hid (Row.below hl4 b6)
                obtain ⟨Aa, ca, rfl, hca1, hca2⟩ := Row.shape ha4
                have hca3 : ca ≤ 9223372036854775807 := by simpa [maxLen] using hca2
                obtain ⟨Aw, cw, rfl, hcw1, hcw2⟩ := Row.shape hw4
                have hcw3 : cw ≤ 9223372036854775807 := by simpa [maxLen] using hcw2
                have Ha6 := Lib.hid (Row.below ha4 b6)
                have Hw6 := Lib.hid (Row.below hw4 b6)
                have B6 := Lib.hid (hb3.out.trans (b6.mono s3))
                have s6 := B6.out.size
                have hal : (addrs q3.ws).length = q3.ws.length := addrs_length _
                have HAL := Lib.hid hal
                clear hc92 hca2 hcw2 hI3 hi4 hl4 ha4 hw4 b6 o6 hal
                go_wp2_with fail
                go_loopw [16] (fun i wr1 => ∃ j : Nat, j ≤ (addrs q3.ws).length ∧ i = .int .i64 j ∧ Below w6.heap.size w6 wr1) (fun i _ => (addrs q3.ws).length - (intOf i).toNat)
                case atStart => exact ⟨0, Nat.zero_le _, rfl, Below.refl _ _⟩
                case round =>
                  obtain ⟨j, hj, rfl, hbx⟩ := hrel
                  have HBX := Lib.hid hbx
                  have sx := hbx.size
                  clear hbx
                  obtain ⟨wq1, hwq1⟩ : ∃ wq1 : World, wq1 = wr := ⟨_, rfl⟩
                  subst hwq1
                  by_cases hjl : j < (addrs q3.ws).length
                  · have hjw : j < q3.ws.length := by rw [← HAL.out]; exact hjl
                    have hx := Lib.hid (List.getElem_mem hjw)
                    have hxa := Lib.hid (show (addrs q3.ws)[j] = q3.ws[j].1 by simp [addrs])
                    obtain ⟨x, hxx⟩ : ∃ x, q3.ws[j] = x := ⟨_, rfl⟩
                    rw [hxx] at hx hxa
                    clear hxx hjw
                    go_wp2_with fail
                    go_loopw [17, 18] (fun lastv i wr1 => ∃ t : Nat, t ≤ b3.ars.length ∧ i = .int .i64 t ∧ lastv = .int .i64 (lastTo b3.ars b3.wn x.1 t) ∧ Below w6.heap.size w6 wr1) (fun _ i _ => b3.ars.length - (intOf i).toNat)
                    case atStart => exact ⟨0, Nat.zero_le _, rfl, rfl, HBX.out⟩
                    case round =>
                      clear HBX sx
                      obtain ⟨t, ht, rfl, rfl, hbx⟩ := hrel
                      have HBX := Lib.hid hbx
                      have sx := hbx.size
                      clear hbx
                      by_cases htl : t < b3.ars.length
                      · have htw : t < b3.wn.length := by have := HF3.out.lw; omega
                        obtain ⟨ba, oa, rfl, hba, hca⟩ := (Rd.below (Row.rd Ha6.out) HBX.out).one htl
                        have da := hca.trans (Qm.ints_at _ t htl)
                        rw [nth_at htl] at da
                        obtain ⟨bw, ow, rfl, hbw, hcw⟩ := (Rd.below (Row.rd Hw6.out) HBX.out).one htw
                        have dw := hcw.trans (Qm.ints_at _ t htw)
                        rw [nth_at htw] at dw
                        obtain ⟨b9, o9, rfl, hb9, hc9⟩ := (Hob.out.below HBX.out).one hjl
                        have dj := hc9.trans (Qm.ints_at _ j hjl)
                        rw [hxa.out] at dj
                        clear hc9 hca hcw
                        by_cases hxe : nth b3.ars t = x.1
                        · have hxb : (nth b3.ars t == x.1) = true := beq_iff_eq.2 hxe
                          have Hlt := Lib.hid (show lastTo b3.ars b3.wn x.1 (t + 1) = nth b3.wn t by simp only [lastTo]; rw [if_pos hxe])
                          clear hxe
                          go_wp2_with fail
                          go_quiet (fail)
                          go_wp2
                          go_roundw
                          case measure => simp [intOf]; omega
                          case rel => exact ⟨t + 1, by omega, by go_num, by rw [Hlt.out], HBX.out.drewN _⟩
                        · have hxb : (nth b3.ars t == x.1) = false := beq_eq_false_iff_ne.2 hxe
                          have Hlt := Lib.hid (show lastTo b3.ars b3.wn x.1 (t + 1) = lastTo b3.ars b3.wn x.1 t by simp only [lastTo]; rw [if_neg hxe])
                          clear hxe
                          go_wp2_with fail
                          go_quiet (fail)
                          go_wp2
                          go_roundw
                          case measure => simp [intOf]; omega
                          case rel => exact ⟨t + 1, by omega, by go_num, by rw [Hlt.out], HBX.out.drewN _⟩
                      · have hte : t = b3.ars.length := by omega
                        have HWT := Lib.hid (show wantTo b3 (lastTo b3.ars b3.wn x.1 t) m = x.2.list by rw [hte]; exact want_is HF3.out HV3.out HQ3.out (by omega) hx.out)
                        generalize lastTo b3.ars b3.wn x.1 t = last at HWT
                        clear hte
                        obtain ⟨wq2, hwq2⟩ : ∃ wq2 : World, wq2 = wr := ⟨_, rfl⟩
                        subst hwq2
                        go_wp2_with fail
                        go_loopw [19, 20] (fun wantv i wr1 => ∃ z : Nat, z ≤ m ∧ i = .int .i64 z ∧ Own wr1 w6.heap.size wantv (wantTo b3 last z) ∧ Below w6.heap.size w6 wr1) (fun _ i _ => m - (intOf i).toNat)
                        case atStart => exact ⟨0, Nat.zero_le _, rfl, Own.nil _ _, HBX.out⟩
                        case round =>
                          clear HBX sx
                          obtain ⟨z, hz, rfl, hown, hbx⟩ := hrel
                          have HBX := Lib.hid hbx
                          have sx := hbx.size
                          clear hbx
                          by_cases hzl : z < m
                          · have ci := Own.cell (Row.below Hi6.out HBX.out) (show z < b3.ins.length by have := HF3.out.li; omega)
                            have cl := Own.cell (Row.below Hl6.out HBX.out) (show z < b3.left.length by have := HF3.out.ll; omega)
                            have Hws := Lib.hid (show wantTo b3 last (z + 1) = wantTo b3 last z ++ (if awaited b3 last z then [(z : Int)] else []) from rfl)
                            have Hwl := Lib.hid (wantTo_len b3 last z)
                            have Haw := Lib.hid (show awaited b3 last z = (decide (0 < nth b3.ins z) && (decide (nth b3.ins z < last) && decide (nth b3.left z < last))) from rfl)
                            by_cases h1 : 0 < nth b3.ins z ∧ (nth b3.ins z < last ∧ nth b3.left z < last)
                            · obtain ⟨h1, h2, h3⟩ := h1
                              have Hwy := Lib.hid (show wantTo b3 last (z + 1) = wantTo b3 last z ++ [(z : Int)] by rw [Hws.out, Haw.out]; simp [h1, h2, h3])
                              go_wp2_with (at_builtin; refine wpList_append_int rfl (.tmp 151) (.tmp 153) rfl Try.underlying28 info3 w6.heap.size u19 (wantTo b3 last z) _ _ rfl hown rfl ?c1 ?c2 (by have := Hwl.out; omega) ?_)
                              case c1 => rfl
                              case c2 => exact sx
                              intro v1 w1 ho1 hk1 hm1
                              have HB1 := Lib.hid (HBX.out.trans (hk1.below sx (fun i hi => (Row.at_lt hown hi).1)))
                              have HO1 := Lib.hid ho1
                              clear hown ho1 hk1 hm1
                              go_wp2
                              go_roundw
                              case measure => simp [intOf]; omega
                              case rel => exact ⟨z + 1, by omega, by go_num, by rw [Hwy.out]; exact HO1.out, HB1.out⟩
                            · have Hwy := Lib.hid (show wantTo b3 last (z + 1) = wantTo b3 last z by rw [Hws.out, Haw.out]; simp only [Bool.and_eq_true, decide_eq_true_eq]; rw [if_neg h1, List.append_nil])
                              have HO1 := Lib.hid hown
                              clear hown
                              by_cases e1 : 0 < nth b3.ins z
                              · by_cases e2 : nth b3.ins z < last
                                · have e3 : ¬ nth b3.left z < last := fun e3 => h1 ⟨e1, e2, e3⟩
                                  clear h1
                                  go_wp2
                                  go_roundw
                                  case measure => simp [intOf]; omega
                                  case rel => exact ⟨z + 1, by omega, by go_num, by rw [Hwy.out]; exact HO1.out, HBX.out⟩
                                · clear h1
                                  go_wp2
                                  go_roundw
                                  case measure => simp [intOf]; omega
                                  case rel => exact ⟨z + 1, by omega, by go_num, by rw [Hwy.out]; exact HO1.out, HBX.out⟩
                              · clear h1
                                go_wp2
                                go_roundw
                                case measure => simp [intOf]; omega
                                case rel => exact ⟨z + 1, by omega, by go_num, by rw [Hwy.out]; exact HO1.out, HBX.out⟩
                          · have hze : z = m := by omega
                            rw [hze, HWT.out] at hown
                            have Hne := Lib.hid (list_ne (HV3.out.ws x hx.out).1)
                            have hlen : ((x.2.list.length : Int) == 0) = false := by
                              rw [beq_eq_false_iff_ne]
                              have := List.length_pos_iff.2 Hne.out
                              omega
                            have HFO := Lib.hid (forOf_mem HV3.out.nd hx.out)
                            have HI7 := Lib.hid (HI6.out.below HBX.out)
                            obtain ⟨b9, o9, rfl, hb9, hc9⟩ := (Hob.out.below HBX.out).one hjl
                            have dj := hc9.trans (Qm.ints_at _ j hjl)
                            rw [hxa.out] at dj
                            obtain ⟨A8, c8, rfl, hc81, hc82⟩ := Row.shape hown
                            have hc83 : c8 ≤ 9223372036854775807 := by simpa [maxLen] using hc82
                            have HOW := Lib.hid hown
                            clear hc9 hze hc82 hown
                            go_wp2_with fail
                            refine (for_yes HI7.out x.1 hokw.out (by have := hlw.out; omega)).mono ?_
                            rintro e w7 ⟨u7, rfl, o7, b7⟩
                            rw [HFO.out] at o7
                            go_wp2_with fail
                            refine (ints_any (Row.rd o7) (Row.rd (Row.below HOW.out b7))).mono ?_
                            rintro e w8 ⟨rfl, b8⟩
                            rw [show decide (x.2.list = x.2.list) = true from decide_eq_true rfl]
                            have B8 := Lib.hid (HBX.out.trans ((b7.trans (b8.mono b7.size)).mono sx))
                            clear o7 b7 b8
                            go_wp2
                            go_roundw
                            case measure => simp [intOf]; omega
                            case rel => exact ⟨j + 1, by omega, by go_num, B8.out⟩
                  · go_wp2
                    go_roundw
                    case measure => simp [intOf]; omega
                    case rel =>
                      refine ⟨k + 1, v', q3, b3, by omega, by go_num, HI6.out.below HBX.out, HQ3.out, HV3.out, hlw.out, HF3.out, Row.below Hi6.out HBX.out, Row.below Hl6.out HBX.out, Row.below Ha6.out HBX.out, Row.below Hw6.out HBX.out, hap3.out, B6.out.trans (HBX.out.mono s6)⟩
              · have bz : (nth b.ins tn == 0) = false := beq_eq_false_iff_ne.2 ez
                have Hbook := Lib.hid (show book b k ds[k] = b by simp only [book]; rw [if_pos E0.out, HTT.out, if_neg ez])
                have hF3 : Fits (stepQ q ds[k]).1 b m (k + 1) := by rw [← Hbook.out]; exact HFS.out
                have hB3 := hB2.out
                have hI3 := hi.out
                have hi3 := hoi2
                have hl3 := hol2
                have ha3 := hoa2
                have hw3 := how2
                have hap3 := hap
                clear hoi2 hol2 hoa2 how2 hap hi
                clear ez
                have hb3 := Lib.hid hB3
                have s3 := hB3.size
                have hokw := Lib.hid (show (stepQ q ds[k]).1.ok 0 from ⟨Int.le_refl 0, by rw [step_n, hqn.out]; omega⟩)
                have hlw := Lib.hid (show (stepQ q ds[k]).1.ws.length ≤ k + 1 from HLK.out.2)
                have HV3 := Lib.hid (inv_step HV.out ds[k])
                have HQ3 := Lib.hid (show (stepQ q ds[k]).1.n = (m : Int) by rw [step_n]; exact hqn.out)
                generalize (stepQ q ds[k]).1 = q3 at hI3 hF3 hokw hlw HV3 HQ3
                obtain ⟨b3, hbb⟩ : ∃ b3 : Bk, b3 = b := ⟨_, rfl⟩
                have HF3 : Hid (Fits q3 b3 m (k + 1)) := Lib.hid (by rw [hbb]; exact hF3)
                have hi4 := Own.of (l' := b3.ins) hi3 (by have e9 := congrArg Bk.ins hbb; exact e9)
                have hl4 := Own.of (l' := b3.left) hl3 (by have e9 := congrArg Bk.left hbb; exact e9)
                have ha4 := Own.of (l' := b3.ars) ha3 (by have e9 := congrArg Bk.ars hbb; exact e9)
                have hw4 := Own.of (l' := b3.wn) hw3 (by have e9 := congrArg Bk.wn hbb; exact e9)
                clear hB3 hF3 hbb hi3 hl3 ha3 hw3
                go_wp2_with fail
                generalize w2 = wz at hI3 hi4 hl4 ha4 hw4 hb3 s3 ⊢
                obtain ⟨wq0, hwq0⟩ : ∃ wq0 : World, wq0 = wr := ⟨_, rfl⟩
                subst hwq0
                refine (waiting_yes hI3 hokw.out (by have := hlw.out; omega)).mono ?_
                rintro e w6 ⟨u6, rfl, o6, b6⟩
                obtain ⟨A9, c9, rfl, hc91, hc92⟩ := Row.shape o6
                have hc93 : c9 ≤ 9223372036854775807 := by simpa [maxLen] using hc92
                have Hob := Lib.hid (Row.rd o6)
                have HI6 := Lib.hid (hI3.below b6)
                have Hi6 := Lib.hid (Row.below hi4 b6)
                have Hl6 := Lib.hid (Row.below hl4 b6)
                obtain ⟨Aa, ca, rfl, hca1, hca2⟩ := Row.shape ha4
                have hca3 : ca ≤ 9223372036854775807 := by simpa [maxLen] using hca2
                obtain ⟨Aw, cw, rfl, hcw1, hcw2⟩ := Row.shape hw4
                have hcw3 : cw ≤ 9223372036854775807 := by simpa [maxLen] using hcw2
                have Ha6 := Lib.hid (Row.below ha4 b6)
                have Hw6 := Lib.hid (Row.below hw4 b6)
                have B6 := Lib.hid (hb3.out.trans (b6.mono s3))
                have s6 := B6.out.size
                have hal : (addrs q3.ws).length = q3.ws.length := addrs_length _
                have HAL := Lib.hid hal
                clear hc92 hca2 hcw2 hI3 hi4 hl4 ha4 hw4 b6 o6 hal
                go_wp2_with fail
                go_loopw [16] (fun i wr1 => ∃ j : Nat, j ≤ (addrs q3.ws).length ∧ i = .int .i64 j ∧ Below w6.heap.size w6 wr1) (fun i _ => (addrs q3.ws).length - (intOf i).toNat)
                case atStart => exact ⟨0, Nat.zero_le _, rfl, Below.refl _ _⟩
                case round =>
                  obtain ⟨j, hj, rfl, hbx⟩ := hrel
                  have HBX := Lib.hid hbx
                  have sx := hbx.size
                  clear hbx
                  obtain ⟨wq1, hwq1⟩ : ∃ wq1 : World, wq1 = wr := ⟨_, rfl⟩
                  subst hwq1
                  by_cases hjl : j < (addrs q3.ws).length
                  · have hjw : j < q3.ws.length := by rw [← HAL.out]; exact hjl
                    have hx := Lib.hid (List.getElem_mem hjw)
                    have hxa := Lib.hid (show (addrs q3.ws)[j] = q3.ws[j].1 by simp [addrs])
                    obtain ⟨x, hxx⟩ : ∃ x, q3.ws[j] = x := ⟨_, rfl⟩
                    rw [hxx] at hx hxa
                    clear hxx hjw
                    go_wp2_with fail
                    go_loopw [17, 18] (fun lastv i wr1 => ∃ t : Nat, t ≤ b3.ars.length ∧ i = .int .i64 t ∧ lastv = .int .i64 (lastTo b3.ars b3.wn x.1 t) ∧ Below w6.heap.size w6 wr1) (fun _ i _ => b3.ars.length - (intOf i).toNat)
                    case atStart => exact ⟨0, Nat.zero_le _, rfl, rfl, HBX.out⟩
                    case round =>
                      clear HBX sx
                      obtain ⟨t, ht, rfl, rfl, hbx⟩ := hrel
                      have HBX := Lib.hid hbx
                      have sx := hbx.size
                      clear hbx
                      by_cases htl : t < b3.ars.length
                      · have htw : t < b3.wn.length := by have := HF3.out.lw; omega
                        obtain ⟨ba, oa, rfl, hba, hca⟩ := (Rd.below (Row.rd Ha6.out) HBX.out).one htl
                        have da := hca.trans (Qm.ints_at _ t htl)
                        rw [nth_at htl] at da
                        obtain ⟨bw, ow, rfl, hbw, hcw⟩ := (Rd.below (Row.rd Hw6.out) HBX.out).one htw
                        have dw := hcw.trans (Qm.ints_at _ t htw)
                        rw [nth_at htw] at dw
                        obtain ⟨b9, o9, rfl, hb9, hc9⟩ := (Hob.out.below HBX.out).one hjl
                        have dj := hc9.trans (Qm.ints_at _ j hjl)
                        rw [hxa.out] at dj
                        clear hc9 hca hcw
                        by_cases hxe : nth b3.ars t = x.1
                        · have hxb : (nth b3.ars t == x.1) = true := beq_iff_eq.2 hxe
                          have Hlt := Lib.hid (show lastTo b3.ars b3.wn x.1 (t + 1) = nth b3.wn t by simp only [lastTo]; rw [if_pos hxe])
                          clear hxe
                          go_wp2_with fail
                          go_quiet (fail)
                          go_wp2
                          go_roundw
                          case measure => simp [intOf]; omega
                          case rel => exact ⟨t + 1, by omega, by go_num, by rw [Hlt.out], HBX.out.drewN _⟩
                        · have hxb : (nth b3.ars t == x.1) = false := beq_eq_false_iff_ne.2 hxe
                          have Hlt := Lib.hid (show lastTo b3.ars b3.wn x.1 (t + 1) = lastTo b3.ars b3.wn x.1 t by simp only [lastTo]; rw [if_neg hxe])
                          clear hxe
                          go_wp2_with fail
                          go_quiet (fail)
                          go_wp2
                          go_roundw
                          case measure => simp [intOf]; omega
                          case rel => exact ⟨t + 1, by omega, by go_num, by rw [Hlt.out], HBX.out.drewN _⟩
                      · have hte : t = b3.ars.length := by omega
                        have HWT := Lib.hid (show wantTo b3 (lastTo b3.ars b3.wn x.1 t) m = x.2.list by rw [hte]; exact want_is HF3.out HV3.out HQ3.out (by omega) hx.out)
                        generalize lastTo b3.ars b3.wn x.1 t = last at HWT
                        clear hte
                        obtain ⟨wq2, hwq2⟩ : ∃ wq2 : World, wq2 = wr := ⟨_, rfl⟩
                        subst hwq2
                        go_wp2_with fail
                        go_loopw [19, 20] (fun wantv i wr1 => ∃ z : Nat, z ≤ m ∧ i = .int .i64 z ∧ Own wr1 w6.heap.size wantv (wantTo b3 last z) ∧ Below w6.heap.size w6 wr1) (fun _ i _ => m - (intOf i).toNat)
                        case atStart => exact ⟨0, Nat.zero_le _, rfl, Own.nil _ _, HBX.out⟩
                        case round =>
                          clear HBX sx
                          obtain ⟨z, hz, rfl, hown, hbx⟩ := hrel
                          have HBX := Lib.hid hbx
                          have sx := hbx.size
                          clear hbx
                          by_cases hzl : z < m
                          · have ci := Own.cell (Row.below Hi6.out HBX.out) (show z < b3.ins.length by have := HF3.out.li; omega)
                            have cl := Own.cell (Row.below Hl6.out HBX.out) (show z < b3.left.length by have := HF3.out.ll; omega)
                            have Hws := Lib.hid (show wantTo b3 last (z + 1) = wantTo b3 last z ++ (if awaited b3 last z then [(z : Int)] else []) from rfl)
                            have Hwl := Lib.hid (wantTo_len b3 last z)
                            have Haw := Lib.hid (show awaited b3 last z = (decide (0 < nth b3.ins z) && (decide (nth b3.ins z < last) && decide (nth b3.left z < last))) from rfl)
                            by_cases h1 : 0 < nth b3.ins z ∧ (nth b3.ins z < last ∧ nth b3.left z < last)
                            · obtain ⟨h1, h2, h3⟩ := h1
                              have Hwy := Lib.hid (show wantTo b3 last (z + 1) = wantTo b3 last z ++ [(z : Int)] by rw [Hws.out, Haw.out]; simp [h1, h2, h3])
                              go_wp2_with (at_builtin; refine wpList_append_int rfl (.tmp 151) (.tmp 153) rfl Try.underlying28 info3 w6.heap.size u19 (wantTo b3 last z) _ _ rfl hown rfl ?c1 ?c2 (by have := Hwl.out; omega) ?_)
                              case c1 => rfl
                              case c2 => exact sx
                              intro v1 w1 ho1 hk1 hm1
                              have HB1 := Lib.hid (HBX.out.trans (hk1.below sx (fun i hi => (Row.at_lt hown hi).1)))
                              have HO1 := Lib.hid ho1
                              clear hown ho1 hk1 hm1
                              go_wp2
                              go_roundw
                              case measure => simp [intOf]; omega
                              case rel => exact ⟨z + 1, by omega, by go_num, by rw [Hwy.out]; exact HO1.out, HB1.out⟩
                            · have Hwy := Lib.hid (show wantTo b3 last (z + 1) = wantTo b3 last z by rw [Hws.out, Haw.out]; simp only [Bool.and_eq_true, decide_eq_true_eq]; rw [if_neg h1, List.append_nil])
                              have HO1 := Lib.hid hown
                              clear hown
                              by_cases e1 : 0 < nth b3.ins z
                              · by_cases e2 : nth b3.ins z < last
                                · have e3 : ¬ nth b3.left z < last := fun e3 => h1 ⟨e1, e2, e3⟩
                                  clear h1
                                  go_wp2
                                  go_roundw
                                  case measure => simp [intOf]; omega
                                  case rel => exact ⟨z + 1, by omega, by go_num, by rw [Hwy.out]; exact HO1.out, HBX.out⟩
                                · clear h1
                                  go_wp2
                                  go_roundw
                                  case measure => simp [intOf]; omega
                                  case rel => exact ⟨z + 1, by omega, by go_num, by rw [Hwy.out]; exact HO1.out, HBX.out⟩
                              · clear h1
                                go_wp2
                                go_roundw
                                case measure => simp [intOf]; omega
                                case rel => exact ⟨z + 1, by omega, by go_num, by rw [Hwy.out]; exact HO1.out, HBX.out⟩
                          · have hze : z = m := by omega
                            rw [hze, HWT.out] at hown
                            have Hne := Lib.hid (list_ne (HV3.out.ws x hx.out).1)
                            have hlen : ((x.2.list.length : Int) == 0) = false := by
                              rw [beq_eq_false_iff_ne]
                              have := List.length_pos_iff.2 Hne.out
                              omega
                            have HFO := Lib.hid (forOf_mem HV3.out.nd hx.out)
                            have HI7 := Lib.hid (HI6.out.below HBX.out)
                            obtain ⟨b9, o9, rfl, hb9, hc9⟩ := (Hob.out.below HBX.out).one hjl
                            have dj := hc9.trans (Qm.ints_at _ j hjl)
                            rw [hxa.out] at dj
                            obtain ⟨A8, c8, rfl, hc81, hc82⟩ := Row.shape hown
                            have hc83 : c8 ≤ 9223372036854775807 := by simpa [maxLen] using hc82
                            have HOW := Lib.hid hown
                            clear hc9 hze hc82 hown
                            go_wp2_with fail
                            refine (for_yes HI7.out x.1 hokw.out (by have := hlw.out; omega)).mono ?_
                            rintro e w7 ⟨u7, rfl, o7, b7⟩
                            rw [HFO.out] at o7
                            go_wp2_with fail
                            refine (ints_any (Row.rd o7) (Row.rd (Row.below HOW.out b7))).mono ?_
                            rintro e w8 ⟨rfl, b8⟩
                            rw [show decide (x.2.list = x.2.list) = true from decide_eq_true rfl]
                            have B8 := Lib.hid (HBX.out.trans ((b7.trans (b8.mono b7.size)).mono sx))
                            clear o7 b7 b8
                            go_wp2
                            go_roundw
                            case measure => simp [intOf]; omega
                            case rel => exact ⟨j + 1, by omega, by go_num, B8.out⟩
                  · go_wp2
                    go_roundw
                    case measure => simp [intOf]; omega
                    case rel =>
                      refine ⟨k + 1, v', q3, b3, by omega, by go_num, HI6.out.below HBX.out, HQ3.out, HV3.out, hlw.out, HF3.out, Row.below Hi6.out HBX.out, Row.below Hl6.out HBX.out, Row.below Ha6.out HBX.out, Row.below Hw6.out HBX.out, hap3.out, B6.out.trans (HBX.out.mono s6)⟩
            · have b0 : (ds[k].what == 0) = false := beq_eq_false_iff_ne.2 e0
              by_cases e1 : ds[k].what = 1
              · have b1 : (ds[k].what == 1) = true := beq_iff_eq.2 e1
                have b4 : (ds[k].what == 4) = false := by rw [e1]; rfl
                obtain ⟨ht0, ht1⟩ := HOKT.out (.inr e1)
                rw [hqn.out] at ht1
                obtain ⟨tn, htn⟩ : ∃ tn : Nat, ds[k].th = tn := ⟨ds[k].th.toNat, by omega⟩
                rw [htn] at d1 ht1
                have htm : tn < m := by omega
                have htt : ds[k].th.toNat = tn := by omega
                have ci := Own.cell hoi2 (show tn < b.ins.length by rw [li.out]; exact htm)
                have cl := Own.cell hol2 (show tn < b.left.length by rw [ll.out]; exact htm)
                have fi := Own.free hoi2 tn
                have Hbook := Lib.hid (show book b k ds[k] = { b with ins := b.ins.set tn 0, left := b.left.set tn ((k : Int) + 1) } by simp only [book]; rw [if_neg e0, if_pos e1, htt])
                have hF3 : Fits (stepQ q ds[k]).1 { b with ins := b.ins.set tn 0, left := b.left.set tn ((k : Int) + 1) } m (k + 1) := by rw [← Hbook.out]; exact HFS.out
                have KK1 : Kept w2 (w2.setCell ⟨w1.heap.size, tn, none⟩ (.int .i64 0)) (fun x => x = w1.heap.size ∨ x = w1.heap.size + 1) := (Kept.refl _ _).setCell (.inl (.inl rfl)) _
                have hl3' := Row.keep hol2 (show Kept w2 (w2.setCell ⟨w1.heap.size, tn, none⟩ (.int .i64 0)) (fun x => x = w1.heap.size) from Kept.put w2 ⟨w1.heap.size, tn, none⟩ _) (fun x hx e => by simp only [Value.ownBlock, Option.some.injEq] at hx; omega)
                have fl := Own.free hl3' tn
                have d1' : (w2.setCell ⟨w1.heap.size, tn, none⟩ (.int .i64 0)).cell? ⟨wr.heap.size, 1, none⟩ = some (.int .i64 (tn : Int)) := by rw [← htn]; exact (BLK.out.keep KK1 (by omega)).cell 1 rfl
                have KK : Kept w2 ((w2.setCell ⟨w1.heap.size, tn, none⟩ (.int .i64 0)).setCell ⟨w1.heap.size + 1, tn, none⟩ (.int .i64 ((k : Int) + 1))) (fun x => x = w1.heap.size ∨ x = w1.heap.size + 1) := KK1.setCell (.inl (.inr rfl)) _
                have d0a := (BLK.out.keep KK1 (by omega)).cell 0 rfl
                have d0b := (BLK.out.keep KK (by omega)).cell 0 rfl
                have d3b := (BLK.out.keep KK (by omega)).cell 3 rfl
                have hB3 := hB2.out.trans (KK.below s2 (by intro x hx; omega))
                have hI3 := hi.out.keep KK (fun x hf hx => by
                  rcases hx with hx | hx
                  · exact hi.out.apart hoi2 x (by rw [hx]; rfl) hf
                  · exact hi.out.apart hol2 x (by rw [hx]; rfl) hf)
                have hi3 := Own.put hoi2 tn 0
                have hi3 := Row.keep hi3 (Kept.put _ ⟨w1.heap.size + 1, tn, none⟩ (.int .i64 ((k : Int) + 1))) (fun x hx e => by have e' : x = w1.heap.size + 1 := e; simp only [Value.ownBlock, Option.some.injEq] at hx; omega)
                have hl3 := Own.put hl3' tn ((k : Int) + 1)
                have ha3 := Row.keep hoa2 KK (fun x hx e => by
                  rcases e with e | e
                  · exact hap.out.ai (by rw [hx, e])
                  · exact hap.out.al (by rw [hx, e]))
                have hw3 := Row.keep how2 KK (fun x hx e => by
                  rcases e with e | e
                  · exact hap.out.wi (by rw [hx, e])
                  · exact hap.out.wl (by rw [hx, e]))
                have hap3 := hap
                clear e0 e1 htn htt ht0 KK1 KK hl3' hoi2 hol2 hoa2 how2 hap hi
                have hb3 := Lib.hid hB3
                have s3 := hB3.size
                have hokw := Lib.hid (show (stepQ q ds[k]).1.ok 0 from ⟨Int.le_refl 0, by rw [step_n, hqn.out]; omega⟩)
                have hlw := Lib.hid (show (stepQ q ds[k]).1.ws.length ≤ k + 1 from HLK.out.2)
                have HV3 := Lib.hid (inv_step HV.out ds[k])
                have HQ3 := Lib.hid (show (stepQ q ds[k]).1.n = (m : Int) by rw [step_n]; exact hqn.out)
                generalize (stepQ q ds[k]).1 = q3 at hI3 hF3 hokw hlw HV3 HQ3
                obtain ⟨b3, hbb⟩ : ∃ b3 : Bk, b3 = { b with ins := b.ins.set tn 0, left := b.left.set tn ((k : Int) + 1) } := ⟨_, rfl⟩
                have HF3 : Hid (Fits q3 b3 m (k + 1)) := Lib.hid (by rw [hbb]; exact hF3)
                have hi4 := Own.of (l' := b3.ins) hi3 (by have e9 := congrArg Bk.ins hbb; exact e9)
                have hl4 := Own.of (l' := b3.left) hl3 (by have e9 := congrArg Bk.left hbb; exact e9)
                have ha4 := Own.of (l' := b3.ars) ha3 (by have e9 := congrArg Bk.ars hbb; exact e9)
                have hw4 := Own.of (l' := b3.wn) hw3 (by have e9 := congrArg Bk.wn hbb; exact e9)
                clear hB3 hF3 hbb hi3 hl3 ha3 hw3
                go_wp2_with fail
                generalize ((w2.setCell ⟨w1.heap.size, tn, none⟩ (.int .i64 0)).setCell ⟨w1.heap.size + 1, tn, none⟩ (.int .i64 ((k : Int) + 1))) = wz at hI3 hi4 hl4 ha4 hw4 hb3 s3 ⊢
                obtain ⟨wq0, hwq0⟩ : ∃ wq0 : World, wq0 = wr := ⟨_, rfl⟩
                subst hwq0
                refine (waiting_yes hI3 hokw.out (by have := hlw.out; omega)).mono ?_
                rintro e w6 ⟨u6, rfl, o6, b6⟩
                obtain ⟨A9, c9, rfl, hc91, hc92⟩ := Row.shape o6
                have hc93 : c9 ≤ 9223372036854775807 := by simpa [maxLen] using hc92
                have Hob := Lib.hid (Row.rd o6)
                have HI6 := Lib.hid (hI3.below b6)
                have Hi6 := Lib.hid (Row.below hi4 b6)
                have Hl6 := Lib.hid (Row.below hl4 b6)
                obtain ⟨Aa, ca, rfl, hca1, hca2⟩ := Row.shape ha4
                have hca3 : ca ≤ 9223372036854775807 := by simpa [maxLen] using hca2
                obtain ⟨Aw, cw, rfl, hcw1, hcw2⟩ := Row.shape hw4
                have hcw3 : cw ≤ 9223372036854775807 := by simpa [maxLen] using hcw2
                have Ha6 := Lib.hid (Row.below ha4 b6)
                have Hw6 := Lib.hid (Row.below hw4 b6)
                have B6 := Lib.hid (hb3.out.trans (b6.mono s3))
                have s6 := B6.out.size
                have hal : (addrs q3.ws).length = q3.ws.length := addrs_length _
                have HAL := Lib.hid hal
                clear hc92 hca2 hcw2 hI3 hi4 hl4 ha4 hw4 b6 o6 hal
                go_wp2_with fail
                go_loopw [16] (fun i wr1 => ∃ j : Nat, j ≤ (addrs q3.ws).length ∧ i = .int .i64 j ∧ Below w6.heap.size w6 wr1) (fun i _ => (addrs q3.ws).length - (intOf i).toNat)
                case atStart => exact ⟨0, Nat.zero_le _, rfl, Below.refl _ _⟩
                case round =>
                  obtain ⟨j, hj, rfl, hbx⟩ := hrel
                  have HBX := Lib.hid hbx
                  have sx := hbx.size
                  clear hbx
                  obtain ⟨wq1, hwq1⟩ : ∃ wq1 : World, wq1 = wr := ⟨_, rfl⟩
                  subst hwq1
                  by_cases hjl : j < (addrs q3.ws).length
                  · have hjw : j < q3.ws.length := by rw [← HAL.out]; exact hjl
                    have hx := Lib.hid (List.getElem_mem hjw)
                    have hxa := Lib.hid (show (addrs q3.ws)[j] = q3.ws[j].1 by simp [addrs])
                    obtain ⟨x, hxx⟩ : ∃ x, q3.ws[j] = x := ⟨_, rfl⟩
                    rw [hxx] at hx hxa
                    clear hxx hjw
                    go_wp2_with fail
                    go_loopw [17, 18] (fun lastv i wr1 => ∃ t : Nat, t ≤ b3.ars.length ∧ i = .int .i64 t ∧ lastv = .int .i64 (lastTo b3.ars b3.wn x.1 t) ∧ Below w6.heap.size w6 wr1) (fun _ i _ => b3.ars.length - (intOf i).toNat)
                    case atStart => exact ⟨0, Nat.zero_le _, rfl, rfl, HBX.out⟩
                    case round =>
                      clear HBX sx
                      obtain ⟨t, ht, rfl, rfl, hbx⟩ := hrel
                      have HBX := Lib.hid hbx
                      have sx := hbx.size
                      clear hbx
                      by_cases htl : t < b3.ars.length
                      · have htw : t < b3.wn.length := by have := HF3.out.lw; omega
                        obtain ⟨ba, oa, rfl, hba, hca⟩ := (Rd.below (Row.rd Ha6.out) HBX.out).one htl
                        have da := hca.trans (Qm.ints_at _ t htl)
                        rw [nth_at htl] at da
                        obtain ⟨bw, ow, rfl, hbw, hcw⟩ := (Rd.below (Row.rd Hw6.out) HBX.out).one htw
                        have dw := hcw.trans (Qm.ints_at _ t htw)
                        rw [nth_at htw] at dw
                        obtain ⟨b9, o9, rfl, hb9, hc9⟩ := (Hob.out.below HBX.out).one hjl
                        have dj := hc9.trans (Qm.ints_at _ j hjl)
                        rw [hxa.out] at dj
                        clear hc9 hca hcw
                        by_cases hxe : nth b3.ars t = x.1
                        · have hxb : (nth b3.ars t == x.1) = true := beq_iff_eq.2 hxe
                          have Hlt := Lib.hid (show lastTo b3.ars b3.wn x.1 (t + 1) = nth b3.wn t by simp only [lastTo]; rw [if_pos hxe])
                          clear hxe
                          go_wp2_with fail
                          go_quiet (fail)
                          go_wp2
                          go_roundw
                          case measure => simp [intOf]; omega
                          case rel => exact ⟨t + 1, by omega, by go_num, by rw [Hlt.out], HBX.out.drewN _⟩
                        · have hxb : (nth b3.ars t == x.1) = false := beq_eq_false_iff_ne.2 hxe
                          have Hlt := Lib.hid (show lastTo b3.ars b3.wn x.1 (t + 1) = lastTo b3.ars b3.wn x.1 t by simp only [lastTo]; rw [if_neg hxe])
                          clear hxe
                          go_wp2_with fail
                          go_quiet (fail)
                          go_wp2
                          go_roundw
                          case measure => simp [intOf]; omega
                          case rel => exact ⟨t + 1, by omega, by go_num, by rw [Hlt.out], HBX.out.drewN _⟩
                      · have hte : t = b3.ars.length := by omega
                        have HWT := Lib.hid (show wantTo b3 (lastTo b3.ars b3.wn x.1 t) m = x.2.list by rw [hte]; exact want_is HF3.out HV3.out HQ3.out (by omega) hx.out)
                        generalize lastTo b3.ars b3.wn x.1 t = last at HWT
                        clear hte
                        obtain ⟨wq2, hwq2⟩ : ∃ wq2 : World, wq2 = wr := ⟨_, rfl⟩
                        subst hwq2
                        go_wp2_with fail
                        go_loopw [19, 20] (fun wantv i wr1 => ∃ z : Nat, z ≤ m ∧ i = .int .i64 z ∧ Own wr1 w6.heap.size wantv (wantTo b3 last z) ∧ Below w6.heap.size w6 wr1) (fun _ i _ => m - (intOf i).toNat)
                        case atStart => exact ⟨0, Nat.zero_le _, rfl, Own.nil _ _, HBX.out⟩
                        case round =>
                          clear HBX sx
                          obtain ⟨z, hz, rfl, hown, hbx⟩ := hrel
                          have HBX := Lib.hid hbx
                          have sx := hbx.size
                          clear hbx
                          by_cases hzl : z < m
                          · have ci := Own.cell (Row.below Hi6.out HBX.out) (show z < b3.ins.length by have := HF3.out.li; omega)
                            have cl := Own.cell (Row.below Hl6.out HBX.out) (show z < b3.left.length by have := HF3.out.ll; omega)
                            have Hws := Lib.hid (show wantTo b3 last (z + 1) = wantTo b3 last z ++ (if awaited b3 last z then [(z : Int)] else []) from rfl)
                            have Hwl := Lib.hid (wantTo_len b3 last z)
                            have Haw := Lib.hid (show awaited b3 last z = (decide (0 < nth b3.ins z) && (decide (nth b3.ins z < last) && decide (nth b3.left z < last))) from rfl)
                            by_cases h1 : 0 < nth b3.ins z ∧ (nth b3.ins z < last ∧ nth b3.left z < last)
                            · obtain ⟨h1, h2, h3⟩ := h1
                              have Hwy := Lib.hid (show wantTo b3 last (z + 1) = wantTo b3 last z ++ [(z : Int)] by rw [Hws.out, Haw.out]; simp [h1, h2, h3])
                              go_wp2_with (at_builtin; refine wpList_append_int rfl (.tmp 151) (.tmp 153) rfl Try.underlying28 info3 w6.heap.size u19 (wantTo b3 last z) _ _ rfl hown rfl ?c1 ?c2 (by have := Hwl.out; omega) ?_)
                              case c1 => rfl
                              case c2 => exact sx
                              intro v1 w1 ho1 hk1 hm1
                              have HB1 := Lib.hid (HBX.out.trans (hk1.below sx (fun i hi => (Row.at_lt hown hi).1)))
                              have HO1 := Lib.hid ho1
                              clear hown ho1 hk1 hm1
                              go_wp2
                              go_roundw
                              case measure => simp [intOf]; omega
                              case rel => exact ⟨z + 1, by omega, by go_num, by rw [Hwy.out]; exact HO1.out, HB1.out⟩
                            · have Hwy := Lib.hid (show wantTo b3 last (z + 1) = wantTo b3 last z by rw [Hws.out, Haw.out]; simp only [Bool.and_eq_true, decide_eq_true_eq]; rw [if_neg h1, List.append_nil])
                              have HO1 := Lib.hid hown
                              clear hown
                              by_cases e1 : 0 < nth b3.ins z
                              · by_cases e2 : nth b3.ins z < last
                                · have e3 : ¬ nth b3.left z < last := fun e3 => h1 ⟨e1, e2, e3⟩
                                  clear h1
                                  go_wp2
                                  go_roundw
                                  case measure => simp [intOf]; omega
                                  case rel => exact ⟨z + 1, by omega, by go_num, by rw [Hwy.out]; exact HO1.out, HBX.out⟩
                                · clear h1
                                  go_wp2
                                  go_roundw
                                  case measure => simp [intOf]; omega
                                  case rel => exact ⟨z + 1, by omega, by go_num, by rw [Hwy.out]; exact HO1.out, HBX.out⟩
                              · clear h1
                                go_wp2
                                go_roundw
                                case measure => simp [intOf]; omega
                                case rel => exact ⟨z + 1, by omega, by go_num, by rw [Hwy.out]; exact HO1.out, HBX.out⟩
                          · have hze : z = m := by omega
                            rw [hze, HWT.out] at hown
                            have Hne := Lib.hid (list_ne (HV3.out.ws x hx.out).1)
                            have hlen : ((x.2.list.length : Int) == 0) = false := by
                              rw [beq_eq_false_iff_ne]
                              have := List.length_pos_iff.2 Hne.out
                              omega
                            have HFO := Lib.hid (forOf_mem HV3.out.nd hx.out)
                            have HI7 := Lib.hid (HI6.out.below HBX.out)
                            obtain ⟨b9, o9, rfl, hb9, hc9⟩ := (Hob.out.below HBX.out).one hjl
                            have dj := hc9.trans (Qm.ints_at _ j hjl)
                            rw [hxa.out] at dj
                            obtain ⟨A8, c8, rfl, hc81, hc82⟩ := Row.shape hown
                            have hc83 : c8 ≤ 9223372036854775807 := by simpa [maxLen] using hc82
                            have HOW := Lib.hid hown
                            clear hc9 hze hc82 hown
                            go_wp2_with fail
                            refine (for_yes HI7.out x.1 hokw.out (by have := hlw.out; omega)).mono ?_
                            rintro e w7 ⟨u7, rfl, o7, b7⟩
                            rw [HFO.out] at o7
                            go_wp2_with fail
                            refine (ints_any (Row.rd o7) (Row.rd (Row.below HOW.out b7))).mono ?_
                            rintro e w8 ⟨rfl, b8⟩
                            rw [show decide (x.2.list = x.2.list) = true from decide_eq_true rfl]
                            have B8 := Lib.hid (HBX.out.trans ((b7.trans (b8.mono b7.size)).mono sx))
                            clear o7 b7 b8
                            go_wp2
                            go_roundw
                            case measure => simp [intOf]; omega
                            case rel => exact ⟨j + 1, by omega, by go_num, B8.out⟩
                  · go_wp2
                    go_roundw
                    case measure => simp [intOf]; omega
                    case rel =>
                      refine ⟨k + 1, v', q3, b3, by omega, by go_num, HI6.out.below HBX.out, HQ3.out, HV3.out, hlw.out, HF3.out, Row.below Hi6.out HBX.out, Row.below Hl6.out HBX.out, Row.below Ha6.out HBX.out, Row.below Hw6.out HBX.out, hap3.out, B6.out.trans (HBX.out.mono s6)⟩
              · have b1 : (ds[k].what == 1) = false := beq_eq_false_iff_ne.2 e1
                by_cases e4 : ds[k].what = 4
                · have b4 : (ds[k].what == 4) = true := beq_iff_eq.2 e4
                  have Hbook := Lib.hid (show book b k ds[k] = { b with ars := b.ars ++ [ds[k].ad], wn := b.wn ++ [(k : Int) + 1] } by simp only [book]; rw [if_neg e0, if_neg e1, if_pos e4])
                  have hF3 : Fits (stepQ q ds[k]).1 { b with ars := b.ars ++ [ds[k].ad], wn := b.wn ++ [(k : Int) + 1] } m (k + 1) := by rw [← Hbook.out]; exact HFS.out
                  have hla : b.ars.length < 1000000 := by have := hfit.out.la; omega
                  have hlb : b.wn.length < 1000000 := by have := hfit.out.la; have := hfit.out.lw; omega
                  clear e0 e1 e4
                  go_wp2_with (at_builtin; refine wpList_append_int rfl (.tmp 88) (.tmp 91) rfl Try.underlying28 info3 w.heap.size u9 b.ars _ _ rfl hoa2 rfl ?c1 s2 hla ?_)
                  case c1 => rfl
                  intro ua3 w3 ho3 hk3 hm3
                  have hi5 := Lib.hid (hi.out.keep hk3 (fun i hf hs => hi.out.apart hoa2 i hs hf))
                  have hoi3 := Row.keep hoi2 hk3 (fun x hx e => hap.out.ai (e.trans hx.symm))
                  have hol3 := Row.keep hol2 hk3 (fun x hx e => hap.out.al (e.trans hx.symm))
                  have how3 := Row.keep how2 hk3 (fun x hx e => hap.out.aw x e hx)
                  have B5 := Lib.hid (hB2.out.trans (hk3.below s2 (fun i hi => (Row.at_lt hoa2 hi).1)))
                  have s5 := B5.out.size
                  have HM3 := Lib.hid (show ∀ x, ua3.ownBlock = some x → u9.ownBlock = some x ∨ w2.heap.size ≤ x from hm3)
                  have HWL := Lib.hid (show ∀ x, u10.ownBlock = some x → x < w2.heap.size from fun x hx => (Row.at_lt how2 hx).2)
                  have S3 := Lib.hid hk3.size
                  clear hk3 hm3 hoi2 hol2 how2 hoa2 hi
                  go_wp2_with (at_builtin; refine wpList_append_int rfl (.tmp 93) (.tmp 96) rfl Try.underlying28 info3 w.heap.size u10 b.wn _ _ rfl how3 rfl ?c1 s5 hlb ?_)
                  case c1 => rfl
                  intro uw4 w4 ho4 hk4 hm4
                  have hB3 := B5.out.trans (hk4.below s5 (fun i hi => (Row.at_lt how3 hi).1))
                  have hI3 := hi5.out.keep hk4 (fun i hf hs => hi5.out.apart how3 i hs hf)
                  have hi3 := Row.keep hoi3 hk4 (fun x hx e => hap.out.wi (e.trans hx.symm))
                  have hl3 := Row.keep hol3 hk4 (fun x hx e => hap.out.wl (e.trans hx.symm))
                  have ha3 := Row.keep ho3 hk4 (fun x hx e => by
                    rcases HM3.out x hx with h | h
                    · exact hap.out.aw x h e
                    · have := HWL.out x e; omega)
                  have hw3 := ho4
                  have hap3 := Lib.hid (show Four w1.heap.size (w1.heap.size + 1) ua3 uw4 from ⟨hap.out.il, fun e => by
                      rcases HM3.out _ e with h | h
                      · exact hap.out.ai h
                      · omega, fun e => by
                      rcases HM3.out _ e with h | h
                      · exact hap.out.al h
                      · omega, fun e => by
                      rcases hm4 _ e with h | h
                      · exact hap.out.wi h
                      · have := S3.out; omega, fun e => by
                      rcases hm4 _ e with h | h
                      · exact hap.out.wl h
                      · have := S3.out; omega, fun x hx e => by
                      rcases hm4 _ e with h | h
                      · rcases HM3.out x hx with h' | h'
                        · exact hap.out.aw x h' h
                        · have := HWL.out x h; omega
                      · have := (Row.at_lt ho3 hx).2; omega⟩)
                  clear hap hi5 hoi3 hol3 how3 ho3 ho4 hk4 hm4
                  have hb3 := Lib.hid hB3
                  have s3 := hB3.size
                  have hokw := Lib.hid (show (stepQ q ds[k]).1.ok 0 from ⟨Int.le_refl 0, by rw [step_n, hqn.out]; omega⟩)
                  have hlw := Lib.hid (show (stepQ q ds[k]).1.ws.length ≤ k + 1 from HLK.out.2)
                  have HV3 := Lib.hid (inv_step HV.out ds[k])
                  have HQ3 := Lib.hid (show (stepQ q ds[k]).1.n = (m : Int) by rw [step_n]; exact hqn.out)
                  generalize (stepQ q ds[k]).1 = q3 at hI3 hF3 hokw hlw HV3 HQ3
                  obtain ⟨b3, hbb⟩ : ∃ b3 : Bk, b3 = { b with ars := b.ars ++ [ds[k].ad], wn := b.wn ++ [(k : Int) + 1] } := ⟨_, rfl⟩
                  have HF3 : Hid (Fits q3 b3 m (k + 1)) := Lib.hid (by rw [hbb]; exact hF3)
                  have hi4 := Own.of (l' := b3.ins) hi3 (by have e9 := congrArg Bk.ins hbb; exact e9)
                  have hl4 := Own.of (l' := b3.left) hl3 (by have e9 := congrArg Bk.left hbb; exact e9)
                  have ha4 := Own.of (l' := b3.ars) ha3 (by have e9 := congrArg Bk.ars hbb; exact e9)
                  have hw4 := Own.of (l' := b3.wn) hw3 (by have e9 := congrArg Bk.wn hbb; exact e9)
                  clear hB3 hF3 hbb hi3 hl3 ha3 hw3
                  go_wp2_with fail
                  generalize w4 = wz at hI3 hi4 hl4 ha4 hw4 hb3 s3 ⊢
                  obtain ⟨wq0, hwq0⟩ : ∃ wq0 : World, wq0 = wr := ⟨_, rfl⟩
                  subst hwq0
                  refine (waiting_yes hI3 hokw.out (by have := hlw.out; omega)).mono ?_
                  rintro e w6 ⟨u6, rfl, o6, b6⟩
                  obtain ⟨A9, c9, rfl, hc91, hc92⟩ := Row.shape o6
                  have hc93 : c9 ≤ 9223372036854775807 := by simpa [maxLen] using hc92
                  have Hob := Lib.hid (Row.rd o6)
                  have HI6 := Lib.hid (hI3.below b6)
                  have Hi6 := Lib.hid (Row.below hi4 b6)
                  have Hl6 := Lib.hid (Row.below hl4 b6)
                  obtain ⟨Aa, ca, rfl, hca1, hca2⟩ := Row.shape ha4
                  have hca3 : ca ≤ 9223372036854775807 := by simpa [maxLen] using hca2
                  obtain ⟨Aw, cw, rfl, hcw1, hcw2⟩ := Row.shape hw4
                  have hcw3 : cw ≤ 9223372036854775807 := by simpa [maxLen] using hcw2
                  have Ha6 := Lib.hid (Row.below ha4 b6)
                  have Hw6 := Lib.hid (Row.below hw4 b6)
                  have B6 := Lib.hid (hb3.out.trans (b6.mono s3))
                  have s6 := B6.out.size
                  have hal : (addrs q3.ws).length = q3.ws.length := addrs_length _
                  have HAL := Lib.hid hal
                  clear hc92 hca2 hcw2 hI3 hi4 hl4 ha4 hw4 b6 o6 hal
                  go_wp2_with fail
                  go_loopw [16] (fun i wr1 => ∃ j : Nat, j ≤ (addrs q3.ws).length ∧ i = .int .i64 j ∧ Below w6.heap.size w6 wr1) (fun i _ => (addrs q3.ws).length - (intOf i).toNat)
                  case atStart => exact ⟨0, Nat.zero_le _, rfl, Below.refl _ _⟩
                  case round =>
                    obtain ⟨j, hj, rfl, hbx⟩ := hrel
                    have HBX := Lib.hid hbx
                    have sx := hbx.size
                    clear hbx
                    obtain ⟨wq1, hwq1⟩ : ∃ wq1 : World, wq1 = wr := ⟨_, rfl⟩
                    subst hwq1
                    by_cases hjl : j < (addrs q3.ws).length
                    · have hjw : j < q3.ws.length := by rw [← HAL.out]; exact hjl
                      have hx := Lib.hid (List.getElem_mem hjw)
                      have hxa := Lib.hid (show (addrs q3.ws)[j] = q3.ws[j].1 by simp [addrs])
                      obtain ⟨x, hxx⟩ : ∃ x, q3.ws[j] = x := ⟨_, rfl⟩
                      rw [hxx] at hx hxa
                      clear hxx hjw
                      go_wp2_with fail
                      go_loopw [17, 18] (fun lastv i wr1 => ∃ t : Nat, t ≤ b3.ars.length ∧ i = .int .i64 t ∧ lastv = .int .i64 (lastTo b3.ars b3.wn x.1 t) ∧ Below w6.heap.size w6 wr1) (fun _ i _ => b3.ars.length - (intOf i).toNat)
                      case atStart => exact ⟨0, Nat.zero_le _, rfl, rfl, HBX.out⟩
                      case round =>
                        clear HBX sx
                        obtain ⟨t, ht, rfl, rfl, hbx⟩ := hrel
                        have HBX := Lib.hid hbx
                        have sx := hbx.size
                        clear hbx
                        by_cases htl : t < b3.ars.length
                        · have htw : t < b3.wn.length := by have := HF3.out.lw; omega
                          obtain ⟨ba, oa, rfl, hba, hca⟩ := (Rd.below (Row.rd Ha6.out) HBX.out).one htl
                          have da := hca.trans (Qm.ints_at _ t htl)
                          rw [nth_at htl] at da
                          obtain ⟨bw, ow, rfl, hbw, hcw⟩ := (Rd.below (Row.rd Hw6.out) HBX.out).one htw
                          have dw := hcw.trans (Qm.ints_at _ t htw)
                          rw [nth_at htw] at dw
                          obtain ⟨b9, o9, rfl, hb9, hc9⟩ := (Hob.out.below HBX.out).one hjl
                          have dj := hc9.trans (Qm.ints_at _ j hjl)
                          rw [hxa.out] at dj
                          clear hc9 hca hcw
                          by_cases hxe : nth b3.ars t = x.1
                          · have hxb : (nth b3.ars t == x.1) = true := beq_iff_eq.2 hxe
                            have Hlt := Lib.hid (show lastTo b3.ars b3.wn x.1 (t + 1) = nth b3.wn t by simp only [lastTo]; rw [if_pos hxe])
                            clear hxe
                            go_wp2_with fail
                            go_quiet (fail)
                            go_wp2
                            go_roundw
                            case measure => simp [intOf]; omega
                            case rel => exact ⟨t + 1, by omega, by go_num, by rw [Hlt.out], HBX.out.drewN _⟩
                          · have hxb : (nth b3.ars t == x.1) = false := beq_eq_false_iff_ne.2 hxe
                            have Hlt := Lib.hid (show lastTo b3.ars b3.wn x.1 (t + 1) = lastTo b3.ars b3.wn x.1 t by simp only [lastTo]; rw [if_neg hxe])
                            clear hxe
                            go_wp2_with fail
                            go_quiet (fail)
                            go_wp2
                            go_roundw
                            case measure => simp [intOf]; omega
                            case rel => exact ⟨t + 1, by omega, by go_num, by rw [Hlt.out], HBX.out.drewN _⟩
                        · have hte : t = b3.ars.length := by omega
                          have HWT := Lib.hid (show wantTo b3 (lastTo b3.ars b3.wn x.1 t) m = x.2.list by rw [hte]; exact want_is HF3.out HV3.out HQ3.out (by omega) hx.out)
                          generalize lastTo b3.ars b3.wn x.1 t = last at HWT
                          clear hte
                          obtain ⟨wq2, hwq2⟩ : ∃ wq2 : World, wq2 = wr := ⟨_, rfl⟩
                          subst hwq2
                          go_wp2_with fail
                          go_loopw [19, 20] (fun wantv i wr1 => ∃ z : Nat, z ≤ m ∧ i = .int .i64 z ∧ Own wr1 w6.heap.size wantv (wantTo b3 last z) ∧ Below w6.heap.size w6 wr1) (fun _ i _ => m - (intOf i).toNat)
                          case atStart => exact ⟨0, Nat.zero_le _, rfl, Own.nil _ _, HBX.out⟩
                          case round =>
                            clear HBX sx
                            obtain ⟨z, hz, rfl, hown, hbx⟩ := hrel
                            have HBX := Lib.hid hbx
                            have sx := hbx.size
                            clear hbx
                            by_cases hzl : z < m
                            · have ci := Own.cell (Row.below Hi6.out HBX.out) (show z < b3.ins.length by have := HF3.out.li; omega)
                              have cl := Own.cell (Row.below Hl6.out HBX.out) (show z < b3.left.length by have := HF3.out.ll; omega)
                              have Hws := Lib.hid (show wantTo b3 last (z + 1) = wantTo b3 last z ++ (if awaited b3 last z then [(z : Int)] else []) from rfl)
                              have Hwl := Lib.hid (wantTo_len b3 last z)
                              have Haw := Lib.hid (show awaited b3 last z = (decide (0 < nth b3.ins z) && (decide (nth b3.ins z < last) && decide (nth b3.left z < last))) from rfl)
                              by_cases h1 : 0 < nth b3.ins z ∧ (nth b3.ins z < last ∧ nth b3.left z < last)
                              · obtain ⟨h1, h2, h3⟩ := h1
                                have Hwy := Lib.hid (show wantTo b3 last (z + 1) = wantTo b3 last z ++ [(z : Int)] by rw [Hws.out, Haw.out]; simp [h1, h2, h3])
                                go_wp2_with (at_builtin; refine wpList_append_int rfl (.tmp 151) (.tmp 153) rfl Try.underlying28 info3 w6.heap.size u19 (wantTo b3 last z) _ _ rfl hown rfl ?c1 ?c2 (by have := Hwl.out; omega) ?_)
                                case c1 => rfl
                                case c2 => exact sx
                                intro v1 w1 ho1 hk1 hm1
                                have HB1 := Lib.hid (HBX.out.trans (hk1.below sx (fun i hi => (Row.at_lt hown hi).1)))
                                have HO1 := Lib.hid ho1
                                clear hown ho1 hk1 hm1
                                go_wp2
                                go_roundw
                                case measure => simp [intOf]; omega
                                case rel => exact ⟨z + 1, by omega, by go_num, by rw [Hwy.out]; exact HO1.out, HB1.out⟩
                              · have Hwy := Lib.hid (show wantTo b3 last (z + 1) = wantTo b3 last z by rw [Hws.out, Haw.out]; simp only [Bool.and_eq_true, decide_eq_true_eq]; rw [if_neg h1, List.append_nil])
                                have HO1 := Lib.hid hown
                                clear hown
                                by_cases e1 : 0 < nth b3.ins z
                                · by_cases e2 : nth b3.ins z < last
                                  · have e3 : ¬ nth b3.left z < last := fun e3 => h1 ⟨e1, e2, e3⟩
                                    clear h1
                                    go_wp2
                                    go_roundw
                                    case measure => simp [intOf]; omega
                                    case rel => exact ⟨z + 1, by omega, by go_num, by rw [Hwy.out]; exact HO1.out, HBX.out⟩
                                  · clear h1
                                    go_wp2
                                    go_roundw
                                    case measure => simp [intOf]; omega
                                    case rel => exact ⟨z + 1, by omega, by go_num, by rw [Hwy.out]; exact HO1.out, HBX.out⟩
                                · clear h1
                                  go_wp2
                                  go_roundw
                                  case measure => simp [intOf]; omega
                                  case rel => exact ⟨z + 1, by omega, by go_num, by rw [Hwy.out]; exact HO1.out, HBX.out⟩
                            · have hze : z = m := by omega
                              rw [hze, HWT.out] at hown
                              have Hne := Lib.hid (list_ne (HV3.out.ws x hx.out).1)
                              have hlen : ((x.2.list.length : Int) == 0) = false := by
                                rw [beq_eq_false_iff_ne]
                                have := List.length_pos_iff.2 Hne.out
                                omega
                              have HFO := Lib.hid (forOf_mem HV3.out.nd hx.out)
                              have HI7 := Lib.hid (HI6.out.below HBX.out)
                              obtain ⟨b9, o9, rfl, hb9, hc9⟩ := (Hob.out.below HBX.out).one hjl
                              have dj := hc9.trans (Qm.ints_at _ j hjl)
                              rw [hxa.out] at dj
                              obtain ⟨A8, c8, rfl, hc81, hc82⟩ := Row.shape hown
                              have hc83 : c8 ≤ 9223372036854775807 := by simpa [maxLen] using hc82
                              have HOW := Lib.hid hown
                              clear hc9 hze hc82 hown
                              go_wp2_with fail
                              refine (for_yes HI7.out x.1 hokw.out (by have := hlw.out; omega)).mono ?_
                              rintro e w7 ⟨u7, rfl, o7, b7⟩
                              rw [HFO.out] at o7
                              go_wp2_with fail
                              refine (ints_any (Row.rd o7) (Row.rd (Row.below HOW.out b7))).mono ?_
                              rintro e w8 ⟨rfl, b8⟩
                              rw [show decide (x.2.list = x.2.list) = true from decide_eq_true rfl]
                              have B8 := Lib.hid (HBX.out.trans ((b7.trans (b8.mono b7.size)).mono sx))
                              clear o7 b7 b8
                              go_wp2
                              go_roundw
                              case measure => simp [intOf]; omega
                              case rel => exact ⟨j + 1, by omega, by go_num, B8.out⟩
                    · go_wp2
                      go_roundw
                      case measure => simp [intOf]; omega
                      case rel =>
                        refine ⟨k + 1, v', q3, b3, by omega, by go_num, HI6.out.below HBX.out, HQ3.out, HV3.out, hlw.out, HF3.out, Row.below Hi6.out HBX.out, Row.below Hl6.out HBX.out, Row.below Ha6.out HBX.out, Row.below Hw6.out HBX.out, hap3.out, B6.out.trans (HBX.out.mono s6)⟩
                · have b4 : (ds[k].what == 4) = false := beq_eq_false_iff_ne.2 e4
                  have Hbook := Lib.hid (show book b k ds[k] = b by simp only [book]; rw [if_neg e0, if_neg e1, if_neg e4])
                  have hF3 : Fits (stepQ q ds[k]).1 b m (k + 1) := by rw [← Hbook.out]; exact HFS.out
                  have hB3 := hB2.out
                  have hI3 := hi.out
                  have hi3 := hoi2
                  have hl3 := hol2
                  have ha3 := hoa2
                  have hw3 := how2
                  have hap3 := hap
                  clear hoi2 hol2 hoa2 how2 hap hi
                  clear e0 e1 e4
                  have hb3 := Lib.hid hB3
                  have s3 := hB3.size
                  have hokw := Lib.hid (show (stepQ q ds[k]).1.ok 0 from ⟨Int.le_refl 0, by rw [step_n, hqn.out]; omega⟩)
                  have hlw := Lib.hid (show (stepQ q ds[k]).1.ws.length ≤ k + 1 from HLK.out.2)
                  have HV3 := Lib.hid (inv_step HV.out ds[k])
                  have HQ3 := Lib.hid (show (stepQ q ds[k]).1.n = (m : Int) by rw [step_n]; exact hqn.out)
                  generalize (stepQ q ds[k]).1 = q3 at hI3 hF3 hokw hlw HV3 HQ3
                  obtain ⟨b3, hbb⟩ : ∃ b3 : Bk, b3 = b := ⟨_, rfl⟩
                  have HF3 : Hid (Fits q3 b3 m (k + 1)) := Lib.hid (by rw [hbb]; exact hF3)
                  have hi4 := Own.of (l' := b3.ins) hi3 (by have e9 := congrArg Bk.ins hbb; exact e9)
                  have hl4 := Own.of (l' := b3.left) hl3 (by have e9 := congrArg Bk.left hbb; exact e9)
                  have ha4 := Own.of (l' := b3.ars) ha3 (by have e9 := congrArg Bk.ars hbb; exact e9)
                  have hw4 := Own.of (l' := b3.wn) hw3 (by have e9 := congrArg Bk.wn hbb; exact e9)
                  clear hB3 hF3 hbb hi3 hl3 ha3 hw3
                  go_wp2_with fail
                  generalize w2 = wz at hI3 hi4 hl4 ha4 hw4 hb3 s3 ⊢
                  obtain ⟨wq0, hwq0⟩ : ∃ wq0 : World, wq0 = wr := ⟨_, rfl⟩
                  subst hwq0
                  refine (waiting_yes hI3 hokw.out (by have := hlw.out; omega)).mono ?_
                  rintro e w6 ⟨u6, rfl, o6, b6⟩
                  obtain ⟨A9, c9, rfl, hc91, hc92⟩ := Row.shape o6
                  have hc93 : c9 ≤ 9223372036854775807 := by simpa [maxLen] using hc92
                  have Hob := Lib.hid (Row.rd o6)
                  have HI6 := Lib.hid (hI3.below b6)
                  have Hi6 := Lib.hid (Row.below hi4 b6)
                  have Hl6 := Lib.hid (Row.below hl4 b6)
                  obtain ⟨Aa, ca, rfl, hca1, hca2⟩ := Row.shape ha4
                  have hca3 : ca ≤ 9223372036854775807 := by simpa [maxLen] using hca2
                  obtain ⟨Aw, cw, rfl, hcw1, hcw2⟩ := Row.shape hw4
                  have hcw3 : cw ≤ 9223372036854775807 := by simpa [maxLen] using hcw2
                  have Ha6 := Lib.hid (Row.below ha4 b6)
                  have Hw6 := Lib.hid (Row.below hw4 b6)
                  have B6 := Lib.hid (hb3.out.trans (b6.mono s3))
                  have s6 := B6.out.size
                  have hal : (addrs q3.ws).length = q3.ws.length := addrs_length _
                  have HAL := Lib.hid hal
                  clear hc92 hca2 hcw2 hI3 hi4 hl4 ha4 hw4 b6 o6 hal
                  go_wp2_with fail
                  go_loopw [16] (fun i wr1 => ∃ j : Nat, j ≤ (addrs q3.ws).length ∧ i = .int .i64 j ∧ Below w6.heap.size w6 wr1) (fun i _ => (addrs q3.ws).length - (intOf i).toNat)
                  case atStart => exact ⟨0, Nat.zero_le _, rfl, Below.refl _ _⟩
                  case round =>
                    obtain ⟨j, hj, rfl, hbx⟩ := hrel
                    have HBX := Lib.hid hbx
                    have sx := hbx.size
                    clear hbx
                    obtain ⟨wq1, hwq1⟩ : ∃ wq1 : World, wq1 = wr := ⟨_, rfl⟩
                    subst hwq1
                    by_cases hjl : j < (addrs q3.ws).length
                    · have hjw : j < q3.ws.length := by rw [← HAL.out]; exact hjl
                      have hx := Lib.hid (List.getElem_mem hjw)
                      have hxa := Lib.hid (show (addrs q3.ws)[j] = q3.ws[j].1 by simp [addrs])
                      obtain ⟨x, hxx⟩ : ∃ x, q3.ws[j] = x := ⟨_, rfl⟩
                      rw [hxx] at hx hxa
                      clear hxx hjw
                      go_wp2_with fail
                      go_loopw [17, 18] (fun lastv i wr1 => ∃ t : Nat, t ≤ b3.ars.length ∧ i = .int .i64 t ∧ lastv = .int .i64 (lastTo b3.ars b3.wn x.1 t) ∧ Below w6.heap.size w6 wr1) (fun _ i _ => b3.ars.length - (intOf i).toNat)
                      case atStart => exact ⟨0, Nat.zero_le _, rfl, rfl, HBX.out⟩
                      case round =>
                        clear HBX sx
                        obtain ⟨t, ht, rfl, rfl, hbx⟩ := hrel
                        have HBX := Lib.hid hbx
                        have sx := hbx.size
                        clear hbx
                        by_cases htl : t < b3.ars.length
                        · have htw : t < b3.wn.length := by have := HF3.out.lw; omega
                          obtain ⟨ba, oa, rfl, hba, hca⟩ := (Rd.below (Row.rd Ha6.out) HBX.out).one htl
                          have da := hca.trans (Qm.ints_at _ t htl)
                          rw [nth_at htl] at da
                          obtain ⟨bw, ow, rfl, hbw, hcw⟩ := (Rd.below (Row.rd Hw6.out) HBX.out).one htw
                          have dw := hcw.trans (Qm.ints_at _ t htw)
                          rw [nth_at htw] at dw
                          obtain ⟨b9, o9, rfl, hb9, hc9⟩ := (Hob.out.below HBX.out).one hjl
                          have dj := hc9.trans (Qm.ints_at _ j hjl)
                          rw [hxa.out] at dj
                          clear hc9 hca hcw
                          by_cases hxe : nth b3.ars t = x.1
                          · have hxb : (nth b3.ars t == x.1) = true := beq_iff_eq.2 hxe
                            have Hlt := Lib.hid (show lastTo b3.ars b3.wn x.1 (t + 1) = nth b3.wn t by simp only [lastTo]; rw [if_pos hxe])
                            clear hxe
                            go_wp2_with fail
                            go_quiet (fail)
                            go_wp2
                            go_roundw
                            case measure => simp [intOf]; omega
                            case rel => exact ⟨t + 1, by omega, by go_num, by rw [Hlt.out], HBX.out.drewN _⟩
                          · have hxb : (nth b3.ars t == x.1) = false := beq_eq_false_iff_ne.2 hxe
                            have Hlt := Lib.hid (show lastTo b3.ars b3.wn x.1 (t + 1) = lastTo b3.ars b3.wn x.1 t by simp only [lastTo]; rw [if_neg hxe])
                            clear hxe
                            go_wp2_with fail
                            go_quiet (fail)
                            go_wp2
                            go_roundw
                            case measure => simp [intOf]; omega
                            case rel => exact ⟨t + 1, by omega, by go_num, by rw [Hlt.out], HBX.out.drewN _⟩
                        · have hte : t = b3.ars.length := by omega
                          have HWT := Lib.hid (show wantTo b3 (lastTo b3.ars b3.wn x.1 t) m = x.2.list by rw [hte]; exact want_is HF3.out HV3.out HQ3.out (by omega) hx.out)
                          generalize lastTo b3.ars b3.wn x.1 t = last at HWT
                          clear hte
                          obtain ⟨wq2, hwq2⟩ : ∃ wq2 : World, wq2 = wr := ⟨_, rfl⟩
                          subst hwq2
                          go_wp2_with fail
                          go_loopw [19, 20] (fun wantv i wr1 => ∃ z : Nat, z ≤ m ∧ i = .int .i64 z ∧ Own wr1 w6.heap.size wantv (wantTo b3 last z) ∧ Below w6.heap.size w6 wr1) (fun _ i _ => m - (intOf i).toNat)
                          case atStart => exact ⟨0, Nat.zero_le _, rfl, Own.nil _ _, HBX.out⟩
                          case round =>
                            clear HBX sx
                            obtain ⟨z, hz, rfl, hown, hbx⟩ := hrel
                            have HBX := Lib.hid hbx
                            have sx := hbx.size
                            clear hbx
                            by_cases hzl : z < m
                            · have ci := Own.cell (Row.below Hi6.out HBX.out) (show z < b3.ins.length by have := HF3.out.li; omega)
                              have cl := Own.cell (Row.below Hl6.out HBX.out) (show z < b3.left.length by have := HF3.out.ll; omega)
                              have Hws := Lib.hid (show wantTo b3 last (z + 1) = wantTo b3 last z ++ (if awaited b3 last z then [(z : Int)] else []) from rfl)
                              have Hwl := Lib.hid (wantTo_len b3 last z)
                              have Haw := Lib.hid (show awaited b3 last z = (decide (0 < nth b3.ins z) && (decide (nth b3.ins z < last) && decide (nth b3.left z < last))) from rfl)
                              by_cases h1 : 0 < nth b3.ins z ∧ (nth b3.ins z < last ∧ nth b3.left z < last)
                              · obtain ⟨h1, h2, h3⟩ := h1
                                have Hwy := Lib.hid (show wantTo b3 last (z + 1) = wantTo b3 last z ++ [(z : Int)] by rw [Hws.out, Haw.out]; simp [h1, h2, h3])
                                go_wp2_with (at_builtin; refine wpList_append_int rfl (.tmp 151) (.tmp 153) rfl Try.underlying28 info3 w6.heap.size u19 (wantTo b3 last z) _ _ rfl hown rfl ?c1 ?c2 (by have := Hwl.out; omega) ?_)
                                case c1 => rfl
                                case c2 => exact sx
                                intro v1 w1 ho1 hk1 hm1
                                have HB1 := Lib.hid (HBX.out.trans (hk1.below sx (fun i hi => (Row.at_lt hown hi).1)))
                                have HO1 := Lib.hid ho1
                                clear hown ho1 hk1 hm1
                                go_wp2
                                go_roundw
                                case measure => simp [intOf]; omega
                                case rel => exact ⟨z + 1, by omega, by go_num, by rw [Hwy.out]; exact HO1.out, HB1.out⟩
                              · have Hwy := Lib.hid (show wantTo b3 last (z + 1) = wantTo b3 last z by rw [Hws.out, Haw.out]; simp only [Bool.and_eq_true, decide_eq_true_eq]; rw [if_neg h1, List.append_nil])
                                have HO1 := Lib.hid hown
                                clear hown
                                by_cases e1 : 0 < nth b3.ins z
                                · by_cases e2 : nth b3.ins z < last
                                  · have e3 : ¬ nth b3.left z < last := fun e3 => h1 ⟨e1, e2, e3⟩
                                    clear h1
                                    go_wp2
                                    go_roundw
                                    case measure => simp [intOf]; omega
                                    case rel => exact ⟨z + 1, by omega, by go_num, by rw [Hwy.out]; exact HO1.out, HBX.out⟩
                                  · clear h1
                                    go_wp2
                                    go_roundw
                                    case measure => simp [intOf]; omega
                                    case rel => exact ⟨z + 1, by omega, by go_num, by rw [Hwy.out]; exact HO1.out, HBX.out⟩
                                · clear h1
                                  go_wp2
                                  go_roundw
                                  case measure => simp [intOf]; omega
                                  case rel => exact ⟨z + 1, by omega, by go_num, by rw [Hwy.out]; exact HO1.out, HBX.out⟩
                            · have hze : z = m := by omega
                              rw [hze, HWT.out] at hown
                              have Hne := Lib.hid (list_ne (HV3.out.ws x hx.out).1)
                              have hlen : ((x.2.list.length : Int) == 0) = false := by
                                rw [beq_eq_false_iff_ne]
                                have := List.length_pos_iff.2 Hne.out
                                omega
                              have HFO := Lib.hid (forOf_mem HV3.out.nd hx.out)
                              have HI7 := Lib.hid (HI6.out.below HBX.out)
                              obtain ⟨b9, o9, rfl, hb9, hc9⟩ := (Hob.out.below HBX.out).one hjl
                              have dj := hc9.trans (Qm.ints_at _ j hjl)
                              rw [hxa.out] at dj
                              obtain ⟨A8, c8, rfl, hc81, hc82⟩ := Row.shape hown
                              have hc83 : c8 ≤ 9223372036854775807 := by simpa [maxLen] using hc82
                              have HOW := Lib.hid hown
                              clear hc9 hze hc82 hown
                              go_wp2_with fail
                              refine (for_yes HI7.out x.1 hokw.out (by have := hlw.out; omega)).mono ?_
                              rintro e w7 ⟨u7, rfl, o7, b7⟩
                              rw [HFO.out] at o7
                              go_wp2_with fail
                              refine (ints_any (Row.rd o7) (Row.rd (Row.below HOW.out b7))).mono ?_
                              rintro e w8 ⟨rfl, b8⟩
                              rw [show decide (x.2.list = x.2.list) = true from decide_eq_true rfl]
                              have B8 := Lib.hid (HBX.out.trans ((b7.trans (b8.mono b7.size)).mono sx))
                              clear o7 b7 b8
                              go_wp2
                              go_roundw
                              case measure => simp [intOf]; omega
                              case rel => exact ⟨j + 1, by omega, by go_num, B8.out⟩
                    · go_wp2
                      go_roundw
                      case measure => simp [intOf]; omega
                      case rel =>
                        refine ⟨k + 1, v', q3, b3, by omega, by go_num, HI6.out.below HBX.out, HQ3.out, HV3.out, hlw.out, HF3.out, Row.below Hi6.out HBX.out, Row.below Hl6.out HBX.out, Row.below Ha6.out HBX.out, Row.below Hw6.out HBX.out, hap3.out, B6.out.trans (HBX.out.mono s6)⟩
          · have be : ((stepQ q ds[k]).2.2 != 0) = true := by simp [he]
            have hi1 := hi.out
            rw [step_err he] at hi1
            have HI := Lib.hid hi1
            clear he hi1
            go_wp2
            go_roundw
            case measure => simp [intOf]; omega
            case rel => exact ⟨k + 1, v', q, b, by omega, by go_num, HI.out, hqn, HV.out, by omega, fits_later hfit.out, hoi2, hol2, hoa2, how2, hap, hB2.out⟩
        · have HB := Lib.hid hbel
          have hsz := hbel.size
          clear hbel
          go_wp2_with (go_at_call 10; refine (sane_any _).mono ?_; rintro e w6 ⟨rfl, b7⟩)
          go_ret
          exact ⟨rfl, HB.out.trans (b7.mono hsz)⟩
    · have Hn := Lib.hid hn
      clear hn
      by_cases hp : 0 < ds.length
      · go_enter Try.func3, Try.ntmps3
        go_wp2_with fail
        refine (new_no Hn.out).mono ?_
        rintro e w1 ⟨rfl, rfl⟩
        go_wp2_with (go_at_call 10; refine (sane_any _).mono ?_; rintro e w6 ⟨rfl, b7⟩)
        go_ret
        exact ⟨rfl, b7⟩
      · go_enter Try.func3, Try.ntmps3
        go_wp2_with fail
        refine (new_no Hn.out).mono ?_
        rintro e w1 ⟨rfl, rfl⟩
        go_wp2_with (go_at_call 10; refine (sane_any _).mono ?_; rintro e w6 ⟨rfl, b7⟩)
        go_ret
        exact ⟨rfl, b7⟩
  · go_enter Try.func3, Try.ntmps3
    go_wp2_with (go_at_call 10; refine (sane_any _).mono ?_; rintro e w6 ⟨rfl, b7⟩)
    go_ret
    exact ⟨rfl, b7⟩
end Go.Proofs.Ytdgkdfblgeobmaa
