/-
  The document's manager of eras: the walks of sweep, Rest, In, Out.
-/
import Derived.Test.YtiokifkppfegfaaRef2
set_option linter.unusedVariables false
set_option linter.unusedSimpArgs false
namespace Go.Proofs.Ytiokifkppfegfaa
open Go.RowKit Mem Qm
set_option maxRecDepth 100000

def MovR (w : World) (vb vi vb' vi' : Value) : Prop := (∀ k, vb'.ownBlock = some k → vb.ownBlock = some k ∨ w.heap.size ≤ k) ∧ (∀ k, vi'.ownBlock = some k → vi.ownBlock = some k ∨ w.heap.size ≤ k)
theorem MovR.refl (w : World) (vb vi : Value) : MovR w vb vi vb vi := ⟨fun _ h => .inl h, fun _ h => .inl h⟩
theorem MovR.foot {w : World} {g gv : Nat} {vb vi vb' vi' : Value} (h : MovR w vb vi vb' vi') : ∀ k, footR g gv vb' vi' k → footR g gv vb vi k ∨ w.heap.size ≤ k := by
  rintro k (rfl | rfl | hk | hk)
  · exact .inl (.inl rfl)
  · exact .inl (.inr (.inl rfl))
  · exact (h.1 k hk).imp (fun h => .inr (.inr (.inl h))) id
  · exact (h.2 k hk).imp (fun h => .inr (.inr (.inr h))) id
/-- What a sweep, or a call that ends in one, leaves. -/
def SweptR (w : World) (B g gv : Nat) (vb vi : Value) (m : Nat) (l : List Int) (q : Q) (L : List Bi) (F : Value → Ending) (e : Ending) (w' : World) : Prop :=
  ∃ u vb' vi', e = F u ∧ Own w' w.heap.size u l ∧ IsR w' B g gv vb' vi' m q (forgetAll L l) ∧ Kept w w' (footR g gv vb vi) ∧ MovR w vb vi vb' vi'
theorem SweptR.after {w w1 : World} {B g gv m : Nat} {vb vi vb1 vi1 : Value} {l : List Int} {q : Q} {L : List Bi} {F : Value → Ending} {e : Ending} {w' : World} (h : SweptR w1 B g gv vb1 vi1 m l q L F e w') (hk : Kept w w1 (footR g gv vb vi)) (hm : MovR w vb vi vb1 vi1) : SweptR w B g gv vb vi m l q L F e w' := by
  obtain ⟨u, vb', vi', he, ho, hi, hk2, hm2⟩ := h
  refine ⟨u, vb', vi', he, Row.mono ho hk.size, hi, hk.trans hk2 (fun i hi hf => (hm.foot i hf).elim id (fun h => absurd hi (by omega))), fun i hi => ?_, fun i hi => ?_⟩
  · rcases hm2.1 i hi with e | e
    · exact hm.1 i e
    · exact .inr (Nat.le_trans hk.size e)
  · rcases hm2.2 i hi with e | e
    · exact hm.2 i e
    · exact .inr (Nat.le_trans hk.size e)
set_option maxHeartbeats 2000000 in
theorem rsweep_any {w : World} {B g gv m : Nat} {vb vi : Value} {q : Q} {L : List Bi} (h : IsR w B g gv vb vi m q L) (hm4 : m ≤ 4) (hout : ∀ i, q.n ≤ i → 0 ≤ i → i < 4 → (q.get i).i = false) (hBw : B ≤ w.heap.size) (hl : q.ws.length < 1000000) (hL : L.length < 1000000) :
    Calls Try.prog 47 #[.pointer (some ⟨g, 0, none⟩)] w (SweptR w B g gv vb vi m (backs q q.ws) q.swept L .returned) := by
  obtain ⟨A, c, rfl, hc1, hc2⟩ := Row.shape h.irow
  have hc3 : c ≤ 9223372036854775807 := by simpa [maxLen] using hc2
  have H := Lib.hid h
  have HOUT := Lib.hid hout
  clear hc2 h hout
  go_enter Try.func47, Try.ntmps47
  go_wp2
  go_loopw [3, 4, 5] (fun u l i wr => ∃ k : Nat, k ≤ q.ws.length ∧ i = .int .i64 k ∧ Own wr w.heap.size u (backs q (q.ws.take k)) ∧ Row wr w.heap.size 87 3 l (lefts q (q.ws.take k)).length (flat (lefts q (q.ws.take k))) ∧ Below w.heap.size w wr) (fun _ _ i _ => q.ws.length - (intOf i).toNat)
  case atStart => exact ⟨0, Nat.zero_le _, rfl, Own.nil _ _, World.ownsRow_nil _ _ _ _, Below.refl _ _⟩
  case round =>
    obtain ⟨k, hk, rfl, hown, hrow, hbel⟩ := hrel
    have hR := H.out.below hbel
    have c4 := hR.blk.cell 4 rfl
    have hsz := hbel.size
    by_cases hlt : k < q.ws.length
    · obtain ⟨bb, off, rfl, hb, hcell⟩ := Rd.elem (Row.rd hR.irow) hlt
      have hat := fun i hi => (hcell i hi).trans (flat_at q.ws k hlt i hi)
      have d0 := hat 0 (by decide)
      have d1 := hat 1 (by decide)
      have d2 := hat 2 (by decide)
      simp only [lCells, List.getElem?_cons_zero, List.getElem?_cons_succ, Nat.add_zero] at d0 d1 d2
      have hbs := Lib.hid (backs_snoc (q := q) hlt)
      have hls := Lib.hid (lefts_snoc (q := q) hlt)
      have hbl := Lib.hid (backs_le q (q.ws.take k))
      have hll := Lib.hid (lefts_le q (q.ws.take k))
      have HB := Lib.hid hbel
      obtain ⟨x, hx⟩ : ∃ x, q.ws[k] = x := ⟨_, rfl⟩
      rw [hx] at d0 d1 d2 hbs hls
      clear hcell hat hx hbel
      go_wp2_with fail
      refine (rmet_any hR hm4 HOUT.out x).mono ?_
      rintro e w2 ⟨rfl, b2⟩
      have hR2 := hR.below b2
      have e4 := hR2.blk.cell 4 rfl
      have hblt := hb
      have c0 := (b2.cell (p := ⟨bb, off + k * 3, none⟩) hblt).trans d0
      have c1 := (b2.cell (p := ⟨bb, off + k * 3 + 1, none⟩) hblt).trans d1
      have c2 := (b2.cell (p := ⟨bb, off + k * 3 + 2, none⟩) hblt).trans d2
      have hown2 := Row.below hown b2
      have hrow2 := Row.below hrow b2
      have B2 := Lib.hid (HB.out.trans (b2.mono hsz))
      have s2 := b2.size
      have s3 := B2.out.size
      clear hR hR2 hown hrow b2 d0 d1 d2 c4
      cases hm : q.met x with
      | true =>
        have hbs2 := Lib.hid (show backs q (q.ws.take (k + 1)) = backs q (q.ws.take k) by rw [hbs.out, if_pos hm])
        have hls2 := Lib.hid (show lefts q (q.ws.take (k + 1)) = lefts q (q.ws.take k) ++ [x] by rw [hls.out, if_pos hm])
        clear hm
        go_wp2_with (at_builtin; refine wpList_app rfl (.tmp 25) (.tmp 33) rfl Try.underlying74 info87 rfl (by decide) (by decide) w.heap.size u4 _ _ w2.heap.size (lCells x) rfl (World.ownsRow.alloc hrow2 _) rfl (Blk.new w2 87 (lCells x)) rfl (lCells_one x) (by simp; omega) (by have := hll.out; simp at this; omega) ?_)
        intro v1 w3 ho1 hk1 hm1
        have HO := Lib.hid (show Row w3 w.heap.size 87 3 v1 (lefts q (q.ws.take (k + 1))).length (flat (lefts q (q.ws.take (k + 1)))) by rw [hls2.out, flat_app]; simpa [flat] using ho1)
        have HU := Lib.hid (show Own w3 w.heap.size u3 (backs q (q.ws.take (k + 1))) by rw [hbs2.out]; exact Row.keep (World.ownsRow.alloc hown2 _) hk1 (fun i hi => fun e => Row.ne_row hown2 hrow2 (by decide) hi e))
        have HK := Lib.hid (B2.out.trans (((Below.refl _ w2).alloc (Nat.le_refl _) (.cells (lCells x).toArray 87)).mono s3) |>.trans (hk1.below (by simp; omega) (fun i hi => (Row.at_lt hrow2 hi).1)))
        clear ho1 hk1 hm1 hrow2 hown2 c0 c1 c2 e4
        go_wp2
        go_roundw
        case measure => simp [intOf]; omega
        case rel => exact ⟨k + 1, by omega, by go_num, HU.out, HO.out, HK.out⟩
      | false =>
        have hbs2 := Lib.hid (show backs q (q.ws.take (k + 1)) = backs q (q.ws.take k) ++ [x.a] by rw [hbs.out, if_neg (by simp [hm])])
        have hls2 := Lib.hid (show lefts q (q.ws.take (k + 1)) = lefts q (q.ws.take k) by rw [hls.out, if_neg (by simp [hm])])
        clear hm
        go_wp2_with (at_builtin; refine wpList_append_int rfl (.tmp 35) (.tmp 44) rfl Try.underlying32 info3 w.heap.size u3 (backs q (q.ws.take k)) _ _ rfl hown2 rfl ?c1 (by omega) (by have := hbl.out; simp at this; omega) ?_)
        case c1 => rfl
        intro v1 w3 ho1 hk1 hm1
        have HU := Lib.hid (show Own w3 w.heap.size v1 (backs q (q.ws.take (k + 1))) by rw [hbs2.out]; exact ho1)
        have HO := Lib.hid (show Row w3 w.heap.size 87 3 u4 (lefts q (q.ws.take (k + 1))).length (flat (lefts q (q.ws.take (k + 1)))) by rw [hls2.out]; exact Row.keep hrow2 hk1 (fun i hi => fun e => Row.ne_row hrow2 hown2 (by decide) hi e))
        have HK := Lib.hid (B2.out.trans (hk1.below (by omega) (fun i hi => (Row.at_lt hown2 hi).1)))
        clear ho1 hk1 hm1 hrow2 hown2 c0 c1 c2 e4
        go_wp2
        go_roundw
        case measure => simp [intOf]; omega
        case rel => exact ⟨k + 1, by omega, by go_num, HU.out, HO.out, HK.out⟩
    · have hkn : k = q.ws.length := by omega
      rw [hkn, List.take_length] at hown hrow
      obtain ⟨A4, c4', rfl, _, _⟩ := Row.shape hrow
      obtain ⟨A3, c3', rfl, hc31, hc32⟩ := Row.shape hown
      have f4 := hR.blk.free 4
      have HI := Lib.hid hR
      have HO := Lib.hid hown
      have HR := Lib.hid hrow
      have HB := Lib.hid hbel
      have hbl := Lib.hid (backs_le q q.ws)
      have hc33 : c3' ≤ 9223372036854775807 := by simpa [maxLen] using hc32
      clear hkn hown hrow hbel hR hc32
      go_wp2
      have kk : Kept wr (wr.setCell ⟨g, 4, none⟩ (.slice A4 (lefts q q.ws).length c4')) (fun i => i = g) := (Kept.refl wr (fun i => i = g)).setCell (p := ⟨g, 4, none⟩) (.inl rfl) _
      have hi1 : IsR (wr.setCell ⟨g, 4, none⟩ (.slice A4 (lefts q q.ws).length c4')) B g gv vb (.slice A4 (lefts q q.ws).length c4') m q.swept L :=
        ⟨HI.out.lo, HI.out.lov, HI.out.nm, Blk.of (HI.out.blk.set 4 _) rfl, HI.out.vis.keep kk HI.out.ne_vis, Row.keep HI.out.brow kk (fun i hi e => HI.out.ne_b (e ▸ hi)), Row.mono (Row.keep HR.out kk (fun i hi e => Row.ne_blk HR.out HI.out.blk (by decide) (e ▸ hi))) hBw⟩
      have ho1 : Own (wr.setCell ⟨g, 4, none⟩ (.slice A4 (lefts q q.ws).length c4')) w.heap.size (.slice A3 (backs q q.ws).length c3') (backs q q.ws) := Row.keep HO.out kk (fun i hi e => Row.ne_blk HO.out HI.out.blk (by decide) (e ▸ hi))
      have hk1 : Kept w (wr.setCell ⟨g, 4, none⟩ (.slice A4 (lefts q q.ws).length c4')) (footR g gv vb (.slice A q.ws.length c)) := (Kept.of_below HB.out _).trans kk (fun i _ e => .inl e)
      have HI1 := Lib.hid hi1
      have HO1 := Lib.hid ho1
      have HK1 := Lib.hid hk1
      have HML := Lib.hid (show ∀ i, (Value.slice A4 (lefts q q.ws).length c4').ownBlock = some i → w.heap.size ≤ i from fun i hi => (Row.at_lt HR.out hi).1)
      clear kk hi1 ho1 hk1 c4 f4
      go_loopw [6] (fun i w2 => ∃ (j : Nat) (vb' : Value), j ≤ (backs q q.ws).length ∧ i = .int .i64 j ∧ Own w2 w.heap.size (.slice A3 (backs q q.ws).length c3') (backs q q.ws) ∧ IsR w2 B g gv vb' (.slice A4 (lefts q q.ws).length c4') m q.swept (forgetAll L ((backs q q.ws).take j)) ∧ Kept w w2 (footR g gv vb (.slice A q.ws.length c)) ∧ Hid (∀ k, vb'.ownBlock = some k → vb.ownBlock = some k ∨ w.heap.size ≤ k)) (fun i _ => (backs q q.ws).length - (intOf i).toNat)
      case atStart => exact ⟨0, vb, Nat.zero_le _, rfl, HO1.out, HI1.out, HK1.out, fun _ h => .inl h⟩
      case round =>
        obtain ⟨j, vb', hj, rfl, ho2, hi2, hk2, hm2⟩ := hrel
        have hsz2 := hk2.size
        by_cases hjl : j < (backs q q.ws).length
        · obtain ⟨b9, o9, rfl, hb9, hc9⟩ := (Row.rd ho2).one hjl
          have dj := hc9.trans (Qm.ints_at _ j hjl)
          have hfa := Lib.hid (forgetAll_take hjl L)
          have hfl := Lib.hid (forgetAll_le ((backs q q.ws).take j) L)
          have HK2 := Lib.hid hk2
          clear hc9 hk2
          go_wp2_with fail
          refine (rforget_any hi2 (by omega) (by have := hfl.out; omega) _).mono ?_
          rintro e w3 ⟨vb3, rfl, hi3, hk3, hm3⟩
          rw [← hfa.out] at hi3
          have HI3 := Lib.hid hi3
          have HO3 := Lib.hid (Row.keep ho2 hk3 (fun i hi e => Row.ne_blk ho2 hi2.blk (by decide) (e ▸ hi)))
          have HK3 := Lib.hid (HK2.out.trans hk3 (fun i _ e => .inl e))
          have HM3 := Lib.hid (show ∀ k, vb3.ownBlock = some k → vb.ownBlock = some k ∨ w.heap.size ≤ k from fun i hi => .inr (Nat.le_trans hsz2 (hm3 i hi)))
          clear hi3 hk3 hm3 ho2 hi2 dj
          go_wp2
          go_roundw
          case measure => simp [intOf]; omega
          case rel => exact ⟨j + 1, vb3, by omega, by go_num, HO3.out, HI3.out, HK3.out, HM3.out⟩
        · have hje : j = (backs q q.ws).length := by omega
          rw [hje, List.take_length] at hi2
          have HI2 := Lib.hid hi2
          have HO2 := Lib.hid ho2
          have HK2 := Lib.hid hk2
          clear hje hi2 ho2 hk2
          go_wp2
          go_ret
          exact ⟨_, vb', _, rfl, HO2.out, HI2.out, HK2.out, hm2.out, fun i hi => .inr (HML.out i hi)⟩
theorem rrest_any {w : World} {B g gv m : Nat} {vb vi : Value} {q : Q} {L : List Bi} (h : IsR w B g gv vb vi m q L) (hm4 : m ≤ 4) (hout : ∀ i, q.n ≤ i → 0 ≤ i → i < 4 → (q.get i).i = false) (hBw : B ≤ w.heap.size) (hl : q.ws.length < 1000000) (hL : L.length < 1000000) :
    Calls Try.prog 39 #[.pointer (some ⟨g, 0, none⟩)] w (SweptR w B g gv vb vi m (backs q q.ws) q.swept L .returned) := by
  have HO := Lib.hid hout
  clear hout
  go_enter Try.func39, Try.ntmps39
  go_wp2_with fail
  refine (rsweep_any h hm4 HO.out hBw hl hL).mono ?_
  rintro e w1 ⟨u, vb', vi', rfl, h1, h2, h3, h4⟩
  have HH := Lib.hid (show Own w1 w.heap.size u (backs q q.ws) ∧ IsR w1 B g gv vb' vi' m q.swept (forgetAll L (backs q q.ws)) ∧ Kept w w1 (footR g gv vb vi) ∧ MovR w vb vi vb' vi' from ⟨h1, h2, h3, h4⟩)
  clear h1 h2 h3 h4
  go_wp2
  go_ret
  exact ⟨u, vb', vi', rfl, HH.out⟩
end Go.Proofs.Ytiokifkppfegfaa
