/-
  The document's manager of grace periods: the walk of Out; of told and alike.
-/
import Derived.Test.YtdgkdfblgeobmaaRef3
import Derived.Deep.CutRange
import Derived.Deep.RegionHeld3
set_option linter.unusedVariables false
set_option linter.unusedSimpArgs false
namespace Go.Proofs.Ytdgkdfblgeobmaa
open Go.RowKit Mem Qm
set_option maxRecDepth 100000

def cutI (t : Int) (its : List It) : List W := its.map fun x => (x.1.1, x.1.2.set t false)
theorem cutI_snoc {t : Int} {its : List It} {k : Nat} (h : k < its.length) : cutI t (its.take (k + 1)) = cutI t (its.take k) ++ [(its[k].1.1, its[k].1.2.set t false)] := by rw [take_snoc h, cutI, List.map_append]; rfl
theorem cutI_all {t : Int} {its : List It} {ws : List W} (h : its.map (·.1) = ws) : cutI t its = cutBy t ws := by rw [← h, cutBy, cutI, List.map_map]; rfl
theorem backs_app (a b : List W) : backs (a ++ b) = backs a ++ backs b := by simp [backs]
theorem lefts_app (a b : List W) : lefts (a ++ b) = lefts a ++ lefts b := by simp [lefts]
theorem backs_le' (ws : List W) : (backs ws).length ≤ ws.length := backs_le ws
def BoxR (wr : World) (a : Int) (l : List Int) (s9 : Value) (wx : World) : Prop := ∃ N A c, s9 = .pointer (some ⟨N, 0, none⟩) ∧ Blk wx N 69 [.int .i64 a, .slice A l.length c] ∧ Own wx wr.heap.size (.slice A l.length c) l ∧ wr.heap.size ≤ N ∧ Below wr.heap.size wr wx
theorem box_new {wr w2 : World} {a : Int} {l : List Int} {A : Option Addr} {c : Nat} (hb : Below wr.heap.size wr w2) (ho : Own w2 wr.heap.size (.slice A l.length c) l) : BoxR wr a l (.pointer (some ⟨w2.heap.size, 0, none⟩)) (w2.alloc (.cells #[.int .i64 a, .slice A l.length c] 69)) :=
  ⟨_, A, c, rfl, Blk.new w2 69 [.int .i64 a, .slice A l.length c], World.ownsRow.alloc ho _, hb.size, hb.alloc hb.size _⟩
theorem box_old {wr w2 : World} {a : Int} {l : List Int} {A : Option Addr} {c : Nat} {z0 z1 : Value} (hb : Below wr.heap.size wr w2) (hx : Blk w2 wr.heap.size 69 [z0, z1]) (ho : Own w2 wr.heap.size (.slice A l.length c) l) :
    BoxR wr a l (.pointer (some ⟨wr.heap.size, 0, none⟩)) ((w2.setCell ⟨wr.heap.size, 0, none⟩ (.int .i64 a)).setCell ⟨wr.heap.size, 1, none⟩ (.slice A l.length c)) := by
  have kk : Kept w2 ((w2.setCell ⟨wr.heap.size, 0, none⟩ (.int .i64 a)).setCell ⟨wr.heap.size, 1, none⟩ (.slice A l.length c)) (fun i => i = wr.heap.size) := ((Kept.refl w2 (fun i => i = wr.heap.size)).setCell (p := ⟨wr.heap.size, 0, none⟩) (.inl rfl) _).setCell (p := ⟨wr.heap.size, 1, none⟩) (.inl rfl) _
  exact ⟨_, A, c, rfl, (hx.set 0 _).set 1 _, Row.keep ho kk (fun i hi e => Row.ne_blk ho hx (by decide) (e ▸ hi)), Nat.le_refl _, (hb.setCell (Nat.le_refl _) _).setCell (Nat.le_refl _) _⟩
theorem BoxR.drew {wr wx : World} {a : Int} {l : List Int} {s : Value} (h : BoxR wr a l s wx) : BoxR wr a l s wx.drew := by
  obtain ⟨N, A, c, h1, h2, h3, h4, h5⟩ := h
  exact ⟨N, A, c, h1, h2, h3, h4, h5.drew⟩
section
variable {w : World} {B g : Nat} {iv mv : Value} {q : Q} {I : List Int} {its : List It}
set_option maxHeartbeats 2000000 in
theorem rout_any (h : IsQ w B g iv mv q I its) (h4 : q.n ≤ 4) (hBw : B ≤ w.heap.size) (hl : its.length < 900000) (t : Int) :
    Calls Try.prog 35 #[.pointer (some ⟨g, 0, none⟩), .int .i64 t] w (DidQ w B g iv mv its (outQ q t)) := by
  by_cases ht : q.ok t
  · have HQ := Lib.hid (show outQ q t = (q.out t, q.outBack t, 0) from if_pos ht)
    have Ht := Lib.hid ht
    have t0 := ht.1
    have t4 : t < 4 := by have := ht.2; omega
    have c1 := h.blk.cell 1 rfl
    have H := Lib.hid h
    have hI4 := len_is h.mem
    have HDr := Lib.hid (drop_is h.mem t0 t4)
    have HCA := Lib.hid (cutI_all (t := t) h.eqw)
    obtain ⟨A, c, rfl, hc1, hc2⟩ := Row.shape h.mrow
    have hc3 : c ≤ 9223372036854775807 := by simpa [maxLen] using hc2
    clear ht h hc2
    go_enter Try.func35, Try.ntmps35
    go_wp2_with fail
    refine (isThread_yes H.out _ Ht.out).mono ?_
    rintro e w1 ⟨rfl, rfl⟩
    go_wp2_with fail
    refine (without_any (x := t) (Row.rd H.out.irow) (by omega)).mono ?_
    rintro e w1 ⟨u1, rfl, ho1, hb1⟩
    obtain ⟨A1, cc1, rfl, _, _⟩ := Row.shape ho1
    have h1 := H.out.below hb1
    have e1 := h1.blk.cell 1 rfl
    have f1 := h1.blk.free 1
    have s1 := hb1.size
    have kk : Kept w1 (w1.setCell ⟨g, 1, none⟩ (.slice A1 (without I t).length cc1)) (fun i => i = g) := (Kept.refl w1 (fun i => i = g)).setCell (p := ⟨g, 1, none⟩) (.inl rfl) _
    obtain ⟨wA, hwA⟩ : ∃ wA : World, wA = w1.setCell ⟨g, 1, none⟩ (.slice A1 (without I t).length cc1) := ⟨_, rfl⟩
    have sA : w1.heap.size ≤ wA.heap.size := by rw [hwA]; exact kk.size
    have HblkA := Lib.hid (show Blk wA g 65 [.int .i64 q.n, .slice A1 (without I t).length cc1, .slice A its.length c] by rw [hwA]; exact h1.blk.set 1 _)
    have HmA := Lib.hid (show Row wA B 69 2 (.slice A its.length c) its.length (flatI its) by rw [hwA]; exact Row.keep h1.mrow kk (fun i hi e => h1.ne_m (e ▸ hi)))
    have HsA := Lib.hid (show ∀ x ∈ its, Sub wA B x by rw [hwA]; exact fun x hx => Row.keep (h1.sub x hx) kk (fun i hi e => Row.ne_blk (h1.sub x hx) h1.blk (by decide) (e ▸ hi)))
    have HiA := Lib.hid (show Own wA w.heap.size (.slice A1 (without I t).length cc1) (without I t) by rw [hwA]; exact Row.keep ho1 kk (fun i hi e => Row.ne_blk ho1 h1.blk (by decide) (e ▸ hi)))
    have HkA := Lib.hid (show Kept w wA (fun i => i = g) by rw [hwA]; exact (Kept.of_below hb1 _).trans kk (fun _ _ e => e))
    have HWA := Lib.hid hwA
    clear c1 hb1 h1 kk hwA ho1
    go_wp2_with fail
    rw [← HWA.out]
    clear e1 f1
    go_loopw [6, 7, 8] (fun uo ul i wr => ∃ (k : Nat) (L : List It), k ≤ its.length ∧ i = .int .i64 k ∧ Own wr wA.heap.size uo (backs (cutI t (its.take k))) ∧ Row wr wA.heap.size 69 2 ul L.length (flatI L) ∧ Hid (L.map (·.1) = lefts (cutI t (its.take k)) ∧ (∀ x ∈ L, Sub wr wA.heap.size x) ∧ (∀ x ∈ L, ∀ i, x.2.ownBlock = some i → uo.ownBlock ≠ some i)) ∧ Below wA.heap.size wA wr) (fun _ _ i _ => its.length - (intOf i).toNat)
    case atStart => exact ⟨0, [], Nat.zero_le _, rfl, Own.nil _ _, World.ownsRow_nil _ _ _ _, ⟨rfl, fun x hx => (by cases hx), fun x hx => (by cases hx)⟩, Below.refl _ _⟩
    case round =>
      obtain ⟨k, L, hk, rfl, hown, hrow, hL, hbel⟩ := hrel
      have hsz := hbel.size
      have hbR := HblkA.out.below hbel
      have c2 := hbR.cell 2 rfl
      have hgl := hbR.lt
      have HBL := Lib.hid hbel
      have HO := Lib.hid hown
      have HR := Lib.hid hrow
      by_cases hlt : k < its.length
      · have hmR := Row.below HmA.out hbel
        obtain ⟨bb, off, rfl, hb, hcell⟩ := Rd.elem (Row.rd hmR) hlt
        have d0 := (hcell 0 (by decide)).trans (flatI_at its k hlt 0 (by decide))
        have d1 := (hcell 1 (by decide)).trans (flatI_at its k hlt 1 (by decide))
        simp only [iCells, List.getElem?_cons_zero, List.getElem?_cons_succ, Nat.add_zero] at d0 d1
        have hsub := Row.below (HsA.out _ (List.getElem_mem hlt)) hbel
        have Hc := Lib.hid (cutI_snoc (t := t) hlt)
        obtain ⟨x, hx⟩ : ∃ x, its[k] = x := ⟨_, rfl⟩
        rw [hx] at d0 d1 hsub Hc
        have HS := Lib.hid hsub
        have HX := Lib.hid (list_without x.1.2 t0 t4)
        have hle := list_le x.1.2
        have hle2 := list_le (x.1.2.set t false)
        have hck : (cutI t (its.take k)).length ≤ 900000 := by simp [cutI]; omega
        have hbk := Lib.hid (backs_le' (cutI t (its.take k)))
        have hLl : L.length ≤ 900000 := by
          have h9 := congrArg List.length hL.out.1
          have h8 := lefts_le (cutI t (its.take k))
          simp at h9
          omega
        clear hcell hx hsub hmR hbR hbel hown hrow
        go_upto_region 9 with fail
        go_cut [9] from 32 to 50 (fun s9 wx => BoxR wr x.1.1 (x.1.2.set t false).list s9 wx)
        case first =>
          have ng : g ≠ wr.heap.size := Nat.ne_of_lt hgl
          have nb : bb ≠ wr.heap.size := Nat.ne_of_lt hb
          go_region_held3 (fun w' => w'.cell? ⟨g, 2, none⟩ = some (.slice (some ⟨bb, off, none⟩) its.length c) ∧ w'.cell? ⟨bb, off + k * 2, none⟩ = some (.int .i64 x.1.1) ∧ w'.cell? ⟨bb, off + k * 2 + 1, none⟩ = some x.2)
            (first | go_keep | exact ⟨z2, z0, z1⟩ | exact ⟨(World.cell?_setCell_far _ _ _ _ (Ne.symm ng)).trans ((World.cell?_setCell_far _ _ _ _ (Ne.symm ng)).trans z2), (World.cell?_setCell_far _ _ _ _ (Ne.symm nb)).trans ((World.cell?_setCell_far _ _ _ _ (Ne.symm nb)).trans z0), (World.cell?_setCell_far _ _ _ _ (Ne.symm nb)).trans ((World.cell?_setCell_far _ _ _ _ (Ne.symm nb)).trans z1)⟩)
            (first
              | (go_at_call 21; refine (without_any (x := t) (by first | exact Row.rd HS.out | exact Row.rd (World.ownsRow.alloc HS.out _)) (by omega)).mono ?_; rintro e w2 ⟨u2, rfl, ho2, hb2⟩; rw [HX.out] at ho2; obtain ⟨A2, cc2, rfl, _, _⟩ := Row.shape ho2; have hb4 : Below wr.heap.size wr w2 := (by first | exact ((Below.refl _ _).drew).trans hb2 | exact (((Below.refl _ _).alloc (Nat.le_refl _) _).drew).trans (hb2.mono (by simp [World.drew]))); have HO2 : Hid (Own w2 wr.heap.size (.slice A2 (x.1.2.set t false).list.length cc2) (x.1.2.set t false).list) := Row.mono ho2 (by first | exact Nat.le_refl _ | simp [World.drew]); have HB4 := Lib.hid hb4; have z2 := (HblkA.out.below (HBL.out.trans (hb4.mono hsz))).cell 2 rfl; have z0 := (hb4.cell (p := ⟨bb, off + k * 2, none⟩) hb).trans d0; have z1 := (hb4.cell (p := ⟨bb, off + k * 2 + 1, none⟩) hb).trans d1; have hb3 : bb < w2.heap.size := Nat.lt_of_lt_of_le hb hb4.size; have hgl2 : g < w2.heap.size := Nat.lt_of_lt_of_le hgl hb4.size; try (have hbx : Blk w2 wr.heap.size 69 [.int .i64 0, .slice none 0 0] := Blk.below (w := (wr.alloc (.cells #[.int .i64 0, .slice none 0 0] 69)).drew) (Blk.new wr 69 [.int .i64 0, .slice none 0 0]) hb2; have y0 := hbx.cell 0 rfl; have y1 := hbx.cell 1 rfl; have fy := fun j => hbx.free j; have HBX := Lib.hid hbx; clear hbx); clear ho2 hb2 hb4))
          all_goals
            go_wp2_with fail
            go_meet
            case rel => first | exact box_new HB4.out HO2.out | exact box_old HB4.out HBX.out HO2.out
        case rest =>
        obtain ⟨N, A2, cc2, rfl, hbx, ho2, hN, hb4⟩ := hcut
        have HB4 := Lib.hid hb4
        have s4 := hb4.size
        have x0 := hbx.cell 0 rfl
        have x1 := hbx.cell 1 rfl
        have hO4 := Row.below HO.out hb4
        have hR4 := Row.below HR.out hb4
        have HL4 := Lib.hid (show ∀ y ∈ L, Sub wc wA.heap.size y from fun y hy => Row.below (hL.out.2.1 y hy) hb4)
        have HBX := Lib.hid hbx
        have HO2 := Lib.hid ho2
        have hNlt := hbx.lt
        have BW := HBL.out.trans (hb4.mono hsz)
        have HBW := Lib.hid BW
        have sW := BW.size
        clear hbx ho2 hb4 BW d0 d1
        cases hno : (x.1.2.set t false).no with
        | true =>
          have hlz : (x.1.2.set t false).list.length = 0 := (list_nil _).2 hno
          have hzb : (((x.1.2.set t false).list.length : Int) == 0) = true := by rw [beq_iff_eq]; omega
          have HBK := Lib.hid (show backs (cutI t (its.take (k + 1))) = backs (cutI t (its.take k)) ++ [x.1.1] by rw [Hc.out, backs_app]; simp [backs, hno])
          have HLF := Lib.hid (show lefts (cutI t (its.take (k + 1))) = lefts (cutI t (its.take k)) by rw [Hc.out, lefts_app]; simp [lefts, hno])
          clear hno hlz
          go_wp2_with (at_builtin; refine wpList_append_int rfl (.tmp 55) (.tmp 58) rfl Try.underlying28 info3 wA.heap.size u6 (backs (cutI t (its.take k))) _ _ rfl hO4 rfl ?c1 sW (by have := hbk.out; omega) ?_)
          case c1 => rfl
          intro v1 w5 ho5 hk5 hm5
          have HO5 := Lib.hid (show Own w5 wA.heap.size v1 (backs (cutI t (its.take (k + 1)))) by rw [HBK.out]; exact ho5)
          have HR5 := Lib.hid (Row.keep hR4 hk5 (fun i hi e => Row.ne_row hR4 hO4 (by decide) hi e))
          have HL5 := Lib.hid (show L.map (·.1) = lefts (cutI t (its.take (k + 1))) ∧ (∀ y ∈ L, Sub w5 wA.heap.size y) ∧ (∀ y ∈ L, ∀ i, y.2.ownBlock = some i → v1.ownBlock ≠ some i) from
            ⟨by rw [HLF.out]; exact hL.out.1, fun y hy => Row.keep (HL4.out y hy) hk5 (fun i hi e => hL.out.2.2 y hy i hi e), fun y hy i hi e => by
              rcases hm5 i e with e | e
              · exact hL.out.2.2 y hy i hi e
              · have := (Row.at_lt (HL4.out y hy) hi).2; omega⟩)
          have HB5 := Lib.hid (HBW.out.trans (hk5.below sW (fun i hi => (Row.at_lt hO4 hi).1)))
          clear ho5 hk5 hm5 hO4 hR4 x0 x1
          go_wp2
          go_roundw
          case measure => simp [intOf]; omega
          case rel => exact ⟨k + 1, L, by omega, by go_num, HO5.out, HR5.out, HL5.out, HB5.out⟩
        | false =>
          have hlz : ¬ (x.1.2.set t false).list.length = 0 := fun e => by rw [(list_nil _).1 e] at hno; cases hno
          have hzb : (((x.1.2.set t false).list.length : Int) == 0) = false := by rw [beq_eq_false_iff_ne]; omega
          have HBK := Lib.hid (show backs (cutI t (its.take (k + 1))) = backs (cutI t (its.take k)) by rw [Hc.out, backs_app]; simp [backs, hno])
          have HLF := Lib.hid (show lefts (cutI t (its.take (k + 1))) = lefts (cutI t (its.take k)) ++ [(x.1.1, x.1.2.set t false)] by rw [Hc.out, lefts_app]; simp [lefts, hno])
          clear hno hlz
          go_wp2_with (at_builtin; refine wpList_app rfl (.tmp 60) (.tmp 62) rfl Try.underlying63 info69 rfl (by decide) (by decide) wA.heap.size u7 L.length (flatI L) wc.heap.size (iCells (((x.1.1, x.1.2.set t false), .slice A2 (x.1.2.set t false).list.length cc2) : It)) rfl (World.ownsRow.alloc hR4 _) rfl (Blk.new wc 69 _) rfl (iCells_one rfl) (by simp; omega) (by omega) ?_)
          intro v1 w5 ho5 hk5 hm5
          have bA : Below wc.heap.size wc (wc.alloc (.cells (iCells (((x.1.1, x.1.2.set t false), .slice A2 (x.1.2.set t false).list.length cc2) : It)).toArray 69)) := (Below.refl _ _).alloc (Nat.le_refl _) _
          have hO4' := Row.below hO4 bA
          have hR4' := Row.below hR4 bA
          have hS' := Row.below HO2.out bA
          have HR5 := Lib.hid (show Row w5 wA.heap.size 69 2 v1 (L ++ [(((x.1.1, x.1.2.set t false), .slice A2 (x.1.2.set t false).list.length cc2) : It)]).length (flatI (L ++ [(((x.1.1, x.1.2.set t false), .slice A2 (x.1.2.set t false).list.length cc2) : It)])) by rw [flatI_app]; simpa [flatI] using ho5)
          have HO5 := Lib.hid (show Own w5 wA.heap.size u6 (backs (cutI t (its.take (k + 1)))) by rw [HBK.out]; exact Row.keep hO4' hk5 (fun i hi e => Row.ne_row hO4' hR4' (by decide) hi e))
          have HL5 := Lib.hid (show (L ++ [(((x.1.1, x.1.2.set t false), .slice A2 (x.1.2.set t false).list.length cc2) : It)]).map (·.1) = lefts (cutI t (its.take (k + 1))) ∧ (∀ y ∈ L ++ [(((x.1.1, x.1.2.set t false), .slice A2 (x.1.2.set t false).list.length cc2) : It)], Sub w5 wA.heap.size y) ∧ (∀ y ∈ L ++ [(((x.1.1, x.1.2.set t false), .slice A2 (x.1.2.set t false).list.length cc2) : It)], ∀ i, y.2.ownBlock = some i → u6.ownBlock ≠ some i) from
            ⟨by rw [HLF.out, List.map_append, hL.out.1]; rfl, fun y hy => by
              rcases List.mem_append.1 hy with hy | hy
              · exact Row.keep (Row.below (HL4.out y hy) bA) hk5 (fun i hi e => Row.ne_row (Row.below (HL4.out y hy) bA) hR4' (by decide) hi e)
              · rw [List.mem_singleton.1 hy]; exact Row.mono (Row.keep hS' hk5 (fun i hi e => Row.ne_row hS' hR4' (by decide) hi e)) hsz, fun y hy i hi e => by
              rcases List.mem_append.1 hy with hy | hy
              · exact hL.out.2.2 y hy i hi e
              · rw [List.mem_singleton.1 hy] at hi
                have h1 := (Row.at_lt HO2.out hi).1
                have h2 := (Row.at_lt HO.out e).2
                omega⟩)
          have HB5 := Lib.hid (HBW.out.trans ((bA.mono sW).trans (hk5.below (by simp; omega) (fun i hi => (Row.at_lt hR4 hi).1))))
          clear ho5 hk5 hm5 hO4 hR4 x0 x1 hO4' hR4' hS' bA
          go_wp2
          go_roundw
          case measure => simp [intOf]; omega
          case rel => exact ⟨k + 1, _, by omega, by go_num, HO5.out, HR5.out, HL5.out, HB5.out⟩
      · have hkn : k = its.length := by omega
        have hL2 := hL.out
        rw [hkn, List.take_length, HCA.out] at hown hL2
        obtain ⟨A4, c4, rfl, _, _⟩ := Row.shape hrow
        have f2 := hbR.free 2
        have HbR := Lib.hid hbR
        have Hown := Lib.hid hown
        have HL2 := Lib.hid hL2
        have HiR := Lib.hid (Row.below HiA.out hbel)
        have HKR := Lib.hid ((HkA.out.then_below hbel).mono (T := footQ g iv (.slice A its.length c) its) (fun i _ e => .inl e))
        clear hkn hown hL2 hbR hbel hrow
        go_wp2
        go_ret2
        rw [HQ.out]
        have kk : Kept wr (wr.setCell ⟨g, 2, none⟩ (.slice A4 L.length c4)) (fun i => i = g) := (Kept.refl wr (fun i => i = g)).setCell (p := ⟨g, 2, none⟩) (.inl rfl) _
        have hwA : w.heap.size ≤ wA.heap.size := by omega
        refine ⟨u6, .slice A1 (without I t).length cc1, .slice A4 L.length c4, without I t, L, rfl, Row.mono (Row.keep Hown.out kk (fun i hi e => Row.ne_blk Hown.out HbR.out (by decide) (e ▸ hi))) hwA, ⟨H.out.lo, HbR.out.set 2 _, Row.mono (Row.keep HiR.out kk (fun i hi e => Row.ne_blk HiR.out HbR.out (by decide) (e ▸ hi))) hBw, Row.mono (Row.keep HR.out kk (fun i hi e => Row.ne_blk HR.out HbR.out (by decide) (e ▸ hi))) (by omega), fun y hy => Row.mono (Row.keep (HL2.out.2.1 y hy) kk (fun i hi e => Row.ne_blk (HL2.out.2.1 y hy) HbR.out (by decide) (e ▸ hi))) (by omega), fun y hy i hi e => ?_, HL2.out.1, HDr.out.1, by rw [HDr.out.2, H.out.ins]; rfl⟩, ?_, fun i hi => ?_⟩
        · have h1 := (Row.at_lt (HL2.out.2.1 y hy) hi).1
          have h2 := (Row.at_lt HiA.out e).2
          omega
        · exact HKR.out.trans kk (fun i _ e => .inl e)
        · rcases hi with rfl | hi | hi | ⟨y, hy, hi⟩
          · exact .inl (.inl rfl)
          · exact .inr (Row.at_lt HiA.out hi).1
          · exact .inr (Nat.le_trans hwA (Row.at_lt HR.out hi).1)
          · exact .inr (Nat.le_trans hwA (Row.at_lt (HL2.out.2.1 y hy) hi).1)
  · have Ht := Lib.hid ht
    have HQ := Lib.hid (show outQ q t = (q, [], 1) from if_neg ht)
    clear ht
    go_enter Try.func35, Try.ntmps35
    go_wp2_with (go_at_call 44; refine (isThread_no h _ Ht.out).mono ?_; rintro e w' ⟨rfl, rfl⟩)
    go_ret2
    rw [HQ.out]
    exact DidQ.same h rfl (Below.refl _ _)
end
end Go.Proofs.Ytdgkdfblgeobmaa
