/-
  The document's manager of eras: the walks of Hold, Born, Retire.
-/
import Derived.Test.YtiokifkppfegfaaRef4
set_option linter.unusedVariables false
set_option linter.unusedSimpArgs false
namespace Go.Proofs.Ytiokifkppfegfaa
open Go.RowKit Mem Qm
set_option maxRecDepth 100000

theorem seenTo_hold (q : Q) {n k j : Nat} (hn : n ≤ 4) (hk : k < n) (hj : j < 3) (hi : (q.get (k : Int)).i = true) (e a : Int) : seenTo (q.put (k : Int) ((q.get (k : Int)).hold e (j : Int) a)) n =
    ((seenTo q n).set (k * 6 + 2) (.int .i64 e)).set (k * 6 + 3 + j) (.int .i64 a) := by
  simp only [seenTo, ← List.take_set]
  congr 1
  rcases (show k = 0 ∨ k = 1 ∨ k = 2 ∨ k = 3 by omega) with rfl | rfl | rfl | rfl <;> rcases (show j = 0 ∨ j = 1 ∨ j = 2 by omega) with rfl | rfl | rfl <;> rfl
section
variable {w : World} {B g gv m : Nat} {vb vi : Value} {q : Q} {L : List Bi}
set_option maxHeartbeats 1000000 in
theorem rhold_any (h : IsR w B g gv vb vi m q L) (hm4 : m ≤ 4) {j : Nat} (hs : Sim q L j) (t i a : Int) :
    Calls Try.prog 36 #[.pointer (some ⟨g, 0, none⟩), .int .i64 t, .int .i64 i, .int .i64 a] w (DidR w B g gv vb vi m (holdQ q t i a) j) := by
  by_cases ht : q.ok t
  · by_cases hb : 0 ≤ i ∧ i < 3 ∧ 0 ≤ a
    · obtain ⟨k, rfl⟩ : ∃ k : Nat, t = k := ⟨t.toNat, by have := ht.1; omega⟩
      obtain ⟨i0, i3, a0⟩ := hb
      obtain ⟨n, rfl⟩ : ∃ n : Nat, i = n := ⟨i.toNat, by omega⟩
      have hn3 : n < 3 := by omega
      have hkm : k < m := by have h1 := ht.2; rw [h.nm] at h1; omega
      have ff : ∀ j, w.frozen? ⟨gv, j, none⟩ = false := fun j => h.vis.free j
      have r1 := h.blk.cell 1 rfl
      have r2 := h.blk.cell 2 rfl
      have hat := fun j (hj : j < 6) => (seenTo_at q hm4 hkm hj)
      have c0 := h.vis.cell (k * 6) (by have := hat 0 (by omega); rw [Nat.add_zero] at this; rw [this]; rfl)
      have c2 := h.vis.cell (k * 6 + 2) (by rw [hat 2 (by omega)]; rfl)
      have cn := h.vis.cell (k * 6 + 3 + n) (by rw [show k * 6 + 3 + n = k * 6 + (3 + n) by omega, hat (3 + n) (by omega)]; exact hAt_cell _ hn3)
      have Ht := Lib.hid ht
      have HS := Lib.hid hs
      have h3g := h.vis.lt
      have h4g := h.ne_vis
      have hng : (g == gv) = false := by simp; exact fun e => h4g e.symm
      have hgne : g ≠ gv := fun e => h4g e.symm
      cases hi : (q.get (k : Int)).i with
      | true =>
        rw [hi] at c0
        have HQ := Lib.hid (show holdQ q (k : Int) (n : Int) a = (q.put (k : Int) ((q.get (k : Int)).hold q.era (n : Int) a), [], 0) by
          unfold holdQ; rw [if_pos ⟨ht, i0, i3, a0⟩]; unfold Q.hold; rw [if_pos hi])
        have HSH := Lib.hid (seenTo_hold q hm4 hkm hn3 hi q.era a)
        have H := Lib.hid h
        clear ht hat hs hi
        go_enter Try.func36, Try.ntmps36
        go_wp2_with (go_at_call 46; refine (isThread_yes h _ Ht.out).mono ?_; rintro e w' ⟨rfl, rfl⟩)
        go_region
        go_wp2
        go_ret2
        rw [HQ.out]
        have kk : Kept w ((w.setCell ⟨gv, k * 6 + 2, none⟩ (.int .i64 q.era)).setCell ⟨gv, k * 6 + 3 + n, none⟩ (.int .i64 a)) (fun i => i = gv) := ((Kept.refl w (fun i => i = gv)).setCell (p := ⟨gv, k * 6 + 2, none⟩) (.inl rfl) _).setCell (p := ⟨gv, k * 6 + 3 + n, none⟩) (.inl rfl) _
        have hI : IsR ((w.setCell ⟨gv, k * 6 + 2, none⟩ (.int .i64 q.era)).setCell ⟨gv, k * 6 + 3 + n, none⟩ (.int .i64 a)) B g gv vb vi m (q.put (k : Int) ((q.get (k : Int)).hold q.era (n : Int) a)) L :=
          ⟨H.out.lo, H.out.lov, H.out.nm, H.out.blk.keep kk (fun e => H.out.ne_vis e.symm), Blk.of ((H.out.vis.set _ _).set _ _) HSH.out, Row.keep H.out.brow kk (fun i hi e => H.out.ne_bv (e ▸ hi)), Row.keep H.out.irow kk (fun i hi e => H.out.ne_iv (e ▸ hi))⟩
        exact ⟨_, vb, vi, L, rfl, Own.nil _ _, drew_isR hI, ⟨HS.out.look, HS.out.len⟩, (kk.mono (fun i _ e => .inr (.inl e))).drew, MovR.refl _ _ _⟩
      | false =>
        rw [hi] at c0
        have HQ := Lib.hid (show holdQ q (k : Int) (n : Int) a = (q, [], 0) by
          unfold holdQ; rw [if_pos ⟨ht, i0, i3, a0⟩]; unfold Q.hold; rw [if_neg (by simp [hi])])
        clear ht hat hs hi
        go_enter Try.func36, Try.ntmps36
        go_wp2_with (go_at_call 46; refine (isThread_yes h _ Ht.out).mono ?_; rintro e w' ⟨rfl, rfl⟩)
        go_ret2
        rw [HQ.out]
        exact DidR.same h HS.out rfl (Below.refl _ _)
    · have HQ := Lib.hid (show holdQ q t i a = (q, [], 1) from if_neg (fun x => hb x.2))
      have Ht := Lib.hid ht
      have HS := Lib.hid hs
      clear ht hs
      by_cases h0 : 0 ≤ i
      · by_cases h1 : i < 3
        · have h2 : ¬ 0 ≤ a := fun h2 => hb ⟨h0, h1, h2⟩
          clear hb
          go_enter Try.func36, Try.ntmps36
          go_wp2_with (go_at_call 46; refine (isThread_yes h _ Ht.out).mono ?_; rintro e w' ⟨rfl, rfl⟩)
          go_ret2
          rw [HQ.out]
          exact DidR.same h HS.out rfl (Below.refl _ _)
        · clear hb
          go_enter Try.func36, Try.ntmps36
          go_wp2_with (go_at_call 46; refine (isThread_yes h _ Ht.out).mono ?_; rintro e w' ⟨rfl, rfl⟩)
          go_ret2
          rw [HQ.out]
          exact DidR.same h HS.out rfl (Below.refl _ _)
      · clear hb
        go_enter Try.func36, Try.ntmps36
        go_wp2_with (go_at_call 46; refine (isThread_yes h _ Ht.out).mono ?_; rintro e w' ⟨rfl, rfl⟩)
        go_ret2
        rw [HQ.out]
        exact DidR.same h HS.out rfl (Below.refl _ _)
  · have Ht := Lib.hid ht
    have HQ := Lib.hid (show holdQ q t i a = (q, [], 1) from if_neg (fun x => ht x.1))
    have HS := Lib.hid hs
    clear ht hs
    go_enter Try.func36, Try.ntmps36
    go_wp2_with (go_at_call 46; refine (isThread_no h _ Ht.out).mono ?_; rintro e w' ⟨rfl, rfl⟩)
    go_ret2
    rw [HQ.out]
    exact DidR.same h HS.out rfl (Below.refl _ _)
theorem IsR.same {q' : Q} (h : IsR w B g gv vb vi m q L) (e1 : q'.n = q.n) (e2 : q'.era = q.era) (e3 : seenTo q' m = seenTo q m) (e4 : q'.ws = q.ws) : IsR w B g gv vb vi m q' L :=
  ⟨h.lo, h.lov, by rw [e1]; exact h.nm, by rw [e2]; exact h.blk, by rw [e3]; exact h.vis, h.brow, by rw [e4]; exact h.irow⟩
theorem birth_step {w2 w3 : World} {v3 : Value} {x : Bi} {o : Obj} (h : IsR w2 B g gv vb vi m q L) (hr : Row w3 B 85 2 v3 (L ++ [x]).length (flatB (L ++ [x]))) (hk : Kept (w2.drew.alloc o) w3 (fun k => vb.ownBlock = some k))
    (hm : ∀ k, v3.ownBlock = some k → vb.ownBlock = some k ∨ (w2.drew.alloc o).heap.size ≤ k) :
    IsR (w3.setCell ⟨g, 3, none⟩ v3) B g gv v3 vi m q (L ++ [x]) ∧ Kept w2 (w3.setCell ⟨g, 3, none⟩ v3) (footR g gv vb vi) ∧ (∀ k, v3.ownBlock = some k → vb.ownBlock = some k ∨ w2.heap.size ≤ k) := by
  have bA : Below w2.drew.heap.size w2.drew (w2.drew.alloc o) := (Below.refl _ _).alloc (Nat.le_refl _) _
  have hA : IsR (w2.drew.alloc o) B g gv vb vi m q L := (drew_isR h).below bA
  have hb : Blk w3 g 76 _ := Blk.keep hA.blk hk (fun e => hA.ne_b e)
  have hv : Blk w3 gv 82 _ := Blk.keep hA.vis hk (fun e => hA.ne_bv e)
  have hi : Row w3 B 87 3 vi q.ws.length (flat q.ws) := Row.keep hA.irow hk (fun i hi e => Row.ne_row hA.irow hA.brow (by decide) hi e)
  have kk : Kept w3 (w3.setCell ⟨g, 3, none⟩ v3) (fun i => i = g) := (Kept.refl w3 (fun i => i = g)).setCell (p := ⟨g, 3, none⟩) (.inl rfl) _
  refine ⟨⟨h.lo, h.lov, h.nm, Blk.of (hb.set 3 _) rfl, hv.keep kk h.ne_vis, Row.keep hr kk (fun i hi e => Row.ne_blk hr hb (by decide) (e ▸ hi)), Row.keep hi kk (fun i hh e => Row.ne_blk hi hb (by decide) (e ▸ hh))⟩, ?_, fun k hk' => ?_⟩
  · have k1 : Kept w2 (w2.drew.alloc o) (footR g gv vb vi) := (Kept.refl w2 _).drew.alloc o
    exact (k1.trans hk (fun i _ hi => .inr (.inr (.inl hi)))).trans kk (fun i _ e => .inl e)
  · rcases hm k hk' with e | e
    · exact .inl e
    · refine .inr ?_
      simp at e
      omega
theorem item_step {w2 w3 : World} {v3 : Value} {x : Life} {o : Obj} (h : IsR w2 B g gv vb vi m q L) (hr : Row w3 B 87 3 v3 (q.ws ++ [x]).length (flat (q.ws ++ [x]))) (hk : Kept (w2.drew.alloc o) w3 (fun k => vi.ownBlock = some k))
    (hm : ∀ k, v3.ownBlock = some k → vi.ownBlock = some k ∨ (w2.drew.alloc o).heap.size ≤ k) :
    IsR (w3.setCell ⟨g, 4, none⟩ v3) B g gv vb v3 m { q with ws := q.ws ++ [x] } L ∧ Kept w2 (w3.setCell ⟨g, 4, none⟩ v3) (footR g gv vb vi) ∧ (∀ k, v3.ownBlock = some k → vi.ownBlock = some k ∨ w2.heap.size ≤ k) := by
  have bA : Below w2.drew.heap.size w2.drew (w2.drew.alloc o) := (Below.refl _ _).alloc (Nat.le_refl _) _
  have hA : IsR (w2.drew.alloc o) B g gv vb vi m q L := (drew_isR h).below bA
  have hb : Blk w3 g 76 _ := Blk.keep hA.blk hk (fun e => hA.ne_i e)
  have hv : Blk w3 gv 82 _ := Blk.keep hA.vis hk (fun e => hA.ne_iv e)
  have hi : Row w3 B 85 2 vb L.length (flatB L) := Row.keep hA.brow hk (fun i hi e => Row.ne_row hA.brow hA.irow (by decide) hi e)
  have kk : Kept w3 (w3.setCell ⟨g, 4, none⟩ v3) (fun i => i = g) := (Kept.refl w3 (fun i => i = g)).setCell (p := ⟨g, 4, none⟩) (.inl rfl) _
  refine ⟨⟨h.lo, h.lov, h.nm, Blk.of (hb.set 4 _) rfl, hv.keep kk h.ne_vis, Row.keep hi kk (fun i hh e => Row.ne_blk hi hb (by decide) (e ▸ hh)), Row.keep hr kk (fun i hi e => Row.ne_blk hr hb (by decide) (e ▸ hi))⟩, ?_, fun k hk' => ?_⟩
  · have k1 : Kept w2 (w2.drew.alloc o) (footR g gv vb vi) := (Kept.refl w2 _).drew.alloc o
    exact (k1.trans hk (fun i _ hi => .inr (.inr (.inr hi)))).trans kk (fun i _ e => .inl e)
  · rcases hm k hk' with e | e
    · exact .inl e
    · refine .inr ?_
      simp at e
      omega
/-- An error alone. -/
def ErrR (w : World) (B g gv : Nat) (vb vi : Value) (m : Nat) (r : Q × List Int × Int) (j : Nat) (e : Ending) (w' : World) : Prop :=
  ∃ vb' L', e = .returned (.int .i64 r.2.2) ∧ r.2.1 = [] ∧ IsR w' B g gv vb' vi m r.1 L' ∧ Sim r.1 L' j ∧ Kept w w' (footR g gv vb vi) ∧ MovR w vb vi vb' vi
set_option maxHeartbeats 2000000 in
theorem rborn_any (h : IsR w B g gv vb vi m q L) (hm1 : 1 ≤ m) {j : Nat} (hs : Sim q L j) (hj : j < 900000) (he0 : 0 ≤ q.era) (he1 : q.era < 1000000) (hBw : B ≤ w.heap.size) (a : Int) :
    Calls Try.prog 37 #[.pointer (some ⟨g, 0, none⟩), .int .i64 a] w (ErrR w B g gv vb vi m (bornQ q a) (j + 1)) := by
  have hok : q.ok 0 := ⟨Int.le_refl 0, by rw [h.nm]; omega⟩
  have r0 := h.blk.cell 0 rfl
  have hm0 : ((m : Int) == 0) = false := by rw [beq_eq_false_iff_ne]; omega
  by_cases ha : 0 < a
  · have HQ := Lib.hid (show bornQ q a = (q.born a, [], 0) from if_pos ⟨hok, ha⟩)
    have HS := Lib.hid hs
    have r1 := h.blk.cell 1 rfl
    have f1 := h.blk.free 1
    have k1 : Kept w (w.setCell ⟨g, 1, none⟩ (.int .i64 (q.era + 1))) (fun i => i = g) := (Kept.refl w (fun i => i = g)).setCell (p := ⟨g, 1, none⟩) (.inl rfl) _
    have i1 : IsR (w.setCell ⟨g, 1, none⟩ (.int .i64 (q.era + 1))) B g gv vb vi m { q with era := q.era + 1 } L :=
      ⟨h.lo, h.lov, h.nm, Blk.of (h.blk.set 1 _) rfl, h.vis.keep k1 h.ne_vis, Row.keep h.brow k1 (fun i hi e => h.ne_b (e ▸ hi)), Row.keep h.irow k1 (fun i hi e => h.ne_i (e ▸ hi))⟩
    have I1 := Lib.hid i1
    have K1 := Lib.hid k1
    clear hok hs k1 i1
    go_enter Try.func37, Try.ntmps37
    go_wp2_with fail
    clear h
    refine (rforget_any I1.out (Nat.le_trans hBw K1.out.size) (by have := HS.out.len; omega) a).mono ?_
    rintro e w2 ⟨vb2, rfl, h2, k2, m2⟩
    have K2 := Lib.hid (K1.out.trans k2 (fun _ _ e => e))
    have M2 := Lib.hid m2
    have H2 := Lib.hid h2
    have s2 := K2.out.size
    have t2 := k2.size
    have c1 := h2.blk.cell 1 rfl
    have c3 := h2.blk.cell 3 rfl
    have hg2 := h2.blk.lt
    clear r0 r1 f1 k2 m2 h2
    go_wp2_with fail
    go_region_law (refine step_app rfl (.tmp 33) (.tmp 40) rfl Try.underlying73 info85 rfl (by decide) (by decide) B vb2 _ _ w2.heap.size (bCells (a, q.era + 1)) (by simp [Act.eval, Act.put]) (by exact World.ownsRow.alloc (w := w2.drew) H2.out.brow _) (by simp [Act.eval, Act.put]) (by exact Blk.new w2.drew 85 _) rfl (bCells_one _) (by simp; omega) (by have := HS.out.len; have := forget_le L a; omega) ?_; intro v3 w3 hr3 hk3 hm3; have e3 := Blk.cell (Blk.keep (Blk.alloc (w := w2.drew) H2.out.blk _) hk3 (fun e => H2.out.ne_b e)) 3 rfl; have g3 := Blk.free (Blk.keep (Blk.alloc (w := w2.drew) H2.out.blk _) hk3 (fun e => H2.out.ne_b e)) 3; obtain ⟨A3, cc3, rfl, _, _⟩ := Row.shape hr3)
    all_goals
      have hr4 : Row w3 B 85 2 (.slice A3 ((forgetL L a).length + 1) cc3) (forgetL L a ++ [((a, q.era + 1) : Bi)]).length (flatB (forgetL L a ++ [((a, q.era + 1) : Bi)])) := by rw [flatB_app]; simpa [flatB] using hr3
      obtain ⟨i4, k4, m4⟩ := birth_step H2.out hr4 hk3 hm3
      have I4 := Lib.hid i4
      have K4 := Lib.hid k4
      have M4 := Lib.hid m4
      clear hr3 hk3 hm3 hr4 i4 k4 m4
      go_wp2
      go_ret
      rw [HQ.out]
      refine ⟨_, _, rfl, rfl, IsR.same (q' := q.born a) I4.out rfl rfl rfl rfl, ⟨fun x => ?_, ?_⟩, ?_, ?_, fun _ h => .inl h⟩
      · rw [look_snoc, look_forget]
        simp only [Q.born, upd, HS.out.look]
        by_cases hx : x = a
        · rw [if_pos hx.symm, if_pos hx]
        · rw [if_neg (fun e => hx e.symm), if_neg hx, if_neg hx]
      · have := HS.out.len
        have := forget_le L a
        simp only [List.length_append, List.length_cons, List.length_nil]
        omega
      · exact (K2.out.mono (T := footR g gv vb vi) (fun i _ e => .inl e)).trans K4.out (fun i hlt hf => by
          rcases hf with rfl | rfl | hf | hf
          · exact .inl rfl
          · exact .inr (.inl rfl)
          · exact absurd (M2.out i hf) (by have := K1.out.size; omega)
          · exact .inr (.inr (.inr hf)))
      · intro i hi
        rcases M4.out i hi with e | e
        · exact .inr (by have := M2.out i e; have := K1.out.size; omega)
        · exact .inr (by omega)
  · have HQ := Lib.hid (show bornQ q a = (q, [], 1) from if_neg (fun x => ha x.2))
    have HS := Lib.hid hs
    clear hok hs
    go_enter Try.func37, Try.ntmps37
    go_wp2
    go_ret
    rw [HQ.out]
    exact ⟨vb, L, rfl, rfl, h, ⟨HS.out.look, Nat.le_succ_of_le HS.out.len⟩, Kept.refl _ _, MovR.refl _ _ _⟩
set_option maxHeartbeats 2000000 in
theorem rretire_any (h : IsR w B g gv vb vi m q L) (hm4 : m ≤ 4) (hI : Inv q) {j : Nat} (hs : Sim q L j) (hj : j < 900000) (hBw : B ≤ w.heap.size) (hl : q.ws.length < 900000) (t a : Int) :
    Calls Try.prog 38 #[.pointer (some ⟨g, 0, none⟩), .int .i64 t, .int .i64 a] w (DidR w B g gv vb vi m (retQ q t a) j) := by
  by_cases ht : q.ok t ∧ 0 < a
  · have HT := Lib.hid ht.1
    have ha := ht.2
    have HQ := Lib.hid (show retQ q t a = if hasB (addrs q.ws) a = true then (q, [], 6) else ((q.add a).swept, backs (q.add a) (q.add a).ws, 0) from if_pos ht)
    have HS := Lib.hid hs
    have HO := Lib.hid hI.out
    have H := Lib.hid h
    obtain ⟨A, c, rfl, hc1, hc2⟩ := Row.shape h.irow
    have hc3 : c ≤ 9223372036854775807 := by simpa [maxLen] using hc2
    have r4 := h.blk.cell 4 rfl
    have r1 := h.blk.cell 1 rfl
    clear ht hs hI h hc2
    go_enter Try.func38, Try.ntmps38
    go_wp2_with fail
    refine (isThread_yes H.out _ HT.out).mono ?_
    rintro e w1 ⟨rfl, rfl⟩
    go_wp2_with fail
    go_loop [8] (fun i => ∃ k : Nat, k ≤ q.ws.length ∧ i = .int .i64 k ∧ Hid (hasB (addrs (q.ws.take k)) a = false)) (fun i => q.ws.length - (intOf i).toNat)
    case atStart => exact ⟨0, Nat.zero_le _, rfl, rfl⟩
    case round =>
      obtain ⟨k, hk, rfl, hn⟩ := hrel
      by_cases hlt : k < q.ws.length
      · obtain ⟨bb, off, rfl, hb, hcell⟩ := Rd.elem (Row.rd H.out.irow) hlt
        have d0 := (hcell 0 (by decide)).trans (flat_at q.ws k hlt 0 (by decide))
        simp only [lCells, List.getElem?_cons_zero, Nat.add_zero] at d0
        have Hs := Lib.hid (addrs_snoc hlt)
        clear hcell
        by_cases he : q.ws[k].a = a
        · have e1 : (q.ws[k].a == a) = true := beq_iff_eq.2 he
          have HD := Lib.hid (show hasB (addrs q.ws) a = true from (hasB_iff _ _).2 (by rw [← he]; exact List.mem_map.2 ⟨_, List.getElem_mem hlt, rfl⟩))
          clear he
          go_wp2
          go_ret2
          rw [HQ.out, if_pos HD.out]
          exact DidR.same H.out HS.out rfl (Below.refl _ _)
        · have e1 : (q.ws[k].a == a) = false := beq_eq_false_iff_ne.2 he
          have HN := Lib.hid (show hasB (addrs (q.ws.take (k + 1))) a = false by
            rw [Hs.out]
            simp only [hasB, List.any_append, List.any_cons, List.any_nil, Bool.or_false]
            have := hn.out
            simp only [hasB] at this
            rw [this, decide_eq_false (fun e => he e.symm)]; rfl)
          clear he
          go_wp2
          go_round
          case measure => simp [intOf]; omega
          case rel => exact ⟨k + 1, by omega, by go_num, HN.out⟩
      · have hkn : k = q.ws.length := by omega
        have HD := Lib.hid (show hasB (addrs q.ws) a = false by have := hn.out; rw [hkn, List.take_length] at this; exact this)
        clear hkn
        obtain ⟨Ab, cb, rfl, hcb1, hcb2⟩ := Row.shape H.out.brow
        have hcb3 : cb ≤ 9223372036854775807 := by simpa [maxLen] using hcb2
        clear hcb2
        go_wp2_with fail
        have bA : Below w.heap.size w (w.alloc (.cells (lCells ⟨a, 0, q.era⟩).toArray 87)) := (Below.refl _ _).alloc (Nat.le_refl _) _
        have hX0 := Blk.new w 87 (lCells ⟨a, 0, q.era⟩)
        go_loopw [10] (fun i wr => ∃ k : Nat, k ≤ L.length ∧ i = .int .i64 k ∧ Blk wr w.heap.size 87 (lCells ⟨a, look (L.take k) a, q.era⟩) ∧ Below w.heap.size w wr) (fun i _ => L.length - (intOf i).toNat)
        case atStart => exact ⟨0, Nat.zero_le _, rfl, hX0, bA⟩
        case round =>
          clear hX0 bA
          obtain ⟨k2, hk2, rfl, hX, hbel⟩ := hrel
          have hR := H.out.below hbel
          have hsz := hbel.size
          have hXlt := hX.lt
          by_cases hlt2 : k2 < L.length
          · obtain ⟨bb, off, rfl, hb, hcell⟩ := Rd.elem (Row.rd hR.brow) hlt2
            have hat := fun i hi => (hcell i hi).trans (flatB_at L k2 hlt2 i hi)
            have d0 := hat 0 (by decide)
            have d1 := hat 1 (by decide)
            simp only [bCells, List.getElem?_cons_zero, List.getElem?_cons_succ, Nat.add_zero] at d0 d1
            have s3 := hR.blk.cell 3 rfl
            have Hs := Lib.hid (look_take hlt2 a)
            have HB := Lib.hid hbel
            have x1 := hX.cell 1 rfl
            have f1 := hX.free 1
            have HX := Lib.hid hX
            clear hcell hat hR hbel hX
            by_cases he : L[k2].1 = a
            · have e1 : (L[k2].1 == a) = true := beq_iff_eq.2 he
              have HN := Lib.hid (show look (L.take (k2 + 1)) a = L[k2].2 by rw [Hs.out, if_pos he])
              clear he
              go_wp2
              go_roundw
              case measure => simp [intOf]; omega
              case rel => exact ⟨k2 + 1, by omega, by go_num, by rw [HN.out]; exact Blk.of (HX.out.set 1 _) rfl, HB.out.setCell (Nat.le_refl _) _⟩
            · have e1 : (L[k2].1 == a) = false := beq_eq_false_iff_ne.2 he
              have HN := Lib.hid (show look (L.take (k2 + 1)) a = look (L.take k2) a by rw [Hs.out, if_neg he])
              clear he
              go_wp2
              go_roundw
              case measure => simp [intOf]; omega
              case rel => exact ⟨k2 + 1, by omega, by go_num, by rw [HN.out]; exact HX.out, HB.out⟩
          · have hkn : k2 = L.length := by omega
            have hX' : Blk wr w.heap.size 87 (lCells ⟨a, q.bi a, q.era⟩) := by rw [hkn, List.take_length, HS.out.look] at hX; exact hX
            have x0 := hX'.cell 0 rfl
            have x1 := hX'.cell 1 rfl
            have x2 := hX'.cell 2 rfl
            have s3 := hR.blk.cell 3 rfl
            have s4 := hR.blk.cell 4 rfl
            have hgl := hR.blk.lt
            have HR := Lib.hid hR
            have HB := Lib.hid hbel
            have HX := Lib.hid hX'
            clear hkn hX hX' hR hbel
            go_wp2_with fail
            go_region_law (refine step_app rfl (.tmp 76) (.tmp 78) rfl Try.underlying74 info87 rfl (by decide) (by decide) B (.slice A q.ws.length c) _ _ wr.heap.size (lCells ⟨a, q.bi a, q.era⟩) (by simp [Act.eval, Act.put]) (by exact World.ownsRow.alloc (w := wr.drew) HR.out.irow _) (by simp [Act.eval, Act.put]) (by exact Blk.new wr.drew 87 _) rfl (lCells_one _) (by simp; omega) (by omega) ?_; intro v3 w3 hr3 hk3 hm3; have e4 := Blk.cell (Blk.keep (Blk.alloc (w := wr.drew) HR.out.blk _) hk3 (fun e => HR.out.ne_i e)) 4 rfl; have g4 := Blk.free (Blk.keep (Blk.alloc (w := wr.drew) HR.out.blk _) hk3 (fun e => HR.out.ne_i e)) 4; obtain ⟨A3, cc3, rfl, _, _⟩ := Row.shape hr3)
            all_goals
              have hr4 : Row w3 B 87 3 (.slice A3 (q.ws.length + 1) cc3) (q.ws ++ [(⟨a, q.bi a, q.era⟩ : Life)]).length (flat (q.ws ++ [(⟨a, q.bi a, q.era⟩ : Life)])) := by rw [flat_app]; simpa [flat] using hr3
              obtain ⟨i4, k4, m4⟩ := item_step HR.out hr4 hk3 hm3
              have i5 := IsR.same (q' := q.add a) i4 rfl rfl rfl rfl
              have I5 := Lib.hid i5
              have K4 := Lib.hid ((Kept.of_below HB.out (footR g gv (.slice Ab L.length cb) (.slice A q.ws.length c))).trans k4 (fun _ _ h => h))
              have M4 := Lib.hid (show MovR w (.slice Ab L.length cb) (.slice A q.ws.length c) (.slice Ab L.length cb) (.slice A3 (q.ws.length + 1) cc3) from ⟨fun _ h => .inl h, fun i hi => (m4 i hi).imp id (fun h => Nat.le_trans hsz h)⟩)
              have s5 := K4.out.size
              have hB3 : B ≤ (w3.setCell ⟨g, 4, none⟩ (.slice A3 (q.ws.length + 1) cc3)).heap.size := by omega
              clear hr3 hk3 hm3 hr4 i4 k4 m4 i5 x0 x1 x2 s3 s4 e4 g4
              go_wp2_with fail
              refine ((rsweep_any I5.out hm4 HO.out hB3 (by simp [Q.add]; omega) (by have := HS.out.len; omega)).mono fun _ _ hs => hs.after K4.out M4.out).mono ?_
              rintro e w5 ⟨u, vb', vi', rfl, h1', h2, h3, h4'⟩
              have HH := Lib.hid (show Own w5 w.heap.size u _ ∧ IsR w5 B g gv vb' vi' m _ _ ∧ Kept w w5 (footR g gv (.slice Ab L.length cb) (.slice A q.ws.length c)) ∧ MovR w (.slice Ab L.length cb) (.slice A q.ws.length c) vb' vi' from ⟨h1', h2, h3, h4'⟩)
              clear h1' h2 h3 h4'
              go_wp2
              go_ret2
              rw [HQ.out, if_neg (by rw [HD.out]; decide)]
              obtain ⟨h1', h2, h3, h4'⟩ := HH.out
              exact ⟨u, vb', vi', _, rfl, h1', h2, ⟨fun a => by rw [look_forgetAll]; simp only [clr, HS.out.look]; rfl, Nat.le_trans (forgetAll_le _ _) HS.out.len⟩, h3, h4'⟩
  · have HQ := Lib.hid (show retQ q t a = (q, [], 1) from if_neg ht)
    have HS := Lib.hid hs
    clear hs
    by_cases hk : q.ok t
    · have ha : ¬ 0 < a := fun h => ht ⟨hk, h⟩
      have Ht := Lib.hid hk
      clear ht hk
      go_enter Try.func38, Try.ntmps38
      go_wp2_with (go_at_call 46; refine (isThread_yes h _ Ht.out).mono ?_; rintro e w' ⟨rfl, rfl⟩)
      go_ret2
      rw [HQ.out]
      exact DidR.same h HS.out rfl (Below.refl _ _)
    · have Ht := Lib.hid hk
      clear ht hk
      go_enter Try.func38, Try.ntmps38
      go_wp2_with (go_at_call 46; refine (isThread_no h _ Ht.out).mono ?_; rintro e w' ⟨rfl, rfl⟩)
      go_ret2
      rw [HQ.out]
      exact DidR.same h HS.out rfl (Below.refl _ _)
end
end Go.Proofs.Ytiokifkppfegfaa
