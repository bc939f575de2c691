/-
  The document's manager of grace periods: the walks of In, Retire.
-/
import Derived.Test.YtdgkdfblgeobmaaRef2
import Derived.Deep.RegionLaw
set_option linter.unusedVariables false
set_option linter.unusedSimpArgs false
namespace Go.Proofs.Ytdgkdfblgeobmaa
open Go.RowKit Mem Qm
set_option maxRecDepth 100000

theorem info69 : (Try.prog.info? 69).map (fun i => (i.zero, i.size, i.bytes)) = some (some (.agg #[.int .i64 0, .slice none 0 0]), 2, 32) := by kernel_rfl
theorem iCells_one {x : It} (h : x.2.oneCell' = true) : ∀ u ∈ iCells x, u.oneCell' = true := by intro u hu; simp only [iCells, List.mem_cons, List.not_mem_nil, or_false] at hu; rcases hu with rfl | rfl; rfl; exact h
theorem own_one {w : World} {B : Nat} {u : Value} {l : List Int} (h : Own w B u l) : u.oneCell' = true := by
  obtain ⟨A, c, rfl, _, _⟩ := Row.shape h
  rfl
def DidQ (w : World) (B g : Nat) (iv mv : Value) (its : List It) (r : Q × List Int × Int) (e : Ending) (w' : World) : Prop :=
  ∃ u iv' mv' I' its', e = res u r.2.2 ∧ Own w' w.heap.size u r.2.1 ∧ IsQ w' B g iv' mv' r.1 I' its' ∧ Kept w w' (footQ g iv mv its) ∧ (∀ k, footQ g iv' mv' its' k → footQ g iv mv its k ∨ w.heap.size ≤ k)
section
variable {w : World} {B g : Nat} {iv mv : Value} {q : Q} {I : List Int} {its : List It}
theorem drew_isQ (h : IsQ w B g iv mv q I its) : IsQ w.drew B g iv mv q I its := ⟨h.lo, h.blk, h.irow, h.mrow, h.sub, h.ap, h.eqw, h.mem, h.ins⟩
theorem DidQ.same {e : Ending} {w' : World} {x : Int} (h : IsQ w B g iv mv q I its) (he : e = res (.slice none 0 0) x) (hw : Below w.heap.size w w') : DidQ w B g iv mv its (q, [], x) e w' :=
  ⟨_, iv, mv, I, its, he, Own.nil _ _, h.below hw, Kept.of_below hw _, fun _ h => .inl h⟩
set_option maxHeartbeats 1000000 in
theorem rin_any (h : IsQ w B g iv mv q I its) (h4 : q.n ≤ 4) (hBw : B ≤ w.heap.size) (t : Int) :
    Calls Try.prog 34 #[.pointer (some ⟨g, 0, none⟩), .int .i64 t] w (DidQ w B g iv mv its (inQ q t)) := by
  by_cases ht : q.ok t
  · have HQ := Lib.hid (show inQ q t = (q.in_ t, [], 0) from if_pos ht)
    have Ht := Lib.hid ht
    have t0 := ht.1
    have t4 : t < 4 := by have := ht.2; omega
    have c1 := h.blk.cell 1 rfl
    have H := Lib.hid h
    have hI4 := len_is h.mem
    cases hh : hasL I t with
    | true =>
      have HK := Lib.hid (keep_is h.mem t0 t4 hh)
      have HH := Lib.hid hh
      clear ht h hh
      go_enter Try.func34, Try.ntmps34
      go_wp2_with fail
      refine (isThread_yes H.out _ Ht.out).mono ?_
      rintro e w1 ⟨rfl, rfl⟩
      go_wp2_with fail
      refine (has_any (Row.rd H.out.irow)).mono ?_
      rintro e w1 ⟨rfl, rfl⟩
      rw [HH.out]
      go_wp2
      go_ret2
      rw [HQ.out]
      exact ⟨_, iv, mv, I, its, rfl, Own.nil _ _, ⟨H.out.lo, H.out.blk, H.out.irow, H.out.mrow, H.out.sub, H.out.ap, H.out.eqw, H.out.mem, by rw [HK.out, H.out.ins]; rfl⟩, Kept.refl _ _, fun _ h => .inl h⟩
    | false =>
      have HP := Lib.hid (put_is' h.mem t0 t4 hh)
      have HH := Lib.hid hh
      clear ht h hh
      go_enter Try.func34, Try.ntmps34
      go_wp2_with fail
      refine (isThread_yes H.out _ Ht.out).mono ?_
      rintro e w1 ⟨rfl, rfl⟩
      go_wp2_with fail
      refine (has_any (Row.rd H.out.irow)).mono ?_
      rintro e w1 ⟨rfl, rfl⟩
      rw [HH.out]
      go_wp2_with (at_builtin; refine wpList_append_int rfl (.tmp 21) (.tmp 23) rfl Try.underlying28 info3 B iv I _ _ rfl H.out.irow rfl ?c1 hBw (by omega) ?_)
      case c1 => rfl
      intro v1 w2 ho2 hk2 hm2
      have hb2 := H.out.blk.keep hk2 (fun e => H.out.ne_i e)
      have e1 := hb2.cell 1 rfl
      have f1 := hb2.free 1
      obtain ⟨A1, cc1, hv1, _, _⟩ := Row.shape ho2
      rw [show (I ++ [t]).length = I.length + 1 by simp] at hv1
      subst hv1
      have HB2 := Lib.hid hb2
      have HO2 := Lib.hid ho2
      have HK2 := Lib.hid hk2
      have HM2 := Lib.hid hm2
      clear c1 hb2 ho2 hk2 hm2
      go_wp2
      go_ret2
      rw [HQ.out]
      have kk : Kept w2 (w2.setCell ⟨g, 1, none⟩ (.slice A1 (I.length + 1) cc1)) (fun i => i = g) := (Kept.refl w2 (fun i => i = g)).setCell (p := ⟨g, 1, none⟩) (.inl rfl) _
      have hmr := Row.keep H.out.mrow HK2.out (fun i hi e => H.out.ne_im e hi)
      have hsb : ∀ x ∈ its, Sub w2 B x := fun x hx => Row.keep (H.out.sub x hx) HK2.out (fun i hi e => H.out.ap x hx i hi e)
      refine ⟨_, (.slice A1 (I.length + 1) cc1), mv, I ++ [t], its, rfl, Own.nil _ _, ⟨H.out.lo, HB2.out.set 1 _, Row.keep HO2.out kk (fun i hi e => Row.ne_blk HO2.out HB2.out (by decide) (e ▸ hi)), Row.keep hmr kk (fun i hi e => H.out.ne_m (e ▸ hi)), fun x hx => Row.keep (hsb x hx) kk (fun i hi e => Row.ne_blk (hsb x hx) HB2.out (by decide) (e ▸ hi)), fun x hx i hi e => ?_, H.out.eqw, HP.out.1, by rw [HP.out.2, H.out.ins]; rfl⟩, ?_, fun k hk => ?_⟩
      · rcases HM2.out i e with e | e
        · exact H.out.ap x hx i hi e
        · have := (Row.at_lt (H.out.sub x hx) hi).2; omega
      · exact (HK2.out.mono (T := footQ g iv mv its) (fun i _ e => .inr (.inl e))).trans kk (fun i _ e => .inl e)
      · rcases hk with rfl | hk | hk | hk
        · exact .inl (.inl rfl)
        · exact (HM2.out k hk).imp (fun e => .inr (.inl e)) id
        · exact .inl (.inr (.inr (.inl hk)))
        · exact .inl (.inr (.inr (.inr hk)))
  · have Ht := Lib.hid ht
    have HQ := Lib.hid (show inQ q t = (q, [], 1) from if_neg ht)
    clear ht
    go_enter Try.func34, Try.ntmps34
    go_wp2_with (go_at_call 44; refine (isThread_no h _ Ht.out).mono ?_; rintro e w' ⟨rfl, rfl⟩)
    go_ret2
    rw [HQ.out]
    exact DidQ.same h rfl (Below.refl _ _)
theorem lefts_no {ws : List W} (h : ∀ x ∈ ws, x.2.no = false) : lefts ws = ws := by
  simp only [lefts]
  rw [List.filter_eq_self]
  intro x hx
  simp [h x hx]
theorem backs_no {ws : List W} (h : ∀ x ∈ ws, x.2.no = false) : backs ws = [] := by
  simp only [backs]
  rw [List.map_eq_nil_iff, List.filter_eq_nil_iff]
  intro x hx
  simp [h x hx]
theorem ret_none {q : Q} (h : ∀ x ∈ q.ws, x.2.no = false) (hn : q.ins.no = true) (a : Int) : q.ret a = q ∧ q.retBack a = [a] := by
  have e1 : lefts (q.ws ++ [(a, q.ins)]) = q.ws := by
    have := lefts_no h
    simp only [lefts, List.filter_append] at this ⊢
    rw [this]; simp [hn]
  have e2 : backs (q.ws ++ [(a, q.ins)]) = [a] := by
    have := backs_no h
    simp only [backs, List.filter_append, List.map_append] at this ⊢
    rw [this]; simp [hn]
  exact ⟨by simp only [Q.ret, e1], e2⟩
theorem ret_some {q : Q} (h : ∀ x ∈ q.ws, x.2.no = false) (hn : q.ins.no = false) (a : Int) : q.ret a = ⟨q.n, q.ins, q.ws ++ [(a, q.ins)]⟩ ∧ q.retBack a = [] := by
  have hw : ∀ x ∈ q.ws ++ [(a, q.ins)], x.2.no = false := fun x hx => by
    rcases List.mem_append.1 hx with hx | hx
    · exact h x hx
    · rw [List.mem_singleton.1 hx]; exact hn
  exact ⟨by simp only [Q.ret, lefts_no hw], backs_no hw⟩
theorem qitem_step {w1 w3 : World} {x : It} {o : Obj} {v3 : Value} (h : IsQ w1 B g iv mv q I its) (hs : Sub w1 B x) (hf : ∀ i, x.2.ownBlock = some i → iv.ownBlock ≠ some i) (hr : Row w3 B 69 2 v3 (its ++ [x]).length (flatI (its ++ [x]))) (hk : Kept (w1.alloc o) w3 (fun k => mv.ownBlock = some k))
    (hm : ∀ k, v3.ownBlock = some k → mv.ownBlock = some k ∨ (w1.alloc o).heap.size ≤ k) :
    IsQ (w3.setCell ⟨g, 2, none⟩ v3) B g iv v3 ⟨q.n, q.ins, q.ws ++ [x.1]⟩ I (its ++ [x]) ∧ Kept w1 (w3.setCell ⟨g, 2, none⟩ v3) (footQ g iv mv its) ∧ (∀ k, v3.ownBlock = some k → mv.ownBlock = some k ∨ w1.heap.size ≤ k) := by
  have bA : Below w1.heap.size w1 (w1.alloc o) := (Below.refl _ _).alloc (Nat.le_refl _) _
  have hA := h.below bA
  have hb : Blk w3 g 65 _ := hA.blk.keep hk (fun e => hA.ne_m e)
  have hi : Own w3 B iv I := Row.keep hA.irow hk (fun i hi e => hA.ne_im hi e)
  have kk : Kept w3 (w3.setCell ⟨g, 2, none⟩ v3) (fun i => i = g) := (Kept.refl w3 (fun i => i = g)).setCell (p := ⟨g, 2, none⟩) (.inl rfl) _
  have hsub : ∀ y ∈ its ++ [x], Sub w3 B y := fun y hy => by
    rcases List.mem_append.1 hy with hy | hy
    · exact Row.keep (hA.sub y hy) hk (fun i hi e => Row.ne_row (hA.sub y hy) hA.mrow (by decide) hi e)
    · rw [List.mem_singleton.1 hy]
      exact Row.keep (Row.below hs bA) hk (fun i hi e => Row.ne_row (Row.below hs bA) hA.mrow (by decide) hi e)
  refine ⟨⟨h.lo, hb.set 2 _, Row.keep hi kk (fun i hh e => Row.ne_blk hi hb (by decide) (e ▸ hh)), Row.keep hr kk (fun i hh e => Row.ne_blk hr hb (by decide) (e ▸ hh)), fun y hy => Row.keep (hsub y hy) kk (fun i hh e => Row.ne_blk (hsub y hy) hb (by decide) (e ▸ hh)), fun y hy i hh => ?_, by simp [h.eqw], h.mem, h.ins⟩, ?_, fun k hk' => ?_⟩
  · rcases List.mem_append.1 hy with hy | hy
    · exact h.ap y hy i hh
    · rw [List.mem_singleton.1 hy] at hh; exact hf i hh
  · exact (((Kept.refl w1 _).alloc o).trans hk (fun i _ hi => .inr (.inr (.inl hi)))).trans kk (fun i _ e => .inl e)
  · rcases hm k hk' with e | e
    · exact .inl e
    · refine .inr ?_
      simp at e
      omega
set_option maxHeartbeats 2000000 in
theorem rretire_any (h : IsQ w B g iv mv q I its) (hno : ∀ x ∈ q.ws, x.2.no = false) (hBw : B ≤ w.heap.size) (hl : its.length < 900000) (t a : Int) :
    Calls Try.prog 38 #[.pointer (some ⟨g, 0, none⟩), .int .i64 t, .int .i64 a] w (DidQ w B g iv mv its (retQ q t a)) := by
  by_cases ht : q.ok t ∧ 0 < a
  · have HT := Lib.hid ht.1
    have ha := ht.2
    have HQ := Lib.hid (show retQ q t a = if hasB (addrs q.ws) a = true then (q, [], 6) else (q.ret a, q.retBack a, 0) from if_pos ht)
    have H := Lib.hid h
    have HNO := Lib.hid hno
    have HE := Lib.hid (show adI its = addrs q.ws by rw [← h.eqw, addrs, List.map_map]; rfl)
    obtain ⟨A, c, rfl, hc1, hc2⟩ := Row.shape h.mrow
    obtain ⟨A1, c1, rfl, hc11, hc12⟩ := Row.shape h.irow
    have hc3 : c ≤ 9223372036854775807 := by simpa [maxLen] using hc2
    have hc13 : c1 ≤ 9223372036854775807 := by simpa [maxLen] using hc12
    have r2 := h.blk.cell 2 rfl
    have r1 := h.blk.cell 1 rfl
    have hI4 := len_is h.mem
    clear ht h hc2 hc12 hno
    go_enter Try.func38, Try.ntmps38
    go_wp2_with fail
    refine (isThread_yes H.out _ HT.out).mono ?_
    rintro e w1 ⟨rfl, rfl⟩
    go_wp2_with fail
    go_loop [8] (fun i => ∃ k : Nat, k ≤ its.length ∧ i = .int .i64 k ∧ Hid (hasB (adI (its.take k)) a = false)) (fun i => its.length - (intOf i).toNat)
    case atStart => exact ⟨0, Nat.zero_le _, rfl, rfl⟩
    case round =>
      obtain ⟨k, hk, rfl, hn⟩ := hrel
      by_cases hlt : k < its.length
      · obtain ⟨bb, off, rfl, hb, hcell⟩ := Rd.elem (Row.rd H.out.mrow) hlt
        have d0 := (hcell 0 (by decide)).trans (flatI_at its k hlt 0 (by decide))
        simp only [iCells, List.getElem?_cons_zero, Nat.add_zero] at d0
        have Hs := Lib.hid (show adI (its.take (k + 1)) = adI (its.take k) ++ [its[k].1.1] by rw [take_snoc hlt, adI, List.map_append]; rfl)
        clear hcell
        by_cases he : its[k].1.1 = a
        · have e1 : (its[k].1.1 == a) = true := beq_iff_eq.2 he
          have HD := Lib.hid (show hasB (addrs q.ws) a = true from (hasB_iff _ _).2 (by rw [← HE.out, ← he]; exact List.mem_map.2 ⟨_, List.getElem_mem hlt, rfl⟩))
          clear he
          go_wp2
          go_ret2
          rw [HQ.out, if_pos HD.out]
          exact DidQ.same H.out rfl (Below.refl _ _)
        · have e1 : (its[k].1.1 == a) = false := beq_eq_false_iff_ne.2 he
          have HN := Lib.hid (show hasB (adI (its.take (k + 1))) a = false by
            rw [Hs.out]
            simp only [hasB, List.any_append, List.any_cons, List.any_nil, Bool.or_false]
            have := hn.out
            simp only [hasB] at this
            rw [this, decide_eq_false (fun e => he e.symm)]; rfl)
          clear he
          go_wp2
          go_round
          case measure => simp [intOf]; omega
          case rel => exact ⟨k + 1, by omega, by go_num, HN.out⟩
      · have hkn : k = its.length := by omega
        have HD := Lib.hid (show hasB (addrs q.ws) a = false by have := hn.out; rw [hkn, List.take_length, HE.out] at this; exact this)
        clear hkn
        by_cases hz : I.length = 0
        · have hzb : ((I.length : Int) == 0) = true := by rw [beq_iff_eq]; omega
          have HR := Lib.hid (ret_none HNO.out (by rw [← H.out.ins]; exact (nil_is H.out.mem).1 (List.eq_nil_of_length_eq_zero hz)) a)
          clear hz
          go_wp2
          go_ret2
          rw [HQ.out, if_neg (by rw [HD.out]; decide), HR.out.1, HR.out.2]
          have bA : Below w.heap.size w (w.alloc (.cells #[.int .i64 a] 3)) := (Below.refl _ _).alloc (Nat.le_refl _) _
          refine ⟨_, _, _, I, its, rfl, ?_, H.out.below bA, Kept.of_below bA _, fun _ h => .inl h⟩
          exact ⟨rfl, .inr ⟨w.heap.size, 1, #[.int .i64 a], rfl, Nat.le_refl _, heap_alloc_new _ _, Nat.le_refl _, by simp [maxLen], rfl, rfl⟩⟩
        · have hzb : ((I.length : Int) == 0) = false := by rw [beq_eq_false_iff_ne]; omega
          have hpos : 0 < I.length := by omega
          have HR := Lib.hid (ret_some HNO.out (by
            cases hq : q.ins.no with
            | false => rfl
            | true =>
              rw [← H.out.ins] at hq
              have := (nil_is H.out.mem).2 hq
              rw [this] at hz
              exact absurd rfl hz) a)
          have HSo := Lib.hid (show sortL I = q.ins.list by rw [sort_is H.out.mem, H.out.ins])
          have hglt := H.out.blk.lt
          clear hz
          go_wp2_with fail
          go_region_law (first
            | (refine step_app rfl (.tmp 48) (.tmp 56) rfl Try.underlying63 info69 rfl (by decide) (by decide) B (.slice A its.length c) _ _ w1.heap.size (iCells ((a, q.ins), .slice Au q.ins.list.length cu)) (by simp [Act.eval, Act.put]) (by exact World.ownsRow.alloc H1.out.mrow _) (by simp [Act.eval, Act.put]) (by exact Blk.new w1 69 _) rfl (iCells_one (own_one HO1.out)) (by simp; omega) (by omega) ?_; intro v3 w3 hr3 hk3 hm3; have e2 := Blk.cell (Blk.keep (Blk.alloc H1.out.blk _) hk3 (fun e => H1.out.ne_m e)) 2 rfl; have g2 := Blk.free (Blk.keep (Blk.alloc H1.out.blk _) hk3 (fun e => H1.out.ne_m e)) 2; obtain ⟨A3, cc3, rfl, _, _⟩ := Row.shape hr3)
            | (go_simp; go_at_call 45; refine (rsort_any (w := w.drew) (Row.rd H.out.irow) hpos (by omega)).mono ?_; rintro e w1 ⟨u1, rfl, ho1, hb1⟩; rw [HSo.out] at ho1; obtain ⟨Au, cu, rfl, _, _⟩ := Row.shape ho1; have HO1 := Lib.hid ho1; have H1 := Lib.hid ((drew_isQ H.out).below hb1); have z2 := H1.out.blk.cell 2 rfl; have z1 := H1.out.blk.cell 1 rfl; have HB1 := Lib.hid hb1; have s1 : w.heap.size ≤ w1.heap.size := hb1.size; have gl1 := H1.out.blk.lt; clear ho1 hb1))
          all_goals
            have hr4 : Row w3 B 69 2 (.slice A3 (its.length + 1) cc3) (its ++ [(((a, q.ins), .slice Au q.ins.list.length cu) : It)]).length (flatI (its ++ [(((a, q.ins), .slice Au q.ins.list.length cu) : It)])) := by rw [flatI_app]; simpa [flatI] using hr3
            obtain ⟨i4, k4, m4⟩ := qitem_step H1.out (show Sub w1 B ((a, q.ins), .slice Au q.ins.list.length cu) from Row.mono HO1.out hBw) (fun i hi e => by
              have h8 := (Row.at_lt HO1.out hi).1
              have h9 := (Row.at_lt H.out.irow e).2
              exact absurd h9 (Nat.not_lt.2 h8)) hr4 hk3 hm3
            have I4 := Lib.hid i4
            have K4 := Lib.hid ((Kept.of_below (show Below w.heap.size w w1 from (Below.refl _ _).drew.trans HB1.out) (footQ g (.slice A1 I.length c1) (.slice A its.length c) its)).trans k4 (fun _ _ h => h))
            have M4 := Lib.hid m4
            clear hr3 hk3 hm3 hr4 i4 k4 m4 z1 z2 e2 g2
            go_wp2
            go_ret2
            rw [HQ.out, if_neg (by rw [HD.out]; decide), HR.out.1, HR.out.2]
            refine ⟨_, _, _, I, _, rfl, Own.nil _ _, I4.out, K4.out, fun k hk => ?_⟩
            rcases hk with rfl | hk | hk | ⟨y, hy, hk⟩
            · exact .inl (.inl rfl)
            · exact .inl (.inr (.inl hk))
            · exact (M4.out k hk).imp (fun e => .inr (.inr (.inl e))) (fun e => Nat.le_trans s1 e)
            · rcases List.mem_append.1 hy with hy | hy
              · exact .inl (.inr (.inr (.inr ⟨y, hy, hk⟩)))
              · rw [List.mem_singleton.1 hy] at hk
                exact .inr (Row.at_lt HO1.out hk).1
  · have HQ := Lib.hid (show retQ q t a = (q, [], 1) from if_neg ht)
    by_cases hk : q.ok t
    · have ha : ¬ 0 < a := fun h => ht ⟨hk, h⟩
      have Ht := Lib.hid hk
      clear ht hk
      go_enter Try.func38, Try.ntmps38
      go_wp2_with (go_at_call 44; refine (isThread_yes h _ Ht.out).mono ?_; rintro e w' ⟨rfl, rfl⟩)
      go_ret2
      rw [HQ.out]
      exact DidQ.same h rfl (Below.refl _ _)
    · have Ht := Lib.hid hk
      clear ht hk
      go_enter Try.func38, Try.ntmps38
      go_wp2_with (go_at_call 44; refine (isThread_no h _ Ht.out).mono ?_; rintro e w' ⟨rfl, rfl⟩)
      go_ret2
      rw [HQ.out]
      exact DidQ.same h rfl (Below.refl _ _)
end
end Go.Proofs.Ytdgkdfblgeobmaa
