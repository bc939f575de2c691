/-
  The document's manager of grace periods: the walks of Sort, Waiting, For, Hold, Born.
-/
import Derived.Test.YtdgkdfblgeobmaaRef1
import Derived.IntWalk
set_option linter.unusedVariables false
set_option linter.unusedSimpArgs false
namespace Go.Proofs.Ytdgkdfblgeobmaa
open Go.RowKit Mem Qm
set_option maxRecDepth 100000

theorem _root_.Go.RowKit.Below.drewN {B : Nat} {a w : World} (h : Below B a w) (n : Nat) : Below B a (w.drewN n) := ⟨h.os, h.tape, h.output, h.size, h.block⟩
theorem Row.set1 {w : World} {B n : Nat} {b c : Nat} {l : List Int} (h : Own w B (.slice (some ⟨b, 0, none⟩) n c) l) (hn : n = l.length) {k : Nat} (hk : k < l.length) (x : Int) :
    Own (w.setCell ⟨b, k, none⟩ (.int .i64 x)) B (.slice (some ⟨b, 0, none⟩) n c) (l.set k x) := by
  subst hn
  rcases h.2 with ⟨h1, _⟩ | ⟨g, cap, cur, hv, hb, hg, h1, h2, h3, h4⟩
  · cases h1
  · injection hv with hv1 hv2 hv3
    injection hv1 with hv1
    injection hv1 with hv1
    subst hv1
    refine ⟨by simp [ints], .inr ⟨b, c, cur.set! k (.int .i64 x), by simp, hb, ?_, by simp; omega, by omega, by simp [h3, hv3], ?_⟩⟩
    · exact heap_setCell_same w b k cur 3 _ hg
    · have : (cur.set! k (.int .i64 x)).toList = cur.toList.set k (.int .i64 x) := by simp
      rw [this, List.length_set, List.take_set, h4]
      simp [ints, List.map_set]
theorem own_cells {w : World} {B n b c : Nat} {l : List Int} (h : Own w B (.slice (some ⟨b, 0, none⟩) n c) l) (hn : n = l.length) {k : Nat} (hk : k < l.length) : w.cell? ⟨b, k, none⟩ = some (.int .i64 (nth l k)) := by
  subst hn
  obtain ⟨b', o, hA, _, hc⟩ := (Row.rd h).one hk
  rcases h.2 with ⟨h1, _⟩ | ⟨g, cap, cur, hv, hb, hg, h1, h2, h3, h4⟩
  · cases h1
  · injection hv with hv1 hv2 hv3
    injection hv1 with hv1
    injection hv1 with hv1
    subst hv1
    rw [cell_of_row w b k cur 3 _ hg]
    have e : (cur.toList.take (l.length * 1))[k]? = (ints l)[k]? := by rw [h4]
    rw [List.getElem?_take_of_lt (by omega), Qm.ints_at l k hk] at e
    rw [show nth l k = l[k] by simp [nth, List.getD, List.getElem?_eq_getElem hk], ← e]
    simp
theorem own_free {w : World} {B n b c : Nat} {l : List Int} (h : Own w B (.slice (some ⟨b, 0, none⟩) n c) l) (hn : n = l.length) (k : Nat) : w.frozen? ⟨b, k, none⟩ = false := by
  subst hn
  rcases h.2 with ⟨h1, _⟩ | ⟨g, cap, cur, hv, hb, hg, h1, h2, h3, h4⟩
  · cases h1
  · injection hv with hv1 hv2 hv3
    injection hv1 with hv1
    injection hv1 with hv1
    subst hv1
    exact frozen_of_row w b k cur 3 hg
set_option maxHeartbeats 1000000 in
theorem rsort_any {w : World} {v : Value} {l : List Int} (h : RdI w v l) (h0 : 0 < l.length) (hl : l.length < 1000000) :
    Calls Try.prog 45 #[v] w (Gives (sortL l) w) := by
  have H := Lib.hid h
  clear h
  go_enter Try.func45, Try.ntmps45
  go_wp2_with fail
  refine (rcopy_any H.out h0 hl).mono ?_
  rintro e w1 ⟨u, rfl, ho, hb⟩
  obtain ⟨b, c, hu, hBb, hbl, hc1, hc2, hcc⟩ := Row.form ho h0
  subst hu
  have hc3 : c ≤ 9223372036854775807 := by simpa [maxLen] using hc2
  have HO := Lib.hid ho
  have HB := Lib.hid hb
  have sb := hb.size
  clear ho hb hc2 hcc
  go_wp2_with fail
  go_loopw [4] (fun i wr => ∃ n : Nat, n + 1 ≤ l.length ∧ i = .int .i64 ((n : Int) + 1) ∧ Own wr w.heap.size (.slice (some ⟨b, 0, none⟩) l.length c) (srt l n) ∧ Below w.heap.size w wr) (fun i _ => l.length - (intOf i).toNat)
  case atStart => exact ⟨0, by omega, rfl, HO.out, HB.out⟩
  case round =>
    obtain ⟨n, hn, rfl, ho, hbel⟩ := hrel
    have hsz := hbel.size
    have HB1 := Lib.hid hbel
    have HO1 := Lib.hid ho
    clear hbel ho
    by_cases hlt : n + 1 < l.length
    · have hn1 : ((n : Int) + 1) < (l.length : Int) := by omega
      go_wp2_with fail
      go_loopw [5] (fun i wr => ∃ (k : Nat) (cur : List Int), k ≤ n + 1 ∧ i = .int .i64 (k : Int) ∧ Hid (cur.length = l.length) ∧ Own wr w.heap.size (.slice (some ⟨b, 0, none⟩) l.length c) cur ∧ Hid (sink cur k = srt l (n + 1)) ∧ Below w.heap.size w wr) (fun i _ => (intOf i).toNat)
      case atStart => exact ⟨n + 1, srt l n, Nat.le_refl _, by go_num, srt_length l n, HO1.out, rfl, HB1.out⟩
      case round =>
        obtain ⟨k, cur, hk, rfl, hcl, ho, hs, hbel⟩ := hrel
        have HB2 := Lib.hid hbel
        have HO2 := Lib.hid ho
        have hsz2 := hbel.size
        clear hbel ho
        by_cases hk0 : 0 < k
        · obtain ⟨j, rfl⟩ : ∃ j, k = j + 1 := ⟨k - 1, by omega⟩
          have hjl : j + 1 < l.length := by omega
          rw [show ((j + 1 : Nat) : Int) = (j : Int) + 1 by omega]
          have hsub : IntKind.i64.wrap ((j : Int) + 1 - 1) = (j : Int) := by rw [show (j : Int) + 1 - 1 = (j : Int) by omega]; exact IntWalk.i64_in _ (by omega)
          have c1 := own_cells HO2.out hcl.out.symm (show j + 1 < cur.length by rw [hcl.out]; omega)
          have c0 := own_cells HO2.out hcl.out.symm (show j < cur.length by rw [hcl.out]; omega)
          have f1 := own_free HO2.out hcl.out.symm (j + 1)
          have f0 := own_free HO2.out hcl.out.symm j
          have hbw := (Row.at_lt HO2.out rfl).2
          have Hs := Lib.hid (show sink cur (j + 1) = if nth cur (j + 1) < nth cur j then sink (swp cur j) j else cur from rfl)
          by_cases hx : nth cur (j + 1) < nth cur j
          · have HN := Lib.hid (show sink (swp cur j) j = srt l (n + 1) by rw [← hs.out, Hs.out, if_pos hx])
            have hd : decide (nth cur (j + 1) < nth cur j) = true := decide_eq_true hx
            go_wp2_with fail
            go_quiet (fail)
            go_wp2
            go_roundw
            case measure => simp [intOf] <;> omega
            case rel => 
              refine ⟨j, swp cur j, by omega, by go_num, (swp_length cur j).trans hcl.out, ?_, HN.out, ?_⟩
              · have e1 := Row.set1 (w := wr.drewN nq) HO2.out hcl.out.symm (show j + 1 < cur.length by rw [hcl.out]; omega) (nth cur j)
                exact Row.set1 e1 (by rw [List.length_set]; exact hcl.out.symm) (by rw [List.length_set, hcl.out]; omega) (nth cur (j + 1))
              · exact ((HB2.out.drewN _).setCell (by omega) _).setCell (by omega) _
          · have HN := Lib.hid (show cur = srt l (n + 1) by rw [← hs.out, Hs.out, if_neg hx])
            have hd : decide (nth cur (j + 1) < nth cur j) = false := decide_eq_false hx
            go_wp2_with fail
            go_quiet (fail)
            go_wp2
            go_roundw
            case measure => simp [intOf]; omega
            case rel => exact ⟨n + 1, by omega, by go_num, by rw [← HN.out]; exact HO2.out, HB2.out.drewN _⟩
        · have HN := Lib.hid (show cur = srt l (n + 1) by rw [← hs.out, show k = 0 by omega]; rfl)
          have hd : decide (0 < k) = false := decide_eq_false hk0
          go_wp2_with fail
          go_quiet (fail)
          go_wp2
          go_roundw
          case measure => simp [intOf]; omega
          case rel => exact ⟨n + 1, by omega, by go_num, by rw [← HN.out]; exact HO2.out, HB2.out.drewN _⟩
    · have hne : n = l.length - 1 := by omega
      have HS := Lib.hid (show srt l n = sortL l by rw [hne]; rfl)
      have hn1 : ¬ ((n : Int) + 1) < (l.length : Int) := by omega
      clear hne
      go_wp2
      go_ret
      have ho2 := HO1.out
      rw [HS.out] at ho2
      exact ⟨_, rfl, ho2, HB1.out⟩
def adI (L : List It) : List Int := L.map fun x => x.1.1
theorem rwaiting_any {w : World} {B g : Nat} {iv mv : Value} {q : Q} {I : List Int} {its : List It} (h : IsQ w B g iv mv q I its) (hl : its.length < 1000000) :
    Calls Try.prog 40 #[.pointer (some ⟨g, 0, none⟩)] w (Gives (addrs q.ws) w) := by
  obtain ⟨A, c, rfl, hc1, hc2⟩ := Row.shape h.mrow
  have hc3 : c ≤ 9223372036854775807 := by simpa [maxLen] using hc2
  have HE := Lib.hid (show ∀ (k : Nat) (hk : k < its.length), adI (its.take (k + 1)) = adI (its.take k) ++ [its[k].1.1] from fun k hk => by rw [take_snoc hk, adI, List.map_append]; rfl)
  have HQ := Lib.hid (show adI its = addrs q.ws by rw [← h.eqw, addrs, List.map_map]; rfl)
  have H := Lib.hid h
  clear hc2 h
  go_enter Try.func40, Try.ntmps40
  go_wp2
  go_loopw [3, 4] (fun u i wr => ∃ k : Nat, k ≤ its.length ∧ i = .int .i64 k ∧ Own wr w.heap.size u (adI (its.take k)) ∧ Below w.heap.size w wr) (fun _ i _ => its.length - (intOf i).toNat)
  case atStart => exact ⟨0, Nat.zero_le _, rfl, Own.nil _ _, Below.refl _ _⟩
  case round =>
    obtain ⟨k, hk, rfl, hown, hbel⟩ := hrel
    have hR := H.out.below hbel
    have c2 := hR.blk.cell 2 rfl
    have hsz := hbel.size
    by_cases hlt : k < its.length
    · obtain ⟨bb, off, rfl, hb, hcell⟩ := Rd.elem (Row.rd hR.mrow) hlt
      have d0 := (hcell 0 (by decide)).trans (flatI_at its k hlt 0 (by decide))
      simp only [iCells, List.getElem?_cons_zero, Nat.add_zero] at d0
      have Htk := Lib.hid (HE.out k hlt)
      have hlen : (adI (its.take k)).length < 1000000 := by simp [adI]; omega
      have HB := Lib.hid hbel
      clear hcell hR hbel
      go_wp2_with (at_builtin; refine wpList_append_int rfl (.tmp 17) (.tmp 26) rfl Try.underlying28 info3 w.heap.size u3 (adI (its.take k)) _ _ rfl hown rfl ?c1 hsz hlen ?_)
      case c1 => rfl
      intro v1 w1 ho1 hk1 hm1
      have HO := Lib.hid (show Own w1 w.heap.size v1 (adI (its.take (k + 1))) by rw [Htk.out]; exact ho1)
      have HK := Lib.hid (HB.out.trans (hk1.below hsz (fun i hi => (Row.at_lt hown hi).1)))
      clear ho1 hk1 hm1 hown
      go_wp2
      go_roundw
      case measure => simp [intOf]; omega
      case rel => exact ⟨k + 1, by omega, by go_num, HO.out, HK.out⟩
    · have hkn : k = its.length := by omega
      have Hkn := Lib.hid hkn
      clear hkn hR
      go_wp2
      go_ret
      exact ⟨u3, rfl, by rw [Hkn.out, List.take_length, HQ.out] at hown; exact hown, hbel⟩
/-- For whom an address waits: of the first that has it. -/
def firstOf (a : Int) : List It → List Int
  | [] => []
  | x :: t => if x.1.1 = a then x.1.2.list else firstOf a t
theorem firstOf_drop {its : List It} {k : Nat} (a : Int) (h : k < its.length) : firstOf a (its.drop k) = if its[k].1.1 = a then its[k].1.2.list else firstOf a (its.drop (k + 1)) := by
  rw [List.drop_eq_getElem_cons h]; rfl
set_option maxHeartbeats 400000 in
theorem rfor_any {w : World} {B g : Nat} {iv mv : Value} {q : Q} {I : List Int} {its : List It} (h : IsQ w B g iv mv q I its) (hno : ∀ x ∈ q.ws, x.2.no = false) (hl : its.length < 1000000) (a : Int) :
    Calls Try.prog 41 #[.pointer (some ⟨g, 0, none⟩), .int .i64 a] w (Gives (firstOf a its) w) := by
  obtain ⟨A, c, rfl, hc1, hc2⟩ := Row.shape h.mrow
  have hc3 : c ≤ 9223372036854775807 := by simpa [maxLen] using hc2
  have H := Lib.hid h
  have c2 := h.blk.cell 2 rfl
  have HNO := Lib.hid hno
  clear hc2 h hno
  go_enter Try.func41, Try.ntmps41
  go_wp2
  go_loop [5] (fun i => ∃ k : Nat, k ≤ its.length ∧ i = .int .i64 k ∧ Hid (firstOf a its = firstOf a (its.drop k))) (fun i => its.length - (intOf i).toNat)
  case atStart => exact ⟨0, Nat.zero_le _, rfl, rfl⟩
  case round =>
    obtain ⟨k, hk, rfl, hf⟩ := hrel
    by_cases hlt : k < its.length
    · obtain ⟨bb, off, rfl, hb, hcell⟩ := Rd.elem (Row.rd H.out.mrow) hlt
      have d0 := (hcell 0 (by decide)).trans (flatI_at its k hlt 0 (by decide))
      have d1 := (hcell 1 (by decide)).trans (flatI_at its k hlt 1 (by decide))
      simp only [iCells, List.getElem?_cons_zero, List.getElem?_cons_succ, Nat.add_zero] at d0 d1
      have Hd := Lib.hid (firstOf_drop a hlt)
      have hsub := H.out.sub _ (List.getElem_mem hlt)
      have hne := HNO.out its[k].1 (by rw [← H.out.eqw]; exact List.mem_map.2 ⟨_, List.getElem_mem hlt, rfl⟩)
      obtain ⟨x, hx⟩ : ∃ x, its[k] = x := ⟨_, rfl⟩
      rw [hx] at d0 d1 Hd hsub hne
      have HS := Lib.hid hsub
      have hpos : 0 < x.1.2.list.length := by
        rcases Nat.eq_zero_or_pos x.1.2.list.length with e | e
        · rw [(list_nil x.1.2).1 e] at hne; cases hne
        · exact e
      have hle := list_le x.1.2
      clear hcell hx hsub hne
      by_cases he : x.1.1 = a
      · have e1 : (x.1.1 == a) = true := beq_iff_eq.2 he
        have HF := Lib.hid (show firstOf a its = x.1.2.list by rw [hf.out, Hd.out, if_pos he])
        clear he
        go_wp2_with fail
        refine (rcopy_any (Row.rd HS.out) hpos (by omega)).mono ?_
        rintro e w1 ⟨u, rfl, ho, hb⟩
        rw [← HF.out] at ho
        have HO := Lib.hid ho
        have HB := Lib.hid hb
        clear ho hb
        go_wp2
        go_ret
        exact ⟨u, rfl, HO.out, HB.out⟩
      · have e1 : (x.1.1 == a) = false := beq_eq_false_iff_ne.2 he
        have HF := Lib.hid (show firstOf a its = firstOf a (its.drop (k + 1)) by rw [hf.out, Hd.out, if_neg he])
        clear he
        go_wp2
        go_round
        case measure => simp [intOf]; omega
        case rel => exact ⟨k + 1, by omega, by go_num, HF.out⟩
    · have hkn : k = its.length := by omega
      have HF := Lib.hid (show firstOf a its = [] by rw [hf.out, hkn, List.drop_length]; rfl)
      clear hkn
      go_wp2
      go_ret
      exact ⟨_, rfl, by rw [HF.out]; exact Own.nil _ _, Below.refl _ _⟩
theorem firstOf_for {a : Int} : ∀ {its : List It}, ((its.map (·.1)).map (·.1)).Nodup → firstOf a its = forOf a (its.map (·.1))
  | [], _ => rfl
  | x :: t, h => by
    simp only [List.map_cons, List.nodup_cons] at h
    have ih := firstOf_for (a := a) h.2
    simp only [firstOf, forOf, List.map_cons, List.flatMap_cons]
    split
    · rename_i e
      have : forOf a (t.map (·.1)) = [] := by
        simp only [forOf, List.flatMap_eq_nil_iff]
        intro y hy
        rw [if_neg]
        intro e2
        exact h.1 (by rw [e, ← e2]; exact List.mem_map.2 ⟨y, hy, rfl⟩)
      simp only [forOf] at this
      rw [this, List.append_nil]
    · rw [ih, List.nil_append]; rfl
theorem rhold_any {w : World} {B g : Nat} {iv mv : Value} {q : Q} {I : List Int} {its : List It} (h : IsQ w B g iv mv q I its) (t k a : Int) :
    Calls Try.prog 36 #[.pointer (some ⟨g, 0, none⟩), .int .i64 t, .int .i64 k, .int .i64 a] w fun e w' => e = res (.slice none 0 0) (holdQ q t k a).2.2 ∧ w = w' := by
  by_cases ht : q.ok t
  · have Ht := Lib.hid ht
    by_cases hb : 0 ≤ k ∧ k < 3 ∧ 0 ≤ a
    · have HQ := Lib.hid (show (holdQ q t k a).2.2 = 0 by unfold holdQ; rw [if_pos ⟨ht, hb⟩])
      obtain ⟨h0, h1, h2⟩ := hb
      clear ht
      go_enter Try.func36, Try.ntmps36
      go_wp2_with (go_at_call 44; refine (isThread_yes h _ Ht.out).mono ?_; rintro e w' ⟨rfl, rfl⟩)
      go_ret2
      exact ⟨by rw [HQ.out]; rfl, rfl⟩
    · have HQ := Lib.hid (show (holdQ q t k a).2.2 = 1 by unfold holdQ; rw [if_neg (fun x => hb x.2)])
      clear ht
      by_cases h0 : 0 ≤ k
      · by_cases h1 : k < 3
        · have h2 : ¬ 0 ≤ a := fun h2 => hb ⟨h0, h1, h2⟩
          clear hb
          go_enter Try.func36, Try.ntmps36
          go_wp2_with (go_at_call 44; refine (isThread_yes h _ Ht.out).mono ?_; rintro e w' ⟨rfl, rfl⟩)
          go_ret2
          exact ⟨by rw [HQ.out]; rfl, rfl⟩
        · clear hb
          go_enter Try.func36, Try.ntmps36
          go_wp2_with (go_at_call 44; refine (isThread_yes h _ Ht.out).mono ?_; rintro e w' ⟨rfl, rfl⟩)
          go_ret2
          exact ⟨by rw [HQ.out]; rfl, rfl⟩
      · clear hb
        go_enter Try.func36, Try.ntmps36
        go_wp2_with (go_at_call 44; refine (isThread_yes h _ Ht.out).mono ?_; rintro e w' ⟨rfl, rfl⟩)
        go_ret2
        exact ⟨by rw [HQ.out]; rfl, rfl⟩
  · have Ht := Lib.hid ht
    have HQ := Lib.hid (show (holdQ q t k a).2.2 = 1 by unfold holdQ; rw [if_neg (fun x => ht x.1)])
    clear ht
    go_enter Try.func36, Try.ntmps36
    go_wp2_with (go_at_call 44; refine (isThread_no h _ Ht.out).mono ?_; rintro e w' ⟨rfl, rfl⟩)
    go_ret2
    exact ⟨by rw [HQ.out]; rfl, rfl⟩
theorem rborn_any {w : World} {B g : Nat} {iv mv : Value} {q : Q} {I : List Int} {its : List It} (h : IsQ w B g iv mv q I its) (hn : 1 ≤ q.n) (a : Int) :
    Calls Try.prog 37 #[.pointer (some ⟨g, 0, none⟩), .int .i64 a] w (ErrIs w (bornQ q a).2.2) := by
  have hok : q.ok 0 := ⟨Int.le_refl 0, by omega⟩
  have r0 := h.blk.cell 0 rfl
  have hn0 : (q.n == 0) = false := by rw [beq_eq_false_iff_ne]; omega
  by_cases ha : 0 < a
  · have HQ := Lib.hid (show (bornQ q a).2.2 = 0 by unfold bornQ; rw [if_pos ⟨hok, ha⟩])
    clear hok
    go_enter Try.func37, Try.ntmps37
    go_wp2
    go_ret
    exact ⟨by rw [HQ.out]; rfl, rfl⟩
  · have HQ := Lib.hid (show (bornQ q a).2.2 = 1 by unfold bornQ; rw [if_neg (fun x => ha x.2)])
    clear hok
    go_enter Try.func37, Try.ntmps37
    go_wp2
    go_ret
    exact ⟨by rw [HQ.out]; rfl, rfl⟩
end Go.Proofs.Ytdgkdfblgeobmaa
