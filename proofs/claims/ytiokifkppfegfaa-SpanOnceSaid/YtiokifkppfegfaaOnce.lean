/-
  What is given back was retired, and once for each time, by the deeds alone: the plain part, and the walk of the law.
-/
import Derived.Test.YtiokifkppfegfaaLaws0
set_option linter.unusedVariables false
set_option linter.unusedSimpArgs false
namespace Go.Proofs.Ytiokifkppfegfaa
open Go.RowKit Mem Qm
set_option maxRecDepth 100000

theorem hasL_iff (l : List Int) (x : Int) : hasL l x = true ↔ x ∈ l := by
  simp only [hasL, List.any_eq_true, decide_eq_true_eq]
  exact ⟨fun ⟨y, hy, e⟩ => e ▸ hy, fun h => ⟨x, h, rfl⟩⟩
/-- A list without the first k of some. -/
def lessOf (l b : List Int) (k : Nat) : List Int := l.filter fun x => decide (x ∉ b.take k)
theorem lessOf_zero (l b : List Int) : lessOf l b 0 = l := by simp [lessOf]
theorem lessOf_succ (l : List Int) {b : List Int} {k : Nat} (h : k < b.length) : lessOf l b (k + 1) = without (lessOf l b k) b[k] := by
  simp only [lessOf, without, List.filter_filter, take_snoc h]
  apply List.filter_congr
  intro x _
  simp only [List.mem_append, List.mem_singleton, not_or]
  by_cases h1 : x ∈ b.take k <;> by_cases h2 : x = b[k] <;> simp [h1, h2]
/-- What is swept is there when its turn comes. -/
theorem lessOf_has {l b : List Int} (hs : ∀ x ∈ b, x ∈ l) (hnd : b.Nodup) {k : Nat} (h : k < b.length) : hasL (lessOf l b k) b[k] = true := by
  rw [hasL_iff]
  refine List.mem_filter.2 ⟨hs _ (List.getElem_mem h), ?_⟩
  rw [decide_eq_true_eq]
  intro hm
  obtain ⟨i, hi, he⟩ := List.mem_iff_getElem.1 hm
  rw [List.getElem_take] at he
  have hi' := hi
  rw [List.length_take] at hi'
  exact List.pairwise_iff_getElem.1 hnd i k (by omega) h (by omega) he
theorem sub_addrs {m : Life → Bool} {t : List Life} : ∀ y ∈ addrs (t.filter m), y ∈ addrs t := fun y hy => by
  obtain ⟨z, hz, he⟩ := List.mem_map.1 hy
  exact List.mem_map.2 ⟨z, (List.mem_filter.1 hz).1, he⟩
theorem lessOf_all (m : Life → Bool) {ws : List Life} (hn : (addrs ws).Nodup) : lessOf (addrs ws) (addrs (ws.filter fun x => !m x)) (addrs (ws.filter fun x => !m x)).length = addrs (ws.filter m) := by
  simp only [lessOf, List.take_length]
  induction ws with
  | nil => rfl
  | cons x t ih =>
    simp only [addrs, List.map_cons, List.nodup_cons] at hn
    have ih' := ih hn.2
    have hx : ∀ y ∈ addrs t, y ≠ x.a := fun y hy e => hn.1 (by rw [← e]; exact hy)
    cases hno : m x with
    | false =>
      have e1 : addrs ((x :: t).filter fun x => !m x) = x.a :: addrs (t.filter fun x => !m x) := by simp [addrs, hno]
      have e2 : addrs ((x :: t).filter m) = addrs (t.filter m) := by simp [addrs, hno]
      rw [e1, e2, ← ih', show addrs (x :: t) = x.a :: addrs t from rfl, List.filter_cons, if_neg (by simp)]
      apply List.filter_congr
      intro y hy
      have := hx y hy
      simp [this]
    | true =>
      have e1 : addrs ((x :: t).filter fun x => !m x) = addrs (t.filter fun x => !m x) := by simp [addrs, hno]
      have e2 : addrs ((x :: t).filter m) = x.a :: addrs (t.filter m) := by simp [addrs, hno]
      rw [e1, e2, show addrs (x :: t) = x.a :: addrs t from rfl, List.filter_cons, if_pos (show decide (x.a ∉ addrs (t.filter fun x => !m x)) = true from decide_eq_true (fun h => hn.1 (sub_addrs _ h))), ih']
/-- What is given back by a deed; what waits when it is done, its own address with it. -/
def bk (q : Q) (d : Deed) : List Int := (stepQ q d).2.1
def pend (q : Q) (d : Deed) : List Int := if d.what = 4 ∧ (stepQ q d).2.2 = 0 then addrs q.ws ++ [d.ad] else addrs q.ws
def Split (q : Q) (d : Deed) : Prop := ∃ (m : Life → Bool) (ws : List Life), bk q d = addrs (ws.filter fun x => !m x) ∧ (stepQ q d).1.ws = ws.filter m ∧ addrs ws = pend q d ∧ (addrs ws).Nodup
theorem split_stay {q : Q} (h : Inv q) {d : Deed} (h1 : (stepQ q d).2.1 = []) (h2 : (stepQ q d).1.ws = q.ws) (h3 : ¬ (d.what = 4 ∧ (stepQ q d).2.2 = 0)) : Split q d :=
  ⟨fun _ => true, q.ws, by simp [bk, h1, addrs], by rw [h2]; exact (List.filter_eq_self.2 (fun _ _ => rfl)).symm, by rw [pend, if_neg h3], h.nd⟩
theorem split_swept {q q1 : Q} (h : Inv q1) {d : Deed} (h1 : (stepQ q d).2.1 = backs q1 q1.ws) (h2 : (stepQ q d).1.ws = lefts q1 q1.ws) (h3 : addrs q1.ws = pend q d) : Split q d :=
  ⟨q1.met, q1.ws, h1, h2, h3, h.nd⟩
theorem step_split {q : Q} (h : Inv q) (d : Deed) : Split q d := by
  by_cases e1 : d.what = 1
  · have es : stepQ q d = outQ q d.th := by simp [stepQ, e1]
    have e4 : ¬ (d.what = 4 ∧ (stepQ q d).2.2 = 0) := fun x => by omega
    by_cases ht : q.ok d.th
    · have eo : outQ q d.th = (q.out d.th, q.outBack d.th, 0) := if_pos ht
      exact split_swept (q1 := q.put d.th Sn.none) (inv_put h ht _) (by rw [es, eo]; rfl) (by rw [es, eo]; rfl) (by rw [pend, if_neg e4]; rfl)
    · have eo : outQ q d.th = (q, [], 1) := if_neg ht
      exact split_stay h (by rw [es, eo]) (by rw [es, eo]) e4
  by_cases e4 : d.what = 4
  · have es : stepQ q d = retQ q d.th d.ad := by simp [stepQ, e4]
    by_cases ht : q.ok d.th ∧ 0 < d.ad
    · cases hd : hasB (addrs q.ws) d.ad with
      | true =>
        have eo : retQ q d.th d.ad = (q, [], 6) := by unfold retQ; rw [if_pos ht, if_pos hd]
        exact split_stay h (by rw [es, eo]) (by rw [es, eo]) (by rw [es, eo]; simp)
      | false =>
        have eo : retQ q d.th d.ad = ((q.add d.ad).swept, backs (q.add d.ad) (q.add d.ad).ws, 0) := by unfold retQ; rw [if_pos ht, if_neg (by simp [hd])]
        exact split_swept (q1 := q.add d.ad) (inv_add h ht.2 hd) (by rw [es, eo]) (by rw [es, eo]; rfl) (by rw [pend, if_pos ⟨e4, by rw [es, eo]⟩]; simp [Q.add, addrs])
    · have eo : retQ q d.th d.ad = (q, [], 1) := by unfold retQ; rw [if_neg ht]
      exact split_stay h (by rw [es, eo]) (by rw [es, eo]) (by rw [es, eo]; simp)
  have e4' : ¬ (d.what = 4 ∧ (stepQ q d).2.2 = 0) := fun x => e4 x.1
  by_cases e5 : d.what = 5
  · have es : stepQ q d = restQ q := by simp [stepQ, e5]
    by_cases ht : q.ok 0
    · have eo : restQ q = (q.swept, backs q q.ws, 0) := if_pos ht
      exact split_swept (q1 := q) h (by rw [es, eo]) (by rw [es, eo]; rfl) (by rw [pend, if_neg e4'])
    · have eo : restQ q = (q, [], 0) := if_neg ht
      exact split_stay h (by rw [es, eo]) (by rw [es, eo]) e4'
  refine split_stay h ?_ ?_ e4'
  · unfold stepQ inQ holdQ bornQ
    repeat' split
    all_goals first | rfl | contradiction
  · unfold stepQ inQ holdQ bornQ Q.hold
    repeat' split
    all_goals first | rfl | contradiction
theorem step_pend {q : Q} (h : Inv q) (d : Deed) : (∀ (k : Nat) (hk : k < (bk q d).length), hasL (lessOf (pend q d) (bk q d) k) (bk q d)[k] = true) ∧ lessOf (pend q d) (bk q d) (bk q d).length = addrs (stepQ q d).1.ws := by
  obtain ⟨m, ws, h1, h2, h3, h4⟩ := step_split h d
  rw [h1, h2, ← h3]
  exact ⟨fun k hk => lessOf_has sub_addrs (addrs_filter_nodup _ h4) hk, lessOf_all m h4⟩
/-! The walk -/
set_option maxHeartbeats 2000000 in
theorem once_walk {w : World} {n : Int} {u : Value} {ds : List Deed} (hd : RdD w u ds) :
    Calls Try.prog 6 #[.int .i64 n, u] w (Tells w true) := by
  obtain ⟨A, c, rfl, hc1, hc2⟩ := hd.shape
  have Hd := Lib.hid hd
  clear hd
  by_cases hl : ds.length ≤ 200
  · by_cases hn : 1 ≤ n ∧ n ≤ 4
    · obtain ⟨n0, n4⟩ := hn
      go_enter Try.func6, Try.ntmps6
      go_wp2_with fail
      refine (new_yes n0 n4).mono ?_
      rintro e w1 ⟨rfl, h1, b1⟩
      go_wp2_with fail
      go_loopw [7, 8] (fun uw i wr => ∃ (k : Nat) (v : Value) (q : Q), k ≤ ds.length ∧ i = .int .i64 k ∧ IsS wr w.heap.size (w.heap.size + 1) w.heap.size v q ∧ Hid (q.n = n) ∧ Inv q ∧ Hid (Good q k) ∧ Own wr w.heap.size uw (addrs q.ws) ∧ Below w.heap.size w wr) (fun _ i _ => ds.length - (intOf i).toNat)
      case atStart => exact ⟨0, _, q0 n, Nat.zero_le _, rfl, h1, rfl, inv_q0 n4, good_q0 n4, Own.nil _ _, b1⟩
      case round =>
        clear h1 b1
        obtain ⟨k, v, q, hk, rfl, h, hqn, hinv, hql, huw, hbel⟩ := hrel
        by_cases hlt : k < ds.length
        · obtain ⟨b, off, rfl, hb, d0, d1, d2, d3⟩ := RdD.at_ (Hd.out.below hbel) hlt
          have hsz := hbel.size
          have HB := Lib.hid hbel
          have HV := Lib.hid hinv
          have hqw := hql.out.len
          have HGS := Lib.hid (good_step hql.out (Hd.out.wf_at hlt))
          obtain ⟨hp1, hp2⟩ := step_pend hinv ds[k]
          have HP1 := Lib.hid hp1
          have HP2 := Lib.hid hp2
          have HPL := Lib.hid (show (pend q ds[k]).length < 900000 by
            unfold pend
            split <;> simp [addrs] <;> omega)
          clear hbel hinv hp1 hp2
          go_wp2_with fail
          refine (done_did h hql.out (by omega) hsz ds[k] (Hd.out.wf_at hlt)).mono ?_
          rintro e w2 ⟨ub, v', rfl, ob, hi, hk2, hm2⟩
          have ob : Own w2 wr.heap.size ub (bk q ds[k]) := ob
          have HUWLT := Lib.hid (show ∀ i, u7.ownBlock = some i → i < wr.heap.size from fun i hi => (Row.at_lt huw hi).2)
          have hB2 := HB.out.trans (hk2.below hsz h.foot_lo)
          have huw2 := Own.keep huw h hk2
          obtain ⟨b', off', hA', hb', d0', d1', d2', d3'⟩ := RdD.at_ (Hd.out.below hB2) hlt
          injection hA' with hA'
          injection hA' with e1 e2
          subst e1 e2
          have s2 := hB2.size
          clear h huw d0 d1 d2 d3 d1' d2' hk2 hm2
          by_cases h4 : ds[k].what = 4
          · have b4 : (ds[k].what == 4) = true := beq_iff_eq.2 h4
            by_cases he : (stepQ q ds[k]).2.2 = 0
            · have be : ((stepQ q ds[k]).2.2 == 0) = true := beq_iff_eq.2 he
              have Hadd : pend q ds[k] = addrs q.ws ++ [ds[k].ad] := if_pos ⟨h4, he⟩
              have HADD := Lib.hid Hadd
              have hBH := Lib.hid hB2
              have hOB := Lib.hid ob
              have hHI := Lib.hid hi
              have hql2 : (addrs q.ws).length < 1000000 := by simp [addrs]; omega
              clear h4 he Hadd hB2 ob hi
              go_wp2_with (at_builtin; refine wpList_append_int rfl (.tmp 50) (.tmp 56) rfl Try.underlying32 info3 w.heap.size u7 (addrs q.ws) _ _ rfl huw2 rfl ?c1 s2 hql2 ?_)
              case c1 => rfl
              intro uw3 w3 ho3 hk3 hm3
              have hB3 : Below w.heap.size w w3 := hBH.out.trans (hk3.below s2 (fun i hi => (Row.at_lt huw2 hi).1))
              have hI3 : IsS w3 w.heap.size (w.heap.size + 1) w.heap.size v' (stepQ q ds[k]).1 := hHI.out.keep hk3 (fun i hf hs => hHI.out.apart huw2 i hs hf)
              have hW3 : Own w3 w.heap.size uw3 (pend q ds[k]) := by rw [HADD.out]; exact ho3
              have hob : Own w3 wr.heap.size ub (bk q ds[k]) := Row.keep hOB.out hk3 (fun i hi hs => by
                have h1 := (Row.at_lt hOB.out hi).1
                have h2 := (Row.at_lt huw2 hs)
                exact absurd h1 (by have := HUWLT.out i hs; omega))
              clear huw2 ho3 hk3 hm3 d0' d3'
              have hb3 := Lib.hid hB3
              have s3 := hB3.size
              obtain ⟨A9, c9, rfl, hc91, hc92⟩ := Row.shape hob
              have hc93 : c9 ≤ 9223372036854775807 := by simpa [maxLen] using hc92
              have Hob := Lib.hid (Row.rd hob)
              have HOB := Lib.hid hob
              clear hc92 hob hB3
              obtain ⟨wx, hwx⟩ : ∃ wx : World, wx = w3 := ⟨_, rfl⟩
              have HWX := Lib.hid hwx
              try rw [← hwx] at d0'
              rw [← hwx] at hb3 Hob hI3 hW3 s3 HOB ⊢
              have HI3 := Lib.hid hI3
              clear hwx hI3
              go_wp2_with fail
              go_loopw [7, 11] (fun u i wr1 => ∃ j : Nat, j ≤ (bk q ds[k]).length ∧ i = .int .i64 j ∧ Own wr1 w.heap.size u (lessOf (pend q ds[k]) (bk q ds[k]) j) ∧ Below wx.heap.size wx wr1) (fun _ i _ => (bk q ds[k]).length - (intOf i).toNat)
              case atStart => exact ⟨0, Nat.zero_le _, rfl, by rw [lessOf_zero]; exact hW3, Below.refl _ _⟩
              case round =>
                obtain ⟨j, hj, rfl, hw, hbx⟩ := hrel
                have HBX := Lib.hid hbx
                have HW := Lib.hid hw
                have sx := hbx.size
                have hlen := Lib.hid (show (lessOf (pend q ds[k]) (bk q ds[k]) j).length < 1000000 by
                  have := List.length_filter_le (fun x => decide (x ∉ (bk q ds[k]).take j)) (pend q ds[k])
                  have := HPL.out
                  simp only [lessOf]; omega)
                clear hbx hw
                by_cases hjl : j < (bk q ds[k]).length
                · obtain ⟨b9, o9, rfl, hb9, hc9⟩ := (Hob.out.below HBX.out).one hjl
                  have dj := hc9.trans (Qm.ints_at _ j hjl)
                  clear hc9
                  have Hhas := Lib.hid (HP1.out _ hjl)
                  have Hsu := Lib.hid (lessOf_succ (pend q ds[k]) hjl)
                  go_wp2_with fail
                  refine (has_any (Row.rd HW.out)).mono ?_
                  rintro e w4 ⟨rfl, rfl⟩
                  rw [Hhas.out]
                  go_wp2_with fail
                  refine (without_any (Row.rd HW.out) hlen.out).mono ?_
                  rintro e w5 ⟨u5, rfl, o5, b5⟩
                  rw [← Hsu.out] at o5
                  have H5 := Lib.hid o5
                  have B5 := Lib.hid b5
                  clear o5 b5 dj
                  go_wp2
                  go_roundw
                  case measure => simp [intOf]; omega
                  case rel => exact ⟨j + 1, by omega, by go_num, Row.mono H5.out (by have := hb3.out.size; omega), HBX.out.trans (B5.out.mono sx)⟩
                · have hje : j = (bk q ds[k]).length := by omega
                  have HW2 := HW.out
                  rw [hje, HP2.out] at HW2
                  have HW3 := Lib.hid HW2
                  have hI4 := Lib.hid (HI3.out.below HBX.out)
                  have hok := Lib.hid (show (stepQ q ds[k]).1.ok 0 from ⟨Int.le_refl 0, by rw [step_n, hqn.out]; omega⟩)
                  have HJE := Lib.hid hje
                  clear HW2 hje
                  go_wp2_with fail
                  refine (waiting_yes hI4.out hok.out (by have := HGS.out.len; omega)).mono ?_
                  rintro e w6 ⟨u6, rfl, o6, b6⟩
                  go_wp2_with fail
                  refine (ints_any (Row.rd o6) (Row.rd (Row.below HW3.out b6))).mono ?_
                  rintro e w7 ⟨rfl, b7⟩
                  rw [show decide (addrs (stepQ q ds[k]).1.ws = addrs (stepQ q ds[k]).1.ws) = true from decide_eq_true rfl]
                  have bw7 := Lib.hid (b6.trans (b7.mono b6.size))
                  have Bend := Lib.hid ((hb3.out.trans (HBX.out.mono s3)).trans (bw7.out.mono (by have := HBX.out.size; omega)))
                  have HI7 := Lib.hid (hI4.out.below bw7.out)
                  have HW7 := Lib.hid (Row.below HW3.out bw7.out)
                  clear b6 b7 o6
                  go_wp2
                  go_roundw
                  case measure => simp [intOf]; omega
                  case rel => exact ⟨k + 1, v', _, by omega, by go_num, HI7.out, by show (stepQ q ds[k]).1.n = n; rw [step_n]; exact hqn.out, inv_step HV.out ds[k], HGS.out, HW7.out, Bend.out⟩
            · have be : ((stepQ q ds[k]).2.2 == 0) = false := beq_eq_false_iff_ne.2 he
              have Hsame : pend q ds[k] = addrs q.ws := if_neg (fun x => he x.2)
              have hB3 := hB2
              have hI3 := hi
              have hW3 : Own w2 w.heap.size u7 (pend q ds[k]) := by rw [Hsame]; exact huw2
              have hob := ob
              clear he Hsame hB2 ob hi huw2
              have hb3 := Lib.hid hB3
              have s3 := hB3.size
              obtain ⟨A9, c9, rfl, hc91, hc92⟩ := Row.shape hob
              have hc93 : c9 ≤ 9223372036854775807 := by simpa [maxLen] using hc92
              have Hob := Lib.hid (Row.rd hob)
              have HOB := Lib.hid hob
              clear hc92 hob hB3
              obtain ⟨wx, hwx⟩ : ∃ wx : World, wx = w2 := ⟨_, rfl⟩
              have HWX := Lib.hid hwx
              try rw [← hwx] at d0'
              rw [← hwx] at hb3 Hob hI3 hW3 s3 HOB ⊢
              have HI3 := Lib.hid hI3
              clear hwx hI3
              go_wp2_with fail
              go_loopw [7, 11] (fun u i wr1 => ∃ j : Nat, j ≤ (bk q ds[k]).length ∧ i = .int .i64 j ∧ Own wr1 w.heap.size u (lessOf (pend q ds[k]) (bk q ds[k]) j) ∧ Below wx.heap.size wx wr1) (fun _ i _ => (bk q ds[k]).length - (intOf i).toNat)
              case atStart => exact ⟨0, Nat.zero_le _, rfl, by rw [lessOf_zero]; exact hW3, Below.refl _ _⟩
              case round =>
                obtain ⟨j, hj, rfl, hw, hbx⟩ := hrel
                have HBX := Lib.hid hbx
                have HW := Lib.hid hw
                have sx := hbx.size
                have hlen := Lib.hid (show (lessOf (pend q ds[k]) (bk q ds[k]) j).length < 1000000 by
                  have := List.length_filter_le (fun x => decide (x ∉ (bk q ds[k]).take j)) (pend q ds[k])
                  have := HPL.out
                  simp only [lessOf]; omega)
                clear hbx hw
                by_cases hjl : j < (bk q ds[k]).length
                · obtain ⟨b9, o9, rfl, hb9, hc9⟩ := (Hob.out.below HBX.out).one hjl
                  have dj := hc9.trans (Qm.ints_at _ j hjl)
                  clear hc9
                  have Hhas := Lib.hid (HP1.out _ hjl)
                  have Hsu := Lib.hid (lessOf_succ (pend q ds[k]) hjl)
                  go_wp2_with fail
                  refine (has_any (Row.rd HW.out)).mono ?_
                  rintro e w4 ⟨rfl, rfl⟩
                  rw [Hhas.out]
                  go_wp2_with fail
                  refine (without_any (Row.rd HW.out) hlen.out).mono ?_
                  rintro e w5 ⟨u5, rfl, o5, b5⟩
                  rw [← Hsu.out] at o5
                  have H5 := Lib.hid o5
                  have B5 := Lib.hid b5
                  clear o5 b5 dj
                  go_wp2
                  go_roundw
                  case measure => simp [intOf]; omega
                  case rel => exact ⟨j + 1, by omega, by go_num, Row.mono H5.out (by have := hb3.out.size; omega), HBX.out.trans (B5.out.mono sx)⟩
                · have hje : j = (bk q ds[k]).length := by omega
                  have HW2 := HW.out
                  rw [hje, HP2.out] at HW2
                  have HW3 := Lib.hid HW2
                  have hI4 := Lib.hid (HI3.out.below HBX.out)
                  have hok := Lib.hid (show (stepQ q ds[k]).1.ok 0 from ⟨Int.le_refl 0, by rw [step_n, hqn.out]; omega⟩)
                  have HJE := Lib.hid hje
                  clear HW2 hje
                  go_wp2_with fail
                  refine (waiting_yes hI4.out hok.out (by have := HGS.out.len; omega)).mono ?_
                  rintro e w6 ⟨u6, rfl, o6, b6⟩
                  go_wp2_with fail
                  refine (ints_any (Row.rd o6) (Row.rd (Row.below HW3.out b6))).mono ?_
                  rintro e w7 ⟨rfl, b7⟩
                  rw [show decide (addrs (stepQ q ds[k]).1.ws = addrs (stepQ q ds[k]).1.ws) = true from decide_eq_true rfl]
                  have bw7 := Lib.hid (b6.trans (b7.mono b6.size))
                  have Bend := Lib.hid ((hb3.out.trans (HBX.out.mono s3)).trans (bw7.out.mono (by have := HBX.out.size; omega)))
                  have HI7 := Lib.hid (hI4.out.below bw7.out)
                  have HW7 := Lib.hid (Row.below HW3.out bw7.out)
                  clear b6 b7 o6
                  go_wp2
                  go_roundw
                  case measure => simp [intOf]; omega
                  case rel => exact ⟨k + 1, v', _, by omega, by go_num, HI7.out, by show (stepQ q ds[k]).1.n = n; rw [step_n]; exact hqn.out, inv_step HV.out ds[k], HGS.out, HW7.out, Bend.out⟩
          · have b4 : (ds[k].what == 4) = false := beq_eq_false_iff_ne.2 h4
            have Hsame : pend q ds[k] = addrs q.ws := if_neg (fun x => h4 x.1)
            have hB3 := hB2
            have hI3 := hi
            have hW3 : Own w2 w.heap.size u7 (pend q ds[k]) := by rw [Hsame]; exact huw2
            have hob := ob
            clear h4 Hsame hB2 ob hi huw2
            have hb3 := Lib.hid hB3
            have s3 := hB3.size
            obtain ⟨A9, c9, rfl, hc91, hc92⟩ := Row.shape hob
            have hc93 : c9 ≤ 9223372036854775807 := by simpa [maxLen] using hc92
            have Hob := Lib.hid (Row.rd hob)
            have HOB := Lib.hid hob
            clear hc92 hob hB3
            obtain ⟨wx, hwx⟩ : ∃ wx : World, wx = w2 := ⟨_, rfl⟩
            have HWX := Lib.hid hwx
            try rw [← hwx] at d0'
            rw [← hwx] at hb3 Hob hI3 hW3 s3 HOB ⊢
            have HI3 := Lib.hid hI3
            clear hwx hI3
            go_wp2_with fail
            go_loopw [7, 11] (fun u i wr1 => ∃ j : Nat, j ≤ (bk q ds[k]).length ∧ i = .int .i64 j ∧ Own wr1 w.heap.size u (lessOf (pend q ds[k]) (bk q ds[k]) j) ∧ Below wx.heap.size wx wr1) (fun _ i _ => (bk q ds[k]).length - (intOf i).toNat)
            case atStart => exact ⟨0, Nat.zero_le _, rfl, by rw [lessOf_zero]; exact hW3, Below.refl _ _⟩
            case round =>
              obtain ⟨j, hj, rfl, hw, hbx⟩ := hrel
              have HBX := Lib.hid hbx
              have HW := Lib.hid hw
              have sx := hbx.size
              have hlen := Lib.hid (show (lessOf (pend q ds[k]) (bk q ds[k]) j).length < 1000000 by
                have := List.length_filter_le (fun x => decide (x ∉ (bk q ds[k]).take j)) (pend q ds[k])
                have := HPL.out
                simp only [lessOf]; omega)
              clear hbx hw
              by_cases hjl : j < (bk q ds[k]).length
              · obtain ⟨b9, o9, rfl, hb9, hc9⟩ := (Hob.out.below HBX.out).one hjl
                have dj := hc9.trans (Qm.ints_at _ j hjl)
                clear hc9
                have Hhas := Lib.hid (HP1.out _ hjl)
                have Hsu := Lib.hid (lessOf_succ (pend q ds[k]) hjl)
                go_wp2_with fail
                refine (has_any (Row.rd HW.out)).mono ?_
                rintro e w4 ⟨rfl, rfl⟩
                rw [Hhas.out]
                go_wp2_with fail
                refine (without_any (Row.rd HW.out) hlen.out).mono ?_
                rintro e w5 ⟨u5, rfl, o5, b5⟩
                rw [← Hsu.out] at o5
                have H5 := Lib.hid o5
                have B5 := Lib.hid b5
                clear o5 b5 dj
                go_wp2
                go_roundw
                case measure => simp [intOf]; omega
                case rel => exact ⟨j + 1, by omega, by go_num, Row.mono H5.out (by have := hb3.out.size; omega), HBX.out.trans (B5.out.mono sx)⟩
              · have hje : j = (bk q ds[k]).length := by omega
                have HW2 := HW.out
                rw [hje, HP2.out] at HW2
                have HW3 := Lib.hid HW2
                have hI4 := Lib.hid (HI3.out.below HBX.out)
                have hok := Lib.hid (show (stepQ q ds[k]).1.ok 0 from ⟨Int.le_refl 0, by rw [step_n, hqn.out]; omega⟩)
                have HJE := Lib.hid hje
                clear HW2 hje
                go_wp2_with fail
                refine (waiting_yes hI4.out hok.out (by have := HGS.out.len; omega)).mono ?_
                rintro e w6 ⟨u6, rfl, o6, b6⟩
                go_wp2_with fail
                refine (ints_any (Row.rd o6) (Row.rd (Row.below HW3.out b6))).mono ?_
                rintro e w7 ⟨rfl, b7⟩
                rw [show decide (addrs (stepQ q ds[k]).1.ws = addrs (stepQ q ds[k]).1.ws) = true from decide_eq_true rfl]
                have bw7 := Lib.hid (b6.trans (b7.mono b6.size))
                have Bend := Lib.hid ((hb3.out.trans (HBX.out.mono s3)).trans (bw7.out.mono (by have := HBX.out.size; omega)))
                have HI7 := Lib.hid (hI4.out.below bw7.out)
                have HW7 := Lib.hid (Row.below HW3.out bw7.out)
                clear b6 b7 o6
                go_wp2
                go_roundw
                case measure => simp [intOf]; omega
                case rel => exact ⟨k + 1, v', _, by omega, by go_num, HI7.out, by show (stepQ q ds[k]).1.n = n; rw [step_n]; exact hqn.out, inv_step HV.out ds[k], HGS.out, HW7.out, Bend.out⟩
        · have hkn : k = ds.length := by omega
          have HB := Lib.hid hbel
          have hsz := hbel.size
          clear hbel
          go_wp2_with (go_at_call 10; refine (sane_any _).mono ?_; rintro e w6 ⟨rfl, b7⟩)
          go_ret
          exact ⟨rfl, HB.out.trans (b7.mono hsz)⟩
    · have Hn := Lib.hid hn
      clear hn
      by_cases hp : 0 < ds.length
      · go_enter Try.func6, Try.ntmps6
        go_wp2_with fail
        refine (new_no Hn.out).mono ?_
        rintro e w1 ⟨rfl, rfl⟩
        go_wp2_with fail
        refine wp_loop_rounds 1 ?_
        rw [rounds_succ]
        go_wp2_with fail
        refine (sane_any _).mono ?_
        rintro e w6 ⟨rfl, b7⟩
        go_wp2
        go_ret
        exact ⟨rfl, b7⟩
      · go_enter Try.func6, Try.ntmps6
        go_wp2_with fail
        refine (new_no Hn.out).mono ?_
        rintro e w1 ⟨rfl, rfl⟩
        go_wp2_with fail
        refine wp_loop_rounds 1 ?_
        rw [rounds_succ]
        go_wp2_with fail
        refine (sane_any _).mono ?_
        rintro e w6 ⟨rfl, b7⟩
        go_wp2
        go_ret
        exact ⟨rfl, b7⟩
  · go_enter Try.func6, Try.ntmps6
    go_wp2_with (go_at_call 10; refine (sane_any _).mono ?_; rintro e w6 ⟨rfl, b7⟩)
    go_ret
    exact ⟨rfl, b7⟩
end Go.Proofs.Ytiokifkppfegfaa
