/-
  What is given back was retired, and once for each time, by the deeds alone: the plain part, and the walk of the law.
-/
import Derived.Test.YtdgkdfblgeobmaaLaws0
set_option linter.unusedVariables false
set_option linter.unusedSimpArgs false
namespace Go.Proofs.Ytdgkdfblgeobmaa
open Go.RowKit Mem Qm
set_option maxRecDepth 100000

theorem hasL_iff (l : List Int) (x : Int) : hasL l x = true ↔ x ∈ l := by
  simp only [hasL, List.any_eq_true, decide_eq_true_eq]
  exact ⟨fun ⟨y, hy, e⟩ => e ▸ hy, fun h => ⟨x, h, rfl⟩⟩
/-- A list without the first k of some. -/
def lessOf (l b : List Int) (k : Nat) : List Int := l.filter fun x => decide (x ∉ b.take k)
theorem lessOf_zero (l b : List Int) : lessOf l b 0 = l := by simp [lessOf]
theorem lessOf_succ (l : List Int) {b : List Int} {k : Nat} (h : k < b.length) : lessOf l b (k + 1) = without (lessOf l b k) b[k] := by
  simp only [lessOf, without, List.filter_filter, take_snoc h]
  apply List.filter_congr
  intro x _
  simp only [List.mem_append, List.mem_singleton, not_or]
  by_cases h1 : x ∈ b.take k <;> by_cases h2 : x = b[k] <;> simp [h1, h2]
/-- What is swept is there when its turn comes. -/
theorem lessOf_has {ws : List W} (hn : (addrs ws).Nodup) {k : Nat} (h : k < (backs ws).length) : hasL (lessOf (addrs ws) (backs ws) k) (backs ws)[k] = true := by
  rw [hasL_iff]
  refine List.mem_filter.2 ⟨?_, ?_⟩
  · have hm : (backs ws)[k] ∈ backs ws := List.getElem_mem h
    obtain ⟨x, hx, he⟩ := List.mem_map.1 hm
    exact List.mem_map.2 ⟨x, (List.mem_filter.1 hx).1, he⟩
  · rw [decide_eq_true_eq]
    intro hm
    obtain ⟨i, hi, he⟩ := List.mem_iff_getElem.1 hm
    rw [List.getElem_take] at he
    have hi' := hi
    rw [List.length_take] at hi'
    have hnd : (backs ws).Nodup := addrs_filter_nodup _ hn
    exact List.pairwise_iff_getElem.1 hnd i k (by rw [List.length_take] at hi; omega) h (by omega) he
theorem lessOf_all {ws : List W} (hn : (addrs ws).Nodup) : lessOf (addrs ws) (backs ws) (backs ws).length = addrs (lefts ws) := by
  simp only [lessOf, List.take_length]
  induction ws with
  | nil => rfl
  | cons x t ih =>
    simp only [addrs, List.map_cons, List.nodup_cons] at hn
    have ih' := ih hn.2
    have hx : ∀ y ∈ addrs t, y ≠ x.1 := fun y hy e => hn.1 (by rw [← e]; exact hy)
    have hb : ∀ y ∈ backs t, y ∈ addrs t := fun y hy => by
      obtain ⟨z, hz, he⟩ := List.mem_map.1 hy
      exact List.mem_map.2 ⟨z, (List.mem_filter.1 hz).1, he⟩
    cases hno : x.2.no with
    | true =>
      have e1 : backs (x :: t) = x.1 :: backs t := by simp [backs, hno]
      have e2 : lefts (x :: t) = lefts t := by simp [lefts, hno]
      rw [e1, e2, ← ih']
      simp only [addrs, List.map_cons, List.filter_cons]
      rw [if_neg (by simp)]
      apply List.filter_congr
      intro y hy
      have := hx y hy
      simp [this]
    | false =>
      have e1 : backs (x :: t) = backs t := by simp [backs, hno]
      have e2 : lefts (x :: t) = x :: lefts t := by simp [lefts, hno]
      rw [e1, e2]
      simp only [addrs, List.map_cons, List.filter_cons]
      rw [if_pos (by rw [decide_eq_true_eq]; exact fun h => hn.1 (hb _ h))]
      congr 1
/-- What waits when a deed is done, its own address with it, and what is given back of it. -/
def pend (q : Q) (d : Deed) : List W := if d.what = 1 then (if q.ok d.th then cutBy d.th q.ws else q.ws) else if d.what = 4 ∧ (stepQ q d).2.2 = 0 then q.ws ++ [(d.ad, q.ins)] else q.ws
theorem lefts_inv {q : Q} (h : Inv q) : lefts q.ws = q.ws := by
  simp only [lefts]
  rw [List.filter_eq_self]
  intro x hx
  simp [(h.ws x hx).1]
theorem backs_inv {q : Q} (h : Inv q) : backs q.ws = [] := by
  simp only [backs]
  rw [List.map_eq_nil_iff, List.filter_eq_nil_iff]
  intro x hx
  simp [(h.ws x hx).1]
theorem step_pend {q : Q} (h : Inv q) (d : Deed) : (stepQ q d).2.1 = backs (pend q d) ∧ (stepQ q d).1.ws = lefts (pend q d) ∧ (addrs (pend q d)).Nodup ∧
    addrs (pend q d) = if d.what = 4 ∧ (stepQ q d).2.2 = 0 then addrs q.ws ++ [d.ad] else addrs q.ws := by
  have h1 := lefts_inv h
  have h2 := backs_inv h
  by_cases e1 : d.what = 1
  · have e4 : ¬ (d.what = 4 ∧ (stepQ q d).2.2 = 0) := fun x => by omega
    rw [if_neg e4]
    simp only [pend, if_pos e1]
    simp only [stepQ, show ¬ d.what = 0 by omega, e1, if_true, if_false, outQ, show ¬ (1 : Int) = 0 by decide]
    split
    · exact ⟨rfl, rfl, by rw [addrs_cut]; exact h.nd, addrs_cut _ _⟩
    · exact ⟨h2.symm, h1.symm, h.nd, rfl⟩
  · by_cases e4 : d.what = 4 ∧ (stepQ q d).2.2 = 0
    · rw [if_pos e4]
      simp only [pend, if_neg e1, if_pos e4]
      obtain ⟨e4a, e4b⟩ := e4
      simp only [stepQ, e4a, if_true, if_false, show ¬ (4 : Int) = 0 by decide, show ¬ (4 : Int) = 1 by decide, show ¬ (4 : Int) = 2 by decide, show ¬ (4 : Int) = 3 by decide] at e4b ⊢
      unfold retQ at e4b ⊢
      split at e4b
      · rename_i hok
        rw [if_pos hok]
        split at e4b
        · simp at e4b
        · rename_i hd
          rw [if_neg hd]
          refine ⟨rfl, rfl, ?_, by simp [addrs]⟩
          simp only [addrs, List.map_append, List.map_cons, List.map_nil]
          rw [List.nodup_append]
          refine ⟨h.nd, by simp, fun x hx y hy e => ?_⟩
          rw [List.mem_singleton.1 hy] at e
          subst e
          exact hd ((hasB_iff _ _).2 hx)
      · simp at e4b
    · rw [if_neg e4]
      simp only [pend, if_neg e1, if_neg e4]
      rw [h1, h2]
      have key : (stepQ q d).2.1 = [] ∧ (stepQ q d).1.ws = q.ws := by
        revert e4
        unfold stepQ inQ holdQ bornQ retQ
        repeat' split
        all_goals first | (intro _; exact ⟨rfl, rfl⟩) | (intro h; exact absurd ⟨by assumption, rfl⟩ h) | (intro h; rename_i hh _ _ _; exact absurd hh e1) | skip
        all_goals (intro h; first | exact ⟨rfl, rfl⟩ | exact absurd (by assumption) e1)
      refine ⟨key.1, key.2, h.nd, ?_⟩
      trivial
/-! The walk -/
set_option maxHeartbeats 2000000 in
theorem once_walk {w : World} {n : Int} {u : Value} {ds : List Deed} (hd : RdD w u ds) :
    Calls Try.prog 6 #[.int .i64 n, u] w (Tells w true) := by
  obtain ⟨A, c, rfl, hc1, hc2⟩ := hd.shape
  have Hd := Lib.hid hd
  clear hd
  by_cases hl : ds.length ≤ 200
  · by_cases hn : 1 ≤ n ∧ n ≤ 4
    · obtain ⟨n0, n4⟩ := hn
      go_enter Try.func6, Try.ntmps6
      go_wp2_with fail
      refine (new_yes n0 n4).mono ?_
      rintro e w1 ⟨rfl, h1, b1⟩
      go_wp2_with fail
      go_loopw [7, 8] (fun uw i wr => ∃ (k : Nat) (v : Value) (q : Q), k ≤ ds.length ∧ i = .int .i64 k ∧ Is wr w.heap.size w.heap.size v q ∧ Hid (q.n = n) ∧ Inv q ∧ q.ws.length ≤ k ∧ Own wr w.heap.size uw (addrs q.ws) ∧ Below w.heap.size w wr) (fun _ i _ => ds.length - (intOf i).toNat)
      case atStart => exact ⟨0, _, q0 n, Nat.zero_le _, rfl, h1, rfl, inv_q0 n, Nat.le_refl _, Own.nil _ _, b1⟩
      case round =>
        clear h1 b1
        obtain ⟨k, v, q, hk, rfl, h, hqn, hinv, hql, huw, hbel⟩ := hrel
        by_cases hlt : k < ds.length
        · obtain ⟨b, off, rfl, hb, d0, d1, d2, d3⟩ := RdD.at_ (Hd.out.below hbel) hlt
          have hsz := hbel.size
          have HB := Lib.hid hbel
          have HV := Lib.hid hinv
          have hq4 : q.n ≤ 4 := by rw [hqn.out]; exact n4
          obtain ⟨hp1, hp2, hp3, hp4⟩ := step_pend hinv ds[k]
          have HP1 := Lib.hid hp1
          have HP2 := Lib.hid hp2
          have HP3 := Lib.hid hp3
          have HP4 := Lib.hid hp4
          have HPL := Lib.hid (show (addrs (pend q ds[k])).length < 900000 by
            rw [hp4]
            split <;> simp [addrs] <;> omega)
          clear hbel hinv hp1 hp2 hp3 hp4
          go_wp2_with fail
          refine (done_did h hq4 hsz (by omega) ds[k]).mono ?_
          rintro e w2 ⟨ub, v', rfl, ob, hi, hk2, hm2⟩
          rw [HP1.out] at ob
          have HUWLT := Lib.hid (show ∀ i, u7.ownBlock = some i → i < wr.heap.size from fun i hi => (Row.at_lt huw hi).2)
          have hB2 := HB.out.trans (hk2.below hsz h.foot_lo)
          have huw2 := Own.keep huw h hk2
          obtain ⟨b', off', hA', hb', d0', d1', d2', d3'⟩ := RdD.at_ (Hd.out.below hB2) hlt
          injection hA' with hA'
          injection hA' with e1 e2
          subst e1 e2
          have s2 := hB2.size
          clear h huw d0 d1 d2 d3 d1' d2' hk2 hm2
          by_cases h4 : ds[k].what = 4
          · have b4 : (ds[k].what == 4) = true := beq_iff_eq.2 h4
            by_cases he : (stepQ q ds[k]).2.2 = 0
            · have be : ((stepQ q ds[k]).2.2 == 0) = true := beq_iff_eq.2 he
              have Hadd := HP4.out
              rw [if_pos ⟨h4, he⟩] at Hadd
              have HADD := Lib.hid Hadd
              have hBH := Lib.hid hB2
              have hOB := Lib.hid ob
              have hHI := Lib.hid hi
              have hql2 : (addrs q.ws).length < 1000000 := by simp [addrs]; omega
              clear h4 he Hadd hB2 ob hi
              go_wp2_with (at_builtin; refine wpList_append_int rfl (.tmp 50) (.tmp 56) rfl Try.underlying28 info3 w.heap.size u7 (addrs q.ws) _ _ rfl huw2 rfl ?c1 s2 hql2 ?_)
              case c1 => rfl
              intro uw3 w3 ho3 hk3 hm3
              have hB3 : Below w.heap.size w w3 := hBH.out.trans (hk3.below s2 (fun i hi => (Row.at_lt huw2 hi).1))
              have hI3 : Is w3 w.heap.size w.heap.size v' (stepQ q ds[k]).1 := hHI.out.keep hk3 (fun i hf hs => hHI.out.apart huw2 i hs hf)
              have hW3 : Own w3 w.heap.size uw3 (addrs (pend q ds[k])) := by rw [HADD.out]; exact ho3
              have hob : Own w3 wr.heap.size ub (backs (pend q ds[k])) := Row.keep hOB.out hk3 (fun i hi hs => by
                have h1 := (Row.at_lt hOB.out hi).1
                have h2 := (Row.at_lt huw2 hs)
                exact absurd h1 (by have := HUWLT.out i hs; omega))
              clear huw2 ho3 hk3 hm3 d0' d3'
              have hb3 := Lib.hid hB3
              have s3 := hB3.size
              obtain ⟨A9, c9, rfl, hc91, hc92⟩ := Row.shape hob
              have hc93 : c9 ≤ 9223372036854775807 := by simpa [maxLen] using hc92
              have Hob := Lib.hid (Row.rd hob)
              have HOB := Lib.hid hob
              clear hc92 hob hB3
              obtain ⟨wx, hwx⟩ : ∃ wx : World, wx = w3 := ⟨_, rfl⟩
              have HWX := Lib.hid hwx
              try rw [← hwx] at d0'
              rw [← hwx] at hb3 Hob hI3 hW3 s3 HOB ⊢
              have HI3 := Lib.hid hI3
              clear hwx hI3
              go_wp2_with fail
              go_loopw [7, 11] (fun u i wr1 => ∃ j : Nat, j ≤ (backs (pend q ds[k])).length ∧ i = .int .i64 j ∧ Own wr1 w.heap.size u (lessOf (addrs (pend q ds[k])) (backs (pend q ds[k])) j) ∧ Below wx.heap.size wx wr1) (fun _ i _ => (backs (pend q ds[k])).length - (intOf i).toNat)
              case atStart => exact ⟨0, Nat.zero_le _, rfl, by rw [lessOf_zero]; exact hW3, Below.refl _ _⟩
              case round =>
                obtain ⟨j, hj, rfl, hw, hbx⟩ := hrel
                have HBX := Lib.hid hbx
                have HW := Lib.hid hw
                have sx := hbx.size
                have hlen := Lib.hid (show (lessOf (addrs (pend q ds[k])) (backs (pend q ds[k])) j).length < 1000000 by
                  have := List.length_filter_le (fun x => decide (x ∉ (backs (pend q ds[k])).take j)) (addrs (pend q ds[k]))
                  have := HPL.out
                  simp only [lessOf]; omega)
                clear hbx hw
                by_cases hjl : j < (backs (pend q ds[k])).length
                · obtain ⟨b9, o9, rfl, hb9, hc9⟩ := (Hob.out.below HBX.out).one hjl
                  have dj := hc9.trans (Qm.ints_at _ j hjl)
                  clear hc9
                  have Hhas := Lib.hid (lessOf_has HP3.out hjl)
                  have Hsu := Lib.hid (lessOf_succ (addrs (pend q ds[k])) hjl)
                  go_wp2_with fail
                  refine (has_any (Row.rd HW.out)).mono ?_
                  rintro e w4 ⟨rfl, rfl⟩
                  rw [Hhas.out]
                  go_wp2_with fail
                  refine (without_any (Row.rd HW.out) hlen.out).mono ?_
                  rintro e w5 ⟨u5, rfl, o5, b5⟩
                  rw [← Hsu.out] at o5
                  have H5 := Lib.hid o5
                  have B5 := Lib.hid b5
                  clear o5 b5 dj
                  go_wp2
                  go_roundw
                  case measure => simp [intOf]; omega
                  case rel => exact ⟨j + 1, by omega, by go_num, Row.mono H5.out (by have := hb3.out.size; omega), HBX.out.trans (B5.out.mono sx)⟩
                · have hje : j = (backs (pend q ds[k])).length := by omega
                  have HW2 := HW.out
                  rw [hje, lessOf_all HP3.out, ← HP2.out] at HW2
                  have HW3 := Lib.hid HW2
                  have hI4 := Lib.hid (HI3.out.below HBX.out)
                  have hok := Lib.hid (show (stepQ q ds[k]).1.ok 0 from ⟨Int.le_refl 0, by rw [step_n, hqn.out]; omega⟩)
                  have HJE := Lib.hid hje
                  clear HW2 hje
                  go_wp2_with fail
                  refine (waiting_yes hI4.out hok.out (by have := step_len q ds[k]; omega)).mono ?_
                  rintro e w6 ⟨u6, rfl, o6, b6⟩
                  go_wp2_with fail
                  refine (ints_any (Row.rd o6) (Row.rd (Row.below HW3.out b6))).mono ?_
                  rintro e w7 ⟨rfl, b7⟩
                  rw [show decide (addrs (stepQ q ds[k]).1.ws = addrs (stepQ q ds[k]).1.ws) = true from decide_eq_true rfl]
                  have bw7 := Lib.hid (b6.trans (b7.mono b6.size))
                  have Bend := Lib.hid ((hb3.out.trans (HBX.out.mono s3)).trans (bw7.out.mono (by have := HBX.out.size; omega)))
                  have HI7 := Lib.hid (hI4.out.below bw7.out)
                  have HW7 := Lib.hid (Row.below HW3.out bw7.out)
                  clear b6 b7 o6
                  go_wp2
                  go_roundw
                  case measure => simp [intOf]; omega
                  case rel => exact ⟨k + 1, v', _, by omega, by go_num, HI7.out, by show (stepQ q ds[k]).1.n = n; rw [step_n]; exact hqn.out, inv_step HV.out ds[k], by have := step_len q ds[k]; omega, HW7.out, Bend.out⟩
            · have be : ((stepQ q ds[k]).2.2 == 0) = false := beq_eq_false_iff_ne.2 he
              have Hsame := HP4.out
              rw [if_neg (fun x => he x.2)] at Hsame
              have hB3 := hB2
              have hI3 := hi
              have hW3 : Own w2 w.heap.size u7 (addrs (pend q ds[k])) := by rw [Hsame]; exact huw2
              have hob := ob
              clear he Hsame hB2 ob hi huw2
              have hb3 := Lib.hid hB3
              have s3 := hB3.size
              obtain ⟨A9, c9, rfl, hc91, hc92⟩ := Row.shape hob
              have hc93 : c9 ≤ 9223372036854775807 := by simpa [maxLen] using hc92
              have Hob := Lib.hid (Row.rd hob)
              have HOB := Lib.hid hob
              clear hc92 hob hB3
              obtain ⟨wx, hwx⟩ : ∃ wx : World, wx = w2 := ⟨_, rfl⟩
              have HWX := Lib.hid hwx
              try rw [← hwx] at d0'
              rw [← hwx] at hb3 Hob hI3 hW3 s3 HOB ⊢
              have HI3 := Lib.hid hI3
              clear hwx hI3
              go_wp2_with fail
              go_loopw [7, 11] (fun u i wr1 => ∃ j : Nat, j ≤ (backs (pend q ds[k])).length ∧ i = .int .i64 j ∧ Own wr1 w.heap.size u (lessOf (addrs (pend q ds[k])) (backs (pend q ds[k])) j) ∧ Below wx.heap.size wx wr1) (fun _ i _ => (backs (pend q ds[k])).length - (intOf i).toNat)
              case atStart => exact ⟨0, Nat.zero_le _, rfl, by rw [lessOf_zero]; exact hW3, Below.refl _ _⟩
              case round =>
                obtain ⟨j, hj, rfl, hw, hbx⟩ := hrel
                have HBX := Lib.hid hbx
                have HW := Lib.hid hw
                have sx := hbx.size
                have hlen := Lib.hid (show (lessOf (addrs (pend q ds[k])) (backs (pend q ds[k])) j).length < 1000000 by
                  have := List.length_filter_le (fun x => decide (x ∉ (backs (pend q ds[k])).take j)) (addrs (pend q ds[k]))
                  have := HPL.out
                  simp only [lessOf]; omega)
                clear hbx hw
                by_cases hjl : j < (backs (pend q ds[k])).length
                · obtain ⟨b9, o9, rfl, hb9, hc9⟩ := (Hob.out.below HBX.out).one hjl
                  have dj := hc9.trans (Qm.ints_at _ j hjl)
                  clear hc9
                  have Hhas := Lib.hid (lessOf_has HP3.out hjl)
                  have Hsu := Lib.hid (lessOf_succ (addrs (pend q ds[k])) hjl)
                  go_wp2_with fail
                  refine (has_any (Row.rd HW.out)).mono ?_
                  rintro e w4 ⟨rfl, rfl⟩
                  rw [Hhas.out]
                  go_wp2_with fail
                  refine (without_any (Row.rd HW.out) hlen.out).mono ?_
                  rintro e w5 ⟨u5, rfl, o5, b5⟩
                  rw [← Hsu.out] at o5
                  have H5 := Lib.hid o5
                  have B5 := Lib.hid b5
                  clear o5 b5 dj
                  go_wp2
                  go_roundw
                  case measure => simp [intOf]; omega
                  case rel => exact ⟨j + 1, by omega, by go_num, Row.mono H5.out (by have := hb3.out.size; omega), HBX.out.trans (B5.out.mono sx)⟩
                · have hje : j = (backs (pend q ds[k])).length := by omega
                  have HW2 := HW.out
                  rw [hje, lessOf_all HP3.out, ← HP2.out] at HW2
                  have HW3 := Lib.hid HW2
                  have hI4 := Lib.hid (HI3.out.below HBX.out)
                  have hok := Lib.hid (show (stepQ q ds[k]).1.ok 0 from ⟨Int.le_refl 0, by rw [step_n, hqn.out]; omega⟩)
                  have HJE := Lib.hid hje
                  clear HW2 hje
                  go_wp2_with fail
                  refine (waiting_yes hI4.out hok.out (by have := step_len q ds[k]; omega)).mono ?_
                  rintro e w6 ⟨u6, rfl, o6, b6⟩
                  go_wp2_with fail
                  refine (ints_any (Row.rd o6) (Row.rd (Row.below HW3.out b6))).mono ?_
                  rintro e w7 ⟨rfl, b7⟩
                  rw [show decide (addrs (stepQ q ds[k]).1.ws = addrs (stepQ q ds[k]).1.ws) = true from decide_eq_true rfl]
                  have bw7 := Lib.hid (b6.trans (b7.mono b6.size))
                  have Bend := Lib.hid ((hb3.out.trans (HBX.out.mono s3)).trans (bw7.out.mono (by have := HBX.out.size; omega)))
                  have HI7 := Lib.hid (hI4.out.below bw7.out)
                  have HW7 := Lib.hid (Row.below HW3.out bw7.out)
                  clear b6 b7 o6
                  go_wp2
                  go_roundw
                  case measure => simp [intOf]; omega
                  case rel => exact ⟨k + 1, v', _, by omega, by go_num, HI7.out, by show (stepQ q ds[k]).1.n = n; rw [step_n]; exact hqn.out, inv_step HV.out ds[k], by have := step_len q ds[k]; omega, HW7.out, Bend.out⟩
          · have b4 : (ds[k].what == 4) = false := beq_eq_false_iff_ne.2 h4
            have Hsame := HP4.out
            rw [if_neg (fun x => h4 x.1)] at Hsame
            have hB3 := hB2
            have hI3 := hi
            have hW3 : Own w2 w.heap.size u7 (addrs (pend q ds[k])) := by rw [Hsame]; exact huw2
            have hob := ob
            clear h4 Hsame hB2 ob hi huw2
            have hb3 := Lib.hid hB3
            have s3 := hB3.size
            obtain ⟨A9, c9, rfl, hc91, hc92⟩ := Row.shape hob
            have hc93 : c9 ≤ 9223372036854775807 := by simpa [maxLen] using hc92
            have Hob := Lib.hid (Row.rd hob)
            have HOB := Lib.hid hob
            clear hc92 hob hB3
            obtain ⟨wx, hwx⟩ : ∃ wx : World, wx = w2 := ⟨_, rfl⟩
            have HWX := Lib.hid hwx
            try rw [← hwx] at d0'
            rw [← hwx] at hb3 Hob hI3 hW3 s3 HOB ⊢
            have HI3 := Lib.hid hI3
            clear hwx hI3
            go_wp2_with fail
            go_loopw [7, 11] (fun u i wr1 => ∃ j : Nat, j ≤ (backs (pend q ds[k])).length ∧ i = .int .i64 j ∧ Own wr1 w.heap.size u (lessOf (addrs (pend q ds[k])) (backs (pend q ds[k])) j) ∧ Below wx.heap.size wx wr1) (fun _ i _ => (backs (pend q ds[k])).length - (intOf i).toNat)
            case atStart => exact ⟨0, Nat.zero_le _, rfl, by rw [lessOf_zero]; exact hW3, Below.refl _ _⟩
            case round =>
              obtain ⟨j, hj, rfl, hw, hbx⟩ := hrel
              have HBX := Lib.hid hbx
              have HW := Lib.hid hw
              have sx := hbx.size
              have hlen := Lib.hid (show (lessOf (addrs (pend q ds[k])) (backs (pend q ds[k])) j).length < 1000000 by
                have := List.length_filter_le (fun x => decide (x ∉ (backs (pend q ds[k])).take j)) (addrs (pend q ds[k]))
                have := HPL.out
                simp only [lessOf]; omega)
              clear hbx hw
              by_cases hjl : j < (backs (pend q ds[k])).length
              · obtain ⟨b9, o9, rfl, hb9, hc9⟩ := (Hob.out.below HBX.out).one hjl
                have dj := hc9.trans (Qm.ints_at _ j hjl)
                clear hc9
                have Hhas := Lib.hid (lessOf_has HP3.out hjl)
                have Hsu := Lib.hid (lessOf_succ (addrs (pend q ds[k])) hjl)
                go_wp2_with fail
                refine (has_any (Row.rd HW.out)).mono ?_
                rintro e w4 ⟨rfl, rfl⟩
                rw [Hhas.out]
                go_wp2_with fail
                refine (without_any (Row.rd HW.out) hlen.out).mono ?_
                rintro e w5 ⟨u5, rfl, o5, b5⟩
                rw [← Hsu.out] at o5
                have H5 := Lib.hid o5
                have B5 := Lib.hid b5
                clear o5 b5 dj
                go_wp2
                go_roundw
                case measure => simp [intOf]; omega
                case rel => exact ⟨j + 1, by omega, by go_num, Row.mono H5.out (by have := hb3.out.size; omega), HBX.out.trans (B5.out.mono sx)⟩
              · have hje : j = (backs (pend q ds[k])).length := by omega
                have HW2 := HW.out
                rw [hje, lessOf_all HP3.out, ← HP2.out] at HW2
                have HW3 := Lib.hid HW2
                have hI4 := Lib.hid (HI3.out.below HBX.out)
                have hok := Lib.hid (show (stepQ q ds[k]).1.ok 0 from ⟨Int.le_refl 0, by rw [step_n, hqn.out]; omega⟩)
                have HJE := Lib.hid hje
                clear HW2 hje
                go_wp2_with fail
                refine (waiting_yes hI4.out hok.out (by have := step_len q ds[k]; omega)).mono ?_
                rintro e w6 ⟨u6, rfl, o6, b6⟩
                go_wp2_with fail
                refine (ints_any (Row.rd o6) (Row.rd (Row.below HW3.out b6))).mono ?_
                rintro e w7 ⟨rfl, b7⟩
                rw [show decide (addrs (stepQ q ds[k]).1.ws = addrs (stepQ q ds[k]).1.ws) = true from decide_eq_true rfl]
                have bw7 := Lib.hid (b6.trans (b7.mono b6.size))
                have Bend := Lib.hid ((hb3.out.trans (HBX.out.mono s3)).trans (bw7.out.mono (by have := HBX.out.size; omega)))
                have HI7 := Lib.hid (hI4.out.below bw7.out)
                have HW7 := Lib.hid (Row.below HW3.out bw7.out)
                clear b6 b7 o6
                go_wp2
                go_roundw
                case measure => simp [intOf]; omega
                case rel => exact ⟨k + 1, v', _, by omega, by go_num, HI7.out, by show (stepQ q ds[k]).1.n = n; rw [step_n]; exact hqn.out, inv_step HV.out ds[k], by have := step_len q ds[k]; omega, HW7.out, Bend.out⟩
        · have hkn : k = ds.length := by omega
          have HB := Lib.hid hbel
          have hsz := hbel.size
          clear hbel
          go_wp2_with (go_at_call 10; refine (sane_any _).mono ?_; rintro e w6 ⟨rfl, b7⟩)
          go_ret
          exact ⟨rfl, HB.out.trans (b7.mono hsz)⟩
    · have Hn := Lib.hid hn
      clear hn
      by_cases hp : 0 < ds.length
      · go_enter Try.func6, Try.ntmps6
        go_wp2_with fail
        refine (new_no Hn.out).mono ?_
        rintro e w1 ⟨rfl, rfl⟩
        go_wp2_with fail
        refine wp_loop_rounds 1 ?_
        rw [rounds_succ]
        go_wp2_with fail
        refine (sane_any _).mono ?_
        rintro e w6 ⟨rfl, b7⟩
        go_wp2
        go_ret
        exact ⟨rfl, b7⟩
      · go_enter Try.func6, Try.ntmps6
        go_wp2_with fail
        refine (new_no Hn.out).mono ?_
        rintro e w1 ⟨rfl, rfl⟩
        go_wp2_with fail
        refine wp_loop_rounds 1 ?_
        rw [rounds_succ]
        go_wp2_with fail
        refine (sane_any _).mono ?_
        rintro e w6 ⟨rfl, b7⟩
        go_wp2
        go_ret
        exact ⟨rfl, b7⟩
  · go_enter Try.func6, Try.ntmps6
    go_wp2_with (go_at_call 10; refine (sane_any _).mono ?_; rintro e w6 ⟨rfl, b7⟩)
    go_ret
    exact ⟨rfl, b7⟩
end Go.Proofs.Ytdgkdfblgeobmaa
