/-
  A node that is born behind the deeds, and for whose address no hold was ever asked, is given back as soon as it is retired: the plain part, and the walk of the law.
-/
import Derived.Test.YtiokifkppfegfaaLaws0
set_option linter.unusedVariables false
set_option linter.unusedSimpArgs false
namespace Go.Proofs.Ytiokifkppfegfaa
open Go.RowKit Mem Qm
set_option maxRecDepth 100000
theorem hasL_iff' (l : List Int) (x : Int) : hasL l x = true ↔ x ∈ l := by
  simp only [hasL, List.any_eq_true, decide_eq_true_eq]
  exact ⟨fun ⟨y, hy, e⟩ => e ▸ hy, fun h => ⟨x, h, rfl⟩⟩
/-- No interval reaches beyond the era, and nobody holds an address. -/
structure Low (a : Int) (q : Q) : Prop where
  n4 : q.n ≤ 4
  e0 : 0 ≤ q.era
  hi : ∀ i, 0 ≤ i → i < 4 → (q.get i).hi ≤ q.era
  ho : ∀ i, 0 ≤ i → i < 4 → a ∉ (q.get i).holds
theorem low_q0 {n a : Int} (h : n ≤ 4) (ha : 0 < a) : Low a (q0 n) := ⟨h, Int.le_refl 0, fun i i0 i4 => by
  rcases (show i = 0 ∨ i = 1 ∨ i = 2 ∨ i = 3 by omega) with rfl | rfl | rfl | rfl <;> exact Int.le_refl 0, fun i i0 i4 => by
  have : a ≠ 0 := by omega
  rcases (show i = 0 ∨ i = 1 ∨ i = 2 ∨ i = 3 by omega) with rfl | rfl | rfl | rfl <;> simp [q0, Q.get, Sn.none, Sn.holds, this]⟩
theorem low_put {q : Q} {a : Int} (h : Low a q) {t : Int} (ht : q.ok t) {s : Sn} (h1 : s.hi ≤ q.era) (h2 : a ∉ s.holds) : Low a (q.put t s) := by
  have t0 := ht.1
  have t1 := ht.2
  have t4 := h.n4
  refine ⟨h.n4, h.e0, fun i i0 i4 => ?_, fun i i0 i4 => ?_⟩
  · rw [get_put q t i s ⟨t0, by omega⟩ ⟨i0, i4⟩]
    split
    · exact h1
    · exact h.hi i i0 i4
  · rw [get_put q t i s ⟨t0, by omega⟩ ⟨i0, i4⟩]
    split
    · exact h2
    · exact h.ho i i0 i4
theorem low_swept {q : Q} {a : Int} (h : Low a q) : Low a q.swept := ⟨h.n4, h.e0, h.hi, h.ho⟩
theorem low_born {q : Q} {a : Int} (h : Low a q) (x : Int) : Low a (q.born x) := ⟨h.n4, by have := h.e0; simp only [Q.born]; omega, fun i i0 i4 => by have := h.hi i i0 i4; show (q.get i).hi ≤ q.era + 1; omega, h.ho⟩
theorem low_add {q : Q} {a : Int} (h : Low a q) (x : Int) : Low a (q.add x) := ⟨h.n4, h.e0, h.hi, h.ho⟩
theorem low_hold {q : Q} {a : Int} (h : Low a q) {t : Int} (ht : q.ok t) (k : Int) {x : Int} (hx : x ≠ a) : Low a (q.hold t k x) := by
  unfold Q.hold
  split
  · refine low_put h ht (Int.le_refl _) ?_
    have t0 := ht.1
    have t1 := ht.2
    have t4 := h.n4
    have hh := h.ho t t0 (by omega)
    simp only [Sn.holds, Sn.hold, List.mem_cons, List.not_mem_nil, or_false, not_or] at hh ⊢
    obtain ⟨p0, p1, p2⟩ := hh
    refine ⟨?_, ?_, ?_⟩
    · split
      · exact fun e => hx e.symm
      · exact p0
    · split
      · exact fun e => hx e.symm
      · exact p1
    · split
      · exact fun e => hx e.symm
      · exact p2
  · exact h
theorem low_step {q : Q} {a : Int} (h : Low a q) (ha : 0 < a) {d : Deed} (hd : ¬ (d.what = 2 ∧ d.ad = a)) : Low a (stepQ q d).1 := by
  have hz : a ∉ Sn.none.holds := by simp [Sn.none, Sn.holds]; omega
  have hy : ∀ e, a ∉ (Sn.in_ e).holds := fun e => by simp [Sn.in_, Sn.holds]; omega
  unfold stepQ
  split
  · unfold inQ; split
    · rename_i ht; exact low_put h ht (Int.le_refl _) (hy _)
    · exact h
  split
  · unfold outQ; split
    · rename_i ht; exact low_swept (low_put h ht h.e0 hz)
    · exact h
  split
  · rename_i e2
    unfold holdQ; split
    · rename_i ht; exact low_hold h ht.1 _ (fun e => hd ⟨e2, e⟩)
    · exact h
  split
  · unfold bornQ; split
    · exact low_born h _
    · exact h
  split
  · unfold retQ; split
    · split
      · exact h
      · exact low_swept (low_add h _)
    · exact h
  split
  · unfold restQ; split
    · exact low_swept h
    · exact h
  · exact h
theorem low_run {q : Q} {a : Int} (ha : 0 < a) (ds : List Deed) (h : Low a q) (hd : ∀ d ∈ ds, ¬ (d.what = 2 ∧ d.ad = a)) : Low a (runQ q ds) := by
  induction ds generalizing q with
  | nil => exact h
  | cons d t ih => exact ih (low_step h ha (hd d (by simp))) (fun x hx => hd x (by simp [hx]))
/-- Who is born beyond all intervals, and held by nobody, is met by nobody. -/
theorem low_met {q : Q} {a : Int} (h : Low a q) (e : Int) : (q.born a).met ⟨a, q.era + 1, e⟩ = false := by
  cases hm : (q.born a).met ⟨a, q.era + 1, e⟩ with
  | false => rfl
  | true =>
    obtain ⟨i, i0, i4, hi⟩ := (met_iff _ _).1 hm
    have h1 := h.hi i i0 i4
    have h2 := h.ho i i0 i4
    have hb : hasB (q.get i).holds a = false := by
      cases hb : hasB (q.get i).holds a with
      | false => rfl
      | true => exact absurd ((hasB_iff _ _).1 hb) h2
    simp only [Sn.met] at hi
    rw [show (q.born a).get i = q.get i from rfl, hb, decide_eq_false (show ¬ q.era + 1 ≤ (q.get i).hi by omega)] at hi
    simp at hi
theorem low_back {q : Q} {a : Int} (h : Low a q) : hasL (backs ((q.born a).add a) ((q.born a).add a).ws) a = true := by
  rw [hasL_iff']
  refine List.mem_map.2 ⟨⟨a, q.era + 1, q.era + 1⟩, List.mem_filter.2 ⟨?_, ?_⟩, rfl⟩
  · simp [Q.add, Q.born, upd]
  · have := low_met h (q.era + 1)
    rw [show ((q.born a).add a).met ⟨a, q.era + 1, q.era + 1⟩ = (q.born a).met ⟨a, q.era + 1, q.era + 1⟩ from rfl, this]
    rfl
set_option maxHeartbeats 1000000 in
theorem fresh_walk {w : World} {n a : Int} {u : Value} {ds : List Deed} (hd : RdD w u ds) (haw : Wf a) :
    Calls Try.prog 5 #[.int .i64 n, u, .int .i64 a] w (Tells w true) := by
  obtain ⟨A, c, rfl, hc1, hc2⟩ := hd.shape
  have Hd := Lib.hid hd
  have HAW := Lib.hid haw
  clear hd haw
  by_cases hl : ds.length ≤ 200
  · by_cases hn : 1 ≤ n ∧ n ≤ 4
    · obtain ⟨n0, n4⟩ := hn
      go_enter Try.func5, Try.ntmps5
      go_wp2_with fail
      refine (played_yes n0 n4 Hd.out (by omega)).mono ?_
      rintro e w1 ⟨g, b, v1, rfl, h1, b1⟩
      have s1 := b1.size
      by_cases ha : 0 < a
      · have hN := run_n (q0 n) ds
        have hG := (run_good (good_q0 n4) ds Hd.out.wf).mono (show 0 + ds.length ≤ 200 by omega)
        have HLow := Lib.hid (fun hd => low_run ha ds (low_q0 n4 ha) hd)
        generalize runQ (q0 n) ds = q1 at h1 hN hG HLow
        have hN' : q1.n = n := hN
        have HOK := Lib.hid (show q1.ok 0 from ⟨Int.le_refl 0, by rw [hN']; omega⟩)
        have HG := Lib.hid hG
        clear hN hN' hG
        go_wp2_with fail
        refine (waiting_yes h1 HOK.out (by have := HG.out.len; omega)).mono ?_
        rintro e w2 ⟨u2, rfl, o2, b2⟩
        go_wp2_with fail
        refine (has_any (Row.rd o2)).mono ?_
        rintro e w3 ⟨rfl, rfl⟩
        have h2 := h1.below b2
        have B2 := Lib.hid (b1.trans (b2.mono s1))
        have s2 := B2.out.size
        clear h1 b2 o2 b1
        cases hh : hasL (addrs q1.ws) a with
        | true =>
          clear hh
          go_wp2_with (go_at_call 10; refine (sane_any _).mono ?_; rintro e w6 ⟨rfl, b7⟩)
          go_ret
          exact ⟨rfl, B2.out.trans (b7.mono s2)⟩
        | false =>
          have HH := Lib.hid hh
          clear hh
          have H2 := Lib.hid h2
          clear h2
          go_wp2_with fail
          go_loop [8] (fun i => ∃ k : Nat, k ≤ ds.length ∧ i = .int .i64 k ∧ Hid (∀ d ∈ ds.take k, ¬ (d.what = 2 ∧ d.ad = a))) (fun i => ds.length - (intOf i).toNat)
          case atStart => exact ⟨0, Nat.zero_le _, rfl, fun d hd => by simp at hd⟩
          case round =>
            obtain ⟨k, hk, rfl, hi⟩ := hrel
            by_cases hlt : k < ds.length
            · obtain ⟨bb, off, rfl, hb, d0, d1, d2, d3⟩ := RdD.at_ (Hd.out.below B2.out) hlt
              have hnext := Lib.hid (fun (hx : ¬ (ds[k].what = 2 ∧ ds[k].ad = a)) => show ∀ d ∈ ds.take (k + 1), ¬ (d.what = 2 ∧ d.ad = a) from fun d hd => by
                rw [take_snoc hlt] at hd
                rcases List.mem_append.1 hd with h | h
                · exact hi.out d h
                · rw [List.mem_singleton.1 h]; exact hx)
              by_cases e2 : ds[k].what = 2
              · have q2 : (ds[k].what == 2) = true := beq_iff_eq.2 e2
                by_cases ea : ds[k].ad = a
                · have q3 : (ds[k].ad == a) = true := beq_iff_eq.2 ea
                  clear e2 ea
                  go_wp2_with (go_at_call 10; refine (sane_any _).mono ?_; rintro e w6 ⟨rfl, b7⟩)
                  go_ret
                  exact ⟨rfl, B2.out.trans (b7.mono s2)⟩
                · have q3 : (ds[k].ad == a) = false := beq_eq_false_iff_ne.2 ea
                  have HN := Lib.hid (hnext.out (fun x => ea x.2))
                  clear e2 ea
                  go_wp2
                  go_round
                  case measure => simp [intOf]; omega
                  case rel => exact ⟨k + 1, by omega, by go_num, HN.out⟩
              · have q2 : (ds[k].what == 2) = false := beq_eq_false_iff_ne.2 e2
                have HN := Lib.hid (hnext.out (fun x => e2 x.1))
                clear e2
                go_wp2
                go_round
                case measure => simp [intOf]; omega
                case rel => exact ⟨k + 1, by omega, by go_num, HN.out⟩
            · have hkn : k = ds.length := by omega
              have HL := Lib.hid (HLow.out (by have := hi.out; rw [hkn, List.take_length] at this; exact this))
              have hbn := Lib.hid (show bornQ q1 a = (q1.born a, [], 0) from if_pos ⟨HOK.out, ha⟩)
              have hrt := Lib.hid (show retQ (q1.born a) 0 a = (((q1.born a).add a).swept, backs ((q1.born a).add a) ((q1.born a).add a).ws, 0) by
                unfold retQ
                rw [if_pos ⟨HOK.out, ha⟩, if_neg]
                intro hd
                have h1 := (hasL_iff' _ _).2 ((hasB_iff _ _).1 hd)
                have h2 := HH.out
                rw [show addrs (q1.born a).ws = addrs q1.ws from rfl, h2] at h1
                cases h1)
              clear hkn
              go_wp2_with fail
              have ct := born_did H2.out HG.out (by omega) a HAW.out
              rw [hbn.out] at ct
              refine ct.mono ?_
              rintro e w3 ⟨rfl, _, h3, k3⟩
              have B3 := Lib.hid (B2.out.trans (k3.below s2 H2.out.foot_lo))
              have s3 := B3.out.size
              clear ct k3
              go_wp2_with fail
              have ct := ret_did h3 (good_born HG.out a) (by omega) s3 0 a HAW.out
              rw [hrt.out] at ct
              refine ct.mono ?_
              rintro e w4 ⟨u4, v4, rfl, o4, h4, k4, m4⟩
              have B4 := Lib.hid (B3.out.trans (k4.below s3 h3.foot_lo))
              have s4 := B4.out.size
              clear ct k4 h3 m4 h4
              go_wp2_with fail
              refine (has_any (Row.rd o4)).mono ?_
              rintro e w5 ⟨rfl, rfl⟩
              rw [low_back HL.out]
              clear o4
              go_wp2_with (go_at_call 10; refine (sane_any _).mono ?_; rintro e w6 ⟨rfl, b7⟩)
              go_ret
              exact ⟨rfl, B4.out.trans (b7.mono s4)⟩
      · clear h1
        go_wp2_with (go_at_call 10; refine (sane_any _).mono ?_; rintro e w6 ⟨rfl, b7⟩)
        go_ret
        exact ⟨rfl, b1.trans (b7.mono s1)⟩
    · have Hn := Lib.hid hn
      clear hn
      go_enter Try.func5, Try.ntmps5
      go_wp2_with fail
      refine (played_no Hn.out Hd.out).mono ?_
      rintro e w1 ⟨rfl, rfl⟩
      go_wp2_with (go_at_call 10; refine (sane_any _).mono ?_; rintro e w6 ⟨rfl, b7⟩)
      go_ret
      exact ⟨rfl, b7⟩
  · go_enter Try.func5, Try.ntmps5
    go_wp2_with (go_at_call 10; refine (sane_any _).mono ?_; rintro e w6 ⟨rfl, b7⟩)
    go_ret
    exact ⟨rfl, b7⟩
end Go.Proofs.Ytiokifkppfegfaa
