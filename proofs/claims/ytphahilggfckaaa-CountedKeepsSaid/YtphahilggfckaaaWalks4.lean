/-
  The walks of the manager's functions.
-/
import Derived.Test.YtphahilggfckaaaWalks3
set_option linter.unusedVariables false
set_option linter.unusedSimpArgs false
namespace Go.Proofs.Ytphahilggfckaaa
open Go.RowKit Mem Qm
set_option maxRecDepth 100000

/-- What is small enough, behind at most k deeds. -/
structure Good (q : Q) (k : Nat) : Prop where
  n4 : q.n ≤ 4
  len : q.ws.length ≤ k
  hwf : ∀ x ∈ q.hs, Wf x
  wf : ∀ x ∈ q.ws, Wf x
theorem wf0 : Wf 0 := wf_of (by decide) (by decide)
theorem good_put {q : Q} {j : Nat} (h : Good q j) (t k : Nat) {a : Int} (ha : Wf a) : Good (q.put t k a) j := ⟨h.n4, h.len, fun x hx => by
  rcases List.mem_or_eq_of_mem_set hx with h1 | h1
  · exact h.hwf x h1
  · rw [h1]; exact ha, h.wf⟩
theorem good_loose {q : Q} {j : Nat} (h : Good q j) : Good q.loose j := ⟨h.n4, Nat.le_trans (lefts_le q q.ws) h.len, h.hwf, fun x hx => h.wf x (List.mem_filter.1 hx).1⟩
theorem good_add {q : Q} {j : Nat} (h : Good q j) {a : Int} (ha : Wf a) : Good (q.add a) (j + 1) := ⟨h.n4, by have := h.len; simp [Q.add]; omega, h.hwf, fun x hx => by
  rcases List.mem_append.1 hx with h1 | h1
  · exact h.wf x h1
  · rw [List.mem_singleton.1 h1]; exact ha⟩
theorem Good.mono {q : Q} {j i : Nat} (h : Good q j) (hi : j ≤ i) : Good q i := ⟨h.n4, Nat.le_trans h.len hi, h.hwf, h.wf⟩
def outTo (q : Q) (t : Nat) : Nat → Q
  | 0 => q
  | j + 1 => (outTo q t j).put t j 0
theorem outTo_n (q : Q) (t : Nat) : ∀ j, (outTo q t j).n = q.n
  | 0 => rfl
  | j + 1 => outTo_n q t j
theorem outTo_ws (q : Q) (t : Nat) : ∀ j, (outTo q t j).ws = q.ws
  | 0 => rfl
  | j + 1 => outTo_ws q t j
theorem good_outTo {q : Q} {i : Nat} (h : Good q i) (t : Nat) : ∀ j, Good (outTo q t j) i
  | 0 => h
  | j + 1 => good_put (good_outTo h t j) t j wf0
def Did (w : World) (B g gh b N : Nat) (v : Value) (r : Q × List Int × Int) (e : Ending) (w' : World) : Prop :=
  ∃ u v' N', e = res u r.2.2 ∧ Own w' w.heap.size u r.2.1 ∧ IsC w' B g gh b N' v' r.1 ∧ N' ≤ N + 6 ∧ Kept w w' (foot g gh b v) ∧ Moved w v v'
instance (q : Q) (t : Int) : Decidable (q.ok t) := by unfold Q.ok; infer_instance
def inQ (q : Q) (t : Int) : Q × List Int × Int := if q.ok t then (q, [], 0) else (q, [], 1)
def Q.out (q : Q) (t : Int) : Q := (outTo q t.toNat 3).loose
def Q.outBack (q : Q) (t : Int) : List Int := backs (outTo q t.toNat 3) q.ws
def outQ (q : Q) (t : Int) : Q × List Int × Int := if q.ok t then (Q.out q t, Q.outBack q t, 0) else (q, [], 1)
def Q.held (q : Q) (t k a : Int) : Q := q.put t.toNat k.toNat a
def holdQ (q : Q) (t k a : Int) : Q × List Int × Int := if q.ok t ∧ 0 ≤ k ∧ k < 3 ∧ 0 ≤ a then ((Q.held q t k a).loose, backs (Q.held q t k a) q.ws, 0) else (q, [], 1)
def bornQ (q : Q) (a : Int) : Int := if q.ok 0 ∧ 0 < a then 0 else 1
def retQ (q : Q) (t a : Int) : Q × List Int × Int := if q.ok t ∧ 0 < a then (if hasB q.ws a then (q, [], 6) else ((q.add a).loose, backs (q.add a) (q.add a).ws, 0)) else (q, [], 1)
def restQ (q : Q) : Q × List Int × Int := if q.ok 0 then (q.loose, backs q q.ws, 0) else (q, [], 0)
section
variable {w : World} {B g gh b N : Nat} {v : Value} {q : Q}
theorem not_ok (h : IsC w B g gh b N v q) {t : Int} (ht : ¬ q.ok t) : NoT w (.pointer (some ⟨g, 0, none⟩)) t := .inr (.inr ⟨B, g, gh, b, N, v, q, rfl, h, ht⟩)
theorem Did.same {e : Ending} {w' : World} {x : Int} (h : IsC w B g gh b N v q) (he : e = res (.slice none 0 0) x) (hb : Below w.heap.size w w') : Did w B g gh b N v (q, [], x) e w' :=
  ⟨_, v, N, he, Own.nil _ _, h.below hb, by omega, Kept.of_below hb _, fun _ h => .inl h⟩
theorem Did.of_loosed {e : Ending} {w' : World} {l : List Int} {q' : Q} {M : Nat} (h : Loosed w B g gh b M v l q' (fun u => res u 0) e w') (hM : M ≤ N + 6) : Did w B g gh b N v (q', l, 0) e w' := by
  obtain ⟨u, v', h1, h2, h3, h4, h5⟩ := h
  exact ⟨u, v', M, h1, h2, h3, hM, h4, h5⟩
theorem Loosed.after {w1 : World} {M : Nat} {l : List Int} {q' : Q} {F : Value → Ending} {e : Ending} {w' : World} (h : Loosed w1 B g gh b M v l q' F e w') (hk : Kept w w1 (foot g gh b v)) : Loosed w B g gh b M v l q' F e w' := by
  obtain ⟨u, v', he, ho, hi, hk2, hm⟩ := h
  exact ⟨u, v', he, Row.mono ho hk.size, hi, hk.trans hk2 (fun _ _ h => h), fun i hi => (hm i hi).imp id (fun h => Nat.le_trans hk.size h)⟩
theorem in_no {w : World} {p : Value} {t : Int} (h : NoT w p t) :
    Calls Try.prog 30 #[p, .int .i64 t] w fun e w' => e = res (.slice none 0 0) 1 ∧ w = w' := by
  have H := Lib.hid h
  clear h
  go_enter Try.func30, Try.ntmps30
  go_wp2_with (go_at_call 33; refine (has_not H.out).mono ?_; rintro e w' ⟨rfl, rfl⟩)
  go_ret2
  exact ⟨rfl, rfl⟩
theorem in_did (h : IsC w B g gh b N v q) (t : Int) : Calls Try.prog 30 #[.pointer (some ⟨g, 0, none⟩), .int .i64 t] w (Did w B g gh b N v (inQ q t)) := by
  by_cases ht : q.ok t
  · have HQ := Lib.hid (show inQ q t = (q, [], 0) from if_pos ht)
    have Ht := Lib.hid ht
    clear ht
    go_enter Try.func30, Try.ntmps30
    go_wp2_with (go_at_call 33; refine (has_yes h _ Ht.out).mono ?_; rintro e w' ⟨rfl, rfl⟩)
    go_ret2
    rw [HQ.out]
    exact Did.same h rfl (Below.refl _ _)
  · rw [show inQ q t = (q, [], 1) from if_neg ht]
    exact (in_no (not_ok h ht)).mono fun e w' ⟨he, hw⟩ => by subst hw; exact Did.same h he (Below.refl _ _)
theorem out_no {w : World} {p : Value} {t : Int} (h : NoT w p t) :
    Calls Try.prog 29 #[p, .int .i64 t] w fun e w' => e = res (.slice none 0 0) 1 ∧ w = w' := by
  have H := Lib.hid h
  clear h
  go_enter Try.func29, Try.ntmps29
  go_wp2_with (go_at_call 33; refine (has_not H.out).mono ?_; rintro e w' ⟨rfl, rfl⟩)
  go_ret2
  exact ⟨rfl, rfl⟩
set_option maxHeartbeats 1000000 in
theorem out_did (h : IsC w B g gh b N v q) {i : Nat} (hg : Good q i) (hi : i < 900000) (hN : N < 800000) (hBw : B ≤ w.heap.size) (t : Int) : Calls Try.prog 29 #[.pointer (some ⟨g, 0, none⟩), .int .i64 t] w (Did w B g gh b N v (outQ q t)) := by
  by_cases ht : q.ok t
  · have HQ := Lib.hid (show outQ q t = (Q.out q t, Q.outBack q t, 0) from if_pos ht)
    obtain ⟨t0, rfl⟩ : ∃ k : Nat, t = k := ⟨t.toNat, by have := ht.1; omega⟩
    have ht0 : t0 < q.n := by have := ht.2; omega
    have Ht := Lib.hid ht
    have HG := Lib.hid hg
    have hlen := hg.len
    have H := Lib.hid h
    clear ht hg h
    go_enter Try.func29, Try.ntmps29
    go_wp2_with fail
    refine (has_yes H.out _ Ht.out).mono ?_
    rintro e w1 ⟨rfl, rfl⟩
    go_wp2_with fail
    go_loopw [11] (fun i wr => ∃ j : Nat, j ≤ 3 ∧ i = .int .i64 j ∧ IsC wr B g gh b (N + 2 * j) v (outTo q t0 j) ∧ Kept w wr (foot g gh b v)) (fun i _ => 3 - (intOf i).toNat)
    case atStart => exact ⟨0, by omega, rfl, H.out, Kept.refl _ _⟩
    case round =>
      obtain ⟨j, hj, rfl, hi1, hk1⟩ := hrel
      have HK := Lib.hid hk1
      have HI := Lib.hid hi1
      have hsz := hk1.size
      clear hi1 hk1
      by_cases hj3 : j < 3
      · have hGj := Lib.hid (good_outTo HG.out t0 j)
        have hnj := outTo_n q t0 j
        have Hn := Lib.hid (show t0 < (outTo q t0 j).n by rw [hnj]; exact ht0)
        have Hn4 := Lib.hid (show (outTo q t0 j).n ≤ 4 from hGj.out.n4)
        clear hnj
        go_wp2_with fail
        refine (set_any HI.out Hn4.out (by omega) Hn.out hj3 0 wf0 hGj.out.hwf).mono ?_
        rintro e w2 ⟨rfl, hi2, hk2⟩
        have HI2 := Lib.hid (show IsC w2 B g gh b (N + 2 * (j + 1)) v (outTo q t0 (j + 1)) from hi2.mono (by omega))
        have HK2 := Lib.hid (HK.out.trans hk2 (fun i _ e => e.elim (fun e => .inr (.inl e)) (fun e => .inr (.inr (.inl e)))))
        clear hi2 hk2
        go_wp2
        go_roundw
        case measure => simp [intOf]; omega
        case rel => exact ⟨j + 1, by omega, by go_num, HI2.out, HK2.out⟩
      · have hje : j = 3 := by omega
        have HI3 := Lib.hid (show IsC wr B g gh b (N + 6) v (outTo q t0 3) by have := HI.out; rw [hje] at this; exact this)
        have hG3 := Lib.hid (good_outTo HG.out t0 3)
        clear hje
        go_wp2_with fail
        refine ((loose_any HI3.out (Nat.le_trans hBw hsz) (by have := hG3.out.len; omega) hG3.out.wf).mono fun _ _ hs => hs.after HK.out).mono ?_
        rintro e w3 ⟨u, v', rfl, h1', h2, h3, h4'⟩
        have HH := Lib.hid (show Own w3 w.heap.size u _ ∧ IsC w3 B g gh b (N + 6) v' _ ∧ Kept w w3 (foot g gh b v) ∧ Moved w v v' from ⟨h1', h2, h3, h4'⟩)
        clear h1' h2 h3 h4'
        go_wp2
        go_ret2
        rw [HQ.out]
        obtain ⟨h1', h2, h3, h4'⟩ := HH.out
        rw [outTo_ws] at h1'
        exact ⟨u, v', N + 6, rfl, h1', h2, Nat.le_refl _, h3, h4'⟩
  · rw [show outQ q t = (q, [], 1) from if_neg ht]
    exact (out_no (not_ok h ht)).mono fun e w' ⟨he, hw⟩ => by subst hw; exact Did.same h he (Below.refl _ _)
theorem hold_no {w : World} {p : Value} {t k a : Int} (h : NoT w p t) :
    Calls Try.prog 26 #[p, .int .i64 t, .int .i64 k, .int .i64 a] w fun e w' => e = res (.slice none 0 0) 1 ∧ w = w' := by
  have H := Lib.hid h
  clear h
  go_enter Try.func26, Try.ntmps26
  go_wp2_with (go_at_call 33; refine (has_not H.out).mono ?_; rintro e w' ⟨rfl, rfl⟩)
  go_ret2
  exact ⟨rfl, rfl⟩
set_option maxHeartbeats 1000000 in
theorem hold_did (h : IsC w B g gh b N v q) {i : Nat} (hg : Good q i) (hi : i < 900000) (hN : N < 800000) (hBw : B ≤ w.heap.size) (t k a : Int) (haw : Wf a) : Calls Try.prog 26 #[.pointer (some ⟨g, 0, none⟩), .int .i64 t, .int .i64 k, .int .i64 a] w (Did w B g gh b N v (holdQ q t k a)) := by
  by_cases ht : q.ok t
  · have Ht := Lib.hid ht
    by_cases hb : 0 ≤ k ∧ k < 3 ∧ 0 ≤ a
    · have HQ := Lib.hid (show holdQ q t k a = ((Q.held q t k a).loose, backs (Q.held q t k a) q.ws, 0) from if_pos ⟨ht, hb⟩)
      obtain ⟨k0, k3, a0⟩ := hb
      obtain ⟨t0, rfl⟩ : ∃ k : Nat, t = k := ⟨t.toNat, by have := ht.1; omega⟩
      obtain ⟨j, rfl⟩ : ∃ j : Nat, k = j := ⟨k.toNat, by omega⟩
      have ht0 : t0 < q.n := by have := ht.2; omega
      have hj3 : j < 3 := by omega
      have HG := Lib.hid hg
      have hlen := hg.len
      have H := Lib.hid h
      have hn4 := hg.n4
      have HGP := Lib.hid (good_put hg t0 j haw)
      clear ht hg h
      go_enter Try.func26, Try.ntmps26
      go_wp2_with fail
      refine (has_yes H.out _ Ht.out).mono ?_
      rintro e w1 ⟨rfl, rfl⟩
      go_wp2_with fail
      refine (set_any H.out hn4 (by omega) ht0 hj3 a haw HG.out.hwf).mono ?_
      rintro e w2 ⟨rfl, hi2, hk2⟩
      have HI2 := Lib.hid hi2
      have HK2 := Lib.hid (hk2.mono (T := foot g gh b v) (fun i _ e => e.elim (fun e => .inr (.inl e)) (fun e => .inr (.inr (.inl e)))))
      have hsz := hk2.size
      clear hi2 hk2
      go_wp2_with fail
      refine ((loose_any HI2.out (Nat.le_trans hBw hsz) (by have := HGP.out.len; omega) HGP.out.wf).mono fun _ _ hs => hs.after HK2.out).mono ?_
      rintro e w3 ⟨u, v', rfl, h1', h2, h3, h4'⟩
      have HH := Lib.hid (show Own w3 w.heap.size u _ ∧ IsC w3 B g gh b (N + 2) v' _ ∧ Kept w w3 (foot g gh b v) ∧ Moved w v v' from ⟨h1', h2, h3, h4'⟩)
      clear h1' h2 h3 h4'
      go_wp2
      go_ret2
      rw [HQ.out]
      obtain ⟨h1', h2, h3, h4'⟩ := HH.out
      exact ⟨u, v', N + 2, rfl, h1', h2, by omega, h3, h4'⟩
    · have HQ := Lib.hid (show holdQ q t k a = (q, [], 1) from if_neg (fun x => hb x.2))
      clear ht
      by_cases h0 : 0 ≤ k
      · by_cases h1 : k < 3
        · have h2 : ¬ 0 ≤ a := fun h2 => hb ⟨h0, h1, h2⟩
          clear hb
          go_enter Try.func26, Try.ntmps26
          go_wp2_with (go_at_call 33; refine (has_yes h _ Ht.out).mono ?_; rintro e w' ⟨rfl, rfl⟩)
          go_ret2
          rw [HQ.out]
          exact Did.same h rfl (Below.refl _ _)
        · clear hb
          go_enter Try.func26, Try.ntmps26
          go_wp2_with (go_at_call 33; refine (has_yes h _ Ht.out).mono ?_; rintro e w' ⟨rfl, rfl⟩)
          go_ret2
          rw [HQ.out]
          exact Did.same h rfl (Below.refl _ _)
      · clear hb
        go_enter Try.func26, Try.ntmps26
        go_wp2_with (go_at_call 33; refine (has_yes h _ Ht.out).mono ?_; rintro e w' ⟨rfl, rfl⟩)
        go_ret2
        rw [HQ.out]
        exact Did.same h rfl (Below.refl _ _)
  · rw [show holdQ q t k a = (q, [], 1) from if_neg (fun x => ht x.1)]
    exact (hold_no (not_ok h ht)).mono fun e w' ⟨he, hw⟩ => by subst hw; exact Did.same h he (Below.refl _ _)
theorem born_no {w : World} {p : Value} {a : Int} (h : NoT w p 0) :
    Calls Try.prog 31 #[p, .int .i64 a] w fun e w' => e = .returned (.int .i64 1) ∧ w = w' := by
  have H := Lib.hid h
  clear h
  go_enter Try.func31, Try.ntmps31
  go_wp2_with (go_at_call 33; refine (has_not H.out).mono ?_; rintro e w' ⟨rfl, rfl⟩)
  go_ret
  exact ⟨rfl, rfl⟩
def ErrIs (w : World) (n : Int) (e : Ending) (w' : World) : Prop := e = .returned (.int .i64 n) ∧ w = w'
theorem born_did (h : IsC w B g gh b N v q) (a : Int) : Calls Try.prog 31 #[.pointer (some ⟨g, 0, none⟩), .int .i64 a] w (ErrIs w (bornQ q a)) := by
  by_cases ht : q.ok 0
  · have Ht := Lib.hid ht
    by_cases ha : 0 < a
    · have HQ := Lib.hid (show bornQ q a = 0 from if_pos ⟨ht, ha⟩)
      clear ht
      go_enter Try.func31, Try.ntmps31
      go_wp2_with (go_at_call 33; refine (has_yes h _ Ht.out).mono ?_; rintro e w' ⟨rfl, rfl⟩)
      go_ret
      exact ⟨by rw [HQ.out]; rfl, rfl⟩
    · have HQ := Lib.hid (show bornQ q a = 1 from if_neg (fun x => ha x.2))
      clear ht
      go_enter Try.func31, Try.ntmps31
      go_wp2_with (go_at_call 33; refine (has_yes h _ Ht.out).mono ?_; rintro e w' ⟨rfl, rfl⟩)
      go_ret
      exact ⟨by rw [HQ.out]; rfl, rfl⟩
  · rw [show bornQ q a = 1 from if_neg (fun x => ht x.1)]
    exact (born_no (not_ok h ht)).mono fun e w' h => h
theorem retire_no {w : World} {p : Value} {t a : Int} (h : NoT w p t) :
    Calls Try.prog 28 #[p, .int .i64 t, .int .i64 a] w fun e w' => e = res (.slice none 0 0) 1 ∧ w = w' := by
  have H := Lib.hid h
  clear h
  go_enter Try.func28, Try.ntmps28
  go_wp2_with (go_at_call 33; refine (has_not H.out).mono ?_; rintro e w' ⟨rfl, rfl⟩)
  go_ret2
  exact ⟨rfl, rfl⟩
set_option maxHeartbeats 1000000 in
theorem ret_did (h : IsC w B g gh b N v q) {i : Nat} (hg : Good q i) (hi : i < 900000) (hBw : B ≤ w.heap.size) (t a : Int) (haw : Wf a) : Calls Try.prog 28 #[.pointer (some ⟨g, 0, none⟩), .int .i64 t, .int .i64 a] w (Did w B g gh b N v (retQ q t a)) := by
  by_cases ht : q.ok t
  · have Ht := Lib.hid ht
    by_cases ha : 0 < a
    · have HQ := Lib.hid (show retQ q t a = if hasB q.ws a = true then (q, [], 6) else ((q.add a).loose, backs (q.add a) (q.add a).ws, 0) from if_pos ⟨ht, ha⟩)
      have H := Lib.hid h
      have c2 := h.blk.cell 2 rfl
      have hlen := hg.len
      have HG := Lib.hid (good_add hg haw)
      clear ht hg h
      go_enter Try.func28, Try.ntmps28
      go_wp2_with fail
      refine (has_yes H.out _ Ht.out).mono ?_
      rintro e w1 ⟨rfl, rfl⟩
      go_wp2_with fail
      refine (contains_any (x := a) (Row.rd H.out.row)).mono ?_
      rintro e w1 ⟨rfl, rfl⟩
      cases hd : hasB q.ws a with
      | true =>
        have HD := Lib.hid hd
        clear hd
        go_wp2
        go_ret2
        rw [HQ.out, if_pos HD.out]
        exact Did.same H.out rfl (Below.refl _ _)
      | false =>
        have HD := Lib.hid hd
        clear hd
        go_wp2_with (at_builtin; refine wpList_append_int rfl (.tmp 26) (.tmp 28) rfl Try.underlying42 info3 B v q.ws _ _ rfl H.out.row rfl ?c1 hBw (by omega) ?_)
        case c1 => rfl
        intro v2 w2 hr2 hk2 hm2
        have hb2 := H.out.blk.keep hk2 (fun e => H.out.ne_v e)
        have e2 := hb2.cell 2 rfl
        have f2 := hb2.free 2
        obtain ⟨A2, cc2, hv2, _, _⟩ := Row.shape hr2
        rw [show (q.ws ++ [a]).length = q.ws.length + 1 by simp] at hv2
        subst hv2
        have kk : Kept w2 (w2.setCell ⟨g, 2, none⟩ (.slice A2 (q.ws.length + 1) cc2)) (fun i => i = g) := (Kept.refl w2 (fun i => i = g)).setCell (p := ⟨g, 2, none⟩) (.inl rfl) _
        have hh2 := H.out.hold.keep hk2 (fun e => H.out.ne_vh e)
        have hm2' := H.out.map.keep hk2 (fun e => H.out.ne_vm e)
        have HI3 := Lib.hid (show IsC (w2.setCell ⟨g, 2, none⟩ (.slice A2 (q.ws.length + 1) cc2)) B g gh b N (.slice A2 (q.ws.length + 1) cc2) (q.add a) from
          ⟨H.out.lo, H.out.loh, H.out.lob, hb2.set 2 _, hh2.keep kk H.out.ne_h, hm2'.keep kk H.out.ne_m, Row.keep hr2 kk (fun i hi e => Row.ne_blk hr2 hb2 (by decide) (e ▸ hi)), H.out.len⟩)
        have HK3 := Lib.hid (show Kept w (w2.setCell ⟨g, 2, none⟩ (.slice A2 (q.ws.length + 1) cc2)) (foot g gh b v) from (hk2.mono (T := foot g gh b v) (fun i _ e => .inr (.inr (.inr e)))).trans kk (fun i _ e => .inl e))
        have HM2 := Lib.hid hm2
        have s3 := HK3.out.size
        clear hb2 hr2 hk2 hm2 kk hh2 hm2'
        go_wp2_with fail
        refine (loose_any HI3.out (Nat.le_trans hBw s3) (by have := HG.out.len; omega) HG.out.wf).mono ?_
        rintro e w4 ⟨u, v', rfl, ho, hi4, hk4, hm4⟩
        have HO := Lib.hid ho
        have HI4 := Lib.hid hi4
        have HK4 := Lib.hid hk4
        have HM4 := Lib.hid hm4
        clear ho hi4 hk4 hm4
        go_wp2
        go_ret2
        rw [HQ.out, if_neg (by rw [HD.out]; decide)]
        refine ⟨u, v', N, rfl, Row.mono HO.out s3, HI4.out, by omega, HK3.out.trans HK4.out (fun i hlt hf => ?_), fun i hi => ?_⟩
        · rcases hf with h1 | h1 | h1 | h1
          · exact .inl h1
          · exact .inr (.inl h1)
          · exact .inr (.inr (.inl h1))
          · rcases HM2.out i h1 with e | e
            · exact .inr (.inr (.inr e))
            · omega
        · rcases HM4.out i hi with e | e
          · exact HM2.out i e
          · exact .inr (by omega)
    · have HQ := Lib.hid (show retQ q t a = (q, [], 1) from if_neg (fun x => ha x.2))
      clear ht
      go_enter Try.func28, Try.ntmps28
      go_wp2_with (go_at_call 33; refine (has_yes h _ Ht.out).mono ?_; rintro e w' ⟨rfl, rfl⟩)
      go_ret2
      rw [HQ.out]
      exact Did.same h rfl (Below.refl _ _)
  · rw [show retQ q t a = (q, [], 1) from if_neg (fun x => ht x.1)]
    exact (retire_no (not_ok h ht)).mono fun e w' ⟨he, hw⟩ => by subst hw; exact Did.same h he (Below.refl _ _)
theorem rest_no {w : World} {p : Value} (h : NoT w p 0) :
    Calls Try.prog 25 #[p] w fun e w' => e = .returned (.slice none 0 0) ∧ w = w' := by
  have H := Lib.hid h
  clear h
  go_enter Try.func25, Try.ntmps25
  go_wp2_with (go_at_call 33; refine (has_not H.out).mono ?_; rintro e w' ⟨rfl, rfl⟩)
  go_ret
  exact ⟨rfl, rfl⟩
theorem rest_yes (h : IsC w B g gh b N v q) (ht : q.ok 0) (hBw : B ≤ w.heap.size) (hl : q.ws.length < 1000000) (hwf : ∀ x ∈ q.ws, Wf x) :
    Calls Try.prog 25 #[.pointer (some ⟨g, 0, none⟩)] w (Loosed w B g gh b N v (backs q q.ws) q.loose .returned) := by
  have H := Lib.hid ht
  have HW := Lib.hid hwf
  clear ht hwf
  go_enter Try.func25, Try.ntmps25
  go_wp2_with fail
  refine (has_yes h _ H.out).mono ?_
  rintro e w1 ⟨rfl, rfl⟩
  go_wp2_with fail
  refine (loose_any h hBw hl HW.out).mono ?_
  rintro e w1 ⟨u, v', rfl, h1, h2, h3, h4⟩
  have HH := Lib.hid (show Own w1 w.heap.size u (backs q q.ws) ∧ IsC w1 B g gh b N v' q.loose ∧ Kept w w1 (foot g gh b v) ∧ Moved w v v' from ⟨h1, h2, h3, h4⟩)
  clear h1 h2 h3 h4
  go_wp2
  go_ret
  exact ⟨u, v', rfl, HH.out⟩
theorem waiting_no {w : World} {p : Value} (h : NoT w p 0) :
    Calls Try.prog 22 #[p] w fun e w' => e = .returned (.slice none 0 0) ∧ w = w' := by
  have H := Lib.hid h
  clear h
  go_enter Try.func22, Try.ntmps22
  go_wp2_with (go_at_call 33; refine (has_not H.out).mono ?_; rintro e w' ⟨rfl, rfl⟩)
  go_ret
  exact ⟨rfl, rfl⟩
theorem waiting_yes (h : IsC w B g gh b N v q) (ht : q.ok 0) (hl : q.ws.length < 1000000) :
    Calls Try.prog 22 #[.pointer (some ⟨g, 0, none⟩)] w (Gives q.ws w) := by
  have H := Lib.hid ht
  have c2 := h.blk.cell 2 rfl
  clear ht
  go_enter Try.func22, Try.ntmps22
  go_wp2_with fail
  refine (has_yes h _ H.out).mono ?_
  rintro e w1 ⟨rfl, rfl⟩
  go_wp2_with fail
  refine (iclone_any h.row hl).mono ?_
  rintro e w1 ⟨u, rfl, ho, hb⟩
  have HO := Lib.hid ho
  have HB := Lib.hid hb
  clear ho hb
  go_wp2
  go_ret
  exact ⟨u, rfl, HO.out, HB.out⟩
theorem count_no {w : World} {p : Value} {a : Int} (h : NoT w p 0) :
    Calls Try.prog 17 #[p, .int .i64 a] w fun e w' => e = .returned (.int .i64 0) ∧ w = w' := by
  have H := Lib.hid h
  clear h
  go_enter Try.func17, Try.ntmps17
  go_wp2_with (go_at_call 33; refine (has_not H.out).mono ?_; rintro e w' ⟨rfl, rfl⟩)
  go_ret
  exact ⟨rfl, rfl⟩
theorem count_yes (h : IsC w B g gh b N v q) (ht : q.ok 0) {a : Int} (ha : Wf a) :
    Calls Try.prog 17 #[.pointer (some ⟨g, 0, none⟩), .int .i64 a] w fun e w' => e = .returned (.int .i64 (q.c a)) ∧ w = w' := by
  have H := Lib.hid ht
  have c1 := h.blk.cell 1 rfl
  have lk := MapI.look Try.underlying3 zero3 Try.underlying67 h.map ha
  clear ht ha
  go_enter Try.func17, Try.ntmps17
  go_wp2_with fail
  refine (has_yes h _ H.out).mono ?_
  rintro e w1 ⟨rfl, rfl⟩
  go_wp2
  go_ret
  exact ⟨rfl, rfl⟩
end
theorem bound_yes {w : World} {n : Int} (h0 : 1 ≤ n) (h1 : n ≤ 4) :
    Calls Try.prog 13 #[.int .i64 n] w fun e w' => e = .returned (.tuple #[.int .i64 (3 * n), .int .i64 0]) ∧ w = w' := by
  go_enter Try.func13, Try.ntmps13
  go_wp2
  go_ret2
  exact ⟨rfl, rfl⟩
theorem bound_no {w : World} {n : Int} (h : ¬ (1 ≤ n ∧ n ≤ 4)) :
    Calls Try.prog 13 #[.int .i64 n] w fun e w' => e = .returned (.tuple #[.int .i64 0, .int .i64 1]) ∧ w = w' := by
  by_cases h0 : n < 1
  · go_enter Try.func13, Try.ntmps13
    go_wp2
    go_ret2
    exact ⟨rfl, rfl⟩
  · have h1 : 4 < n := by omega
    clear h
    go_enter Try.func13, Try.ntmps13
    go_wp2
    go_ret2
    exact ⟨rfl, rfl⟩
end Go.Proofs.Ytphahilggfckaaa
