/-
  One deed at a manager: what it makes of it, as plain data; the walk of the law's 'done'.
-/
import Derived.Test.YtiokifkppfegfaaWalks6
set_option linter.unusedVariables false
set_option linter.unusedSimpArgs false
namespace Go.Proofs.Ytiokifkppfegfaa
open Go.RowKit Mem Qm
set_option maxRecDepth 100000

instance (q : Q) (t : Int) : Decidable (q.ok t) := by unfold Q.ok; infer_instance
/-- A deed: what, which thread, which hold, which address. -/
structure Deed where
  what : Int
  th : Int
  ho : Int
  ad : Int
def inQ (q : Q) (t : Int) : Q × List Int × Int := if q.ok t then (q.in_ t, [], 0) else (q, [], 1)
def outQ (q : Q) (t : Int) : Q × List Int × Int := if q.ok t then (q.out t, q.outBack t, 0) else (q, [], 1)
def holdQ (q : Q) (t k a : Int) : Q × List Int × Int := if q.ok t ∧ 0 ≤ k ∧ k < 3 ∧ 0 ≤ a then (q.hold t k a, [], 0) else (q, [], 1)
def bornQ (q : Q) (a : Int) : Q × List Int × Int := if q.ok 0 ∧ 0 < a then (q.born a, [], 0) else (q, [], 1)
def retQ (q : Q) (t a : Int) : Q × List Int × Int := if q.ok t ∧ 0 < a then (if hasB (addrs q.ws) a then (q, [], 6) else ((q.add a).swept, backs (q.add a) (q.add a).ws, 0)) else (q, [], 1)
def restQ (q : Q) : Q × List Int × Int := if q.ok 0 then (q.swept, backs q q.ws, 0) else (q, [], 0)
def stepQ (q : Q) (d : Deed) : Q × List Int × Int :=
  if d.what = 0 then inQ q d.th else if d.what = 1 then outQ q d.th else if d.what = 2 then holdQ q d.th d.ho d.ad else if d.what = 3 then bornQ q d.ad else if d.what = 4 then retQ q d.th d.ad else if d.what = 5 then restQ q else (q, [], 0)
/-- What is small enough, behind at most k deeds. -/
structure Good (q : Q) (k : Nat) : Prop where
  n4 : q.n ≤ 4
  e0 : 0 ≤ q.era
  e1 : q.era ≤ k
  nb : q.nb ≤ k
  len : q.ws.length ≤ k
  wf : ∀ x ∈ q.ws, Wf x.a
theorem Good.mono {q : Q} {k j : Nat} (h : Good q k) (hj : k ≤ j) : Good q j := ⟨h.n4, h.e0, by have := h.e1; omega, by have := h.nb; omega, by have := h.len; omega, h.wf⟩
theorem good_put {q : Q} {k : Nat} (h : Good q k) (t : Int) (s : Sn) : Good (q.put t s) k := ⟨h.n4, h.e0, h.e1, h.nb, h.len, h.wf⟩
theorem good_swept {q : Q} {k : Nat} (h : Good q k) : Good q.swept k := ⟨h.n4, h.e0, h.e1, h.nb, Nat.le_trans (lefts_le q q.ws) h.len, fun x hx => h.wf x (List.mem_filter.1 hx).1⟩
theorem good_born {q : Q} {k : Nat} (h : Good q k) (a : Int) : Good (q.born a) (k + 1) := ⟨h.n4, by have := h.e0; simp only [Q.born]; omega, by have := h.e1; simp only [Q.born]; omega, by have := h.nb; simp only [Q.born]; omega, by have := h.len; simp only [Q.born]; omega, h.wf⟩
theorem good_add {q : Q} {k : Nat} (h : Good q k) {a : Int} (ha : Wf a) : Good (q.add a) (k + 1) := ⟨h.n4, h.e0, by have := h.e1; simp only [Q.add]; omega, by have := h.nb; simp only [Q.add]; omega, by have := h.len; simp [Q.add]; omega, fun x hx => by
  rcases List.mem_append.1 hx with h' | h'
  · exact h.wf x h'
  · rw [List.mem_singleton.1 h']; exact ha⟩
theorem good_hold {q : Q} {k : Nat} (h : Good q k) (t i a : Int) : Good (q.hold t i a) k := by
  unfold Q.hold
  split
  · exact good_put h _ _
  · exact h
theorem good_step {q : Q} {k : Nat} (h : Good q k) {d : Deed} (hd : Wf d.ad) : Good (stepQ q d).1 (k + 1) := by
  have h1 := h.mono (Nat.le_succ k)
  unfold stepQ
  split
  · unfold inQ; split
    · exact good_put h1 _ _
    · exact h1
  split
  · unfold outQ; split
    · exact good_swept (good_put h1 _ _)
    · exact h1
  split
  · unfold holdQ; split
    · exact good_hold h1 _ _ _
    · exact h1
  split
  · unfold bornQ; split
    · exact good_born h _
    · exact h1
  split
  · unfold retQ; split
    · split
      · exact h1
      · exact good_swept (good_add h hd)
    · exact h1
  split
  · unfold restQ; split
    · exact good_swept h1
    · exact h1
  · exact h1
/-- What a deed leaves: a list, an error, the manager. -/
def Did (w : World) (B g b : Nat) (v : Value) (r : Q × List Int × Int) (e : Ending) (w' : World) : Prop :=
  ∃ u v', e = res u r.2.2 ∧ Own w' w.heap.size u r.2.1 ∧ IsS w' B g b v' r.1 ∧ Kept w w' (foot g b v) ∧ Moved w v v'
theorem Did.same {w w' : World} {B g b : Nat} {v : Value} {q : Q} {e : Ending} {err : Int} (h : IsS w B g b v q) (he : e = res (.slice none 0 0) err) (hb : Below w.heap.size w w') : Did w B g b v (q, [], err) e w' :=
  ⟨_, v, he, Own.nil _ _, h.below hb, Kept.of_below hb _, fun _ hk => .inl hk⟩
theorem Did.of_swept {w w' : World} {B g b : Nat} {v : Value} {q : Q} {l : List Int} {e : Ending} (h : Swept w B g b v l q (fun u => res u 0) e w') : Did w B g b v (q, l, 0) e w' := h
theorem Did.alloc {w w' : World} {o : Obj} {B g b : Nat} {v : Value} {r : Q × List Int × Int} {e : Ending} (h : Did (w.alloc o) B g b v r e w') : Did w B g b v r e w' := by
  obtain ⟨u, v', he, ho, hi, hk, hm⟩ := h
  refine ⟨u, v', he, Row.mono ho (by simp), hi, ((Kept.refl w _).alloc o).trans hk (fun _ _ => id), fun k hk' => ?_⟩
  rcases hm k hk' with h | h
  · exact .inl h
  · exact .inr (by simp at h; omega)
section
variable {w : World} {B g b : Nat} {v : Value} {q : Q}
theorem not_ok (h : IsS w B g b v q) {t : Int} (ht : ¬ q.ok t) : NoT w (.pointer (some ⟨g, 0, none⟩)) t := .inr (.inr ⟨B, g, b, v, q, rfl, h, ht⟩)
theorem in_did (h : IsS w B g b v q) (h4 : q.n ≤ 4) (t : Int) : Calls Try.prog 28 #[.pointer (some ⟨g, 0, none⟩), .int .i64 t] w (Did w B g b v (inQ q t)) := by
  unfold inQ
  split
  · rename_i ht
    exact (in_yes h t ht h4).mono fun e w' ⟨he, hi, hk⟩ => ⟨_, v, he, Own.nil _ _, hi, hk, fun _ hk => .inl hk⟩
  · rename_i ht
    refine (in_no (not_ok h ht)).mono fun e w' ⟨he, hw⟩ => ?_
    subst hw
    exact Did.same h he (Below.refl _ _)
theorem out_did (h : IsS w B g b v q) {k : Nat} (hg : Good q k) (hk : k < 900000) (hB : B ≤ w.heap.size) (t : Int) : Calls Try.prog 16 #[.pointer (some ⟨g, 0, none⟩), .int .i64 t] w (Did w B g b v (outQ q t)) := by
  unfold outQ
  split
  · rename_i ht
    exact (out_yes h t ht hg.n4 hB (by have := hg.len; omega) hg.wf).mono fun e w' hs => Did.of_swept hs
  · rename_i ht
    refine (out_no (not_ok h ht)).mono fun e w' ⟨he, hw⟩ => ?_
    subst hw
    exact Did.same h he (Below.refl _ _)
theorem hold_did (h : IsS w B g b v q) (h4 : q.n ≤ 4) (t k a : Int) : Calls Try.prog 30 #[.pointer (some ⟨g, 0, none⟩), .int .i64 t, .int .i64 k, .int .i64 a] w (Did w B g b v (holdQ q t k a)) := by
  unfold holdQ
  by_cases ht : q.ok t
  · by_cases hb : 0 ≤ k ∧ k < 3 ∧ 0 ≤ a
    · rw [if_pos ⟨ht, hb⟩]
      exact (hold_yes h t k a ht h4 hb.1 hb.2.1 hb.2.2).mono fun e w' ⟨he, hi, hk⟩ => ⟨_, v, he, Own.nil _ _, hi, hk, fun _ hk => .inl hk⟩
    · rw [if_neg (fun x => hb x.2)]
      refine (hold_bad h t k a ht hb).mono fun e w' ⟨he, hw⟩ => ?_
      subst hw
      exact Did.same h he (Below.refl _ _)
  · rw [if_neg (fun x => ht x.1)]
    refine (hold_no (not_ok h ht)).mono fun e w' ⟨he, hw⟩ => ?_
    subst hw
    exact Did.same h he (Below.refl _ _)
/-- An error alone. -/
def Err (w : World) (B g b : Nat) (v : Value) (r : Q × List Int × Int) (e : Ending) (w' : World) : Prop := e = .returned (.int .i64 r.2.2) ∧ r.2.1 = [] ∧ IsS w' B g b v r.1 ∧ Kept w w' (foot g b v)
theorem born_did (h : IsS w B g b v q) {k : Nat} (hg : Good q k) (hk : k < 900000) (a : Int) (haw : Wf a) : Calls Try.prog 19 #[.pointer (some ⟨g, 0, none⟩), .int .i64 a] w (Err w B g b v (bornQ q a)) := by
  unfold bornQ
  by_cases ht : q.ok 0
  · by_cases ha : 0 < a
    · rw [if_pos ⟨ht, ha⟩]
      exact (born_yes h a ht ha haw hg.e0 (by have := hg.e1; omega) (by have := hg.nb; omega)).mono fun e w' ⟨he, hi, hk⟩ => ⟨he, rfl, hi, hk⟩
    · rw [if_neg (fun x => ha x.2)]
      exact (born_bad h a ht ha).mono fun e w' ⟨he, hw⟩ => ⟨he, rfl, hw ▸ h, hw ▸ Kept.refl _ _⟩
  · rw [if_neg (fun x => ht x.1)]
    exact (born_no (not_ok h ht)).mono fun e w' ⟨he, hw⟩ => ⟨he, rfl, hw ▸ h, hw ▸ Kept.refl _ _⟩
theorem ret_did (h : IsS w B g b v q) {k : Nat} (hg : Good q k) (hk : k < 800000) (hB : B ≤ w.heap.size) (t a : Int) (haw : Wf a) : Calls Try.prog 17 #[.pointer (some ⟨g, 0, none⟩), .int .i64 t, .int .i64 a] w (Did w B g b v (retQ q t a)) := by
  unfold retQ
  have hl := hg.len
  by_cases ht : q.ok t
  · by_cases ha : 0 < a
    · rw [if_pos ⟨ht, ha⟩]
      cases hd : hasB (addrs q.ws) a with
      | true =>
        rw [if_pos rfl]
        exact (retire_dup h t a ht ha (by omega) hd).mono fun e w' ⟨he, hb⟩ => Did.same h he hb
      | false =>
        rw [if_neg (by decide)]
        exact (retire_yes h t a ht ha haw hB (by omega) hg.wf hd).mono fun e w' hs => Did.of_swept hs
    · rw [if_neg (fun x => ha x.2)]
      refine (retire_bad h t a ht ha).mono fun e w' ⟨he, hw⟩ => ?_
      subst hw
      exact Did.same h he (Below.refl _ _)
  · rw [if_neg (fun x => ht x.1)]
    refine (retire_no (not_ok h ht)).mono fun e w' ⟨he, hw⟩ => ?_
    subst hw
    exact Did.same h he (Below.refl _ _)
/-- A list alone. -/
def Lst (w : World) (B g b : Nat) (v : Value) (r : Q × List Int × Int) (e : Ending) (w' : World) : Prop := r.2.2 = 0 ∧ ∃ u v', e = .returned u ∧ Own w' w.heap.size u r.2.1 ∧ IsS w' B g b v' r.1 ∧ Kept w w' (foot g b v) ∧ Moved w v v'
theorem rest_did (h : IsS w B g b v q) {k : Nat} (hg : Good q k) (hk : k < 900000) (hB : B ≤ w.heap.size) : Calls Try.prog 27 #[.pointer (some ⟨g, 0, none⟩)] w (Lst w B g b v (restQ q)) := by
  unfold restQ
  split
  · rename_i ht
    exact (rest_yes h ht hB (by have := hg.len; omega) hg.wf).mono fun e w' hs => ⟨rfl, hs⟩
  · rename_i ht
    exact (rest_no (not_ok h ht)).mono fun e w' ⟨he, hw⟩ => ⟨rfl, _, v, he, Own.nil _ _, hw ▸ h, hw ▸ Kept.refl _ _, fun _ hk => .inl hk⟩
end
def deedV (d : Deed) : Value := .agg #[.int .i64 d.what, .int .i64 d.th, .int .i64 d.ho, .int .i64 d.ad]
set_option maxHeartbeats 1000000 in
theorem done_did {w : World} {B g b : Nat} {v : Value} {q : Q} (h : IsS w B g b v q) {k : Nat} (hg : Good q k) (hk : k < 800000) (hB : B ≤ w.heap.size) (d : Deed) (hwd : Wf d.ad) :
    Calls Try.prog 12 #[.pointer (some ⟨g, 0, none⟩), deedV d] w (Did w B g b v (stepQ q d)) := by
  have h' : ∀ o : Obj, IsS (w.alloc o) B g b v q := fun o => h.below ((Below.refl _ _).alloc (Nat.le_refl _) o)
  have hB' : ∀ o : Obj, B ≤ (w.alloc o).heap.size := fun o => by simp; omega
  have H := Lib.hid h'
  have HB := Lib.hid hB'
  have HG := Lib.hid hg
  have HW := Lib.hid hwd
  obtain ⟨what, th, ho, ad⟩ := d
  clear h' hB' h hg hwd
  simp only [deedV, stepQ]
  by_cases e0 : what = 0
  · subst e0
    go_enter Try.func12, Try.ntmps12
    go_wp2_with (go_at_call 28; refine (in_did (H.out _) HG.out.n4 _).mono ?_; rintro e w' hd; obtain ⟨u, v', rfl, ho', hi, hk, hm⟩ := hd.alloc)
    go_ret2
    exact ⟨u, v', rfl, ho', hi, hk, hm⟩
  by_cases e1 : what = 1
  · subst e1
    go_enter Try.func12, Try.ntmps12
    go_wp2_with (go_at_call 16; refine (out_did (H.out _) HG.out (by omega) (HB.out _) _).mono ?_; rintro e w' hd; obtain ⟨u, v', rfl, ho', hi, hk, hm⟩ := hd.alloc)
    go_ret2
    exact ⟨u, v', rfl, ho', hi, hk, hm⟩
  by_cases e2 : what = 2
  · subst e2
    go_enter Try.func12, Try.ntmps12
    go_wp2_with (go_at_call 30; refine (hold_did (H.out _) HG.out.n4 _ _ _).mono ?_; rintro e w' hd; obtain ⟨u, v', rfl, ho', hi, hk, hm⟩ := hd.alloc)
    go_ret2
    exact ⟨u, v', rfl, ho', hi, hk, hm⟩
  by_cases e3 : what = 3
  · subst e3
    go_enter Try.func12, Try.ntmps12
    go_wp2_with fail
    refine (born_did (H.out _) HG.out (by omega) _ HW.out).mono ?_
    rintro e w' ⟨rfl, hl0, hi, hk1⟩
    have HL := Lib.hid hl0
    clear hl0
    go_wp2
    go_ret2
    exact ⟨_, v, rfl, by show Own w' _ _ (bornQ q ad).2.1; rw [HL.out]; exact Own.nil _ _, hi, ((Kept.refl w _).alloc _).trans hk1 (fun _ _ => id), fun _ h => .inl h⟩
  by_cases e4 : what = 4
  · subst e4
    go_enter Try.func12, Try.ntmps12
    go_wp2_with (go_at_call 17; refine (ret_did (H.out _) HG.out hk (HB.out _) _ _ HW.out).mono ?_; rintro e w' hd; obtain ⟨u, v', rfl, ho', hi, hk, hm⟩ := hd.alloc)
    go_ret2
    exact ⟨u, v', rfl, ho', hi, hk, hm⟩
  by_cases e5 : what = 5
  · subst e5
    go_enter Try.func12, Try.ntmps12
    go_wp2_with fail
    refine (rest_did (H.out _) HG.out (by omega) (HB.out _)).mono ?_
    rintro e w' ⟨hl0, hl1⟩
    obtain ⟨u, v', rfl, ho', hi, hk1, hm⟩ := hl1
    have HL := Lib.hid hl0
    clear hl0
    go_wp2
    go_ret2
    have hh : Did (w.alloc _) B g b v (restQ q) (res u 0) w' := ⟨u, v', by rw [HL.out], ho', hi, hk1, hm⟩
    exact hh.alloc
  · rw [if_neg e0, if_neg e1, if_neg e2, if_neg e3, if_neg e4, if_neg e5]
    have h1 := H.out (.cells #[.int .i64 what, .int .i64 th, .int .i64 ho, .int .i64 ad] 31)
    have b0 : (what == 0) = false := beq_eq_false_iff_ne.2 e0
    have b1 : (what == 1) = false := beq_eq_false_iff_ne.2 e1
    have b2 : (what == 2) = false := beq_eq_false_iff_ne.2 e2
    have b3 : (what == 3) = false := beq_eq_false_iff_ne.2 e3
    have b4 : (what == 4) = false := beq_eq_false_iff_ne.2 e4
    have b5 : (what == 5) = false := beq_eq_false_iff_ne.2 e5
    have H1 := Lib.hid h1
    clear e0 e1 e2 e3 e4 e5 h1
    go_enter Try.func12, Try.ntmps12
    go_wp2
    go_ret2
    exact ⟨_, v, rfl, Own.nil _ _, H1.out, (Kept.refl w _).alloc _, fun _ h => .inl h⟩
end Go.Proofs.Ytiokifkppfegfaa
