/-
  One deed at a manager: what it makes of it, as plain data; the walk of the law's 'done', and of 'played'.
-/
import Derived.Test.YtdgkdfblgeobmaaWalks4
set_option linter.unusedVariables false
set_option linter.unusedSimpArgs false
namespace Go.Proofs.Ytdgkdfblgeobmaa
open Go.RowKit Mem Qm
set_option maxRecDepth 100000

instance (q : Q) (t : Int) : Decidable (q.ok t) := by unfold Q.ok; infer_instance
/-- A deed: what, which thread, which hold, which address. -/
structure Deed where
  what : Int
  th : Int
  ho : Int
  ad : Int
def inQ (q : Q) (t : Int) : Q × List Int × Int := if q.ok t then (q.in_ t, [], 0) else (q, [], 1)
def outQ (q : Q) (t : Int) : Q × List Int × Int := if q.ok t then (q.out t, q.outBack t, 0) else (q, [], 1)
def holdQ (q : Q) (t k a : Int) : Q × List Int × Int := if q.ok t ∧ 0 ≤ k ∧ k < 3 ∧ 0 ≤ a then (q, [], 0) else (q, [], 1)
def bornQ (q : Q) (a : Int) : Q × List Int × Int := if q.ok 0 ∧ 0 < a then (q, [], 0) else (q, [], 1)
def retQ (q : Q) (t a : Int) : Q × List Int × Int := if q.ok t ∧ 0 < a then (if hasB (addrs q.ws) a then (q, [], 6) else (q.ret a, q.retBack a, 0)) else (q, [], 1)
def stepQ (q : Q) (d : Deed) : Q × List Int × Int :=
  if d.what = 0 then inQ q d.th else if d.what = 1 then outQ q d.th else if d.what = 2 then holdQ q d.th d.ho d.ad else if d.what = 3 then bornQ q d.ad else if d.what = 4 then retQ q d.th d.ad else (q, [], 0)
/-- What a deed leaves: a list, an error, the manager. -/
def Did (w : World) (B g : Nat) (v : Value) (r : Q × List Int × Int) (e : Ending) (w' : World) : Prop :=
  ∃ u v', e = res u r.2.2 ∧ Own w' w.heap.size u r.2.1 ∧ Is w' B g v' r.1 ∧ Kept w w' (foot g v) ∧ Moved w v v'
theorem Did.same {w w' : World} {B g : Nat} {v : Value} {q : Q} {e : Ending} {err : Int} (h : Is w B g v q) (he : e = res (.slice none 0 0) err) (hb : Below w.heap.size w w') : Did w B g v (q, [], err) e w' :=
  ⟨_, v, he, Own.nil _ _, h.below hb, Kept.of_below hb _, fun _ hk => .inl hk⟩
theorem Did.of_swept {w w' : World} {B g : Nat} {v : Value} {q : Q} {l : List Int} {e : Ending} (h : Swept w B g v l q (fun u => res u 0) e w') : Did w B g v (q, l, 0) e w' := h
theorem Did.alloc {w w' : World} {o : Obj} {B g : Nat} {v : Value} {r : Q × List Int × Int} {e : Ending} (h : Did (w.alloc o) B g v r e w') : Did w B g v r e w' := by
  obtain ⟨u, v', he, ho, hi, hk, hm⟩ := h
  refine ⟨u, v', he, Row.mono ho (by simp), hi, ((Kept.refl w _).alloc o).trans hk (fun _ _ => id), fun k hk' => ?_⟩
  rcases hm k hk' with h | h
  · exact .inl h
  · exact .inr (by simp at h; omega)
section
variable {w : World} {B g : Nat} {v : Value} {q : Q}
theorem not_ok (h : Is w B g v q) {t : Int} (ht : ¬ q.ok t) : NoT w (.pointer (some ⟨g, 0, none⟩)) t := .inr ⟨B, g, v, q, rfl, h, ht⟩
theorem in_did (h : Is w B g v q) (h4 : q.n ≤ 4) (t : Int) : Calls Try.prog 18 #[.pointer (some ⟨g, 0, none⟩), .int .i64 t] w (Did w B g v (inQ q t)) := by
  unfold inQ
  split
  · rename_i ht
    exact (in_yes h t ht h4).mono fun e w' ⟨he, hi, hk⟩ => ⟨_, v, he, Own.nil _ _, hi, hk, fun _ hk => .inl hk⟩
  · rename_i ht
    refine (in_no (not_ok h ht)).mono fun e w' ⟨he, hw⟩ => ?_
    subst hw
    exact Did.same h he (Below.refl _ _)
theorem out_did (h : Is w B g v q) (h4 : q.n ≤ 4) (hB : B ≤ w.heap.size) (hl : q.ws.length < 900000) (t : Int) : Calls Try.prog 17 #[.pointer (some ⟨g, 0, none⟩), .int .i64 t] w (Did w B g v (outQ q t)) := by
  unfold outQ
  split
  · rename_i ht
    exact (out_yes h t ht h4 hB (by omega)).mono fun e w' hs => Did.of_swept hs
  · rename_i ht
    refine (out_no (not_ok h ht)).mono fun e w' ⟨he, hw⟩ => ?_
    subst hw
    exact Did.same h he (Below.refl _ _)
theorem hold_did (h : Is w B g v q) (t k a : Int) : Calls Try.prog 29 #[.pointer (some ⟨g, 0, none⟩), .int .i64 t, .int .i64 k, .int .i64 a] w (Did w B g v (holdQ q t k a)) := by
  unfold holdQ
  by_cases ht : q.ok t
  · by_cases hb : 0 ≤ k ∧ k < 3 ∧ 0 ≤ a
    · rw [if_pos ⟨ht, hb⟩]
      refine (hold_yes h t k a ht hb.1 hb.2.1 hb.2.2).mono fun e w' ⟨he, hw⟩ => ?_
      subst hw
      exact Did.same h he (Below.refl _ _)
    · rw [if_neg (fun x => hb x.2)]
      refine (hold_bad h t k a ht hb).mono fun e w' ⟨he, hw⟩ => ?_
      subst hw
      exact Did.same h he (Below.refl _ _)
  · rw [if_neg (fun x => ht x.1)]
    refine (hold_no (not_ok h ht)).mono fun e w' ⟨he, hw⟩ => ?_
    subst hw
    exact Did.same h he (Below.refl _ _)
/-- An error alone. -/
def ErrIs (w : World) (n : Int) (e : Ending) (w' : World) : Prop := e = .returned (.int .i64 n) ∧ w = w'
theorem born_did (h : Is w B g v q) (a : Int) : Calls Try.prog 30 #[.pointer (some ⟨g, 0, none⟩), .int .i64 a] w (ErrIs w (bornQ q a).2.2) := by
  unfold bornQ
  by_cases ht : q.ok 0
  · by_cases ha : 0 < a
    · rw [if_pos ⟨ht, ha⟩]; exact born_yes h a ht ha
    · rw [if_neg (fun x => ha x.2)]; exact born_bad h a ht ha
  · rw [if_neg (fun x => ht x.1)]; exact born_no (not_ok h ht)
theorem bornQ_same (q : Q) (a : Int) : (bornQ q a).1 = q ∧ (bornQ q a).2.1 = [] := by unfold bornQ; split <;> exact ⟨rfl, rfl⟩
theorem ret_did (h : Is w B g v q) (hB : B ≤ w.heap.size) (hl : q.ws.length < 900000) (t a : Int) : Calls Try.prog 19 #[.pointer (some ⟨g, 0, none⟩), .int .i64 t, .int .i64 a] w (Did w B g v (retQ q t a)) := by
  unfold retQ
  by_cases ht : q.ok t
  · by_cases ha : 0 < a
    · rw [if_pos ⟨ht, ha⟩]
      cases hd : hasB (addrs q.ws) a with
      | true =>
        rw [if_pos rfl]
        exact (retire_dup h t a ht ha (by omega) hd).mono fun e w' ⟨he, hb⟩ => Did.same h he hb
      | false =>
        rw [if_neg (by decide)]
        exact (retire_yes h t a ht ha hB hl hd).mono fun e w' hs => Did.of_swept hs
    · rw [if_neg (fun x => ha x.2)]
      refine (retire_bad h t a ht ha).mono fun e w' ⟨he, hw⟩ => ?_
      subst hw
      exact Did.same h he (Below.refl _ _)
  · rw [if_neg (fun x => ht x.1)]
    refine (retire_no (not_ok h ht)).mono fun e w' ⟨he, hw⟩ => ?_
    subst hw
    exact Did.same h he (Below.refl _ _)
end
def deedV (d : Deed) : Value := .agg #[.int .i64 d.what, .int .i64 d.th, .int .i64 d.ho, .int .i64 d.ad]
theorem done_did {w : World} {B g : Nat} {v : Value} {q : Q} (h : Is w B g v q) (h4 : q.n ≤ 4) (hB : B ≤ w.heap.size) (hl : q.ws.length < 900000) (d : Deed) :
    Calls Try.prog 12 #[.pointer (some ⟨g, 0, none⟩), deedV d] w (Did w B g v (stepQ q d)) := by
  have h' : ∀ o : Obj, Is (w.alloc o) B g v q := fun o => h.below ((Below.refl _ _).alloc (Nat.le_refl _) o)
  have hB' : ∀ o : Obj, B ≤ (w.alloc o).heap.size := fun o => by simp; omega
  have H := Lib.hid h'
  have HB := Lib.hid hB'
  obtain ⟨what, th, ho, ad⟩ := d
  clear h' hB' h
  simp only [deedV, stepQ]
  by_cases e0 : what = 0
  · subst e0
    go_enter Try.func12, Try.ntmps12
    go_wp2_with (go_at_call 18; refine (in_did (H.out _) h4 _).mono ?_; rintro e w' hd; obtain ⟨u, v', rfl, ho', hi, hk, hm⟩ := hd.alloc)
    go_ret2
    exact ⟨u, v', rfl, ho', hi, hk, hm⟩
  · by_cases e1 : what = 1
    · subst e1
      go_enter Try.func12, Try.ntmps12
      go_wp2_with (go_at_call 17; refine (out_did (H.out _) h4 (HB.out _) hl _).mono ?_; rintro e w' hd; obtain ⟨u, v', rfl, ho', hi, hk, hm⟩ := hd.alloc)
      go_ret2
      exact ⟨u, v', rfl, ho', hi, hk, hm⟩
    · by_cases e2 : what = 2
      · subst e2
        go_enter Try.func12, Try.ntmps12
        go_wp2_with (go_at_call 29; refine (hold_did (H.out _) _ _ _).mono ?_; rintro e w' hd; obtain ⟨u, v', rfl, ho', hi, hk, hm⟩ := hd.alloc)
        go_ret2
        exact ⟨u, v', rfl, ho', hi, hk, hm⟩
      · by_cases e3 : what = 3
        · subst e3
          have hs := bornQ_same q ad
          have HS := Lib.hid hs
          clear hs
          go_enter Try.func12, Try.ntmps12
          go_wp2_with (go_at_call 30; refine (born_did (H.out _) _).mono ?_; rintro e w' ⟨rfl, rfl⟩)
          go_ret2
          refine ⟨_, v, rfl, ?_, ?_, (Kept.refl w _).alloc _, fun _ hk => .inl hk⟩
          · show Own _ _ _ (bornQ q ad).2.1
            rw [HS.out.2]; exact Own.nil _ _
          · show Is _ _ _ _ (bornQ q ad).1
            rw [HS.out.1]; exact H.out _
        · by_cases e4 : what = 4
          · subst e4
            go_enter Try.func12, Try.ntmps12
            go_wp2_with (go_at_call 19; refine (ret_did (H.out _) (HB.out _) hl _ _).mono ?_; rintro e w' hd; obtain ⟨u, v', rfl, ho', hi, hk, hm⟩ := hd.alloc)
            go_ret2
            exact ⟨u, v', rfl, ho', hi, hk, hm⟩
          · by_cases e5 : what = 5
            · subst e5
              go_enter Try.func12, Try.ntmps12
              go_wp2_with (go_at_call 28; refine rest_any.mono ?_; rintro e w' ⟨rfl, rfl⟩)
              go_ret2
              exact ⟨_, v, rfl, Own.nil _ _, H.out _, (Kept.refl w _).alloc _, fun _ hk => .inl hk⟩
            · have b0 : (what == 0) = false := beq_eq_false_iff_ne.2 e0
              have b1 : (what == 1) = false := beq_eq_false_iff_ne.2 e1
              have b2 : (what == 2) = false := beq_eq_false_iff_ne.2 e2
              have b3 : (what == 3) = false := beq_eq_false_iff_ne.2 e3
              have b4 : (what == 4) = false := beq_eq_false_iff_ne.2 e4
              have b5 : (what == 5) = false := beq_eq_false_iff_ne.2 e5
              rw [if_neg e0, if_neg e1, if_neg e2, if_neg e3, if_neg e4]
              clear e0 e1 e2 e3 e4 e5
              go_enter Try.func12, Try.ntmps12
              go_wp2
              go_ret2
              exact ⟨_, v, rfl, Own.nil _ _, H.out _, (Kept.refl w _).alloc _, fun _ hk => .inl hk⟩
end Go.Proofs.Ytdgkdfblgeobmaa
