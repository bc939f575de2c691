/-
  The manager of eras, as plain data: what always holds of it, and what all leavings make of it.
-/
import Derived.Test.YtiokifkppfegfaaWalks9
set_option linter.unusedVariables false
set_option linter.unusedSimpArgs false
namespace Go.Proofs.Ytiokifkppfegfaa
open Go.RowKit Mem Qm

theorem get_put (q : Q) (t i : Int) (s : Sn) (ht : 0 ≤ t ∧ t < 4) (hi : 0 ≤ i ∧ i < 4) : (q.put t s).get i = if i = t then s else q.get i := by
  obtain ⟨t0, t4⟩ := ht
  obtain ⟨i0, i4⟩ := hi
  rcases (show t = 0 ∨ t = 1 ∨ t = 2 ∨ t = 3 by omega) with rfl | rfl | rfl | rfl <;> rcases (show i = 0 ∨ i = 1 ∨ i = 2 ∨ i = 3 by omega) with rfl | rfl | rfl | rfl <;> rfl
theorem met_iff (q : Q) (x : Life) : q.met x = true ↔ ∃ i, 0 ≤ i ∧ i < 4 ∧ (q.get i).met x = true := by
  simp only [Q.met, Bool.or_eq_true]
  constructor
  · rintro (h | h | h | h)
    · exact ⟨0, by omega, by omega, h⟩
    · exact ⟨1, by omega, by omega, h⟩
    · exact ⟨2, by omega, by omega, h⟩
    · exact ⟨3, by omega, by omega, h⟩
  · rintro ⟨i, i0, i4, h⟩
    rcases (show i = 0 ∨ i = 1 ∨ i = 2 ∨ i = 3 by omega) with rfl | rfl | rfl | rfl
    · exact .inl h
    · exact .inr (.inl h)
    · exact .inr (.inr (.inl h))
    · exact .inr (.inr (.inr h))
theorem sn_met_out {s : Sn} (h : s.i = false) (x : Life) : s.met x = false := by simp only [Sn.met, h, Bool.false_and]
/-- Nobody is inside. -/
def Empty (q : Q) : Prop := ∀ i, 0 ≤ i → i < 4 → (q.get i).i = false
theorem met_empty {q : Q} (h : Empty q) (x : Life) : q.met x = false := by
  cases hm : q.met x with
  | false => rfl
  | true =>
    obtain ⟨i, i0, i4, hi⟩ := (met_iff q x).1 hm
    rw [sn_met_out (h i i0 i4)] at hi
    cases hi
theorem lefts_empty {q : Q} (h : Empty q) (ws : List Life) : lefts q ws = [] := by
  simp only [lefts, met_empty h]; simp
theorem backs_empty {q : Q} (h : Empty q) (ws : List Life) : backs q ws = addrs ws := by
  simp only [backs, met_empty h, Bool.not_false]
  rw [List.filter_eq_self.2 (fun _ _ => rfl)]
/-- What always holds. -/
structure Inv (q : Q) : Prop where
  n4 : q.n ≤ 4
  out : ∀ i, q.n ≤ i → 0 ≤ i → i < 4 → (q.get i).i = false
  nd : (addrs q.ws).Nodup
  pos : ∀ x ∈ q.ws, 0 < x.a
theorem addrs_filter_nodup (p : Life → Bool) {ws : List Life} (h : (addrs ws).Nodup) : (addrs (ws.filter p)).Nodup := by
  induction ws with
  | nil => exact h
  | cons x t ih =>
    simp only [addrs, List.map_cons, List.nodup_cons] at h ih
    rw [List.filter_cons]
    split
    · simp only [addrs, List.map_cons, List.nodup_cons]
      refine ⟨fun hm => h.1 ?_, ih h.2⟩
      obtain ⟨y, hy, he⟩ := List.mem_map.1 hm
      exact List.mem_map.2 ⟨y, (List.mem_filter.1 hy).1, he⟩
    · exact ih h.2
theorem inv_q0 {n : Int} (h : n ≤ 4) : Inv (q0 n) := ⟨h, fun i _ i0 i4 => by
  rcases (show i = 0 ∨ i = 1 ∨ i = 2 ∨ i = 3 by omega) with rfl | rfl | rfl | rfl <;> rfl, by simp [q0, addrs], fun x hx => by cases hx⟩
theorem inv_put {q : Q} (h : Inv q) {t : Int} (ht : q.ok t) (s : Sn) : Inv (q.put t s) :=
  ⟨h.n4, fun i hi i0 i4 => by
    have h1 := ht.1
    have h2 := ht.2
    have h3 := h.n4
    have h4 : q.n ≤ i := hi
    rw [get_put q t i s ⟨h1, by omega⟩ ⟨i0, i4⟩, if_neg (by omega)]
    exact h.out i h4 i0 i4, h.nd, h.pos⟩
theorem inv_swept {q : Q} (h : Inv q) : Inv q.swept := ⟨h.n4, h.out, addrs_filter_nodup _ h.nd, fun x hx => h.pos x (List.mem_filter.1 hx).1⟩
theorem hasB_iff (l : List Int) (x : Int) : hasB l x = true ↔ x ∈ l := by
  simp only [hasB, List.any_eq_true, decide_eq_true_eq]
  exact ⟨fun ⟨y, hy, e⟩ => e ▸ hy, fun h => ⟨x, h, rfl⟩⟩
theorem inv_add {q : Q} (h : Inv q) {a : Int} (ha : 0 < a) (hd : hasB (addrs q.ws) a = false) : Inv (q.add a) := by
  refine ⟨h.n4, h.out, ?_, fun x hx => ?_⟩
  · simp only [Q.add, addrs, List.map_append, List.map_cons, List.map_nil]
    rw [List.nodup_append]
    refine ⟨h.nd, by simp, fun x hx y hy e => ?_⟩
    rw [List.mem_singleton.1 hy] at e
    subst e
    have : hasB (addrs q.ws) x = true := (hasB_iff _ _).2 hx
    rw [hd] at this; cases this
  · rcases List.mem_append.1 hx with hx | hx
    · exact h.pos x hx
    · rw [List.mem_singleton.1 hx]; exact ha
theorem inv_out {q : Q} (h : Inv q) {t : Int} (ht : q.ok t) : Inv (q.out t) := inv_swept (inv_put h ht _)
theorem inv_born {q : Q} (h : Inv q) (a : Int) : Inv (q.born a) := ⟨h.n4, h.out, h.nd, h.pos⟩
theorem inv_hold {q : Q} (h : Inv q) {t : Int} (ht : q.ok t) (k a : Int) : Inv (q.hold t k a) := by
  unfold Q.hold
  split
  · exact inv_put h ht _
  · exact h
theorem inv_step {q : Q} (h : Inv q) (d : Deed) : Inv (stepQ q d).1 := by
  unfold stepQ
  split
  · unfold inQ; split
    · rename_i ht; exact inv_put h ht _
    · exact h
  split
  · unfold outQ; split
    · rename_i ht; exact inv_out h ht
    · exact h
  split
  · unfold holdQ; split
    · rename_i ht; exact inv_hold h ht.1 _ _
    · exact h
  split
  · unfold bornQ; split
    · exact inv_born h _
    · exact h
  split
  · unfold retQ; split
    · rename_i ht
      split
      · exact h
      · rename_i hd; exact inv_swept (inv_add h ht.2 (by simpa using hd))
    · exact h
  split
  · unfold restQ; split
    · exact inv_swept h
    · exact h
  · exact h
theorem inv_run {q : Q} (h : Inv q) (ds : List Deed) : Inv (runQ q ds) := by
  induction ds generalizing q with
  | nil => exact h
  | cons d t ih => exact ih (inv_step h d)
/-- A thread that went out is not inside, and others are as they were. -/
theorem out_get {q : Q} {t i : Int} (ht : 0 ≤ t ∧ t < 4) (hi : 0 ≤ i ∧ i < 4) : ((q.out t).get i) = if i = t then Sn.none else q.get i := get_put q t i Sn.none ht hi
end Go.Proofs.Ytiokifkppfegfaa
