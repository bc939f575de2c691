/-
  The manager of grace periods, as plain data: what always holds of it, and what all leavings make of it.
-/
import Derived.Test.YtdgkdfblgeobmaaWalks7
set_option linter.unusedVariables false
set_option linter.unusedSimpArgs false
namespace Go.Proofs.Ytdgkdfblgeobmaa
open Go.RowKit Mem Qm

theorem get_set (x : Cr) (t i : Int) (b : Bool) : (x.set t b).get i = if i = t ∧ 0 ≤ i ∧ i < 4 then b else x.get i := by
  obtain ⟨p, q, r, s⟩ := x
  simp only [Cr.get, Cr.set]
  by_cases h0 : i = 0
  · subst h0
    by_cases ht : t = 0
    · subst ht; simp
    · simp [ht, show ¬ (0 : Int) = t by omega]
  by_cases h1 : i = 1
  · subst h1
    by_cases ht : t = 1
    · subst ht; simp
    · simp [ht, show ¬ (1 : Int) = t by omega]
  by_cases h2 : i = 2
  · subst h2
    by_cases ht : t = 2
    · subst ht; simp
    · simp [ht, show ¬ (2 : Int) = t by omega]
  by_cases h3 : i = 3
  · subst h3
    by_cases ht : t = 3
    · subst ht; simp
    · simp [ht, show ¬ (3 : Int) = t by omega]
  rw [if_neg h0, if_neg h1, if_neg h2, if_neg h3]
  rw [if_neg (by omega)]
  simp [h0, h1, h2, h3]
theorem get_range {x : Cr} {i : Int} (h : x.get i = true) : 0 ≤ i ∧ i < 4 := by
  simp only [Cr.get] at h
  by_cases h0 : i = 0
  · omega
  by_cases h1 : i = 1
  · omega
  by_cases h2 : i = 2
  · omega
  by_cases h3 : i = 3
  · omega
  simp [h0, h1, h2, h3] at h
theorem no_iff (x : Cr) : x.no = true ↔ ∀ i, x.get i = false := by
  constructor
  · intro h i
    obtain ⟨p, q, r, s⟩ := x
    simp only [Cr.no, Bool.and_eq_true, Bool.not_eq_true'] at h
    obtain ⟨rfl, rfl, rfl, rfl⟩ := h
    simp [Cr.get]
  · intro h
    have h0 := h 0
    have h1 := h 1
    have h2 := h 2
    have h3 := h 3
    obtain ⟨p, q, r, s⟩ := x
    simp [Cr.get] at h0 h1 h2 h3
    subst h0 h1 h2 h3
    rfl
def within (n : Int) (x : Cr) : Prop := ∀ i, x.get i = true → i < n
/-- What always holds. -/
structure Inv (q : Q) : Prop where
  ins : within q.n q.ins
  ws : ∀ x ∈ q.ws, x.2.no = false ∧ within q.n x.2
  nd : (addrs q.ws).Nodup
  pos : ∀ x ∈ q.ws, 0 < x.1
theorem within_set {n t : Int} {x : Cr} {b : Bool} (h : within n x) (ht : t < n) : within n (x.set t b) := by
  intro i hi
  rw [get_set] at hi
  split at hi
  · rename_i e; omega
  · exact h i hi
theorem addrs_cut (t : Int) (ws : List W) : addrs (cutBy t ws) = addrs ws := by simp [addrs, cutBy]
theorem addrs_filter_nodup (p : W → Bool) {ws : List W} (h : (addrs ws).Nodup) : (addrs (ws.filter p)).Nodup := by
  induction ws with
  | nil => exact h
  | cons x t ih =>
    simp only [addrs, List.map_cons, List.nodup_cons] at h ih
    rw [List.filter_cons]
    split
    · simp only [addrs, List.map_cons, List.nodup_cons]
      refine ⟨fun hm => h.1 ?_, ih h.2⟩
      obtain ⟨y, hy, he⟩ := List.mem_map.1 hm
      exact List.mem_map.2 ⟨y, (List.mem_filter.1 hy).1, he⟩
    · exact ih h.2
theorem inv_q0 (n : Int) : Inv (q0 n) := ⟨fun i hi => by simp [q0, Cr.none, Cr.get] at hi, fun x hx => by simp [q0] at hx, by simp [q0, addrs], fun x hx => by simp [q0] at hx⟩
theorem inv_in {q : Q} (h : Inv q) {t : Int} (ht : q.ok t) : Inv (q.in_ t) := ⟨within_set h.ins ht.2, h.ws, h.nd, h.pos⟩
theorem inv_lefts {n : Int} {ins : Cr} {ws : List W} (hi : within n ins) (hw : ∀ x ∈ ws, within n x.2) (hn : (addrs ws).Nodup) (hp : ∀ x ∈ ws, 0 < x.1) : Inv ⟨n, ins, lefts ws⟩ :=
  ⟨hi, fun x hx => by
    obtain ⟨h1, h2⟩ := List.mem_filter.1 hx
    exact ⟨by simpa using h2, hw x h1⟩, addrs_filter_nodup _ hn, fun x hx => hp x (List.mem_filter.1 hx).1⟩
theorem inv_out {q : Q} (h : Inv q) {t : Int} (ht : q.ok t) : Inv (q.out t) := by
  refine inv_lefts (within_set h.ins ht.2) (fun x hx => ?_) (by rw [addrs_cut]; exact h.nd) (fun x hx => ?_)
  · obtain ⟨y, hy, rfl⟩ := List.mem_map.1 hx
    exact within_set (h.ws y hy).2 ht.2
  · obtain ⟨y, hy, rfl⟩ := List.mem_map.1 hx
    exact h.pos y hy
theorem hasB_iff (l : List Int) (x : Int) : hasB l x = true ↔ x ∈ l := by
  simp only [hasB, List.any_eq_true, decide_eq_true_eq]
  exact ⟨fun ⟨y, hy, e⟩ => e ▸ hy, fun h => ⟨x, h, rfl⟩⟩
theorem inv_ret {q : Q} (h : Inv q) {a : Int} (ha : 0 < a) (hd : hasB (addrs q.ws) a = false) : Inv (q.ret a) := by
  refine inv_lefts h.ins (fun x hx => ?_) ?_ (fun x hx => ?_)
  · rcases List.mem_append.1 hx with hx | hx
    · exact (h.ws x hx).2
    · rw [List.mem_singleton.1 hx]; exact h.ins
  · simp only [addrs, List.map_append, List.map_cons, List.map_nil]
    rw [List.nodup_append]
    refine ⟨h.nd, by simp, fun x hx y hy e => ?_⟩
    rw [List.mem_singleton.1 hy] at e
    subst e
    have : hasB (addrs q.ws) x = true := (hasB_iff _ _).2 hx
    rw [hd] at this; cases this
  · rcases List.mem_append.1 hx with hx | hx
    · exact h.pos x hx
    · rw [List.mem_singleton.1 hx]; exact ha
theorem inv_step {q : Q} (h : Inv q) (d : Deed) : Inv (stepQ q d).1 := by
  unfold stepQ
  split
  · unfold inQ; split
    · rename_i ht; exact inv_in h ht
    · exact h
  split
  · unfold outQ; split
    · rename_i ht; exact inv_out h ht
    · exact h
  split
  · unfold holdQ; split <;> exact h
  split
  · unfold bornQ; split <;> exact h
  split
  · unfold retQ; split
    · rename_i ht
      split
      · exact h
      · rename_i hd; exact inv_ret h ht.2 (by simpa using hd)
    · exact h
  · exact h
theorem inv_run {q : Q} (h : Inv q) (ds : List Deed) : Inv (runQ q ds) := by
  induction ds generalizing q with
  | nil => exact h
  | cons d t ih => exact ih (inv_step h d)
/-- Nothing waits for thread i. -/
def Gone (q : Q) (i : Int) : Prop := ∀ x ∈ q.ws, x.2.get i = false
theorem gone_out {q : Q} {t i : Int} (h : i = t ∧ 0 ≤ i ∧ i < 4 ∨ Gone q i) : Gone (q.out t) i := by
  intro x hx
  obtain ⟨hx, _⟩ := List.mem_filter.1 hx
  obtain ⟨y, hy, rfl⟩ := List.mem_map.1 hx
  simp only
  rw [get_set]
  rcases h with h | h
  · rw [if_pos h]
  · split
    · rfl
    · exact h y hy
theorem out_ins {q : Q} {t i : Int} (h : i = t ∧ 0 ≤ i ∧ i < 4 ∨ q.ins.get i = false) : (q.out t).ins.get i = false := by
  simp only [Q.out]
  rw [get_set]
  rcases h with h | h
  · rw [if_pos h]
  · split
    · rfl
    · exact h
/-- Where nothing waits for any thread, nothing waits. -/
theorem gone_all {q : Q} (h : Inv q) (hg : ∀ i, 0 ≤ i → i < q.n → Gone q i) : q.ws = [] := by
  cases hw : q.ws with
  | nil => rfl
  | cons x t =>
    have hx : x ∈ q.ws := by rw [hw]; exact List.mem_cons_self ..
    have h1 := h.ws x hx
    have h2 : x.2.no = true := (no_iff _).2 fun i => by
      cases hb : x.2.get i with
      | false => rfl
      | true => have h3 := (hg i (get_range hb).1 (h1.2 i hb)) x hx; rw [hb] at h3; cases h3
    rw [h2] at h1; cases h1.1
theorem ins_no {q : Q} (h : Inv q) (hg : ∀ i, 0 ≤ i → i < q.n → q.ins.get i = false) : q.ins.no = true := (no_iff _).2 fun i => by
  cases hb : q.ins.get i with
  | false => rfl
  | true => have := hg i (get_range hb).1 (h.ins i hb); rw [hb] at this; exact this
theorem out_n (q : Q) (t : Int) : (q.out t).n = q.n := rfl
theorem out_len (q : Q) (t : Int) : (q.out t).ws.length ≤ q.ws.length := by have := lefts_le (cutBy t q.ws); simp [cutBy] at this; simpa [Q.out, cutBy] using this
end Go.Proofs.Ytdgkdfblgeobmaa
