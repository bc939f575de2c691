/-
  Plain: the events of a valid program have their shape; how large the machine grows.
-/
import Derived.Test.YtkddckfgdiemkaaGreatCP13
import Derived.Test.YtkddckfgdiemkaaGreatCW35
set_option linter.unusedVariables false
set_option linter.unusedSimpArgs false
namespace Go.Proofs.YtkddckfgdiemkaaGreat
open Go.RowKit Go.Shelf Mem

structure EvOk (x : Ev) : Prop where
  o : 0 ≤ x.ord ∧ x.ord < 5
  l : 0 ≤ x.loc ∧ x.loc < 3
  k : 0 ≤ x.kind ∧ x.kind ≤ 5
theorem expOp_ok {e : Ev} (h : OkOp e) : ∀ x ∈ expOp e, EvOk x := by
  intro x hx
  have h1 := h.m.ho
  have h2 := h.m.hk
  have h3 := h.l
  unfold expOp at hx
  split at hx
  · simp only [List.mem_singleton] at hx
    subst hx
    exact ⟨by omega, h3, h2⟩
  · simp only [List.mem_cons, List.not_mem_nil, or_false] at hx
    have hs : EvOk strongE := ⟨by decide, by decide, by decide⟩
    rcases hx with rfl | rfl | rfl
    · exact hs
    · refine ⟨?_, h3, h2⟩
      show 0 ≤ plainO e.kind ∧ plainO e.kind < 5
      unfold plainO; split
      · decide
      · split <;> decide
    · exact hs
theorem expL_cnt : ∀ (l : List Ev), (∀ e ∈ l, OkOp e) → (expL l).length ≤ (cntOf l).a + (cntOf l).f := fun l => by
  have key : ∀ (l : List Ev) (c : Cnt), (∀ e ∈ l, OkOp e) → c.a + c.f + (expL l).length ≤ (l.foldl cntStep c).a + (l.foldl cntStep c).f := fun l => by
    induction l with
    | nil => intro c _; simp [expL]
    | cons e t ih =>
      intro c h
      have h1 := ih (cntStep c e) (fun x hx => h x (List.mem_cons_of_mem _ hx))
      have h2 := (h e (by simp)).m.hk
      have h3 : c.a + c.f + (expOp e).length ≤ (cntStep c e).a + (cntStep c e).f := by
        unfold cntStep expOp
        by_cases h5 : e.kind = 5
        · rw [if_pos h5, if_pos (.inl h5)]
          show c.a + c.f + 1 ≤ c.a + (c.f + 1); omega
        · rw [if_neg h5, if_pos (dec_true (by unfold Accessed; omega))]
          by_cases h4 : e.ord = 4
          · rw [if_neg (by rintro (h | h) <;> contradiction), if_pos h4]
            show c.a + c.f + 3 ≤ (c.a + 1) + (c.f + 2); omega
          · rw [if_pos (.inr h4)]
            show c.a + c.f + 1 ≤ (c.a + 1) + (c.f + _); omega
      have h4 : (expL (e :: t)).length = (expOp e).length + (expL t).length := by simp [expL]
      simp only [List.foldl_cons]
      omega
  intro h
  have := key l ⟨0, 0, 0, 0, 0⟩ h
  unfold cntOf
  omega
theorem expP_flat (ps : List (List Ev)) : (expP ps).flatten = expL ps.flatten := by
  induction ps with
  | nil => rfl
  | cons a t ih =>
    have h1 : expP (a :: t) = expL a :: expP t := rfl
    rw [h1, List.flatten_cons, ih, List.flatten_cons]
    simp [expL]
theorem esTo_len2 (q : List (List Ev)) : ∀ k, k ≤ q.length → (esTo q k).length = ((q.take k).flatten).length
  | 0, _ => by simp [esTo]
  | k + 1, h => by
    have hk : k < q.length := by omega
    rw [esTo, List.length_append, esTo_len2 q k (by omega), take_snoc hk, List.flatten_append, List.length_append, List.length_map, List.getD, List.getElem?_eq_getElem hk]
    simp
theorem esOf_len {ps : List (List Ev)} (hv : Valid ps) : (esOf (expP ps)).length ≤ 14 := by
  unfold esOf
  rw [esTo_len2 _ _ (Nat.le_refl _), List.take_length, expP_flat]
  have := expL_cnt ps.flatten hv.o
  have := hv.a
  have := hv.f
  omega
theorem esTo_mem (q : List (List Ev)) {x : Ev} : ∀ k, x ∈ esTo q k → ∃ t e, t < k ∧ e ∈ q.getD t [] ∧ x = evTh t e
  | 0, h => by simp [esTo] at h
  | k + 1, h => by
    rw [esTo, List.mem_append] at h
    rcases h with h | h
    · obtain ⟨t, e, h1, h2, h3⟩ := esTo_mem q k h
      exact ⟨t, e, by omega, h2, h3⟩
    · obtain ⟨e, h1, rfl⟩ := List.mem_map.1 h
      exact ⟨k, e, by omega, h1, rfl⟩
theorem esTo_get (q : List (List Ev)) : ∀ (n t i : Nat), t < n → i < (q.getD t []).length → (esTo q n)[(esTo q t).length + i]? = some (evTh t ((q.getD t []).getD i default))
  | 0, t, i, h, _ => by omega
  | n + 1, t, i, ht, hi => by
    rw [esTo]
    by_cases h : t < n
    · have ih := esTo_get q n t i h hi
      have hl := (List.getElem?_eq_some_iff.1 ih).1
      rw [List.getElem?_append_left hl]; exact ih
    · have : t = n := by omega
      subst this
      rw [List.getElem?_append_right (by omega), Nat.add_sub_cancel_left, List.getElem?_map]; obtain ⟨L, hL⟩ : ∃ L, q.getD t [] = L := ⟨_, rfl⟩; rw [hL] at hi ⊢; rw [List.getElem?_eq_getElem hi, List.getD_eq_getElem?_getD, List.getElem?_eq_getElem hi]; rfl
def offQ (q : List (List Ev)) (t : Nat) : Nat := (esTo q t).length
theorem offQ_succ (q : List (List Ev)) (t : Nat) : offQ q (t + 1) = offQ q t + (q.getD t []).length := by simp [offQ, esTo]
theorem E_at (q : List (List Ev)) {t i : Nat} (ht : t < q.length) (hi : i < (q.getD t []).length) : E (esOf q) (offQ q t + i) = evTh t (ev (q.getD t []) (i : Int)) := by
  show (esTo q q.length).getD ((offQ q t + i : Nat) : Int).toNat default = _
  rw [Int.toNat_natCast, List.getD, offQ, esTo_get q q.length t i ht hi, Option.getD_some]
  rfl
theorem esOf_ok {ps : List (List Ev)} (hv : Valid ps) : ∀ i, i < (esOf (expP ps)).length → EvOk (E (esOf (expP ps)) i) := by
  intro i hi
  have h1 : E (esOf (expP ps)) i = (esOf (expP ps))[i] := ev_at _ hi
  have h2 : E (esOf (expP ps)) i ∈ esOf (expP ps) := by rw [h1]; exact List.getElem_mem hi
  obtain ⟨t, e, h3, h4, h5⟩ := esTo_mem _ _ h2
  rw [h5]
  have h6 : EvOk e := by
    rw [expP_len] at h3
    have e1 : (expP ps).getD t [] = expL ps[t] := by simp [expP, List.getD, List.getElem?_eq_getElem h3]
    rw [e1] at h4
    obtain ⟨y, y1, y2⟩ := List.mem_flatMap.1 h4
    exact expOp_ok (hv.o y (List.mem_flatten.2 ⟨_, List.getElem_mem h3, y1⟩)) _ y2
  exact ⟨h6.o, h6.l, h6.k⟩
theorem shape_of {ps : List (List Ev)} (hv : Valid ps) : Shape (esOf (expP ps)) (expP ps).length (offQ (expP ps)) := by
  refine ⟨rfl, rfl, fun t _ => by rw [offQ_succ]; omega, fun t i ht hi => ?_, fun i hi => (esOf_ok hv i hi).l, fun i hi => (esOf_ok hv i hi).k⟩
  rw [offQ_succ] at hi
  rw [E_at _ ht (by omega)]
  rfl
theorem wfE_of {ps : List (List Ev)} (hv : Valid ps) : WfE (esOf (expP ps)) :=
  ⟨by have := esOf_len hv; omega, fun i hi => (esOf_ok hv i hi).o, fun i hi => (esOf_ok hv i hi).l⟩
/-! How large the machine grows. -/
theorem insAt_len (l : List Int) (k : Nat) (x : Int) : (insAt l k x).length = l.length + 1 := by
  simp only [insAt, List.length_append, List.length_take, List.length_cons, List.length_drop]; omega
structure Sz (N : Nat) (m : VM) : Prop where
  ms : m.msgs.length ≤ 3 + sumN (fun t => (m.th t).next) N
  ln : ∀ l, (m.ln l).length ≤ 1 + sumN (fun t => (m.th t).next) N
theorem writesV_size (m : VM) (t k : Nat) (x : Int) (o : Ev) (b : Bool) : (writesV m t k x o b).msgs.length = m.msgs.length + 1 ∧ ∀ l, ((writesV m t k x o b).ln l).length ≤ (m.ln l).length + 1 := by
  refine ⟨by simp [writesV], fun l => ?_⟩
  show ((lineW m o.loc.toNat k).getD l []).length ≤ _
  unfold lineW
  rw [getD_set]
  split
  · rename_i h
    rw [insAt_len, h.1]; omega
  · exact Nat.le_succ _
theorem doesF_size (m : VM) (t : Nat) (o : Ev) (c : Nat × Bool) : (doesF m t o c).msgs.length ≤ m.msgs.length + 1 ∧ ∀ l, ((doesF m t o c).ln l).length ≤ (m.ln l).length + 1 := by
  unfold doesF
  split
  · exact ⟨Nat.le_succ _, fun l => Nat.le_succ _⟩
  · simp only []
    obtain ⟨m2, hm2⟩ : ∃ m2, (if o.kind = 1 then bump m t else readsF (bump m t) t ((m.ln o.loc.toNat).getD c.1 0).toNat o) = m2 := ⟨_, rfl⟩
    have h1 : m2.msgs = m.msgs ∧ m2.line = m.line := by
      rw [← hm2]; split <;> exact ⟨rfl, rfl⟩
    have h2 : ∀ l, m2.ln l = m.ln l := fun l => by unfold VM.ln; rw [h1.2]
    rw [hm2]
    split
    · obtain ⟨a, b⟩ := writesV_size m2 t c.1 (wordW m o c.1) o (o.kind != 1)
      refine ⟨by rw [a, h1.1]; exact Nat.le_refl _, fun l => ?_⟩
      have := b l
      rw [h2] at this; exact this
    · exact ⟨by rw [h1.1]; exact Nat.le_succ _, fun l => by rw [h2]; exact Nat.le_succ _⟩
theorem Sz.start (N : Nat) : Sz N (vm0 N) := by
  refine ⟨by show 3 ≤ _; omega, fun l => ?_⟩
  rcases (by omega : l = 0 ∨ l = 1 ∨ l = 2 ∨ 3 ≤ l) with rfl | rfl | rfl | h
  · show 1 ≤ _; omega
  · show 1 ≤ _; omega
  · show 1 ≤ _; omega
  · have : (vm0 N).ln l = [] := by
      show ([[0], [1], [2]] : List (List Int)).getD l [] = []
      rw [List.getD, List.getElem?_eq_none (by simp; omega)]; rfl
    rw [this]; simp
section
variable {es : List Ev} {N : Nat} {off : Nat → Nat} {m : VM}
/-- What holds between the operations, the size too. -/
def Fine (es : List Ev) (N : Nat) (off : Nat → Nat) (m : VM) : Prop := Good es N off m ∧ Sz N m
theorem Fine.start (hp : Shape es N off) : Fine es N off (vm0 N) := ⟨Good.start hp, Sz.start N⟩
theorem Sz.does (hlen : m.thr.length = N) {t : Nat} (ht : t < N) (hs : Sz N m) (o : Ev) (c : Nat × Bool) : Sz N (doesF m t o c) := by
  obtain ⟨a, b⟩ := doesF_size m t o c
  have hsum : sumN (fun t' => ((doesF m t o c).th t').next) N = sumN (fun t' => (m.th t').next) N + 1 :=
    sumN_up N ht (fun i _ hne => by show (m.th i).next = _; rw [doesF_next hlen ht, if_neg hne]) (by show ((doesF m t o c).th t).next = _; rw [doesF_next hlen ht, if_pos rfl])
  exact ⟨by rw [hsum]; have := hs.ms; omega, fun l => by rw [hsum]; have := hs.ln l; have := b l; omega⟩
theorem Good.len (hi : Good es N off m) : m.thr.length = N := by obtain ⟨g, h⟩ := hi; exact h.thrs.len
theorem Fine.step (hp : Shape es N off) (hi : Fine es N off m) (who : Int) (pick : Nat → Nat) (hpk : ∀ n, 0 < n → pick n < n) : Fine es N off (stepF es N off m who pick) := by
  refine ⟨hi.1.step hp who pick hpk, ?_⟩
  unfold stepF
  split
  · rename_i h
    exact hi.2.does hi.1.len (by omega) _ _
  · exact hi.2
theorem Fine.turns (hp : Shape es N off) (hi : Fine es N off m) (ts : List (Int × Int)) : ∀ k, Fine es N off (turnsF es N off ts m k)
  | 0 => hi
  | k + 1 => (Fine.turns hp hi ts k).step hp _ _ (fun n h => pickT_lt h)
theorem Fine.endF_ (hp : Shape es N off) (hi : Fine es N off m) (t : Nat) : ∀ k, Fine es N off (endF es N off t m k)
  | 0 => hi
  | k + 1 => (Fine.endF_ hp hi t k).step hp _ _ (fun n h => by omega)
theorem Fine.ends (hp : Shape es N off) (hi : Fine es N off m) : ∀ k, Fine es N off (endsV es N off m k)
  | 0 => hi
  | k + 1 => Fine.endF_ hp (Fine.ends hp hi k) k _
/-- The bounds that the walks want. -/
structure VB (es : List Ev) (N : Nat) (off : Nat → Nat) (m : VM) : Prop where
  len : m.thr.length = N
  n3 : m.line.length = 3
  nx : ∀ t, t < N → off t + (m.th t).next ≤ off (t + 1)
  ms : m.msgs.length ≤ 1000
  ll : ∀ l, (m.ln l).length ≤ 1000
  l0 : ∀ l, l < 3 → 0 < (m.ln l).length
  ln : ∀ l, l < 3 → ∀ (k : Nat) (y : Int), (m.ln l)[k]? = some y → 0 ≤ y ∧ y < (m.msgs.length : Int)
  rl : ∀ t, t < N → (m.th t).read.length ≤ 1000
theorem rdTo_len (es : List Ev) (rv : Nat → Int) (o : Nat) : ∀ k, (rdTo es rv o k).length ≤ k
  | 0 => by simp [rdTo]
  | k + 1 => by
    have := rdTo_len es rv o k
    rw [rdTo]
    split
    · simp; omega
    · omega
theorem sumN_le {f : Nat → Nat} {off : Nat → Nat} (N : Nat) (hz : off 0 = 0) (h : ∀ t, t < N → off t + f t ≤ off (t + 1)) : ∀ k, k ≤ N → sumN f k ≤ off k
  | 0, _ => by rw [hz]; exact Nat.le_refl _
  | k + 1, hk => by
    have := sumN_le N hz h k (by omega)
    have := h k (by omega)
    rw [sumN]; omega
theorem Fine.vb (hp : Shape es N off) (he : es.length ≤ 31) (hi : Fine es N off m) : VB es N off m := by
  obtain ⟨⟨g, hg⟩, hs⟩ := hi
  have h1 : sumN (fun t => (m.th t).next) N ≤ 31 := by
    have := sumN_le N hp.z (fun t ht => hg.thrs.nx t ht) N (Nat.le_refl _)
    rw [hp.e] at this; omega
  have hoff : ∀ k, k ≤ N → off k ≤ es.length := fun k hk => by
    rw [← hp.e]
    have : ∀ d, k + d ≤ N → off k ≤ off (k + d) := fun d => by
      induction d with
      | zero => intro _; exact Nat.le_refl _
      | succ d ih => intro h; have := ih (by omega); have := hp.mono (k + d) (by omega); rw [show k + (d + 1) = k + d + 1 by omega]; omega
    have := this (N - k) (by omega)
    rwa [show k + (N - k) = N by omega] at this
  refine ⟨hg.thrs.len, hg.lines.n3, hg.thrs.nx, by have := hs.ms; omega, fun l => by have := hs.ln l; omega, fun l hl => by have := hg.lines.place_lt hl 0; omega, fun l hl k y hy => ?_, fun t ht => ?_⟩
  · obtain ⟨q, rfl, h2, _⟩ := hg.lines.of_ l k y hl hy
    omega
  · rw [hg.thrs.rd t ht]
    have := rdTo_len es g.rv (off t) (m.th t).next
    have := hg.thrs.nx t ht
    have := hoff (t + 1) (by omega)
    omega
end
end Go.Proofs.YtkddckfgdiemkaaGreat
