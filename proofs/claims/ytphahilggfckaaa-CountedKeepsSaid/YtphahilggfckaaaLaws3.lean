/-
  Holds that are set one after the other, and let go: plain.
-/
import Derived.Test.YtphahilggfckaaaLaws2
set_option linter.unusedVariables false
set_option linter.unusedSimpArgs false
namespace Go.Proofs.Ytphahilggfckaaa
open Go.RowKit Mem Qm
set_option maxRecDepth 100000

/-- The first i threads hold a, each at one place; nothing waits. -/
structure HA (m : Nat) (a : Int) (i : Nat) (q : Q) : Prop where
  n : q.n = m
  len : q.hs.length = m * 3
  ws : q.ws = []
  cnt : cnt q.hs a = i
  at_ : ∀ j, j < m → nth q.hs (j * 3 + j % 3) = if j < i then a else 0
/-- The first i threads have let a go. -/
structure HB (m : Nat) (a : Int) (i : Nat) (q : Q) : Prop where
  n : q.n = m
  len : q.hs.length = m * 3
  ws : q.ws = if i < m then [a] else []
  cnt : cnt q.hs a = m - i
  at_ : ∀ j, j < m → nth q.hs (j * 3 + j % 3) = if j < i then 0 else a
theorem ha_0 {q : Q} {m : Nat} {a : Int} (ha : a ≠ 0) (hn : q.n = m) (hl : q.hs.length = m * 3) (hz : Zero q m) (hw : q.ws = []) : HA m a 0 q :=
  ⟨hn, hl, hw, cnt_zero (fun j hj => hz j (by omega)) ha, fun j hj => by rw [if_neg (by omega)]; exact hz _ (by omega)⟩
theorem c_of {q : Q} {a : Int} {n : Nat} (ha : a ≠ 0) (h : cnt q.hs a = n) : q.c a = n := by unfold Q.c; rw [if_neg ha, h]
theorem hold_ok {q : Q} {m i : Nat} {a : Int} (hn : q.n = m) (hi : i < m) (ha : 0 ≤ a) : holdQ q (i : Int) ((i : Int) % 3) a = ((q.put i (i % 3) a).loose, backs (q.put i (i % 3) a) q.ws, 0) := by
  unfold holdQ
  rw [if_pos ⟨⟨by omega, by omega⟩, by omega, by omega, ha⟩]
  unfold Q.held
  rw [Int.toNat_natCast, show ((i : Int) % 3).toNat = i % 3 by omega]
theorem ha_step {m i : Nat} {a : Int} {q : Q} (h : HA m a i q) (hi : i < m) (ha : 0 < a) : HA m a (i + 1) (holdQ q (i : Int) ((i : Int) % 3) a).1 ∧ (holdQ q (i : Int) ((i : Int) % 3) a).2.1 = [] ∧ (holdQ q (i : Int) ((i : Int) % 3) a).2.2 = 0 := by
  rw [hold_ok h.n hi (by omega)]
  have hlt : i * 3 + i % 3 < q.hs.length := by rw [h.len]; omega
  refine ⟨⟨h.n, ?_, ?_, ?_, fun j hj => ?_⟩, ?_, rfl⟩
  · show (q.hs.set _ _).length = _; rw [List.length_set]; exact h.len
  · show lefts _ q.ws = []; rw [h.ws]; rfl
  · show Qm.cnt (q.hs.set (i * 3 + i % 3) a) a = i + 1
    have h1 := cnt_set q.hs (i * 3 + i % 3) a a hlt
    rw [h.at_ i hi, if_neg (Nat.lt_irrefl i), if_neg (show ¬ (0 : Int) = a by omega), if_pos rfl, h.cnt] at h1
    omega
  · show nth (q.hs.set (i * 3 + i % 3) a) _ = _
    rw [nth_set hlt]
    by_cases e : j = i
    · subst e; rw [if_pos rfl, if_pos (by omega)]
    · rw [if_neg (by omega), h.at_ j hj]
      by_cases hji : j < i
      · rw [if_pos hji, if_pos (by omega)]
      · rw [if_neg hji, if_neg (by omega)]
  · rw [h.ws]; rfl
theorem hasB_one (a : Int) : hasB [a] a = true := by simp [hasB]
theorem ret_wait {m : Nat} {a t : Int} {q : Q} (h : HA m a m q) (hm : 1 ≤ m) (ha : 0 < a) (ht : q.ok t) : HB m a 0 (retQ q t a).1 ∧ (retQ q t a).2.1 = [] ∧ (retQ q t a).2.2 = 0 ∧ retQ (retQ q t a).1 t a = ((retQ q t a).1, [], 6) := by
  have hc : q.c a ≠ 0 := by rw [c_of (by omega) h.cnt]; omega
  have e : retQ q t a = ((q.add a).loose, backs (q.add a) (q.add a).ws, 0) := by
    unfold retQ; rw [if_pos ⟨ht, ha⟩, if_neg (by rw [h.ws]; simp [hasB])]
  have hca : (q.add a).c a ≠ 0 := hc
  have hws : (q.add a).ws = [a] := by show q.ws ++ [a] = _; rw [h.ws]; rfl
  have h2 : (q.add a).loose.ws = [a] := by
    show lefts (q.add a) (q.add a).ws = [a]
    rw [hws]; simp [lefts, hca]
  rw [e]
  refine ⟨⟨h.n, h.len, ?_, ?_, fun j hj => ?_⟩, ?_, rfl, ?_⟩
  · show (q.add a).loose.ws = _; rw [h2, if_pos (by omega)]
  · show Qm.cnt q.hs a = m - 0; rw [h.cnt]; rfl
  · rw [if_neg (by omega)]; show nth q.hs _ = a; rw [h.at_ j hj, if_pos hj]
  · show backs (q.add a) (q.add a).ws = []; rw [hws]; simp [backs, hca]
  · unfold retQ
    rw [if_pos ⟨show (q.add a).loose.ok t from ht, ha⟩, if_pos (by rw [h2]; exact hasB_one a)]
theorem hb_step {m i : Nat} {a : Int} {q : Q} (h : HB m a i q) (hi : i < m) (ha : 0 < a) : HB m a (i + 1) (holdQ q (i : Int) ((i : Int) % 3) 0).1 ∧ (holdQ q (i : Int) ((i : Int) % 3) 0).2.1 = (if i + 1 = m then [a] else []) ∧ (holdQ q (i : Int) ((i : Int) % 3) 0).2.2 = 0 := by
  rw [hold_ok h.n hi (Int.le_refl 0)]
  have hlt : i * 3 + i % 3 < q.hs.length := by rw [h.len]; omega
  have hcn : Qm.cnt (q.put i (i % 3) 0).hs a = m - (i + 1) := by
    show Qm.cnt (q.hs.set (i * 3 + i % 3) 0) a = m - (i + 1)
    have h1 := cnt_set q.hs (i * 3 + i % 3) 0 a hlt
    rw [h.at_ i hi, if_neg (Nat.lt_irrefl i), if_pos rfl, if_neg (by omega), h.cnt] at h1
    omega
  have hc := c_of (q := q.put i (i % 3) 0) (a := a) (by omega) hcn
  have hws := h.ws
  rw [if_pos hi] at hws
  refine ⟨⟨h.n, ?_, ?_, hcn, fun j hj => ?_⟩, ?_, rfl⟩
  · show (q.hs.set _ _).length = _; rw [List.length_set]; exact h.len
  · show lefts (q.put i (i % 3) 0) q.ws = _
    rw [hws]
    by_cases e : i + 1 = m
    · rw [if_neg (by omega)]; simp only [lefts, List.filter_cons, List.filter_nil, hc]; rw [show m - (i + 1) = 0 by omega]; rfl
    · rw [if_pos (by omega)]; simp only [lefts, List.filter_cons, List.filter_nil, hc]; rw [decide_eq_false (by omega)]; rfl
  · show nth (q.hs.set (i * 3 + i % 3) 0) _ = _
    rw [nth_set hlt]
    by_cases e : j = i
    · subst e; rw [if_pos rfl, if_pos (by omega)]
    · rw [if_neg (by omega), h.at_ j hj]
      by_cases hji : j < i
      · rw [if_pos hji, if_pos (by omega)]
      · rw [if_neg hji, if_neg (by omega)]
  · rw [hws]
    by_cases e : i + 1 = m
    · rw [if_pos e]; simp only [backs, List.filter_cons, List.filter_nil, hc]; rw [show m - (i + 1) = 0 by omega]; rfl
    · rw [if_neg e]; simp only [backs, List.filter_cons, List.filter_nil, hc]; rw [decide_eq_false (by omega)]; rfl
/-- What nobody holds comes back at once. -/
theorem ret_free {q : Q} {a t : Int} (hI : Inv q) (hc : q.c a = 0) (hw : hasB q.ws a = false) (ha : 0 < a) (ht : q.ok t) : (retQ q t a).1 = q ∧ (retQ q t a).2.1 = [a] ∧ (retQ q t a).2.2 = 0 := by
  have e : retQ q t a = ((q.add a).loose, backs (q.add a) (q.add a).ws, 0) := by
    unfold retQ; rw [if_pos ⟨ht, ha⟩, if_neg (by rw [hw]; decide)]
  have hca : (q.add a).c a = 0 := hc
  have hb : backs (q.add a) q.ws = [] := inv_backs hI
  have hl : lefts (q.add a) q.ws = q.ws := List.filter_eq_self.2 fun x hx => by
    have h9 : (q.add a).c x ≠ 0 := hI.held x hx
    simpa using h9
  rw [e]
  refine ⟨?_, ?_, rfl⟩
  · show { q with ws := lefts (q.add a) (q.ws ++ [a]) } = q
    have : lefts (q.add a) (q.ws ++ [a]) = q.ws := by
      rw [lefts, List.filter_append]
      show lefts (q.add a) q.ws ++ _ = _
      rw [hl]; simp [hca]
    rw [this]
  · show backs (q.add a) (q.ws ++ [a]) = [a]
    rw [backs, List.filter_append]
    show backs (q.add a) q.ws ++ _ = _
    rw [hb]; simp [hca]
theorem hasL_hasB (l : List Int) (x : Int) : hasL l x = hasB l x := by
  simp only [hasL, hasB]
  congr 1
  funext y
  by_cases h : x = y
  · simp [h]
  · simp [h]; exact fun e => h e.symm
theorem uint_mod (x : Int) {m : Nat} (h0 : 1 ≤ m) (h1 : m ≤ 4) : ∃ k : Nat, k < m ∧ wrap64 ((IntKind.u64.wrap x).tmod (m : Int)) = (k : Int) := by
  have hx : 0 ≤ IntKind.u64.wrap x := by
    rw [IntKind.wrap_u64]
    omega
  rw [Int.tmod_eq_emod_of_nonneg hx]
  have h2 := Int.emod_nonneg (IntKind.u64.wrap x) (show (m : Int) ≠ 0 by omega)
  have h3 := Int.emod_lt_of_pos (IntKind.u64.wrap x) (show (0 : Int) < (m : Int) by omega)
  refine ⟨((IntKind.u64.wrap x) % (m : Int)).toNat, by omega, ?_⟩
  generalize (IntKind.u64.wrap x) % (m : Int) = y at *
  simp only [wrap64]
  omega
theorem addr_of (x : Int) : ∃ a : Int, 5000 ≤ a ∧ a ≤ 6023 ∧ wrap64 (5000 + bits BinOp.and IntKind.i64 x 1023) = a := by
  obtain ⟨k, hk, he⟩ := and_low x 10 1023 (by decide) (by decide)
  refine ⟨5000 + k, by omega, by omega, ?_⟩
  rw [he]
  simp only [wrap64]
  omega
end Go.Proofs.Ytphahilggfckaaa
