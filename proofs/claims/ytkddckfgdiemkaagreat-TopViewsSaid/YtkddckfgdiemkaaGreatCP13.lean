/-
  Plain: it is one of all executions, and its outcome is the machine's.
-/
import Derived.Test.YtkddckfgdiemkaaGreatCP3
import Derived.Test.YtkddckfgdiemkaaGreatCW18
set_option linter.unusedVariables false
set_option linter.unusedSimpArgs false
namespace Go.Proofs.YtkddckfgdiemkaaGreat
open Go.RowKit Go.Shelf Mem

section
variable {es : List Ev} {N : Nat} {off : Nat → Nat} {m : VM} {g : Gh}
theorem all_done (hp : Shape es N off) (hi : Inv es N off m g (fun _ => False)) (hov : ∀ t, t < N → off t + (m.th t).next = off (t + 1)) : (∀ e, e < es.length → g.X e) ∧ ∀ e, e < es.length → g.T e < es.length := by
  have hX : ∀ e, e < es.length → g.X e := fun e he => by
    obtain ⟨t, h1, h2, h3⟩ := hp.locate he
    have := (hi.thrs.x t (e - off t) h1 (by omega)).2 (by have := hov t h1; omega)
    rwa [show off t + (e - off t) = e by omega] at this
  refine ⟨hX, fun e he => ?_⟩
  have h1 := hi.thrs.T e (hX e he)
  rw [hi.thrs.ck] at h1
  have key : ∀ k, k ≤ N → sumN (fun t => (m.th t).next) k = off k := fun k => by
    induction k with
    | zero => intro _; rw [hp.z]; rfl
    | succ k ih => intro h; rw [sumN, ih (by omega)]; exact hov k (by omega)
  rw [key N (Nat.le_refl _), hp.e] at h1
  exact h1
theorem good_words (hp : Shape es N off) (hi : Inv es N off m g (fun _ => False)) (hov : ∀ t, t < N → off t + (m.th t).next = off (t + 1)) (s : List Int) : WOk es (exOf es.length m g s) g.rv g.T := by
  obtain ⟨hall, hT⟩ := all_done hp hi hov
  refine ⟨fun i hil hr => ?_, fun i hil => hT i hil⟩
  have hfr : (exOf es.length m g s).fr.getD i 0 = g.fr i := getD_rng hil
  rw [hfr]
  obtain ⟨q, a1, a2, a3, a4, a5, a6, hq⟩ := rd_from hi (hall i hil) hr
  rcases hq with ⟨_, b1, b2, _⟩ | ⟨w, b1, b2, b3, b4, b5, b6, b7⟩
  · exact .inl ⟨by rw [a3, b1], by rw [a4, b2]⟩
  · refine .inr ⟨w, hi.hist.xn w b2, by rw [a3, b1], b4, by rw [a4, b7], ?_⟩
    have := hi.hist.rT i (hall i hil) (by rw [a3, b1]; omega)
    rwa [a3, b1, Int.toNat_natCast] at this
theorem good_dones (hp : Shape es N off) (hi : Inv es N off m g (fun _ => False)) (hall : ∀ e, e < es.length → g.X e) (s : List Int) : (exOf es.length m g s).dn ∈ donesF es := by
  refine mem_dones (by simp [exOf]) (fun i hil hf => ?_)
  rw [show (exOf es.length m g s).dn.getD i false = g.dn i from getD_rng hil]
  have hk := hi.hist.K i (hall i hil) id
  have hkd := hp.kind i hil
  unfold isFree at hf
  rw [Bool.or_eq_false_iff] at hf
  have f3 := of_decide_eq_false hf.1
  have f4 := of_decide_eq_false hf.2
  unfold E at hk hkd
  by_cases h : (ev es (i : Int)).kind = 1 ∨ (ev es (i : Int)).kind = 2
  · rw [hk.w h]
    rcases h with h | h <;> simp [isW01, h]
  · rw [hk.n (by omega)]
    unfold isW01
    rw [decide_eq_false (fun h1 => h (.inl h1)), decide_eq_false (fun h1 => h (.inr h1))]; rfl
theorem ordL_mem (hi : Inv es N off m g (fun _ => False)) {l : Nat} (hl : l < 3) (x : Int) : x ∈ ordL m g l ↔ ∃ e : Nat, x = (e : Int) ∧ g.X e ∧ g.dn e = true ∧ lc es e = l := by
  constructor
  · intro h
    obtain ⟨j, hj, rfl⟩ := List.mem_iff_getElem.1 h
    obtain ⟨e, b1, b2, b3, b4, b5, b6⟩ := ordL_at hi hl hj
    rw [List.getD, List.getElem?_eq_getElem hj] at b1
    exact ⟨e, b1, b2, b3, b5⟩
  · rintro ⟨e, rfl, h1, h2, rfl⟩
    exact List.mem_of_getElem? (ordL_of hi h1 h2).2
theorem ordL_nodup (hi : Inv es N off m g (fun _ => False)) {l : Nat} (hl : l < 3) : (ordL m g l).Nodup := by
  rw [List.nodup_iff_pairwise_ne, List.pairwise_iff_getElem]
  intro i j h1 h2 hij he
  obtain ⟨a, a1, _, _, _, _, a6⟩ := ordL_at hi hl h1
  obtain ⟨b, b1, _, _, _, _, b6⟩ := ordL_at hi hl h2
  rw [List.getD, List.getElem?_eq_getElem h1, Option.getD_some] at a1
  rw [List.getD, List.getElem?_eq_getElem h2, Option.getD_some] at b1
  have : a = b := by rw [he, b1] at a1; omega
  subst this
  omega
theorem good_ord (hp : Shape es N off) (hi : Inv es N off m g (fun _ => False)) (hall : ∀ e, e < es.length → g.X e) (s : List Int) : (exOf es.length m g s).ord ∈ ordersW es (exOf es.length m g s).dn 3 := by
  refine mem_orders 3 _ rfl (Nat.le_refl _) (fun k hk => ?_)
  rw [ordL_getD k hk, show ((3 : Int) - ((3 : Nat) : Int) + (k : Int)) = (k : Int) by omega]
  have hmem : ∀ x, x ∈ writersF es (exOf es.length m g s).dn (k : Int) ↔ ∃ e : Nat, x = (e : Int) ∧ g.X e ∧ g.dn e = true ∧ lc es e = k := fun x => by
    unfold writersF
    rw [pickTo_iff]
    unfold isWr
    constructor
    · rintro ⟨h1, h2, h3⟩
      rw [Bool.and_eq_true, Bool.and_eq_true] at h3
      obtain ⟨e, rfl⟩ : ∃ e : Nat, x = (e : Int) := ⟨x.toNat, by omega⟩
      have he : e < es.length := by omega
      have hd := h3.1.2
      rw [Int.toNat_natCast, show (exOf es.length m g s).dn.getD e false = g.dn e from getD_rng he] at hd
      refine ⟨e, rfl, hall e he, hd, ?_⟩
      unfold lc
      rw [of_decide_eq_true h3.2]; omega
    · rintro ⟨e, rfl, h1, h2, h3⟩
      have he := hi.hist.xn e h1
      have hac := (hi.hist.dp e h1 h2).1
      have hlc := hp.loc e he
      unfold lc at h3
      unfold acc E at hac
      unfold E at hlc
      refine ⟨by omega, by omega, ?_⟩
      rw [Int.toNat_natCast, show (exOf es.length m g s).dn.getD e false = g.dn e from getD_rng he, h2, decide_eq_false hac, decide_eq_true (by omega)]; rfl
  have hwn : (writersF es (exOf es.length m g s).dn (k : Int)).Nodup := pickTo_nodup _ _
  refine mem_merges0 hwn ((List.perm_ext_iff_of_nodup (ordL_nodup hi hk) hwn).2 (fun x => by rw [hmem, ordL_mem hi hk])) (fun x y hxy hsub => ?_)
  have hlt : x < y := List.pairwise_iff_forall_sublist.1 (pickTo_lt _ _) hsub
  obtain ⟨hx, hy⟩ := pair_mem hsub
  obtain ⟨a, rfl, a1, a2, a3⟩ := (hmem x).1 hx
  obtain ⟨b, rfl, b1, b2, b3⟩ := (hmem y).1 hy
  have hpr := po_pr hp hi b1 (by omega : a < b) hxy
  have hco := (hi.sets.co a b (hpr a (.inl rfl)) (hi.hist.dp a a1 a2).1 (hi.hist.dp b b1 b2).1 (by rw [a3, b3])).2 b2
  obtain ⟨c1, c2⟩ := ordL_of hi a1 a2
  obtain ⟨d1, d2⟩ := ordL_of hi b1 b2
  rw [a3] at c2
  rw [b3] at d2
  exact sub_of_idx c2 d2 (by omega)
theorem choice_list (hi : Inv es N off m g (fun _ => False)) {l j q : Nat} (hl : l < 3) (hq : q < m.msgs.length) (hml : g.ml q = l) (hix : g.ix q = j) : (-1 :: ordL m g l)[j]? = some (g.wr q) := by
  obtain ⟨_, h2⟩ := hi.lines.inn q hq
  rw [hml, hix] at h2
  cases j with
  | zero =>
    have h0 := hi.lines.z l hl
    obtain ⟨_, h3⟩ := hi.lines.inn l (by have := hi.lines.m3; omega)
    rw [h0.1, h0.2] at h3
    rw [h2] at h3
    have : q = l := by have := Option.some.inj h3; omega
    subst this
    simp [(hi.hist.w0 q hl).1]
  | succ j =>
    simp only [List.getElem?_cons_succ, ordL, List.getElem?_map, List.getElem?_tail, h2]
    simp
theorem good_froms (hp : Shape es N off) (hi : Inv es N off m g (fun _ => False)) (hall : ∀ e, e < es.length → g.X e) (s : List Int) : (exOf es.length m g s).fr ∈ fromsW es (exOf es.length m g s).dn (exOf es.length m g s).ord es.length [] := by
  refine mem_froms es.length [] _ (by simp [exOf]) rfl (fun i _ hil => ?_)
  have hil' : i < es.length := by simpa using hil
  rw [show (exOf es.length m g s).fr.getD i 0 = g.fr i from getD_rng hil']
  refine ⟨fun hr => ?_, fun hr => hi.hist.nr i (hall i hil') hr⟩
  have hl3 := hp.lc3 i
  obtain ⟨q, a1, a2, a3, a4, a5, a6, _⟩ := rd_from hi (hall i hil') hr
  have hq := choice_list hi hl3 a1 a2 rfl
  unfold choiceW
  simp only []
  rw [show (exOf es.length m g s).dn.getD i false = g.dn i from getD_rng hil', show (ev es (i : Int)).loc.toNat = lc es i from rfl, ordL_getD _ hl3]
  split
  · rename_i hd
    have h7 := a6 hd
    obtain ⟨b1, b2⟩ := ordL_of hi (hall i hil') hd
    have hfind : findFrom (fun y => decide ((i : Int) = y)) 0 (-1 :: ordL m g (lc es i)) = ((0 + g.ix (g.ps i) : Nat) : Int) := by
      refine findFrom_some _ 0 _ ?_ (fun j hj => ?_)
      · rw [show g.ix (g.ps i) = g.ix (g.ps i) - 1 + 1 by omega, List.getElem?_cons_succ]; exact b2
      · cases j with
        | zero => simp at hj
        | succ j =>
          rw [List.getElem?_cons_succ] at hj
          have hjl := (List.getElem?_eq_some_iff.1 hj).1
          obtain ⟨e, d1, d2, d3, d4, d5, d6⟩ := ordL_at hi hl3 hjl
          rw [List.getD, hj] at d1
          have : i = e := by simp at d1; omega
          subst this; omega
    rw [hfind, Nat.zero_add, Int.toNat_natCast, h7, Nat.add_sub_cancel]
    have hlt := (List.getElem?_eq_some_iff.1 hq).1
    rw [List.drop_eq_getElem_cons hlt, List.take_succ_cons, List.take_zero]
    have := (List.getElem?_eq_some_iff.1 hq).2
    rw [this, a3]; simp
  · rw [a3]; exact List.mem_of_getElem? hq
theorem fenF_mem {x : Int} : x ∈ fenF es ↔ ∃ e : Nat, x = (e : Int) ∧ e < es.length ∧ isStrong (E es e) = true := by
  unfold fenF
  rw [pickTo_iff]
  constructor
  · rintro ⟨h1, h2, h3⟩
    obtain ⟨e, rfl⟩ : ∃ e : Nat, x = (e : Int) := ⟨x.toNat, by omega⟩
    exact ⟨e, rfl, by omega, h3⟩
  · rintro ⟨e, rfl, h1, h2⟩
    exact ⟨by omega, by omega, h2⟩
theorem good_fen (hp : Shape es N off) (hi : Inv es N off m g (fun _ => False)) (hall : ∀ e, e < es.length → g.X e) : g.fen ∈ mergesW (thOf es) (fenF es).length [] (fenF es) := by
  have hs := hi.sets
  have hmem : ∀ x, x ∈ g.fen ↔ x ∈ fenF es := fun x => by
    rw [fenF_mem]
    constructor
    · intro h
      obtain ⟨e, h1, h2, h3, _⟩ := hs.fe x h
      exact ⟨e, h1, hi.hist.xn e h2, h3⟩
    · rintro ⟨e, rfl, h1, h2⟩
      exact hs.fm e (hall e h1) h2
  have hnd : g.fen.Nodup := by
    rw [List.nodup_iff_pairwise_ne]
    refine List.Pairwise.imp ?_ hs.fp
    intro a b h he
    subst he
    have := (h.lt hs).2.2
    omega
  have hfn : (fenF es).Nodup := pickTo_nodup _ _
  refine mem_merges0 hfn ((List.perm_ext_iff_of_nodup hnd hfn).2 hmem) (fun x y hxy hsub => ?_)
  have hlt : x < y := List.pairwise_iff_forall_sublist.1 (pickTo_lt _ _) hsub
  obtain ⟨hx, hy⟩ := pair_mem hsub
  obtain ⟨a, rfl, a1, _⟩ := fenF_mem.1 hx
  obtain ⟨b, rfl, b1, _⟩ := fenF_mem.1 hy
  have hpr := po_pr hp hi (hall b b1) (by omega : a < b) hxy
  refine sub_of_pair hs.fp ((hmem _).2 hx) ((hmem _).2 hy) (by omega) (fun h => ?_)
  simp only [Int.toNat_natCast] at h
  have h1 := (hpr.lt hs).2.2
  have h2 := (h.lt hs).2.2
  omega
theorem good_possible (hp : Shape es N off) (hi : Inv es N off m g (fun _ => False)) (hov : ∀ t, t < N → off t + (m.th t).next = off (t + 1)) : possibleF es (exOf es.length m g []) = true := by
  obtain ⟨hall, hT⟩ := all_done hp hi hov
  have hb : brokenF es (exOf es.length m g []) = 0 := broken_good hp hi hall (fun k hk => by simp at hk)
  have hw := (words_ok (good_words hp hi hov [])).1
  have hbad : (List.range es.length).any (fun i => badP es (exOf es.length m g []) i) = false := any_range_false fun i hil => by
    have hk := hi.hist.K i (hall i hil) id
    unfold badP
    rw [show (exOf es.length m g []).dn.getD i false = g.dn i from getD_rng hil]
    unfold E at hk
    by_cases h3 : (ev es (i : Int)).kind = 3
    · have hr : isRd (ev es (i : Int)) = true := by simp [isRd, h3]
      rw [hw i hil hr, h3]
      have := hk.c h3
      cases hd : g.dn i with
      | true => rw [this.1 hd]; simp
      | false =>
        have hne : g.rv i ≠ (ev es (i : Int)).v := fun h => by rw [this.2 h] at hd; cases hd
        simp [hne]
    · by_cases h4 : (ev es (i : Int)).kind = 4
      · have hr : isRd (ev es (i : Int)) = true := by simp [isRd, h4]
        rw [hw i hil hr, h4]
        cases hd : g.dn i with
        | true => rw [hk.k h4 hd]; simp
        | false => simp
      · simp [h3, h4]
  rw [possibleF, hbad, hb]; rfl
theorem good_exec (hp : Shape es N off) (hi : Inv es N off m g (fun _ => False)) (hov : ∀ t, t < N → off t + (m.th t).next = off (t + 1)) : exOf es.length m g g.fen ∈ execsF es (fenF es) := by
  obtain ⟨hall, hT⟩ := all_done hp hi hov
  refine mem_execs (good_dones hp hi hall _) (good_ord hp hi hall _) (good_froms hp hi hall _) (good_possible hp hi hov) (good_fen hp hi hall) (broken_good hp hi hall (fun k hk => ?_))
  have := List.pairwise_iff_getElem.1 hi.sets.fp k (k + 1) (by omega) hk (by omega)
  rw [List.getD, List.getD, List.getElem?_eq_getElem hk, List.getElem?_eq_getElem (by omega : k < g.fen.length)]
  exact this
/-! The outcome. -/
theorem outTo_off (rs : List Int) (rv : Nat → Int) (o : Nat) : ∀ k, (∀ i, i < k → isRd (E es (o + i)) = true → rs.getD (o + i) 0 = rv (o + i)) → outTo es rs (o + k) = outTo es rs o ++ rdTo es rv o k
  | 0, _ => by simp [rdTo]
  | k + 1, h => by
    rw [← Nat.add_assoc, outTo, rdTo, outTo_off rs rv o k (fun i hi => h i (by omega))]
    by_cases hr : isRd (E es (o + k)) = true
    · rw [if_pos hr, if_pos hr, h k (by omega) hr, List.append_assoc]
    · rw [if_neg hr, if_neg hr]
theorem out_reads (hp : Shape es N off) (hi : Inv es N off m g (fun _ => False)) (hov : ∀ t, t < N → off t + (m.th t).next = off (t + 1)) (s : List Int) : outTo es (wordsF es (exOf es.length m g s)).rd es.length = m.thr.flatMap (·.read) := by
  have hw := (words_ok (good_words hp hi hov s)).1
  have hle : ∀ t, t ≤ N → off t ≤ es.length := fun t => by
    intro h
    rw [← hp.e]
    have : ∀ k, k ≤ N → t ≤ k → off t ≤ off k := fun k => by
      induction k with
      | zero => intro _ h; rw [show t = 0 by omega]; exact Nat.le_refl _
      | succ k ih =>
        intro h1 h2
        by_cases h : t = k + 1
        · rw [h]; exact Nat.le_refl _
        · exact Nat.le_trans (ih (by omega) (by omega)) (hp.mono k (by omega))
    exact this N (Nat.le_refl _) h
  have key : ∀ k, k ≤ N → outTo es (wordsF es (exOf es.length m g s)).rd (off k) = (m.thr.take k).flatMap (·.read) := fun k => by
    induction k with
    | zero => intro _; rw [hp.z]; rfl
    | succ k ih =>
      intro hk
      have h1 := hov k (by omega)
      rw [← h1, outTo_off _ g.rv (off k) _ (fun i hi' hr => hw _ (by have := hle (k + 1) hk; omega) hr), ih (by omega)]
      have hlt : k < m.thr.length := by rw [hi.thrs.len]; omega
      rw [List.take_add_one, List.getElem?_eq_getElem hlt, List.flatMap_append]
      have : m.th k = m.thr[k] := by unfold VM.th; rw [List.getD, List.getElem?_eq_getElem hlt]; rfl
      rw [← hi.thrs.rd k (by omega), this]
      simp
  have := key N (Nat.le_refl _)
  rw [hp.e] at this
  rw [this, List.take_of_length_le (by rw [hi.thrs.len]; exact Nat.le_refl _)]
theorem out_last (hp : Shape es N off) (hi : Inv es N off m g (fun _ => False)) (hov : ∀ t, t < N → off t + (m.th t).next = off (t + 1)) (s : List Int) {l : Nat} (hl : l < 3) : lastW (wordsF es (exOf es.length m g s)).wr (ordL m g l) = lastV m l := by
  have hw := (words_ok (good_words hp hi hov s)).2
  have hlen := ordL_len (m := m) (g := g) l
  obtain ⟨_, h3⟩ := hi.lines.inn l (by have := hi.lines.m3; omega)
  rw [(hi.lines.z l hl).1, (hi.lines.z l hl).2] at h3
  have h0 := (List.getElem?_eq_some_iff.1 h3).1
  unfold lastW lastV
  split
  · rename_i h
    rw [show (m.ln l).length - 1 = 0 by omega, List.getD, h3, Option.getD_some, Int.toNat_natCast, (hi.hist.w0 l hl).2.1]
  · rename_i h
    have h1 : (m.ln l).length - 1 < (m.ln l).length := by omega
    obtain ⟨q, a1, a2, a3, a4⟩ := hi.lines.of_ l _ _ hl (List.getElem?_eq_getElem h1)
    have hq3 : 3 ≤ q := by
      refine Nat.le_of_not_lt fun h => ?_
      have := (hi.lines.z q h).2
      omega
    obtain ⟨e, b1, b2, b3, b4, b5, b6, b7, _⟩ := hi.hist.w1 q hq3 a2
    have h8 := (ordL_of hi b2 b3).2
    rw [b5, a4, b6, a3] at h8
    have h9 : (ordL m g l).getD ((ordL m g l).length - 1) 0 = (e : Int) := by
      rw [show (ordL m g l).length - 1 = (m.ln l).length - 1 - 1 by omega, List.getD, h8]; rfl
    rw [h9, Int.toNat_natCast, hw e (hi.hist.xn e b2) b4]
    rw [List.getD, List.getElem?_eq_getElem h1, Option.getD_some, a1, Int.toNat_natCast, b7]
theorem good_outcome (hp : Shape es N off) (hi : Inv es N off m g (fun _ => False)) (hov : ∀ t, t < N → off t + (m.th t).next = off (t + 1)) : outcomeF es (exOf es.length m g g.fen) = outV m := by
  unfold outcomeF outV
  rw [out_reads hp hi hov]
  simp only [lastTo, List.append_assoc, List.singleton_append]
  rw [ordL_getD 0 (by omega), ordL_getD 1 (by omega), ordL_getD 2 (by omega), out_last hp hi hov _ (by omega), out_last hp hi hov _ (by omega), out_last hp hi hov _ (by omega)]
  simp
end
end Go.Proofs.YtkddckfgdiemkaaGreat
/-
  Plain: a play of turns, and then of the threads to their ends.
-/
set_option linter.unusedVariables false
set_option linter.unusedSimpArgs false
namespace Go.Proofs.YtkddckfgdiemkaaGreat
open Go.RowKit Go.Shelf Mem

/-- The next operation of a thread, done by the choice of a number. -/
def stepF (es : List Ev) (N : Nat) (off : Nat → Nat) (m : VM) (who : Int) (pick : Nat → Nat) : VM :=
  if 0 ≤ who ∧ who < (N : Int) ∧ off who.toNat + (m.th who.toNat).next < off (who.toNat + 1) then
    doesF m who.toNat (E es (off who.toNat + (m.th who.toNat).next)) ((choicesF m who.toNat (E es (off who.toNat + (m.th who.toNat).next))).getD (pick (choicesF m who.toNat (E es (off who.toNat + (m.th who.toNat).next))).length) (0, false))
  else m
def pickT (b : Int) (n : Nat) : Nat := (Int.tmod (Int.tmod b (n : Int) + (n : Int)) (n : Int)).toNat
def turnsF (es : List Ev) (N : Nat) (off : Nat → Nat) (ts : List (Int × Int)) (m : VM) : Nat → VM
  | 0 => m
  | k + 1 => stepF es N off (turnsF es N off ts m k) (ts.getD k (0, 0)).1 (pickT (ts.getD k (0, 0)).2)
def endF (es : List Ev) (N : Nat) (off : Nat → Nat) (t : Nat) (m : VM) : Nat → VM
  | 0 => m
  | k + 1 => stepF es N off (endF es N off t m k) (t : Int) (fun n => n - 1)
def endsV (es : List Ev) (N : Nat) (off : Nat → Nat) (m : VM) : Nat → VM
  | 0 => m
  | t + 1 => endF es N off t (endsV es N off m t) (off (t + 1) - (off t + ((endsV es N off m t).th t).next))
def playF (es : List Ev) (N : Nat) (off : Nat → Nat) (ts : List (Int × Int)) : List Int := outV (endsV es N off (turnsF es N off ts (vm0 N) ts.length) N)
theorem pickT_lt {b : Int} {n : Nat} (h : 0 < n) : pickT b n < n := by
  have h1 := Int.lt_tmod_of_pos b (show (0 : Int) < n by omega)
  have h2 := Int.tmod_lt_of_pos b (show (0 : Int) < n by omega)
  have h3 := Int.tmod_lt_of_pos (Int.tmod b n + n) (show (0 : Int) < n by omega)
  have h4 := Int.tmod_nonneg (n : Int) (show 0 ≤ Int.tmod b n + n by omega)
  unfold pickT; omega
section
variable {es : List Ev} {N : Nat} {off : Nat → Nat} {m : VM} {g : Gh} {t e : Nat}
theorem choices_pos (hp : Shape es N off) (hi : Inv es N off m g (fun _ => False)) (o : Ev) (hl3 : o.loc.toNat < 3) (t : Nat) : 0 < (choicesF m t o).length := by
  unfold choicesF
  split
  · simp
  · have h1 := hi.lines.place_lt hl3 ((m.th t).now.at_ o.loc.toNat)
    obtain ⟨d, hd⟩ : ∃ d, (m.ln o.loc.toNat).length - place m.line o.loc.toNat ((m.th t).now.at_ o.loc.toNat) = d + 1 := ⟨_, (Nat.succ_pred_eq_of_pos (by omega)).symm⟩
    rw [hd, choicesTo, List.length_append]
    have hb : bound m o.loc.toNat (place m.line o.loc.toNat ((m.th t).now.at_ o.loc.toNat) + d) = false := by
      unfold bound
      rw [decide_eq_false (by omega)]; rfl
    have : 0 < (choice1 m o (place m.line o.loc.toNat ((m.th t).now.at_ o.loc.toNat) + d)).length := by
      unfold choice1
      rw [hb]
      cases writesF o (m.msg ((m.ln o.loc.toNat).getD (place m.line o.loc.toNat ((m.th t).now.at_ o.loc.toNat) + d) 0).toNat).word <;> simp
    omega
theorem doesF_next (hlen : m.thr.length = N) (ht : t < N) (o : Ev) (c : Nat × Bool) (t' : Nat) : ((doesF m t o c).th t').next = if t' = t then (m.th t).next + 1 else (m.th t').next := by
  have key : ∀ (m1 : VM) (x : Thr) (a : V3) (ms : List Msg) (ln : List (List Int)), m1.thr.length = N → ((⟨ms, ln, m1.thr.set t x, a⟩ : VM).th t').next = if t' = t then x.next else (m1.th t').next := fun m1 x a ms ln h1 => by
    have : (⟨ms, ln, m1.thr.set t x, a⟩ : VM).th t' = if t' = t then x else m1.th t' := by
      show (m1.thr.set t x).getD t' default = _
      rw [getD_set]
      by_cases h : t = t'
      · subst h; rw [if_pos ⟨rfl, by omega⟩, if_pos rfl]
      · rw [if_neg (fun hh => h hh.1), if_neg (fun hh => h hh.symm)]; rfl
    rw [this]; split <;> rfl
  have hb : ∀ t', ((bump m t).th t').next = if t' = t then (m.th t).next + 1 else (m.th t').next := fun t' => by
    unfold bump setTh
    rw [th_set (by omega)]; split <;> rfl
  have hbl : (bump m t).thr.length = N := by simp [bump, setTh, hlen]
  unfold doesF
  split
  · unfold fencedF
    rw [key _ _ _ _ _ hbl]
    split
    · show ((bump m t).th t).next = _
      rw [hb, if_pos rfl]
    · rename_i h; rw [hb, if_neg h]
  · simp only []
    have h2 : ∀ q, ((readsF (bump m t) t q o).th t').next = if t' = t then (m.th t).next + 1 else (m.th t').next := fun q => by
      unfold readsF setTh
      rw [key (bump m t) _ _ _ _ hbl]
      split
      · show ((bump m t).th t).next = _
        rw [hb, if_pos rfl]
      · rename_i h; rw [hb, if_neg h]
    have h3 : ∀ q t', ((readsF (bump m t) t q o).th t').next = if t' = t then (m.th t).next + 1 else (m.th t').next := fun q t' => by
      unfold readsF setTh
      rw [th_set (by omega)]
      split
      · show ((bump m t).th t).next = _
        rw [hb, if_pos rfl]
      · rename_i h; rw [hb, if_neg h]
    obtain ⟨m2, hm2⟩ : ∃ m2, (if o.kind = 1 then bump m t else readsF (bump m t) t ((m.ln o.loc.toNat).getD c.1 0).toNat o) = m2 := ⟨_, rfl⟩
    rw [hm2]
    have h4 : ∀ t', (m2.th t').next = if t' = t then (m.th t).next + 1 else (m.th t').next := fun t' => by
      rw [← hm2]; split
      · exact hb t'
      · exact h3 _ t'
    have h5 : m2.thr.length = N := by
      rw [← hm2]; split
      · exact hbl
      · simp [readsF, setTh, hbl]
    split
    · unfold writesV
      simp only []
      rw [key m2 _ _ _ _ h5]
      split
      · show (m2.th t).next = _
        rw [h4, if_pos rfl]
      · rename_i h; rw [h4, if_neg h]
    · exact h4 t'
/-- What holds between the operations. -/
def Good (es : List Ev) (N : Nat) (off : Nat → Nat) (m : VM) : Prop := ∃ g, Inv es N off m g (fun _ => False)
theorem Good.start (hp : Shape es N off) : Good es N off (vm0 N) := ⟨_, Inv.start hp⟩
theorem Good.step (hp : Shape es N off) (hi : Good es N off m) (who : Int) (pick : Nat → Nat) (hpk : ∀ n, 0 < n → pick n < n) : Good es N off (stepF es N off m who pick) := by
  unfold stepF
  split
  · rename_i h
    obtain ⟨g, hi⟩ := hi
    have hpos := choices_pos hp hi (E es (off who.toNat + (m.th who.toNat).next)) (hp.lc3 _) who.toNat
    refine Inv.does hp hi (by omega) rfl h.2.2 ?_
    exact getD_mem (hpk _ hpos) _
  · exact hi
theorem stepF_next (hi : Good es N off m) (who : Int) (pick : Nat → Nat) (t' : Nat) (ht' : t' < N) : ((stepF es N off m who pick).th t').next = if (t' : Int) = who ∧ off t' + (m.th t').next < off (t' + 1) then (m.th t').next + 1 else (m.th t').next := by
  obtain ⟨g, hi⟩ := hi
  unfold stepF
  split
  · rename_i h
    rw [doesF_next hi.thrs.len (by omega)]
    by_cases ht : t' = who.toNat
    · subst ht
      rw [if_pos rfl, if_pos ⟨by omega, h.2.2⟩]
    · rw [if_neg ht, if_neg (fun hh => ht (by omega))]
  · rename_i h
    rw [if_neg]
    rintro ⟨rfl, h2⟩
    exact h ⟨by omega, by omega, by simpa using h2⟩
theorem Good.turns (hp : Shape es N off) (hi : Good es N off m) (ts : List (Int × Int)) : ∀ k, Good es N off (turnsF es N off ts m k)
  | 0 => hi
  | k + 1 => (Good.turns hp hi ts k).step hp _ _ (fun n h => pickT_lt h)
theorem Good.endF_ (hp : Shape es N off) (hi : Good es N off m) (t : Nat) : ∀ k, Good es N off (endF es N off t m k)
  | 0 => hi
  | k + 1 => (Good.endF_ hp hi t k).step hp _ _ (fun n h => by omega)
theorem endF_next (hp : Shape es N off) (hi : Good es N off m) (t : Nat) (ht : t < N) : ∀ k, off t + (m.th t).next + k ≤ off (t + 1) → ((endF es N off t m k).th t).next = (m.th t).next + k ∧ ∀ t', t' < N → t' ≠ t → ((endF es N off t m k).th t').next = (m.th t').next
  | 0, _ => ⟨rfl, fun _ _ _ => rfl⟩
  | k + 1, hk => by
    obtain ⟨h1, h2⟩ := endF_next hp hi t ht k (by omega)
    have hg := Good.endF_ hp hi t k
    rw [endF]
    refine ⟨?_, fun t' h3 h4 => ?_⟩
    · rw [stepF_next hg _ _ t ht, if_pos ⟨rfl, by omega⟩, h1]; omega
    · rw [stepF_next hg _ _ t' h3, if_neg (fun hh => h4 (by omega)), h2 t' h3 h4]
theorem Good.ends (hp : Shape es N off) (hi : Good es N off m) : ∀ k, k ≤ N → Good es N off (endsV es N off m k) ∧ ∀ t, t < k → off t + ((endsV es N off m k).th t).next = off (t + 1)
  | 0, _ => ⟨hi, fun t h => by omega⟩
  | k + 1, hk => by
    obtain ⟨h1, h2⟩ := Good.ends hp hi k (by omega)
    refine ⟨Good.endF_ hp h1 k _, fun t ht => ?_⟩
    have hnx : off k + ((endsV es N off m k).th k).next ≤ off (k + 1) := by
      obtain ⟨g, h⟩ := h1
      exact h.thrs.nx k (by omega)
    obtain ⟨h3, h4⟩ := endF_next hp h1 k (by omega) (off (k + 1) - (off k + ((endsV es N off m k).th k).next)) (by omega)
    rw [endsV]
    by_cases htk : t = k
    · subst htk; rw [h3]; omega
    · rw [h4 t (by omega) htk]; exact h2 t (by omega)
/-- What the machine of views comes to, the axioms have an execution for. -/
theorem views_sound (hp : Shape es N off) (ts : List (Int × Int)) : ∃ x, x ∈ execsF es (fenF es) ∧ outcomeF es x = playF es N off ts := by
  obtain ⟨⟨g, hi⟩, hov⟩ := Good.ends hp (Good.turns hp (Good.start hp) ts ts.length) N (Nat.le_refl _)
  exact ⟨_, good_exec hp hi hov, good_outcome hp hi hov⟩
end
end Go.Proofs.YtkddckfgdiemkaaGreat
/-
  Plain: every execution of them fits.
-/
set_option linter.unusedVariables false
set_option linter.unusedSimpArgs false
namespace Go.Proofs.YtkddckfgdiemkaaGreat
open Go.RowKit Go.Shelf Mem

theorem sorted_perm {l p : List Int} (h : l.Perm p) (hp : p.Pairwise (· < ·)) : (l.mergeSort fun x y => decide (x ≤ y)) = p := by
  have h1 := List.pairwise_mergeSort (le := fun x y : Int => decide (x ≤ y)) (fun a b c h1 h2 => decide_eq_true (by have := of_decide_eq_true h1; have := of_decide_eq_true h2; omega)) (fun a b => by
    rw [Bool.or_eq_true]; rcases Int.le_total a b with h | h
    · exact .inl (decide_eq_true h)
    · exact .inr (decide_eq_true h)) l
  refine List.Perm.eq_of_pairwise (le := fun a b : Int => decide (a ≤ b) = true) (fun a b _ _ h1 h2 => ?_) h1 (hp.imp (fun h => decide_eq_true (by omega))) ((List.mergeSort_perm l _).trans h)
  have := of_decide_eq_true h1
  have := of_decide_eq_true h2
  omega
theorem dones_get {es : List Ev} {d : List Bool} (h : d ∈ donesF es) {i : Nat} (hi : i < es.length) (hf : isFree (ev es (i : Int)) = false) : d.getD i false = isW01 (ev es (i : Int)) := by
  simp only [donesF, donesTo, List.mem_map, List.mem_range] at h
  obtain ⟨s, _, rfl⟩ := h
  rw [doneOf, setTo_get]
  · rw [bool_getD (by simp [baseD]; omega)]
    simp [baseD]
  · exact Nat.le_refl _
  · intro j hj e
    rw [int_getD hj] at e
    have p := pickTo_iff.1 (List.getElem_mem hj)
    have h2 : (freeF es)[j] = (i : Int) := by omega
    rw [h2] at p
    rw [hf] at p
    exact absurd p.2.2 (by decide)
/-- That an execution fits. -/
structure FitOk (es : List Ev) (x : Ex) : Prop where
  src : ∀ i : Nat, i < es.length → isRd (ev es (i : Int)) = true → x.fr.getD i 0 = -1 ∨ ∃ w : Nat, x.fr.getD i 0 = (w : Int) ∧ w < es.length ∧ x.dn.getD w false = true ∧ (ev es (w : Int)).kind ≠ 5 ∧ (ev es (w : Int)).loc = (ev es (i : Int)).loc
  nrd : ∀ i : Nat, i < es.length → isRd (ev es (i : Int)) = false → x.fr.getD i 0 = -2
  kw : ∀ i : Nat, i < es.length → (ev es (i : Int)).kind = 1 ∨ (ev es (i : Int)).kind = 2 → x.dn.getD i false = true
  kn : ∀ i : Nat, i < es.length → (ev es (i : Int)).kind = 0 ∨ (ev es (i : Int)).kind = 5 → x.dn.getD i false = false
  kc : ∀ i : Nat, i < es.length → (ev es (i : Int)).kind = 3 → x.dn.getD i false = ((wordsF es x).rd.getD i 0 == (ev es (i : Int)).v)
  kk : ∀ i : Nat, i < es.length → (ev es (i : Int)).kind = 4 → x.dn.getD i false = true → (wordsF es x).rd.getD i 0 = (ev es (i : Int)).v
  so : ∀ k, k < 3 → ((x.ord.getD k []).mergeSort fun x y => decide (x ≤ y)) = writersF es x.dn (k : Int)
  sf : (x.fen.mergeSort fun x y => decide (x ≤ y)) = fenF es
theorem words_fen (es : List Ev) (f : List Int) (d : List Bool) (o : List (List Int)) (s s' : List Int) : wordsF es ⟨f, d, o, s⟩ = wordsF es ⟨f, d, o, s'⟩ := by
  have h1 : ∀ i st, wdRead es ⟨f, d, o, s⟩ i st = wdRead es ⟨f, d, o, s'⟩ i st := fun i st => rfl
  have h2 : ∀ st k, wdTo es ⟨f, d, o, s⟩ st k = wdTo es ⟨f, d, o, s'⟩ st k := fun st k => by
    induction k with
    | zero => rfl
    | succ k ih => rw [wdTo, wdTo, ih, h1]
  have h3 : ∀ k, wdRounds es ⟨f, d, o, s⟩ k = wdRounds es ⟨f, d, o, s'⟩ k := fun k => by
    induction k with
    | zero => rfl
    | succ k ih => rw [wdRounds, wdRounds, ih, h2]
  exact h3 _
theorem fit_ok {es : List Ev} {x : Ex} (he : WfE es) (hd : x.dn ∈ donesF es) (ho : x.ord ∈ ordersW es x.dn 3) (hf : x.fr ∈ fromsW es x.dn x.ord es.length []) (hp : possibleF es ⟨x.fr, x.dn, x.ord, []⟩ = true) (hs : x.fen ∈ mergesW (thOf es) (fenF es).length [] (fenF es)) : FitOk es x := by
  obtain ⟨h1, h2⟩ := froms_all hf
  have hbad : ∀ i, i < es.length → badP es ⟨x.fr, x.dn, x.ord, []⟩ i = false := fun i hi => by
    unfold possibleF at hp
    rw [Bool.and_eq_true, Bool.not_eq_true', List.any_eq_false] at hp
    have := hp.1 i (List.mem_range.2 hi)
    simpa using this
  have hw : wordsF es ⟨x.fr, x.dn, x.ord, []⟩ = wordsF es x := words_fen es x.fr x.dn x.ord [] x.fen
  have hk : ∀ i, i < es.length → isFree (ev es (i : Int)) = false → x.dn.getD i false = isW01 (ev es (i : Int)) := fun i hi hf => dones_get hd hi hf
  refine ⟨fun i hi hr => ?_, fun i hi hr => (h2 i hi).2 hr, fun i hi h => ?_, fun i hi h => ?_, fun i hi h => ?_, fun i hi h hdn => ?_, fun k hk3 => sorted_perm (ord_getD ho hk3) (pickTo_lt _ _), sorted_perm (mergesW_len _ hs) (pickTo_lt _ _)⟩
  · rcases choiceW_in ((h2 i hi).1 hr) with hw | hw
    · exact .inl hw
    · have hl := he.l i hi
      have hp2 := ord_getD ho (k := (ev es (i : Int)).loc.toNat) (by omega)
      have hm := pickTo_iff.1 (hp2.mem_iff.1 hw)
      obtain ⟨a1, a2, a3⟩ := hm
      obtain ⟨w, hwe⟩ : ∃ w : Nat, x.fr.getD i 0 = (w : Int) := ⟨(x.fr.getD i 0).toNat, by omega⟩
      rw [hwe] at a1 a2 a3
      unfold isWr at a3
      rw [Bool.and_eq_true, Bool.and_eq_true, Bool.not_eq_true', Int.toNat_natCast] at a3
      refine .inr ⟨w, hwe, by omega, a3.1.2, of_decide_eq_false a3.1.1, ?_⟩
      rw [of_decide_eq_true a3.2]; omega
  · rw [hk i hi (by rcases h with h | h <;> simp [isFree, h])]
    rcases h with h | h <;> simp [isW01, h]
  · rw [hk i hi (by rcases h with h | h <;> simp [isFree, h])]
    rcases h with h | h <;> simp [isW01, h]
  · have := hbad i hi
    unfold badP at this
    rw [hw] at this
    simp only [h, beq_self_eq_true, Bool.true_and, Bool.or_eq_false_iff, bne_eq_false_iff_eq] at this
    exact this.1
  · have := hbad i hi
    unfold badP at this
    rw [hw] at this
    simp only [h, beq_self_eq_true, Bool.true_and, Bool.or_eq_false_iff] at this
    have h3 := this.2
    rw [show (({ fr := x.fr, dn := x.dn, ord := x.ord, fen := [] } : Ex).dn.getD i false) = true from hdn, Bool.true_and, bne_eq_false_iff_eq] at h3
    exact h3
end Go.Proofs.YtkddckfgdiemkaaGreat
