/-
  Plain: what the choices of dones, orders, froms and merges are like.
-/
import Derived.Test.YtkddckfgdiemkaaGreatCW15
set_option linter.unusedVariables false
set_option linter.unusedSimpArgs false
namespace Go.Proofs.YtkddckfgdiemkaaGreat
open Go.RowKit Go.Shelf Mem

theorem pickTo_iff {q : Int → Bool} {n : Nat} {x : Int} : x ∈ pickTo q n ↔ 0 ≤ x ∧ x < (n : Int) ∧ q x = true := by
  refine ⟨pickTo_mem, fun h => ?_⟩
  simp only [pickTo, List.mem_filter, List.mem_map, List.mem_range]
  exact ⟨⟨x.toNat, by omega, by omega⟩, h.2.2⟩
theorem getD_mem {α : Type} {l : List α} {k : Nat} (h : k < l.length) (d : α) : l.getD k d ∈ l := by
  rw [List.getD, List.getElem?_eq_getElem h]; exact List.getElem_mem _
theorem mergesW_perm (th : Int → Int) : ∀ (n : Nat) (out left l : List Int), left.length = n → l ∈ mergesW th n out left → ∃ m, l = out ++ m ∧ m.Perm left
  | 0, out, left, l, hn, h => by
    obtain rfl := List.eq_nil_of_length_eq_zero hn
    simp only [mergesW, List.mem_singleton] at h
    exact ⟨[], by simp [h], List.Perm.refl _⟩
  | n + 1, out, left, l, hn, h => by
    simp only [mergesW, List.mem_flatMap, List.mem_range] at h
    obtain ⟨i, hi, h⟩ := h
    split at h
    · cases h
    · obtain ⟨m, rfl, hp⟩ := mergesW_perm th n _ _ _ (by simp; omega) h
      have hg : left.getD i 0 = left[i] := int_getD hi
      refine ⟨left.getD i 0 :: m, by simp, ?_⟩
      have h1 : left = left.take i ++ left[i] :: left.drop (i + 1) := by
        rw [← List.drop_eq_getElem_cons hi, List.take_append_drop]
      rw [hg]
      conv => rhs; rw [h1]
      exact (List.Perm.cons _ hp).trans List.perm_middle.symm
theorem mergesW_len (th : Int → Int) {left l : List Int} (h : l ∈ mergesW th left.length [] left) : l.Perm left := by
  obtain ⟨m, rfl, hp⟩ := mergesW_perm th _ _ _ _ rfl h
  simpa using hp
theorem ordersW_perm (es : List Ev) (d : List Bool) : ∀ (n : Nat) (y : List (List Int)), y ∈ ordersW es d n → y.length = n ∧ ∀ k, k < n → (y.getD k []).Perm (writersF es d ((3 : Int) - n + k))
  | 0, y, h => by
    simp only [ordersW, List.mem_singleton] at h
    subst h
    exact ⟨rfl, fun k hk => absurd hk (by omega)⟩
  | n + 1, y, h => by
    simp only [ordersW, List.mem_flatMap, List.mem_map] at h
    obtain ⟨l, hl, r, hr, rfl⟩ := h
    obtain ⟨h1, h2⟩ := ordersW_perm es d n r hr
    refine ⟨by simp [h1], fun k hk => ?_⟩
    cases k with
    | zero =>
      have := mergesW_len _ hl
      have e : ((3 : Int) - ((n + 1 : Nat) : Int) + ((0 : Nat) : Int)) = (2 : Int) - n := by omega
      rw [e]; simpa using this
    | succ k =>
      have := h2 k (by omega)
      have e : ((3 : Int) - ((n + 1 : Nat) : Int) + ((k + 1 : Nat) : Int)) = (3 : Int) - n + k := by omega
      rw [e]; simpa using this
theorem writersF_mem {es : List Ev} {d : List Bool} {loc x : Int} (h : x ∈ writersF es d loc) : In es x := ⟨(pickTo_mem h).1, (pickTo_mem h).2.1⟩
theorem donesF_len {es : List Ev} {d : List Bool} (h : d ∈ donesF es) : d.length = es.length := by
  simp only [donesF, donesTo, List.mem_map] at h
  obtain ⟨s, _, rfl⟩ := h
  rw [doneOf, setTo_length]; simp [baseD]
theorem ord_getD {es : List Ev} {d : List Bool} {o : List (List Int)} (h : o ∈ ordersW es d 3) {k : Nat} (hk : k < 3) : (o.getD k []).Perm (writersF es d (k : Int)) := by
  have := (ordersW_perm es d 3 o h).2 k hk
  rwa [show ((3 : Int) - ((3 : Nat) : Int) + (k : Int)) = (k : Int) by omega] at this
theorem ord_in {es : List Ev} {d : List Bool} {o : List (List Int)} (h : o ∈ ordersW es d 3) {l : List Int} (hl : l ∈ o) : (∀ w ∈ l, In es w) ∧ l.length ≤ es.length := by
  obtain ⟨k, hk, rfl⟩ := List.mem_iff_getElem.1 hl
  have hp := ord_getD h (k := k) (by have := (ordersW_perm es d 3 o h).1; omega)
  rw [List.getD, List.getElem?_eq_getElem hk] at hp
  simp only [Option.getD_some] at hp
  exact ⟨fun w hw => writersF_mem (hp.mem_iff.1 hw), by rw [hp.length_eq]; exact pickTo_le _ _⟩
theorem ordOk {es : List Ev} {d : List Bool} {o : List (List Int)} (he : WfE es) (hd : d ∈ donesF es) (h : o ∈ ordersW es d 3) : OrdOk es d o := by
  refine ⟨donesF_len hd, (ordersW_perm es d 3 o h).1, he.l, fun i hi hdi hr => ?_, fun k => ?_⟩
  · have hl := he.l i hi
    have hp := ord_getD h (k := (ev es (i : Int)).loc.toNat) (by omega)
    refine hp.mem_iff.2 (pickTo_iff.2 ⟨by omega, by omega, ?_⟩)
    have hk : ¬ (ev es (i : Int)).kind = 5 := by
      intro hk; simp [isRd, hk] at hr
    simp only [isWr, Bool.and_eq_true, Bool.not_eq_true', decide_eq_false_iff_not, decide_eq_true_eq]
    exact ⟨⟨hk, by simpa using hdi⟩, by omega⟩
  · by_cases hk : k < o.length
    · have := (ord_in h (getD_mem hk [])).2
      have := he.n
      omega
    · rw [List.getD, List.getElem?_eq_none (by omega)]; simp
theorem choiceW_in {es : List Ev} {d : List Bool} {o : List (List Int)} {i : Nat} {w : Int} (h : w ∈ choiceW es d o i) : w = -1 ∨ w ∈ o.getD (ev es (i : Int)).loc.toNat [] := by
  unfold choiceW at h
  simp only [] at h
  split at h
  · have := List.mem_of_mem_drop (List.mem_of_mem_take h)
    simpa using this
  · simpa using h
theorem fromsW_mem {es : List Ev} {d : List Bool} {o : List (List Int)} : ∀ (m : Nat) (p f : List Int), f ∈ fromsW es d o m p → f.length = p.length + m ∧ f.take p.length = p ∧
    ∀ i, p.length ≤ i → i < p.length + m → (isRd (ev es (i : Int)) = true → f.getD i 0 ∈ choiceW es d o i) ∧ (isRd (ev es (i : Int)) = false → f.getD i 0 = -2)
  | 0, p, f, h => by
    simp only [fromsW, List.mem_singleton] at h
    subst h
    exact ⟨by simp, by simp, fun i h1 h2 => absurd h2 (by omega)⟩
  | m + 1, p, f, h => by
    have key : ∀ w, f ∈ fromsW es d o m (p ++ [w]) → f.length = p.length + (m + 1) ∧ f.take p.length = p ∧ f.getD p.length 0 = w ∧
        ∀ i, p.length + 1 ≤ i → i < p.length + (m + 1) → (isRd (ev es (i : Int)) = true → f.getD i 0 ∈ choiceW es d o i) ∧ (isRd (ev es (i : Int)) = false → f.getD i 0 = -2) := fun w hw => by
      obtain ⟨h1, h2, h3⟩ := fromsW_mem m (p ++ [w]) f hw
      simp only [List.length_append, List.length_singleton] at h1 h2 h3
      refine ⟨by omega, ?_, ?_, fun i ha hb => h3 i ha (by omega)⟩
      · have := congrArg (List.take p.length) h2
        rwa [List.take_take, Nat.min_eq_left (by omega), List.take_append_of_le_length (Nat.le_refl _), List.take_length] at this
      · have hx : (f.take (p.length + 1))[p.length]? = some w := by rw [h2]; simp
        rw [List.getElem?_take, if_pos (by omega)] at hx
        rw [List.getD, hx]; rfl
    rw [fromsW] at h
    split at h
    · rename_i hr
      simp only [List.mem_flatMap] at h
      obtain ⟨w, hw, h⟩ := h
      obtain ⟨h1, h2, h3, h4⟩ := key w h
      refine ⟨h1, h2, fun i ha hb => ?_⟩
      by_cases hi : i = p.length
      · subst hi; rw [h3]; exact ⟨fun _ => hw, fun hf => by rw [hr] at hf; cases hf⟩
      · exact h4 i (by omega) hb
    · rename_i hr
      obtain ⟨h1, h2, h3, h4⟩ := key (-2) h
      refine ⟨h1, h2, fun i ha hb => ?_⟩
      by_cases hi : i = p.length
      · subst hi; rw [h3]; exact ⟨fun hf => absurd hf hr, fun _ => rfl⟩
      · exact h4 i (by omega) hb
theorem froms_all {es : List Ev} {d : List Bool} {o : List (List Int)} {f : List Int} (h : f ∈ fromsW es d o es.length []) : f.length = es.length ∧
    ∀ i, i < es.length → (isRd (ev es (i : Int)) = true → f.getD i 0 ∈ choiceW es d o i) ∧ (isRd (ev es (i : Int)) = false → f.getD i 0 = -2) := by
  obtain ⟨h1, _, h3⟩ := fromsW_mem _ _ _ h
  exact ⟨by simpa using h1, fun i hi => h3 i (by simp) (by simpa using hi)⟩
theorem wfR {es : List Ev} {d : List Bool} {o : List (List Int)} {f s : List Int} (he : WfE es) (ho : o ∈ ordersW es d 3) (h : f ∈ fromsW es d o es.length []) : WfR es ⟨f, d, o, s⟩ := by
  obtain ⟨h1, h2⟩ := froms_all h
  refine ⟨h1, fun i hi hr => ?_⟩
  rcases choiceW_in ((h2 i hi).1 hr) with hw | hw
  · exact .inl hw
  · have hl := he.l i hi
    have hk : (ev es (i : Int)).loc.toNat < o.length := by have := (ordersW_perm es d 3 o ho).1; omega
    have := (ord_in ho (getD_mem hk [])).1 _ hw
    exact .inr this
theorem wfX {es : List Ev} {d : List Bool} {o : List (List Int)} {f s : List Int} (he : WfE es) (hd : d ∈ donesF es) (ho : o ∈ ordersW es d 3) (h : f ∈ fromsW es d o es.length []) (hs : ∀ w ∈ s, In es w) (hsl : s.length < 100000) : WfX es ⟨f, d, o, s⟩ := by
  obtain ⟨h1, h2⟩ := froms_all h
  have hn := he.n
  refine ⟨h1, donesF_len hd, (ordersW_perm es d 3 o ho).1, fun i hi => ?_, fun l hl => (ord_in ho hl).1, hs, fun l hl => by have := (ord_in ho hl).2; omega, hsl⟩
  cases hr : isRd (ev es (i : Int)) with
  | true =>
    rcases (wfR (s := s) he ho h).2 i hi hr with hw | hw
    · simp only at hw ⊢; rw [hw]; omega
    · exact hw.2
  | false => have := (h2 i hi).2 hr; simp only; rw [this]; omega
/-! All executions. -/
def F4 (es : List Ev) (d : List Bool) (o : List (List Int)) (f s : List Int) : List Ex := if brokenF es ⟨f, d, o, s⟩ = 0 then [⟨f, d, o, s⟩] else []
def F3 (es : List Ev) (fen : List Int) (d : List Bool) (o : List (List Int)) (f : List Int) : List Ex := if possibleF es ⟨f, d, o, []⟩ then (mergesW (thOf es) fen.length [] fen).flatMap (F4 es d o f) else []
def F2 (es : List Ev) (fen : List Int) (d : List Bool) (o : List (List Int)) : List Ex := (fromsW es d o es.length []).flatMap (F3 es fen d o)
def F1 (es : List Ev) (fen : List Int) (d : List Bool) : List Ex := (ordersW es d 3).flatMap (F2 es fen d)
def execsF (es : List Ev) (fen : List Int) : List Ex := (donesF es).flatMap (F1 es fen)
theorem flat_snoc {α β : Type} (f : α → List β) (l : List α) (x : α) : (l ++ [x]).flatMap f = l.flatMap f ++ f x := by simp
theorem flat_pre {α β : Type} (f : α → List β) {a b : List α} (h : a <+: b) : a.flatMap f <+: b.flatMap f := by
  obtain ⟨t, rfl⟩ := h
  exact ⟨t.flatMap f, by simp⟩
theorem flat_next {α β : Type} (f : α → List β) {a b : List α} {x : α} {p : List β} (h : (a ++ [x]) <+: b) (hp : p <+: f x) : (a.flatMap f ++ p) <+: b.flatMap f := by
  refine List.IsPrefix.trans ?_ (flat_pre f h)
  rw [flat_snoc]
  exact (List.prefix_append_right_inj _).2 hp
end Go.Proofs.YtkddckfgdiemkaaGreat
/-
  Plain: which choices there are: every one that fits.
-/
set_option linter.unusedVariables false
set_option linter.unusedSimpArgs false
namespace Go.Proofs.YtkddckfgdiemkaaGreat
open Go.RowKit Go.Shelf Mem

theorem bit_ex : ∀ (m : Nat) (b : Nat → Bool), ∃ s, s < powN m ∧ ∀ k, k < m → bitS s k = b k
  | 0, b => ⟨0, by simp [powN], fun k hk => absurd hk (by omega)⟩
  | m + 1, b => by
    obtain ⟨s, hs, hb⟩ := bit_ex m (fun k => b (k + 1))
    refine ⟨2 * s + (if b 0 then 1 else 0), ?_, fun k hk => ?_⟩
    · have : powN (m + 1) = 2 * powN m := by simp only [powN, Nat.pow_succ]; omega
      rw [this]; split <;> omega
    · cases k with
      | zero =>
        simp only [bitS, lowN, shrN, Nat.pow_zero, Nat.div_one]
        cases b 0 <;> simp [Nat.add_mod]
      | succ k =>
        have h := hb k (by omega)
        rw [← h]
        have e : lowN (shrN (2 * s + (if b 0 then 1 else 0)) (k + 1)) = lowN (shrN s k) := by
          unfold lowN shrN
          congr 1
          rw [Nat.pow_succ, Nat.mul_comm (2 ^ k) 2, ← Nat.div_div_eq_div_mul]
          congr 1
          split <;> omega
        unfold bitS
        rw [e]
theorem getD_set {α : Type} (l : List α) (a i : Nat) (x f : α) : (l.set a x).getD i f = if a = i ∧ a < l.length then x else l.getD i f := by
  simp only [List.getD, List.getElem?_set]
  by_cases h : a = i
  · subst h
    by_cases h2 : a < l.length
    · simp [h2]
    · simp [h2]
  · simp [h]
theorem pickTo_nodup (q : Int → Bool) (n : Nat) : (pickTo q n).Nodup := by
  unfold pickTo
  refine List.Nodup.sublist List.filter_sublist ?_
  rw [List.nodup_iff_pairwise_ne, List.pairwise_map]
  refine List.Pairwise.imp ?_ (List.nodup_iff_pairwise_ne.1 List.nodup_range)
  intro a b h e
  exact h (by omega)
theorem setTo_get (free : List Int) (s : Nat) (d : List Bool) (i : Nat) : ∀ k, k ≤ free.length → (∀ j, j < k → (free.getD j 0).toNat ≠ i) → (setTo free s d k).getD i false = d.getD i false
  | 0, _, _ => rfl
  | k + 1, hk, h => by
    rw [setTo, getD_set, if_neg (fun e => h k (by omega) e.1)]
    exact setTo_get free s d i k (by omega) (fun j hj => h j (by omega))
theorem setTo_at (free : List Int) (s : Nat) (d : List Bool) (hnd : ∀ a b, a < free.length → b < free.length → (free.getD a 0).toNat = (free.getD b 0).toNat → a = b) {j : Nat} : ∀ k, k ≤ free.length → j < k → (free.getD j 0).toNat < d.length →
    (setTo free s d k).getD (free.getD j 0).toNat false = bitS s j
  | 0, _, h, _ => absurd h (by omega)
  | k + 1, hk, h, hl => by
    rw [setTo, getD_set]
    by_cases hjk : j = k
    · subst hjk
      rw [if_pos ⟨rfl, by rw [setTo_length]; exact hl⟩]
    · rw [if_neg (fun e => hjk (hnd j k (by omega) (by omega) e.1.symm))]
      exact setTo_at free s d hnd k (by omega) (by omega) hl
theorem mem_dones {es : List Ev} {d : List Bool} (hl : d.length = es.length) (h : ∀ i : Nat, i < es.length → isFree (ev es (i : Int)) = false → d.getD i false = isW01 (ev es (i : Int))) : d ∈ donesF es := by
  obtain ⟨s, hs, hb⟩ := bit_ex (freeF es).length (fun k => d.getD ((freeF es).getD k 0).toNat false)
  simp only [donesF, donesTo, List.mem_map, List.mem_range]
  refine ⟨s, hs, ?_⟩
  have hlen : (doneOf es s).length = es.length := by rw [doneOf, setTo_length]; simp [baseD]
  apply List.ext_getElem (by omega)
  intro i h1 h2
  have e1 : (doneOf es s).getD i false = d.getD i false := by
    by_cases hf : isFree (ev es (i : Int)) = true
    · have hm : (i : Int) ∈ freeF es := pickTo_iff.2 ⟨by omega, by omega, hf⟩
      obtain ⟨j, hj, hji⟩ := List.mem_iff_getElem.1 hm
      have hg : (freeF es).getD j 0 = (i : Int) := by rw [int_getD hj, hji]
      have := setTo_at (freeF es) s (baseD es) (fun a b ha hb' e => by
        rw [int_getD ha, int_getD hb'] at e
        have p1 := (pickTo_iff.1 (List.getElem_mem ha)).1
        have p2 := (pickTo_iff.1 (List.getElem_mem hb')).1
        exact (List.getElem_inj (pickTo_nodup _ _)).1 (show (freeF es)[a] = (freeF es)[b] by omega)) (j := j) (freeF es).length (Nat.le_refl _) hj (by rw [hg]; simp [baseD]; omega)
      rw [hg, Int.toNat_natCast] at this
      rw [doneOf, this, hb j hj, hg, Int.toNat_natCast]
    · have hf' : isFree (ev es (i : Int)) = false := by simpa using hf
      rw [h i (by omega) hf', doneOf, setTo_get]
      · rw [bool_getD (by simp [baseD]; omega)]
        simp [baseD]
      · exact Nat.le_refl _
      · intro j hj e
        rw [int_getD hj] at e
        have p := pickTo_iff.1 (List.getElem_mem hj)
        have : (freeF es)[j] = (i : Int) := by omega
        rw [this] at p
        rw [hf'] at p
        exact absurd p.2.2 (by decide)
  rwa [bool_getD h1, bool_getD h2] at e1
theorem pair_mem {x y : Int} {l : List Int} (h : [x, y].Sublist l) : x ∈ l ∧ y ∈ l := ⟨h.subset (by simp), h.subset (by simp)⟩
theorem mem_merges (th : Int → Int) : ∀ (n : Nat) (out left l : List Int), left.length = n → left.Nodup → l.Perm left → (∀ x y, th x = th y → [x, y].Sublist left → [x, y].Sublist l) → out ++ l ∈ mergesW th n out left
  | 0, out, left, l, hn, _, hp, _ => by
    obtain rfl := List.eq_nil_of_length_eq_zero hn
    have : l = [] := hp.eq_nil
    subst this
    simp [mergesW]
  | n + 1, out, left, [], hn, _, hp, _ => by
    have := hp.length_eq
    simp at this
    omega
  | n + 1, out, left, a :: t, hn, hnd, hp, ho => by
    have ha : a ∈ left := hp.mem_iff.1 (by simp)
    obtain ⟨i, hi, hia⟩ := List.mem_iff_getElem.1 ha
    have hg : left.getD i 0 = a := by rw [int_getD hi, hia]
    have hnd2 : (a :: t).Nodup := hp.nodup_iff.2 hnd
    have hat : a ∉ t := (List.nodup_cons.1 hnd2).1
    have hsplit : left = left.take i ++ a :: left.drop (i + 1) := by rw [← hia, ← List.drop_eq_getElem_cons hi, List.take_append_drop]
    have hperm : t.Perm (left.take i ++ left.drop (i + 1)) := by
      rw [hsplit] at hp
      exact List.Perm.cons_inv (hp.trans List.perm_middle)
    have hsub : (left.take i ++ left.drop (i + 1)).Sublist left := by
      conv => rhs; rw [hsplit]
      exact List.Sublist.append (List.Sublist.refl _) (List.sublist_cons_self _ _)
    simp only [mergesW, List.mem_flatMap, List.mem_range]
    refine ⟨i, hi, ?_⟩
    rw [if_neg]
    · rw [hg]
      have := mem_merges th n (out ++ [a]) (left.take i ++ left.drop (i + 1)) t (by simp; omega) (hnd.sublist hsub) hperm (fun x y hxy h => ?_)
      · simpa using this
      · have h2 := ho x y hxy (h.trans hsub)
        have hxm := (pair_mem h).1
        have hxa : x ≠ a := by
          intro e
          subst e
          exact hat (hperm.mem_iff.2 hxm)
        rcases List.sublist_cons_iff.1 h2 with h3 | ⟨r, hr, _⟩
        · exact h3
        · exact absurd (List.cons.inj hr).1 hxa
    · intro hb
      rw [List.any_eq_true] at hb
      obtain ⟨x, hx, hd⟩ := hb
      have hxy : th x = th a := by rw [hg] at hd; exact of_decide_eq_true hd
      have h1 : [x, a].Sublist left := by
        rw [hsplit]
        exact List.Sublist.append (List.singleton_sublist.2 hx) (List.singleton_sublist.2 (by simp))
      have h2 := ho x a hxy h1
      rcases List.sublist_cons_iff.1 h2 with h3 | ⟨r, hr, hr2⟩
      · exact hat (h3.subset (by simp))
      · have hre := (List.cons.inj hr).2
        rw [← hre] at hr2
        exact hat (hr2.subset (by simp))
theorem mem_merges0 {th : Int → Int} {left l : List Int} (hnd : left.Nodup) (hp : l.Perm left) (ho : ∀ x y, th x = th y → [x, y].Sublist left → [x, y].Sublist l) : l ∈ mergesW th left.length [] left := by
  have := mem_merges th left.length [] left l rfl hnd hp ho
  simpa using this
theorem mem_orders {es : List Ev} {d : List Bool} : ∀ (n : Nat) (y : List (List Int)), y.length = n → n ≤ 3 → (∀ k, k < n → y.getD k [] ∈ mergesW (thOf es) (writersF es d ((3 : Int) - n + k)).length [] (writersF es d ((3 : Int) - n + k))) → y ∈ ordersW es d n
  | 0, y, hl, _, _ => by
    obtain rfl := List.eq_nil_of_length_eq_zero hl
    simp [ordersW]
  | n + 1, [], hl, _, _ => by simp at hl
  | n + 1, l :: r, hl, hn, h => by
    simp only [ordersW, List.mem_flatMap, List.mem_map]
    have h0 := h 0 (by omega)
    have e : ((3 : Int) - ((n + 1 : Nat) : Int) + ((0 : Nat) : Int)) = (2 : Int) - n := by omega
    rw [e] at h0
    refine ⟨l, by simpa using h0, r, mem_orders n r (by simpa using hl) (by omega) (fun k hk => ?_), rfl⟩
    have h1 := h (k + 1) (by omega)
    have e : ((3 : Int) - ((n + 1 : Nat) : Int) + ((k + 1 : Nat) : Int)) = (3 : Int) - n + k := by omega
    rw [e] at h1
    simpa using h1
theorem mem_froms {es : List Ev} {d : List Bool} {o : List (List Int)} : ∀ (m : Nat) (p f : List Int), f.length = p.length + m → f.take p.length = p →
    (∀ i, p.length ≤ i → i < p.length + m → (isRd (ev es (i : Int)) = true → f.getD i 0 ∈ choiceW es d o i) ∧ (isRd (ev es (i : Int)) = false → f.getD i 0 = -2)) → f ∈ fromsW es d o m p
  | 0, p, f, hl, ht, _ => by
    simp only [fromsW, List.mem_singleton]
    rw [← ht, List.take_of_length_le (by omega)]
  | m + 1, p, f, hl, ht, h => by
    have hpl : p.length < f.length := by omega
    have hnext : f.take (p ++ [f.getD p.length 0]).length = p ++ [f.getD p.length 0] := by
      rw [List.length_append, List.length_singleton, take_snoc hpl, ht, int_getD hpl]
    have ih := mem_froms m (p ++ [f.getD p.length 0]) f (by simp; omega) hnext (fun i h1 h2 => by
      simp only [List.length_append, List.length_singleton] at h1 h2
      exact h i (by omega) (by omega))
    obtain ⟨h1, h2⟩ := h p.length (Nat.le_refl _) (by omega)
    rw [fromsW]
    split
    · rename_i hr
      exact List.mem_flatMap.2 ⟨_, h1 hr, ih⟩
    · rename_i hr
      have := h2 (by simpa using hr)
      rwa [this] at ih
theorem mem_execs {es : List Ev} {fen : List Int} {x : Ex} (hd : x.dn ∈ donesF es) (ho : x.ord ∈ ordersW es x.dn 3) (hf : x.fr ∈ fromsW es x.dn x.ord es.length []) (hp : possibleF es ⟨x.fr, x.dn, x.ord, []⟩ = true)
    (hs : x.fen ∈ mergesW (thOf es) fen.length [] fen) (hb : brokenF es x = 0) : x ∈ execsF es fen := by
  refine List.mem_flatMap.2 ⟨_, hd, List.mem_flatMap.2 ⟨_, ho, List.mem_flatMap.2 ⟨_, hf, ?_⟩⟩⟩
  rw [F3, if_pos hp]
  refine List.mem_flatMap.2 ⟨_, hs, ?_⟩
  rw [F4, if_pos (by exact hb)]
  simp
end Go.Proofs.YtkddckfgdiemkaaGreat
