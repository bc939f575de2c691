/-
  Mark, Bare and Marked are those of the document, of every number; Bare of Mark is the address.
-/
import Derived.Test.YtmdkneiicfffbaaPWordMarksx3
import Derived.Test.YtmdkneiicfffbaaTheory
set_option linter.unusedVariables false
set_option linter.unusedSimpArgs false
namespace Go.Proofs.Ytmdkneiicfffbaa.Pure
open Go.RowKit Go.Proofs.Ytmdkneiicfffbaa.PWordMarks Go.Proofs.YtmdkneiicfffbaaW.PrintWords Go.Proofs.YtmdkneiicfffbaaW.PrintLast Go.Proofs.Ytmdkneiicfffbaa.WT

theorem wrap_in {x : Int} (h : -9223372036854775808 ≤ x ∧ x ≤ 9223372036854775807) : wrap64 x = x := by unfold wrap64; omega
def inside (lo hi : Int) (n : Int) : Bool := decide (lo ≤ n) && decide (n ≤ hi)
theorem inside_true {lo hi n : Int} : inside lo hi n = true ↔ lo ≤ n ∧ n ≤ hi := by simp [inside]
/-- A word of a layout, and a place of it. -/
def at_ (l : List Int) (w i : Int) : Prop := 0 ≤ w ∧ w < size l ∧ 0 ≤ i ∧ i < (l.length : Int)
instance (l : List Int) (w i : Int) : Decidable (at_ l w i) := by unfold at_; infer_instance
theorem at_valid {l : List Int} {w : Int} (h0 : 0 ≤ w) (h1 : w < size l) : valid l := by
  by_cases hv : valid l
  · exact hv
  · rw [size_not hv] at h1; omega
/-- What 'at_' gives: the layout, the place as a natural number, the sizes. -/
theorem at_all {l : List Int} {w i : Int} (h : at_ l w i) : ∃ j : Nat, i = (j : Int) ∧ j < l.length ∧ valid l ∧ 0 ≤ w ∧ w < prod l ∧ prod l ≤ 1000000000000000 := by
  obtain ⟨h0, h1, h2, h3⟩ := h
  have hv := at_valid h0 h1
  rw [size_valid hv] at h1
  obtain ⟨j, rfl⟩ := Int.eq_ofNat_of_zero_le h2
  exact ⟨j, rfl, by omega, hv, h0, h1, hv.2.2.2⟩
theorem within_l0 (lo hi : Int) (xs : List Int) (hn : xs.length ≤ 1000) (d : Nat) : ∀ (k j : Nat), j + d = xs.length → d < k →
    word_within.l0 k lo hi xs (xs.length : Int) (j : Int) = some ((xs.drop j).all (inside lo hi)) := by
  induction d with
  | zero =>
    intro k j hj hk
    obtain ⟨k, rfl⟩ : ∃ m, k = m + 1 := ⟨k - 1, by omega⟩
    simp only [word_within.l0]
    rw [if_neg (by omega), List.drop_eq_nil_of_le (by omega)]
    rfl
  | succ d ih =>
    intro k j hj hk
    obtain ⟨k, rfl⟩ : ∃ m, k = m + 1 := ⟨k - 1, by omega⟩
    have hlt : j < xs.length := by omega
    simp only [word_within.l0]
    rw [if_pos (by omega), if_pos (by omega), if_pos (by omega), drop_cons hlt, List.all_cons]
    by_cases h1 : rd xs j < lo
    · rw [if_pos h1]; simp [inside, show ¬ lo ≤ rd xs j by omega]
    · rw [if_neg h1]
      by_cases h2 : rd xs j > hi
      · rw [if_pos h2]; simp [inside, show ¬ rd xs j ≤ hi by omega]
      · rw [if_neg h2, wrap_in (by omega), show ((j : Int) + 1) = ((j + 1 : Nat) : Int) by omega, ih k (j + 1) (by omega) (by omega)]
        simp [inside, show lo ≤ rd xs j by omega, show rd xs j ≤ hi by omega]
theorem within_f {k : Nat} {lo hi : Int} {xs : List Int} (hn : xs.length ≤ 1000) (hk : xs.length < k) : word_within.f k lo hi xs = some (xs.all (inside lo hi)) := by
  have h := within_l0 lo hi xs hn xs.length k 0 (by omega) hk
  simpa [word_within.f] using h
theorem within_one {k : Nat} {lo hi n : Int} (hk : 1 < k) : word_within.f k lo hi [n] = some (inside lo hi n) := by
  rw [within_f (by simp) (by simpa using hk)]; simp
theorem product_l0 (l : List Int) (hl : l.length ≤ 1000) (hr : ∀ b ∈ l, 2 ≤ b ∧ b ≤ 1000000) (d : Nat) : ∀ (k j : Nat) (n : Int), j + d = l.length → d < k → 1 ≤ n → n ≤ 1000000000000000 →
    word_product.l0 k n l (l.length : Int) (j : Int) = some (if n * prod (l.drop j) ≤ 1000000000000000 then n * prod (l.drop j) else 0) := by
  have hb : big l := fun b h => (hr b h).1
  induction d with
  | zero =>
    intro k j n hj hk h1 h2
    obtain ⟨k, rfl⟩ : ∃ m, k = m + 1 := ⟨k - 1, by omega⟩
    simp only [word_product.l0]
    rw [if_neg (by omega), List.drop_eq_nil_of_le (by omega)]
    simp [prod, h2]
  | succ d ih =>
    intro k j n hj hk h1 h2
    obtain ⟨k, rfl⟩ : ∃ m, k = m + 1 := ⟨k - 1, by omega⟩
    have hlt : j < l.length := by omega
    have r := hr _ (List.getElem_mem hlt)
    rw [← rd_at hlt] at r
    have hp := prod_drop_pos hb (j + 1)
    have hq : Int.tdiv 1000000000000000 (rd l j) = 1000000000000000 / rd l j := Int.tdiv_eq_ediv_of_nonneg (by omega)
    have hq1 : 1000000000000000 / rd l j ≤ 1000000000000000 := Int.ediv_le_self _ (by omega)
    have hq2 : 0 ≤ 1000000000000000 / rd l j := Int.ediv_nonneg (by omega) (by omega)
    simp only [word_product.l0]
    rw [if_pos (by omega), if_pos (by omega), if_pos (by omega), if_neg (by omega), hq, wrap_in (by omega), prod_drop hlt, ← Int.mul_assoc]
    by_cases h : n * rd l j ≤ 1000000000000000
    · have h3 : n ≤ 1000000000000000 / rd l j := (Int.le_ediv_iff_mul_le (by omega)).2 h
      have h4 : 1 * 2 ≤ n * rd l j := Int.mul_le_mul h1 r.1 (by omega) (by omega)
      rw [if_neg (by omega), wrap_in (by omega), wrap_in (by omega), show ((j : Int) + 1) = ((j + 1 : Nat) : Int) by omega, ih k (j + 1) _ (by omega) (by omega) (by omega) h]
    · have h3 : ¬ n ≤ 1000000000000000 / rd l j := fun h' => h ((Int.le_ediv_iff_mul_le (by omega)).1 h')
      have h4 : n * rd l j * 1 ≤ n * rd l j * prod (l.drop (j + 1)) := Int.mul_le_mul_of_nonneg_left hp (by omega)
      rw [if_pos (by omega), if_neg (by omega)]
theorem product_f {k : Nat} {l : List Int} (hk : 100 ≤ k) (hl : l.length ≤ 60) : word_product.f k l = some (size l) := by
  unfold word_product.f
  rw [within_one (by omega), Option.bind_some]
  obtain ⟨k, rfl⟩ : ∃ m, k = m + 1 := ⟨k - 1, by omega⟩
  by_cases h1 : 1 ≤ l.length ∧ l.length ≤ 6
  · rw [if_pos (by rw [inside_true]; omega), within_f (by omega) (by omega), Option.bind_some]
    by_cases h2 : ∀ b ∈ l, 2 ≤ b ∧ b ≤ 1000000
    · have e : (l.all (inside 2 1000000)) = true := List.all_eq_true.2 fun b hb => inside_true.2 (h2 b hb)
      rw [e]
      simp only [word_product.j0, Bool.not_true]
      have h := product_l0 l (by omega) h2 l.length k 0 1 (by omega) (by omega) (by omega) (by omega)
      simp only [List.drop_zero, Int.one_mul] at h
      rw [if_neg (by decide)]
      refine h.trans ?_
      unfold size
      by_cases h3 : prod l ≤ 1000000000000000
      · rw [if_pos h3, if_pos ⟨h1.1, h1.2, h2, h3⟩]
      · rw [if_neg h3, if_neg (fun hv => h3 hv.2.2.2)]
    · have e : (l.all (inside 2 1000000)) = false := by
        rw [Bool.eq_false_iff]; intro h; exact h2 fun b hb => inside_true.1 (List.all_eq_true.1 h b hb)
      rw [e]
      simp only [word_product.j0, Bool.not_false]
      rw [if_pos trivial, size_not (fun hv => h2 hv.2.2.1)]
  · rw [if_neg (by rw [inside_true]; omega)]
    simp only [word_product.j0]
    rw [if_pos trivial, size_not (fun hv => h1 ⟨hv.1, hv.2.1⟩)]
theorem pk_step (l : List Int) (hb : big l) {j : Nat} (hlt : j < l.length) {acc n : Int} (h0 : 0 ≤ acc) (h1 : (acc + 1) * prod (l.drop j) ≤ 1000000000000000) (hn0 : 0 ≤ n) (hn1 : n ≤ rd l j - 1) :
    0 ≤ acc * rd l j ∧ acc * rd l j + n ≤ 1000000000000000 ∧ (acc * rd l j + n + 1) * prod (l.drop (j + 1)) ≤ 1000000000000000 := by
  have hp := prod_drop_pos hb (j + 1)
  have r := rd_big hb hlt
  have a0 : 0 ≤ acc * rd l j := Int.mul_nonneg h0 (by omega)
  have e : (acc + 1) * prod (l.drop j) = (acc * rd l j + rd l j) * prod (l.drop (j + 1)) := by rw [prod_drop hlt, ← Int.mul_assoc, Int.add_mul, Int.one_mul]
  rw [e] at h1
  have h2 : (acc * rd l j + n + 1) * prod (l.drop (j + 1)) ≤ (acc * rd l j + rd l j) * prod (l.drop (j + 1)) := Int.mul_le_mul_of_nonneg_right (by omega) (by omega)
  have h3 : (acc * rd l j + n + 1) * 1 ≤ (acc * rd l j + n + 1) * prod (l.drop (j + 1)) := Int.mul_le_mul_of_nonneg_left hp (by omega)
  exact ⟨a0, by omega, by omega⟩
theorem pk_value (l : List Int) {f : List Int} {j : Nat} (hlt : j < l.length) (hf : j < f.length) (acc : Int) :
    (acc * rd l j + rd f j) * prod (l.drop (j + 1)) + pack (l.drop (j + 1)) (f.drop (j + 1)) = acc * prod (l.drop j) + pack (l.drop j) (f.drop j) := by
  rw [drop_cons hlt, drop_cons hf]
  simp only [pack, prod, Int.add_mul, Int.mul_assoc]
  omega
theorem Pack_l0 (l f : List Int) (hl : f.length = l.length) (hv : ∀ b ∈ l, 2 ≤ b ∧ b ≤ 1000000) (hn : l.length ≤ 6) (d : Nat) : ∀ (k j : Nat) (acc : Int), j + d = l.length → d + 3 < k → 0 ≤ acc → (acc + 1) * prod (l.drop j) ≤ 1000000000000000 →
    word_Pack.l0 k l acc f (f.length : Int) (j : Int) = some (if fine (l.drop j) (f.drop j) then (acc * prod (l.drop j) + pack (l.drop j) (f.drop j), 0) else (0, 1)) := by
  have hb : big l := fun b h => (hv b h).1
  induction d with
  | zero =>
    intro k j acc hj hk h0 h1
    obtain ⟨k, rfl⟩ : ∃ m, k = m + 1 := ⟨k - 1, by omega⟩
    simp only [word_Pack.l0]
    rw [if_neg (by omega), List.drop_eq_nil_of_le (by omega), List.drop_eq_nil_of_le (by omega)]
    simp [fine, prod, pack]
  | succ d ih =>
    intro k j acc hj hk h0 h1
    obtain ⟨k, rfl⟩ : ∃ m, k = m + 1 := ⟨k - 1, by omega⟩
    have hlt : j < l.length := by omega
    have hlf : j < f.length := by omega
    have r := hv _ (List.getElem_mem hlt)
    rw [← rd_at hlt] at r
    simp only [word_Pack.l0]
    rw [if_pos (by omega), if_pos (by omega), if_pos (by omega), if_pos (by omega), wrap_in (x := rd l j - 1) (by omega), within_one (by omega), Option.bind_some]
    by_cases hi : 0 ≤ rd f j ∧ rd f j ≤ rd l j - 1
    · obtain ⟨s0, s1, s2⟩ := pk_step l hb hlt h0 h1 hi.1 hi.2
      rw [if_pos (inside_true.2 hi), wrap_in (x := acc * rd l j) (by omega), wrap_in (x := acc * rd l j + rd f j) (by omega), wrap_in (x := (j : Int) + 1) (by omega), show ((j : Int) + 1) = ((j + 1 : Nat) : Int) by omega,
        ih k (j + 1) _ (by omega) (by omega) (by omega) s2, pk_value l hlt hlf acc]
      have e : fine (l.drop j) (f.drop j) ↔ fine (l.drop (j + 1)) (f.drop (j + 1)) := by rw [drop_cons hlt, drop_cons hlf]; simp only [fine]; exact ⟨fun h => h.2.2, fun h => ⟨hi.1, hi.2, h⟩⟩
      simp only [e]
    · have e : ¬ fine (l.drop j) (f.drop j) := by rw [drop_cons hlt, drop_cons hlf]; simp only [fine]; exact fun h => hi ⟨h.1, h.2.1⟩
      rw [if_neg (fun h => hi (inside_true.1 h)), if_neg e]
theorem Pack_f {k : Nat} {l f : List Int} (hk : 100 ≤ k) (hl : l.length ≤ 60) : word_Pack.f k l f = some (if valid l ∧ fine l f then (pack l f, 0) else (0, 1)) := by
  unfold word_Pack.f
  rw [product_f hk hl, Option.bind_some]
  obtain ⟨k, rfl⟩ : ∃ m, k = m + 1 := ⟨k - 1, by omega⟩
  by_cases hv : valid l
  · rw [if_neg (by rw [size_zero]; exact fun h => h hv)]
    simp only [word_Pack.j0]
    by_cases hlen : f.length = l.length
    · rw [if_neg (by simp [hlen])]
      have h := Pack_l0 l f hlen hv.2.2.1 hv.2.1 l.length k 0 0 (by omega) (by have := hv.2.1; omega) (by omega) (by have := hv.2.2.2; simp; exact this)
      simp only [List.drop_zero, Int.zero_mul, Int.zero_add] at h
      refine h.trans ?_
      simp [hv]
    · rw [if_pos (by simp; omega), if_neg (fun h => hlen (fine_length h.2))]
  · rw [if_pos ((size_zero l).2 hv)]
    simp only [word_Pack.j0]
    rw [if_pos trivial, if_neg (fun h => hv h.1)]
theorem place_l0 (l : List Int) (w : Int) (j : Nat) (hj : j < l.length) (hv : valid l) (hw0 : 0 ≤ w) (hw1 : w < prod l) (D : List Int) (hD : D = l.drop (j + 1)) (d : Nat) : ∀ (k i : Nat) (each : Int), i + d = D.length → d < k → 1 ≤ each → each * prod (D.drop i) = prod D →
    word_place.l0 k l w (j : Int) each D (D.length : Int) (i : Int) = some (prod D, w / prod D % rd l j, 0) := by
  have hb := valid_big hv
  have hbD : big D := by rw [hD]; exact big_drop hb _
  have hP : prod D ≤ 1000000000000000 := by rw [hD]; have := prod_drop_le hb (j + 1); have := hv.2.2.2; omega
  have hl6 : D.length ≤ 6 := by have := hv.2.1; rw [hD]; simp; omega
  induction d with
  | zero =>
    intro k i each hi hk h1 h2
    obtain ⟨k, rfl⟩ : ∃ m, k = m + 1 := ⟨k - 1, by omega⟩
    rw [List.drop_eq_nil_of_le (by omega)] at h2
    simp only [prod, Int.mul_one] at h2
    subst h2
    have r := rd_big hb hj
    have q0 : 0 ≤ w / prod D := Int.ediv_nonneg hw0 (by omega)
    have q1 : w / prod D ≤ w := Int.ediv_le_self _ hw0
    have := hv.2.2.2
    simp only [word_place.l0]
    rw [if_neg (by omega), if_neg (by omega), if_pos (by omega), if_pos (by omega), if_neg (by omega), Int.tdiv_eq_ediv_of_nonneg hw0, wrap_in (by omega), Int.tmod_eq_emod_of_nonneg q0]
  | succ d ih =>
    intro k i each hi hk h1 h2
    obtain ⟨k, rfl⟩ : ∃ m, k = m + 1 := ⟨k - 1, by omega⟩
    have hlt : i < D.length := by omega
    have hp := prod_drop_pos hbD (i + 1)
    have r := rd_big hbD hlt
    rw [prod_drop hlt, ← Int.mul_assoc] at h2
    have g1 : 1 * 2 ≤ each * rd D i := Int.mul_le_mul h1 r (by omega) (by omega)
    have g2 : each * rd D i * 1 ≤ each * rd D i * prod (D.drop (i + 1)) := Int.mul_le_mul_of_nonneg_left hp (by omega)
    simp only [word_place.l0]
    rw [if_pos (by omega), if_pos (by omega), if_pos (by omega), wrap_in (x := each * rd D i) (by omega), wrap_in (x := (i : Int) + 1) (by omega), show ((i : Int) + 1) = ((i + 1 : Nat) : Int) by omega, ih k (i + 1) _ (by omega) (by omega) (by omega) h2]
theorem place_f {k : Nat} {l : List Int} {w i : Int} (hk : 100 ≤ k) (hl : l.length ≤ 60) :
    word_place.f k l w i = some (if at_ l w i then (prod (l.drop (i.toNat + 1)), rd (unpack l w) i, 0) else (0, 0, 1)) := by
  unfold word_place.f
  have hs := size_range l
  rw [product_f hk hl, Option.bind_some, wrap_in (by omega), within_one (by omega), Option.bind_some]
  obtain ⟨k, rfl⟩ : ∃ m, k = m + 1 := ⟨k - 1, by omega⟩
  by_cases h1 : 0 ≤ w ∧ w ≤ size l - 1
  · rw [if_pos (inside_true.2 h1), wrap_in (by omega), within_one (by omega), Option.bind_some]
    by_cases h2 : 0 ≤ i ∧ i ≤ (l.length : Int) - 1
    · have ha : at_ l w i := ⟨h1.1, by omega, h2.1, by omega⟩
      obtain ⟨j, rfl, hj, hv, hw0, hw1, hP⟩ := at_all ha
      rw [if_pos ha, show inside 0 ((l.length : Int) - 1) (j : Int) = true from inside_true.2 h2]
      simp only [word_place.j0, Bool.not_true]
      rw [if_neg (by decide), wrap_in (by omega), if_pos (by omega), if_pos (by omega), show ((j : Int) + 1).toNat = j + 1 by omega, show ((j : Int)).toNat = j by omega]
      have hv6 := hv.2.1
      have h := place_l0 l w j hj hv hw0 hw1 (l.drop (j + 1)) rfl (l.drop (j + 1)).length k 0 1 (by omega) (by simp; omega) (by omega) (by simp)
      refine h.trans ?_
      rw [unpack_at w hj]
    · rw [show inside 0 ((l.length : Int) - 1) i = false from by rw [Bool.eq_false_iff]; exact fun h => h2 (inside_true.1 h)]
      simp only [word_place.j0, Bool.not_false]
      rw [if_pos trivial, if_neg (fun ha => h2 ⟨ha.2.2.1, by have := ha.2.2.2; omega⟩)]
  · rw [if_neg (fun h => h1 (inside_true.1 h))]
    simp only [word_place.j0]
    rw [if_pos trivial, if_neg (fun ha => h1 ⟨ha.1, by have := ha.2.1; omega⟩)]
/-- What a place gives, in numbers. -/
theorem at_digit {l : List Int} {w i : Int} (h : at_ l w i) : 0 ≤ rd (unpack l w) i ∧ rd (unpack l w) i ≤ rd l i - 1 ∧ 2 ≤ rd l i ∧ rd l i ≤ 1000000 ∧ 1 ≤ prod (l.drop (i.toNat + 1)) ∧ prod (l.drop (i.toNat + 1)) ≤ 1000000000000000 ∧ l.length ≤ 6 := by
  obtain ⟨j, rfl, hj, hv, hw0, hw1, hP⟩ := at_all h
  have hb := valid_big hv
  have hd := fine_at (unpack_fine w hb) hj
  have hp := prod_drop_pos hb (j + 1)
  have hq := prod_drop_le hb (j + 1)
  have r := hv.2.2.1 _ (List.getElem_mem hj)
  rw [← rd_at hj] at r
  have := hv.2.1
  simp only [Int.toNat_natCast]
  exact ⟨hd.1, hd.2, r.1, r.2, hp, by omega, this⟩
/-- Another digit at a place, in numbers. -/
theorem at_set {l : List Int} {w i n : Int} (h : at_ l w i) (h0 : 0 ≤ n) (h1 : n ≤ rd l i - 1) :
    pack l ((unpack l w).set i.toNat n) = w + (n - rd (unpack l w) i) * prod (l.drop (i.toNat + 1)) ∧ fine l ((unpack l w).set i.toNat n) ∧
    0 ≤ w + (n - rd (unpack l w) i) * prod (l.drop (i.toNat + 1)) ∧ w + (n - rd (unpack l w) i) * prod (l.drop (i.toNat + 1)) < prod l := by
  obtain ⟨j, rfl, hj, hv, hw0, hw1, hP⟩ := at_all h
  have hb := valid_big hv
  simp only [Int.toNat_natCast] at *
  have e := pack_set (unpack_length l w) hj n
  rw [pack_unpack hb hw0 hw1] at e
  have hf := (fine_set (unpack_fine w hb) hj n).2 ⟨h0, h1⟩
  have r := pack_range hb hf
  rw [e] at r
  exact ⟨e, hf, r.1, r.2⟩
theorem Bump_f {k : Nat} {l : List Int} {w i : Int} (hk : 100 ≤ k) (hl : l.length ≤ 60) :
    word_Bump.f k l w i = some (if at_ l w i then (if rd (unpack l w) i = rd l i - 1 then (0, 2) else (w + prod (l.drop (i.toNat + 1)), 0)) else (0, 1)) := by
  unfold word_Bump.f
  rw [place_f hk hl, Option.bind_some]
  by_cases ha : at_ l w i
  · have hd := at_digit ha
    have hs := size_range l
    have h0 := ha.1
    have h1 := ha.2.1
    simp only [if_pos ha, if_true, if_pos ha.2.2.1, if_pos ha.2.2.2]
    rw [wrap_in (x := rd l i - 1) (by omega), wrap_in (x := w + _) (by omega)]
    split <;> rfl
  · rw [if_neg ha, if_neg (by decide), if_neg ha]
theorem sane_f {k : Nat} (hk : 100 ≤ k) : locklesslaw01_sane.f k = some true := by
  unfold locklesslaw01_sane.f
  rw [Pack_f hk (by decide), Option.bind_some, Bump_f hk (by decide), Option.bind_some, if_pos (show valid [10, 10] ∧ fine [10, 10] [3, 4] by decide), if_pos (show at_ [10, 10] 34 1 by decide),
    if_neg (show ¬ rd (unpack [10, 10] 34) 1 = rd [10, 10] 1 - 1 by decide)]
  decide
theorem sane_b {k : Nat} (hk : 100 ≤ k) : ((locklesslaw01_sane.f k).bind fun t => some t) = some true := by rw [sane_f hk]; rfl
theorem wMark_f {k : Nat} {n : Int} (hk : 100 ≤ k) : word_Mark.f k n = locklessref01_Mark.f n := by
  unfold word_Mark.f locklessref01_Mark.f
  rw [within_one (by omega), Option.bind_some]
  by_cases h : 0 ≤ n ∧ n ≤ 999999999999999
  · rw [if_pos (inside_true.2 h), if_neg (show ¬ n < 0 by omega), if_neg (show ¬ n ≥ 1000000000000000 by omega)]
  · rw [if_neg (fun g => h (inside_true.1 g))]
    by_cases h0 : n < 0
    · rw [if_pos h0]
    · rw [if_neg h0, if_pos (show n ≥ 1000000000000000 by omega)]
theorem wBare_f {k : Nat} {n : Int} (hk : 100 ≤ k) : word_Bare.f k n = locklessref01_Bare.f n := by
  unfold word_Bare.f locklessref01_Bare.f
  rw [within_one (by omega), Option.bind_some]
  by_cases h : 0 ≤ n ∧ n ≤ 999999999999999
  · rw [if_pos (inside_true.2 h), if_neg (show ¬ n < 0 by omega), if_neg (show ¬ n ≥ 1000000000000000 by omega)]
  · rw [if_neg (fun g => h (inside_true.1 g))]
    by_cases h0 : n < 0
    · rw [if_pos h0]
    · rw [if_neg h0, if_pos (show n ≥ 1000000000000000 by omega)]
theorem wMarked_f {k : Nat} {n : Int} (hk : 100 ≤ k) : word_Marked.f k n = locklessref01_Marked.f n := by
  unfold word_Marked.f locklessref01_Marked.f
  rw [within_one (by omega), Option.bind_some]
  by_cases h : 0 ≤ n ∧ n ≤ 999999999999999
  · rw [if_pos (inside_true.2 h), if_neg (show ¬ n < 0 by omega), if_neg (show ¬ n ≥ 1000000000000000 by omega)]
  · rw [if_neg (fun g => h (inside_true.1 g))]
    by_cases h0 : n < 0
    · rw [if_pos h0]
    · rw [if_neg h0, if_pos (show n ≥ 1000000000000000 by omega)]
theorem WordMarks : locklesslaw01_WordMarks.Pure := by
  intro n _
  refine ⟨1000, ?_⟩
  have hs : ∀ k, 100 ≤ k → ((locklesslaw01_sane.f k).bind fun t => some t) = some true := fun k hk => sane_b hk
  unfold locklesslaw01_WordMarks.f
  rw [wMark_f (by omega), wBare_f (by omega), wMarked_f (by omega)]
  obtain ⟨a, ea⟩ : ∃ a, locklessref01_Mark.f n = some a := by
                                                          unfold locklessref01_Mark.f
                                                          repeat' split
                                                          all_goals exact ⟨_, rfl⟩
  obtain ⟨b, eb⟩ : ∃ b, locklessref01_Bare.f n = some b := by
                                                          unfold locklessref01_Bare.f
                                                          repeat' split
                                                          all_goals exact ⟨_, rfl⟩
  obtain ⟨c, ec⟩ : ∃ c, locklessref01_Marked.f n = some c := by
                                                          unfold locklessref01_Marked.f
                                                          repeat' split
                                                          all_goals exact ⟨_, rfl⟩
  rw [ea, eb, ec]
  simp only [Option.bind_some, if_true, bne_self_eq_false]
  rw [if_neg (by decide)]
  simp only [locklesslaw01_WordMarks.j0]
  rw [if_neg (by decide)]
  by_cases h : a.2 = 0
  · rw [if_pos h, wBare_f (by omega), wMarked_f (by omega)]
    unfold locklessref01_Mark.f at ea
    by_cases h0 : n < 0
    · rw [if_pos h0] at ea; obtain rfl := Option.some.inj ea; cases h
    · rw [if_neg h0] at ea
      by_cases h1 : n ≥ 1000000000000000
      · rw [if_pos h1] at ea; obtain rfl := Option.some.inj ea; cases h
      · rw [if_neg h1, Int.tmod_eq_emod_of_nonneg (by omega)] at ea
        by_cases h2 : n % 2 = 0
        · rw [if_pos h2, wrap_in (by omega)] at ea
          obtain rfl := Option.some.inj ea
          unfold locklessref01_Bare.f locklessref01_Marked.f
          simp only
          rw [if_neg (by omega), if_neg (by omega), if_neg (by omega), if_neg (by omega), Option.bind_some, Option.bind_some, Int.tmod_eq_emod_of_nonneg (by omega), wrap_in (by omega)]
          rw [if_pos (by omega), if_pos rfl, if_pos (by simp; omega), if_pos rfl, hs _ (by omega)]
        · rw [if_neg h2] at ea; obtain rfl := Option.some.inj ea; cases h
  · rw [if_neg h, hs _ (by omega)]

end Go.Proofs.Ytmdkneiicfffbaa.Pure
