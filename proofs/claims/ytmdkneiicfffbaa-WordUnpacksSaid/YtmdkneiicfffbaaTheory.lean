/-
  Mixed radix numbers, as plain mathematics: what a layout is, its size, packing, unpacking, and how they fit together.
-/
import Derived.Test.YtmdkneiicfffbaaWWords
set_option linter.unusedVariables false
namespace Go.Proofs.Ytmdkneiicfffbaa.WT
open Go.RowKit Go.Proofs.YtmdkneiicfffbaaW.PrintWords

def prod : List Int → Int
  | [] => 1
  | b :: t => b * prod t
def valid (l : List Int) : Prop := 1 ≤ l.length ∧ l.length ≤ 6 ∧ (∀ b ∈ l, 2 ≤ b ∧ b ≤ 1000000) ∧ prod l ≤ 1000000000000000
instance (l : List Int) : Decidable (valid l) := by unfold valid; infer_instance
def size (l : List Int) : Int := if valid l then prod l else 0
def fine : List Int → List Int → Prop
  | [], [] => True
  | b :: t, n :: f => 0 ≤ n ∧ n ≤ b - 1 ∧ fine t f
  | _, _ => False
def fineD : (l f : List Int) → Decidable (fine l f)
  | [], [] => .isTrue trivial
  | [], _ :: _ => .isFalse id
  | _ :: _, [] => .isFalse id
  | b :: t, n :: f => by
    have := fineD t f
    show Decidable (0 ≤ n ∧ n ≤ b - 1 ∧ fine t f)
    infer_instance
instance (l f : List Int) : Decidable (fine l f) := fineD l f
def pack : List Int → List Int → Int
  | b :: t, n :: f => n * prod t + pack t f
  | _, _ => 0
def unpack : List Int → Int → List Int
  | [], _ => []
  | b :: t, w => (w / prod t) % b :: unpack t w
def big (l : List Int) : Prop := ∀ b ∈ l, 2 ≤ b
theorem big_tail {b : Int} {t : List Int} (h : big (b :: t)) : big t := fun c hc => h c (List.mem_cons_of_mem _ hc)
theorem big_head {b : Int} {t : List Int} (h : big (b :: t)) : 2 ≤ b := h b (List.mem_cons_self ..)
theorem big_drop {l : List Int} (h : big l) (j : Nat) : big (l.drop j) := fun c hc => h c (List.mem_of_mem_drop hc)
theorem prod_pos : ∀ {l : List Int}, big l → 1 ≤ prod l
  | [], _ => by simp [prod]
  | b :: t, h => by
    have h1 := prod_pos (big_tail h)
    have h2 := big_head h
    have : 1 * 1 ≤ b * prod t := Int.mul_le_mul (by omega) h1 (by omega) (by omega)
    simpa [prod] using this
theorem prod_app : ∀ (l m : List Int), prod (l ++ m) = prod l * prod m
  | [], m => by simp [prod]
  | b :: t, m => by simp [prod, prod_app t m, Int.mul_assoc]
theorem drop_cons {l : List Int} {j : Nat} (h : j < l.length) : l.drop j = rd l (j : Int) :: l.drop (j + 1) := by
  rw [List.drop_eq_getElem_cons h]
  simp [rd, List.getD_eq_getElem?_getD, List.getElem?_eq_getElem h]
theorem rd_at {l : List Int} {j : Nat} (h : j < l.length) : rd l (j : Int) = l[j] := by
  simp [rd, List.getD_eq_getElem?_getD, List.getElem?_eq_getElem h]
theorem rd_big {l : List Int} (hb : big l) {j : Nat} (h : j < l.length) : 2 ≤ rd l (j : Int) := by
  rw [rd_at h]; exact hb _ (List.getElem_mem h)
theorem prod_drop {l : List Int} {j : Nat} (h : j < l.length) : prod (l.drop j) = rd l (j : Int) * prod (l.drop (j + 1)) := by rw [drop_cons h]; rfl
theorem prod_drop_pos {l : List Int} (h : big l) (j : Nat) : 1 ≤ prod (l.drop j) := prod_pos (big_drop h j)
theorem prod_drop_le {l : List Int} (hb : big l) : ∀ j, prod (l.drop j) ≤ prod l := by
  intro j
  have h := prod_app (l.take j) (l.drop j)
  rw [List.take_append_drop] at h
  have h1 : 1 ≤ prod (l.take j) := prod_pos (fun c hc => hb c (List.mem_of_mem_take hc))
  have h2 := prod_drop_pos hb j
  have := Int.mul_le_mul_of_nonneg_right (c := prod (l.drop j)) h1 (by omega)
  omega
theorem rd_le_prod {l : List Int} (hb : big l) {j : Nat} (h : j < l.length) : rd l (j : Int) ≤ prod l := by
  have h1 := prod_drop_le hb j
  rw [prod_drop h] at h1
  have h2 := prod_drop_pos hb (j + 1)
  have h3 := rd_big hb h
  have := Int.mul_le_mul_of_nonneg_left (c := rd l (j : Int)) h2 (by omega)
  omega
theorem valid_big {l : List Int} (h : valid l) : big l := fun b hb => (h.2.2.1 b hb).1
theorem size_valid {l : List Int} (h : valid l) : size l = prod l := if_pos h
theorem size_not {l : List Int} (h : ¬ valid l) : size l = 0 := if_neg h
theorem size_range (l : List Int) : 0 ≤ size l ∧ size l ≤ 1000000000000000 := by
  unfold size; split
  · rename_i h; exact ⟨by have := prod_pos (valid_big h); omega, h.2.2.2⟩
  · omega
theorem size_zero (l : List Int) : size l = 0 ↔ ¬ valid l := by
  constructor
  · intro h hv; rw [size_valid hv] at h; have := prod_pos (valid_big hv); omega
  · exact size_not

theorem fine_length : ∀ {l f : List Int}, fine l f → f.length = l.length
  | [], [], _ => rfl
  | b :: t, n :: f, h => by simp [fine_length h.2.2]
theorem pack_range : ∀ {l f : List Int}, big l → fine l f → 0 ≤ pack l f ∧ pack l f < prod l
  | [], [], _, _ => by simp [pack, prod]
  | b :: t, n :: f, hb, h => by
    have ih := pack_range (big_tail hb) h.2.2
    have hp := prod_pos (big_tail hb)
    obtain ⟨h0, h1, _⟩ := h
    have h2 : n * prod t ≤ (b - 1) * prod t := Int.mul_le_mul_of_nonneg_right h1 (by omega)
    have h3 : 0 ≤ n * prod t := Int.mul_nonneg h0 (by omega)
    rw [Int.sub_mul] at h2
    simp only [pack, prod]
    omega
/-- Digits in their ranges. -/
theorem unpack_length : ∀ (l : List Int) (w : Int), (unpack l w).length = l.length
  | [], _ => rfl
  | b :: t, w => by simp [unpack, unpack_length t w]
theorem unpack_fine : ∀ {l : List Int} (w : Int), big l → fine l (unpack l w)
  | [], _, _ => trivial
  | b :: t, w, hb => by
    have h2 := big_head hb
    exact ⟨Int.emod_nonneg _ (by omega), by have := Int.emod_lt_of_pos (w / prod t) (show 0 < b by omega); omega, unpack_fine w (big_tail hb)⟩
theorem emod_mul' (w : Int) {p b : Int} (hb : 2 ≤ b) (hp : 1 ≤ p) : w % (p * b) = w % p + p * (w / p % b) := by
  have e1 := Int.mul_ediv_add_emod w p
  have e2 := Int.mul_ediv_add_emod (w / p) b
  have r1 := Int.emod_nonneg w (show p ≠ 0 by omega)
  have r2 := Int.emod_lt_of_pos w (show 0 < p by omega)
  have r3 := Int.emod_nonneg (w / p) (show b ≠ 0 by omega)
  have r4 := Int.emod_lt_of_pos (w / p) (show 0 < b by omega)
  have h1 : p * (w / p % b) ≤ p * (b - 1) := Int.mul_le_mul_of_nonneg_left (by omega) (by omega)
  have h2 : 0 ≤ p * (w / p % b) := Int.mul_nonneg (by omega) r3
  rw [Int.mul_sub] at h1
  have e : w = (w % p + p * (w / p % b)) + p * b * (w / p / b) := by
    have e3 : p * (w / p) = p * (b * (w / p / b)) + p * (w / p % b) := by rw [← Int.mul_add, e2]
    rw [Int.mul_assoc]; omega
  rw [e, Int.add_mul_emod_self_left, ← e, Int.emod_eq_of_lt (by omega) (by omega)]
theorem pack_unpack_mod : ∀ {l : List Int} (w : Int), big l → pack l (unpack l w) = w % prod l
  | [], w, _ => by simp [pack, prod, Int.emod_one]
  | b :: t, w, hb => by
    have ih := pack_unpack_mod w (big_tail hb)
    have hp := prod_pos (big_tail hb)
    simp only [pack, unpack, prod, ih]
    rw [Int.mul_comm b (prod t), emod_mul' w (big_head hb) hp, Int.mul_comm (w / prod t % b)]
    omega
theorem pack_unpack {l : List Int} {w : Int} (hb : big l) (h0 : 0 ≤ w) (h1 : w < prod l) : pack l (unpack l w) = w := by
  rw [pack_unpack_mod w hb, Int.emod_eq_of_lt h0 h1]
/-- Words that are equal modulo the size have the same digits. -/
theorem unpack_add : ∀ {l : List Int} (w m : Int), big l → unpack l (w + prod l * m) = unpack l w
  | [], _, _, _ => rfl
  | b :: t, w, m, hb => by
    have hp := prod_pos (big_tail hb)
    have ih := unpack_add w (b * m) (big_tail hb)
    simp only [unpack, prod]
    have e : w + b * prod t * m = w + prod t * (b * m) := by rw [Int.mul_comm b (prod t), Int.mul_assoc]
    rw [e, ih, Int.add_mul_ediv_left _ _ (by omega), Int.add_mul_emod_self_left]
theorem unpack_pack : ∀ {l f : List Int}, big l → fine l f → unpack l (pack l f) = f
  | [], [], _, _ => rfl
  | b :: t, n :: f, hb, h => by
    have hb' := big_tail hb
    have ih := unpack_pack hb' h.2.2
    have hr := pack_range hb' h.2.2
    have hp := prod_pos hb'
    obtain ⟨h0, h1, _⟩ := h
    simp only [pack, unpack]
    have e : n * prod t + pack t f = pack t f + prod t * n := by rw [Int.mul_comm]; omega
    rw [e, unpack_add _ _ hb', ih, Int.add_mul_ediv_left _ _ (by omega), Int.ediv_eq_zero_of_lt hr.1 hr.2, Int.zero_add, Int.emod_eq_of_lt h0 (by omega)]
/-- A digit by its place. -/
theorem unpack_at : ∀ {l : List Int} (w : Int) {j : Nat} (h : j < l.length), rd (unpack l w) (j : Int) = w / prod (l.drop (j + 1)) % rd l (j : Int)
  | b :: t, w, 0, h => by simp [unpack, rd]
  | b :: t, w, j + 1, h => by
    have ih := unpack_at w (l := t) (j := j) (by simpa using h)
    have e1 : rd (unpack (b :: t) w) ((j + 1 : Nat) : Int) = rd (unpack t w) (j : Int) := by simp [unpack, rd]
    have e2 : rd (b :: t) ((j + 1 : Nat) : Int) = rd t (j : Int) := by simp [rd]
    rw [e1, e2, ih]; rfl
theorem fine_at : ∀ {l f : List Int}, fine l f → ∀ {j : Nat}, j < l.length → 0 ≤ rd f (j : Int) ∧ rd f (j : Int) ≤ rd l (j : Int) - 1
  | b :: t, n :: f, h, 0, _ => by simpa [rd] using And.intro h.1 h.2.1
  | b :: t, n :: f, h, j + 1, hj => by
    have ih := fine_at h.2.2 (j := j) (by simpa using hj)
    have e1 : rd (n :: f) ((j + 1 : Nat) : Int) = rd f (j : Int) := by simp [rd]
    have e2 : rd (b :: t) ((j + 1 : Nat) : Int) = rd t (j : Int) := by simp [rd]
    rw [e1, e2]; exact ih
/-- Another digit. -/
theorem pack_set : ∀ {l f : List Int}, f.length = l.length → ∀ {j : Nat}, j < l.length → ∀ n, pack l (f.set j n) = pack l f + (n - rd f (j : Int)) * prod (l.drop (j + 1))
  | b :: t, m :: f, _, 0, _, n => by simp [pack, rd, Int.sub_mul]; omega
  | b :: t, m :: f, hl, j + 1, hj, n => by
    have ih := pack_set (l := t) (f := f) (by simpa using hl) (j := j) (by simpa using hj) n
    have e1 : rd (m :: f) ((j + 1 : Nat) : Int) = rd f (j : Int) := by simp [rd]
    rw [e1]
    simp only [List.set_cons_succ, pack, ih, List.drop_succ_cons]
    omega
theorem fine_set : ∀ {l f : List Int}, fine l f → ∀ {j : Nat}, j < l.length → ∀ n, (fine l (f.set j n) ↔ 0 ≤ n ∧ n ≤ rd l (j : Int) - 1)
  | b :: t, m :: f, h, 0, _, n => by
    simp only [List.set_cons_zero, fine]
    simp [rd]
    intro _ _; exact h.2.2
  | b :: t, m :: f, h, j + 1, hj, n => by
    have ih := fine_set h.2.2 (j := j) (by simpa using hj) n
    have e2 : rd (b :: t) ((j + 1 : Nat) : Int) = rd t (j : Int) := by simp [rd]
    rw [e2]
    simp only [List.set_cons_succ, fine, ih]
    constructor
    · exact fun x => x.2.2
    · exact fun x => ⟨h.1, h.2.1, x⟩
/-- The order of lists. -/
def less : List Int → List Int → Bool
  | a :: s, b :: t => if a = b then less s t else decide (a < b)
  | s, t => decide (s.length < t.length)
theorem less_pack : ∀ {l f g : List Int}, big l → fine l f → fine l g → less f g = decide (pack l f < pack l g)
  | [], [], [], _, _, _ => by simp [less, pack]
  | b :: t, m :: f, n :: g, hb, hf, hg => by
    have hb' := big_tail hb
    have ih := less_pack hb' hf.2.2 hg.2.2
    have r1 := pack_range hb' hf.2.2
    have r2 := pack_range hb' hg.2.2
    have hp := prod_pos hb'
    have e0 : pack (b :: t) (m :: f) = m * prod t + pack t f := rfl
    have e1 : pack (b :: t) (n :: g) = n * prod t + pack t g := rfl
    rw [Bool.eq_iff_iff, decide_eq_true_eq, e0, e1]
    simp only [less]
    split
    · rename_i e; subst e; rw [ih, decide_eq_true_eq]; omega
    · rename_i e
      rw [decide_eq_true_eq]
      constructor
      · intro h
        have : (m + 1) * prod t ≤ n * prod t := Int.mul_le_mul_of_nonneg_right (by omega) (by omega)
        rw [Int.add_mul] at this; omega
      · intro h
        by_cases hc : m < n
        · exact hc
        · have : (n + 1) * prod t ≤ m * prod t := Int.mul_le_mul_of_nonneg_right (by omega) (by omega)
          rw [Int.add_mul] at this; omega
end Go.Proofs.Ytmdkneiicfffbaa.WT
