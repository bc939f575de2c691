/-
  Plain: when an execution breaks nothing: each relation lies within one that rises.
-/
import Derived.Test.YtkddckfgdiemkaaGreatCP1
set_option linter.unusedVariables false
set_option linter.unusedSimpArgs false
namespace Go.Proofs.YtkddckfgdiemkaaGreat
open Go.RowKit Go.Shelf Mem

theorem bitOf_eq (x b : Nat) : bitOf x b = x.testBit b := by
  rw [Nat.testBit_eq_decide_div_mod_eq]
  unfold bitOf lowN shrN
  have h : (((x / 2 ^ b % 2 : Nat) : Int) == 1) = decide (x / 2 ^ b % 2 = 1) := by
    rcases Nat.mod_two_eq_zero_or_one (x / 2 ^ b) with h | h <;> rw [h] <;> rfl
  exact h
theorem bitOf_or (x y b : Nat) : bitOf (orN x y) b = (bitOf x b || bitOf y b) := by
  simp only [bitOf_eq, orN, Nat.testBit_or]
theorem bitOf_pow (a b : Nat) : bitOf (powN a) b = decide (a = b) := by
  simp only [bitOf_eq, powN, Nat.testBit_two_pow]
theorem bitOf_zero (b : Nat) : bitOf 0 b = false := by simp [bitOf_eq]
theorem hasR_set {r : List Nat} {a v i j : Nat} (h : hasR (r.set a v) i j = true) : (a = i ∧ bitOf v j = true) ∨ hasR r i j = true := by
  unfold hasR at h ⊢
  rw [getD_set] at h
  split at h
  · rename_i hh; exact .inl ⟨hh.1, h⟩
  · exact .inr h
/-- A relation in bits lies within another one. -/
def Sub (r : List Nat) (P : Nat → Nat → Prop) : Prop := ∀ a b, hasR r a b = true → P a b
theorem Sub.zero (n : Nat) (P : Nat → Nat → Prop) : Sub (List.replicate n 0) P := fun a b h => by
  exfalso
  unfold hasR at h
  have : (List.replicate n 0).getD a 0 = 0 := by
    simp only [List.getD, List.getElem?_replicate]; split <;> rfl
  rw [this, bitOf_zero] at h
  cases h
theorem Sub.put {r : List Nat} {P : Nat → Nat → Prop} (h : Sub r P) {a b : Nat} (hp : P a b) : Sub (putR r a b) P := fun i j hij => by
  rcases hasR_set hij with ⟨rfl, hb⟩ | hb
  · rw [bitOf_or, Bool.or_eq_true] at hb
    rcases hb with hb | hb
    · exact h _ _ hb
    · rw [bitOf_pow] at hb; rw [← of_decide_eq_true hb]; exact hp
  · exact h _ _ hb
theorem Sub.closeIn {P : Nat → Nat → Prop} (ht : ∀ a b c, P a b → P b c → P a c) {r : List Nat} (h : Sub r P) (k : Nat) : ∀ m, Sub (closeIn k r m) P
  | 0 => h
  | m + 1 => by
    have ih := Sub.closeIn ht h k m
    rw [Go.Proofs.YtkddckfgdiemkaaGreat.closeIn]
    split
    · rename_i hk
      intro i j hij
      rcases hasR_set hij with ⟨rfl, hb⟩ | hb
      · rw [bitOf_or, Bool.or_eq_true] at hb
        rcases hb with hb | hb
        · exact ih _ _ hb
        · exact ht _ _ _ (ih _ _ hk) (ih _ _ hb)
      · exact ih _ _ hb
    · exact ih
theorem Sub.closeTo {P : Nat → Nat → Prop} (ht : ∀ a b c, P a b → P b c → P a c) (n : Nat) {r : List Nat} (h : Sub r P) : ∀ k, Sub (closeTo n r k) P
  | 0 => h
  | k + 1 => (Sub.closeTo ht n h k).closeIn ht k n
theorem Sub.close {P : Nat → Nat → Prop} (ht : ∀ a b c, P a b → P b c → P a c) (n : Nat) {r : List Nat} (h : Sub r P) : Sub (closeF n r) P := Sub.closeTo ht n h n
theorem Sub.stepsA {P : Nat → Nat → Prop} {es : List Ev} (h : ∀ k, k + 1 < es.length → (ev es ((k + 1 : Nat) : Int)).th = (ev es (k : Int)).th → P k (k + 1)) : ∀ k, k < es.length ∨ k = 0 → Sub (stepsA es k) P
  | 0, _ => Sub.zero _ _
  | k + 1, hk => by
    have ih := Sub.stepsA h k (by omega)
    rw [Go.Proofs.YtkddckfgdiemkaaGreat.stepsA]
    split
    · rename_i he
      exact ih.put (h k (by omega) he)
    · exact ih
theorem Sub.stepsB {P : Nat → Nat → Prop} {fen : List Int} {r : List Nat} (hr : Sub r P) (h : ∀ k, k + 1 < fen.length → P (fen.getD k 0).toNat (fen.getD (k + 1) 0).toNat) : ∀ k, k < fen.length ∨ k = 0 → Sub (stepsB fen r k) P
  | 0, _ => hr
  | k + 1, hk => (Sub.stepsB hr h k (by omega)).put (h k (by omega))
theorem Sub.steps {P : Nat → Nat → Prop} {es : List Ev} {fen : List Int} (h : ∀ k, k + 1 < es.length → (ev es ((k + 1 : Nat) : Int)).th = (ev es (k : Int)).th → P k (k + 1))
    (hf : ∀ k, k + 1 < fen.length → P (fen.getD k 0).toNat (fen.getD (k + 1) 0).toNat) : Sub (stepsF es fen) P :=
  Sub.stepsB (Sub.stepsA h _ (by omega)) hf _ (by omega)
theorem Sub.rf {P : Nat → Nat → Prop} {x : Ex} {r : List Nat} {n : Nat} (hr : Sub r P) (h : ∀ k, k < n → 0 ≤ x.fr.getD k 0 → P (x.fr.getD k 0).toNat k) : ∀ k, k ≤ n → Sub (rfTo x r k) P
  | 0, _ => hr
  | k + 1, hk => by
    have ih := Sub.rf hr h k (by omega)
    rw [rfTo]
    split
    · exact ih.put (h k (by omega) (by assumption))
    · exact ih
theorem Sub.addTo {P : Nat → Nat → Prop} {r : List Nat} {F T : Nat} (hr : Sub r P) (h : ∀ a b, bitOf F a = true → bitOf T b = true → P a b) : ∀ m, Sub (addTo r F T m) P
  | 0 => hr
  | m + 1 => by
    have ih := Sub.addTo hr h m
    rw [Go.Proofs.YtkddckfgdiemkaaGreat.addTo]
    split
    · rename_i hF
      intro i j hij
      rcases hasR_set hij with ⟨rfl, hb⟩ | hb
      · rw [bitOf_or, Bool.or_eq_true] at hb
        rcases hb with hb | hb
        · exact ih _ _ hb
        · exact h _ _ hF hb
      · exact ih _ _ hb
    · exact ih
/-- What is released: the event itself, or a fence ahead of it. -/
def isStart (es : List Ev) (w a : Nat) : Prop := (a = w ∧ oRel (ev es (w : Int)).ord = true) ∨ (a < w ∧ (ev es (a : Int)).th = (ev es (w : Int)).th ∧ (ev es (a : Int)).kind = 5 ∧ oRel (ev es (a : Int)).ord = true)
def isEnd (es : List Ev) (r b : Nat) : Prop := (b = r ∧ oAcq (ev es (r : Int)).ord = true) ∨ (r < b ∧ b < es.length ∧ (ev es (b : Int)).th = (ev es (r : Int)).th ∧ (ev es (b : Int)).kind = 5 ∧ oAcq (ev es (b : Int)).ord = true)
theorem startsDown_sub {es : List Ev} {t : Int} {Q : Nat → Prop} : ∀ (m s : Nat), (∀ a, bitOf s a = true → Q a) → (∀ a, a < m → (ev es (a : Int)).th = t → (ev es (a : Int)).kind = 5 → oRel (ev es (a : Int)).ord = true → Q a) → ∀ a, bitOf (startsDown es t m s) a = true → Q a
  | 0, s, hs, _, a, h => hs a h
  | m + 1, s, hs, hq, a, h => by
    rw [startsDown] at h
    split at h
    · rename_i ht
      refine startsDown_sub m _ (fun a ha => ?_) (fun a ha => hq a (by omega)) a h
      split at ha
      · rename_i hc
        rw [bitOf_or, Bool.or_eq_true] at ha
        rcases ha with ha | ha
        · exact hs a ha
        · rw [bitOf_pow] at ha; rw [← of_decide_eq_true ha]; exact hq m (by omega) ht hc.1 hc.2
      · exact hs a ha
    · exact hs a h
theorem starts_sub {es : List Ev} {w a : Nat} (h : bitOf (startsF es w) a = true) : isStart es w a := by
  refine startsDown_sub (Q := isStart es w) w _ (fun a ha => ?_) (fun a h1 h2 h3 h4 => .inr ⟨h1, h2, h3, h4⟩) a h
  split at ha
  · rename_i hc
    rw [bitOf_or, bitOf_zero, Bool.false_or, bitOf_pow] at ha
    exact .inl ⟨(of_decide_eq_true ha).symm, hc⟩
  · rw [bitOf_zero] at ha; cases ha
theorem endsUp_sub {es : List Ev} {t : Int} {Q : Nat → Prop} : ∀ (m s : Nat), m ≤ es.length → (∀ a, bitOf s a = true → Q a) → (∀ a, es.length - m ≤ a → a < es.length → (ev es (a : Int)).th = t → (ev es (a : Int)).kind = 5 → oAcq (ev es (a : Int)).ord = true → Q a) → ∀ a, bitOf (endsUp es t m s) a = true → Q a
  | 0, s, _, hs, _, a, h => hs a h
  | m + 1, s, hm, hs, hq, a, h => by
    rw [endsUp] at h
    split at h
    · rename_i ht
      refine endsUp_sub m _ (by omega) (fun a ha => ?_) (fun a ha => hq a (by omega)) a h
      split at ha
      · rename_i hc
        rw [bitOf_or, Bool.or_eq_true] at ha
        rcases ha with ha | ha
        · exact hs a ha
        · rw [bitOf_pow] at ha; rw [← of_decide_eq_true ha]; exact hq _ (by omega) (by omega) ht hc.1 hc.2
      · exact hs a ha
    · exact hs a h
theorem ends_sub {es : List Ev} {r b : Nat} (hr : r < es.length) (h : bitOf (endsF es r) b = true) : isEnd es r b := by
  refine endsUp_sub (Q := isEnd es r) _ _ (by omega) (fun a ha => ?_) (fun a h1 h2 h3 h4 h5 => .inr ⟨by omega, h2, h3, h4, h5⟩) b h
  split at ha
  · rename_i hc
    rw [bitOf_or, bitOf_zero, Bool.false_or, bitOf_pow] at ha
    exact .inl ⟨(of_decide_eq_true ha).symm, hc⟩
  · rw [bitOf_zero] at ha; cases ha
theorem chain_sub {es : List Ev} {x : Ex} {Q C : Nat → Prop} (hq : ∀ w, C w → ∀ a, isStart es w a → Q a) (hc : ∀ w, C w → exchF es x w = true → 0 ≤ x.fr.getD w 0 → C (x.fr.getD w 0).toNat) :
    ∀ k w s, C w → (∀ a, bitOf s a = true → Q a) → ∀ a, bitOf (chainF es x k w s) a = true → Q a
  | 0, w, s, _, hs, a, h => hs a h
  | k + 1, w, s, hw, hs, a, h => by
    have h2 : ∀ a, bitOf (orN s (startsF es w)) a = true → Q a := fun a ha => by
      rw [bitOf_or, Bool.or_eq_true] at ha
      rcases ha with ha | ha
      · exact hs a ha
      · exact hq w hw a (starts_sub ha)
    rw [chainF] at h
    split at h
    · rename_i hh
      exact chain_sub hq hc k _ _ (hc w hw hh.1 hh.2) h2 a h
    · exact h2 a h
theorem Sub.sw {P : Nat → Nat → Prop} {es : List Ev} {x : Ex} {r : List Nat} (hr : Sub r P) {C : Nat → Nat → Prop}
    (h0 : ∀ r, r < es.length → isRd (ev es (r : Int)) = true → 0 ≤ x.fr.getD r 0 → C r (x.fr.getD r 0).toNat)
    (hc : ∀ r w, C r w → exchF es x w = true → 0 ≤ x.fr.getD w 0 → C r (x.fr.getD w 0).toNat)
    (h : ∀ r w a b, C r w → isStart es w a → isEnd es r b → P a b) : ∀ k, k ≤ es.length → Sub (swTo es x r k) P
  | 0, _ => hr
  | k + 1, hk => by
    have ih := Sub.sw hr h0 hc h k (by omega)
    rw [swTo]
    split
    · rename_i hh
      refine ih.addTo (fun a b ha hb => ?_) _
      have he := ends_sub (by omega) hb
      exact chain_sub (Q := fun a => P a b) (C := C k) (fun w hw a hs => h k w a b hw hs he) (fun w hw => hc k w hw) _ _ _ (h0 k (by omega) hh.1 hh.2) (fun a ha => by rw [bitOf_zero] at ha; cases ha) a ha
    · exact ih
theorem Sub.ecoC {P : Nat → Nat → Prop} {l : List Int} {i : Nat} {r : List Nat} (hr : Sub r P) (h : ∀ j, i < j → j < l.length → P (l.getD i 0).toNat (l.getD j 0).toNat) : ∀ m, i + m < l.length ∨ m = 0 → Sub (ecoC l i r m) P
  | 0, _ => hr
  | m + 1, hm => (Sub.ecoC hr h m (by omega)).put (h (i + 1 + m) (by omega) (by omega))
theorem Sub.ecoB {P : Nat → Nat → Prop} {l : List Int} {r : List Nat} (hr : Sub r P) (h : ∀ i j, i < j → j < l.length → P (l.getD i 0).toNat (l.getD j 0).toNat) : ∀ i, i ≤ l.length → Sub (ecoB l r i) P
  | 0, _ => hr
  | i + 1, hi => (Sub.ecoB hr h i (by omega)).ecoC (h i) _ (by omega)
theorem Sub.ecoA {P : Nat → Nat → Prop} {ord : List (List Int)} {r : List Nat} (hr : Sub r P) (h : ∀ k i j, i < j → j < (ord.getD k []).length → P ((ord.getD k []).getD i 0).toNat ((ord.getD k []).getD j 0).toNat) : ∀ k, Sub (ecoA ord r k) P
  | 0 => hr
  | k + 1 => (Sub.ecoA hr h k).ecoB (h k) _ (Nat.le_refl _)
theorem Sub.frIn {P : Nat → Nat → Prop} {l : List Int} {i : Nat} {f : Int} {r : List Nat} (hr : Sub r P)
    (h : ∀ j, j < l.length → l.getD j 0 ≠ (i : Int) → (f = -1 ∨ ∃ k, k < j ∧ l.getD k 0 = f) → P i (l.getD j 0).toNat) : ∀ m, m ≤ l.length → Sub (frIn i f l r m).1 P ∧ ((frIn i f l r m).2 = true → f = -1 ∨ ∃ k, k < m ∧ l.getD k 0 = f)
  | 0, _ => ⟨hr, fun hf => .inl (by simpa [Go.Proofs.YtkddckfgdiemkaaGreat.frIn] using hf)⟩
  | m + 1, hm => by
    obtain ⟨ih1, ih2⟩ := Sub.frIn hr h m (by omega)
    refine ⟨?_, fun hf => ?_⟩
    · simp only [Go.Proofs.YtkddckfgdiemkaaGreat.frIn]
      split
      · rename_i hh
        rw [Bool.and_eq_true] at hh
        exact ih1.put (h m (by omega) (by simpa using hh.2) (ih2 hh.1))
      · exact ih1
    · simp only [Go.Proofs.YtkddckfgdiemkaaGreat.frIn, Bool.or_eq_true] at hf
      rcases hf with hf | hf
      · rcases ih2 hf with h | ⟨k, hk, he⟩
        · exact .inl h
        · exact .inr ⟨k, by omega, he⟩
      · exact .inr ⟨m, by omega, by simpa using hf⟩
theorem Sub.ecoD {P : Nat → Nat → Prop} {es : List Ev} {x : Ex} {r : List Nat} (hr : Sub r P)
    (h1 : ∀ i, i < es.length → isRd (ev es (i : Int)) = true → 0 ≤ x.fr.getD i 0 → P (x.fr.getD i 0).toNat i)
    (h2 : ∀ i, i < es.length → isRd (ev es (i : Int)) = true → ∀ l, l = x.ord.getD (ev es (i : Int)).loc.toNat [] → ∀ j, j < l.length → l.getD j 0 ≠ (i : Int) → (x.fr.getD i 0 = -1 ∨ ∃ k, k < j ∧ l.getD k 0 = x.fr.getD i 0) → P i (l.getD j 0).toNat) : ∀ k, k ≤ es.length → Sub (ecoD es x r k) P
  | 0, _ => hr
  | k + 1, hk => by
    have ih := Sub.ecoD hr h1 h2 k (by omega)
    rw [Go.Proofs.YtkddckfgdiemkaaGreat.ecoD, frOne]
    split
    · rename_i hrd
      refine (Sub.frIn ?_ (h2 k (by omega) hrd _ rfl) _ (Nat.le_refl _)).1
      split
      · exact ih.put (h1 k (by omega) hrd (by assumption))
      · exact ih
    · exact ih
theorem looseL_false {es : List Ev} {x : Ex} : ∀ (l : List Int) (front : Int), (∀ j, j < l.length → isRd (ev es (l.getD j 0)) = true → x.fr.getD (l.getD j 0).toNat 0 = (if j = 0 then front else l.getD (j - 1) 0)) → looseL es x front l = false
  | [], _, _ => rfl
  | w :: t, front, h => by
    rw [looseL, Bool.or_eq_false_iff]
    constructor
    · have := h 0 (by simp)
      simp only [List.getD_cons_zero, if_true] at this
      cases hr : isRd (ev es w) with
      | false => rfl
      | true => simp only [Bool.true_and, bne_eq_false_iff_eq]; exact this hr
    · refine looseL_false t w (fun j hj hr => ?_)
      have := h (j + 1) (by simpa using hj) (by simpa using hr)
      simp only [List.getD_cons_succ, Nat.add_one_ne_zero, if_false, Nat.add_sub_cancel] at this
      rw [this]
      cases j with
      | zero => simp
      | succ j => simp
/-- An execution breaks nothing. -/
theorem broken_zero {es : List Ev} {x : Ex} {T : Nat → Nat} {P E : Nat → Nat → Prop} {C : Nat → Nat → Prop}
    (ht : ∀ a b c, P a b → P b c → P a c) (het : ∀ a b c, E a b → E b c → E a c)
    (hT : ∀ a b, P a b → T a < T b) (hPE : ∀ a b, P a b → E b a → False)
    (hpo : ∀ k, k + 1 < es.length → (ev es ((k + 1 : Nat) : Int)).th = (ev es (k : Int)).th → P k (k + 1))
    (hf : ∀ k, k + 1 < x.fen.length → P (x.fen.getD k 0).toNat (x.fen.getD (k + 1) 0).toNat)
    (hrf : ∀ k, k < es.length → 0 ≤ x.fr.getD k 0 → T (x.fr.getD k 0).toNat < T k)
    (h0 : ∀ r, r < es.length → isRd (ev es (r : Int)) = true → 0 ≤ x.fr.getD r 0 → C r (x.fr.getD r 0).toNat)
    (hc : ∀ r w, C r w → exchF es x w = true → 0 ≤ x.fr.getD w 0 → C r (x.fr.getD w 0).toNat)
    (hsw : ∀ r w a b, C r w → isStart es w a → isEnd es r b → P a b)
    (e1 : ∀ k i j, i < j → j < (x.ord.getD k []).length → E ((x.ord.getD k []).getD i 0).toNat ((x.ord.getD k []).getD j 0).toNat)
    (e2 : ∀ i, i < es.length → isRd (ev es (i : Int)) = true → 0 ≤ x.fr.getD i 0 → E (x.fr.getD i 0).toNat i)
    (e3 : ∀ i, i < es.length → isRd (ev es (i : Int)) = true → ∀ l, l = x.ord.getD (ev es (i : Int)).loc.toNat [] → ∀ j, j < l.length → l.getD j 0 ≠ (i : Int) → (x.fr.getD i 0 = -1 ∨ ∃ k, k < j ∧ l.getD k 0 = x.fr.getD i 0) → E i (l.getD j 0).toNat)
    (h4 : ∀ l ∈ x.ord, ∀ j, j < l.length → isRd (ev es (l.getD j 0)) = true → x.fr.getD (l.getD j 0).toNat 0 = (if j = 0 then -1 else l.getD (j - 1) 0)) :
    brokenF es x = 0 := by
  have R0 : Sub (stepsF es x.fen) (fun a b => T a < T b) := Sub.steps (fun k h1 h2 => hT _ _ (hpo k h1 h2)) (fun k hk => hT _ _ (hf k hk))
  have R1 : Sub (roundF es x) (fun a b => T a < T b) := Sub.close (P := fun a b => T a < T b) (fun a b c h1 h2 => Nat.lt_trans h1 h2) es.length (Sub.rf (n := es.length) R0 hrf _ (Nat.le_refl _))
  have R2 : Sub (beforeF es x) P := (Sub.sw (Sub.steps hpo hf) h0 hc hsw _ (Nat.le_refl _)).close ht _
  have R3 : Sub (commF es x) E := (Sub.ecoD (Sub.ecoA (Sub.zero _ _) e1 _) e2 e3 _ (Nat.le_refl _)).close het _
  have c1 : circleR es.length (roundF es x) = false := any_range_false fun a _ => by
    cases h : hasR (roundF es x) a a with
    | false => rfl
    | true => exact absurd (R1 _ _ h) (Nat.lt_irrefl _)
  have c2 : circleR es.length (beforeF es x) = false := any_range_false fun a _ => by
    cases h : hasR (beforeF es x) a a with
    | false => rfl
    | true => exact absurd (hT _ _ (R2 _ _ h)) (Nat.lt_irrefl _)
  have c3 : clashR es.length (beforeF es x) (commF es x) = false := any_range_false fun a _ => any_range_false fun b _ => by
    cases h : hasR (beforeF es x) a b with
    | false => rfl
    | true =>
      cases h2 : hasR (commF es x) b a with
      | false => rfl
      | true => exact (hPE _ _ (R2 _ _ h) (R3 _ _ h2)).elim
  have c4 : x.ord.any (fun l => looseL es x (-1) l) = false := by
    rw [List.any_eq_false]
    intro l hl
    rw [looseL_false l (-1) (h4 l hl)]; decide
  rw [brokenF, c1, c2, c3, c4]; rfl
end Go.Proofs.YtkddckfgdiemkaaGreat
/-
  Plain: what the words of an execution are, when they do not go round.
-/
set_option linter.unusedVariables false
set_option linter.unusedSimpArgs false
namespace Go.Proofs.YtkddckfgdiemkaaGreat
open Go.RowKit Go.Shelf Mem

/-- An event that writes, if it does. -/
def wk (e : Ev) : Prop := e.kind = 1 ∨ e.kind = 2 ∨ e.kind = 3 ∨ e.kind = 4
/-- What it writes. -/
def wval (e : Ev) (r : Int) : Int := if e.kind = 1 then e.v else if e.kind = 2 then wrap64 (r + e.v) else e.w
/-- How the words hang together. -/
structure WOk (es : List Ev) (x : Ex) (rv : Nat → Int) (T : Nat → Nat) : Prop where
  rd : ∀ i : Nat, i < es.length → isRd (ev es (i : Int)) = true → (x.fr.getD i 0 = -1 ∧ rv i = 0) ∨ ∃ w : Nat, w < es.length ∧ x.fr.getD i 0 = (w : Int) ∧ wk (ev es (w : Int)) ∧ rv i = wval (ev es (w : Int)) (rv w) ∧ T w < T i
  T : ∀ i : Nat, i < es.length → T i < es.length
structure WdOk (es : List Ev) (x : Ex) (rv : Nat → Int) (T : Nat → Nat) (k i : Nat) (s : Wd) : Prop where
  len : s.Len es.length
  z : ∀ j : Nat, j < es.length → x.fr.getD j 0 = -1 → s.rd.getD j 0 = 0
  kn : ∀ j : Nat, j < es.length → isRd (ev es (j : Int)) = true → s.kn.getD j false = true → s.rd.getD j 0 = rv j
  tl : ∀ j : Nat, j < es.length → wk (ev es (j : Int)) → s.tl.getD j false = true → s.wr.getD j 0 = wval (ev es (j : Int)) (rv j)
  dn : ∀ j : Nat, j < es.length → (T j < k ∨ (j < i ∧ T j < k + 1)) → (isRd (ev es (j : Int)) = true → s.kn.getD j false = true) ∧ (wk (ev es (j : Int)) → s.tl.getD j false = true)
theorem wdRead_ok {es : List Ev} {x : Ex} {rv : Nat → Int} {T : Nat → Nat} {k i : Nat} {s : Wd} (hw : WOk es x rv T) (hi : i < es.length) (h : WdOk es x rv T k i s) :
    WdOk es x rv T k i (wdRead es x i s) ∧ (T i < k + 1 → isRd (ev es (i : Int)) = true → (wdRead es x i s).kn.getD i false = true) := by
  unfold wdRead
  split
  · rename_i hr
    split
    · rename_i hf
      refine ⟨⟨⟨h.len.rd, h.len.wr, by simp [h.len.kn], h.len.tl⟩, h.z, fun j hj hjr hk => ?_, h.tl, fun j hj hc => ⟨fun hjr => ?_, (h.dn j hj hc).2⟩⟩, fun _ _ => ?_⟩
      · by_cases hij : i = j
        · subst hij
          rcases hw.rd i hi hr with ⟨_, h2⟩ | ⟨w, _, h2, _⟩
          · show s.rd.getD i 0 = rv i
            rw [h.z i hi hf, h2]
          · omega
        · simp only [getD_set] at hk
          rw [if_neg (fun e => hij e.1)] at hk
          exact h.kn j hj hjr hk
      · simp only [getD_set]
        split
        · rfl
        · exact (h.dn j hj hc).1 hjr
      · simp only [getD_set]
        rw [if_pos ⟨trivial, by rw [h.len.kn]; exact hi⟩]
    · rename_i hf
      rcases hw.rd i hi hr with ⟨h1, _⟩ | ⟨w, hwl, h2, h3, h4, h5⟩
      · exact absurd h1 hf
      · rw [h2, Int.toNat_natCast]
        split
        · rename_i ht
          refine ⟨⟨⟨by simp [h.len.rd], h.len.wr, by simp [h.len.kn], h.len.tl⟩, fun j hj hjf => ?_, fun j hj hjr hk => ?_, h.tl, fun j hj hc => ⟨fun hjr => ?_, (h.dn j hj hc).2⟩⟩, fun _ _ => ?_⟩
          · simp only [getD_set]
            rw [if_neg (fun e => hf (by rw [e.1]; exact hjf))]
            exact h.z j hj hjf
          · by_cases hij : i = j
            · subst hij
              simp only [getD_set]
              rw [if_pos ⟨trivial, by rw [h.len.rd]; exact hi⟩, h.tl w hwl h3 ht, h4]
            · simp only [getD_set] at hk ⊢
              rw [if_neg (fun e => hij e.1)] at hk ⊢
              exact h.kn j hj hjr hk
          · simp only [getD_set]
            split
            · rfl
            · exact (h.dn j hj hc).1 hjr
          · simp only [getD_set]
            rw [if_pos ⟨trivial, by rw [h.len.kn]; exact hi⟩]
        · rename_i ht
          refine ⟨h, fun hT _ => ?_⟩
          exact absurd ((h.dn w hwl (.inl (by omega))).2 h3) ht
  · rename_i hr
    exact ⟨h, fun _ hr2 => absurd hr2 hr⟩
theorem wdWrite_ok {es : List Ev} {x : Ex} {rv : Nat → Int} {T : Nat → Nat} {k i : Nat} {s : Wd} (hi : i < es.length) (h : WdOk es x rv T k i s) (hk : T i < k + 1 → isRd (ev es (i : Int)) = true → s.kn.getD i false = true) :
    WdOk es x rv T k (i + 1) (wdWrite es i s) := by
  have key : ∀ (y : Int) (b : Bool), wk (ev es (i : Int)) → (b = true → y = wval (ev es (i : Int)) (rv i)) → (T i < k + 1 → b = true) → WdOk es x rv T k (i + 1) { s with wr := s.wr.set i y, tl := s.tl.set i b } := fun y b hwk hy hb => by
    refine ⟨⟨h.len.rd, by simp [h.len.wr], h.len.kn, by simp [h.len.tl]⟩, h.z, h.kn, fun j hj hjw ht => ?_, fun j hj hc => ?_⟩
    · by_cases hij : i = j
      · subst hij
        simp only [getD_set] at ht ⊢
        rw [if_pos ⟨trivial, by rw [h.len.tl]; exact hi⟩] at ht
        rw [if_pos ⟨trivial, by rw [h.len.wr]; exact hi⟩, hy ht]
      · simp only [getD_set] at ht ⊢
        rw [if_neg (fun e => hij e.1)] at ht ⊢
        exact h.tl j hj hjw ht
    · by_cases hij : i = j
      · subst hij
        have hT : T i < k + 1 := by omega
        refine ⟨hk hT, fun _ => ?_⟩
        simp only [getD_set]
        rw [if_pos ⟨trivial, by rw [h.len.tl]; exact hi⟩, hb hT]
      · have hc' : T j < k ∨ (j < i ∧ T j < k + 1) := by omega
        refine ⟨(h.dn j hj hc').1, fun hjw => ?_⟩
        simp only [getD_set]
        rw [if_neg (fun e => hij e.1)]
        exact (h.dn j hj hc').2 hjw
  unfold wdWrite
  split
  · rename_i h1
    exact key _ _ (.inl h1) (fun _ => by simp [wval, h1]) (fun _ => rfl)
  · rename_i h1
    split
    · rename_i h2
      have hr : isRd (ev es (i : Int)) = true := by simp [isRd, h2]
      refine key _ _ (.inr (.inl h2)) (fun hb => ?_) (fun hT => hk hT hr)
      rw [h.kn i hi hr hb]
      simp [wval, h2]
    · rename_i h2
      split
      · rename_i h3
        exact key _ _ (.inr (.inr h3)) (fun _ => by simp [wval, h1, h2]) (fun _ => rfl)
      · rename_i h3
        refine ⟨h.len, h.z, h.kn, h.tl, fun j hj hc => ?_⟩
        by_cases hij : i = j
        · subst hij
          exact ⟨hk (by omega), fun hwk => by rcases hwk with h | h | h | h <;> simp [h] at h1 h2 h3⟩
        · exact h.dn j hj (by omega)
theorem wdTo_ok {es : List Ev} {x : Ex} {rv : Nat → Int} {T : Nat → Nat} {k : Nat} {s : Wd} (hw : WOk es x rv T) (h : WdOk es x rv T k 0 s) : ∀ i, i ≤ es.length → WdOk es x rv T k i (wdTo es x s i)
  | 0, _ => h
  | i + 1, hi => by
    obtain ⟨h1, h2⟩ := wdRead_ok hw (by omega) (wdTo_ok hw h i (by omega))
    exact wdWrite_ok (by omega) h1 h2
theorem wdRounds_ok {es : List Ev} {x : Ex} {rv : Nat → Int} {T : Nat → Nat} (hw : WOk es x rv T) : ∀ k, WdOk es x rv T k 0 (wdRounds es x k)
  | 0 => by
    refine ⟨wdRounds_len es x 0, fun j hj _ => ?_, fun j hj _ hk => ?_, fun j hj _ ht => ?_, fun j hj hc => ?_⟩
    · simp [wdRounds, wdZero, List.getD, List.getElem?_replicate]
      split <;> rfl
    · exfalso; simp [wdRounds, wdZero, List.getD, List.getElem?_replicate, hj] at hk
    · exfalso; simp [wdRounds, wdZero, List.getD, List.getElem?_replicate, hj] at ht
    · omega
  | k + 1 => by
    have h := wdTo_ok hw (wdRounds_ok hw k) es.length (Nat.le_refl _)
    exact ⟨h.len, h.z, h.kn, h.tl, fun j hj hc => h.dn j hj (by omega)⟩
theorem words_ok {es : List Ev} {x : Ex} {rv : Nat → Int} {T : Nat → Nat} (hw : WOk es x rv T) :
    (∀ i : Nat, i < es.length → isRd (ev es (i : Int)) = true → (wordsF es x).rd.getD i 0 = rv i) ∧ (∀ i : Nat, i < es.length → wk (ev es (i : Int)) → (wordsF es x).wr.getD i 0 = wval (ev es (i : Int)) (rv i)) := by
  have h := wdRounds_ok hw (es.length + 1)
  have hd := fun j hj => h.dn j hj (.inl (by have := hw.T j hj; omega))
  exact ⟨fun i hi hr => h.kn i hi hr ((hd i hi).1 hr), fun i hi hwk => h.tl i hi hwk ((hd i hi).2 hwk)⟩
end Go.Proofs.YtkddckfgdiemkaaGreat
/-
  Plain: the machine of views, and what is kept of how it came about.
-/
set_option linter.unusedVariables false
set_option linter.unusedSimpArgs false
namespace Go.Proofs.YtkddckfgdiemkaaGreat
open Go.RowKit Go.Shelf Mem

/-- A view: a message for each location. -/
structure V3 where
  a : Int
  b : Int
  c : Int
deriving Inhabited, DecidableEq
def V3.at_ (v : V3) (l : Nat) : Int := if l = 0 then v.a else if l = 1 then v.b else v.c
def V3.put (v : V3) (l : Nat) (x : Int) : V3 := if l = 0 then ⟨x, v.b, v.c⟩ else if l = 1 then ⟨v.a, x, v.c⟩ else ⟨v.a, v.b, x⟩
theorem V3.at_put (v : V3) {l k : Nat} (x : Int) (hl : l < 3) (hk : k < 3) : (v.put l x).at_ k = if k = l then x else v.at_ k := by
  unfold V3.put V3.at_
  have h1 : l = 0 ∨ l = 1 ∨ l = 2 := by omega
  have h2 : k = 0 ∨ k = 1 ∨ k = 2 := by omega
  rcases h1 with rfl | rfl | rfl <;> rcases h2 with rfl | rfl | rfl <;> simp
def V3.nil : V3 := ⟨-1, -1, -1⟩
structure Msg where
  word : Int
  view : V3
  tied : Bool
deriving Inhabited
structure Thr where
  now : V3
  gained : V3
  given : V3
  read : List Int
  next : Nat
deriving Inhabited
structure VM where
  msgs : List Msg
  line : List (List Int)
  thr : List Thr
  all : V3
def VM.ln (m : VM) (l : Nat) : List Int := m.line.getD l []
def VM.msg (m : VM) (q : Nat) : Msg := m.msgs.getD q default
def VM.th (m : VM) (t : Nat) : Thr := m.thr.getD t default
/-- Where a message stands. -/
def place (line : List (List Int)) (l : Nat) (x : Int) : Nat := (findFrom (fun y => decide (x = y)) 0 (line.getD l [])).toNat
def join1 (line : List (List Int)) (l : Nat) (x y : Int) : Int := if 0 ≤ y ∧ (x < 0 ∨ place line l x < place line l y) then y else x
def joinV (line : List (List Int)) (u v : V3) : V3 := ⟨join1 line 0 u.a v.a, join1 line 1 u.b v.b, join1 line 2 u.c v.c⟩
theorem joinV_at (line : List (List Int)) (u v : V3) {l : Nat} (hl : l < 3) : (joinV line u v).at_ l = join1 line l (u.at_ l) (v.at_ l) := by
  have h1 : l = 0 ∨ l = 1 ∨ l = 2 := by omega
  rcases h1 with rfl | rfl | rfl <;> rfl
def bound (m : VM) (l k : Nat) : Bool := decide (k + 1 < (m.ln l).length) && (m.msg ((m.ln l).getD (k + 1) 0).toNat).tied
def writesF (o : Ev) (word : Int) : Bool := o.kind == 1 || o.kind == 2 || (o.kind != 0 && word == o.v)
def choice1 (m : VM) (o : Ev) (k : Nat) : List (Nat × Bool) :=
  (if writesF o (m.msg ((m.ln o.loc.toNat).getD k 0).toNat).word && !bound m o.loc.toNat k then [(k, true)] else []) ++
    (if !writesF o (m.msg ((m.ln o.loc.toNat).getD k 0).toNat).word || o.kind == 4 then [(k, false)] else [])
def choicesTo (m : VM) (o : Ev) (s : Nat) : Nat → List (Nat × Bool)
  | 0 => []
  | k + 1 => choicesTo m o s k ++ choice1 m o (s + k)
def choicesF (m : VM) (t : Nat) (o : Ev) : List (Nat × Bool) :=
  if o.kind = 5 then [(0, false)] else choicesTo m o (place m.line o.loc.toNat ((m.th t).now.at_ o.loc.toNat)) ((m.ln o.loc.toNat).length - place m.line o.loc.toNat ((m.th t).now.at_ o.loc.toNat))
def setTh (m : VM) (t : Nat) (x : Thr) : VM := { m with thr := m.thr.set t x }
/-- A thread reads a message. -/
def readT (m : VM) (t q : Nat) (o : Ev) : Thr :=
  let th := m.th t
  let n1 := th.now.put o.loc.toNat (q : Int)
  let n2 := if oAcq o.ord then joinV m.line n1 (m.msg q).view else n1
  { th with now := n2, gained := joinV m.line (joinV m.line th.gained (m.msg q).view) n2, read := th.read ++ [(m.msg q).word] }
def readsF (m : VM) (t q : Nat) (o : Ev) : VM := setTh m t (readT m t q o)
def insAt (l : List Int) (k : Nat) (x : Int) : List Int := l.take k ++ x :: l.drop k
def lineW (m : VM) (l k : Nat) : List (List Int) := m.line.set l (insAt (m.ln l) (k + 1) (m.msgs.length : Int))
def viewW (m : VM) (t k : Nat) (o : Ev) (tied : Bool) : V3 :=
  let th := m.th t
  let n := th.now.put o.loc.toNat (m.msgs.length : Int)
  let v := if oRel o.ord then n else th.given
  let v2 := if tied then joinV (lineW m o.loc.toNat k) v (m.msg ((m.ln o.loc.toNat).getD k 0).toNat).view else v
  v2.put o.loc.toNat (m.msgs.length : Int)
/-- A thread writes a message behind a place. -/
def writesV (m : VM) (t k : Nat) (word : Int) (o : Ev) (tied : Bool) : VM :=
  let th := m.th t
  let n := th.now.put o.loc.toNat (m.msgs.length : Int)
  { m with
    msgs := m.msgs ++ [⟨word, viewW m t k o tied, tied⟩]
    line := lineW m o.loc.toNat k
    thr := m.thr.set t { th with now := n, gained := joinV (lineW m o.loc.toNat k) th.gained n } }
def fenT (m : VM) (t : Nat) (o : Ev) : Thr :=
  let th := m.th t
  let n1 := if oAcq o.ord then joinV m.line th.now th.gained else th.now
  let n2 := if o.ord = 4 then joinV m.line n1 m.all else n1
  { th with now := n2, gained := if o.ord = 4 then joinV m.line th.gained n2 else th.gained, given := if oRel o.ord then n2 else th.given }
def fencedF (m : VM) (t : Nat) (o : Ev) : VM := { m with thr := m.thr.set t (fenT m t o), all := if o.ord = 4 then (fenT m t o).now else m.all }
def bump (m : VM) (t : Nat) : VM := setTh m t { m.th t with next := (m.th t).next + 1 }
def wordW (m : VM) (o : Ev) (k : Nat) : Int := if o.kind = 1 then o.v else if o.kind = 2 then wrap64 ((m.msg ((m.ln o.loc.toNat).getD k 0).toNat).word + o.v) else o.w
def doesF (m : VM) (t : Nat) (o : Ev) (c : Nat × Bool) : VM :=
  if o.kind = 5 then fencedF (bump m t) t o
  else
    let m2 := if o.kind = 1 then bump m t else readsF (bump m t) t ((m.ln o.loc.toNat).getD c.1 0).toNat o
    if c.2 then writesV m2 t c.1 (wordW m o c.1) o (o.kind != 1) else m2

/-! What is kept. -/
def upd {α : Type} (f : Nat → α) (k : Nat) (v : α) : Nat → α := fun i => if i = k then v else f i
theorem upd_same {α : Type} (f : Nat → α) (k : Nat) (v : α) : upd f k v k = v := if_pos rfl
theorem upd_ne {α : Type} (f : Nat → α) {k i : Nat} (v : α) (h : i ≠ k) : upd f k v i = f i := if_neg h
structure Gh where
  ml : Nat → Nat
  ix : Nat → Nat
  wr : Nat → Int
  ps : Nat → Nat
  fr : Nat → Int
  dn : Nat → Bool
  rv : Nat → Int
  T : Nat → Nat
  ck : Nat
  fen : List Int
  hs : Nat → Nat → Prop
  nw : Nat → Nat → Prop
  gn : Nat → Nat → Prop
  gv : Nat → Nat → Prop
  ms : Nat → Nat → Prop
  al : Nat → Prop
  X : Nat → Prop
def acc (e : Ev) : Prop := e.kind ≠ 5
def lc (es : List Ev) (a : Nat) : Nat := (ev es (a : Int)).loc.toNat
abbrev E (es : List Ev) (a : Nat) : Ev := ev es (a : Int)
def pv (line : List (List Int)) (v : V3) (l : Nat) : Nat := place line l (v.at_ l)
/-- The lines: where each message stands. -/
structure Lines (m : VM) (ml ix : Nat → Nat) : Prop where
  n3 : m.line.length = 3
  m3 : 3 ≤ m.msgs.length
  inn : ∀ q, q < m.msgs.length → ml q < 3 ∧ (m.ln (ml q))[ix q]? = some (q : Int)
  of_ : ∀ l k y, l < 3 → (m.ln l)[k]? = some y → ∃ q : Nat, y = (q : Int) ∧ q < m.msgs.length ∧ ml q = l ∧ ix q = k
  z : ∀ l, l < 3 → ml l = l ∧ ix l = 0
theorem findFrom_none {x : Int} : ∀ (l : List Int) (k : Nat), (∀ (j : Nat), l[j]? ≠ some x) → findFrom (fun y => decide (x = y)) k l = -1
  | [], k, _ => rfl
  | y :: t, k, h => by
    have h0 : x ≠ y := fun e => h 0 (by simp [e])
    simp only [findFrom, h0, decide_false]
    exact findFrom_none t (k + 1) (fun j => by have := h (j + 1); simpa using this)
theorem findFrom_some {x : Int} : ∀ (l : List Int) (k i : Nat), l[i]? = some x → (∀ (j : Nat), l[j]? = some x → j = i) → findFrom (fun y => decide (x = y)) k l = ((k + i : Nat) : Int)
  | [], k, i, h, _ => by simp at h
  | y :: t, k, i, h, hu => by
    by_cases h0 : x = y
    · have := hu 0 (by simp [h0])
      subst this
      simp only [findFrom, h0, decide_true, if_true, Nat.add_zero]
    · simp only [findFrom, h0, decide_false]
      cases i with
      | zero => simp at h; exact absurd h.symm h0
      | succ i =>
        have := findFrom_some t (k + 1) i (by simpa using h) (fun j hj => by have := hu (j + 1) (by simpa using hj); omega)
        simp only [Bool.false_eq_true, if_false]
        rw [this]; congr 1; omega
theorem Lines.place_in {m : VM} {ml ix : Nat → Nat} (h : Lines m ml ix) {q : Nat} (hq : q < m.msgs.length) : place m.line (ml q) (q : Int) = ix q := by
  obtain ⟨h1, h2⟩ := h.inn q hq
  unfold place
  have := findFrom_some (m.ln (ml q)) 0 (ix q) h2 (fun j hj => by
    obtain ⟨q', e, _, _, hx⟩ := h.of_ _ _ _ h1 hj
    have : q = q' := by omega
    subst this; exact hx.symm)
  unfold VM.ln at this
  rw [this]; omega
theorem Lines.place_out {m : VM} {ml ix : Nat → Nat} (h : Lines m ml ix) {l : Nat} (hl : l < 3) {x : Int} (hx : ∀ q : Nat, x = (q : Int) → q < m.msgs.length → ml q ≠ l) : place m.line l x = 0 := by
  unfold place
  rw [findFrom_none]
  · rfl
  · intro j hj
    obtain ⟨q, e, h1, h2, _⟩ := h.of_ l j x hl hj
    exact hx q e h1 h2
theorem Lines.place_neg {m : VM} {ml ix : Nat → Nat} (h : Lines m ml ix) {l : Nat} (hl : l < 3) {x : Int} (hx : x < 0) : place m.line l x = 0 := h.place_out hl (fun q e => by omega)
theorem Lines.join {m : VM} {ml ix : Nat → Nat} (h : Lines m ml ix) (u v : V3) {l : Nat} (hl : l < 3) : pv m.line (joinV m.line u v) l = max (pv m.line u l) (pv m.line v l) := by
  unfold pv
  rw [joinV_at _ _ _ hl]
  unfold join1
  have hn := fun x => @Lines.place_neg m ml ix h l hl x
  split
  · rename_i hc
    rcases hc.2 with h2 | h2
    · rw [hn _ h2]; omega
    · omega
  · rename_i hc
    by_cases hy : 0 ≤ v.at_ l
    · have : ¬ (u.at_ l < 0 ∨ place m.line l (u.at_ l) < place m.line l (v.at_ l)) := fun hh => hc ⟨hy, hh⟩
      omega
    · rw [hn (v.at_ l) (by omega)]; omega
theorem Lines.place_lt {m : VM} {ml ix : Nat → Nat} (h : Lines m ml ix) {l : Nat} (hl : l < 3) (x : Int) : place m.line l x < (m.ln l).length := by
  have h0 : 0 < (m.ln l).length := by
    have h3 := h.m3
    have := (h.inn l (by omega)).2
    rw [(h.z l hl).1] at this
    have := (List.getElem?_eq_some_iff.1 this).1
    omega
  by_cases hx : ∃ q : Nat, x = (q : Int) ∧ q < m.msgs.length ∧ ml q = l
  · obtain ⟨q, rfl, h1, rfl⟩ := hx
    rw [h.place_in h1]
    exact (List.getElem?_eq_some_iff.1 (h.inn q h1).2).1
  · rw [h.place_out hl (fun q e h1 h2 => hx ⟨q, e, h1, h2⟩)]; exact h0
end Go.Proofs.YtkddckfgdiemkaaGreat
/-
  Plain: what always holds of the machine of views; a new event.
-/
set_option linter.unusedVariables false
set_option linter.unusedSimpArgs false
namespace Go.Proofs.YtkddckfgdiemkaaGreat
open Go.RowKit Go.Shelf Mem

structure Shape (es : List Ev) (N : Nat) (off : Nat → Nat) : Prop where
  z : off 0 = 0
  e : off N = es.length
  mono : ∀ t, t < N → off t ≤ off (t + 1)
  th : ∀ t i, t < N → off t + i < off (t + 1) → (E es (off t + i)).th = (t : Int)
  loc : ∀ i, i < es.length → 0 ≤ (E es i).loc ∧ (E es i).loc < 3
  kind : ∀ i, i < es.length → 0 ≤ (E es i).kind ∧ (E es i).kind ≤ 5
def thN (es : List Ev) (e : Nat) : Nat := (E es e).th.toNat
/-- What an event's kind says of it. -/
structure KindOk (o : Ev) (d : Bool) (r : Int) : Prop where
  w : o.kind = 1 ∨ o.kind = 2 → d = true
  n : o.kind = 0 ∨ o.kind = 5 → d = false
  c : o.kind = 3 → (d = true ↔ r = o.v)
  k : o.kind = 4 → d = true → r = o.v
structure Hist (es : List Ev) (m : VM) (g : Gh) (cur : Nat → Prop) : Prop where
  xn : ∀ e, g.X e → e < es.length
  w0 : ∀ q, q < 3 → g.wr q = -1 ∧ (m.msg q).word = 0 ∧ (m.msg q).tied = false
  w1 : ∀ q, 3 ≤ q → q < m.msgs.length → ∃ e : Nat, g.wr q = (e : Int) ∧ g.X e ∧ g.dn e = true ∧ wk (E es e) ∧ g.ps e = q ∧ lc es e = g.ml q ∧ (m.msg q).word = wval (E es e) (g.rv e) ∧ (m.msg q).tied = isRd (E es e)
  ps : ∀ e, g.X e → acc (E es e) → g.ps e < m.msgs.length ∧ g.ml (g.ps e) = lc es e
  dp : ∀ e, g.X e → g.dn e = true → acc (E es e) ∧ 3 ≤ g.ps e ∧ g.wr (g.ps e) = (e : Int)
  rd : ∀ e, g.X e → isRd (E es e) = true → ∃ q, q < m.msgs.length ∧ g.ml q = lc es e ∧ g.fr e = g.wr q ∧ g.rv e = (m.msg q).word ∧ (g.dn e = false → g.ps e = q) ∧ (g.dn e = true → g.ix (g.ps e) = g.ix q + 1)
  rT : ∀ e, g.X e → 0 ≤ g.fr e → g.T (g.fr e).toNat < g.T e
  nr : ∀ e, g.X e → isRd (E es e) = false → g.fr e = -2
  K : ∀ e, g.X e → ¬ cur e → KindOk (E es e) (g.dn e) (g.rv e)
def Cov (es : List Ev) (g : Gh) (line : List (List Int)) (v : V3) (S : Nat → Prop) : Prop := ∀ a, S a → acc (E es a) → g.ix (g.ps a) ≤ pv line v (lc es a)
structure VOk (es : List Ev) (m : VM) (g : Gh) (v : V3) (S : Nat → Prop) : Prop where
  b : ∀ l, l < 3 → v.at_ l < (m.msgs.length : Int)
  c : Cov es g m.line v S
structure Views (es : List Ev) (N : Nat) (m : VM) (g : Gh) : Prop where
  vm : ∀ q, q < m.msgs.length → (m.msg q).view.at_ (g.ml q) = (q : Int) ∧ VOk es m g (m.msg q).view (g.ms q)
  vn : ∀ t, t < N → VOk es m g (m.th t).now (g.nw t)
  vg : ∀ t, t < N → VOk es m g (m.th t).gained (g.gn t)
  vv : ∀ t, t < N → VOk es m g (m.th t).given (g.gv t)
  va : VOk es m g m.all g.al
/-- What is ahead of a, and a, is ahead of b. -/
def Pr (g : Gh) (a b : Nat) : Prop := ∀ c, (c = a ∨ g.hs a c) → g.hs b c
structure Sets (es : List Ev) (N : Nat) (g : Gh) : Prop where
  h : ∀ a b, g.hs b a → g.X a ∧ g.X b ∧ g.T a < g.T b
  nX : ∀ t c, t < N → g.nw t c → g.X c
  gX : ∀ t c, t < N → g.gn t c → g.X c
  mX : ∀ q c, g.ms q c → g.X c
  aX : ∀ c, g.al c → g.X c
  vn : ∀ t c, t < N → g.gv t c → g.nw t c
  dc : ∀ a b, g.X b → a < b → (E es a).th = (E es b).th → g.X a
  s1 : ∀ b, g.X b → g.nw (thN es b) b ∧ ∀ c, g.hs b c → g.nw (thN es b) c
  s2 : ∀ a, g.X a → (E es a).kind = 5 → oRel (E es a).ord = true → ∀ c, (c = a ∨ g.hs a c) → g.gv (thN es a) c
  s3 : ∀ e, g.X e → g.dn e = true → ∀ a, isStart es e a → ∀ c, (c = a ∨ g.hs a c) → g.ms (g.ps e) c
  s3c : ∀ e, g.X e → g.dn e = true → isRd (E es e) = true → 0 ≤ g.fr e → ∀ c, g.ms (g.ps (g.fr e).toNat) c → g.ms (g.ps e) c
  fX : ∀ r, g.X r → isRd (E es r) = true → 0 ≤ g.fr r → g.X (g.fr r).toNat ∧ g.dn (g.fr r).toNat = true
  s4 : ∀ r, g.X r → isRd (E es r) = true → 0 ≤ g.fr r → (∀ c, g.ms (g.ps (g.fr r).toNat) c → g.gn (thN es r) c) ∧ (oAcq (E es r).ord = true → ∀ c, g.ms (g.ps (g.fr r).toNat) c → g.hs r c)
  s4b : ∀ r b, g.X r → g.X b → isRd (E es r) = true → 0 ≤ g.fr r → r < b → (E es b).th = (E es r).th → (E es b).kind = 5 → oAcq (E es b).ord = true → ∀ c, g.ms (g.ps (g.fr r).toNat) c → g.hs b c
  fe : ∀ x ∈ g.fen, ∃ e : Nat, x = (e : Int) ∧ g.X e ∧ isStrong (E es e) = true ∧ ∀ c, (c = e ∨ g.hs e c) → g.al c
  fm : ∀ e, g.X e → isStrong (E es e) = true → (e : Int) ∈ g.fen
  fp : g.fen.Pairwise (fun x y => Pr g x.toNat y.toNat)
  po : ∀ b, g.X (b + 1) → (E es (b + 1)).th = (E es b).th → g.X b ∧ Pr g b (b + 1)
  co : ∀ a b, g.hs b a → acc (E es a) → acc (E es b) → lc es a = lc es b → g.ix (g.ps a) ≤ g.ix (g.ps b) ∧ (g.dn b = true → g.ix (g.ps a) < g.ix (g.ps b))
def rdTo (es : List Ev) (rv : Nat → Int) (o : Nat) : Nat → List Int
  | 0 => []
  | k + 1 => if isRd (E es (o + k)) then rdTo es rv o k ++ [rv (o + k)] else rdTo es rv o k
def sumN (f : Nat → Nat) : Nat → Nat
  | 0 => 0
  | k + 1 => sumN f k + f k
structure Thrs (es : List Ev) (N : Nat) (off : Nat → Nat) (m : VM) (g : Gh) : Prop where
  len : m.thr.length = N
  nx : ∀ t, t < N → off t + (m.th t).next ≤ off (t + 1)
  x : ∀ t i, t < N → off t + i < off (t + 1) → (g.X (off t + i) ↔ i < (m.th t).next)
  rd : ∀ t, t < N → (m.th t).read = rdTo es g.rv (off t) (m.th t).next
  T : ∀ e, g.X e → g.T e < g.ck
  ck : g.ck = sumN (fun t => (m.th t).next) N
/-- A new event. -/
def newEv (g : Gh) (t e : Nat) (f r : Int) (p : Nat) (H G V A : Nat → Prop) (F : List Int) : Gh :=
  { g with fr := upd g.fr e f, rv := upd g.rv e r, ps := upd g.ps e p, dn := upd g.dn e false, T := upd g.T e g.ck, ck := g.ck + 1, fen := F, hs := upd g.hs e H, nw := upd g.nw t (fun c => H c ∨ c = e), gn := upd g.gn t G, gv := upd g.gv t V, al := A, X := fun c => g.X c ∨ c = e }
structure NewOk (es : List Ev) (N : Nat) (g : Gh) (t e : Nat) (f : Int) (p : Nat) (H G V A : Nat → Prop) (F : List Int) : Prop where
  tN : t < N
  ne : ¬ g.X e
  th : (E es e).th = (t : Int)
  dc : ∀ a, a < e → (E es a).th = (E es e).th → g.X a
  up : ∀ b, e < b → (E es b).th = (E es e).th → ¬ g.X b
  T : ∀ a, g.X a → g.T a < g.ck
  H1 : ∀ c, g.nw t c → H c
  HX : ∀ c, H c → g.X c
  G1 : ∀ c, g.gn t c → G c
  GX : ∀ c, G c → g.X c ∨ c = e
  VH : ∀ c, V c → H c ∨ c = e
  V1 : ∀ c, g.gv t c → V c
  A1 : ∀ c, g.al c → A c
  AX : ∀ c, A c → g.X c ∨ c = e
  rel : (E es e).kind = 5 → oRel (E es e).ord = true → ∀ c, (c = e ∨ H c) → V c
  rd : isRd (E es e) = true → 0 ≤ f → g.X f.toNat ∧ g.dn f.toNat = true ∧ (∀ c, g.ms (g.ps f.toNat) c → G c) ∧ (oAcq (E es e).ord = true → ∀ c, g.ms (g.ps f.toNat) c → H c)
  acq : (E es e).kind = 5 → oAcq (E es e).ord = true → ∀ c, g.gn t c → H c
  str : isStrong (E es e) = true → F = g.fen ++ [(e : Int)] ∧ (∀ c, g.al c → H c) ∧ ∀ c, (c = e ∨ H c) → A c
  nst : isStrong (E es e) = false → F = g.fen
  co : acc (E es e) → ∀ a, H a → acc (E es a) → lc es a = lc es e → g.ix (g.ps a) ≤ g.ix p
section
variable {es : List Ev} {N : Nat} {g : Gh} {t e : Nat} {f r : Int} {p : Nat} {H G V A : Nat → Prop} {F : List Int}
theorem newEv_fr (b : Nat) : (newEv g t e f r p H G V A F).fr b = if b = e then f else g.fr b := rfl
theorem newEv_dn (b : Nat) : (newEv g t e f r p H G V A F).dn b = if b = e then false else g.dn b := rfl
theorem newEv_ps (b : Nat) : (newEv g t e f r p H G V A F).ps b = if b = e then p else g.ps b := rfl
theorem newEv_T (b : Nat) : (newEv g t e f r p H G V A F).T b = if b = e then g.ck else g.T b := rfl
theorem newEv_hs (b : Nat) : (newEv g t e f r p H G V A F).hs b = if b = e then H else g.hs b := rfl
theorem newEv_nw (b : Nat) : (newEv g t e f r p H G V A F).nw b = if b = t then (fun c => H c ∨ c = e) else g.nw b := rfl
theorem newEv_gn (b : Nat) : (newEv g t e f r p H G V A F).gn b = if b = t then G else g.gn b := rfl
theorem newEv_gv (b : Nat) : (newEv g t e f r p H G V A F).gv b = if b = t then V else g.gv b := rfl
theorem newEv_nw_mono (hk : NewOk es N g t e f p H G V A F) {b c : Nat} (h : g.nw b c) : (newEv g t e f r p H G V A F).nw b c := by
  rw [newEv_nw]; split
  · rename_i hb; subst hb; exact .inl (hk.H1 c h)
  · exact h
theorem newEv_gn_mono (hk : NewOk es N g t e f p H G V A F) {b c : Nat} (h : g.gn b c) : (newEv g t e f r p H G V A F).gn b c := by
  rw [newEv_gn]; split
  · rename_i hb; subst hb; exact hk.G1 c h
  · exact h
theorem newEv_gv_mono (hk : NewOk es N g t e f p H G V A F) {b c : Nat} (h : g.gv b c) : (newEv g t e f r p H G V A F).gv b c := by
  rw [newEv_gv]; split
  · rename_i hb; subst hb; exact hk.V1 c h
  · exact h
theorem newEv_pr (hk : NewOk es N g t e f p H G V A F) (hs : Sets es N g) {a b : Nat} (ha : a ≠ e) (hb : b ≠ e) (h : Pr g a b) : Pr (newEv g t e f r p H G V A F) a b := by
  unfold Pr
  rw [newEv_hs, newEv_hs, if_neg ha, if_neg hb]; exact h
theorem Sets.new (hs : Sets es N g) (hk : NewOk es N g t e f p H G V A F) : Sets es N (newEv g t e f r p H G V A F) := by
  have hX : ∀ {b}, g.X b → b ≠ e := fun {b} hb he => hk.ne (he ▸ hb)
  have hte : thN es e = t := by unfold thN; rw [hk.th]; rfl
  refine { h := ?_, nX := ?_, gX := ?_, mX := ?_, aX := ?_, vn := ?_, dc := ?_, s1 := ?_, s2 := ?_, s3 := ?_, s3c := ?_, fX := ?_, s4 := ?_, s4b := ?_, fe := ?_, fm := ?_, fp := ?_, po := ?_, co := ?_ }
  · intro a b h
    rw [newEv_hs] at h
    rw [newEv_T, newEv_T]
    split at h
    · rename_i hb
      subst hb
      have ha := hk.HX a h
      rw [if_neg (hX ha), if_pos rfl]
      exact ⟨.inl ha, .inr rfl, hk.T a ha⟩
    · rename_i hb
      obtain ⟨h1, h2, h3⟩ := hs.h a b h
      rw [if_neg (hX h1), if_neg hb]
      exact ⟨.inl h1, .inl h2, h3⟩
  · intro t' c ht h
    rw [newEv_nw] at h
    split at h
    · rcases h with h | h
      · exact .inl (hk.HX c h)
      · exact .inr h
    · exact .inl (hs.nX t' c ht h)
  · intro t' c ht h
    rw [newEv_gn] at h
    split at h
    · exact hk.GX c h
    · exact .inl (hs.gX t' c ht h)
  · exact fun q c h => .inl (hs.mX q c h)
  · exact fun c h => hk.AX c h
  · intro t' c ht h
    rw [newEv_gv] at h
    rw [newEv_nw]
    split at h
    · rename_i hb; rw [if_pos hb]; exact hk.VH c h
    · rename_i hb; rw [if_neg hb]; exact hs.vn t' c ht h
  · intro a b hb hab hth
    rcases hb with hb | hb
    · exact .inl (hs.dc a b hb hab hth)
    · subst hb; exact .inl (hk.dc a hab hth)
  · intro b hb
    rcases hb with hb | hb
    · obtain ⟨h1, h2⟩ := hs.s1 b hb
      refine ⟨newEv_nw_mono hk h1, fun c hc => newEv_nw_mono hk (h2 c ?_)⟩
      rwa [newEv_hs, if_neg (hX hb)] at hc
    · subst hb
      rw [newEv_nw, newEv_hs, hte, if_pos rfl, if_pos rfl]
      exact ⟨.inr rfl, fun c hc => .inl hc⟩
  · intro a ha h5 hr c hc
    rcases ha with ha | ha
    · refine newEv_gv_mono hk (hs.s2 a ha h5 hr c ?_)
      rwa [newEv_hs, if_neg (hX ha)] at hc
    · subst ha
      rw [newEv_hs, if_pos rfl] at hc
      rw [newEv_gv, hte, if_pos rfl]
      exact hk.rel h5 hr c hc
  · intro b hb hd a hst c hc
    rw [newEv_dn] at hd
    split at hd
    · cases hd
    · rename_i hbe
      have hb' : g.X b := hb.resolve_right hbe
      rw [newEv_ps, if_neg hbe]
      refine hs.s3 b hb' hd a hst c ?_
      rw [newEv_hs, if_neg] at hc
      · exact hc
      · rcases hst with ⟨rfl, _⟩ | ⟨h1, h2, _⟩
        · exact hbe
        · exact hX (hs.dc a b hb' h1 h2)
  · intro b hb hd hr hf c hc
    rw [newEv_dn] at hd
    split at hd
    · cases hd
    · rename_i hbe
      have hb' : g.X b := hb.resolve_right hbe
      rw [newEv_fr, if_neg hbe] at hf hc
      rw [newEv_ps, if_neg hbe]
      have := (hs.fX b hb' hr hf).1
      rw [newEv_ps, if_neg (hX this)] at hc
      exact hs.s3c b hb' hd hr hf c hc
  · intro b hb hr hf
    rw [newEv_fr] at hf ⊢
    rw [newEv_dn]
    split at hf
    · rename_i hbe
      subst hbe
      obtain ⟨h1, h2, _⟩ := hk.rd hr hf
      rw [if_pos rfl, if_neg (hX h1)]
      exact ⟨.inl h1, h2⟩
    · rename_i hbe
      have hb' : g.X b := hb.resolve_right hbe
      obtain ⟨h1, h2⟩ := hs.fX b hb' hr hf
      rw [if_neg hbe, if_neg (hX h1)]
      exact ⟨.inl h1, h2⟩
  · intro b hb hr hf
    rw [newEv_fr] at hf ⊢
    rw [newEv_hs]
    split at hf
    · rename_i hbe
      subst hbe
      obtain ⟨h1, h2, h3, h4⟩ := hk.rd hr hf
      rw [if_pos rfl, newEv_ps, if_neg (hX h1), newEv_gn, hte, if_pos rfl, if_pos rfl]
      exact ⟨h3, h4⟩
    · rename_i hbe
      have hb' : g.X b := hb.resolve_right hbe
      have h1 := (hs.fX b hb' hr hf).1
      rw [if_neg hbe, newEv_ps, if_neg (hX h1), if_neg hbe]
      obtain ⟨h3, h4⟩ := hs.s4 b hb' hr hf
      exact ⟨fun c hc => newEv_gn_mono hk (h3 c hc), h4⟩
  · intro a b ha hb hr hf hab hth h5 hacq c hc
    rcases hb with hb | hb
    · have ha' : g.X a := hs.dc a b hb hab hth.symm
      rw [newEv_fr, if_neg (hX ha')] at hf hc
      have h1 := (hs.fX a ha' hr hf).1
      rw [newEv_ps, if_neg (hX h1)] at hc
      rw [newEv_hs, if_neg (hX hb)]
      exact hs.s4b a b ha' hb hr hf hab hth h5 hacq c hc
    · subst hb
      have ha' : g.X a := hk.dc a hab hth.symm
      rw [newEv_fr, if_neg (hX ha')] at hf hc
      have h1 := (hs.fX a ha' hr hf).1
      rw [newEv_ps, if_neg (hX h1)] at hc
      rw [newEv_hs, if_pos rfl]
      have h3 := (hs.s4 a ha' hr hf).1 c hc
      have : thN es a = t := by unfold thN; rw [← hth, hk.th]; rfl
      rw [this] at h3
      exact hk.acq h5 hacq c h3
  · intro x hx
    have old : ∀ y ∈ g.fen, ∃ e' : Nat, y = (e' : Int) ∧ (newEv g t e f r p H G V A F).X e' ∧ isStrong (E es e') = true ∧ ∀ c, (c = e' ∨ (newEv g t e f r p H G V A F).hs e' c) → A c := fun y hy => by
      obtain ⟨b, h1, h2, h3, h4⟩ := hs.fe y hy
      refine ⟨b, h1, .inl h2, h3, fun c hc => hk.A1 c (h4 c ?_)⟩
      rwa [newEv_hs, if_neg (hX h2)] at hc
    cases hst : isStrong (E es e) with
    | false => exact old x (by rw [← hk.nst hst]; exact hx)
    | true =>
      obtain ⟨h1, h2, h3⟩ := hk.str hst
      have hx' : x ∈ g.fen ++ [(e : Int)] := by rw [← h1]; exact hx
      rcases List.mem_append.1 hx' with hx' | hx'
      · exact old x hx'
      · refine ⟨e, List.mem_singleton.1 hx', .inr rfl, hst, fun c hc => h3 c ?_⟩
        rwa [newEv_hs, if_pos rfl] at hc
  · intro b hb hst
    show (b : Int) ∈ F
    rcases hb with hb | hb
    · have := hs.fm b hb hst
      cases hst2 : isStrong (E es e) with
      | false => rw [hk.nst hst2]; exact this
      | true => rw [(hk.str hst2).1]; exact List.mem_append_left _ this
    · subst hb
      rw [(hk.str hst).1]; simp
  · have old : g.fen.Pairwise (fun x y => Pr (newEv g t e f r p H G V A F) x.toNat y.toNat) := by
      refine List.Pairwise.imp_of_mem ?_ hs.fp
      intro x y hx hy h
      obtain ⟨a, rfl, h1, _⟩ := hs.fe x hx
      obtain ⟨b, rfl, h2, _⟩ := hs.fe y hy
      exact newEv_pr hk hs (by rw [Int.toNat_natCast]; exact hX h1) (by rw [Int.toNat_natCast]; exact hX h2) h
    show F.Pairwise _
    cases hst : isStrong (E es e) with
    | false => rw [hk.nst hst]; exact old
    | true =>
      obtain ⟨h1, h2, h3⟩ := hk.str hst
      rw [h1, List.pairwise_append]
      refine ⟨old, List.pairwise_singleton _ _, fun x hx y hy => ?_⟩
      rw [List.mem_singleton.1 hy]
      obtain ⟨b, rfl, h4, _, h6⟩ := hs.fe x hx
      simp only [Int.toNat_natCast]
      intro c hc
      rw [newEv_hs, if_neg (hX h4)] at hc
      rw [newEv_hs, if_pos rfl]
      exact h2 c (h6 c hc)
  · intro b hb hth
    rcases hb with hb | hb
    · obtain ⟨h1, h2⟩ := hs.po b hb hth
      exact ⟨.inl h1, newEv_pr hk hs (hX h1) (hX hb) h2⟩
    · have hb' : g.X b := hk.dc b (by omega) (by rw [← hb]; exact hth.symm)
      refine ⟨.inl hb', fun c hc => ?_⟩
      rw [newEv_hs, if_neg (hX hb')] at hc
      rw [newEv_hs, if_pos hb]
      obtain ⟨h1, h2⟩ := hs.s1 b hb'
      have : thN es b = t := by unfold thN; rw [← hth, hb, hk.th]; rfl
      rw [this] at h1 h2
      rcases hc with hc | hc
      · subst hc; exact hk.H1 _ h1
      · exact hk.H1 _ (h2 c hc)
  · intro a b h ha hb hl
    rw [newEv_hs] at h
    show g.ix _ ≤ g.ix _ ∧ (_ → g.ix _ < g.ix _)
    rw [newEv_ps, newEv_ps, newEv_dn]
    split at h
    · rename_i hbe
      subst hbe
      rw [if_neg (hX (hk.HX a h)), if_pos rfl, if_pos rfl]
      exact ⟨hk.co hb a h ha hl, fun h => by cases h⟩
    · rename_i hbe
      rw [if_neg (hX (hs.h a b h).1), if_neg hbe, if_neg hbe]
      exact hs.co a b h ha hb hl
end
end Go.Proofs.YtkddckfgdiemkaaGreat
/-
  Plain: a new event: what was kept, the views, the threads.
-/
set_option linter.unusedVariables false
set_option linter.unusedSimpArgs false
namespace Go.Proofs.YtkddckfgdiemkaaGreat
open Go.RowKit Go.Shelf Mem

section
variable {es : List Ev} {N : Nat} {off : Nat → Nat} {m : VM} {g : Gh} {t e : Nat} {f r : Int} {p : Nat} {H G V A : Nat → Prop} {F : List Int}
theorem Shape.lc3 (hp : Shape es N off) (a : Nat) : lc es a < 3 := by
  unfold lc
  by_cases h : a < es.length
  · have := hp.loc a h
    unfold E at this; omega
  · unfold ev
    rw [List.getD, List.getElem?_eq_none (by omega)]
    decide
theorem Shape.locate (hp : Shape es N off) {a : Nat} (h : a < es.length) : ∃ t, t < N ∧ off t ≤ a ∧ a < off (t + 1) := by
  have key : ∀ n, n ≤ N → a < off n → ∃ t, t < n ∧ off t ≤ a ∧ a < off (t + 1) := fun n => by
    induction n with
    | zero => intro _ h; rw [hp.z] at h; omega
    | succ n ih =>
      intro hn h
      by_cases h1 : a < off n
      · obtain ⟨t, h2, h3⟩ := ih (by omega) h1
        exact ⟨t, by omega, h3⟩
      · exact ⟨n, by omega, by omega, h⟩
  rw [← hp.e] at h
  exact key N (Nat.le_refl _) h
theorem Shape.at_ (hp : Shape es N off) {a : Nat} (h : a < es.length) (ht : t < N) (hth : (E es a).th = (t : Int)) : ∃ i, a = off t + i ∧ off t + i < off (t + 1) := by
  obtain ⟨t', h1, h2, h3⟩ := hp.locate h
  have h4 := hp.th t' (a - off t') h1 (by omega)
  rw [show off t' + (a - off t') = a by omega, hth] at h4
  have : t = t' := by omega
  subst this
  exact ⟨a - off t, by omega, by omega⟩
theorem acc_isRd {o : Ev} (h : isRd o = true) : acc o := by
  unfold acc; intro h5; simp [isRd, h5] at h
theorem wk_acc {o : Ev} (h : wk o) : acc o := by
  unfold acc; intro h5; rcases h with h | h | h | h <;> rw [h5] at h <;> exact absurd h (by decide)
/-- Of a new event, what is asked for what was kept. -/
structure NewH (es : List Ev) (m : VM) (g : Gh) (e : Nat) (f r : Int) (p : Nat) : Prop where
  l : e < es.length
  ps : acc (E es e) → p < m.msgs.length ∧ g.ml p = lc es e
  rd : isRd (E es e) = true → f = g.wr p ∧ r = (m.msg p).word
  nr : isRd (E es e) = false → f = -2
theorem Hist.new (hh : Hist es m g (fun _ => False)) (hs : Sets es N g) (hk : NewOk es N g t e f p H G V A F) (hn : NewH es m g e f r p) (th : Thr) (al : V3) :
    Hist es { m with thr := m.thr.set t th, all := al } (newEv g t e f r p H G V A F) (fun b => b = e) := by
  have hX : ∀ {b}, g.X b → b ≠ e := fun {b} hb he => hk.ne (he ▸ hb)
  have hfX : ∀ {b}, g.X b → 0 ≤ g.fr b → (g.fr b).toNat ≠ e := fun {b} hb hf => by
    cases hr : isRd (E es b) with
    | true => exact hX (hs.fX b hb hr hf).1
    | false => rw [hh.nr b hb hr] at hf; omega
  refine { xn := ?_, w0 := hh.w0, w1 := ?_, ps := ?_, dp := ?_, rd := ?_, rT := ?_, nr := ?_, K := ?_ }
  · intro b hb
    rcases hb with hb | hb
    · exact hh.xn b hb
    · rw [hb]; exact hn.l
  · intro q h3 hq
    obtain ⟨b, h1, h2, h4, h5, h6, h7, h8, h9⟩ := hh.w1 q h3 hq
    refine ⟨b, h1, .inl h2, ?_, h5, ?_, h7, ?_, h9⟩
    · rw [newEv_dn, if_neg (hX h2)]; exact h4
    · rw [newEv_ps, if_neg (hX h2)]; exact h6
    · show (m.msg q).word = wval (E es b) (upd g.rv e r b)
      rw [upd_ne _ _ (hX h2)]; exact h8
  · intro b hb ha
    rw [newEv_ps]
    split
    · rename_i he; subst he; exact hn.ps ha
    · rename_i he; exact hh.ps b (hb.resolve_right he) ha
  · intro b hb hd
    rw [newEv_dn] at hd
    split at hd
    · cases hd
    · rename_i he
      rw [newEv_ps, if_neg he]
      exact hh.dp b (hb.resolve_right he) hd
  · intro b hb hr
    rw [newEv_fr, newEv_dn, newEv_ps]
    by_cases he : b = e
    · subst he
      obtain ⟨h1, h2⟩ := hn.ps (acc_isRd hr)
      obtain ⟨h3, h4⟩ := hn.rd hr
      rw [if_pos rfl, if_pos rfl, if_pos rfl]
      refine ⟨p, h1, h2, h3, ?_, fun _ => rfl, fun h => by cases h⟩
      show upd g.rv b r b = _
      rw [upd_same]; exact h4
    · rw [if_neg he, if_neg he, if_neg he]
      obtain ⟨q, h1, h2, h3, h4, h5, h6⟩ := hh.rd b (hb.resolve_right he) hr
      refine ⟨q, h1, h2, h3, ?_, h5, h6⟩
      show upd g.rv e r b = _
      rw [upd_ne _ _ he]; exact h4
  · intro b hb hf
    rw [newEv_fr] at hf ⊢
    rw [newEv_T, newEv_T]
    by_cases he : b = e
    · subst he
      rw [if_pos rfl] at hf ⊢
      cases hr : isRd (E es b) with
      | false => rw [hn.nr hr] at hf; omega
      | true =>
        have h1 := (hk.rd hr hf).1
        rw [if_neg (hX h1), if_pos rfl]
        exact hk.T _ h1
    · rw [if_neg he] at hf ⊢
      rw [if_neg (hfX (hb.resolve_right he) hf), if_neg he]
      exact hh.rT b (hb.resolve_right he) hf
  · intro b hb hr
    rw [newEv_fr]
    split
    · rename_i he; subst he; exact hn.nr hr
    · rename_i he; exact hh.nr b (hb.resolve_right he) hr
  · intro b hb he
    rw [newEv_dn, if_neg he]
    show KindOk _ _ (upd g.rv e r b)
    rw [upd_ne _ _ he]
    exact hh.K b (hb.resolve_right he) id
theorem Cov.new {line : List (List Int)} {v : V3} {S S' : Nat → Prop} (h : Cov es g line v S) (hS : ∀ c, S' c → (S c ∧ c ≠ e) ∨ c = e) (he : acc (E es e) → S' e → g.ix p ≤ pv line v (lc es e)) : Cov es (newEv g t e f r p H G V A F) line v S' := by
  intro a ha hac
  show g.ix _ ≤ _
  rw [newEv_ps]
  by_cases hae : a = e
  · subst hae; rw [if_pos rfl]; exact he hac ha
  · rw [if_neg hae]
    exact h a ((hS a ha).resolve_right hae).1 hac
theorem VOk.new {th : Thr} {al : V3} {v : V3} {S S' : Nat → Prop} (h : VOk es m g v S) (hS : ∀ c, S' c → (S c ∧ c ≠ e) ∨ c = e) (he : acc (E es e) → S' e → g.ix p ≤ pv m.line v (lc es e)) : VOk es { m with thr := m.thr.set t th, all := al } (newEv g t e f r p H G V A F) v S' :=
  ⟨h.b, h.c.new hS he⟩
theorem VOk.join (hp : Shape es N off) (hl : Lines m g.ml g.ix) {u v : V3} {S S' : Nat → Prop} (hu : VOk es m g u S) (hv : VOk es m g v S') : VOk es m g (joinV m.line u v) (fun c => S c ∨ S' c) := by
  refine ⟨fun l h3 => ?_, fun a ha hac => ?_⟩
  · rw [joinV_at _ _ _ h3]
    unfold join1
    split
    · exact hv.b l h3
    · exact hu.b l h3
  · rw [hl.join u v (hp.lc3 a)]
    rcases ha with ha | ha
    · have := hu.c a ha hac; omega
    · have := hv.c a ha hac; omega
theorem VOk.sub {v : V3} {S S' : Nat → Prop} (h : VOk es m g v S) (hS : ∀ c, S' c → S c) : VOk es m g v S' := ⟨h.b, fun a ha => h.c a (hS a ha)⟩
theorem th_set {t t' : Nat} {th : Thr} (ht : t < m.thr.length) : ({ m with thr := m.thr.set t th } : VM).th t' = if t' = t then th else m.th t' := by
  unfold VM.th
  rw [getD_set]
  by_cases h : t = t'
  · subst h; rw [if_pos ⟨rfl, ht⟩, if_pos rfl]
  · rw [if_neg (fun hh => h hh.1), if_neg (fun hh => h hh.symm)]
theorem Views.new (hv : Views es N m g) (hs : Sets es N g) (hlen : m.thr.length = N) (hk : NewOk es N g t e f p H G V A F) {th : Thr} {al : V3}
    (h1 : VOk es { m with thr := m.thr.set t th, all := al } (newEv g t e f r p H G V A F) th.now (fun c => H c ∨ c = e))
    (h2 : VOk es { m with thr := m.thr.set t th, all := al } (newEv g t e f r p H G V A F) th.gained G)
    (h3 : VOk es { m with thr := m.thr.set t th, all := al } (newEv g t e f r p H G V A F) th.given V)
    (h4 : VOk es { m with thr := m.thr.set t th, all := al } (newEv g t e f r p H G V A F) al A) :
    Views es N { m with thr := m.thr.set t th, all := al } (newEv g t e f r p H G V A F) := by
  have hX : ∀ {b}, g.X b → b ≠ e := fun {b} hb he => hk.ne (he ▸ hb)
  have keep : ∀ {v : V3} {S : Nat → Prop}, (∀ c, S c → g.X c) → VOk es m g v S → VOk es { m with thr := m.thr.set t th, all := al } (newEv g t e f r p H G V A F) v S := fun {v S} hS h =>
    h.new (fun c hc => .inl ⟨hc, hX (hS c hc)⟩) (fun _ he => absurd rfl (hX (hS e he)))
  have hth : ∀ t', ({ m with thr := m.thr.set t th, all := al } : VM).th t' = if t' = t then th else m.th t' := fun t' => th_set (m := m) (by rw [hlen]; exact hk.tN)
  refine { vm := fun q hq => ⟨(hv.vm q hq).1, keep (hs.mX q) (hv.vm q hq).2⟩, vn := ?_, vg := ?_, vv := ?_, va := h4 }
  · intro t' ht
    rw [hth, newEv_nw]
    split
    · exact h1
    · exact keep (hs.nX t' · ht) (hv.vn t' ht)
  · intro t' ht
    rw [hth, newEv_gn]
    split
    · exact h2
    · exact keep (hs.gX t' · ht) (hv.vg t' ht)
  · intro t' ht
    rw [hth, newEv_gv]
    split
    · exact h3
    · exact keep (fun c hc => hs.nX t' c ht (hs.vn t' c ht hc)) (hv.vv t' ht)
theorem rdTo_congr {rv rv' : Nat → Int} {o : Nat} : ∀ k, (∀ i, i < k → rv (o + i) = rv' (o + i)) → rdTo es rv o k = rdTo es rv' o k
  | 0, _ => rfl
  | k + 1, h => by rw [rdTo, rdTo, rdTo_congr k (fun i hi => h i (by omega)), h k (by omega)]
theorem sumN_congr {f g : Nat → Nat} : ∀ N, (∀ i, i < N → f i = g i) → sumN f N = sumN g N
  | 0, _ => rfl
  | N + 1, h => by rw [sumN, sumN, sumN_congr N (fun i hi => h i (by omega)), h N (by omega)]
theorem sumN_up {f g : Nat → Nat} {t : Nat} : ∀ N, t < N → (∀ i, i < N → i ≠ t → f i = g i) → g t = f t + 1 → sumN g N = sumN f N + 1
  | 0, h, _, _ => by omega
  | N + 1, h, h1, h2 => by
    rw [sumN, sumN]
    by_cases ht : t = N
    · subst ht
      rw [sumN_congr (f := g) (g := f) t (fun i hi => (h1 i (by omega) (by omega)).symm), h2]; omega
    · rw [sumN_up N (by omega) (fun i hi => h1 i (by omega)) h2, h1 N (by omega) (by omega)]; omega
theorem Thrs.new (hp : Shape es N off) (ht : Thrs es N off m g) (hk : NewOk es N g t e f p H G V A F) (he : e = off t + (m.th t).next) (hlt : e < off (t + 1)) {th : Thr} {al : V3}
    (hnx : th.next = (m.th t).next + 1) (hrd : th.read = if isRd (E es e) then (m.th t).read ++ [r] else (m.th t).read) :
    Thrs es N off { m with thr := m.thr.set t th, all := al } (newEv g t e f r p H G V A F) := by
  have hth : ∀ t', ({ m with thr := m.thr.set t th, all := al } : VM).th t' = if t' = t then th else m.th t' := fun t' => th_set (m := m) (by rw [ht.len]; exact hk.tN)
  have hne : ∀ t' i, t' < N → off t' + i < off (t' + 1) → t' ≠ t → off t' + i ≠ e := fun t' i h1 h2 h3 h4 => by
    have := hp.th t' i h1 h2
    rw [h4, hk.th] at this
    omega
  have hX : ∀ {b}, g.X b → b ≠ e := fun {b} hb he => hk.ne (he ▸ hb)
  refine { len := by simp [ht.len], nx := ?_, x := ?_, rd := ?_, T := ?_, ck := ?_ }
  · intro t' h
    rw [hth]
    split
    · rename_i hh; subst hh; rw [hnx]; omega
    · exact ht.nx t' h
  · intro t' i h1 h2
    rw [hth]
    show g.X _ ∨ _ ↔ _
    split
    · rename_i hh
      subst hh
      rw [hnx, ht.x t' i h1 h2]; omega
    · rename_i hh
      rw [ht.x t' i h1 h2]
      have := hne t' i h1 h2 hh
      constructor
      · rintro (h | h)
        · exact h
        · exact absurd h this
      · exact .inl
  · intro t' h1
    rw [hth]
    show _ = rdTo es (upd g.rv e r) _ _
    split
    · rename_i hh
      subst hh
      rw [hnx, hrd, rdTo, ← he, upd_same, ht.rd t' h1, rdTo_congr (rv := g.rv) (rv' := upd g.rv e r) _ (fun i hi => (upd_ne _ _ (by omega)).symm)]
    · rename_i hh
      rw [ht.rd t' h1]
      exact rdTo_congr _ (fun i hi => (upd_ne _ _ (hne t' i h1 (by have := ht.nx t' h1; omega) hh)).symm)
  · intro b hb
    rw [newEv_T]
    show _ < g.ck + 1
    split
    · omega
    · rename_i hbe
      have := ht.T b (hb.resolve_right hbe)
      omega
  · show g.ck + 1 = _
    rw [ht.ck]
    refine (sumN_up N hk.tN (fun i hi hne => ?_) ?_).symm
    · rw [hth, if_neg hne]
    · rw [hth, if_pos rfl, hnx]
end
end Go.Proofs.YtkddckfgdiemkaaGreat
/-
  Plain: an event that was there writes a message behind a place.
-/
set_option linter.unusedVariables false
set_option linter.unusedSimpArgs false
namespace Go.Proofs.YtkddckfgdiemkaaGreat
open Go.RowKit Go.Shelf Mem

def sh (k j : Nat) : Nat := if j ≤ k then j else j + 1
theorem insAt_get {l : List Int} {k : Nat} {x : Int} (hk : k ≤ l.length) (j : Nat) : (insAt l k x)[j]? = if j < k then l[j]? else if j = k then some x else l[j - 1]? := by
  unfold insAt
  rw [List.getElem?_append]
  simp only [List.length_take, Nat.min_eq_left hk]
  by_cases h1 : j < k
  · rw [if_pos h1, if_pos h1, List.getElem?_take, if_pos h1]
  · rw [if_neg h1, if_neg h1]
    by_cases h2 : j = k
    · subst h2; simp
    · rw [if_neg h2]
      obtain ⟨i, hi⟩ : ∃ i, j - k = i + 1 := ⟨j - k - 1, by omega⟩
      rw [hi, List.getElem?_cons_succ, List.getElem?_drop]
      congr 1; omega
def wrG (g : Gh) (t e l k n q : Nat) (rel tied : Bool) : Gh :=
  { g with ml := upd g.ml n l, ix := upd (fun j => if g.ml j = l then sh k (g.ix j) else g.ix j) n (k + 1), wr := upd g.wr n (e : Int), ps := upd g.ps e n, dn := upd g.dn e true, ms := upd g.ms n (fun c => (if rel then g.nw t c else g.gv t c) ∨ (tied = true ∧ g.ms q c)) }
section
variable {es : List Ev} {N : Nat} {off : Nat → Nat} {m : VM} {g : Gh} {t e l k q : Nat} {rel tied : Bool}
theorem ln_set {line : List (List Int)} {x : List Int} {l l' : Nat} (hl : l < line.length) : (line.set l x).getD l' [] = if l' = l then x else line.getD l' [] := by
  rw [getD_set]
  by_cases h : l = l'
  · subst h; rw [if_pos ⟨rfl, hl⟩, if_pos rfl]
  · rw [if_neg (fun hh => h hh.1), if_neg (fun hh => h hh.symm)]
/-- What is asked. -/
structure WrOk (es : List Ev) (N : Nat) (m : VM) (g : Gh) (t e l k q : Nat) (tied : Bool) : Prop where
  tN : t < N
  X : g.X e
  th : (E es e).th = (t : Int)
  dn : g.dn e = false
  wk : wk (E es e)
  lc : lc es e = l
  l3 : l < 3
  nw : ∀ t', t' < N → t' ≠ t → ¬ g.nw t' e
  gn : ∀ t', t' < N → t' ≠ t → ¬ g.gn t' e
  gv : ∀ t', t' < N → ¬ g.gv t' e
  ms : ∀ q, ¬ g.ms q e
  al : ¬ g.al e
  hs : ∀ b, ¬ g.hs b e
  kk : k < (m.ln l).length
  fr : bound m l k = false
  qq : q < m.msgs.length ∧ g.ml q = l ∧ g.ix q = k
  ti : tied = isRd (E es e)
  tq : tied = true → g.ps e = q
  ps : g.ix (g.ps e) ≤ k
  pn : pv m.line (m.th t).now l ≤ k
theorem Lines.write (hl : Lines m g.ml g.ix) (hk : WrOk es N m g t e l k q tied) {m' : VM} (h1 : m'.line = lineW m l k) (h2 : m'.msgs.length = m.msgs.length + 1) :
    Lines m' (wrG g t e l k m.msgs.length q rel tied).ml (wrG g t e l k m.msgs.length q rel tied).ix := by
  have hln : ∀ l', m'.ln l' = if l' = l then insAt (m.ln l) (k + 1) (m.msgs.length : Int) else m.ln l' := fun l' => by
    unfold VM.ln
    rw [h1, lineW, ln_set (by rw [hl.n3]; exact hk.l3)]; rfl
  have hkk := hk.kk
  have hm3 := hl.m3
  refine { n3 := by rw [h1, lineW]; simp [hl.n3], m3 := by omega, inn := ?_, of_ := ?_, z := ?_ }
  · intro j hj
    show upd g.ml m.msgs.length l j < 3 ∧ _
    by_cases hjn : j = m.msgs.length
    · subst hjn
      simp only [wrG, upd_same]
      refine ⟨hk.l3, ?_⟩
      rw [hln, if_pos rfl, insAt_get (by omega), if_neg (by omega), if_pos rfl]
    · simp only [wrG, upd_ne _ _ hjn]
      obtain ⟨a1, a2⟩ := hl.inn j (by omega)
      refine ⟨a1, ?_⟩
      rw [hln]
      split
      · rename_i hml
        rw [hml] at a2
        rw [insAt_get (by omega)]
        unfold sh
        by_cases hle : g.ix j ≤ k
        · rw [if_pos hle, if_pos (by omega)]; exact a2
        · rw [if_neg hle, if_neg (by omega), if_neg (by omega)]; exact a2
      · exact a2
  · intro l' j y hl' hj
    rw [hln] at hj
    split at hj
    · rename_i hll
      subst hll
      rw [insAt_get (by omega)] at hj
      split at hj
      · rename_i hjk
        obtain ⟨q', b1, b2, b3, b4⟩ := hl.of_ l' j y hl' hj
        refine ⟨q', b1, by omega, ?_, ?_⟩
        · simp only [wrG]; rw [upd_ne _ _ (by omega)]; exact b3
        · simp only [wrG]; rw [upd_ne _ _ (by omega), if_pos b3, sh, if_pos (by omega)]; exact b4
      · rename_i hjk
        split at hj
        · rename_i hje
          refine ⟨m.msgs.length, (Option.some.inj hj).symm, by omega, ?_, ?_⟩
          · simp only [wrG, upd_same]
          · simp only [wrG, upd_same]; omega
        · rename_i hje
          obtain ⟨q', b1, b2, b3, b4⟩ := hl.of_ l' (j - 1) y hl' hj
          refine ⟨q', b1, by omega, ?_, ?_⟩
          · simp only [wrG]; rw [upd_ne _ _ (by omega)]; exact b3
          · simp only [wrG]; rw [upd_ne _ _ (by omega), if_pos b3, sh, if_neg (by omega)]; omega
    · rename_i hll
      obtain ⟨q', b1, b2, b3, b4⟩ := hl.of_ l' j y hl' hj
      refine ⟨q', b1, by omega, ?_, ?_⟩
      · simp only [wrG]; rw [upd_ne _ _ (by omega)]; exact b3
      · simp only [wrG]; rw [upd_ne _ _ (by omega), if_neg (by rw [b3]; exact hll)]; exact b4
  · intro l' hl'
    obtain ⟨b1, b2⟩ := hl.z l' hl'
    simp only [wrG]
    rw [upd_ne _ _ (by omega), upd_ne _ _ (by omega)]
    refine ⟨b1, ?_⟩
    split
    · rw [b2, sh, if_pos (by omega)]
    · exact b2
theorem wrG_ix {j : Nat} (hj : j ≠ m.msgs.length) : (wrG g t e l k m.msgs.length q rel tied).ix j = if g.ml j = l then sh k (g.ix j) else g.ix j := if_neg hj
theorem wrG_ml {j : Nat} (hj : j ≠ m.msgs.length) : (wrG g t e l k m.msgs.length q rel tied).ml j = g.ml j := if_neg hj
theorem wrG_wr {j : Nat} (hj : j ≠ m.msgs.length) : (wrG g t e l k m.msgs.length q rel tied).wr j = g.wr j := if_neg hj
theorem wrG_ms {j : Nat} (hj : j ≠ m.msgs.length) : (wrG g t e l k m.msgs.length q rel tied).ms j = g.ms j := if_neg hj
theorem wrG_fr : (wrG g t e l k m.msgs.length q rel tied).fr = g.fr := rfl
theorem wrG_ixn : (wrG g t e l k m.msgs.length q rel tied).ix m.msgs.length = k + 1 := if_pos rfl
theorem wrG_mln : (wrG g t e l k m.msgs.length q rel tied).ml m.msgs.length = l := if_pos rfl
theorem wrG_wrn : (wrG g t e l k m.msgs.length q rel tied).wr m.msgs.length = (e : Int) := if_pos rfl
theorem wrG_msn : (wrG g t e l k m.msgs.length q rel tied).ms m.msgs.length = (fun c => (if rel then g.nw t c else g.gv t c) ∨ (tied = true ∧ g.ms q c)) := if_pos rfl
theorem wrG_ps (b : Nat) : (wrG g t e l k m.msgs.length q rel tied).ps b = if b = e then m.msgs.length else g.ps b := rfl
theorem wrG_dn (b : Nat) : (wrG g t e l k m.msgs.length q rel tied).dn b = if b = e then true else g.dn b := rfl
theorem pv_write (hl : Lines m g.ml g.ix) (hk : WrOk es N m g t e l k q tied) {m' : VM} (h1 : m'.line = lineW m l k) (h2 : m'.msgs.length = m.msgs.length + 1) {v : V3} {l' : Nat} (hl' : l' < 3) (hv : v.at_ l' < (m.msgs.length : Int)) :
    pv m'.line v l' = if l' = l then sh k (pv m.line v l') else pv m.line v l' := by
  have HL := hl.write (rel := false) hk h1 h2
  unfold pv
  by_cases hx : ∃ j : Nat, v.at_ l' = (j : Int) ∧ j < m.msgs.length ∧ g.ml j = l'
  · obtain ⟨j, a1, a2, a3⟩ := hx
    have b := HL.place_in (q := j) (by omega)
    have c := hl.place_in (q := j) a2
    rw [wrG_ix (by omega)] at b
    simp only [wrG] at b
    rw [upd_ne _ _ (by omega), a3] at b
    rw [a3] at c
    rw [a1, b, c]
  · have b := HL.place_out hl' (x := v.at_ l') (fun j a1 a2 a3 => by
      simp only [wrG] at a3
      rw [upd_ne _ _ (by omega)] at a3
      exact hx ⟨j, a1, by omega, a3⟩)
    have c := hl.place_out hl' (x := v.at_ l') (fun j a1 a2 a3 => hx ⟨j, a1, a2, a3⟩)
    rw [b, c]
    split
    · simp [sh]
    · rfl
theorem sh_le {k a b : Nat} (h : a ≤ b) : sh k a ≤ sh k b := by unfold sh; split <;> split <;> omega
theorem sh_lt {k a b : Nat} (h : a < b) : sh k a < sh k b := by unfold sh; split <;> split <;> omega
theorem Cov.write (hp : Shape es N off) (hh : Hist es m g (fun b => b = e)) (hl : Lines m g.ml g.ix) (hk : WrOk es N m g t e l k q tied) {m' : VM} (h1 : m'.line = lineW m l k) (h2 : m'.msgs.length = m.msgs.length + 1) {v : V3} {S S' : Nat → Prop}
    (hv : ∀ l, l < 3 → v.at_ l < (m.msgs.length : Int)) (h : Cov es g m.line v S) (hS : ∀ c, S' c → S c ∧ c ≠ e ∧ g.X c) : Cov es (wrG g t e l k m.msgs.length q rel tied) m'.line v S' := by
  intro a ha hac
  obtain ⟨a1, a2, a3⟩ := hS a ha
  obtain ⟨b1, b2⟩ := hh.ps a a3 hac
  rw [pv_write hl hk h1 h2 (hp.lc3 a) (hv _ (hp.lc3 a)), wrG_ps, if_neg a2, wrG_ix (by omega), b2]
  have := h a a1 hac
  split
  · exact sh_le this
  · exact this
theorem Hist.write (hp : Shape es N off) (hh : Hist es m g (fun b => b = e)) (hs : Sets es N g) (hl : Lines m g.ml g.ix) (hk : WrOk es N m g t e l k q tied) {m' : VM} {w : V3}
    (h1 : m'.line = lineW m l k) (h2 : m'.msgs = m.msgs ++ [⟨wval (E es e) (g.rv e), w, tied⟩]) : Hist es m' (wrG g t e l k m.msgs.length q rel tied) (fun b => b = e) := by
  have hm3 := hl.m3
  have hmsg : ∀ j, j < m.msgs.length → m'.msg j = m.msg j := fun j hj => by
    unfold VM.msg; rw [h2, List.getD, List.getD, List.getElem?_append_left hj]
  have hnew : m'.msg m.msgs.length = ⟨wval (E es e) (g.rv e), w, tied⟩ := by
    unfold VM.msg; rw [h2, List.getD, List.getElem?_append_right (Nat.le_refl _)]; simp
  have hlen : m'.msgs.length = m.msgs.length + 1 := by rw [h2]; simp
  have hwml : ∀ j, j < m.msgs.length → (wrG g t e l k m.msgs.length q rel tied).ml j = g.ml j ∧ (wrG g t e l k m.msgs.length q rel tied).wr j = g.wr j := fun j hj => ⟨wrG_ml (by omega), wrG_wr (by omega)⟩
  have hnl : (wrG g t e l k m.msgs.length q rel tied).ml m.msgs.length = l ∧ (wrG g t e l k m.msgs.length q rel tied).wr m.msgs.length = (e : Int) ∧ (wrG g t e l k m.msgs.length q rel tied).ix m.msgs.length = k + 1 := ⟨wrG_mln, wrG_wrn, wrG_ixn⟩
  have hwe : ∀ {b}, g.X b → g.dn b = true → b ≠ e := fun {b} _ hd he => by rw [he, hk.dn] at hd; cases hd
  refine { xn := hh.xn, w0 := ?_, w1 := ?_, ps := ?_, dp := ?_, rd := ?_, rT := hh.rT, nr := hh.nr, K := ?_ }
  · intro j hj
    rw [(hwml j (by omega)).2, hmsg j (by omega)]
    exact hh.w0 j hj
  · intro j h3 hj
    by_cases hjn : j = m.msgs.length
    · subst hjn
      rw [hnl.2.1, hnl.1, hnew]
      refine ⟨e, rfl, hk.X, ?_, hk.wk, ?_, hk.lc, rfl, hk.ti⟩
      · rw [wrG_dn, if_pos rfl]
      · rw [wrG_ps, if_pos rfl]
    · have hj' : j < m.msgs.length := by omega
      obtain ⟨b, a1, a2, a4, a5, a6, a7, a8, a9⟩ := hh.w1 j h3 hj'
      have hbe := hwe a2 a4
      rw [(hwml j hj').1, (hwml j hj').2, hmsg j hj']
      refine ⟨b, a1, a2, ?_, a5, ?_, a7, a8, a9⟩
      · rw [wrG_dn, if_neg hbe]; exact a4
      · rw [wrG_ps, if_neg hbe]; exact a6
  · intro b hb hac
    rw [wrG_ps]
    split
    · rename_i he
      subst he
      rw [hnl.1, hk.lc]; exact ⟨by omega, rfl⟩
    · obtain ⟨a1, a2⟩ := hh.ps b hb hac
      rw [(hwml _ a1).1]; exact ⟨by omega, a2⟩
  · intro b hb hd
    rw [wrG_ps]
    split
    · rename_i he
      subst he
      exact ⟨wk_acc hk.wk, by omega, hnl.2.1⟩
    · rename_i he
      rw [wrG_dn, if_neg he] at hd
      obtain ⟨a1, a2, a3⟩ := hh.dp b hb hd
      rw [(hwml _ (hh.ps b hb a1).1).2]
      exact ⟨a1, a2, a3⟩
  · intro b hb hr
    obtain ⟨j, a1, a2, a3, a4, a5, a6⟩ := hh.rd b hb hr
    refine ⟨j, by omega, ?_, ?_, ?_, ?_, ?_⟩
    · rw [(hwml j a1).1]; exact a2
    · rw [(hwml j a1).2]; exact a3
    · rw [hmsg j a1]; exact a4
    · rw [wrG_dn, wrG_ps]
      split
      · intro h; cases h
      · exact a5
    · rw [wrG_dn, wrG_ps]
      split
      · rename_i he
        subst he
        intro _
        have hjq : j = q := by rw [← a5 hk.dn]; exact hk.tq (by rw [hk.ti]; exact hr)
        rw [hnl.2.2, wrG_ix (by omega), hjq, hk.qq.2.1, if_pos rfl, hk.qq.2.2, sh, if_pos (Nat.le_refl _)]
      · rename_i he
        intro hd
        obtain ⟨c1, c2, c3⟩ := hh.dp b hb hd
        obtain ⟨c4, c5⟩ := hh.ps b hb c1
        have h6 := a6 hd
        rw [wrG_ix (by omega), wrG_ix (by omega), c5, a2]
        split
        · rename_i hbl
          unfold sh
          by_cases hjk : g.ix j = k
          · exfalso
            obtain ⟨b', d1, d2, d3, d4, d5, d6, d7, d8⟩ := hh.w1 _ c2 c4
            have hbb : b' = b := by
              rw [c3] at d1; omega
            subst hbb
            have hln := (hl.inn _ c4).2
            rw [c5, hbl, h6, hjk] at hln
            have hfr := hk.fr
            have hlt := (List.getElem?_eq_some_iff.1 hln).1
            unfold bound at hfr
            rw [List.getD, hln] at hfr
            simp only [Option.getD_some, Int.toNat_natCast, d8, hr, Bool.and_true, decide_eq_false_iff_not] at hfr
            exact hfr hlt
          · split <;> split <;> omega
        · exact h6
  · intro b hb he
    rw [wrG_dn, if_neg he]
    exact hh.K b hb he
theorem Sets.write (hh : Hist es m g (fun b => b = e)) (hs : Sets es N g) (hk : WrOk es N m g t e l k q tied) (hrel : rel = oRel (E es e).ord) : Sets es N (wrG g t e l k m.msgs.length q rel tied) := by
  have hte : thN es e = t := by unfold thN; rw [hk.th]; rfl
  have hwe : ∀ {b}, g.dn b = true → b ≠ e := fun {b} hd he => by rw [he, hk.dn] at hd; cases hd
  have hms : ∀ j, j < m.msgs.length → (wrG g t e l k m.msgs.length q rel tied).ms j = g.ms j := fun j hj => wrG_ms (by omega)
  have hmn : (wrG g t e l k m.msgs.length q rel tied).ms m.msgs.length = (fun c => (if rel then g.nw t c else g.gv t c) ∨ (tied = true ∧ g.ms q c)) := wrG_msn
  have hps : ∀ {b}, g.X b → g.dn b = true → (wrG g t e l k m.msgs.length q rel tied).ms ((wrG g t e l k m.msgs.length q rel tied).ps b) = g.ms (g.ps b) := fun {b} hb hd => by
    rw [wrG_ps, if_neg (hwe hd), hms _ (hh.ps b hb (hh.dp b hb hd).1).1]
  have hfs : ∀ {b}, g.X b → isRd (E es b) = true → 0 ≤ g.fr b → (wrG g t e l k m.msgs.length q rel tied).ms ((wrG g t e l k m.msgs.length q rel tied).ps (g.fr b).toNat) = g.ms (g.ps (g.fr b).toNat) := fun {b} hb hr hf => hps (hs.fX b hb hr hf).1 (hs.fX b hb hr hf).2
  refine { h := hs.h, nX := hs.nX, gX := hs.gX, mX := ?_, aX := hs.aX, vn := hs.vn, dc := hs.dc, s1 := hs.s1, s2 := hs.s2, s3 := ?_, s3c := ?_, fX := ?_, s4 := ?_, s4b := ?_, fe := hs.fe, fm := hs.fm, fp := hs.fp, po := hs.po, co := ?_ }
  · intro j c hc
    show g.X c
    by_cases hj : j = m.msgs.length
    · subst hj
      rw [hmn] at hc
      rcases hc with hc | ⟨_, hc⟩
      · split at hc
        · exact hs.nX t c hk.tN hc
        · exact hs.nX t c hk.tN (hs.vn t c hk.tN hc)
      · exact hs.mX q c hc
    · exact hs.mX j c (by rwa [show (wrG g t e l k m.msgs.length q rel tied).ms j = g.ms j from wrG_ms hj] at hc)
  · intro b hb hd a hst c hc
    rw [wrG_dn] at hd
    by_cases hbe : b = e
    · subst hbe
      rw [wrG_ps, if_pos rfl, hmn]
      refine .inl ?_
      obtain ⟨h1, h2⟩ := hs.s1 b hb
      rw [hte] at h1 h2
      rcases hst with ⟨rfl, hr⟩ | ⟨a1, a2, a3, a4⟩
      · rw [if_pos (by rw [hrel]; exact hr)]
        rcases hc with rfl | hc
        · exact h1
        · exact h2 c hc
      · have ha : g.X a := hs.dc a b hb a1 a2
        have hta : thN es a = t := by unfold thN; rw [show E es a = ev es (a : Int) from rfl, a2, show (ev es (b : Int)) = E es b from rfl, hk.th]; rfl
        split
        · obtain ⟨h3, h4⟩ := hs.s1 a ha
          rw [hta] at h3 h4
          rcases hc with rfl | hc
          · exact h3
          · exact h4 c hc
        · have := hs.s2 a ha a3 a4 c hc
          rwa [hta] at this
    · rw [if_neg hbe] at hd
      rw [hps hb hd]
      exact hs.s3 b hb hd a hst c hc
  · intro b hb hd hr hf c hc
    rw [wrG_fr] at hc
    rw [hfs hb hr hf] at hc
    rw [wrG_dn] at hd
    by_cases hbe : b = e
    · subst hbe
      rw [wrG_ps, if_pos rfl, hmn]
      have hti : tied = true := by rw [hk.ti]; exact hr
      refine .inr ⟨hti, ?_⟩
      obtain ⟨j, a1, a2, a3, a4, a5, a6⟩ := hh.rd b hb hr
      have hjq : j = q := by rw [← a5 hk.dn]; exact hk.tq hti
      have h3 : 3 ≤ q := by
        refine Nat.le_of_not_lt fun h => ?_
        have := (hh.w0 q h).1
        rw [wrG_fr, a3, hjq, this] at hf; omega
      obtain ⟨w, d1, d2, d3, d4, d5, _⟩ := hh.w1 q h3 hk.qq.1
      have hf2 : (g.fr b).toNat = w := by rw [a3, hjq, d1]; omega
      rw [hf2, d5] at hc
      exact hc
    · rw [if_neg hbe] at hd
      rw [hps hb hd]
      exact hs.s3c b hb hd hr hf c hc
  · intro b hb hr hf
    obtain ⟨a1, a2⟩ := hs.fX b hb hr hf
    refine ⟨a1, ?_⟩
    rw [wrG_fr, wrG_dn, if_neg (hwe a2)]; exact a2
  · intro b hb hr hf
    rw [wrG_fr, hfs hb hr hf]
    exact hs.s4 b hb hr hf
  · intro a b ha hb hr hf
    rw [wrG_fr, hfs ha hr hf]
    exact hs.s4b a b ha hb hr hf
  · intro a b h hac hbc hlc
    obtain ⟨h1, h2, _⟩ := hs.h a b h
    have hae : a ≠ e := fun he => hk.hs b (he ▸ h)
    obtain ⟨c1, c2⟩ := hs.co a b h hac hbc hlc
    obtain ⟨d1, d2⟩ := hh.ps a h1 hac
    rw [wrG_ps, wrG_ps, wrG_dn, if_neg hae, wrG_ix (by omega), d2]
    by_cases hbe : b = e
    · subst hbe
      rw [if_pos rfl, if_pos rfl, hlc, hk.lc, if_pos rfl]
      rw [show (wrG g t b l k m.msgs.length q rel tied).ix m.msgs.length = k + 1 from wrG_ixn]
      have := hk.ps
      unfold sh
      rw [if_pos (by omega)]
      exact ⟨by omega, fun _ => by omega⟩
    · obtain ⟨d3, d4⟩ := hh.ps b h2 hbc
      rw [if_neg hbe, if_neg hbe, wrG_ix (by omega), d4, hlc]
      split
      · exact ⟨sh_le c1, fun hd => sh_lt (c2 hd)⟩
      · exact ⟨c1, c2⟩
theorem VOk.writeKeep (hp : Shape es N off) (hh : Hist es m g (fun b => b = e)) (hl : Lines m g.ml g.ix) (hk : WrOk es N m g t e l k q tied) {m' : VM} (h1 : m'.line = lineW m l k) (h2 : m'.msgs.length = m.msgs.length + 1) {v : V3} {S : Nat → Prop}
    (h : VOk es m g v S) (hS : ∀ c, S c → c ≠ e ∧ g.X c) : VOk es m' (wrG g t e l k m.msgs.length q rel tied) v S :=
  ⟨fun l' hl' => by have := h.b l' hl'; omega, Cov.write hp hh hl hk h1 h2 h.b h.c (fun c hc => ⟨hc, hS c hc⟩)⟩
/-- A view to which the new message was put. -/
theorem VOk.writePut (hp : Shape es N off) (hh : Hist es m g (fun b => b = e)) (hl : Lines m g.ml g.ix) (hk : WrOk es N m g t e l k q tied) {m' : VM} (h1 : m'.line = lineW m l k) (h2 : m'.msgs.length = m.msgs.length + 1) {v : V3} {S : Nat → Prop}
    (hb : ∀ l, l < 3 → v.at_ l < (m'.msgs.length : Int)) (hX : ∀ c, S c → g.X c) (hc : ∀ c, S c → c ≠ e → acc (E es c) → if lc es c = l then g.ix (g.ps c) ≤ k else (wrG g t e l k m.msgs.length q rel tied).ix (g.ps c) ≤ pv m'.line v (lc es c)) :
    VOk es m' (wrG g t e l k m.msgs.length q rel tied) (v.put l (m.msgs.length : Int)) S := by
  have HL := hl.write (rel := rel) hk h1 h2
  have hpl : pv m'.line (v.put l (m.msgs.length : Int)) l = k + 1 := by
    have := HL.place_in (q := m.msgs.length) (by omega)
    rw [show (wrG g t e l k m.msgs.length q rel tied).ml m.msgs.length = l from wrG_mln, show (wrG g t e l k m.msgs.length q rel tied).ix m.msgs.length = k + 1 from wrG_ixn] at this
    unfold pv
    rw [V3.at_put _ _ hk.l3 hk.l3, if_pos rfl]; exact this
  refine ⟨fun l' hl' => ?_, fun a ha hac => ?_⟩
  · rw [V3.at_put _ _ hk.l3 hl']
    split
    · omega
    · exact hb l' hl'
  · rw [wrG_ps]
    by_cases hae : a = e
    · subst hae
      rw [if_pos rfl, hk.lc, hpl, show (wrG g t a l k m.msgs.length q rel tied).ix m.msgs.length = k + 1 from wrG_ixn]
      exact Nat.le_refl _
    · rw [if_neg hae]
      have h3 := hc a ha hae hac
      obtain ⟨d1, d2⟩ := hh.ps a (hX a ha) hac
      split at h3
      · rename_i hla
        rw [hla, hpl, wrG_ix (by omega), d2, if_pos hla, sh, if_pos h3]
        omega
      · rename_i hla
        have : pv m'.line (v.put l (m.msgs.length : Int)) (lc es a) = pv m'.line v (lc es a) := by
          unfold pv; rw [V3.at_put _ _ hk.l3 (hp.lc3 a), if_neg hla]
        rw [this]; exact h3
end
end Go.Proofs.YtkddckfgdiemkaaGreat
/-
  Plain: whatever a thread does, what always holds goes on to hold.
-/
set_option linter.unusedVariables false
set_option linter.unusedSimpArgs false
namespace Go.Proofs.YtkddckfgdiemkaaGreat
open Go.RowKit Go.Shelf Mem

structure Inv (es : List Ev) (N : Nat) (off : Nat → Nat) (m : VM) (g : Gh) (cur : Nat → Prop) : Prop where
  lines : Lines m g.ml g.ix
  hist : Hist es m g cur
  views : Views es N m g
  sets : Sets es N g
  thrs : Thrs es N off m g
theorem choicesTo_mem {m : VM} {o : Ev} {s : Nat} {c : Nat × Bool} : ∀ k, c ∈ choicesTo m o s k → ∃ i, i < k ∧ c ∈ choice1 m o (s + i)
  | 0, h => by simp [choicesTo] at h
  | k + 1, h => by
    rw [choicesTo, List.mem_append] at h
    rcases h with h | h
    · obtain ⟨i, h1, h2⟩ := choicesTo_mem k h
      exact ⟨i, by omega, h2⟩
    · exact ⟨k, by omega, h⟩
section
variable {es : List Ev} {N : Nat} {off : Nat → Nat} {m : VM} {g : Gh} {t e : Nat}
/-- The event that comes next. -/
theorem Inv.next (hp : Shape es N off) (hi : Inv es N off m g (fun _ => False)) (ht : t < N) (he : e = off t + (m.th t).next) (hlt : e < off (t + 1)) :
    e < es.length ∧ ¬ g.X e ∧ (E es e).th = (t : Int) ∧ (∀ a, a < e → (E es a).th = (E es e).th → g.X a) ∧ (∀ b, e < b → (E es b).th = (E es e).th → ¬ g.X b) := by
  have hth : (E es e).th = (t : Int) := by rw [he]; exact hp.th t _ ht (by omega)
  have hle : off (t + 1) ≤ es.length := by
    rw [← hp.e]
    have : ∀ k, k ≤ N → t + 1 ≤ k → off (t + 1) ≤ off k := fun k => by
      induction k with
      | zero => intro _ h; omega
      | succ k ih =>
        intro h1 h2
        by_cases h : t + 1 = k + 1
        · rw [h]; exact Nat.le_refl _
        · exact Nat.le_trans (ih (by omega) (by omega)) (hp.mono k (by omega))
    exact this N (Nat.le_refl _) (by omega)
  have hX := hi.thrs.x t
  refine ⟨by omega, ?_, hth, fun a ha hat => ?_, fun b hb hbt hbX => ?_⟩
  · rw [he, hX _ ht (by omega)]; omega
  · obtain ⟨i, h1, h2⟩ := hp.at_ (by omega) ht (hat.trans hth)
    rw [h1, hX i ht h2]; omega
  · obtain ⟨i, h1, h2⟩ := hp.at_ (hi.hist.xn b hbX) ht (hbt.trans hth)
    rw [h1, hX i ht h2] at hbX; omega
/-- A new event of a thread: all together. -/
theorem Inv.new (hp : Shape es N off) (hi : Inv es N off m g (fun _ => False)) (he : e = off t + (m.th t).next) (hlt : e < off (t + 1)) {f r : Int} {p : Nat} {H G V A : Nat → Prop} {F : List Int}
    (hk : NewOk es N g t e f p H G V A F) (hn : NewH es m g e f r p) {th : Thr} {al : V3} (hnx : th.next = (m.th t).next + 1) (hrd : th.read = if isRd (E es e) then (m.th t).read ++ [r] else (m.th t).read)
    (h1 : VOk es m g th.now H ∧ (acc (E es e) → g.ix p ≤ pv m.line th.now (lc es e))) (h2 : VOk es m g th.gained (fun c => G c ∧ c ≠ e) ∧ (acc (E es e) → G e → g.ix p ≤ pv m.line th.gained (lc es e)))
    (h3 : VOk es m g th.given (fun c => V c ∧ c ≠ e) ∧ (acc (E es e) → V e → g.ix p ≤ pv m.line th.given (lc es e))) (h4 : VOk es m g al (fun c => A c ∧ c ≠ e) ∧ (acc (E es e) → A e → g.ix p ≤ pv m.line al (lc es e))) :
    Inv es N off { m with thr := m.thr.set t th, all := al } (newEv g t e f r p H G V A F) (fun b => b = e) := by
  have hX : ∀ {b}, g.X b → b ≠ e := fun {b} hb he => hk.ne (he ▸ hb)
  have em : ∀ {S : Nat → Prop} (c : Nat), S c → ((S c ∧ c ≠ e) ∧ c ≠ e) ∨ c = e := fun {S} c hc => by
    by_cases h : c = e
    · exact .inr h
    · exact .inl ⟨⟨hc, h⟩, h⟩
  refine ⟨⟨hi.lines.n3, hi.lines.m3, hi.lines.inn, hi.lines.of_, hi.lines.z⟩, hi.hist.new hi.sets hk hn th al, hi.views.new hi.sets hi.thrs.len hk ?_ ?_ ?_ ?_, hi.sets.new hk, hi.thrs.new hp hk he hlt hnx hrd⟩
  · exact h1.1.new (fun c hc => hc.elim (fun h => .inl ⟨h, hX (hk.HX c h)⟩) .inr) (fun ha _ => h1.2 ha)
  · exact h2.1.new em h2.2
  · exact h3.1.new em h3.2
  · exact h4.1.new em h4.2
theorem VOk.ite {v : V3} {S S' : Nat → Prop} {u : V3} {b : Bool} (h : VOk es m g v S) (h2 : b = true → VOk es m g u S') : VOk es m g (if b then u else v) (fun c => if b then S' c else S c) := by
  cases b with
  | true => simpa using h2 rfl
  | false => simpa using h
theorem Inv.fence (hp : Shape es N off) (hi : Inv es N off m g (fun _ => False)) (ht : t < N) (he : e = off t + (m.th t).next) (hlt : e < off (t + 1)) (h5 : (E es e).kind = 5) :
    ∃ g', Inv es N off (fencedF (bump m t) t (E es e)) g' (fun _ => False) := by
  obtain ⟨n1, n2, n3, n4, n5⟩ := hi.next hp ht he hlt
  have hs := hi.sets
  have hv := hi.views
  have hX : ∀ {b}, g.X b → b ≠ e := fun {b} hb he => n2 (he ▸ hb)
  have hrd : isRd (E es e) = false := by simp [isRd, h5]
  have hac : ¬ acc (E es e) := fun h => h h5
  have hst : isStrong (E es e) = decide ((E es e).ord = 4) := by simp [isStrong, h5]
  let acq := oAcq (E es e).ord
  let st := decide ((E es e).ord = 4)
  let H : Nat → Prop := fun c => g.nw t c ∨ (acq = true ∧ g.gn t c) ∨ (st = true ∧ g.al c)
  let G : Nat → Prop := fun c => g.gn t c ∨ (st = true ∧ (H c ∨ c = e))
  let V : Nat → Prop := fun c => if oRel (E es e).ord then (H c ∨ c = e) else g.gv t c
  let A : Nat → Prop := fun c => g.al c ∨ (st = true ∧ (H c ∨ c = e))
  let F : List Int := if st then g.fen ++ [(e : Int)] else g.fen
  have hHX : ∀ c, H c → g.X c := fun c hc => by
    rcases hc with hc | ⟨_, hc⟩ | ⟨_, hc⟩
    · exact hs.nX t c ht hc
    · exact hs.gX t c ht hc
    · exact hs.aX c hc
  have hk : NewOk es N g t e (-2) 0 H G V A F :=
    { tN := ht, ne := n2, th := n3, dc := n4, up := n5, T := hi.thrs.T, H1 := fun c h => .inl h, HX := hHX, G1 := fun c h => .inl h
      GX := fun c h => by
        rcases h with h | ⟨_, h | h⟩
        · exact .inl (hs.gX t c ht h)
        · exact .inl (hHX c h)
        · exact .inr h
      VH := fun c h => by
        show H c ∨ c = e
        have h' : if oRel (E es e).ord then (H c ∨ c = e) else g.gv t c := h
        split at h'
        · exact h'
        · exact .inl (.inl (hs.vn t c ht h'))
      V1 := fun c h => by
        show if oRel (E es e).ord then (H c ∨ c = e) else g.gv t c
        split
        · exact .inl (.inl (hs.vn t c ht h))
        · exact h
      A1 := fun c h => .inl h
      AX := fun c h => by
        rcases h with h | ⟨_, h | h⟩
        · exact .inl (hs.aX c h)
        · exact .inl (hHX c h)
        · exact .inr h
      rel := fun _ hr c hc => by
        show if oRel (E es e).ord then (H c ∨ c = e) else g.gv t c
        rw [if_pos hr]; exact hc.symm
      rd := fun h => by rw [hrd] at h; cases h
      acq := fun _ ha c hc => .inr (.inl ⟨ha, hc⟩)
      str := fun h => by
        rw [hst] at h
        have h' : st = true := h
        refine ⟨if_pos h', fun c hc => .inr (.inr ⟨h', hc⟩), fun c hc => .inr ⟨h', hc.symm⟩⟩
      nst := fun h => by
        rw [hst] at h
        have h' : st = false := h
        show (if st then _ else _) = _
        rw [h']; rfl
      co := fun h => absurd h hac }
  have hn : NewH es m g e (-2) 0 0 := ⟨n1, fun h => absurd h hac, fun h => (by rw [hrd] at h; cases h), fun _ => rfl⟩
  let th' : Thr := { fenT m t (E es e) with next := (m.th t).next + 1 }
  have K1 : VOk es m g (if acq then joinV m.line (m.th t).now (m.th t).gained else (m.th t).now) (fun c => g.nw t c ∨ (acq = true ∧ g.gn t c)) := by
    cases hb : acq with
    | true => exact ((hv.vn t ht).join hp hi.lines (hv.vg t ht)).sub (fun c hc => hc.elim .inl (fun h => .inr h.2))
    | false => exact (hv.vn t ht).sub (fun c hc => hc.elim id (fun h => by cases h.1))
  have K2 : VOk es m g th'.now H := by
    show VOk es m g (if (E es e).ord = 4 then joinV m.line _ m.all else _) H
    by_cases hb : (E es e).ord = 4
    · rw [if_pos hb]
      refine (K1.join hp hi.lines hv.va).sub (fun c hc => ?_)
      rcases hc with hc | hc | ⟨_, hc⟩
      · exact .inl (.inl hc)
      · exact .inl (.inr hc)
      · exact .inr hc
    · rw [if_neg hb]
      refine K1.sub (fun c hc => ?_)
      rcases hc with hc | hc | ⟨h, hc⟩
      · exact .inl hc
      · exact .inr hc
      · exact absurd (of_decide_eq_true h) hb
  have K3 : VOk es m g th'.gained (fun c => G c ∧ c ≠ e) := by
    show VOk es m g (if (E es e).ord = 4 then joinV m.line (m.th t).gained th'.now else (m.th t).gained) _
    by_cases hb : (E es e).ord = 4
    · rw [if_pos hb]
      refine ((hv.vg t ht).join hp hi.lines K2).sub (fun c hc => ?_)
      rcases hc.1 with h | ⟨_, h⟩
      · exact .inl h
      · exact .inr (h.resolve_right hc.2)
    · rw [if_neg hb]
      refine (hv.vg t ht).sub (fun c hc => ?_)
      rcases hc.1 with h | ⟨h, _⟩
      · exact h
      · exact absurd (of_decide_eq_true h) hb
  have K4 : VOk es m g th'.given (fun c => V c ∧ c ≠ e) := by
    show VOk es m g (if oRel (E es e).ord then th'.now else (m.th t).given) _
    by_cases hb : oRel (E es e).ord = true
    · rw [if_pos hb]
      refine K2.sub (fun c hc => ?_)
      have h' : if oRel (E es e).ord then (H c ∨ c = e) else g.gv t c := hc.1
      rw [if_pos hb] at h'
      exact h'.resolve_right hc.2
    · rw [if_neg hb]
      refine (hv.vv t ht).sub (fun c hc => ?_)
      have h' : if oRel (E es e).ord then (H c ∨ c = e) else g.gv t c := hc.1
      rwa [if_neg hb] at h'
  let al' : V3 := if (E es e).ord = 4 then th'.now else m.all
  have K5 : VOk es m g al' (fun c => A c ∧ c ≠ e) := by
    show VOk es m g (if (E es e).ord = 4 then th'.now else m.all) _
    by_cases hb : (E es e).ord = 4
    · rw [if_pos hb]
      refine K2.sub (fun c hc => ?_)
      rcases hc.1 with h | ⟨_, h⟩
      · exact .inr (.inr ⟨by show decide _ = true; rw [hb]; rfl, h⟩)
      · exact h.resolve_right hc.2
    · rw [if_neg hb]
      refine hv.va.sub (fun c hc => ?_)
      rcases hc.1 with h | ⟨h, _⟩
      · exact h
      · exact absurd (of_decide_eq_true h) hb
  have R := hi.new hp he hlt hk hn (th := th') (al := al') rfl (by rw [hrd]; rfl) ⟨K2, fun h => absurd h hac⟩ ⟨K3, fun h => absurd h hac⟩ ⟨K4, fun h => absurd h hac⟩ ⟨K5, fun h => absurd h hac⟩
  have hm : fencedF (bump m t) t (E es e) = { m with thr := m.thr.set t th', all := al' } := by
    have h1 : (bump m t).th t = { m.th t with next := (m.th t).next + 1 } := by
      unfold bump setTh
      rw [th_set (by rw [hi.thrs.len]; exact ht), if_pos rfl]
    have h2 : fenT (bump m t) t (E es e) = th' := by
      unfold fenT
      rw [h1]; rfl
    unfold fencedF
    rw [h2]
    show VM.mk _ _ ((m.thr.set t _).set t th') _ = _
    rw [List.set_set]; rfl
  rw [hm]
  refine ⟨_, R.lines, { R.hist with K := fun b hb _ => ?_ }, R.views, R.sets, R.thrs⟩
  by_cases hbe : b = e
  · subst hbe
    rw [newEv_dn, if_pos rfl]
    refine ⟨fun h => ?_, fun _ => rfl, fun h => ?_, fun h => ?_⟩
    · rw [h5] at h; exact absurd h (by decide)
    · rw [h5] at h; exact absurd h (by decide)
    · rw [h5] at h; exact absurd h (by decide)
  · exact R.hist.K b hb hbe
theorem VOk.putQ (hp : Shape es N off) (hl : Lines m g.ml g.ix) {v : V3} {S : Nat → Prop} {q l k : Nat} (h : VOk es m g v S) (hq : q < m.msgs.length) (hml : g.ml q = l) (hix : g.ix q = k) (hle : pv m.line v l ≤ k) : VOk es m g (v.put l (q : Int)) S ∧ pv m.line (v.put l (q : Int)) l = k := by
  have hl3 : l < 3 := by rw [← hml]; exact (hl.inn q hq).1
  have hpl : pv m.line (v.put l (q : Int)) l = k := by
    unfold pv
    rw [V3.at_put _ _ hl3 hl3, if_pos rfl, ← hml, hl.place_in hq, hix]
  refine ⟨⟨fun l' hl' => ?_, fun a ha hac => ?_⟩, hpl⟩
  · rw [V3.at_put _ _ hl3 hl']
    split
    · omega
    · exact h.b l' hl'
  · have := h.c a ha hac
    by_cases hla : lc es a = l
    · rw [hla] at this ⊢; rw [hpl]; omega
    · have h2 : pv m.line (v.put l (q : Int)) (lc es a) = pv m.line v (lc es a) := by
        unfold pv; rw [V3.at_put _ _ hl3 (hp.lc3 a), if_neg hla]
      rw [h2]; exact this
end
end Go.Proofs.YtkddckfgdiemkaaGreat
/-
  Plain: a thread reads, a thread writes.
-/
set_option linter.unusedVariables false
set_option linter.unusedSimpArgs false
namespace Go.Proofs.YtkddckfgdiemkaaGreat
open Go.RowKit Go.Shelf Mem

section
variable {es : List Ev} {N : Nat} {off : Nat → Nat} {m : VM} {g : Gh} {t e l k q : Nat}
theorem bump_th (ht : t < m.thr.length) : (bump m t).th t = { m.th t with next := (m.th t).next + 1 } := by
  unfold bump setTh
  rw [th_set ht, if_pos rfl]
/-- What an event that was just made may still become. -/
structure Fresh (es : List Ev) (N : Nat) (m : VM) (g : Gh) (t e l k : Nat) : Prop where
  X : g.X e
  th : (E es e).th = (t : Int)
  dn : g.dn e = false
  lc : lc es e = l
  nw : ∀ t', t' < N → t' ≠ t → ¬ g.nw t' e
  gn : ∀ t', t' < N → t' ≠ t → ¬ g.gn t' e
  gv : ∀ t', t' < N → ¬ g.gv t' e
  ms : ∀ q, ¬ g.ms q e
  al : ¬ g.al e
  hs : ∀ b, ¬ g.hs b e
  ps : g.ix (g.ps e) ≤ k
  pn : pv m.line (m.th t).now l ≤ k
theorem Inv.reads (hp : Shape es N off) (hi : Inv es N off m g (fun _ => False)) (ht : t < N) (he : e = off t + (m.th t).next) (hlt : e < off (t + 1)) (hr : isRd (E es e) = true)
    (hq : q < m.msgs.length) (hml : g.ml q = l) (hix : g.ix q = k) (hl : lc es e = l) (hle : pv m.line (m.th t).now l ≤ k) :
    ∃ g', Inv es N off (readsF (bump m t) t q (E es e)) g' (fun b => b = e) ∧ Fresh es N (readsF (bump m t) t q (E es e)) g' t e l k ∧ g'.ps e = q ∧ g'.ml = g.ml ∧ g'.ix = g.ix ∧ g'.rv e = (m.msg q).word := by
  obtain ⟨n1, n2, n3, n4, n5⟩ := hi.next hp ht he hlt
  have hs := hi.sets
  have hv := hi.views
  have hX : ∀ {b}, g.X b → b ≠ e := fun {b} hb he => n2 (he ▸ hb)
  have hk5 : (E es e).kind ≠ 5 := acc_isRd hr
  have hst : isStrong (E es e) = false := by simp [isStrong, hk5]
  let acq := oAcq (E es e).ord
  let H : Nat → Prop := fun c => g.nw t c ∨ (acq = true ∧ g.ms q c)
  let G : Nat → Prop := fun c => g.gn t c ∨ g.ms q c ∨ H c ∨ c = e
  have hHX : ∀ c, H c → g.X c := fun c hc => by
    rcases hc with hc | ⟨_, hc⟩
    · exact hs.nX t c ht hc
    · exact hs.mX q c hc
  have hself : pv m.line (m.msg q).view l = k := by
    unfold pv
    have := (hv.vm q hq).1
    rw [hml] at this
    rw [this, ← hml, hi.lines.place_in hq, hix]
  have hk : NewOk es N g t e (g.wr q) q H G (g.gv t) g.al g.fen :=
    { tN := ht, ne := n2, th := n3, dc := n4, up := n5, T := hi.thrs.T, H1 := fun c h => .inl h, HX := hHX, G1 := fun c h => .inl h
      GX := fun c h => by
        rcases h with h | h | h | h
        · exact .inl (hs.gX t c ht h)
        · exact .inl (hs.mX q c h)
        · exact .inl (hHX c h)
        · exact .inr h
      VH := fun c h => .inl (.inl (hs.vn t c ht h))
      V1 := fun c h => h, A1 := fun c h => h, AX := fun c h => .inl (hs.aX c h)
      rel := fun h => absurd h hk5
      rd := fun _ h0 => by
        have h3 : 3 ≤ q := by
          refine Nat.le_of_not_lt fun h => ?_
          rw [(hi.hist.w0 q h).1] at h0; omega
        obtain ⟨w, d1, d2, d3, d4, d5, _⟩ := hi.hist.w1 q h3 hq
        have : (g.wr q).toNat = w := by rw [d1]; omega
        rw [this, d5]
        exact ⟨d2, d3, fun c hc => .inr (.inl hc), fun ha c hc => .inr ⟨ha, hc⟩⟩
      acq := fun h => absurd h hk5
      str := fun h => by rw [hst] at h; cases h
      nst := fun _ => rfl
      co := fun _ a ha hac hla => by
        rw [hl] at hla
        rcases ha with ha | ⟨_, ha⟩
        · have := (hv.vn t ht).c a ha hac
          rw [hla] at this; omega
        · have := (hv.vm q hq).2.c a ha hac
          rw [hla, hself] at this; omega }
  have hn : NewH es m g e (g.wr q) (m.msg q).word q := ⟨n1, fun _ => ⟨hq, by rw [hl, hml]⟩, fun _ => ⟨rfl, rfl⟩, fun h => by rw [hr] at h; cases h⟩
  have hloc : (E es e).loc.toNat = l := hl
  let th' : Thr := { readT m t q (E es e) with next := (m.th t).next + 1 }
  have hl3 : l < 3 := by rw [← hl]; exact hp.lc3 e
  obtain ⟨K1, K1b⟩ := (hv.vn t ht).putQ hp hi.lines hq hml hix hle
  have K2 : VOk es m g th'.now H ∧ pv m.line th'.now l = k := by
    show VOk es m g (if acq then joinV m.line ((m.th t).now.put (E es e).loc.toNat (q : Int)) (m.msg q).view else (m.th t).now.put (E es e).loc.toNat (q : Int)) H ∧ pv m.line (if acq then joinV m.line ((m.th t).now.put (E es e).loc.toNat (q : Int)) (m.msg q).view else (m.th t).now.put (E es e).loc.toNat (q : Int)) l = k
    rw [hloc]
    cases hb : acq with
    | true =>
      refine ⟨(K1.join hp hi.lines (hv.vm q hq).2).sub (fun c hc => hc.elim .inl (fun h => .inr h.2)), ?_⟩
      rw [if_pos rfl, hi.lines.join _ _ hl3, K1b, hself]; omega
    | false => exact ⟨K1.sub (fun c hc => hc.elim id (fun h => by have h1 := h.1; rw [hb] at h1; cases h1)), K1b⟩
  have K3 : VOk es m g th'.gained (fun c => G c ∧ c ≠ e) ∧ k ≤ pv m.line th'.gained l := by
    refine ⟨(((hv.vg t ht).join hp hi.lines (hv.vm q hq).2).join hp hi.lines K2.1).sub (fun c hc => ?_), ?_⟩
    · rcases hc.1 with h | h | h | h
      · exact .inl (.inl h)
      · exact .inl (.inr h)
      · exact .inr h
      · exact absurd h hc.2
    · show k ≤ pv m.line (joinV m.line _ th'.now) l
      rw [hi.lines.join _ _ hl3, K2.2]; omega
  have R := hi.new hp he hlt hk hn (th := th') (al := m.all) rfl (by rw [hr]; rfl) ⟨K2.1, fun _ => by rw [hl, K2.2, hix]; exact Nat.le_refl _⟩ ⟨K3.1, fun _ _ => by rw [hl, hix]; exact K3.2⟩
    ⟨(hv.vv t ht).sub (fun c hc => hc.1), fun _ h => absurd rfl (hX (hs.nX t e ht (hs.vn t e ht h)))⟩ ⟨hv.va.sub (fun c hc => hc.1), fun _ h => absurd rfl (hX (hs.aX e h))⟩
  have hm : readsF (bump m t) t q (E es e) = { m with thr := m.thr.set t th', all := m.all } := by
    have h2 : readT (bump m t) t q (E es e) = th' := by
      unfold readT
      rw [bump_th (by rw [hi.thrs.len]; exact ht)]; rfl
    unfold readsF
    rw [h2]
    show VM.mk _ _ ((m.thr.set t _).set t th') _ = _
    rw [List.set_set]; rfl
  rw [hm]
  refine ⟨_, R, ⟨.inr rfl, n3, ?_, hl, ?_, ?_, ?_, fun j h => absurd rfl (hX (hs.mX j e h)), fun h => absurd rfl (hX (hs.aX e h)), ?_, ?_, ?_⟩, ?_, rfl, rfl, upd_same _ _ _⟩
  · rw [newEv_dn, if_pos rfl]
  · intro t' h1 h2 h
    rw [newEv_nw, if_neg h2] at h
    exact absurd rfl (hX (hs.nX t' e h1 h))
  · intro t' h1 h2 h
    rw [newEv_gn, if_neg h2] at h
    exact absurd rfl (hX (hs.gX t' e h1 h))
  · intro t' h1 h
    rw [newEv_gv] at h
    split at h
    · exact absurd rfl (hX (hs.nX t e ht (hs.vn t e ht h)))
    · exact absurd rfl (hX (hs.nX t' e h1 (hs.vn t' e h1 h)))
  · intro b h
    rw [newEv_hs] at h
    split at h
    · exact absurd rfl (hX (hHX e h))
    · exact absurd rfl (hX (hs.h e b h).1)
  · rw [newEv_ps, if_pos rfl]
    show g.ix q ≤ k
    omega
  · rw [th_set (m := m) (by rw [hi.thrs.len]; exact ht), if_pos rfl]
    show pv m.line th'.now l ≤ k
    rw [K2.2]; exact Nat.le_refl _
  · rw [newEv_ps, if_pos rfl]
theorem Inv.stores (hp : Shape es N off) (hi : Inv es N off m g (fun _ => False)) (ht : t < N) (he : e = off t + (m.th t).next) (hlt : e < off (t + 1)) (h1k : (E es e).kind = 1)
    (hl : lc es e = l) (hle : pv m.line (m.th t).now l ≤ k) :
    ∃ g', Inv es N off (bump m t) g' (fun b => b = e) ∧ Fresh es N (bump m t) g' t e l k ∧ g'.ml = g.ml ∧ g'.ix = g.ix := by
  obtain ⟨n1, n2, n3, n4, n5⟩ := hi.next hp ht he hlt
  have hs := hi.sets
  have hv := hi.views
  have hX : ∀ {b}, g.X b → b ≠ e := fun {b} hb he => n2 (he ▸ hb)
  have hk5 : (E es e).kind ≠ 5 := by rw [h1k]; decide
  have hr : isRd (E es e) = false := by simp [isRd, h1k]
  have hst : isStrong (E es e) = false := by simp [isStrong, hk5]
  have hl3 : l < 3 := by rw [← hl]; exact hp.lc3 e
  obtain ⟨q, hq, hml, hix⟩ : ∃ q, q < m.msgs.length ∧ g.ml q = l ∧ g.ix q = pv m.line (m.th t).now l := by
    have h1 := hi.lines.place_lt hl3 ((m.th t).now.at_ l)
    obtain ⟨q, _, h3, h4, h5⟩ := hi.lines.of_ l _ _ hl3 (List.getElem?_eq_getElem h1)
    exact ⟨q, h3, h4, h5⟩
  have hk : NewOk es N g t e (-2) q (g.nw t) (g.gn t) (g.gv t) g.al g.fen :=
    { tN := ht, ne := n2, th := n3, dc := n4, up := n5, T := hi.thrs.T, H1 := fun c h => h, HX := fun c h => hs.nX t c ht h, G1 := fun c h => h
      GX := fun c h => .inl (hs.gX t c ht h)
      VH := fun c h => .inl (hs.vn t c ht h)
      V1 := fun c h => h, A1 := fun c h => h, AX := fun c h => .inl (hs.aX c h)
      rel := fun h => absurd h hk5
      rd := fun h => by rw [hr] at h; cases h
      acq := fun h => absurd h hk5
      str := fun h => by rw [hst] at h; cases h
      nst := fun _ => rfl
      co := fun _ a ha hac hla => by
        rw [hl] at hla
        have := (hv.vn t ht).c a ha hac
        rw [hla] at this; omega }
  have hn : NewH es m g e (-2) 0 q := ⟨n1, fun _ => ⟨hq, by rw [hl, hml]⟩, fun h => (by rw [hr] at h; cases h), fun _ => rfl⟩
  have R := hi.new hp he hlt hk hn (th := { m.th t with next := (m.th t).next + 1 }) (al := m.all) rfl (by rw [hr]; rfl) ⟨hv.vn t ht, fun _ => by rw [hl, hix]; exact Nat.le_refl _⟩ ⟨(hv.vg t ht).sub (fun c hc => hc.1), fun _ h => absurd rfl (hX (hs.gX t e ht h))⟩
    ⟨(hv.vv t ht).sub (fun c hc => hc.1), fun _ h => absurd rfl (hX (hs.nX t e ht (hs.vn t e ht h)))⟩ ⟨hv.va.sub (fun c hc => hc.1), fun _ h => absurd rfl (hX (hs.aX e h))⟩
  refine ⟨_, R, ⟨.inr rfl, n3, ?_, hl, ?_, ?_, ?_, fun j h => absurd rfl (hX (hs.mX j e h)), fun h => absurd rfl (hX (hs.aX e h)), ?_, ?_, ?_⟩, rfl, rfl⟩
  · rw [newEv_dn, if_pos rfl]
  · intro t' h1 h2 h
    rw [newEv_nw, if_neg h2] at h
    exact absurd rfl (hX (hs.nX t' e h1 h))
  · intro t' h1 h2 h
    rw [newEv_gn, if_neg h2] at h
    exact absurd rfl (hX (hs.gX t' e h1 h))
  · intro t' h1 h
    rw [newEv_gv] at h
    split at h
    · exact absurd rfl (hX (hs.nX t e ht (hs.vn t e ht h)))
    · exact absurd rfl (hX (hs.nX t' e h1 (hs.vn t' e h1 h)))
  · intro b h
    rw [newEv_hs] at h
    split at h
    · exact absurd rfl (hX (hs.nX t e ht h))
    · exact absurd rfl (hX (hs.h e b h).1)
  · rw [newEv_ps, if_pos rfl]
    show g.ix q ≤ k
    omega
  · rw [bump_th (by rw [hi.thrs.len]; exact ht)]
    exact hle
theorem Inv.writes (hp : Shape es N off) (hi : Inv es N off m g (fun b => b = e)) (ht : t < N) (hf : Fresh es N m g t e l k) (hwk : wk (E es e)) (hkl : k < (m.ln l).length) (hbd : bound m l k = false)
    (hq : (m.ln l).getD k 0 = (q : Int)) {tied : Bool} (hti : tied = isRd (E es e)) (htq : tied = true → g.ps e = q) {word : Int} (hw : word = wval (E es e) (g.rv e)) :
    Inv es N off (writesV m t k word (E es e) tied) (wrG g t e l k m.msgs.length q (oRel (E es e).ord) tied) (fun b => b = e) := by
  have hl3 : l < 3 := by rw [← hf.lc]; exact hp.lc3 e
  have hloc : (E es e).loc.toNat = l := hf.lc
  have hs := hi.sets
  have hv := hi.views
  have hqm : q < m.msgs.length ∧ g.ml q = l ∧ g.ix q = k := by
    rw [List.getD, List.getElem?_eq_getElem hkl, Option.getD_some] at hq
    obtain ⟨q', h1, h2, h3, h4⟩ := hi.lines.of_ l k _ hl3 (List.getElem?_eq_getElem hkl)
    have : q = q' := by omega
    subst this; exact ⟨h2, h3, h4⟩
  have hk : WrOk es N m g t e l k q tied := ⟨ht, hf.X, hf.th, hf.dn, hwk, hf.lc, hl3, hf.nw, hf.gn, hf.gv, hf.ms, hf.al, hf.hs, hkl, hbd, hqm, hti, htq, hf.ps, hf.pn⟩
  let rel := oRel (E es e).ord
  let m' := writesV m t k word (E es e) tied
  have h1 : m'.line = lineW m l k := by show lineW m (E es e).loc.toNat k = _; rw [hloc]
  have h2 : m'.msgs = m.msgs ++ [⟨wval (E es e) (g.rv e), viewW m t k (E es e) tied, tied⟩] := by rw [← hw]; rfl
  have h2l : m'.msgs.length = m.msgs.length + 1 := by rw [h2]; simp
  have HL := hi.lines.write (rel := rel) hk h1 h2l
  have hmsg : ∀ j, j < m.msgs.length → m'.msg j = m.msg j := fun j hj => by
    unfold VM.msg; rw [h2, List.getD, List.getD, List.getElem?_append_left hj]
  have hnew : m'.msg m.msgs.length = ⟨wval (E es e) (g.rv e), viewW m t k (E es e) tied, tied⟩ := by
    unfold VM.msg; rw [h2, List.getD, List.getElem?_append_right (Nat.le_refl _)]; simp
  have keep : ∀ {v : V3} {S : Nat → Prop}, VOk es m g v S → (∀ c, S c → c ≠ e ∧ g.X c) → VOk es m' (wrG g t e l k m.msgs.length q rel tied) v S := fun {v S} h hS => h.writeKeep hp hi.hist hi.lines hk h1 h2l hS
  have hNow : VOk es m' (wrG g t e l k m.msgs.length q rel tied) ((m.th t).now.put l (m.msgs.length : Int)) (g.nw t) := by
    refine VOk.writePut hp hi.hist hi.lines hk h1 h2l (fun l' hl' => by have := (hv.vn t ht).b l' hl'; omega) (fun c hc => hs.nX t c ht hc) (fun c hc hce hac => ?_)
    have h3 := (hv.vn t ht).c c hc hac
    split
    · rename_i hlc
      rw [hlc] at h3
      have := hf.pn
      omega
    · rename_i hlc
      obtain ⟨d1, d2⟩ := hi.hist.ps c (hs.nX t c ht hc) hac
      rw [wrG_ix (by omega), d2, if_neg hlc, pv_write hi.lines hk h1 h2l (hp.lc3 c) ((hv.vn t ht).b _ (hp.lc3 c)), if_neg hlc]
      exact h3
  have hth : ∀ t', m'.th t' = if t' = t then { m.th t with now := (m.th t).now.put (E es e).loc.toNat (m.msgs.length : Int), gained := joinV (lineW m (E es e).loc.toNat k) (m.th t).gained ((m.th t).now.put (E es e).loc.toNat (m.msgs.length : Int)) } else m.th t' := fun t' => by
    show (m.thr.set t _).getD t' default = _
    rw [getD_set]
    by_cases h : t = t'
    · subst h; rw [if_pos ⟨rfl, by rw [hi.thrs.len]; exact ht⟩, if_pos rfl]
    · rw [if_neg (fun hh => h hh.1), if_neg (fun hh => h hh.symm)]; rfl
  have hGain : VOk es m' (wrG g t e l k m.msgs.length q rel tied) (joinV m'.line (m.th t).gained ((m.th t).now.put l (m.msgs.length : Int))) (g.gn t) := by
    refine ⟨fun l' hl' => ?_, fun a ha hac => ?_⟩
    · rw [joinV_at _ _ _ hl']
      unfold join1
      split
      · exact hNow.b l' hl'
      · have := (hv.vg t ht).b l' hl'; omega
    · rw [HL.join _ _ (hp.lc3 a)]
      by_cases hae : a = e
      · subst hae
        have h3 := hNow.c a (by have := (hs.s1 a hf.X).1; rwa [show thN es a = t by unfold thN; rw [hf.th]; rfl] at this) hac
        omega
      · have h3 := (Cov.write (rel := rel) hp hi.hist hi.lines hk h1 h2l (hv.vg t ht).b (hv.vg t ht).c (S' := fun c => g.gn t c ∧ c ≠ e) (fun c hc => ⟨hc.1, hc.2, hs.gX t c ht hc.1⟩)) a ⟨ha, hae⟩ hac
        omega
  have hView : VOk es m' (wrG g t e l k m.msgs.length q rel tied) (viewW m t k (E es e) tied) (fun c => (if rel then g.nw t c else g.gv t c) ∨ (tied = true ∧ g.ms q c)) := by
    unfold viewW
    simp only [hloc]
    have hqv : (m.msg ((m.ln l).getD k 0).toNat).view = (m.msg q).view := by rw [hq, Int.toNat_natCast]
    rw [hqv, ← h1]
    let u : V3 := if oRel (E es e).ord then (m.th t).now.put l (m.msgs.length : Int) else (m.th t).given
    have hu : ∀ l', l' < 3 → u.at_ l' < (m'.msgs.length : Int) := fun l' hl' => by
      show (if oRel (E es e).ord then (m.th t).now.put l (m.msgs.length : Int) else (m.th t).given).at_ l' < _
      split
      · exact hNow.b l' hl'
      · have := (hv.vv t ht).b l' hl'; omega
    have huc : ∀ c, (if rel then g.nw t c else g.gv t c) → c ≠ e → acc (E es c) → lc es c ≠ l → (wrG g t e l k m.msgs.length q rel tied).ix (g.ps c) ≤ pv m'.line u (lc es c) := fun c hc hce hac hlc => by
      show _ ≤ pv m'.line (if oRel (E es e).ord then (m.th t).now.put l (m.msgs.length : Int) else (m.th t).given) (lc es c)
      by_cases hr : oRel (E es e).ord = true
      · rw [if_pos hr] at hc ⊢
        have := hNow.c c hc hac
        rwa [wrG_ps, if_neg hce] at this
      · rw [if_neg hr] at hc ⊢
        have := (keep (hv.vv t ht) (fun c hc => ⟨fun h => hf.gv t ht (h ▸ hc), hs.nX t c ht (hs.vn t c ht hc)⟩)).c c hc hac
        rwa [wrG_ps, if_neg hce] at this
    have hin : ∀ c, (if rel then g.nw t c else g.gv t c) → g.nw t c := fun c hc => by
      split at hc
      · exact hc
      · exact hs.vn t c ht hc
    have hqm2 := (hv.vm q hqm.1).2
    refine VOk.writePut hp hi.hist hi.lines hk h1 h2l (fun l' hl' => ?_) (fun c hc => ?_) (fun c hc hce hac => ?_)
    · show (if tied then joinV m'.line u (m.msg q).view else u).at_ l' < _
      split
      · rw [joinV_at _ _ _ hl']
        unfold join1
        split
        · have := hqm2.b l' hl'; omega
        · exact hu l' hl'
      · exact hu l' hl'
    · rcases hc with hc | ⟨_, hc⟩
      · exact hs.nX t c ht (hin c hc)
      · exact hs.mX q c hc
    · split
      · rename_i hlc
        rcases hc with hc | ⟨_, hc⟩
        · have h3 := (hv.vn t ht).c c (hin c hc) hac
          rw [hlc] at h3
          have := hf.pn
          omega
        · have h3 := hqm2.c c hc hac
          have h4 := (hv.vm q hqm.1).1
          rw [hqm.2.1] at h4
          rw [hlc] at h3
          unfold pv at h3
          rw [h4, ← hqm.2.1, hi.lines.place_in hqm.1, hqm.2.2] at h3
          exact h3
      · rename_i hlc
        show _ ≤ pv m'.line (if tied then joinV m'.line u (m.msg q).view else u) (lc es c)
        by_cases hb : tied = true
        · rw [if_pos hb, HL.join _ _ (hp.lc3 c)]
          rcases hc with hc | ⟨_, hc⟩
          · have := huc c hc hce hac hlc
            omega
          · have := (keep hqm2 (fun c hc => ⟨fun h => hf.ms q (h ▸ hc), hs.mX q c hc⟩)).c c hc hac
            rw [wrG_ps, if_neg hce] at this
            omega
        · rw [if_neg hb]
          rcases hc with hc | ⟨h, _⟩
          · exact huc c hc hce hac hlc
          · exact absurd h hb
  refine ⟨HL, hi.hist.write hp hs hi.lines hk h1 h2, ⟨fun j hj => ?_, fun t' ht' => ?_, fun t' ht' => ?_, fun t' ht' => ?_, keep hv.va (fun c hc => ⟨fun h => hf.al (h ▸ hc), hs.aX c hc⟩)⟩, hs.write hi.hist hk rfl, ?_⟩
  · by_cases hjn : j = m.msgs.length
    · subst hjn
      rw [hnew, wrG_mln, wrG_msn]
      refine ⟨?_, hView⟩
      show (viewW m t k (E es e) tied).at_ l = _
      unfold viewW
      simp only [hloc]
      rw [V3.at_put _ _ hl3 hl3, if_pos rfl]
    · have hj' : j < m.msgs.length := by
        have : j < m'.msgs.length := hj
        omega
      rw [hmsg j hj', wrG_ml hjn, wrG_ms hjn]
      exact ⟨(hv.vm j hj').1, keep (hv.vm j hj').2 (fun c hc => ⟨fun h => hf.ms j (h ▸ hc), hs.mX j c hc⟩)⟩
  · show VOk es m' _ (m'.th t').now (g.nw t')
    rw [hth]
    split
    · rename_i h; subst h
      simp only [hloc]; exact hNow
    · rename_i h
      exact keep (hv.vn t' ht') (fun c hc => ⟨fun hh => hf.nw t' ht' h (hh ▸ hc), hs.nX t' c ht' hc⟩)
  · show VOk es m' _ (m'.th t').gained (g.gn t')
    rw [hth]
    split
    · rename_i h; subst h
      simp only [hloc]
      have := hGain
      rw [h1] at this
      exact this
    · rename_i h
      exact keep (hv.vg t' ht') (fun c hc => ⟨fun hh => hf.gn t' ht' h (hh ▸ hc), hs.gX t' c ht' hc⟩)
  · show VOk es m' _ (m'.th t').given (g.gv t')
    rw [hth]
    have : VOk es m' (wrG g t e l k m.msgs.length q rel tied) (m.th t').given (g.gv t') := keep (hv.vv t' ht') (fun c hc => ⟨fun hh => hf.gv t' ht' (hh ▸ hc), hs.nX t' c ht' (hs.vn t' c ht' hc)⟩)
    split
    · rename_i h; subst h; exact this
    · exact this
  · have hn : ∀ t', (m'.th t').next = (m.th t').next ∧ (m'.th t').read = (m.th t').read := fun t' => by
      rw [hth]
      split
      · rename_i h; subst h; exact ⟨rfl, rfl⟩
      · exact ⟨rfl, rfl⟩
    have hthr := hi.thrs
    refine { len := ?_, nx := fun t' h => ?_, x := fun t' i h h2 => ?_, rd := fun t' h => ?_, T := hthr.T, ck := ?_ }
    · show (m.thr.set t _).length = N
      simp [hthr.len]
    · rw [show (writesV m t k word (E es e) tied).th t' = m'.th t' from rfl, (hn t').1]; exact hthr.nx t' h
    · rw [show (writesV m t k word (E es e) tied).th t' = m'.th t' from rfl, (hn t').1]; exact hthr.x t' i h h2
    · rw [show (writesV m t k word (E es e) tied).th t' = m'.th t' from rfl, (hn t').1, (hn t').2]; exact hthr.rd t' h
    · show g.ck = sumN (fun t' => (m'.th t').next) N
      rw [hthr.ck]
      exact sumN_congr N (fun i _ => (hn i).1.symm)
end
end Go.Proofs.YtkddckfgdiemkaaGreat
/-
  Plain: what the machine of views comes to, the axioms have an execution for.
-/
set_option linter.unusedVariables false
set_option linter.unusedSimpArgs false
namespace Go.Proofs.YtkddckfgdiemkaaGreat
open Go.RowKit Go.Shelf Mem

section
variable {es : List Ev} {N : Nat} {off : Nat → Nat} {m : VM} {g : Gh} {t e l k q : Nat}
theorem Inv.done (hi : Inv es N off m g (fun b => b = e)) (hk : KindOk (E es e) (g.dn e) (g.rv e)) : Inv es N off m g (fun _ => False) :=
  ⟨hi.lines, { hi.hist with K := fun b hb _ => (Classical.em (b = e)).elim (fun h => by rw [h]; exact hk) (hi.hist.K b hb) }, hi.views, hi.sets, hi.thrs⟩
theorem Inv.does (hp : Shape es N off) (hi : Inv es N off m g (fun _ => False)) (ht : t < N) (he : e = off t + (m.th t).next) (hlt : e < off (t + 1)) {c : Nat × Bool} (hc : c ∈ choicesF m t (E es e)) :
    ∃ g', Inv es N off (doesF m t (E es e) c) g' (fun _ => False) := by
  by_cases h5 : (E es e).kind = 5
  · obtain ⟨g', h⟩ := hi.fence hp ht he hlt h5
    refine ⟨g', ?_⟩
    unfold doesF
    rw [if_pos h5]; exact h
  · rw [choicesF, if_neg h5] at hc
    obtain ⟨i, hil, hc⟩ := choicesTo_mem _ hc
    have hel := (hi.next hp ht he hlt).1
    have hkd := hp.kind e hel
    obtain ⟨l, hl⟩ : ∃ l, lc es e = l := ⟨_, rfl⟩
    have hloc : (E es e).loc.toNat = l := hl
    have hl3 : l < 3 := by rw [← hl]; exact hp.lc3 e
    obtain ⟨k, hk⟩ : ∃ k, place m.line (E es e).loc.toNat ((m.th t).now.at_ (E es e).loc.toNat) + i = k := ⟨_, rfl⟩
    rw [hk] at hc
    have hkl : k < (m.ln l).length := by rw [← hloc]; omega
    have hpn : pv m.line (m.th t).now l ≤ k := by unfold pv; rw [← hloc]; omega
    obtain ⟨q, hq1, hq2, hq3, hq4⟩ := hi.lines.of_ l k _ hl3 (List.getElem?_eq_getElem hkl)
    have hqD : (m.ln l).getD k 0 = (q : Int) := by rw [List.getD, List.getElem?_eq_getElem hkl]; exact hq1
    -- what the choice says
    unfold choice1 at hc
    rw [hloc, hqD, Int.toNat_natCast] at hc
    have hcs : (c = (k, true) ∧ writesF (E es e) (m.msg q).word = true ∧ bound m l k = false) ∨ (c = (k, false) ∧ (writesF (E es e) (m.msg q).word = false ∨ (E es e).kind = 4)) := by
      rw [List.mem_append] at hc
      rcases hc with hc | hc
      · split at hc
        · rename_i hh
          rw [Bool.and_eq_true, Bool.not_eq_true'] at hh
          exact .inl ⟨List.mem_singleton.1 hc, hh.1, hh.2⟩
        · cases hc
      · split at hc
        · rename_i hh
          rw [Bool.or_eq_true, Bool.not_eq_true'] at hh
          exact .inr ⟨List.mem_singleton.1 hc, hh.imp id (fun h => by simpa using h)⟩
        · cases hc
    by_cases h1 : (E es e).kind = 1
    · -- a store
      have hw : writesF (E es e) (m.msg q).word = true := by simp [writesF, h1]
      rcases hcs with ⟨rfl, _, hbd⟩ | ⟨rfl, h | h⟩
      · obtain ⟨g1, hi1, hf1, hml, hix⟩ := hi.stores hp ht he hlt h1 hl hpn
        have hr : isRd (E es e) = false := by simp [isRd, h1]
        have hi2 := Inv.writes (q := q) (tied := false) (word := (E es e).v) hp hi1 ht hf1 (.inl h1) hkl hbd hqD hr.symm (fun h => by cases h) (by simp [wval, h1])
        refine ⟨wrG g1 t e l k (bump m t).msgs.length q (oRel (E es e).ord) false, Inv.done (e := e) ?_ ?_⟩
        · unfold doesF
          rw [if_neg h5]
          simp only [if_true, if_pos h1, wordW, h1]
          exact hi2
        · refine ⟨fun _ => ?_, fun h => ?_, fun h => ?_, fun h => ?_⟩
          · exact if_pos rfl
          · rw [h1] at h; exact absurd h (by decide)
          · rw [h1] at h; exact absurd h (by decide)
          · rw [h1] at h; exact absurd h (by decide)
      · rw [hw] at h; cases h
      · rw [h1] at h; exact absurd h (by decide)
    · -- a read, and maybe a write
      have hr : isRd (E es e) = true := by simp [isRd, h1, h5]
      obtain ⟨g1, hi1, hf1, hps, hml, hix, hrv⟩ := hi.reads hp ht he hlt hr hq2 hq3 hq4 hl hpn
      rcases hcs with ⟨rfl, hw, hbd⟩ | ⟨rfl, hw⟩
      · have hk0 : (E es e).kind ≠ 0 := fun h => by simp [writesF, h] at hw
        have hwk : wk (E es e) := by unfold wk; omega
        have hmw : wordW m (E es e) k = wval (E es e) (g1.rv e) := by
          unfold wordW wval
          rw [if_neg h1, if_neg h1, hloc, hqD, Int.toNat_natCast, hrv]
        have hi2 := Inv.writes (q := q) (tied := true) (word := wordW m (E es e) k) hp hi1 ht hf1 hwk hkl hbd hqD hr.symm (fun _ => hps) hmw
        refine ⟨wrG g1 t e l k (readsF (bump m t) t q (E es e)).msgs.length q (oRel (E es e).ord) true, Inv.done (e := e) ?_ ?_⟩
        · unfold doesF
          rw [if_neg h5]
          have hne : ((E es e).kind != 1) = true := by simpa using h1
          simp only [if_true, if_neg h1, hloc, hqD, Int.toNat_natCast, hne]
          exact hi2
        · rw [show (wrG g1 t e l k (readsF (bump m t) t q (E es e)).msgs.length q (oRel (E es e).ord) true).dn e = true from if_pos rfl, show (wrG g1 t e l k (readsF (bump m t) t q (E es e)).msgs.length q (oRel (E es e).ord) true).rv e = (m.msg q).word from hrv]
          refine ⟨fun _ => rfl, fun h => by omega, fun h => ⟨fun _ => ?_, fun _ => rfl⟩, fun h _ => ?_⟩
          · simp [writesF, h] at hw; exact hw
          · simp [writesF, h] at hw; exact hw
      · refine ⟨g1, Inv.done (e := e) ?_ ?_⟩
        · unfold doesF
          rw [if_neg h5]
          simp only [if_neg h1, hloc, hqD, Int.toNat_natCast]
          exact hi1
        · rw [hf1.dn, hrv]
          refine ⟨fun h => ?_, fun _ => rfl, fun h => ⟨fun h => (by cases h), fun he2 => ?_⟩, fun _ h => (by cases h)⟩
          · rcases hw with hw | hw
            · rcases h with h | h <;> simp [writesF, h] at hw
            · omega
          · rcases hw with hw | hw
            · simp [writesF, h, he2] at hw
            · omega
end
/-! How it starts. -/
def vm0 (N : Nat) : VM := ⟨[⟨0, ⟨0, -1, -1⟩, false⟩, ⟨0, ⟨-1, 1, -1⟩, false⟩, ⟨0, ⟨-1, -1, 2⟩, false⟩], [[0], [1], [2]], List.replicate N ⟨V3.nil, V3.nil, V3.nil, [], 0⟩, V3.nil⟩
def gh0 : Gh := ⟨fun q => q, fun _ => 0, fun _ => -1, fun _ => 0, fun _ => -2, fun _ => false, fun _ => 0, fun _ => 0, 0, [], fun _ _ => False, fun _ _ => False, fun _ _ => False, fun _ _ => False, fun _ _ => False, fun _ => False, fun _ => False⟩
theorem sumN_zero (N : Nat) : sumN (fun _ => 0) N = 0 := by
  induction N with
  | zero => rfl
  | succ n ih => rw [sumN, ih]
theorem vm0_th (N t : Nat) (ht : t < N) : (vm0 N).th t = ⟨V3.nil, V3.nil, V3.nil, [], 0⟩ := by
  unfold VM.th vm0
  simp only [List.getD, List.getElem?_replicate, if_pos ht, Option.getD_some]
theorem Inv.start {es : List Ev} {N : Nat} {off : Nat → Nat} (hp : Shape es N off) : Inv es N off (vm0 N) gh0 (fun _ => False) := by
  have h3 : ∀ q, q < 3 → q = 0 ∨ q = 1 ∨ q = 2 := fun q h => by omega
  have nil : ∀ S : Nat → Prop, (∀ c, ¬ S c) → VOk es (vm0 N) gh0 V3.nil S := fun S hS => ⟨fun l hl => by
    rcases h3 l hl with rfl | rfl | rfl <;> (show (-1 : Int) < 3; decide), fun a ha => absurd ha (hS a)⟩
  refine ⟨⟨rfl, Nat.le_refl _, fun q hq => ?_, fun l k y hl hy => ?_, fun l hl => ⟨rfl, rfl⟩⟩, ?_, ⟨fun q hq => ?_, ?_, ?_, ?_, nil _ (fun _ => id)⟩, ?_, ?_⟩
  · have hq' : q < 3 := hq
    rcases h3 q hq' with rfl | rfl | rfl <;> exact ⟨by decide, rfl⟩
  · rcases h3 l hl with rfl | rfl | rfl
    · cases k with
      | zero => exact ⟨0, (Option.some.inj hy).symm, by show 0 < 3; decide, rfl, rfl⟩
      | succ k => cases hy
    · cases k with
      | zero => exact ⟨1, (Option.some.inj hy).symm, by show 1 < 3; decide, rfl, rfl⟩
      | succ k => cases hy
    · cases k with
      | zero => exact ⟨2, (Option.some.inj hy).symm, by show 2 < 3; decide, rfl, rfl⟩
      | succ k => cases hy
  · refine ⟨fun _ h => h.elim, fun q hq => ?_, fun q hq hq2 => ?_, fun _ h => h.elim, fun _ h => h.elim, fun _ h => h.elim, fun _ h => h.elim, fun _ h => h.elim, fun _ h => h.elim⟩
    · rcases h3 q hq with rfl | rfl | rfl <;> exact ⟨rfl, rfl, rfl⟩
    · have : q < 3 := hq2
      omega
  · have hq' : q < 3 := hq
    rcases h3 q hq' with rfl | rfl | rfl
    · exact ⟨rfl, fun l hl => by
        rcases h3 l hl with rfl | rfl | rfl
        · show (0 : Int) < 3; decide
        · show (-1 : Int) < 3; decide
        · show (-1 : Int) < 3; decide
      , fun _ h => h.elim⟩
    · exact ⟨rfl, fun l hl => by
        rcases h3 l hl with rfl | rfl | rfl
        · show (-1 : Int) < 3; decide
        · show (1 : Int) < 3; decide
        · show (-1 : Int) < 3; decide
      , fun _ h => h.elim⟩
    · exact ⟨rfl, fun l hl => by
        rcases h3 l hl with rfl | rfl | rfl
        · show (-1 : Int) < 3; decide
        · show (-1 : Int) < 3; decide
        · show (2 : Int) < 3; decide
      , fun _ h => h.elim⟩
  · intro t ht; rw [vm0_th N t ht]; exact nil _ (fun _ => id)
  · intro t ht; rw [vm0_th N t ht]; exact nil _ (fun _ => id)
  · intro t ht; rw [vm0_th N t ht]; exact nil _ (fun _ => id)
  · exact { h := fun _ _ h => h.elim, nX := fun _ _ _ h => h.elim, gX := fun _ _ _ h => h.elim, mX := fun _ _ h => h.elim, aX := fun _ h => h.elim, vn := fun _ _ _ h => h.elim, dc := fun _ _ h => h.elim, s1 := fun _ h => h.elim, s2 := fun _ h => h.elim, s3 := fun _ h => h.elim, s3c := fun _ h => h.elim, fX := fun _ h => h.elim, s4 := fun _ h => h.elim, s4b := fun _ _ h => h.elim, fe := fun _ h => (by cases h), fm := fun _ h => h.elim, fp := List.Pairwise.nil, po := fun _ h => h.elim, co := fun _ _ h => h.elim }
  · refine ⟨by simp [vm0], fun t ht => ?_, fun t i ht hi => ?_, fun t ht => ?_, fun _ h => h.elim, ?_⟩
    · rw [vm0_th N t ht]; exact hp.mono t ht
    · rw [vm0_th N t ht]; exact ⟨fun h => h.elim, fun h => absurd h (Nat.not_lt_zero _)⟩
    · rw [vm0_th N t ht]; rfl
    · show 0 = _
      rw [sumN_congr (g := fun _ => 0) N (fun i hi => by rw [vm0_th N i hi])]
      exact (sumN_zero N).symm
end Go.Proofs.YtkddckfgdiemkaaGreat
/-
  Plain: the execution that a machine of views, which is over, has come to.
-/
set_option linter.unusedVariables false
set_option linter.unusedSimpArgs false
namespace Go.Proofs.YtkddckfgdiemkaaGreat
open Go.RowKit Go.Shelf Mem

theorem sub_of_idx {α : Type} : ∀ {l : List α} {i j : Nat} {x y : α}, l[i]? = some x → l[j]? = some y → i < j → [x, y].Sublist l
  | [], i, j, x, y, h, _, _ => by simp at h
  | a :: t, 0, j, x, y, h1, h2, h => by
    obtain ⟨k, rfl⟩ : ∃ k, j = k + 1 := ⟨j - 1, by omega⟩
    simp only [List.getElem?_cons_zero, Option.some.injEq] at h1
    subst h1
    refine List.Sublist.cons_cons _ (List.singleton_sublist.2 ?_)
    exact List.mem_of_getElem? (by simpa using h2)
  | a :: t, i + 1, j, x, y, h1, h2, h => by
    obtain ⟨k, rfl⟩ : ∃ k, j = k + 1 := ⟨j - 1, by omega⟩
    exact List.Sublist.cons _ (sub_of_idx (by simpa using h1) (by simpa using h2) (by omega))
theorem sub_of_pair {α : Type} {R : α → α → Prop} {l : List α} (h : l.Pairwise R) {x y : α} (hx : x ∈ l) (hy : y ∈ l) (hne : x ≠ y) (hn : ¬ R y x) : [x, y].Sublist l := by
  obtain ⟨i, hi, rfl⟩ := List.mem_iff_getElem.1 hx
  obtain ⟨j, hj, rfl⟩ := List.mem_iff_getElem.1 hy
  by_cases hij : i < j
  · exact sub_of_idx (List.getElem?_eq_getElem hi) (List.getElem?_eq_getElem hj) hij
  · have hne2 : i ≠ j := fun e => hne (by subst e; rfl)
    exact absurd (List.pairwise_iff_getElem.1 h j i hj hi (by omega)) hn
theorem pickTo_lt (q : Int → Bool) (n : Nat) : (pickTo q n).Pairwise (· < ·) := by
  unfold pickTo
  refine List.Pairwise.sublist List.filter_sublist ?_
  rw [List.pairwise_map]
  refine List.Pairwise.imp ?_ (List.pairwise_lt_range (n := n))
  intro a b h; omega
theorem getD_rng {α : Type} {f : Nat → α} {n i : Nat} {d : α} (h : i < n) : ((List.range n).map f).getD i d = f i := by
  simp [List.getD, h]
/-- The machine's outcome. -/
def lastV (m : VM) (l : Nat) : Int := (m.msg ((m.ln l).getD ((m.ln l).length - 1) 0).toNat).word
def outV (m : VM) : List Int := m.thr.flatMap (·.read) ++ [lastV m 0, lastV m 1, lastV m 2]
/-- The execution. -/
def ordL (m : VM) (g : Gh) (l : Nat) : List Int := (m.ln l).tail.map (fun y => g.wr y.toNat)
def exOf (n : Nat) (m : VM) (g : Gh) (s : List Int) : Ex := ⟨(List.range n).map g.fr, (List.range n).map g.dn, [ordL m g 0, ordL m g 1, ordL m g 2], s⟩
section
variable {es : List Ev} {N : Nat} {off : Nat → Nat} {m : VM} {g : Gh}
theorem ordL_getD (k : Nat) (hk : k < 3) (s : List Int) : (exOf es.length m g s).ord.getD k [] = ordL m g k := by
  rcases (by omega : k = 0 ∨ k = 1 ∨ k = 2) with rfl | rfl | rfl <;> rfl
theorem ordL_len (l : Nat) : (ordL m g l).length = (m.ln l).length - 1 := by simp [ordL]
/-- A location's writer by its place. -/
theorem ordL_at (hi : Inv es N off m g (fun _ => False)) {l j : Nat} (hl : l < 3) (hj : j < (ordL m g l).length) :
    ∃ e : Nat, (ordL m g l).getD j 0 = (e : Int) ∧ g.X e ∧ g.dn e = true ∧ wk (E es e) ∧ lc es e = l ∧ g.ix (g.ps e) = j + 1 := by
  rw [ordL_len] at hj
  have h1 : j + 1 < (m.ln l).length := by omega
  obtain ⟨q, a1, a2, a3, a4⟩ := hi.lines.of_ l (j + 1) _ hl (List.getElem?_eq_getElem h1)
  have h3 : 3 ≤ q := by
    refine Nat.le_of_not_lt fun h => ?_
    have := (hi.lines.z q h).2
    omega
  obtain ⟨e, b1, b2, b3, b4, b5, b6, _⟩ := hi.hist.w1 q h3 a2
  refine ⟨e, ?_, b2, b3, b4, by rw [b6, a3], by rw [b5, a4]⟩
  rw [← b1]
  simp only [ordL, List.getD, List.getElem?_map, List.getElem?_tail, List.getElem?_eq_getElem h1, Option.map_some, Option.getD_some]
  rw [a1, Int.toNat_natCast]
/-- A writer's place. -/
theorem ordL_of (hi : Inv es N off m g (fun _ => False)) {e : Nat} (hX : g.X e) (hd : g.dn e = true) : 1 ≤ g.ix (g.ps e) ∧ (ordL m g (lc es e))[g.ix (g.ps e) - 1]? = some (e : Int) := by
  obtain ⟨a1, a2, a3⟩ := hi.hist.dp e hX hd
  obtain ⟨b1, b2⟩ := hi.hist.ps e hX a1
  obtain ⟨c1, c2⟩ := hi.lines.inn _ b1
  rw [b2] at c1 c2
  have h1 : 1 ≤ g.ix (g.ps e) := by
    refine Nat.le_of_not_lt fun h => ?_
    have h0 : g.ix (g.ps e) = 0 := by omega
    obtain ⟨d1, d2⟩ := hi.lines.inn (lc es e) (by have := hi.lines.m3; omega)
    rw [(hi.lines.z _ c1).1, (hi.lines.z _ c1).2] at d2
    rw [h0] at c2
    rw [c2] at d2
    have := Option.some.inj d2
    omega
  refine ⟨h1, ?_⟩
  simp only [ordL, List.getElem?_map, List.getElem?_tail]
  rw [show g.ix (g.ps e) - 1 + 1 = g.ix (g.ps e) by omega, c2]
  simp [a3]
theorem Pr.trans {a b c : Nat} (h1 : Pr g a b) (h2 : Pr g b c) : Pr g a c := fun d hd => h2 d (.inr (h1 d hd))
theorem Pr.lt (hs : Sets es N g) {a b : Nat} (h : Pr g a b) : g.X a ∧ g.X b ∧ g.T a < g.T b := hs.h a b (h a (.inl rfl))
theorem po_pr (hp : Shape es N off) (hi : Inv es N off m g (fun _ => False)) {a b : Nat} (hb : g.X b) (hab : a < b) (hth : (E es a).th = (E es b).th) : Pr g a b := by
  obtain ⟨t, h1, h2, h3⟩ := hp.locate (hi.hist.xn b hb)
  have h4 := hp.th t (b - off t) h1 (by omega)
  rw [show off t + (b - off t) = b by omega] at h4
  obtain ⟨i, h5, h6⟩ := hp.at_ (a := a) (by have := hi.hist.xn b hb; omega) h1 (hth.trans h4)
  have key : ∀ d, a + d + 1 ≤ b → Pr g a (a + d + 1) := fun d => by
    induction d with
    | zero =>
      intro hd
      have hX : g.X (a + 1) := by
        by_cases h : a + 1 = b
        · rw [h]; exact hb
        · refine hi.sets.dc _ b hb (by omega) ?_
          have := hp.th t (a + 1 - off t) h1 (by omega)
          rw [show off t + (a + 1 - off t) = a + 1 by omega] at this
          rw [this, h4]
      refine (hi.sets.po a hX ?_).2
      have := hp.th t (a + 1 - off t) h1 (by omega)
      rw [show off t + (a + 1 - off t) = a + 1 by omega] at this
      rw [this, hth, h4]
    | succ d ih =>
      intro hd
      have hX : g.X (a + (d + 1) + 1) := by
        by_cases h : a + (d + 1) + 1 = b
        · rw [h]; exact hb
        · refine hi.sets.dc _ b hb (by omega) ?_
          have := hp.th t (a + (d + 1) + 1 - off t) h1 (by omega)
          rw [show off t + (a + (d + 1) + 1 - off t) = a + (d + 1) + 1 by omega] at this
          rw [this, h4]
      refine (ih (by omega)).trans (hi.sets.po (a + (d + 1)) hX ?_).2
      have e1 := hp.th t (a + (d + 1) + 1 - off t) h1 (by omega)
      have e2 := hp.th t (a + (d + 1) - off t) h1 (by omega)
      rw [show off t + (a + (d + 1) + 1 - off t) = a + (d + 1) + 1 by omega] at e1
      rw [show off t + (a + (d + 1) - off t) = a + (d + 1) by omega] at e2
      rw [e1, e2]
  have := key (b - a - 1) (by omega)
  rwa [show a + (b - a - 1) + 1 = b by omega] at this
def keyOf (g : Gh) (a : Nat) : Nat := 2 * g.ix (g.ps a) + (if g.dn a then 0 else 1)
theorem key_bounds (g : Gh) (a : Nat) : keyOf g a ≤ 2 * g.ix (g.ps a) + 1 ∧ (g.dn a = true → keyOf g a = 2 * g.ix (g.ps a)) ∧ (g.dn a = false → keyOf g a = 2 * g.ix (g.ps a) + 1) := by
  unfold keyOf
  cases g.dn a <;> simp
/-- From which message an event read. -/
theorem rd_from (hi : Inv es N off m g (fun _ => False)) {e : Nat} (hX : g.X e) (hr : isRd (E es e) = true) : ∃ q, q < m.msgs.length ∧ g.ml q = lc es e ∧ g.fr e = g.wr q ∧ g.rv e = (m.msg q).word ∧ (g.dn e = false → g.ps e = q) ∧ (g.dn e = true → g.ix (g.ps e) = g.ix q + 1) ∧
    ((q < 3 ∧ g.wr q = -1 ∧ (m.msg q).word = 0 ∧ g.ix q = 0) ∨ (∃ w : Nat, g.wr q = (w : Int) ∧ g.X w ∧ g.dn w = true ∧ wk (E es w) ∧ g.ps w = q ∧ lc es w = lc es e ∧ (m.msg q).word = wval (E es w) (g.rv w))) := by
  obtain ⟨q, a1, a2, a3, a4, a5, a6⟩ := hi.hist.rd e hX hr
  refine ⟨q, a1, a2, a3, a4, a5, a6, ?_⟩
  by_cases h : q < 3
  · obtain ⟨b1, b2, _⟩ := hi.hist.w0 q h
    exact .inl ⟨h, b1, b2, (hi.lines.z q h).2⟩
  · obtain ⟨w, b1, b2, b3, b4, b5, b6, b7, _⟩ := hi.hist.w1 q (by omega) a1
    exact .inr ⟨w, b1, b2, b3, b4, b5, by rw [b6, a2], b7⟩
theorem key_read (hi : Inv es N off m g (fun _ => False)) {e q : Nat} (a5 : g.dn e = false → g.ps e = q) (a6 : g.dn e = true → g.ix (g.ps e) = g.ix q + 1) : keyOf g e = if g.dn e then 2 * g.ix q + 2 else 2 * g.ix q + 1 := by
  unfold keyOf
  cases hd : g.dn e with
  | true => rw [a6 hd, if_pos rfl, if_pos rfl]; omega
  | false => rw [a5 hd]; simp
theorem broken_good (hp : Shape es N off) (hi : Inv es N off m g (fun _ => False)) (hall : ∀ e, e < es.length → g.X e) {s : List Int} (hs : ∀ k, k + 1 < s.length → Pr g (s.getD k 0).toNat (s.getD (k + 1) 0).toNat) :
    brokenF es (exOf es.length m g s) = 0 := by
  have hfr : ∀ i, i < es.length → (exOf es.length m g s).fr.getD i 0 = g.fr i := fun i h => getD_rng h
  have hdn : ∀ i, i < es.length → (exOf es.length m g s).dn.getD i false = g.dn i := fun i h => getD_rng h
  have S := hi.sets
  have hxn := hi.hist.xn
  refine broken_zero (T := g.T) (P := Pr g) (E := fun a b => g.X a ∧ g.X b ∧ acc (E es a) ∧ acc (E es b) ∧ lc es a = lc es b ∧ keyOf g a < keyOf g b)
    (C := fun r w => g.X r ∧ isRd (E es r) = true ∧ 0 ≤ g.fr r ∧ g.X w ∧ g.dn w = true ∧ ∀ c, g.ms (g.ps w) c → g.ms (g.ps (g.fr r).toNat) c)
    (fun a b c => Pr.trans) (fun a b c h1 h2 => ⟨h1.1, h2.2.1, h1.2.2.1, h2.2.2.2.1, h1.2.2.2.2.1.trans h2.2.2.2.2.1, Nat.lt_trans h1.2.2.2.2.2 h2.2.2.2.2.2⟩) (fun a b h => (h.lt S).2.2) ?_ ?_ hs ?_ ?_ ?_ ?_ ?_ ?_ ?_ ?_
  · intro a b h1 h2
    obtain ⟨_, _, h3, h4, h5, h6⟩ := h2
    obtain ⟨c1, c2⟩ := S.co a b (h1 a (.inl rfl)) h4 h3 h5.symm
    obtain ⟨ka, _, _⟩ := key_bounds g a
    obtain ⟨_, kb, kb2⟩ := key_bounds g b
    cases hd : g.dn b with
    | true =>
      have := c2 hd
      have := kb hd
      omega
    | false =>
      have := kb2 hd
      omega
  · exact fun k h1 h2 => (S.po k (hall _ h1) h2).2
  · intro k hk h0
    rw [hfr k hk] at h0 ⊢
    exact hi.hist.rT k (hall k hk) h0
  · intro r hr hrd h0
    rw [hfr r hr] at h0 ⊢
    obtain ⟨h1, h2⟩ := S.fX r (hall r hr) hrd h0
    exact ⟨hall r hr, hrd, h0, h1, h2, fun c hc => hc⟩
  · intro r w hC hex h0
    obtain ⟨c1, c2, c3, c4, c5, c6⟩ := hC
    have hw := hxn w c4
    unfold exchF at hex
    rw [Bool.and_eq_true] at hex
    rw [hfr w hw] at h0 ⊢
    obtain ⟨h1, h2⟩ := S.fX w c4 hex.1 h0
    exact ⟨c1, c2, c3, h1, h2, fun c hc => c6 c (S.s3c w c4 c5 hex.1 h0 c hc)⟩
  · intro r w a b hC hst hen c hc
    obtain ⟨c1, c2, c3, c4, c5, c6⟩ := hC
    have h1 := c6 c (S.s3 w c4 c5 a hst c hc)
    rcases hen with ⟨rfl, hac⟩ | ⟨e1, e2, e3, e4, e5⟩
    · exact (S.s4 b c1 c2 c3).2 hac c h1
    · exact S.s4b r b c1 (hall b e2) c2 c3 e1 e3 e4 e5 c h1
  · intro k i j hij hj
    by_cases hk : k < 3
    · rw [ordL_getD k hk] at hj ⊢
      obtain ⟨a, a1, a2, a3, a4, a5, a6⟩ := ordL_at hi hk (by omega : i < _)
      obtain ⟨b, b1, b2, b3, b4, b5, b6⟩ := ordL_at hi hk hj
      rw [a1, b1, Int.toNat_natCast, Int.toNat_natCast]
      refine ⟨a2, b2, wk_acc a4, wk_acc b4, by rw [a5, b5], ?_⟩
      unfold keyOf
      rw [a3, b3, a6, b6]; simp; omega
    · rw [List.getD, List.getElem?_eq_none (by show 3 ≤ k; omega)] at hj
      simp at hj
  · intro i hil hr h0
    rw [hfr i hil] at h0 ⊢
    obtain ⟨q, a1, a2, a3, a4, a5, a6, hq⟩ := rd_from hi (hall i hil) hr
    rcases hq with ⟨_, h, _⟩ | ⟨w, b1, b2, b3, b4, b5, b6, _⟩
    · rw [a3, h] at h0; omega
    · rw [a3, b1, Int.toNat_natCast]
      refine ⟨b2, hall i hil, wk_acc b4, acc_isRd hr, b6, ?_⟩
      rw [key_read hi a5 a6]
      have hk := (key_bounds g w).2.1 b3
      rw [b5] at hk
      rw [hk]
      split <;> omega
  · intro i hil hr l hl j hj hne hfrom
    have hl3 := hp.lc3 i
    have hl' : l = ordL m g (lc es i) := by rw [hl]; exact ordL_getD _ hl3 s
    rw [hfr i hil] at hfrom
    rw [hl'] at hj hne hfrom ⊢
    obtain ⟨b, b1, b2, b3, b4, b5, b6⟩ := ordL_at hi hl3 hj
    rw [b1] at hne
    rw [b1, Int.toNat_natCast]
    obtain ⟨q, a1, a2, a3, a4, a5, a6, hq⟩ := rd_from hi (hall i hil) hr
    refine ⟨hall i hil, b2, acc_isRd hr, wk_acc b4, b5.symm, ?_⟩
    have hqj : g.ix q ≤ j := by
      rcases hfrom with hf | ⟨k, hk, hf⟩
      · rcases hq with ⟨_, _, _, h⟩ | ⟨w, h, _⟩
        · omega
        · rw [a3, h] at hf; omega
      · obtain ⟨c, d1, d2, d3, d4, d5, d6⟩ := ordL_at hi hl3 (by omega : k < _)
        rw [d1, a3] at hf
        rcases hq with ⟨_, h, _⟩ | ⟨w, h, _, _, _, h5, _⟩
        · rw [h] at hf; omega
        · have : c = w := by omega
          subst this
          rw [← h5]; omega
    rw [key_read hi a5 a6]
    have hkb : keyOf g b = 2 * (j + 1) := by unfold keyOf; rw [b3, b6]; simp
    rw [hkb]
    split
    · rename_i hd
      have h7 := a6 hd
      have : g.ix q ≠ j := fun hqj2 => by
        apply hne
        have h8 := (ordL_of hi (hall i hil) hd).2
        rw [h7, hqj2, Nat.add_sub_cancel] at h8
        rw [← b1, List.getD, h8, Option.getD_some]
      omega
    · omega
  · intro l hl j hj hr
    obtain ⟨k, hk, rfl⟩ : ∃ k, k < 3 ∧ l = ordL m g k := by
      have : l ∈ [ordL m g 0, ordL m g 1, ordL m g 2] := hl
      simp only [List.mem_cons, List.not_mem_nil, or_false] at this
      rcases this with h | h | h
      · exact ⟨0, by omega, h⟩
      · exact ⟨1, by omega, h⟩
      · exact ⟨2, by omega, h⟩
    obtain ⟨b, b1, b2, b3, b4, b5, b6⟩ := ordL_at hi hk hj
    rw [b1] at hr
    rw [b1, Int.toNat_natCast, hfr b (hxn b b2)]
    obtain ⟨q, a1, a2, a3, a4, a5, a6, hq⟩ := rd_from hi b2 hr
    have h7 := a6 b3
    rw [a3]
    split
    · rename_i hj0
      rcases hq with ⟨_, h, _⟩ | ⟨w, _, hw, hwd, _, h5, _⟩
      · exact h
      · have := (ordL_of hi hw hwd).1
        rw [h5] at this; omega
    · rename_i hj0
      rcases hq with ⟨_, _, _, h⟩ | ⟨w, h, hw, hwd, _, h5, h6, _⟩
      · omega
      · have h8 := (ordL_of hi hw hwd).2
        rw [h5, h6, b5, show g.ix q - 1 = j - 1 by omega] at h8
        rw [List.getD, h8, h]; rfl
end
end Go.Proofs.YtkddckfgdiemkaaGreat
