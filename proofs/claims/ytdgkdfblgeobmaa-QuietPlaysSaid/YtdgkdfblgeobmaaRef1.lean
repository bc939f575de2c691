/-
  The document's manager of grace periods: the plain part, in memory, and the walks of its small functions.
-/
import Derived.Test.YtdgkdfblgeobmaaLaws0
import Derived.Test.YtdgkdfblgeobmaaAppRow
set_option linter.unusedVariables false
set_option linter.unusedSimpArgs false
namespace Go.Proofs.Ytdgkdfblgeobmaa
open Go.RowKit Mem Qm
set_option maxRecDepth 100000

/-! Who is inside, as a list in the order of entering: one of a few lists. -/
def ext (L : List (List Int)) : List (List Int) := L.flatMap fun l => (([0, 1, 2, 3] : List Int).filter fun t => !hasL l t).map fun t => l ++ [t]
def allL : List (List Int) := [[]] ++ (ext [[]] ++ (ext (ext [[]]) ++ (ext (ext (ext [[]])) ++ ext (ext (ext (ext [[]]))))))
def crOf (I : List Int) : Cr := ⟨hasL I 0, hasL I 1, hasL I 2, hasL I 3⟩
def crEq (x y : Cr) : Bool := (x.a == y.a) && ((x.b == y.b) && ((x.c == y.c) && (x.d == y.d)))
theorem crEq_eq {x y : Cr} (h : crEq x y = true) : x = y := by
  obtain ⟨a, b, c, d⟩ := x
  obtain ⟨e, f, g, i⟩ := y
  simp only [crEq, Bool.and_eq_true, beq_iff_eq] at h
  obtain ⟨h1, h2, h3, h4⟩ := h
  subst h1 h2 h3 h4
  rfl
def nth (l : List Int) (k : Nat) : Int := l.getD k 0
def swp (l : List Int) (k : Nat) : List Int := (l.set (k + 1) (nth l k)).set k (nth l (k + 1))
def sink : List Int → Nat → List Int
  | l, 0 => l
  | l, k + 1 => if nth l (k + 1) < nth l k then sink (swp l k) k else l
def srt (l : List Int) : Nat → List Int
  | 0 => l
  | i + 1 => sink (srt l i) (i + 1)
def sortL (l : List Int) : List Int := srt l (l.length - 1)
theorem swp_length (l : List Int) (k : Nat) : (swp l k).length = l.length := by simp [swp]
theorem sink_length : ∀ (k : Nat) (l : List Int), (sink l k).length = l.length
  | 0, l => rfl
  | k + 1, l => by
    simp only [sink]
    split
    · rw [sink_length k, swp_length]
    · rfl
theorem srt_length (l : List Int) : ∀ i, (srt l i).length = l.length
  | 0 => rfl
  | i + 1 => by simp only [srt]; rw [sink_length, srt_length l i]
theorem all_sort : (allL.all fun I => sortL I == (crOf I).list) = true := by decide +kernel
theorem all_put : (allL.all fun I => ([0, 1, 2, 3] : List Int).all fun t => hasL I t || (allL.contains (I ++ [t]) && crEq (crOf (I ++ [t])) ((crOf I).set t true))) = true := by decide +kernel
theorem all_keep : (allL.all fun I => ([0, 1, 2, 3] : List Int).all fun t => !hasL I t || crEq (crOf I) ((crOf I).set t true)) = true := by decide +kernel
theorem all_drop : (allL.all fun I => ([0, 1, 2, 3] : List Int).all fun t => allL.contains (without I t) && crEq (crOf (without I t)) ((crOf I).set t false)) = true := by decide +kernel
theorem all_len : (allL.all fun I => decide (I.length ≤ 4)) = true := by decide +kernel
theorem all_nil : (allL.all fun I => I.isEmpty == (crOf I).no) = true := by decide +kernel
theorem mem4 {t : Int} (h0 : 0 ≤ t) (h4 : t < 4) : t ∈ ([0, 1, 2, 3] : List Int) := by
  rcases (show t = 0 ∨ t = 1 ∨ t = 2 ∨ t = 3 by omega) with rfl | rfl | rfl | rfl <;> simp
theorem sort_is {I : List Int} (h : I ∈ allL) : sortL I = (crOf I).list := by
  have := List.all_eq_true.1 all_sort I h
  exact eq_of_beq this
theorem put_is' {I : List Int} (h : I ∈ allL) {t : Int} (h0 : 0 ≤ t) (h4 : t < 4) (hn : hasL I t = false) : I ++ [t] ∈ allL ∧ crOf (I ++ [t]) = (crOf I).set t true := by
  have := List.all_eq_true.1 (List.all_eq_true.1 all_put I h) t (mem4 h0 h4)
  rw [hn, Bool.false_or, Bool.and_eq_true] at this
  exact ⟨by simpa using this.1, crEq_eq this.2⟩
theorem keep_is {I : List Int} (h : I ∈ allL) {t : Int} (h0 : 0 ≤ t) (h4 : t < 4) (hn : hasL I t = true) : crOf I = (crOf I).set t true := by
  have := List.all_eq_true.1 (List.all_eq_true.1 all_keep I h) t (mem4 h0 h4)
  rw [hn, Bool.not_true, Bool.false_or] at this
  exact crEq_eq this
theorem drop_is {I : List Int} (h : I ∈ allL) {t : Int} (h0 : 0 ≤ t) (h4 : t < 4) : without I t ∈ allL ∧ crOf (without I t) = (crOf I).set t false := by
  have := List.all_eq_true.1 (List.all_eq_true.1 all_drop I h) t (mem4 h0 h4)
  rw [Bool.and_eq_true] at this
  exact ⟨by simpa using this.1, crEq_eq this.2⟩
theorem len_is {I : List Int} (h : I ∈ allL) : I.length ≤ 4 := of_decide_eq_true (List.all_eq_true.1 all_len I h)
theorem nil_is {I : List Int} (h : I ∈ allL) : (I = []) ↔ (crOf I).no = true := by
  have := eq_of_beq (List.all_eq_true.1 all_nil I h)
  rw [← this, List.isEmpty_iff]
theorem list_without (x : Cr) {t : Int} (h0 : 0 ≤ t) (h4 : t < 4) : without x.list t = (x.set t false).list := by
  obtain ⟨a, b, c, d⟩ := x
  rcases (show t = 0 ∨ t = 1 ∨ t = 2 ∨ t = 3 by omega) with rfl | rfl | rfl | rfl <;> cases a <;> cases b <;> cases c <;> cases d <;> decide
theorem list_nil (x : Cr) : x.list.length = 0 ↔ x.no = true := by
  obtain ⟨a, b, c, d⟩ := x
  cases a <;> cases b <;> cases c <;> cases d <;> decide
theorem list_le (x : Cr) : x.list.length ≤ 4 := by
  obtain ⟨a, b, c, d⟩ := x
  cases a <;> cases b <;> cases c <;> cases d <;> decide

/-! In memory. -/
abbrev It := W × Value
def iCells (x : It) : List Value := [.int .i64 x.1.1, x.2]
def flatI (L : List It) : List Value := L.flatMap iCells
theorem flatI_length : ∀ L : List It, (flatI L).length = L.length * 2
  | [] => rfl
  | x :: t => by simp only [flatI, List.flatMap_cons, List.length_append, List.length_cons]; have := flatI_length t; simp only [flatI] at this; rw [this]; simp [iCells]; omega
theorem flatI_app (a b : List It) : flatI (a ++ b) = flatI a ++ flatI b := by simp [flatI]
theorem flatI_at : ∀ (L : List It) (j : Nat) (h : j < L.length) (i : Nat), i < 2 → (flatI L)[j * 2 + i]? = (iCells L[j])[i]?
  | x :: t, 0, _, i, hi => by
    simp only [flatI, List.flatMap_cons, List.getElem_cons_zero, Nat.zero_mul, Nat.zero_add]
    rw [List.getElem?_append_left (by simp [iCells]; omega)]
  | x :: t, j + 1, h, i, hi => by
    have ih := flatI_at t j (by simpa using h) i hi
    simp only [flatI, List.flatMap_cons, List.getElem_cons_succ] at ih ⊢
    rw [List.getElem?_append_right (by simp [iCells]; omega), ← ih]
    congr 1
    simp [iCells]; omega
/-- The threads for which an item waits, as a list of its own. -/
def Sub (w : World) (B : Nat) (x : It) : Prop := Own w B x.2 x.1.2.list
/-- The document's manager at block g: who is inside, iv; what waits, mv. -/
structure IsQ (w : World) (B g : Nat) (iv mv : Value) (q : Q) (I : List Int) (its : List It) : Prop where
  lo : B ≤ g
  blk : Blk w g 65 [.int .i64 q.n, iv, mv]
  irow : Own w B iv I
  mrow : Row w B 69 2 mv its.length (flatI its)
  sub : ∀ x ∈ its, Sub w B x
  ap : ∀ x ∈ its, ∀ i, x.2.ownBlock = some i → iv.ownBlock ≠ some i
  eqw : its.map (·.1) = q.ws
  mem : I ∈ allL
  ins : crOf I = q.ins
def footQ (g : Nat) (iv mv : Value) (its : List It) (k : Nat) : Prop := k = g ∨ iv.ownBlock = some k ∨ mv.ownBlock = some k ∨ ∃ x ∈ its, x.2.ownBlock = some k
section
variable {w w' : World} {B g : Nat} {iv mv : Value} {q : Q} {I : List Int} {its : List It}
theorem IsQ.keep {S : Nat → Prop} (h : IsQ w B g iv mv q I its) (k : Kept w w' S) (hs : ∀ i, footQ g iv mv its i → ¬ S i) : IsQ w' B g iv mv q I its :=
  ⟨h.lo, h.blk.keep k (hs g (.inl rfl)), Row.keep h.irow k (fun i hi => hs i (.inr (.inl hi))), Row.keep h.mrow k (fun i hi => hs i (.inr (.inr (.inl hi)))), fun x hx => Row.keep (h.sub x hx) k (fun i hi => hs i (.inr (.inr (.inr ⟨x, hx, hi⟩)))), h.ap, h.eqw, h.mem, h.ins⟩
theorem IsQ.below (h : IsQ w B g iv mv q I its) (k : Below w.heap.size w w') : IsQ w' B g iv mv q I its := h.keep (Kept.of_below k (fun _ => False)) (fun _ _ => id)
theorem IsQ.foot_lo (h : IsQ w B g iv mv q I its) : ∀ k, footQ g iv mv its k → B ≤ k := by
  rintro k (rfl | hk | hk | ⟨x, hx, hk⟩)
  · exact h.lo
  · exact (Row.at_lt h.irow hk).1
  · exact (Row.at_lt h.mrow hk).1
  · exact (Row.at_lt (h.sub x hx) hk).1
theorem IsQ.foot_lt (h : IsQ w B g iv mv q I its) : ∀ k, footQ g iv mv its k → k < w.heap.size := by
  rintro k (rfl | hk | hk | ⟨x, hx, hk⟩)
  · exact h.blk.lt
  · exact (Row.at_lt h.irow hk).2
  · exact (Row.at_lt h.mrow hk).2
  · exact (Row.at_lt (h.sub x hx) hk).2
theorem IsQ.len (h : IsQ w B g iv mv q I its) : its.length = q.ws.length := by rw [← h.eqw]; simp
theorem IsQ.ne_i (h : IsQ w B g iv mv q I its) : iv.ownBlock ≠ some g := Row.ne_blk h.irow h.blk (by decide)
theorem IsQ.ne_m (h : IsQ w B g iv mv q I its) : mv.ownBlock ≠ some g := Row.ne_blk h.mrow h.blk (by decide)
theorem IsQ.ne_im (h : IsQ w B g iv mv q I its) {k : Nat} (hi : iv.ownBlock = some k) : mv.ownBlock ≠ some k := Row.ne_row h.irow h.mrow (by decide) hi
end
theorem rnew_no {w : World} {n : Int} (h : ¬ (1 ≤ n ∧ n ≤ 4)) :
    Calls Try.prog 22 #[.int .i64 n] w fun e w' => e = res (.pointer none) 1 ∧ w = w' := by
  by_cases h0 : n < 1
  · go_enter Try.func22, Try.ntmps22
    go_wp2
    go_ret2
    exact ⟨rfl, rfl⟩
  · have h1 : 4 < n := by omega
    clear h
    go_enter Try.func22, Try.ntmps22
    go_wp2
    go_ret2
    exact ⟨rfl, rfl⟩
theorem rnew_yes {w : World} {n : Int} (h0 : 1 ≤ n) (h1 : n ≤ 4) :
    Calls Try.prog 22 #[.int .i64 n] w fun e w' => e = res (.pointer (some ⟨w.heap.size, 0, none⟩)) 0 ∧ IsQ w' w.heap.size w.heap.size (.slice none 0 0) (.slice none 0 0) (q0 n) [] [] ∧ Below w.heap.size w w' := by
  go_enter Try.func22, Try.ntmps22
  go_wp2
  go_ret2
  refine ⟨rfl, ⟨Nat.le_refl _, Blk.new w 65 _, Own.nil _ _, World.ownsRow_nil _ _ _ _, fun x hx => (by cases hx), fun x hx => (by cases hx), rfl, (by decide), rfl⟩, (Below.refl _ _).alloc (Nat.le_refl _) _⟩
theorem isThread_yes {w : World} {B g : Nat} {iv mv : Value} {q : Q} {I : List Int} {its : List It} (h : IsQ w B g iv mv q I its) (t : Int) (ht : q.ok t) :
    Calls Try.prog 44 #[.pointer (some ⟨g, 0, none⟩), .int .i64 t] w fun e w' => e = .returned (.bool true) ∧ w = w' := by
  obtain ⟨h0, h1⟩ := ht
  have c1 := h.blk.cell 0 rfl
  go_enter Try.func44, Try.ntmps44
  go_wp2
  go_ret
  exact ⟨rfl, rfl⟩
theorem isThread_no {w : World} {B g : Nat} {iv mv : Value} {q : Q} {I : List Int} {its : List It} (h : IsQ w B g iv mv q I its) (t : Int) (ht : ¬ q.ok t) :
    Calls Try.prog 44 #[.pointer (some ⟨g, 0, none⟩), .int .i64 t] w fun e w' => e = .returned (.bool false) ∧ w = w' := by
  have c1 := h.blk.cell 0 rfl
  by_cases h0 : 0 ≤ t
  · have h1 : ¬ t < q.n := fun h1 => ht ⟨h0, h1⟩
    clear ht
    go_enter Try.func44, Try.ntmps44
    go_wp2
    go_ret
    exact ⟨rfl, rfl⟩
  · clear ht
    go_enter Try.func44, Try.ntmps44
    go_wp2
    go_ret
    exact ⟨rfl, rfl⟩
theorem rbound_yes {w : World} {n : Int} (h0 : 1 ≤ n) (h1 : n ≤ 4) :
    Calls Try.prog 24 #[.int .i64 n] w fun e w' => e = .returned (.tuple #[.int .i64 (-1), .int .i64 0]) ∧ w = w' := by
  go_enter Try.func24, Try.ntmps24
  go_wp2
  go_ret2
  exact ⟨rfl, rfl⟩
theorem rbound_no {w : World} {n : Int} (h : ¬ (1 ≤ n ∧ n ≤ 4)) :
    Calls Try.prog 24 #[.int .i64 n] w fun e w' => e = .returned (.tuple #[.int .i64 0, .int .i64 1]) ∧ w = w' := by
  by_cases h0 : n < 1
  · go_enter Try.func24, Try.ntmps24
    go_wp2
    go_ret2
    exact ⟨rfl, rfl⟩
  · have h1 : 4 < n := by omega
    clear h
    go_enter Try.func24, Try.ntmps24
    go_wp2
    go_ret2
    exact ⟨rfl, rfl⟩
theorem rrest_any {w : World} {p : Value} :
    Calls Try.prog 39 #[p] w fun e w' => e = .returned (.slice none 0 0) ∧ w = w' := by
  go_enter Try.func39, Try.ntmps39
  go_wp2
  go_ret
  exact ⟨rfl, rfl⟩
/-- A copy of a list of numbers. -/
theorem rcopy_any {w : World} {v : Value} {l : List Int} (h : RdI w v l) (h0 : 0 < l.length) (hl : l.length < 1000000) :
    Calls Try.prog 46 #[v] w (Gives l w) := by
  obtain ⟨i0, hi0, hz0, hz1, hz2⟩ := info_one info3
  obtain ⟨hlen, A, c, rfl, hc1, hc2, hcell⟩ := h
  · obtain ⟨b, off, rfl, hb, hc⟩ := hcell h0
    clear hcell
    go_enter Try.func46, Try.ntmps46
    go_wp2_with (at_builtin; refine wpList_append_own_at _ rfl (.tmp 3) (.tmp 4) 28 rfl w.heap.size 3 i0 _ 1 8 Try.underlying28 hi0 hz0 hz1 hz2 rfl (by decide) (.slice (some ⟨w.heap.size, 0, none⟩) 0 0) 0 [] rfl ?c0 ⟨b, off, none⟩ l.length c (ints l) rfl (by simp [ints]) ?c1 ?c2 ?c3 ?c4 ?c5 ?_)
    case c0 => exact World.ownsRow_made w #[] 0 (Nat.le_refl _) (by simp [maxLen]) (by simp)
    case c1 =>
      intro j u hu
      have h9 := hc j u hu
      rw [show (⟨b, off, none⟩ : Addr).add j = ⟨b, off + j, none⟩ by unfold Addr.add; split <;> simp_all, World.cell?_alloc_past _ _ _ hb]
      exact h9
    case c2 =>
      intro u hu
      simp only [ints, List.mem_map] at hu
      obtain ⟨x, _, rfl⟩ := hu
      rfl
    case c3 => simp only [maxLen]; omega
    case c4 => omega
    case c5 => simp
    intro v1 w1 hown hgr _ _
    have HO := Lib.hid (show Own w1 w.heap.size v1 l by simpa [Own, ints] using hown)
    have hbel : Below w.heap.size w w1 := ((Below.refl _ w).alloc (Nat.le_refl _) _).grown hgr (by simp) (fun k hk => by simp [Value.ownBlock] at hk; omega)
    clear hc hgr hown
    go_wp2
    go_ret
    exact ⟨v1, rfl, HO.out, hbel⟩
end Go.Proofs.Ytdgkdfblgeobmaa
