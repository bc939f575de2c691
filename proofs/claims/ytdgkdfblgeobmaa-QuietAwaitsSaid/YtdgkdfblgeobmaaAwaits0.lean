/-
  Who is waited for, reckoned from the deeds alone: the plain part.
-/
import Derived.Test.YtdgkdfblgeobmaaLaws0
set_option linter.unusedVariables false
set_option linter.unusedSimpArgs false
namespace Go.Proofs.Ytdgkdfblgeobmaa
open Go.RowKit Mem Qm

/-- A number of a list, 0 beyond it. -/
def nth (l : List Int) (t : Nat) : Int := l.getD t 0
theorem nth_at {l : List Int} {t : Nat} (h : t < l.length) : l[t] = nth l t := by simp [nth, List.getD_eq_getElem?_getD, List.getElem?_eq_getElem h]
theorem nth_set {l : List Int} {t : Nat} (h : t < l.length) (x : Int) (i : Nat) : nth (l.set t x) i = if i = t then x else nth l i := by
  simp only [nth, List.getD_eq_getElem?_getD, List.getElem?_set]
  by_cases e : t = i
  · subst e; simp [h]
  · rw [if_neg e, if_neg (fun h => e h.symm)]
/-- The book that the law keeps: when each thread came in, when it left last, what was retired, and when. -/
structure Bk where
  ins : List Int
  left : List Int
  ars : List Int
  wn : List Int
def book (b : Bk) (k : Nat) (d : Deed) : Bk :=
  if d.what = 0 then (if nth b.ins d.th.toNat = 0 then { b with ins := b.ins.set d.th.toNat ((k : Int) + 1) } else b)
  else if d.what = 1 then { b with ins := b.ins.set d.th.toNat 0, left := b.left.set d.th.toNat ((k : Int) + 1) }
  else if d.what = 4 then { b with ars := b.ars ++ [d.ad], wn := b.wn ++ [(k : Int) + 1] } else b
/-- When an address was retired last, among the first j. -/
def lastTo (ars wn : List Int) (a : Int) : Nat → Int
  | 0 => 0
  | j + 1 => if nth ars j = a then nth wn j else lastTo ars wn a j
def lastOf (b : Bk) (a : Int) : Int := lastTo b.ars b.wn a b.ars.length
theorem lastTo_app (ars wn : List Int) (a x y : Int) : ∀ j, j ≤ ars.length → ars.length = wn.length → lastTo (ars ++ [x]) (wn ++ [y]) a j = lastTo ars wn a j
  | 0, _, _ => rfl
  | j + 1, h, hl => by
    have ih := lastTo_app ars wn a x y j (by omega) hl
    simp only [lastTo, ih]
    have e1 : nth (ars ++ [x]) j = nth ars j := by simp [nth, List.getD_eq_getElem?_getD, List.getElem?_append_left (show j < ars.length by omega)]
    have e2 : nth (wn ++ [y]) j = nth wn j := by simp [nth, List.getD_eq_getElem?_getD, List.getElem?_append_left (show j < wn.length by omega)]
    rw [e1, e2]
def awaited (b : Bk) (last : Int) (t : Nat) : Bool := decide (0 < nth b.ins t) && (decide (nth b.ins t < last) && decide (nth b.left t < last))
def wantTo (b : Bk) (last : Int) : Nat → List Int
  | 0 => []
  | t + 1 => wantTo b last t ++ (if awaited b last t then [(t : Int)] else [])
theorem wantTo_len (b : Bk) (last : Int) : ∀ t, (wantTo b last t).length ≤ t
  | 0 => Nat.le_refl 0
  | t + 1 => by have := wantTo_len b last t; simp only [wantTo, List.length_append]; split <;> simp <;> omega
/-- The book fits the manager. -/
structure Fits (q : Q) (b : Bk) (m k : Nat) : Prop where
  li : b.ins.length = m
  ll : b.left.length = m
  lw : b.ars.length = b.wn.length
  la : b.ars.length ≤ k
  ri : ∀ t, t < m → 0 ≤ nth b.ins t ∧ nth b.ins t ≤ k
  rl : ∀ t, t < m → nth b.left t ≤ k
  rw : ∀ j, j < b.wn.length → nth b.wn j ≤ k
  on : ∀ t, t < m → q.ins.get (t : Int) = decide (0 < nth b.ins t)
  aw : ∀ x ∈ q.ws, ∀ t, t < m → x.2.get (t : Int) = awaited b (lastOf b x.1) t
theorem lastTo_le {q : Q} {b : Bk} {m k : Nat} (h : Fits q b m k) (a : Int) : ∀ j, j ≤ b.ars.length → lastTo b.ars b.wn a j ≤ k
  | 0, _ => by simp only [lastTo]; omega
  | j + 1, hj => by
    have ih := lastTo_le h a j (by omega)
    simp only [lastTo]
    split
    · exact h.rw j (by have := h.lw; omega)
    · exact ih
theorem fits_later {q : Q} {b : Bk} {m k : Nat} (h : Fits q b m k) : Fits q b m (k + 1) :=
  ⟨h.li, h.ll, h.lw, by have := h.la; omega, fun t ht => by have := h.ri t ht; omega, fun t ht => by have := h.rl t ht; omega, fun j hj => by have := h.rw j hj; omega, h.on, h.aw⟩
theorem step_err {q : Q} {d : Deed} (h : (stepQ q d).2.2 ≠ 0) : (stepQ q d).1 = q := by
  revert h
  unfold stepQ inQ outQ holdQ bornQ retQ
  repeat' split
  all_goals first | (intro _; rfl) | (intro h; exact absurd rfl h)
theorem nth_range {l : List Int} {t : Nat} (h : nth l t ≠ 0) : t < l.length := by
  by_cases e : t < l.length
  · exact e
  · exact absurd (by simp [nth, List.getD_eq_getElem?_getD, List.getElem?_eq_none (Nat.le_of_not_lt e)]) h
theorem fits_in {q : Q} {b : Bk} {m k : Nat} {d : Deed} (h : Fits q b m k) (hm : q.n = m) (h4 : m ≤ 4) (hw : d.what = 0) (ht : q.ok d.th) : Fits (q.in_ d.th) (book b k d) m (k + 1) := by
  obtain ⟨h0, h1⟩ := ht
  have hj : d.th.toNat < m := by omega
  have hjt : (d.th.toNat : Int) = d.th := by omega
  have L := fits_later h
  simp only [book, if_pos hw]
  by_cases e : nth b.ins d.th.toNat = 0
  · rw [if_pos e]
    have hset := fun i => nth_set (l := b.ins) (t := d.th.toNat) (by rw [h.li]; exact hj) ((k : Int) + 1) i
    refine ⟨by simp [h.li], h.ll, h.lw, L.la, fun t ht => ?_, L.rl, L.rw, fun t ht => ?_, fun x hx t ht => ?_⟩
    · rw [hset]; split
      · omega
      · exact L.ri t ht
    · simp only [Q.in_]
      rw [get_set, hset]
      by_cases et : t = d.th.toNat
      · rw [if_pos ⟨by omega, by omega, by omega⟩, if_pos et]
        rw [decide_eq_true (by omega)]
      · rw [if_neg (by omega), if_neg et]; exact h.on t ht
    · have hx' : x ∈ q.ws := hx
      have ha := h.aw x hx' t ht
      rw [ha]
      have hlast : lastOf { b with ins := b.ins.set d.th.toNat ((k : Int) + 1) } x.1 = lastOf b x.1 := rfl
      rw [hlast]
      by_cases et : t = d.th.toNat
      · have hl := lastTo_le h x.1 b.ars.length (Nat.le_refl _)
        simp only [awaited]
        rw [hset, if_pos et, et, e]
        have : ¬ ((k : Int) + 1 < lastOf b x.1) := by show ¬ ((k : Int) + 1 < lastTo b.ars b.wn x.1 b.ars.length); omega
        simp [this]
      · simp only [awaited]
        rw [hset, if_neg et]
  · rw [if_neg e]
    refine ⟨L.li, L.ll, L.lw, L.la, L.ri, L.rl, L.rw, fun t ht => ?_, h.aw⟩
    simp only [Q.in_]
    rw [get_set]
    split
    · rename_i et
      have : t = d.th.toNat := by omega
      rw [this, decide_eq_true]
      have := h.ri d.th.toNat hj
      omega
    · exact h.on t ht
theorem fits_out {q : Q} {b : Bk} {m k : Nat} {d : Deed} (h : Fits q b m k) (hm : q.n = m) (h4 : m ≤ 4) (hw : d.what = 1) (ht : q.ok d.th) : Fits (q.out d.th) (book b k d) m (k + 1) := by
  obtain ⟨h0, h1⟩ := ht
  have hj : d.th.toNat < m := by omega
  have L := fits_later h
  simp only [book, if_neg (show ¬ d.what = 0 by omega), if_pos hw]
  have hset := fun i => nth_set (l := b.ins) (t := d.th.toNat) (by rw [h.li]; exact hj) 0 i
  have hsetl := fun i => nth_set (l := b.left) (t := d.th.toNat) (by rw [h.ll]; exact hj) ((k : Int) + 1) i
  refine ⟨by simp [h.li], by simp [h.ll], h.lw, L.la, fun t ht => ?_, fun t ht => ?_, L.rw, fun t ht => ?_, fun x hx t ht => ?_⟩
  · rw [hset]; split
    · omega
    · exact L.ri t ht
  · rw [hsetl]; split
    · omega
    · exact L.rl t ht
  · simp only [Q.out]
    rw [get_set, hset]
    by_cases et : t = d.th.toNat
    · rw [if_pos ⟨by omega, by omega, by omega⟩, if_pos et]; rfl
    · rw [if_neg (by omega), if_neg et]; exact h.on t ht
  · obtain ⟨hx1, _⟩ := List.mem_filter.1 hx
    obtain ⟨y, hy, rfl⟩ := List.mem_map.1 hx1
    have ha := h.aw y hy t ht
    simp only
    rw [get_set]
    have hlast : lastOf { b with ins := b.ins.set d.th.toNat 0, left := b.left.set d.th.toNat ((k : Int) + 1) } y.1 = lastOf b y.1 := rfl
    rw [hlast]
    simp only [awaited]
    rw [hset, hsetl]
    by_cases et : t = d.th.toNat
    · rw [if_pos ⟨by omega, by omega, by omega⟩, if_pos et]; rfl
    · rw [if_neg (by omega), if_neg et, if_neg et]; exact ha
theorem fits_ret {q : Q} {b : Bk} {m k : Nat} {d : Deed} (h : Fits q b m k) (hw : d.what = 4) (hd : hasB (addrs q.ws) d.ad = false) : Fits (q.ret d.ad) (book b k d) m (k + 1) := by
  have L := fits_later h
  simp only [book, if_neg (show ¬ d.what = 0 by omega), if_neg (show ¬ d.what = 1 by omega), if_pos hw]
  have hlast : ∀ a, lastOf { b with ars := b.ars ++ [d.ad], wn := b.wn ++ [(k : Int) + 1] } a = if d.ad = a then (k : Int) + 1 else lastOf b a := by
    intro a
    simp only [lastOf, List.length_append, List.length_cons, List.length_nil, Nat.zero_add, lastTo]
    have e1 : nth (b.ars ++ [d.ad]) b.ars.length = d.ad := by simp [nth, List.getD_eq_getElem?_getD]
    have e2 : nth (b.wn ++ [(k : Int) + 1]) b.ars.length = (k : Int) + 1 := by rw [h.lw]; simp [nth, List.getD_eq_getElem?_getD]
    rw [e1, e2, lastTo_app _ _ _ _ _ _ (Nat.le_refl _) h.lw]
  refine ⟨h.li, h.ll, by simp [h.lw], by have := h.la; simp; omega, L.ri, L.rl, fun j hj => ?_, h.on, fun x hx t ht => ?_⟩
  · simp only [List.length_append, List.length_cons, List.length_nil] at hj
    by_cases e : j < b.wn.length
    · have e1 : nth (b.wn ++ [(k : Int) + 1]) j = nth b.wn j := by simp [nth, List.getD_eq_getElem?_getD, List.getElem?_append_left e]
      rw [e1]; exact L.rw j e
    · have : j = b.wn.length := by omega
      subst this
      simp [nth, List.getD_eq_getElem?_getD]
  · obtain ⟨hx1, _⟩ := List.mem_filter.1 hx
    rcases List.mem_append.1 hx1 with hx2 | hx2
    · have ha := h.aw x hx2 t ht
      have hne : ¬ d.ad = x.1 := by
        intro e
        have : hasB (addrs q.ws) d.ad = true := (hasB_iff _ _).2 (List.mem_map.2 ⟨x, hx2, e.symm⟩)
        rw [hd] at this; cases this
      rw [hlast, if_neg hne, ha]; rfl
    · have hx3 := List.mem_singleton.1 hx2
      subst hx3
      simp only
      rw [hlast, if_pos rfl, h.on t ht]
      simp only [awaited]
      have h1 := h.ri t ht
      have h2 := h.rl t ht
      have e1 : nth b.ins t < (k : Int) + 1 := by omega
      have e2 : nth b.left t < (k : Int) + 1 := by omega
      simp [e1, e2]
/-- A deed that is done. -/
theorem fits_step {q : Q} {b : Bk} {m k : Nat} {d : Deed} (h : Fits q b m k) (hm : q.n = m) (h4 : m ≤ 4) (he : (stepQ q d).2.2 = 0) : Fits (stepQ q d).1 (book b k d) m (k + 1) := by
  by_cases e0 : d.what = 0
  · simp only [stepQ, if_pos e0, inQ] at he ⊢
    by_cases ht : q.ok d.th
    · rw [if_pos ht]; exact fits_in h hm h4 e0 ht
    · rw [if_neg ht] at he; cases he
  by_cases e1 : d.what = 1
  · simp only [stepQ, if_neg e0, if_pos e1, outQ] at he ⊢
    by_cases ht : q.ok d.th
    · rw [if_pos ht]; exact fits_out h hm h4 e1 ht
    · rw [if_neg ht] at he; cases he
  by_cases e4 : d.what = 4
  · simp only [stepQ, if_neg e0, if_neg e1, if_neg (show ¬ d.what = 2 by omega), if_neg (show ¬ d.what = 3 by omega), if_pos e4, retQ] at he ⊢
    by_cases ht : q.ok d.th ∧ 0 < d.ad
    · rw [if_pos ht] at he ⊢
      cases hd : hasB (addrs q.ws) d.ad with
      | true => rw [hd, if_pos rfl] at he; cases he
      | false => rw [if_neg (by decide)]; exact fits_ret h e4 hd
    · rw [if_neg ht] at he; cases he
  · have hb : book b k d = b := by simp only [book, if_neg e0, if_neg e1, if_neg e4]
    have hq : (stepQ q d).1 = q := by
      simp only [stepQ, if_neg e0, if_neg e1, if_neg e4, holdQ, bornQ]
      repeat' split
      all_goals rfl
    rw [hb, hq]
    exact fits_later h
/-- A deed of a thread that is done is one of a thread. -/
theorem step_ok {q : Q} {d : Deed} (he : (stepQ q d).2.2 = 0) (hw : d.what = 0 ∨ d.what = 1) : q.ok d.th := by
  by_cases ht : q.ok d.th
  · exact ht
  · rcases hw with e | e
    · simp only [stepQ, if_pos e, inQ, if_neg ht] at he; cases he
    · simp only [stepQ, if_neg (show ¬ d.what = 0 by omega), if_pos e, outQ, if_neg ht] at he; cases he
/-- What the law reckons of what waits is for whom it waits. -/
theorem want_is {q : Q} {b : Bk} {m k : Nat} (h : Fits q b m k) (hi : Inv q) (hm : q.n = m) (h4 : m ≤ 4) {x : W} (hx : x ∈ q.ws) : wantTo b (lastOf b x.1) m = x.2.list := by
  have h1 : ∀ t, t ≤ m → wantTo b (lastOf b x.1) t = upto x.2 t := by
    intro t
    induction t with
    | zero => intro _; rfl
    | succ t ih =>
      intro ht
      simp only [wantTo, upto, ih (by omega), h.aw x hx t (by omega)]
  have h2 : ∀ t, m ≤ t → upto x.2 t = upto x.2 m := by
    intro t ht
    induction t with
    | zero => have : m = 0 := by omega
              rw [this]
    | succ t ih =>
      by_cases e : m = t + 1
      · rw [e]
      · have hf : x.2.get (t : Int) = false := by
          cases hb : x.2.get (t : Int) with
          | false => rfl
          | true => have := (hi.ws x hx).2 t hb; omega
        simp only [upto, hf, Bool.false_eq_true, if_false, List.append_nil]
        exact ih (by omega)
  rw [h1 m (Nat.le_refl _), ← h2 4 h4, upto_all]
theorem forOf_mem {ws : List W} (hn : (addrs ws).Nodup) {x : W} (hx : x ∈ ws) : forOf x.1 ws = x.2.list := by
  induction ws with
  | nil => cases hx
  | cons y t ih =>
    simp only [addrs, List.map_cons, List.nodup_cons] at hn
    simp only [forOf, List.flatMap_cons] at ih ⊢
    rcases List.mem_cons.1 hx with e | e
    · subst e
      rw [if_pos rfl]
      have : t.flatMap (fun z => if z.1 = x.1 then z.2.list else []) = [] := by
        rw [List.flatMap_eq_nil_iff]
        intro z hz
        rw [if_neg]
        intro e
        exact hn.1 (List.mem_map.2 ⟨z, hz, e⟩)
      rw [this, List.append_nil]
    · rw [if_neg, List.nil_append, ih hn.2 e]
      intro e'
      exact hn.1 (List.mem_map.2 ⟨x, e, e'.symm⟩)
theorem list_ne {x : Cr} (h : x.no = false) : x.list ≠ [] := by
  obtain ⟨a, b, c, d⟩ := x
  cases a <;> cases b <;> cases c <;> cases d <;> simp [Cr.no, Cr.list] at h ⊢
end Go.Proofs.Ytdgkdfblgeobmaa
