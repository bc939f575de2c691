/-
  The walks of what asks of one event; of pick and writers; of the iterators' makers.
-/
import Derived.Test.YtkddckfgdiemkaaGreatCW4
set_option linter.unusedVariables false
set_option linter.unusedSimpArgs false
namespace Go.Proofs.YtkddckfgdiemkaaGreat
open Go.RowKit Go.Shelf Mem
set_option maxRecDepth 100000

def evV (e : Ev) : Value := .agg #[.int .i64 e.kind, .int .i64 e.loc, .int .i64 e.v, .int .i64 e.w, .int .i64 e.ord, .int .i64 e.th]
def isRd (e : Ev) : Bool := !decide (e.kind = 1) && !decide (e.kind = 5)
def isStrong (e : Ev) : Bool := decide (e.kind = 5) && decide (e.ord = 4)
def oBits (o : Int) : Int := if o = 4 then 7 else o
def oAcq (o : Int) : Bool := decide (o = 1) || decide (o = 3) || decide (o = 4)
def oRel (o : Int) : Bool := decide (o = 2) || decide (o = 3) || decide (o = 4)
abbrev two (a b : Value) : Ending := .returned (.tuple #[a, b])
theorem isorder_any {w : World} {o : Int} (h0 : 0 ≤ o) (h1 : o < 5) : Calls Tryz.prog 102 #[.int .i64 o] w fun e w' => e = .returned (.bool true) ∧ w = w' := by
  go_enter Tryz.func102, Tryz.ntmps102
  go_wp2
  go_ret
  exact ⟨rfl, rfl⟩
theorem isorder_no {w : World} {o : Int} (h : ¬ (0 ≤ o ∧ o < 5)) : Calls Tryz.prog 102 #[.int .i64 o] w fun e w' => e = .returned (.bool false) ∧ w = w' := by
  by_cases h0 : 0 ≤ o
  · have h1 : ¬ o < 5 := fun h1 => h ⟨h0, h1⟩
    clear h
    go_enter Tryz.func102, Tryz.ntmps102
    go_wp2
    go_ret
    exact ⟨rfl, rfl⟩
  · clear h
    go_enter Tryz.func102, Tryz.ntmps102
    go_wp2
    go_ret
    exact ⟨rfl, rfl⟩
theorem bits_any {w : World} {o : Int} : Calls Tryz.prog 105 #[.int .i64 o] w fun e w' => e = .returned (.int .i64 (oBits o)) ∧ w = w' := by
  by_cases h : o = 4
  · subst h
    go_enter Tryz.func105, Tryz.ntmps105
    go_wp2
    go_ret
    exact ⟨rfl, rfl⟩
  · have hb : (o == 4) = false := beq_eq_false_iff_ne.2 h
    have hbits : Hid (oBits o = o) := Lib.hid (by rw [oBits, if_neg h])
    clear h
    go_enter Tryz.func105, Tryz.ntmps105
    go_wp2
    go_ret
    exact ⟨by rw [hbits.out]; rfl, rfl⟩
theorem five {o : Int} (h0 : 0 ≤ o) (h1 : o < 5) : o = 0 ∨ o = 1 ∨ o = 2 ∨ o = 3 ∨ o = 4 := by omega

theorem order_acquires_any {w : World} {o : Int} (h0 : 0 ≤ o) (h1 : o < 5) : Calls Tryz.prog 88 #[.int .i64 o] w fun e w' => e = two (.bool (oAcq o)) (.int .i64 0) ∧ w = w' := by
  rcases five h0 h1 with rfl | rfl | rfl | rfl | rfl <;>
  (go_enter Tryz.func88, Tryz.ntmps88
   go_wp2_with (first | (go_at_call 102; refine (isorder_any (by decide) (by decide)).mono ?_; rintro e w' ⟨rfl, rfl⟩) | (go_at_call 105; refine bits_any.mono ?_; rintro e w' ⟨rfl, rfl⟩; rw [oBits]; simp only [reduceCtorEq, if_pos, if_neg, if_true, if_false, Int.reduceEq]))
   go_ret2
   exact ⟨rfl, rfl⟩)
theorem ev_acquires_any {w : World} {e : Ev} (h0 : 0 ≤ e.ord) (h1 : e.ord < 5) : Calls Tryz.prog 109 #[evV e] w (Tells w (oAcq e.ord)) := by
  obtain ⟨k, l, v, x, o, t⟩ := e
  simp only [] at h0 h1 ⊢
  unfold evV
  go_enter Tryz.func109, Tryz.ntmps109
  go_wp2_with (go_at_call 88; refine (order_acquires_any h0 h1).mono ?_; rintro e w' ⟨rfl, rfl⟩)
  go_ret
  exact ⟨rfl, (Below.refl _ _).alloc (Nat.le_refl _) _⟩

theorem order_releases_any {w : World} {o : Int} (h0 : 0 ≤ o) (h1 : o < 5) : Calls Tryz.prog 90 #[.int .i64 o] w fun e w' => e = two (.bool (oRel o)) (.int .i64 0) ∧ w = w' := by
  rcases five h0 h1 with rfl | rfl | rfl | rfl | rfl <;>
  (go_enter Tryz.func90, Tryz.ntmps90
   go_wp2_with (first | (go_at_call 102; refine (isorder_any (by decide) (by decide)).mono ?_; rintro e w' ⟨rfl, rfl⟩) | (go_at_call 105; refine bits_any.mono ?_; rintro e w' ⟨rfl, rfl⟩; rw [oBits]; simp only [reduceCtorEq, if_pos, if_neg, if_true, if_false, Int.reduceEq]))
   go_ret2
   exact ⟨rfl, rfl⟩)
theorem ev_releases_any {w : World} {e : Ev} (h0 : 0 ≤ e.ord) (h1 : e.ord < 5) : Calls Tryz.prog 108 #[evV e] w (Tells w (oRel e.ord)) := by
  obtain ⟨k, l, v, x, o, t⟩ := e
  simp only [] at h0 h1 ⊢
  unfold evV
  go_enter Tryz.func108, Tryz.ntmps108
  go_wp2_with (go_at_call 90; refine (order_releases_any h0 h1).mono ?_; rintro e w' ⟨rfl, rfl⟩)
  go_ret
  exact ⟨rfl, (Below.refl _ _).alloc (Nat.le_refl _) _⟩

theorem reads_any {w : World} {e : Ev} : Calls Tryz.prog 45 #[evV e] w (Tells w (isRd e)) := by
  obtain ⟨k, l, v, x, o, t⟩ := e
  unfold evV
  by_cases h1 : k = 1
  · subst h1
    go_enter Tryz.func45, Tryz.ntmps45
    go_wp2
    go_ret
    exact ⟨rfl, (Below.refl _ _).alloc (Nat.le_refl _) _⟩
  · have hb : (k != 1) = true := bne_iff_ne.2 h1
    by_cases h5 : k = 5
    · subst h5
      clear h1 hb
      go_enter Tryz.func45, Tryz.ntmps45
      go_wp2
      go_ret
      exact ⟨rfl, (Below.refl _ _).alloc (Nat.le_refl _) _⟩
    · have hb5 : (k != 5) = true := bne_iff_ne.2 h5
      have hr : Hid (isRd ⟨k, l, v, x, o, t⟩ = true) := Lib.hid (by simp [isRd, h1, h5])
      clear h1 h5
      go_enter Tryz.func45, Tryz.ntmps45
      go_wp2
      go_ret
      exact ⟨by rw [hr.out]; rfl, (Below.refl _ _).alloc (Nat.le_refl _) _⟩
theorem evstrong_any {w : World} {e : Ev} : Calls Tryz.prog 35 #[evV e] w (Tells w (isStrong e)) := by
  obtain ⟨k, l, v, x, o, t⟩ := e
  unfold evV
  by_cases h1 : k = 5
  · subst h1
    have hs : Hid (isStrong ⟨5, l, v, x, o, t⟩ = (o == 4)) := Lib.hid (by simp [isStrong, beq_dec])
    go_enter Tryz.func35, Tryz.ntmps35
    go_wp2
    go_ret
    exact ⟨by rw [hs.out]; rfl, (Below.refl _ _).alloc (Nat.le_refl _) _⟩
  · have hb : (k == 5) = false := beq_eq_false_iff_ne.2 h1
    have hs : Hid (isStrong ⟨k, l, v, x, o, t⟩ = false) := Lib.hid (by simp [isStrong, h1])
    clear h1
    go_enter Tryz.func35, Tryz.ntmps35
    go_wp2
    go_ret
    exact ⟨by rw [hs.out]; rfl, (Below.refl _ _).alloc (Nat.le_refl _) _⟩

theorem strong1_any {w : World} {pv : Value} {es : List Ev} {bp : Nat} {x : Int} (hp : w.cell? ⟨bp, 0, none⟩ = some pv) (hr : RdE w pv es) (hx : In es x) :
    Calls Tryz.prog 34 #[.int .i64 x, .pointer (some ⟨bp, 0, none⟩)] w (Tells w (isStrong (ev es x))) := by
  obtain ⟨A, c, rfl, hc1, hc2⟩ := hr.shape
  obtain ⟨k, rfl, hk⟩ := hx.nat
  obtain ⟨b, off, rfl, hb, x0, x1, x2, x3, x4, x5⟩ := hr.at_ hk
  have hr' := Lib.hid hr
  clear hr
  generalize ev es (k : Int) = E at *
  have i1 : (0 : Int) ≤ (k : Int) := by omega
  have i2 : (k : Int) < (es.length : Int) := by omega
  go_enter Tryz.func34, Tryz.ntmps34
  go_wp2_with (go_at_call 35; refine (evstrong_any (e := E)).mono ?_; rintro e w' ⟨rfl, hb⟩)
  go_ret
  exact ⟨rfl, hb⟩

theorem strong2_any {w : World} {pv : Value} {es : List Ev} {bp : Nat} {x : Int} (hp : w.cell? ⟨bp, 0, none⟩ = some pv) (hr : RdE w pv es) (hx : In es x) :
    Calls Tryz.prog 84 #[.int .i64 x, .pointer (some ⟨bp, 0, none⟩)] w (Tells w (isStrong (ev es x))) := by
  obtain ⟨A, c, rfl, hc1, hc2⟩ := hr.shape
  obtain ⟨k, rfl, hk⟩ := hx.nat
  obtain ⟨b, off, rfl, hb, x0, x1, x2, x3, x4, x5⟩ := hr.at_ hk
  have hr' := Lib.hid hr
  clear hr
  generalize ev es (k : Int) = E at *
  have i1 : (0 : Int) ≤ (k : Int) := by omega
  have i2 : (k : Int) < (es.length : Int) := by omega
  go_enter Tryz.func84, Tryz.ntmps84
  go_wp2_with (go_at_call 35; refine (evstrong_any (e := E)).mono ?_; rintro e w' ⟨rfl, hb⟩)
  go_ret
  exact ⟨rfl, hb⟩

def isFree (e : Ev) : Bool := decide (e.kind = 3) || decide (e.kind = 4)
theorem free_any {w : World} {pv : Value} {es : List Ev} {bp : Nat} {x : Int} (hp : w.cell? ⟨bp, 0, none⟩ = some pv) (hr : RdE w pv es) (hx : In es x) :
    Calls Tryz.prog 61 #[.int .i64 x, .pointer (some ⟨bp, 0, none⟩)] w (Tells w (isFree (ev es x))) := by
  obtain ⟨A, c, rfl, hc1, hc2⟩ := hr.shape
  obtain ⟨k, rfl, hk⟩ := hx.nat
  obtain ⟨b, off, rfl, hb, x0, x1, x2, x3, x4, x5⟩ := hr.at_ hk
  have hr' := Lib.hid hr
  clear hr x1 x2 x3 x4 x5
  unfold isFree
  generalize (ev es (k : Int)).kind = q at *
  have i1 : (0 : Int) ≤ (k : Int) := by omega
  have i2 : (k : Int) < (es.length : Int) := by omega
  by_cases h3 : q = 3
  · subst h3
    go_enter Tryz.func61, Tryz.ntmps61
    go_wp2
    go_ret
    exact ⟨rfl, Below.refl _ _⟩
  · have hb3 : (q == 3) = false := beq_eq_false_iff_ne.2 h3
    have hs : Hid ((decide (q = 3) || decide (q = 4)) = (q == 4)) := Lib.hid (by simp [h3, beq_dec])
    clear h3
    go_enter Tryz.func61, Tryz.ntmps61
    go_wp2
    go_ret
    exact ⟨by rw [hs.out]; rfl, Below.refl _ _⟩
/-- An event that writes a location. -/
def isWr (d : List Bool) (loc : Int) (es : List Ev) (x : Int) : Bool := !decide ((ev es x).kind = 5) && d.getD x.toNat false && decide ((ev es x).loc = loc)
set_option maxHeartbeats 400000 in
theorem writer_any {w : World} {pv dv : Value} {es : List Ev} {d : List Bool} {bp bd bl : Nat} {x loc : Int} (hp : w.cell? ⟨bp, 0, none⟩ = some pv) (hr : RdE w pv es) (hdc : w.cell? ⟨bd, 0, none⟩ = some dv) (hd : RdB w dv d) (hdl : d.length = es.length)
    (hlc : w.cell? ⟨bl, 0, none⟩ = some (.int .i64 loc)) (hx : In es x) :
    Calls Tryz.prog 92 #[.int .i64 x, .pointer (some ⟨bp, 0, none⟩), .pointer (some ⟨bd, 0, none⟩), .pointer (some ⟨bl, 0, none⟩)] w (Tells w (isWr d loc es x)) := by
  obtain ⟨A, c, rfl, hc1, hc2⟩ := hr.shape
  obtain ⟨Ad, cd, rfl, hcd1, hcd2⟩ := hd.shape
  obtain ⟨k, rfl, hk⟩ := hx.nat
  obtain ⟨b, off, rfl, hb, x0, x1, x2, x3, x4, x5⟩ := hr.at_ hk
  obtain ⟨bd', offd, rfl, hbd, hdcell⟩ := hd.one (k := k) (by omega)
  have d0 := hdcell.trans (bools_at d k (by omega))
  have hg : d.getD ((k : Int)).toNat false = d[k]'(by omega) := by simp [List.getD, List.getElem?_eq_getElem (show k < d.length by omega)]
  have hW : isWr d loc es (k : Int) = (!decide ((ev es (k : Int)).kind = 5) && d[k]'(by omega) && decide ((ev es (k : Int)).loc = loc)) := by unfold isWr; rw [hg]
  rw [hW]
  have hr' := Lib.hid hr
  have hd' := Lib.hid hd
  clear hr hd x2 x3 x4 x5 hdcell hg hW
  generalize (ev es (k : Int)).kind = q at *
  generalize (ev es (k : Int)).loc = ql at *
  generalize d[k]'(by omega) = dk at *
  have i1 : (0 : Int) ≤ (k : Int) := by omega
  have i2 : (k : Int) < (es.length : Int) := by omega
  have i3 : (k : Int) < (d.length : Int) := by omega
  by_cases h5 : q = 5
  · subst h5
    go_enter Tryz.func92, Tryz.ntmps92
    go_wp2_with fail
    go_quiet (fail)
    go_wp2
    go_ret
    exact ⟨rfl, (Below.refl _ _).drewN _⟩
  · have hb5 : (q != 5) = true := bne_iff_ne.2 h5
    have hd5 := Lib.hid (decide_eq_false h5)
    clear h5
    cases dk with
    | false =>
      go_enter Tryz.func92, Tryz.ntmps92
      go_wp2_with fail
      go_quiet (fail)
      go_wp2
      go_ret
      exact ⟨by rw [hd5.out]; rfl, (Below.refl _ _).drewN _⟩
    | true =>
      go_enter Tryz.func92, Tryz.ntmps92
      go_wp2_with fail
      go_quiet (fail)
      go_wp2
      go_ret
      exact ⟨by rw [hd5.out]; simp [beq_dec], (Below.refl _ _).drewN _⟩
/-- The numbers below k of which q holds. -/
def pickTo (q : Int → Bool) (k : Nat) : List Int := ((List.range k).map (fun i : Nat => (i : Int))).filter q
theorem pickTo_succ (q : Int → Bool) (k : Nat) : pickTo q (k + 1) = if q (k : Int) then pickTo q k ++ [(k : Int)] else pickTo q k := by
  simp only [pickTo, List.range_succ, List.map_append, List.map_cons, List.map_nil, List.filter_append]
  split
  · rename_i h; simp [h]
  · rename_i h; simp [h]
theorem pickTo_le (q : Int → Bool) (k : Nat) : (pickTo q k).length ≤ k := by
  have := List.length_filter_le q ((List.range k).map (fun i : Nat => (i : Int)))
  simpa [pickTo] using this
/-- 'append(v, x)' of a number to a list of the call's own, behind its box. -/
theorem wpList_append_int {ops : Array Oper} {rest : List Oper} {o : Oper} {a : Act} {Q : Exit → Act → World → Prop} {w : World} (hgd : o.guard = none) (s x : Operand)
    (ho : o.op = .call { callee := .builtin .append, args := #[s, x], argTypes := #[28, 28] })
    (B : Nat) (v : Value) (l : List Int) (y : Int) (N : Nat) (hs : a.eval s = v) (hown : Own w B v l) (hx : a.eval x = .slice (some ⟨N, 0, none⟩) 1 1) (hN : N = w.heap.size) (hB : B ≤ w.heap.size) (hl : l.length < 1000000)
    (h : ∀ v' w', Own w' B v' (l ++ [y]) → Kept w w' (fun k => v.ownBlock = some k) → (∀ k, v'.ownBlock = some k → v.ownBlock = some k ∨ w.heap.size ≤ k) → wpList Tryz.prog ops Q rest (a.put o.dst v') w') :
    wpList Tryz.prog ops Q (o :: rest) a (w.alloc (.cells #[.int .i64 y] 3)) := by
  subst hN
  obtain ⟨i0, hi0, hz0, hz1, hz2⟩ := info_one info3
  refine wpList_append_own_at _ hgd s x 28 ho B 3 i0 (.int .i64 0) 1 8 Tryz.underlying28 hi0 hz0 hz1 hz2 rfl (by decide) v l.length (ints l) hs (World.ownsRow.alloc hown _) ⟨w.heap.size, 0, none⟩ 1 1 [.int .i64 y] hx rfl
    (fun j u hu => ?_) (by intro u hu; simp at hu; subst hu; rfl) (by simp only [maxLen]; omega) (by omega) (by simp; omega) ?_
  · match j, hu with
    | 0, hu => simp at hu; subst hu; simp [Addr.add]
  · intro v' w' hown' hg _ hat
    refine h v' w' (by simpa [Own, ints] using hown') ?_ ?_
    · exact ((Kept.refl w _).alloc _).grown hg (fun k hk => .inl hk)
    · intro k hk
      rcases hat with hat | hat
      · exact .inl (hat ▸ hk)
      · rw [hat] at hk; simp at hk; exact .inr (by omega)

set_option maxHeartbeats 400000 in
theorem pick_strong1 {w : World} {pv : Value} {es : List Ev} {bp : Nat} {q : Int → Bool} (hr : RdE w pv es) (hf : ∀ k : Nat, k < es.length → ∀ W, Below w.heap.size w W → Calls Tryz.prog 34 #[.int .i64 (k : Int), .pointer (some ⟨bp, 0, none⟩)] W (Tells W (q (k : Int)))) (hn : es.length < 900000) :
    Calls Tryz.prog 33 #[pv, .func (.func 34) #[] #[.pointer (some ⟨bp, 0, none⟩)]] w (Made (pickTo q es.length) w) := by
  obtain ⟨A, c, rfl, hc1, hc2⟩ := hr.shape
  have HF := Lib.hid hf
  clear hf hr
  go_enter Tryz.func33, Tryz.ntmps33
  go_wp2
  go_loopw [5, 9] (fun v i wr => ∃ k : Nat, k ≤ es.length ∧ i = .int .i64 k ∧ Own wr w.heap.size v (pickTo q k) ∧ Below w.heap.size w wr) (fun _ i _ => es.length - (intOf i).toNat)
  case atStart => exact ⟨0, Nat.zero_le _, rfl, Own.nil _ _, Below.refl _ _⟩
  case round =>
    obtain ⟨k, hk, rfl, hown, hbel⟩ := hrel
    have HO := Lib.hid hown
    have HB := Lib.hid hbel
    have HS := Lib.hid (pickTo_succ q k)
    have HL := Lib.hid (pickTo_le q k)
    clear hown hbel
    by_cases hlt : k < es.length
    · cases hq : q (k : Int) with
      | true =>
        have HQ := Lib.hid hq
        clear hq
        go_wp2_with (first | (go_at_call 34; refine (HF.out k hlt _ HB.out).mono ?_; rintro e w1 ⟨rfl, hb1⟩; rw [HQ.out]; have hown1 := Lib.hid (Row.below HO.out hb1); have hbel1 := Lib.hid (HB.out.trans (hb1.mono HB.out.size))) | (at_builtin; refine wpList_append_int rfl (.tmp 15) (.tmp 17) rfl w.heap.size _ _ _ _ rfl hown1.out rfl rfl hbel1.out.size (by have := HL.out; omega) ?_))
        intro v2 w2 hown2 hk2 _
        have hb2 : Below w.heap.size w w2 := hbel1.out.trans (hk2.below hbel1.out.size (fun k hk => (Row.at_lt hown1.out hk).1))
        have HO2 := Lib.hid hown2
        have HB2 := Lib.hid hb2
        clear hown2 hb2 hk2
        go_wp2
        go_roundw
        case measure => simp [intOf]; omega
        case rel => exact ⟨k + 1, by omega, by go_num, by rw [HS.out, if_pos HQ.out]; exact HO2.out, HB2.out⟩
      | false =>
        have HQ := Lib.hid hq
        clear hq
        go_wp2_with (go_at_call 34; refine (HF.out k hlt _ HB.out).mono ?_; rintro e w1 ⟨rfl, hb1⟩; rw [HQ.out]; have hown1 := Lib.hid (Row.below HO.out hb1); have hbel1 := Lib.hid (HB.out.trans (hb1.mono HB.out.size)))
        go_roundw
        case measure => simp [intOf]; omega
        case rel => exact ⟨k + 1, by omega, by go_num, by rw [HS.out, if_neg (by rw [HQ.out]; decide)]; exact hown1.out, hbel1.out⟩
    · have hkn : k = es.length := by omega
      subst hkn
      go_wp2
      go_ret
      exact ⟨_, rfl, HO.out, HB.out⟩

set_option maxHeartbeats 400000 in
theorem pick_strong2 {w : World} {pv : Value} {es : List Ev} {bp : Nat} {q : Int → Bool} (hr : RdE w pv es) (hf : ∀ k : Nat, k < es.length → ∀ W, Below w.heap.size w W → Calls Tryz.prog 84 #[.int .i64 (k : Int), .pointer (some ⟨bp, 0, none⟩)] W (Tells W (q (k : Int)))) (hn : es.length < 900000) :
    Calls Tryz.prog 33 #[pv, .func (.func 84) #[] #[.pointer (some ⟨bp, 0, none⟩)]] w (Made (pickTo q es.length) w) := by
  obtain ⟨A, c, rfl, hc1, hc2⟩ := hr.shape
  have HF := Lib.hid hf
  clear hf hr
  go_enter Tryz.func33, Tryz.ntmps33
  go_wp2
  go_loopw [5, 9] (fun v i wr => ∃ k : Nat, k ≤ es.length ∧ i = .int .i64 k ∧ Own wr w.heap.size v (pickTo q k) ∧ Below w.heap.size w wr) (fun _ i _ => es.length - (intOf i).toNat)
  case atStart => exact ⟨0, Nat.zero_le _, rfl, Own.nil _ _, Below.refl _ _⟩
  case round =>
    obtain ⟨k, hk, rfl, hown, hbel⟩ := hrel
    have HO := Lib.hid hown
    have HB := Lib.hid hbel
    have HS := Lib.hid (pickTo_succ q k)
    have HL := Lib.hid (pickTo_le q k)
    clear hown hbel
    by_cases hlt : k < es.length
    · cases hq : q (k : Int) with
      | true =>
        have HQ := Lib.hid hq
        clear hq
        go_wp2_with (first | (go_at_call 84; refine (HF.out k hlt _ HB.out).mono ?_; rintro e w1 ⟨rfl, hb1⟩; rw [HQ.out]; have hown1 := Lib.hid (Row.below HO.out hb1); have hbel1 := Lib.hid (HB.out.trans (hb1.mono HB.out.size))) | (at_builtin; refine wpList_append_int rfl (.tmp 15) (.tmp 17) rfl w.heap.size _ _ _ _ rfl hown1.out rfl rfl hbel1.out.size (by have := HL.out; omega) ?_))
        intro v2 w2 hown2 hk2 _
        have hb2 : Below w.heap.size w w2 := hbel1.out.trans (hk2.below hbel1.out.size (fun k hk => (Row.at_lt hown1.out hk).1))
        have HO2 := Lib.hid hown2
        have HB2 := Lib.hid hb2
        clear hown2 hb2 hk2
        go_wp2
        go_roundw
        case measure => simp [intOf]; omega
        case rel => exact ⟨k + 1, by omega, by go_num, by rw [HS.out, if_pos HQ.out]; exact HO2.out, HB2.out⟩
      | false =>
        have HQ := Lib.hid hq
        clear hq
        go_wp2_with (go_at_call 84; refine (HF.out k hlt _ HB.out).mono ?_; rintro e w1 ⟨rfl, hb1⟩; rw [HQ.out]; have hown1 := Lib.hid (Row.below HO.out hb1); have hbel1 := Lib.hid (HB.out.trans (hb1.mono HB.out.size)))
        go_roundw
        case measure => simp [intOf]; omega
        case rel => exact ⟨k + 1, by omega, by go_num, by rw [HS.out, if_neg (by rw [HQ.out]; decide)]; exact hown1.out, hbel1.out⟩
    · have hkn : k = es.length := by omega
      subst hkn
      go_wp2
      go_ret
      exact ⟨_, rfl, HO.out, HB.out⟩

set_option maxHeartbeats 400000 in
theorem pick_free {w : World} {pv : Value} {es : List Ev} {bp : Nat} {q : Int → Bool} (hr : RdE w pv es) (hf : ∀ k : Nat, k < es.length → ∀ W, Below w.heap.size w W → Calls Tryz.prog 61 #[.int .i64 (k : Int), .pointer (some ⟨bp, 0, none⟩)] W (Tells W (q (k : Int)))) (hn : es.length < 900000) :
    Calls Tryz.prog 33 #[pv, .func (.func 61) #[] #[.pointer (some ⟨bp, 0, none⟩)]] w (Made (pickTo q es.length) w) := by
  obtain ⟨A, c, rfl, hc1, hc2⟩ := hr.shape
  have HF := Lib.hid hf
  clear hf hr
  go_enter Tryz.func33, Tryz.ntmps33
  go_wp2
  go_loopw [5, 9] (fun v i wr => ∃ k : Nat, k ≤ es.length ∧ i = .int .i64 k ∧ Own wr w.heap.size v (pickTo q k) ∧ Below w.heap.size w wr) (fun _ i _ => es.length - (intOf i).toNat)
  case atStart => exact ⟨0, Nat.zero_le _, rfl, Own.nil _ _, Below.refl _ _⟩
  case round =>
    obtain ⟨k, hk, rfl, hown, hbel⟩ := hrel
    have HO := Lib.hid hown
    have HB := Lib.hid hbel
    have HS := Lib.hid (pickTo_succ q k)
    have HL := Lib.hid (pickTo_le q k)
    clear hown hbel
    by_cases hlt : k < es.length
    · cases hq : q (k : Int) with
      | true =>
        have HQ := Lib.hid hq
        clear hq
        go_wp2_with (first | (go_at_call 61; refine (HF.out k hlt _ HB.out).mono ?_; rintro e w1 ⟨rfl, hb1⟩; rw [HQ.out]; have hown1 := Lib.hid (Row.below HO.out hb1); have hbel1 := Lib.hid (HB.out.trans (hb1.mono HB.out.size))) | (at_builtin; refine wpList_append_int rfl (.tmp 15) (.tmp 17) rfl w.heap.size _ _ _ _ rfl hown1.out rfl rfl hbel1.out.size (by have := HL.out; omega) ?_))
        intro v2 w2 hown2 hk2 _
        have hb2 : Below w.heap.size w w2 := hbel1.out.trans (hk2.below hbel1.out.size (fun k hk => (Row.at_lt hown1.out hk).1))
        have HO2 := Lib.hid hown2
        have HB2 := Lib.hid hb2
        clear hown2 hb2 hk2
        go_wp2
        go_roundw
        case measure => simp [intOf]; omega
        case rel => exact ⟨k + 1, by omega, by go_num, by rw [HS.out, if_pos HQ.out]; exact HO2.out, HB2.out⟩
      | false =>
        have HQ := Lib.hid hq
        clear hq
        go_wp2_with (go_at_call 61; refine (HF.out k hlt _ HB.out).mono ?_; rintro e w1 ⟨rfl, hb1⟩; rw [HQ.out]; have hown1 := Lib.hid (Row.below HO.out hb1); have hbel1 := Lib.hid (HB.out.trans (hb1.mono HB.out.size)))
        go_roundw
        case measure => simp [intOf]; omega
        case rel => exact ⟨k + 1, by omega, by go_num, by rw [HS.out, if_neg (by rw [HQ.out]; decide)]; exact hown1.out, hbel1.out⟩
    · have hkn : k = es.length := by omega
      subst hkn
      go_wp2
      go_ret
      exact ⟨_, rfl, HO.out, HB.out⟩

set_option maxHeartbeats 400000 in
theorem pick_writer {w : World} {pv : Value} {es : List Ev} {bp bd bl : Nat} {q : Int → Bool} (hr : RdE w pv es) (hf : ∀ k : Nat, k < es.length → ∀ W, Below w.heap.size w W → Calls Tryz.prog 92 #[.int .i64 (k : Int), .pointer (some ⟨bp, 0, none⟩), .pointer (some ⟨bd, 0, none⟩), .pointer (some ⟨bl, 0, none⟩)] W (Tells W (q (k : Int)))) (hn : es.length < 900000) :
    Calls Tryz.prog 33 #[pv, .func (.func 92) #[] #[.pointer (some ⟨bp, 0, none⟩), .pointer (some ⟨bd, 0, none⟩), .pointer (some ⟨bl, 0, none⟩)]] w (Made (pickTo q es.length) w) := by
  obtain ⟨A, c, rfl, hc1, hc2⟩ := hr.shape
  have HF := Lib.hid hf
  clear hf hr
  go_enter Tryz.func33, Tryz.ntmps33
  go_wp2
  go_loopw [5, 9] (fun v i wr => ∃ k : Nat, k ≤ es.length ∧ i = .int .i64 k ∧ Own wr w.heap.size v (pickTo q k) ∧ Below w.heap.size w wr) (fun _ i _ => es.length - (intOf i).toNat)
  case atStart => exact ⟨0, Nat.zero_le _, rfl, Own.nil _ _, Below.refl _ _⟩
  case round =>
    obtain ⟨k, hk, rfl, hown, hbel⟩ := hrel
    have HO := Lib.hid hown
    have HB := Lib.hid hbel
    have HS := Lib.hid (pickTo_succ q k)
    have HL := Lib.hid (pickTo_le q k)
    clear hown hbel
    by_cases hlt : k < es.length
    · cases hq : q (k : Int) with
      | true =>
        have HQ := Lib.hid hq
        clear hq
        go_wp2_with (first | (go_at_call 92; refine (HF.out k hlt _ HB.out).mono ?_; rintro e w1 ⟨rfl, hb1⟩; rw [HQ.out]; have hown1 := Lib.hid (Row.below HO.out hb1); have hbel1 := Lib.hid (HB.out.trans (hb1.mono HB.out.size))) | (at_builtin; refine wpList_append_int rfl (.tmp 15) (.tmp 17) rfl w.heap.size _ _ _ _ rfl hown1.out rfl rfl hbel1.out.size (by have := HL.out; omega) ?_))
        intro v2 w2 hown2 hk2 _
        have hb2 : Below w.heap.size w w2 := hbel1.out.trans (hk2.below hbel1.out.size (fun k hk => (Row.at_lt hown1.out hk).1))
        have HO2 := Lib.hid hown2
        have HB2 := Lib.hid hb2
        clear hown2 hb2 hk2
        go_wp2
        go_roundw
        case measure => simp [intOf]; omega
        case rel => exact ⟨k + 1, by omega, by go_num, by rw [HS.out, if_pos HQ.out]; exact HO2.out, HB2.out⟩
      | false =>
        have HQ := Lib.hid hq
        clear hq
        go_wp2_with (go_at_call 92; refine (HF.out k hlt _ HB.out).mono ?_; rintro e w1 ⟨rfl, hb1⟩; rw [HQ.out]; have hown1 := Lib.hid (Row.below HO.out hb1); have hbel1 := Lib.hid (HB.out.trans (hb1.mono HB.out.size)))
        go_roundw
        case measure => simp [intOf]; omega
        case rel => exact ⟨k + 1, by omega, by go_num, by rw [HS.out, if_neg (by rw [HQ.out]; decide)]; exact hown1.out, hbel1.out⟩
    · have hkn : k = es.length := by omega
      subst hkn
      go_wp2
      go_ret
      exact ⟨_, rfl, HO.out, HB.out⟩

/-- The writers of a location. -/
def writersF (es : List Ev) (d : List Bool) (loc : Int) : List Int := pickTo (isWr d loc es) es.length
theorem writers_any {w : World} {pv dv : Value} {es : List Ev} {d : List Bool} {loc : Int} (hr : RdE w pv es) (hd : RdB w dv d) (hdl : d.length = es.length) (hn : es.length < 900000) :
    Calls Tryz.prog 63 #[pv, dv, .int .i64 loc] w (Made (writersF es d loc) w) := by
  obtain ⟨A, c, rfl, hc1, hc2⟩ := hr.shape
  obtain ⟨Ad, cd, rfl, hcd1, hcd2⟩ := hd.shape
  obtain ⟨pv, hpv⟩ : ∃ pv, Value.slice A es.length c = pv := ⟨_, rfl⟩
  obtain ⟨dv, hdv⟩ : ∃ dv, Value.slice Ad d.length cd = dv := ⟨_, rfl⟩
  rw [hpv] at hr
  rw [hdv] at hd
  obtain ⟨WA, hWA⟩ : ∃ WA, w.alloc (.cells #[pv] 65) = WA := ⟨_, rfl⟩
  obtain ⟨WB, hWB⟩ : ∃ WB, WA.alloc (.cells #[dv] 32) = WB := ⟨_, rfl⟩
  obtain ⟨WC, hWC⟩ : ∃ WC, WB.alloc (.cells #[.int .i64 loc] 3) = WC := ⟨_, rfl⟩
  have bA : Below w.heap.size w WA := by rw [← hWA]; exact (Below.refl _ w).alloc (Nat.le_refl _) _
  have bB : Below w.heap.size w WB := by rw [← hWB]; exact bA.alloc bA.size _
  have bC : Below w.heap.size w WC := by rw [← hWC]; exact bB.alloc bB.size _
  have sA : WA.heap.size = w.heap.size + 1 := by rw [← hWA]; simp
  have sB : WB.heap.size = w.heap.size + 1 + 1 := by rw [← hWB]; simp [sA]
  have cA : Blk WC w.heap.size 65 [pv] := by rw [← hWC, ← hWB, ← hWA]; exact ((Blk.new w 65 [pv]).alloc _).alloc _
  have cB : Blk WC (w.heap.size + 1) 32 [dv] := by rw [← hWC, ← hWB]; exact (blk_at_new 32 [dv] sA).alloc _
  have cC : Blk WC (w.heap.size + 1 + 1) 3 [.int .i64 loc] := by rw [← hWC]; exact blk_at_new 3 [.int .i64 loc] sB
  have HP := Lib.hid (pick_writer (w := WC) (pv := pv) (es := es) (bp := w.heap.size) (bd := w.heap.size + 1) (bl := w.heap.size + 1 + 1) (q := isWr d loc es) (hr.below bC)
    (fun k hk W hb => writer_any ((cA.below hb).cell 0 rfl) ((hr.below bC).below hb) ((cB.below hb).cell 0 rfl) ((hd.below bC).below hb) hdl ((cC.below hb).cell 0 rfl) ⟨by omega, by omega⟩) hn)
  have HC := Lib.hid (show ((w.alloc (.cells #[.slice A es.length c] 65)).alloc (.cells #[.slice Ad d.length cd] 32)).alloc (.cells #[.int .i64 loc] 3) = WC by rw [hpv, hdv, hWA, hWB, hWC])
  have BC := Lib.hid bC
  have p0 := cA.cell 0 rfl
  have HPV := Lib.hid hpv
  have Hdl := Lib.hid hdl
  clear hr hd hdl hWA hWB hWC bA bB bC cA cB cC sA sB hdv hpv
  go_enter Tryz.func63, Tryz.ntmps63
  go_upto_region 1 with fail
  rw [HC.out]
  go_wp2_with (go_at_call 33; refine HP.out.mono ?_; rintro e w2 ⟨u, rfl, hown, hbel⟩)
  go_ret
  exact ⟨u, rfl, Row.mono hown BC.out.size, BC.out.trans (hbel.mono BC.out.size)⟩
/-! The iterators' makers. -/
theorem merges_any {w : World} {A A' : Option Addr} {n c n' c' : Nat} : Calls Tryz.prog 41 #[.slice A n c, .slice A' n' c'] w fun e w' =>
    e = .returned (.func (.func 68) #[] #[.pointer (some ⟨w.heap.size, 0, none⟩), .pointer (some ⟨w.heap.size + 1, 0, none⟩)]) ∧ w' = (w.alloc (.cells #[.slice A n c] 65)).alloc (.cells #[.slice A' n' c'] 28) := by
  go_enter Tryz.func41, Tryz.ntmps41
  go_wp2
  go_ret
  exact ⟨rfl, rfl⟩
theorem dones_any {w : World} {A : Option Addr} {n c : Nat} : Calls Tryz.prog 37 #[.slice A n c] w fun e w' =>
    e = .returned (.func (.func 60) #[] #[.pointer (some ⟨w.heap.size, 0, none⟩)]) ∧ w' = w.alloc (.cells #[.slice A n c] 65) := by
  go_enter Tryz.func37, Tryz.ntmps37
  go_wp2
  go_ret
  exact ⟨rfl, rfl⟩
theorem orders_any {w : World} {A A' : Option Addr} {n c n' c' : Nat} {k : Int} : Calls Tryz.prog 38 #[.slice A n c, .slice A' n' c', .int .i64 k] w fun e w' =>
    e = .returned (.func (.func 62) #[] #[.pointer (some ⟨w.heap.size + 1 + 1, 0, none⟩), .pointer (some ⟨w.heap.size, 0, none⟩), .pointer (some ⟨w.heap.size + 1, 0, none⟩)]) ∧
      w' = ((w.alloc (.cells #[.slice A n c] 65)).alloc (.cells #[.slice A' n' c'] 32)).alloc (.cells #[.int .i64 k] 3) := by
  go_enter Tryz.func38, Tryz.ntmps38
  go_wp2
  go_ret
  exact ⟨rfl, rfl⟩
theorem froms_any {w : World} {A A' A2 : Option Addr} {n c n' c' n2 c2 : Nat} : Calls Tryz.prog 39 #[.slice A n c, .slice A' n' c', .slice A2 n2 c2] w fun e w' =>
    e = .returned (.func (.func 64) #[] #[.pointer (some ⟨w.heap.size, 0, none⟩), .pointer (some ⟨w.heap.size + 1 + 1, 0, none⟩), .pointer (some ⟨w.heap.size + 1, 0, none⟩)]) ∧
      w' = ((w.alloc (.cells #[.slice A n c] 65)).alloc (.cells #[.slice A' n' c'] 32)).alloc (.cells #[.slice A2 n2 c2] 33) := by
  go_enter Tryz.func39, Tryz.ntmps39
  go_wp2
  go_ret
  exact ⟨rfl, rfl⟩
end Go.Proofs.YtkddckfgdiemkaaGreat
