/-
  The walks of Grow and Concat; the closure that asks for the same thread.
-/
import Derived.Test.YtkddckfgdiemkaaGreatCW1
import Derived.Lib.AppendZeros
import Derived.Deep.AppendSrc
set_option linter.unusedVariables false
set_option linter.unusedSimpArgs false
namespace Go.Proofs.YtkddckfgdiemkaaGreat
open Go.RowKit Mem
set_option maxRecDepth 100000

theorem beq_dec (p q : Int) : (p == q) = decide (p = q) := by by_cases h : p = q <;> simp [h]
set_option maxHeartbeats 400000 in
/-- Two events of one thread? -/
theorem samethread_any {w : World} {pv : Value} {es : List Ev} {bp be : Nat} {x e : Int} (hp : w.cell? ⟨bp, 0, none⟩ = some pv) (hr : RdE w pv es) (he : w.cell? ⟨be, 0, none⟩ = some (.int .i64 e)) (hx : In es x) (hei : In es e) :
    Calls Tryz.prog 71 #[.int .i64 x, .pointer (some ⟨bp, 0, none⟩), .pointer (some ⟨be, 0, none⟩)] w (Tells w (decide ((ev es x).th = (ev es e).th))) := by
  obtain ⟨A, c, rfl, hc1, hc2⟩ := hr.shape
  obtain ⟨k, rfl, hk⟩ := hx.nat
  obtain ⟨j, rfl, hj⟩ := hei.nat
  obtain ⟨b, off, rfl, hb, x0, x1, x2, x3, x4, x5⟩ := hr.at_ hk
  obtain ⟨b', off', hA, hb', y0, y1, y2, y3, y4, y5⟩ := hr.at_ hj
  injection hA with hA
  injection hA with h1 h2
  subst h1 h2
  have hr' := Lib.hid hr
  clear hr x0 x1 x2 x3 x4 y0 y1 y2 y3 y4
  generalize (ev es (k : Int)).th = p at x5 ⊢
  generalize (ev es (j : Int)).th = q at y5 ⊢
  have i1 : (0 : Int) ≤ (k : Int) := by omega
  have i2 : (k : Int) < (es.length : Int) := by omega
  have i3 : (0 : Int) ≤ (j : Int) := by omega
  have i4 : (j : Int) < (es.length : Int) := by omega
  go_enter Tryz.func71, Tryz.ntmps71
  go_wp2_with fail
  go_quiet (fail)
  go_wp2
  go_ret
  exact ⟨by simp [beq_dec], (Below.refl _ w).drewN _⟩

set_option maxHeartbeats 400000 in
/-- Room for n numbers. -/
theorem grow_any {w : World} {n : Nat} (hn : n < 1000000) :
    Calls Tryz.prog 94 #[.slice none 0 0, .int .i64 n] w (Made [] w) := by
  obtain ⟨i0, hi0, hz0, hz1, hz2⟩ := info_one info3
  by_cases h0 : 0 < n
  · have h0' : (0 : Int) < (n : Int) := by omega
    have hR := Lib.run_append_nil_zeros (P := Tryz.prog) w 28 3 28 3 i0 (.int .i64 0) .i64 .i64 Tryz.underlying28 Tryz.underlying3 hi0 hz0 n h0 (by rw [hz1]; decide) (by omega) (by rw [hz2]; omega)
    have hg := grownCap_ge w n 0 3
    have hm := grownCap_le_maxLen w n 0 3 (by simp [maxLen]; omega)
    have hcs : (Builtin.zeroCells (Value.cells (.int .i64 0)) n ++ Builtin.zeroCells (Value.cells (.int .i64 0)) (grownCap w n 0 3 - n)).size = grownCap w n 0 3 := by
      rw [Array.size_append, size_zeroCells, size_zeroCells]; simp [Value.cells]; omega
    generalize Builtin.zeroCells (Value.cells (.int .i64 0)) n ++ Builtin.zeroCells (Value.cells (.int .i64 0)) (grownCap w n 0 3 - n) = Z at hR hcs
    generalize grownCap w n 0 3 = C at hR hcs hg hm
    have Hm := Lib.hid hm
    have hCi : (0 : Int) ≤ (C : Int) := by omega
    clear hm
    go_enter Tryz.func94, Tryz.ntmps94
    go_wp2_with (at_builtin; refine Lib.wpList_append_run _ rfl _ _ _ _ rfl _ _ rfl rfl _ _ hR ?_)
    go_ret
    have hb := heap_alloc_new (w := w.drew) (.cells Z 3)
    refine ⟨_, rfl, ⟨rfl, .inr ⟨w.heap.size, C, Z, rfl, Nat.le_refl _, hb, Nat.zero_le _, Hm.out, by rw [hcs, Nat.mul_one], rfl⟩⟩, ((Below.refl _ w).drew).alloc (Nat.le_refl _) _⟩
  · have hn0 : n = 0 := by omega
    subst hn0
    clear h0
    go_enter Tryz.func94, Tryz.ntmps94
    go_wp2
    go_ret
    exact ⟨_, rfl, World.ownsRow_nil _ _ _ _, Below.refl _ _⟩
/-- A list of numbers that lies somewhere. -/
def RdS (w : World) (u : Value) (l : List Int) : Prop := RdI w u l ∧ ∃ ad c, u = .slice (some ad) l.length c
theorem RdS.below {w w' : World} {u : Value} {l : List Int} (h : RdS w u l) (k : Below w.heap.size w w') : RdS w' u l := ⟨h.1.below k, h.2⟩
/-- Several lists. -/
structure Pcs (w : World) (v : Value) (us : List Value) (ls : List (List Int)) : Prop where
  rd : Rd w v us.length 1 us
  len : us.length = ls.length
  at_ : ∀ k (h : k < us.length), RdS w us[k] (ls.getD k [])
theorem Pcs.below {w w' : World} {v : Value} {us : List Value} {ls : List (List Int)} (h : Pcs w v us ls) (k : Below w.heap.size w w') : Pcs w' v us ls := ⟨h.rd.below k, h.len, fun j hj => (h.at_ j hj).below k⟩
theorem flat_take {ls : List (List Int)} {k : Nat} (h : k < ls.length) : (ls.take (k + 1)).flatten = (ls.take k).flatten ++ ls.getD k [] := by
  rw [take_snoc h, List.flatten_append]; simp [List.getD, List.getElem?_eq_getElem h]
theorem flat_le (ls : List (List Int)) (k : Nat) : (ls.take k).flatten.length ≤ ls.flatten.length := by
  conv => rhs; rw [← List.take_append_drop k ls]
  rw [List.flatten_append, List.length_append]; omega
/-- 'append(v, l..)' of a list that is read. -/
theorem wpList_app_ints {ops : Array Oper} {rest : List Oper} {o : Oper} {a : Act} {Q : Exit → Act → World → Prop} {w : World} (hgd : o.guard = none) (s x : Operand)
    (ho : o.op = .call { callee := .builtin .append, args := #[s, x], argTypes := #[28, 28] }) (B : Nat) (v : Value) (l : List Int) (hs : a.eval s = v) (hown : Own w B v l) (u : Value) (m : List Int) (hx : a.eval x = u) (hu : RdS w u m)
    (hB : B ≤ w.heap.size) (hl : l.length + m.length < 1000000)
    (h : ∀ v' w', Own w' B v' (l ++ m) → Kept w w' (fun k => v.ownBlock = some k) → (∀ k, v'.ownBlock = some k → v.ownBlock = some k ∨ w.heap.size ≤ k) → wpList Tryz.prog ops Q rest (a.put o.dst v') w') :
    wpList Tryz.prog ops Q (o :: rest) a w := by
  obtain ⟨i0, hi0, hz0, hz1, hz2⟩ := info_one info3
  obtain ⟨hr, ad, c, rfl⟩ := hu
  obtain ⟨hlen, A', c', hv, _, _, hcell⟩ := hr
  injection hv with hA _ hc
  subst hA hc
  refine wpList_append_own_at _ hgd s x 28 ho B 3 i0 (.int .i64 0) 1 8 Tryz.underlying28 hi0 hz0 hz1 hz2 rfl (by decide) v l.length (ints l) hs hown ad m.length c (ints m) hx (by simp [ints]) ?c1 (ints_one m)
    (by simp only [maxLen]; omega) (by omega) hB ?_
  case c1 =>
    intro j u hu
    have hj : j < (ints m).length := (List.getElem?_eq_some_iff.1 hu).1
    obtain ⟨b', off', hA, hlt, hc⟩ := hcell (by rw [ints_length] at hj; omega)
    injection hA with hA
    subst hA
    rw [Addr.add_mid]
    exact hc j u hu
  · intro v' w' hown' hg _ hat
    refine h v' w' (by simpa [Own, ints] using hown') ((Kept.refl w _).grown hg (fun k hk => .inl hk)) (fun k hk => ?_)
    rcases hat with hat | hat
    · exact .inl (hat ▸ hk)
    · rw [hat] at hk; simp at hk; exact .inr (by omega)
set_option maxHeartbeats 1000000 in
/-- The lists one behind the other, in a new list. -/
theorem concat_any {w : World} {v : Value} {us : List Value} {ls : List (List Int)} (h : Pcs w v us ls) (hl : ls.flatten.length < 1000000) :
    Calls Tryz.prog 73 #[v] w (Made ls.flatten w) := by
  obtain ⟨A, c, rfl, hc1, hc2⟩ := h.rd.shape
  have H := Lib.hid h
  have HL := Lib.hid hl
  clear h hl
  go_enter Tryz.func73, Tryz.ntmps73
  go_wp2
  go_loop [3, 11] (fun s i => ∃ k : Nat, k ≤ us.length ∧ i = .int .i64 k ∧ s = .int .i64 ((ls.take k).flatten.length : Nat)) (fun _ i => us.length - (intOf i).toNat)
  case atStart => exact ⟨0, Nat.zero_le _, rfl, rfl⟩
  case round =>
    obtain ⟨k, hk, rfl, rfl⟩ := hrel
    by_cases hlt : k < us.length
    · obtain ⟨b, off, rfl, hb, hcell⟩ := H.out.rd.one hlt
      obtain ⟨hr, ad, c1, hu⟩ := H.out.at_ k hlt
      have d0 := hcell.trans (by rw [List.getElem?_eq_getElem hlt, hu])
      have hs := Lib.hid (flat_take (ls := ls) (k := k) (by rw [← H.out.len]; exact hlt))
      have hle := flat_le ls (k + 1)
      rw [hs.out, List.length_append] at hle
      have hle2 := HL.out
      generalize (ls.take k).flatten = X at *
      clear hcell hr hu
      have hle3 : X.length + (ls.getD k []).length < 1000000 := by omega
      have hs2 : Hid ((List.take (k + 1) ls).flatten.length = X.length + (ls.getD k []).length) := Lib.hid (by rw [hs.out, List.length_append])
      generalize (ls.getD k []).length = m at *
      generalize X.length = n at *
      have hw : ¬ ((n : Int) + (m : Int) < 0) := by omega
      clear hle hle2
      go_wp2
      go_round
      case measure => simp [intOf]; omega
      case rel => exact ⟨k + 1, by omega, by go_num, by rw [hs2.out]; go_num⟩
    · have hkn : k = us.length := by omega
      subst hkn
      have e1 : (ls.take us.length).flatten = ls.flatten := by rw [H.out.len, List.take_length]
      obtain ⟨L, hL⟩ : ∃ L, ls.flatten = L := ⟨_, rfl⟩
      rw [hL] at e1 HL ⊢
      rw [e1]
      have HE := Lib.hid e1
      have HLf := Lib.hid hL
      clear e1 hL
      have hl := HL.out
      go_wp2_with (go_at_call 94; refine (grow_any hl).mono ?_; rintro e w1 ⟨u1, rfl, hown1, hbel1⟩)
      have HO1 := Lib.hid hown1
      have HB1 := Lib.hid hbel1
      have H1 := Lib.hid (H.out.below hbel1)
      clear hown1 hbel1
      go_loopw [6, 27] (fun s i wr => ∃ k : Nat, k ≤ us.length ∧ i = .int .i64 k ∧ Own wr w.heap.size s (ls.take k).flatten ∧ Below w.heap.size w wr) (fun _ i _ => us.length - (intOf i).toNat)
      case atStart => exact ⟨0, Nat.zero_le _, rfl, HO1.out, HB1.out⟩
      case round =>
        obtain ⟨k, hk, rfl, hown, hbel⟩ := hrel
        have HO := Lib.hid hown
        have HB := Lib.hid hbel
        have H2 := Lib.hid (H.out.below hbel)
        clear hown hbel
        by_cases hlt : k < us.length
        · obtain ⟨b, off, hA, hb, hcell⟩ := H2.out.rd.one hlt
          have hu := H2.out.at_ k hlt
          obtain ⟨hr, ad, c1, hu1⟩ := H2.out.at_ k hlt
          have d0 := hcell.trans (by rw [List.getElem?_eq_getElem hlt, hu1])
          rw [hu1] at hu
          have HU := Lib.hid hu
          have hs := Lib.hid (flat_take (ls := ls) (k := k) (by rw [← H.out.len]; exact hlt))
          have hle : ((ls.take k).flatten).length + (ls.getD k []).length < 1000000 := by
            have h1 := flat_le ls (k + 1)
            rw [hs.out, List.length_append] at h1
            have h2 := flat_le ls us.length
            have h3 : ls.take us.length = ls := by rw [H.out.len, List.take_length]
            have h4 := HE.out
            rw [h3] at h4
            rw [h4] at h1
            have := HL.out
            omega
          generalize (ls.take k).flatten = X at *
          have HLe := Lib.hid hle
          clear hcell hr hu1 hu hle
          subst hA
          go_wp2_with (at_builtin; refine wpList_app_ints rfl (.tmp 31) (.tmp 32) rfl w.heap.size _ _ rfl HO.out _ _ rfl HU.out HB.out.size HLe.out ?_)
          intro v1 w2 hown2 hk2 hat2
          have HO2 := Lib.hid hown2
          have hb2 : Below w.heap.size w w2 := HB.out.trans (hk2.below HB.out.size (fun k hk => (Row.at_lt HO.out hk).1))
          have HB2 := Lib.hid hb2
          clear hown2 hk2 hat2 hb2
          go_wp2
          go_roundw
          case measure => simp [intOf]; omega
          case rel => exact ⟨k + 1, by omega, by go_num, by rw [hs.out]; exact HO2.out, HB2.out⟩
        · have hkn : k = us.length := by omega
          subst hkn
          have HO' := Lib.hid (show Own wr w.heap.size _ L from HE.out ▸ HO.out)
          rw [← HLf.out] at HO'
          go_wp2
          go_ret
          exact ⟨_, rfl, HO'.out, HB.out⟩
theorem pcs2 {W : World} {N : Nat} {u1 u2 : Value} {a b : List Int} (hB : Blk W N 28 [u1, u2]) (r1 : RdS W u1 a) (r2 : RdS W u2 b) : Pcs W (.slice (some ⟨N, 0, none⟩) 2 2) [u1, u2] [a, b] :=
  ⟨⟨rfl, _, _, rfl, Nat.le_refl _, by simp [maxLen], fun _ => ⟨N, 0, rfl, hB.lt, fun q u hu => by rw [Nat.zero_add]; exact hB.cell q hu⟩⟩, rfl, fun k hk => by
    match k, hk with
    | 0, _ => exact r1
    | 1, _ => exact r2⟩
theorem Rd.tail {w : World} {b off c : Nat} {l : List Int} (h : RdI w (.slice (some ⟨b, off, none⟩) l.length c) l) {k : Nat} (hk : k ≤ l.length) :
    RdS w (.slice (if c = k then some ⟨b, off, none⟩ else some ⟨b, off + k, none⟩) (l.length - k) (c - k)) (l.drop k) := by
  refine ⟨Rd.back h hk _ (fun hh => ?_), ?_⟩
  · obtain ⟨_, _, _, hv, h1, _⟩ := h
    injection hv with _ _ e
    rw [if_neg (by omega)]
  · rw [List.length_drop]
    split
    · exact ⟨_, _, rfl⟩
    · exact ⟨_, _, rfl⟩
theorem cell_at_new {W : World} {n : Nat} (v : Value) (t : TypeId) (h : W.heap.size = n) : (W.alloc (.cells #[v] t)).cell? ⟨n, 0, none⟩ = some v := by
  rw [← h]; exact (Blk.new W t [v]).cell 0 rfl
theorem blk_at_new {W : World} {n : Nat} (t : TypeId) (cs : List Value) (h : W.heap.size = n) : Blk (W.alloc (.cells cs.toArray t)) n t cs := by
  rw [← h]; exact Blk.new W t cs
theorem Rd.clip {w : World} {A : Option Addr} {c : Nat} {l : List Int} (h : RdI w (.slice A l.length c) l) : RdI w (.slice A l.length l.length) l := by
  have := Rd.front h (Nat.le_refl _)
  obtain ⟨hl, A1, c1, hv, h1, h2, h3⟩ := h
  injection hv with e1 _ e3
  subst e1 e3
  exact ⟨hl, A, l.length, rfl, Nat.le_refl _, Nat.le_trans h1 h2, h3⟩
/-- 'append(s, e)' to a list without room: a new list. -/
theorem run_app_full (w : World) (ty : TypeId) (A : Option Addr) (n : Nat) (l : List Int) (hr : RdI w (.slice A n n) l) (N : Nat) (e : Int) (hN : w.cell? ⟨N, 0, none⟩ = some (.int .i64 e)) (hl : n < 1000000) :
    ∃ v' w', (Builtin.append_ #[28, 28] ty #[.slice A n n, .slice (some ⟨N, 0, none⟩) 1 1]).run Tryz.prog w = .ok v' w' ∧ Own w' w.heap.size v' (l ++ [e]) ∧ Below w.heap.size w w' := by
  obtain ⟨i0, hi0, hz0, hz1, hz2⟩ := info_one info3
  obtain ⟨hlen, A', c', hv, _, _, hcell⟩ := hr
  injection hv with hA hn hc
  subst hA hn hc
  clear hlen
  have hnews : ∀ j u, [Value.int .i64 e][j]? = some u → w.cell? ((⟨N, 0, none⟩ : Addr).add j) = some u := fun j u hu => by
    match j, hu with
    | 0, hu => simp at hu; subst hu; rw [Addr.add_mid]; exact hN
  have hsrc : Src Tryz.prog i0.size 28 (.slice (some ⟨N, 0, none⟩) 1 1) 1 [.int .i64 e] w := Src.ofSlice w Tryz.underlying28 ⟨N, 0, none⟩ 1 1 [.int .i64 e] (by rw [hz1]; rfl) hnews (by intro u hu; simp at hu; subst hu; rfl)
  have hold : (Builtin.firstCells i0.size l.length (.slice A l.length l.length)).run Tryz.prog w.drew = .ok (ints l).toArray w.drew := by
    rw [hz1]
    by_cases h0 : 0 < l.length
    · obtain ⟨b, off, rfl, hb, hc⟩ := hcell h0
      refine run_firstCells_some w.drew 1 l.length ⟨b, off, none⟩ l.length l.length (ints l) (by rw [ints_length]; omega) (fun j u hu => ?_)
      rw [Addr.add_mid]
      simpa using hc j u hu
    · have : l = [] := List.eq_nil_of_length_eq_zero (by omega)
      subst this
      cases A <;> simp [Builtin.firstCells, ints] <;> rfl
  have hR := run_append_grow_src (P := Tryz.prog) w 28 28 ty 3 i0 (.int .i64 0) Tryz.underlying28 hi0 hz0 A l.length l.length (ints l) hold (.slice (some ⟨N, 0, none⟩) 1 1) 1 [.int .i64 e] hsrc (by omega) (by omega) (by rw [hz2]; have := growslice_fits_succ (old := l.length) (bytes := 8) (by omega) (by omega); exact this)
  refine ⟨_, _, hR, ?_, (Below.refl _ w).drew.alloc (Nat.le_refl _) _⟩
  have hb := heap_alloc_new (w := w.drew) (.cells ((ints l ++ [Value.int .i64 e]).toArray ++ Builtin.zeroCells (Value.cells (.int .i64 0)) (grownCap w (l.length + 1) l.length 3 - (l.length + 1))) 3)
  have hg := grownCap_ge w (l.length + 1) l.length 3
  have hm := grownCap_le_maxLen w (l.length + 1) l.length 3 (by simp [maxLen]; omega)
  have hll : (l ++ [e]).length = l.length + 1 := by simp
  refine ⟨by simp [ints], .inr ⟨w.heap.size, grownCap w (l.length + 1) l.length 3, _, by rw [hll], Nat.le_refl _, hb, by omega, hm, ?_, ?_⟩⟩
  · rw [Array.size_append, size_zeroCells]; simp [Value.cells, ints]; omega
  · rw [hll]
    simp only [Array.toList_append, Nat.mul_one]
    rw [List.take_append_of_le_length (by simp [ints])]
    rw [List.take_of_length_le (by simp [ints])]
    simp [ints]
theorem step_app_full {ops : Array Oper} {o : Oper} {a : Act} {w : World} {K : Act → World → Prop} {Q : Exit → Act → World → Prop} {E : Prop} (hw : Region.wanted o (yielded ops a.tmps) = true) (s x : Operand)
    (ho : o.op = .call { callee := .builtin .append, args := #[s, x], argTypes := #[28, 28] }) (A : Option Addr) (n : Nat) (l : List Int) (hs : a.eval s = .slice A n n) (hr : RdI w (.slice A n n) l) (N : Nat) (e : Int) (hx : a.eval x = .slice (some ⟨N, 0, none⟩) 1 1)
    (hN : w.cell? ⟨N, 0, none⟩ = some (.int .i64 e)) (hl : n < 1000000) (h : ∀ v' w', Own w' w.heap.size v' (l ++ [e]) → Below w.heap.size w w' → K (a.put o.dst v') w') :
    if Region.wanted o (yielded ops a.tmps) = true then Oper.wp Tryz.prog o a w K Q else E := by
  rw [if_pos hw]
  obtain ⟨v', w', hr, h2, h3⟩ := run_app_full w o.type A n l hr N e hN hl
  unfold Oper.wp execOp
  simp only [ho, resolve, invoke, builtin, Sem.run_bind, Sem.run_pure, Result.andThen_ok, List.map_toArray, List.map_cons, List.map_nil, hs, hx, hr]
  exact h v' w' h2 h3
end Go.Proofs.YtkddckfgdiemkaaGreat
