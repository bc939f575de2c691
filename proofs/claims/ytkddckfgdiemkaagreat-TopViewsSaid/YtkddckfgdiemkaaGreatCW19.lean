/-
  The walks of slices.Values, AppendSeq, Collect, Sorted at lists of numbers, and of same.
-/
import Derived.Test.YtkddckfgdiemkaaGreatCW18
import Derived.Test.YtkddckfgdiemkaaGreatCShelf
import Derived.Maps.OwnIn
import Derived.Sort.OwnSortedInts
set_option linter.unusedVariables false
set_option linter.unusedSimpArgs false
namespace Go.Proofs.YtkddckfgdiemkaaGreat
open Go.RowKit Go.Shelf Mem
set_option maxRecDepth 100000
attribute [local go_sem] Oper.semAt_some

theorem values_any {w : World} {A : Option Addr} {n c : Nat} : Calls Tryz.prog 100 #[.slice A n c] w fun e w' =>
    e = .returned (.func (.func 112) #[] #[.pointer (some ⟨w.heap.size, 0, none⟩)]) ∧ w' = w.alloc (.cells #[.slice A n c] 28) := by
  go_enter Tryz.func100, Tryz.ntmps100
  go_wp2
  go_ret
  exact ⟨rfl, rfl⟩
theorem take_one {α : Type} (l : List α) (k : Nat) (hk : k < l.length) : l.take (k + 1) = l.take k ++ [l[k]'hk] := by
  rw [List.take_add_one, List.getElem?_eq_getElem hk]; rfl
theorem take_pre {α : Type} (l : List α) (k : Nat) (hk : k < l.length) : l.take k ++ [l[k]'hk] <+: l := by
  rw [← take_one l k hk]; exact List.take_prefix _ _
set_option maxHeartbeats 1000000 in
/-- **The iterator's contract.** -/
theorem values_gives {w : World} {S0 : Nat → Prop} {l : List Int} {v : Value} {bp : Nat} (hp : Blk w bp 28 [v]) (hr : RdI w v l) (hsp : ¬ S0 bp) (hsv : ∀ g, v.ownBlock = some g → ¬ S0 g) (hplt : ∀ g, v.ownBlock = some g → g < w.heap.size) (hn : l.length ≤ 1000) :
    GivesX Tryz.prog 112 #[.pointer (some ⟨bp, 0, none⟩)] S0 (fun _ vs x => vs = #[.int .i64 x]) l w := by
  intro y J Jx W S hS hK hJ hJx hY h0
  have hs : ∀ k, k < w.heap.size → ¬ S0 k → ¬ S k := fun k hk h1 h2 => h1 (hS k hk h2)
  have P1 := Lib.hid (hp.keep hK hsp)
  have R1 := Lib.hid (Rd.keep hr hK hsv)
  have hsv1 : Hid (∀ g, v.ownBlock = some g → ¬ S g) := Lib.hid (fun g hg => hs g (hplt g hg) (hsv g hg))
  have HY := Lib.hid hY
  have H0 := Lib.hid h0
  obtain ⟨A, c, rfl, hc1, hc2⟩ := R1.out.shape
  have p0 := P1.out.cell 0 rfl
  clear hp hr hsp hsv hplt hS hK hJ hJx hY h0 hs
  refine callsIn_wide.2 ?_
  show Calls Tryz.prog 112 #[.func (.yield y) #[] #[], .pointer (some ⟨bp, 0, none⟩)] W _
  go_enter Tryz.func112, Tryz.ntmps112
  go_wp2
  go_loopw [7] (fun i wr => ∃ k : Nat, k ≤ l.length ∧ i = .int .i64 k ∧ J (l.take k) wr ∧ Kept W wr S) (fun i _ => l.length - (intOf i).toNat)
  case atStart => exact ⟨0, Nat.zero_le _, rfl, H0.out, Kept.refl _ _⟩
  case round =>
    obtain ⟨k, hk, rfl, hj, hkk⟩ := hrel
    have HJ1 := Lib.hid hj
    have HK1 := Lib.hid hkk
    clear hj hkk
    by_cases hlt : k < l.length
    · have R2 := Lib.hid (Rd.keep R1.out HK1.out hsv1.out)
      obtain ⟨b, off, rfl, hb, hcell⟩ := Rd.one R2.out hlt
      have d0 := hcell.trans (ints_at l k hlt)
      obtain ⟨fn, tmps, assign, body, hy, hR⟩ := HY.out (l.take k) (l[k]'hlt) #[.int .i64 (l[k]'hlt)] wr HJ1.out (take_pre l k hlt) rfl
      have HR := Lib.hid hR
      have HT : Hid (l.take (k + 1) = l.take k ++ [l[k]'hlt]) := Lib.hid (take_one l k hlt)
      generalize hx : l[k]'hlt = x at *
      have i1 : (0 : Int) ≤ (k : Int) := by omega
      have i2 : (k : Int) < (l.length : Int) := by omega
      clear hR hcell
      go_upto_region 3 with fail
      refine wpIn_wide (n := 9).1 ?_
      gi_wp2_with (refine (roundN HR.out).mono ?_; rintro e W3 h3; obtain ⟨bb, rfl, hb3, hk3⟩ := round_of h3)
      have HKW := Lib.hid (HK1.out.trans hk3 (fun _ _ h => h))
      have HB3 := Lib.hid hb3
      clear hk3 hb3
      cases bb with
      | true =>
        have hj4 : Hid (J (l.take (k + 1)) W3) := Lib.hid (by
          rw [HT.out]
          rcases HB3.out with ⟨_, h⟩ | ⟨h, _⟩
          · exact h
          · cases h)
        clear HB3
        go_wp2
        go_roundw
        case measure => simp [intOf]; omega
        case rel => exact ⟨k + 1, by omega, by go_num, hj4.out, HKW.out⟩
      | false =>
        have hj4 : Hid (∃ q, q <+: l ∧ Jx q W3) := Lib.hid (by
          rcases HB3.out with ⟨h, _⟩ | ⟨_, h⟩
          · cases h
          · exact ⟨_, by rw [← HT.out]; exact List.take_prefix _ _, h⟩)
        clear HB3
        go_wp2
        go_returns
        exact ⟨⟨_, rfl⟩, .inr hj4.out⟩
    · have hsm : k = l.length := by omega
      subst hsm
      go_wp2
      go_returns
      exact ⟨⟨_, rfl⟩, .inl (by have := HJ1.out; rwa [List.take_length] at this)⟩
/-- 'append(v, x)' of a number to a list of the call's own, behind its box, within a fence. -/
theorem wpListIn_append_int {F : Fence} {nF : Nat} {ops : Array Oper} {rest : List Oper} {o : Oper} {a : Act} {Q : Exit → Act → World → Prop} {w : World} (hgd : o.guard = none) (s x : Operand)
    (ho : o.op = .call { callee := .builtin .append, args := #[s, x], argTypes := #[28, 28] })
    (B : Nat) (v : Value) (l : List Int) (y : Int) (N : Nat) (hs : a.eval s = v) (hown : Own w B v l) (hx : a.eval x = .slice (some ⟨N, 0, none⟩) 1 1) (hN : N = w.heap.size) (hB : B ≤ w.heap.size) (hl : l.length < 1000000)
    (h : ∀ v' w', Own w' B v' (l ++ [y]) → Kept w w' (fun k => v.ownBlock = some k) → (∀ k, v'.ownBlock = some k → v.ownBlock = some k ∨ w.heap.size ≤ k) → wpListIn F nF Tryz.prog ops Q rest (a.put o.dst v') w') :
    wpListIn F nF Tryz.prog ops Q (o :: rest) a (w.alloc (.cells #[.int .i64 y] 3)) := by
  subst hN
  obtain ⟨i0, hi0, hz0, hz1, hz2⟩ := info_one info3
  refine wpListIn_append_own_at _ hgd s x 28 ho B 3 i0 (.int .i64 0) 1 8 Tryz.underlying28 hi0 hz0 hz1 hz2 rfl (by decide) v l.length (ints l) hs (World.ownsRow.alloc hown _) ⟨w.heap.size, 0, none⟩ 1 1 [.int .i64 y] hx rfl
    (fun j u hu => ?_) (by intro u hu; simp at hu; subst hu; rfl) (by simp only [maxLen]; omega) (by omega) (by simp; omega) ?_
  · match j, hu with
    | 0, hu => simp at hu; subst hu; simp [Addr.add]
  · intro v' w' hown' hg _ hat
    refine h v' w' (by simpa [Own, ints] using hown') ?_ ?_
    · exact ((Kept.refl w _).alloc _).grown hg (fun k hk => .inl hk)
    · intro k hk
      rcases hat with hat | hat
      · exact .inl (hat ▸ hk)
      · rw [hat] at hk; simp at hk; exact .inr (by omega)
set_option maxHeartbeats 1000000 in
/-- AppendSeq to the empty list, of an iterator that changes no cells. -/
theorem appendSeq_any {w : World} {gf : Nat} {lb : Array Value} {l : List Int} (eg : ∀ args w, (callFunc gf args).run Tryz.prog w = .ok (.enter gf args) w) (hl : l.length ≤ 1000)
    (hg : ∀ W, Below w.heap.size w W → GivesX Tryz.prog gf lb (fun k => k = w.heap.size) (fun _ vs x => vs = #[.int .i64 x]) l W) :
    Calls Tryz.prog 114 #[.slice none 0 0, .func (.func gf) #[] lb] w (Made l w) := by
  refine (callsIn_wide (n := 9)).1 ?_
  refine callsIn_of_wp_marks Tryz.func114 rfl trivial ?_ rfl
  simp only [Tryz.ntmps114, List.size_toArray, List.length_cons, List.length_nil, Nat.reduceAdd, Nat.reduceSub, Array.replicate_succ, Array.replicate_zero, List.push_toArray, List.append_toArray, List.nil_append, List.cons_append]
  obtain ⟨w1, hw1⟩ : ∃ w1, w.alloc (.cells #[.slice none 0 0] 28) = w1 := ⟨_, rfl⟩
  have b1 : Below w.heap.size w w1 := by rw [← hw1]; exact (Below.refl _ w).alloc (Nat.le_refl _) _
  have X1 := Lib.hid (show Blk w1 w.heap.size 28 [.slice none 0 0] by rw [← hw1]; exact Blk.new w 28 _)
  have hsz : w1.heap.size = w.heap.size + 1 := by rw [← hw1]; simp
  have HG := Lib.hid (hg w1 b1)
  have HW1 := Lib.hid hw1
  have B1 := Lib.hid b1
  have EG := Lib.hid eg
  clear hg b1 hw1 eg
  gi_upto_region 1 with fail
  rw [HW1.out]
  gi_wp2
  refine wpIn_rangeX (gf := gf) (lb := lb) (S0 := fun k => k = w.heap.size)
    (I := fun (pre : List Int) Wc => (∃ v, Blk Wc w.heap.size 28 [v] ∧ Own Wc (w.heap.size + 3) v pre) ∧ Kept w1 Wc (fun k => k = w.heap.size) ∧ pre.length ≤ l.length)
    (Ix := fun _ _ _ => False) rfl EG.out HG.out (fun k hk => by omega) ?abI ?abX (fun Wc vs x hv => by rw [hv]; rfl) ⟨⟨_, X1.out, ?nil⟩, Kept.refl _ _, Nat.zero_le _⟩ ?round ?done ?stop
  case nil => exact Own.nil _ _
  case abI => exact fun s A C hj hb hcs => ⟨hj.1.imp fun v h => ⟨hcs _ _ _ _ h.1, Row.cells h.2 hcs⟩, abide_kept (β := Unit) () _ _ hj.2.1 hb, hj.2.2⟩
  case abX => exact fun c s A C hj hb hcs => hj
  case stop => exact fun D c pre Wc hD hpre h hdef => h.elim
  case done =>
    rintro D Wc hD ⟨⟨v, hb, ho⟩, hk, _⟩ hdef
    obtain ⟨Av, cv, rfl, hcv1, hcv2⟩ := (Row.rd ho).shape
    have hcs : CellsStay Wc (Wc.putObj D (.deferred none)) := putObj_cells hdef (fun _ _ _ h => by cases h)
    have c0 := hb.cell 0 rfl
    have hbf : Below w.heap.size w (Wc.putObj D (.deferred none)) := B1.out.trans ((hk.below (by omega) (fun k hs => by omega)).trans (putObj_below (by omega)))
    have HO := Lib.hid (Row.cells ho hcs)
    clear hb ho hk
    gi_wp2
    refine ⟨by simp, .inl ⟨_, _, rfl, run_takeDeferred hdef, ?_⟩⟩
    exact ⟨_, by simp [results, go_sem], _, rfl, Row.mono HO.out (by omega), hbf⟩
  case round =>
    rintro l₁ pre x vs W1 hl1 hloop1 ⟨⟨v, hb, ho⟩, hk1, hlen⟩ hpre1 rfl
    gi_wp2
    refine ⟨Kept.refl W1 _, fun W₂ hk2 hsz2 hloop2 => ?_⟩
    obtain ⟨r1, hr1⟩ := hloop1
    have hcs : CellsStay W1 W₂ := loop_cells hr1 hk2
    have hb2 : Blk W₂ w.heap.size 28 [v] := hcs _ _ _ _ hb
    have ho2 : Own W₂ (w.heap.size + 3) v pre := Row.cells ho hcs
    obtain ⟨Av, cv, rfl, hcv1, hcv2⟩ := (Row.rd ho2).shape
    have hk12 : Kept w1 W₂ (fun k => k = w.heap.size) := hk1.trans hk2 (fun i hi e => absurd hi (by omega))
    have c2 := hb2.cell 0 rfl
    have hlt : pre.length < l.length := by have := hpre1.length_le; simp at this; omega
    have hs2 : w.heap.size + 3 ≤ W₂.heap.size := by have := (Array.getElem?_eq_some_iff.1 hr1).1; have := hk2.size; omega
    have HB2 := Lib.hid hb2
    have HO2 := Lib.hid ho2
    have HK12 := Lib.hid hk12
    clear hb ho hk1 hk2 hsz2 hloop2 hr1 hcs hb2 ho2 hk12
    gi_wp2_with (gi_at_builtin; refine wpListIn_append_int rfl (.tmp 8) (.tmp 10) rfl (w.heap.size + 3) (.slice Av pre.length cv) pre x _ rfl HO2.out rfl rfl hs2 (by omega) ?_; intro v' w' hown' hk' hat; obtain ⟨Av', cv', rfl, _, _⟩ := (Row.rd hown').shape; have hb3 := HB2.out.keep hk' (fun hg => by have := (Row.at_lt HO2.out hg).1; omega); have c3 := hb3.cell 0 rfl; have f3 := hb3.free 0)
    rw [show (pre ++ [x]).length = pre.length + 1 by simp] at hown'
    have hS : Kept W₂ (w'.setCell ⟨w.heap.size, 0, none⟩ (.slice Av' (pre.length + 1) cv')) (fun k => k = w.heap.size ∨ w1.heap.size + 1 < k) :=
      (hk'.mono (fun k _ hg => .inr (by have := (Row.at_lt HO2.out hg).1; omega))).setCell (.inl (.inl rfl)) _
    have hO : Own (w'.setCell ⟨w.heap.size, 0, none⟩ (.slice Av' (pre.length + 1) cv')) (w.heap.size + 3) (.slice Av' (pre.length + 1) cv') (pre ++ [x]) :=
      Row.keep hown' (set1_kept _) (fun g hg e => by have := (Row.at_lt hown' hg).1; omega)
    exact ⟨⟨⟨_, hb3.set 0 _, hO⟩, HK12.out.trans hS (fun k hk (h : k = w.heap.size ∨ w1.heap.size + 1 < k) => Or.elim h id (fun h => by omega)), by simp; omega⟩, hS⟩
theorem collect_any {w : World} {gf : Nat} {lb : Array Value} {l : List Int} (eg : ∀ args w, (callFunc gf args).run Tryz.prog w = .ok (.enter gf args) w) (hl : l.length ≤ 1000)
    (hg : ∀ W, Below w.heap.size w W → GivesX Tryz.prog gf lb (fun k => k = w.heap.size) (fun _ vs x => vs = #[.int .i64 x]) l W) :
    Calls Tryz.prog 110 #[.func (.func gf) #[] lb] w (Made l w) := by
  have H := Lib.hid (appendSeq_any eg hl hg)
  clear eg hg
  go_enter Tryz.func110, Tryz.ntmps110
  go_wp2_with (go_at_call 114; refine H.out.mono ?_; rintro e w1 ⟨u, rfl, hown, hb⟩; obtain ⟨Au, cu, rfl, _, _⟩ := (Row.rd hown).shape)
  go_ret
  exact ⟨_, rfl, hown, hb⟩
abbrev sortI (l : List Int) : List Int := l.mergeSort fun x y => decide (x ≤ y)
theorem sorted_any {w : World} {gf : Nat} {lb : Array Value} {l : List Int} (eg : ∀ args w, (callFunc gf args).run Tryz.prog w = .ok (.enter gf args) w) (hl : l.length ≤ 1000)
    (hg : ∀ W, Below w.heap.size w W → GivesX Tryz.prog gf lb (fun k => k = w.heap.size) (fun _ vs x => vs = #[.int .i64 x]) l W) :
    Calls Tryz.prog 99 #[.func (.func gf) #[] lb] w (Made (sortI l) w) := by
  have H := Lib.hid (collect_any eg hl hg)
  clear eg hg
  go_enter Tryz.func99, Tryz.ntmps99
  go_upto_region 2 with (go_at_call 110; refine H.out.mono ?_; rintro e w1 ⟨u, rfl, hown, hb⟩; obtain ⟨Au, cu, rfl, _, _⟩ := (Row.rd hown).shape)
  have HB := Lib.hid hb
  have hlen := hown.1
  rcases hown.2 with ⟨hnil, h0⟩ | ⟨g, cap, cur, hv, hgb, hgc, h1, h2, h3, h4⟩
  · have hl0 : l = [] := by cases l with | nil => rfl | cons a t => simp at hnil
    subst hl0
    have HO := Lib.hid hown
    clear hown hb hlen hnil h0
    go_wp2_with (go_at_call 111; refine (Tryz.slices_Sort_int_none _ _ _).mono ?_; rintro e w2 ⟨rfl, rfl⟩)
    go_ret
    exact ⟨_, rfl, by rw [show sortI [] = [] by simp [sortI]]; exact HO.out, HB.out⟩
  · cases hv
    have hH : Hid (Go.Sort.Holds (Value.int .i64) w1 g 0 l.toArray) := Lib.hid (holds_of_blockI hgc (by simpa [ints] using h4))
    have HGC := Lib.hid hgc
    have hgl : g < w1.heap.size := (Array.getElem?_eq_some_iff.1 hgc).1
    have HH := Lib.hid (And.intro h1 (And.intro h2 (And.intro h3 hgb)))
    clear hown hb hlen hgc h1 h2 h3 h4
    go_wp2_with (go_at_call 111; refine (Tryz.slices_Sort_int g 0 _ l w1 hH.out hgl (by omega)).mono ?_; rintro e w2 ⟨rfl, n, os, rfl⟩)
    go_ret
    have hsl : (sortI l).length = l.length := by simp [sortI]
    have hr := ownsRow_sortedI (n := n) (os := os) (base := w.heap.size) hsl HH.out.2.2.2 HGC.out HH.out.1 HH.out.2.1 HH.out.2.2.1
    have hgr := grownBy_sortedI (w := w1) (g := g) (n := n) (os := os) (sortI l).toArray
    refine ⟨_, rfl, ?_, HB.out.trans (((Kept.refl w1 (fun k => k = g)).grown hgr (fun k hk => .inl (by injection hk with h; exact h.symm))).below HB.out.size (fun k hk => by have := HH.out.2.2.2; omega))⟩
    show Row _ _ 3 1 _ (sortI l).length _
    rw [hsl]
    exact hr
end Go.Proofs.YtkddckfgdiemkaaGreat
