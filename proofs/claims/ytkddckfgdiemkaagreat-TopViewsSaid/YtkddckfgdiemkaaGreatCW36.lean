/-
  The machine of views in memory; place.
-/
import Derived.Test.YtkddckfgdiemkaaGreatCW35
set_option linter.unusedVariables false
set_option linter.unusedSimpArgs false
namespace Go.Proofs.YtkddckfgdiemkaaGreat
open Go.RowKit Go.Shelf Mem
set_option maxRecDepth 100000
attribute [local go_sem] Oper.semAt_some

def msgC (x : Msg) : List Value := [.int .i64 x.word, .int .i64 x.view.a, .int .i64 x.view.b, .int .i64 x.view.c, .bool x.tied]
def msgs (l : List Msg) : List Value := l.flatMap msgC
def thrC (x : Thr) (r : Value) : List Value := [.int .i64 x.now.a, .int .i64 x.now.b, .int .i64 x.now.c, .int .i64 x.gained.a, .int .i64 x.gained.b, .int .i64 x.gained.c, .int .i64 x.given.a, .int .i64 x.given.b, .int .i64 x.given.c, r, .int .i64 (x.next : Int)]
def thrs : List Thr → List Value → List Value
  | x :: t, r :: s => thrC x r ++ thrs t s
  | _, _ => []
theorem msgs_length : ∀ l : List Msg, (msgs l).length = l.length * 5
  | [] => rfl
  | x :: t => by have ih := msgs_length t; simp only [msgs, List.flatMap_cons, List.length_append, List.length_cons] at ih ⊢; rw [ih]; simp [msgC]; omega
theorem msgs_at : ∀ (ds : List Msg) (j : Nat) (h : j < ds.length) (i : Nat), i < 5 → (msgs ds)[j * 5 + i]? = (msgC ds[j])[i]?
  | x :: t, 0, _, i, hi => by
    simp only [msgs, List.flatMap_cons, List.getElem_cons_zero, Nat.zero_mul, Nat.zero_add]
    rw [List.getElem?_append_left (by simp [msgC]; omega)]
  | x :: t, j + 1, h, i, hi => by
    have ih := msgs_at t j (by simpa using h) i hi
    simp only [msgs, List.flatMap_cons, List.getElem_cons_succ] at ih ⊢
    rw [List.getElem?_append_right (by simp [msgC]; omega), ← ih]
    congr 1
    simp [msgC]; omega
theorem thrs_length : ∀ (l : List Thr) (s : List Value), s.length = l.length → (thrs l s).length = l.length * 11
  | [], _, _ => by simp [thrs]
  | x :: t, [], h => by simp at h
  | x :: t, r :: s, h => by have ih := thrs_length t s (by simpa using h); simp only [thrs, List.length_append, List.length_cons, ih]; simp [thrC]; omega
theorem thrs_at : ∀ (ds : List Thr) (s : List Value) (j : Nat) (h : j < ds.length) (hs : s.length = ds.length) (i : Nat), i < 11 → (thrs ds s)[j * 11 + i]? = (thrC ds[j] (s.getD j default))[i]?
  | x :: t, [], j, _, hs, i, hi => by simp at hs
  | x :: t, r :: s, 0, _, hs, i, hi => by
    simp only [thrs, List.getElem_cons_zero, Nat.zero_mul, Nat.zero_add, List.getD_cons_zero]
    rw [List.getElem?_append_left (by simp [thrC]; omega)]
  | x :: t, r :: s, j + 1, h, hs, i, hi => by
    have ih := thrs_at t s j (by simpa using h) (by simpa using hs) i hi
    simp only [thrs, List.getElem_cons_succ, List.getD_cons_succ]
    rw [List.getElem?_append_right (by simp [thrC]; omega), ← ih]
    congr 1
    simp [thrC]; omega
/-- The values that the machine's block holds. -/
structure MV where
  pv : Value
  mv : Value
  l0 : Value
  l1 : Value
  l2 : Value
  tv : Value
  rs : List Value
def MV.ln (z : MV) (k : Nat) : Value := if k = 0 then z.l0 else if k = 1 then z.l1 else z.l2
/-- All rows of numbers: the lines, then what each thread read. -/
def MV.row (z : MV) (k : Nat) : Value := if k < 3 then z.ln k else z.rs.getD (k - 3) default
structure IsV (W : World) (B g : Nat) (q : List (List Ev)) (m : VM) (z : MV) : Prop where
  blk : Blk W g 62 [z.pv, z.mv, z.l0, z.l1, z.l2, z.tv, .int .i64 m.all.a, .int .i64 m.all.b, .int .i64 m.all.c]
  gB : B ≤ g
  p : OwnP W B z.pv q
  ms : Row W B 78 5 z.mv m.msgs.length (msgs m.msgs)
  n3 : m.line.length = 3
  ln : ∀ k, k < 3 → Own W B (z.ln k) (m.ln k)
  rl : z.rs.length = m.thr.length
  th : Row W B 80 11 z.tv m.thr.length (thrs m.thr z.rs)
  rd : ∀ t, t < m.thr.length → Own W B (z.rs.getD t default) (m.th t).read
  ap : ∀ i j, i < j → j < 3 + z.rs.length → ∀ h, (z.row i).ownBlock = some h → (z.row j).ownBlock ≠ some h
theorem IsV.below {W W' : World} {B g : Nat} {q : List (List Ev)} {m : VM} {z : MV} (h : IsV W B g q m z) (k : Below W.heap.size W W') : IsV W' B g q m z :=
  ⟨h.blk.below k, h.gB, h.p.below k, Row.below h.ms k, h.n3, fun i hi => Row.below (h.ln i hi) k, h.rl, Row.below h.th k, fun t ht => Row.below (h.rd t ht) k, h.ap⟩
/-- The cells of the block. -/
theorem IsV.cells {W : World} {B g : Nat} {q : List (List Ev)} {m : VM} {z : MV} (h : IsV W B g q m z) : W.cell? ⟨g, 0, none⟩ = some z.pv ∧ W.cell? ⟨g, 1, none⟩ = some z.mv ∧ W.cell? ⟨g, 5, none⟩ = some z.tv ∧
    W.cell? ⟨g, 6, none⟩ = some (.int .i64 m.all.a) ∧ W.cell? ⟨g, 7, none⟩ = some (.int .i64 m.all.b) ∧ W.cell? ⟨g, 8, none⟩ = some (.int .i64 m.all.c) ∧ ∀ k, k < 3 → W.cell? ⟨g, 2 + k, none⟩ = some (z.ln k) := by
  refine ⟨h.blk.cell 0 rfl, h.blk.cell 1 rfl, h.blk.cell 5 rfl, h.blk.cell 6 rfl, h.blk.cell 7 rfl, h.blk.cell 8 rfl, fun k hk => ?_⟩
  rcases (by omega : k = 0 ∨ k = 1 ∨ k = 2) with rfl | rfl | rfl
  · exact h.blk.cell 2 rfl
  · exact h.blk.cell 3 rfl
  · exact h.blk.cell 4 rfl
theorem place_toNat (l : List Int) (x : Int) : max 0 (findFrom (fun y => decide (x = y)) 0 l) = (((findFrom (fun y => decide (x = y)) 0 l).toNat : Nat) : Int) := by omega
theorem place_any {w : World} {B g : Nat} {q : List (List Ev)} {m : VM} {z : MV} (h : IsV w B g q m z) {l : Nat} (hl : l < 3) {x : Int} :
    Calls Tryz.prog 55 #[.pointer (some ⟨g, 0, none⟩), .int .i64 (l : Int), .int .i64 x] w fun e w' => e = .returned (.int .i64 (place m.line l x : Int)) ∧ w = w' := by
  have c2 : w.cell? ⟨g, 2 + l, none⟩ = some (z.ln l) := h.cells.2.2.2.2.2.2 l hl
  have hr := Row.rd (h.ln l hl)
  obtain ⟨A, c, hA, hc1, hc2⟩ := hr.shape
  rw [hA] at c2 hr
  have HI := Lib.hid (index_any (x := x) hr)
  have hx := place_toNat (m.ln l) x
  obtain ⟨ff, hff⟩ : ∃ ff, findFrom (fun y => decide (x = y)) 0 (m.ln l) = ff := ⟨_, rfl⟩
  rw [hff] at HI hx
  obtain ⟨pp, hpp⟩ : ∃ pp, (place m.line l x : Int) = pp := ⟨_, rfl⟩
  have hpl : Hid (pp = max 0 ff) := Lib.hid (by rw [← hpp, hx, ← hff]; rfl)
  rw [hpp]
  have i1 : (0 : Int) ≤ (l : Int) := by omega
  have i2 : (l : Int) < 3 := by omega
  obtain ⟨n, hn⟩ : ∃ n, (m.ln l).length = n := ⟨_, rfl⟩
  rw [hn] at c2 HI
  clear h hr hA hx hff hn hc1 hpp
  go_enter Tryz.func55, Tryz.ntmps55
  go_wp2_with (go_at_call 67; refine HI.out.mono ?_; rintro e1 w1 ⟨rfl, rfl⟩)
  go_ret
  exact ⟨by rw [hpl.out]; rfl, rfl⟩
end Go.Proofs.YtkddckfgdiemkaaGreat
/-
  The walks of bound, there, join.
-/
set_option linter.unusedVariables false
set_option linter.unusedSimpArgs false
namespace Go.Proofs.YtkddckfgdiemkaaGreat
open Go.RowKit Go.Shelf Mem
set_option maxRecDepth 100000
attribute [local go_sem] Oper.semAt_some

/-- What the lines name is there. -/
structure VmOk (m : VM) : Prop where
  ln : ∀ l, l < 3 → ∀ (k : Nat) (y : Int), (m.ln l)[k]? = some y → 0 ≤ y ∧ y < (m.msgs.length : Int)
  ll : ∀ l, l < 3 → (m.ln l).length ≤ 1000
  ml : m.msgs.length ≤ 1000
/-- A line, as the walk meets it. -/
theorem IsV.line {w : World} {B g : Nat} {q : List (List Ev)} {m : VM} {z : MV} (h : IsV w B g q m z) {l : Nat} (hl : l < 3) : ∃ A c, (m.ln l).length ≤ c ∧ c ≤ 9223372036854775807 ∧ z.ln l = .slice A (m.ln l).length c ∧ w.cell? ⟨g, 2 + l, none⟩ = some (.slice A (m.ln l).length c) ∧ RdI w (.slice A (m.ln l).length c) (m.ln l) := by
  have c2 : w.cell? ⟨g, 2 + l, none⟩ = some (z.ln l) := h.cells.2.2.2.2.2.2 l hl
  have hr := Row.rd (h.ln l hl)
  obtain ⟨A, c, hA, hc1, hc2⟩ := hr.shape
  rw [hA] at c2 hr
  exact ⟨A, c, hc1, hc2, hA, c2, hr⟩
/-- The messages, as the walk meets them. -/
theorem IsV.msgs_ {w : World} {B g : Nat} {q : List (List Ev)} {m : VM} {z : MV} (h : IsV w B g q m z) : ∃ A c, m.msgs.length ≤ c ∧ c ≤ 9223372036854775807 ∧ z.mv = .slice A m.msgs.length c ∧ w.cell? ⟨g, 1, none⟩ = some (.slice A m.msgs.length c) ∧
    ∀ k, k < m.msgs.length → ∃ b off, A = some ⟨b, off, none⟩ ∧ b < w.heap.size ∧ w.cell? ⟨b, off + k * 5, none⟩ = some (.int .i64 (m.msg k).word) ∧ w.cell? ⟨b, off + k * 5 + 1, none⟩ = some (.int .i64 (m.msg k).view.a) ∧ w.cell? ⟨b, off + k * 5 + 2, none⟩ = some (.int .i64 (m.msg k).view.b) ∧
      w.cell? ⟨b, off + k * 5 + 3, none⟩ = some (.int .i64 (m.msg k).view.c) ∧ w.cell? ⟨b, off + k * 5 + 4, none⟩ = some (.bool (m.msg k).tied) := by
  have c1 : w.cell? ⟨g, 1, none⟩ = some z.mv := h.cells.2.1
  have hr := Row.rd h.ms
  obtain ⟨A, c, hA, hc1, hc2⟩ := hr.shape
  rw [hA] at c1 hr
  refine ⟨A, c, hc1, hc2, hA, c1, fun k hk => ?_⟩
  obtain ⟨b, off, hA, hb, hc⟩ := Rd.elem hr hk
  have hat := fun i hi => (hc i hi).trans (msgs_at m.msgs k hk i hi)
  have e : m.msg k = m.msgs[k] := by unfold VM.msg; rw [List.getD, List.getElem?_eq_getElem hk]; rfl
  rw [e]
  exact ⟨b, off, hA, hb, hat 0 (by decide), hat 1 (by decide), hat 2 (by decide), hat 3 (by decide), hat 4 (by decide)⟩
theorem bound_any {w : World} {B g : Nat} {q : List (List Ev)} {m : VM} {z : MV} (h : IsV w B g q m z) (ho : VmOk m) {l k : Nat} (hl : l < 3) (hk : k < 2000) :
    Calls Tryz.prog 56 #[.pointer (some ⟨g, 0, none⟩), .int .i64 (l : Int), .int .i64 (k : Int)] w (Tells w (bound m l k)) := by
  obtain ⟨A, c, hc1, hc2, _, c2, hr⟩ := h.line hl
  obtain ⟨Am, cm, hcm1, hcm2, _, cm1, hms⟩ := h.msgs_
  have i1 : (0 : Int) ≤ (l : Int) := by omega
  have i2 : (l : Int) < 3 := by omega
  by_cases hlt : k + 1 < (m.ln l).length
  · have hlt' : (k : Int) + 1 < ((m.ln l).length : Int) := by omega
    have hk0 : (0 : Int) ≤ (k : Int) + 1 := by omega
    obtain ⟨b, off, rfl, hb, hcl⟩ := RdI.atn hr rfl hlt
    obtain ⟨y0, y1⟩ := ho.ln l hl (k + 1) _ (List.getElem?_eq_getElem hlt)
    rw [int_getD hlt] at hcl
    obtain ⟨y, hy⟩ : ∃ y : Nat, (m.ln l)[k + 1] = (y : Int) := ⟨((m.ln l)[k + 1]).toNat, by omega⟩
    rw [hy] at hcl y0 y1
    obtain ⟨bm, om, rfl, hbm, _, _, _, _, tc⟩ := hms y (by omega)
    have hbd : Hid (bound m l k = (m.msg y).tied) := Lib.hid (by unfold bound; rw [decide_eq_true hlt, List.getD, List.getElem?_eq_getElem hlt, Option.getD_some, hy, Int.toNat_natCast, Bool.true_and])
    obtain ⟨td, htd⟩ : ∃ td, (m.msg y).tied = td := ⟨_, rfl⟩
    rw [htd] at tc hbd
    obtain ⟨bb, hbb⟩ : ∃ bb, bound m l k = bb := ⟨_, rfl⟩
    rw [hbb] at hbd ⊢
    obtain ⟨n, hn⟩ : ∃ n, (m.ln l).length = n := ⟨_, rfl⟩
    rw [hn] at c2 hlt'
    obtain ⟨M, hM⟩ : ∃ M, m.msgs.length = M := ⟨_, rfl⟩
    rw [hM] at cm1 y1
    clear h ho hr hms hy htd hbb hn hM hlt hc1 hcm1
    go_enter Tryz.func56, Tryz.ntmps56
    go_upto_region 2 with fail
    go_quiet (fail)
    go_wp2
    go_ret
    exact ⟨by rw [hbd.out]; rfl, (Below.refl _ _).drewN _⟩
  · have hlt' : ¬ (k : Int) + 1 < ((m.ln l).length : Int) := by omega
    have hbd : Hid (bound m l k = false) := Lib.hid (by unfold bound; rw [decide_eq_false hlt]; rfl)
    obtain ⟨bb, hbb⟩ : ∃ bb, bound m l k = bb := ⟨_, rfl⟩
    rw [hbb] at hbd ⊢
    obtain ⟨n, hn⟩ : ∃ n, (m.ln l).length = n := ⟨_, rfl⟩
    rw [hn] at c2 hlt'
    clear h ho hr hms hbb hn hlt hc1 hcm1
    go_enter Tryz.func56, Tryz.ntmps56
    go_upto_region 2 with fail
    go_quiet (fail)
    go_wp2
    go_ret
    exact ⟨by rw [hbd.out]; rfl, (Below.refl _ _).drewN _⟩
end Go.Proofs.YtkddckfgdiemkaaGreat
