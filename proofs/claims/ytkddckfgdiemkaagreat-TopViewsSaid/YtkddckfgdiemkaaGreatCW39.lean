/-
  The walks of none, there.
-/
import Derived.Test.YtkddckfgdiemkaaGreatCW38
set_option linter.unusedVariables false
set_option linter.unusedSimpArgs false
namespace Go.Proofs.YtkddckfgdiemkaaGreat
open Go.RowKit Go.Shelf Mem
set_option maxRecDepth 100000
attribute [local go_sem] Oper.semAt_some

theorem none_any {w : World} : Calls Tryz.prog 29 #[] w fun e w' => e = .returned (v3V V3.nil) ∧ Below w.heap.size w w' := by
  go_enter Tryz.func29, Tryz.ntmps29
  go_wp2
  have hXX : Blk (w.alloc (.cells #[.int .i64 (-1), .int .i64 (-1), .int .i64 (-1)] 60)) w.heap.size 60 [.int .i64 (-1), .int .i64 (-1), .int .i64 (-1)] := Blk.new w 60 _
  refine bodyPost_ret (results_cell_row rfl _ _ w.heap.size 60 _ (0, 0) _ rfl hXX Tryz.underlying60 rfl (by kernel_rfl)) rfl ?_
  exact ⟨rfl, (Below.refl _ w).alloc (Nat.le_refl _) _⟩
/-- The threads, as the walk meets them. -/
theorem IsV.thrs_ {w : World} {B g : Nat} {q : List (List Ev)} {m : VM} {z : MV} (h : IsV w B g q m z) : ∃ A c, m.thr.length ≤ c ∧ c ≤ 9223372036854775807 ∧ z.tv = .slice A m.thr.length c ∧ w.cell? ⟨g, 5, none⟩ = some (.slice A m.thr.length c) ∧
    ∀ t, t < m.thr.length → ∃ b off, A = some ⟨b, off, none⟩ ∧ b < w.heap.size ∧ ∀ i, i < 11 → w.cell? ⟨b, off + t * 11 + i, none⟩ = (thrC (m.th t) (z.rs.getD t default))[i]? := by
  have c1 : w.cell? ⟨g, 5, none⟩ = some z.tv := h.cells.2.2.1
  have hr := Row.rd h.th
  obtain ⟨A, c, hA, hc1, hc2⟩ := hr.shape
  rw [hA] at c1 hr
  refine ⟨A, c, hc1, hc2, hA, c1, fun t ht => ?_⟩
  obtain ⟨b, off, hA, hb, hc⟩ := Rd.elem hr ht
  have e : m.th t = m.thr[t] := by unfold VM.th; rw [List.getD, List.getElem?_eq_getElem ht]; rfl
  rw [e]
  exact ⟨b, off, hA, hb, fun i hi => (hc i hi).trans (thrs_at m.thr z.rs t ht h.rl i hi)⟩
theorem there_any {w : World} {B g : Nat} {q : List (List Ev)} {m : VM} {z : MV} (h : IsV w B g q m z) (h0 : 0 < m.thr.length) : Calls Tryz.prog 54 #[.pointer (some ⟨g, 0, none⟩)] w fun e w' => e = .returned (.bool true) ∧ w = w' := by
  obtain ⟨A, c, hc1, hc2, _, c5, _⟩ := h.thrs_
  obtain ⟨n, hn⟩ : ∃ n, m.thr.length = n := ⟨_, rfl⟩
  rw [hn] at c5 h0
  have h0' : (n : Int) > 0 := by omega
  clear h hn hc1
  go_enter Tryz.func54, Tryz.ntmps54
  go_wp2
  go_ret
  exact ⟨rfl, rfl⟩
end Go.Proofs.YtkddckfgdiemkaaGreat
/-
  The walk of turn.
-/
set_option linter.unusedVariables false
set_option linter.unusedSimpArgs false
namespace Go.Proofs.YtkddckfgdiemkaaGreat
open Go.RowKit Go.Shelf Mem
set_option maxRecDepth 100000
attribute [local go_sem] Oper.semAt_some

abbrev opZ : Value := .agg #[.int .i64 0, .int .i64 0, .int .i64 0, .int .i64 0, .int .i64 0]
theorem turn_ok {w : World} {B g : Nat} {q : List (List Ev)} {m : VM} {z : MV} (h : IsV w B g q m z) (hq : q.length = m.thr.length) {t : Nat} (ht : t < m.thr.length) (hn : (m.th t).next < (q.getD t []).length) :
    Calls Tryz.prog 30 #[.pointer (some ⟨g, 0, none⟩), .int .i64 (t : Int)] w fun e w' => e = .returned (.tuple #[opV (ev (q.getD t []) ((m.th t).next : Int)), .int .i64 0]) ∧ Below w.heap.size w w' := by
  obtain ⟨w0, hw0⟩ : ∃ w0, w.alloc (.cells #[.int .i64 0, .int .i64 0, .int .i64 0, .int .i64 0, .int .i64 0] 47) = w0 := ⟨_, rfl⟩
  have b0 : Below w.heap.size w w0 := by rw [← hw0]; exact (Below.refl _ w).alloc (Nat.le_refl _) _
  have X := Lib.hid (show Blk w0 w.heap.size 47 [.int .i64 0, .int .i64 0, .int .i64 0, .int .i64 0, .int .i64 0] by rw [← hw0]; exact Blk.new w 47 _)
  have h1 := h.below b0
  have HT := Lib.hid (there_any h1 (by omega))
  obtain ⟨A, c, hc1, hc2, _, c5, hth⟩ := h1.thrs_
  obtain ⟨b, off, rfl, hb, hcs⟩ := hth t ht
  have n0 : w0.cell? ⟨b, off + t * 11 + 10, none⟩ = some (.int .i64 ((m.th t).next : Int)) := hcs 10 (by decide)
  have c0 := h1.cells.1
  have hp := h1.p.rd
  obtain ⟨Ap, cp, hAp, hcp1, hcp2⟩ := hp.shape
  rw [hAp] at c0 hp
  obtain ⟨bp, op, A1, cc1, rfl, hbp, hpc, hro, h4, h5⟩ := RdP.at_ hp rfl (show t < q.length by omega)
  obtain ⟨bo, oo, rfl, hbo, x0, x1, x2, x3, x4⟩ := RdO.at_ hro rfl hn
  have B0 := Lib.hid b0
  have HW0 := Lib.hid hw0
  have t0 : (0 : Int) ≤ (t : Int) := by omega
  have t1 : ¬ (t : Int) < 0 := by omega
  obtain ⟨N, hN⟩ : ∃ N, m.thr.length = N := ⟨_, rfl⟩
  rw [hq] at c0
  rw [hN] at c5 c0 ht
  have t2 : ¬ (t : Int) ≥ (N : Int) := by omega
  have t3 : (t : Int) < (N : Int) := by omega
  obtain ⟨G, hG⟩ : ∃ G, ev (q.getD t []) ((m.th t).next : Int) = G := ⟨_, rfl⟩
  rw [hG] at x0 x1 x2 x3 x4 ⊢
  obtain ⟨L, hL⟩ : ∃ L, (q.getD t []).length = L := ⟨_, rfl⟩
  rw [hL] at hpc hn
  obtain ⟨nx, hnx⟩ : ∃ nx, (m.th t).next = nx := ⟨_, rfl⟩
  rw [hnx] at n0 hn x0 x1 x2 x3 x4
  have n1 : (0 : Int) ≤ (nx : Int) := by omega
  have n2 : (nx : Int) < (L : Int) := by omega
  have n3 : ((nx : Int) == (L : Int)) = false := beq_eq_false_iff_ne.2 (by omega)
  have f0 := X.out.free 0
  have f1 := X.out.free 1
  have f2 := X.out.free 2
  have f3 := X.out.free 3
  have f4 := X.out.free 4
  have y0 := X.out.cell 0 rfl
  have y1 := X.out.cell 1 rfl
  have y2 := X.out.cell 2 rfl
  have y3 := X.out.cell 3 rfl
  have y4 := X.out.cell 4 rfl
  clear h h1 hth hcs hp hro hAp hq hN hG hL hnx hw0 b0 hn ht
  go_enter Tryz.func30, Tryz.ntmps30
  go_upto_region 1 with fail
  rw [HW0.out]
  go_wp2_with (go_at_call 54; refine HT.out.mono ?_; rintro e1 w1 ⟨rfl, rfl⟩)
  have hXX : Blk (((((w0.setCell ⟨w.heap.size, 0, none⟩ (.int .i64 G.kind)).setCell ⟨w.heap.size, 1, none⟩ (.int .i64 G.loc)).setCell ⟨w.heap.size, 2, none⟩ (.int .i64 G.v)).setCell ⟨w.heap.size, 3, none⟩ (.int .i64 G.w)).setCell ⟨w.heap.size, 4, none⟩ (.int .i64 G.ord)) w.heap.size 47 [.int .i64 G.kind, .int .i64 G.loc, .int .i64 G.v, .int .i64 G.w, .int .i64 G.ord] := ((((X.out.set 0 _).set 1 _).set 2 _).set 3 _).set 4 _
  refine bodyPost_ret_by (results_cell_tmp_row rfl _ _ w.heap.size 47 _ (0, 0) _ rfl hXX Tryz.underlying47 rfl (by kernel_rfl)) rfl ?_
  exact ⟨rfl, ((((B0.out.setCell (p := ⟨w.heap.size, 0, none⟩) (Nat.le_refl _) _).setCell (p := ⟨w.heap.size, 1, none⟩) (Nat.le_refl _) _).setCell (p := ⟨w.heap.size, 2, none⟩) (Nat.le_refl _) _).setCell (p := ⟨w.heap.size, 3, none⟩) (Nat.le_refl _) _).setCell (p := ⟨w.heap.size, 4, none⟩) (Nat.le_refl _) _⟩
/-- There is no turn. -/
def NoTurn (w : World) (e : Ending) (w' : World) : Prop := ∃ c : Int, c ≠ 0 ∧ e = .returned (.tuple #[opZ, .int .i64 c]) ∧ Below w.heap.size w w'
theorem turn_out {w : World} {B g : Nat} {q : List (List Ev)} {m : VM} {z : MV} (h : IsV w B g q m z) (h0 : 0 < m.thr.length) {who : Int} (hw : who < 0 ∨ (m.thr.length : Int) ≤ who) :
    Calls Tryz.prog 30 #[.pointer (some ⟨g, 0, none⟩), .int .i64 who] w (NoTurn w) := by
  obtain ⟨w0, hw0⟩ : ∃ w0, w.alloc (.cells #[.int .i64 0, .int .i64 0, .int .i64 0, .int .i64 0, .int .i64 0] 47) = w0 := ⟨_, rfl⟩
  have b0 : Below w.heap.size w w0 := by rw [← hw0]; exact (Below.refl _ w).alloc (Nat.le_refl _) _
  have X := Lib.hid (show Blk w0 w.heap.size 47 [.int .i64 0, .int .i64 0, .int .i64 0, .int .i64 0, .int .i64 0] by rw [← hw0]; exact Blk.new w 47 _)
  have h1 := h.below b0
  have HT := Lib.hid (there_any h1 h0)
  obtain ⟨A, c, hc1, hc2, _, c5, hth⟩ := h1.thrs_
  have B0 := Lib.hid b0
  have HW0 := Lib.hid hw0
  obtain ⟨N, hN⟩ : ∃ N, m.thr.length = N := ⟨_, rfl⟩
  rw [hN] at c5 hw
  have f0 := X.out.free 0
  have f1 := X.out.free 1
  have f2 := X.out.free 2
  have f3 := X.out.free 3
  have f4 := X.out.free 4
  have y0 := X.out.cell 0 rfl
  have y1 := X.out.cell 1 rfl
  have y2 := X.out.cell 2 rfl
  have y3 := X.out.cell 3 rfl
  have y4 := X.out.cell 4 rfl
  clear h h1 hth hN hw0 b0 h0 hc1
  rcases hw with hw | hw
  · go_enter Tryz.func30, Tryz.ntmps30
    go_upto_region 1 with fail
    rw [HW0.out]
    go_wp2_with (go_at_call 54; refine HT.out.mono ?_; rintro e1 w1 ⟨rfl, rfl⟩)
    have hXX : Blk (((((w0.setCell ⟨w.heap.size, 0, none⟩ (.int .i64 0)).setCell ⟨w.heap.size, 1, none⟩ (.int .i64 0)).setCell ⟨w.heap.size, 2, none⟩ (.int .i64 0)).setCell ⟨w.heap.size, 3, none⟩ (.int .i64 0)).setCell ⟨w.heap.size, 4, none⟩ (.int .i64 0)) w.heap.size 47 [.int .i64 0, .int .i64 0, .int .i64 0, .int .i64 0, .int .i64 0] := ((((X.out.set 0 _).set 1 _).set 2 _).set 3 _).set 4 _
    refine bodyPost_ret_by (results_cell_tmp_row rfl _ _ w.heap.size 47 _ (0, 0) _ rfl hXX Tryz.underlying47 rfl (by kernel_rfl)) rfl ?_
    exact ⟨1, by decide, rfl, ((((B0.out.setCell (p := ⟨w.heap.size, 0, none⟩) (Nat.le_refl _) _).setCell (p := ⟨w.heap.size, 1, none⟩) (Nat.le_refl _) _).setCell (p := ⟨w.heap.size, 2, none⟩) (Nat.le_refl _) _).setCell (p := ⟨w.heap.size, 3, none⟩) (Nat.le_refl _) _).setCell (p := ⟨w.heap.size, 4, none⟩) (Nat.le_refl _) _⟩
  · have t1 : ¬ who < 0 := by omega
    have t2 : who ≥ (N : Int) := hw
    go_enter Tryz.func30, Tryz.ntmps30
    go_upto_region 1 with fail
    rw [HW0.out]
    go_wp2_with (go_at_call 54; refine HT.out.mono ?_; rintro e1 w1 ⟨rfl, rfl⟩)
    have hXX : Blk (((((w0.setCell ⟨w.heap.size, 0, none⟩ (.int .i64 0)).setCell ⟨w.heap.size, 1, none⟩ (.int .i64 0)).setCell ⟨w.heap.size, 2, none⟩ (.int .i64 0)).setCell ⟨w.heap.size, 3, none⟩ (.int .i64 0)).setCell ⟨w.heap.size, 4, none⟩ (.int .i64 0)) w.heap.size 47 [.int .i64 0, .int .i64 0, .int .i64 0, .int .i64 0, .int .i64 0] := ((((X.out.set 0 _).set 1 _).set 2 _).set 3 _).set 4 _
    refine bodyPost_ret_by (results_cell_tmp_row rfl _ _ w.heap.size 47 _ (0, 0) _ rfl hXX Tryz.underlying47 rfl (by kernel_rfl)) rfl ?_
    exact ⟨1, by decide, rfl, ((((B0.out.setCell (p := ⟨w.heap.size, 0, none⟩) (Nat.le_refl _) _).setCell (p := ⟨w.heap.size, 1, none⟩) (Nat.le_refl _) _).setCell (p := ⟨w.heap.size, 2, none⟩) (Nat.le_refl _) _).setCell (p := ⟨w.heap.size, 3, none⟩) (Nat.le_refl _) _).setCell (p := ⟨w.heap.size, 4, none⟩) (Nat.le_refl _) _⟩
theorem turn_over {w : World} {B g : Nat} {q : List (List Ev)} {m : VM} {z : MV} (h : IsV w B g q m z) (hq : q.length = m.thr.length) {t : Nat} (ht : t < m.thr.length) (hn : (m.th t).next = (q.getD t []).length) :
    Calls Tryz.prog 30 #[.pointer (some ⟨g, 0, none⟩), .int .i64 (t : Int)] w (NoTurn w) := by
  obtain ⟨w0, hw0⟩ : ∃ w0, w.alloc (.cells #[.int .i64 0, .int .i64 0, .int .i64 0, .int .i64 0, .int .i64 0] 47) = w0 := ⟨_, rfl⟩
  have b0 : Below w.heap.size w w0 := by rw [← hw0]; exact (Below.refl _ w).alloc (Nat.le_refl _) _
  have X := Lib.hid (show Blk w0 w.heap.size 47 [.int .i64 0, .int .i64 0, .int .i64 0, .int .i64 0, .int .i64 0] by rw [← hw0]; exact Blk.new w 47 _)
  have h1 := h.below b0
  have HT := Lib.hid (there_any h1 (by omega))
  obtain ⟨A, c, hc1, hc2, _, c5, hth⟩ := h1.thrs_
  obtain ⟨b, off, rfl, hb, hcs⟩ := hth t ht
  have n0 : w0.cell? ⟨b, off + t * 11 + 10, none⟩ = some (.int .i64 ((m.th t).next : Int)) := hcs 10 (by decide)
  have c0 := h1.cells.1
  have hp := h1.p.rd
  obtain ⟨Ap, cp, hAp, hcp1, hcp2⟩ := hp.shape
  rw [hAp] at c0 hp
  obtain ⟨bp, op, A1, cc1, rfl, hbp, hpc, hro, h4, h5⟩ := RdP.at_ hp rfl (show t < q.length by omega)
  have B0 := Lib.hid b0
  have HW0 := Lib.hid hw0
  have t0 : (0 : Int) ≤ (t : Int) := by omega
  have t1 : ¬ (t : Int) < 0 := by omega
  obtain ⟨N, hN⟩ : ∃ N, m.thr.length = N := ⟨_, rfl⟩
  rw [hq] at c0
  rw [hN] at c5 c0 ht
  have t2 : ¬ (t : Int) ≥ (N : Int) := by omega
  have t3 : (t : Int) < (N : Int) := by omega
  rw [hn] at n0
  obtain ⟨L, hL⟩ : ∃ L, (q.getD t []).length = L := ⟨_, rfl⟩
  rw [hL] at hpc n0
  have f0 := X.out.free 0
  have f1 := X.out.free 1
  have f2 := X.out.free 2
  have f3 := X.out.free 3
  have f4 := X.out.free 4
  have y0 := X.out.cell 0 rfl
  have y1 := X.out.cell 1 rfl
  have y2 := X.out.cell 2 rfl
  have y3 := X.out.cell 3 rfl
  have y4 := X.out.cell 4 rfl
  clear h h1 hth hcs hp hro hAp hq hN hL hw0 b0 hn ht
  go_enter Tryz.func30, Tryz.ntmps30
  go_upto_region 1 with fail
  rw [HW0.out]
  go_wp2_with (go_at_call 54; refine HT.out.mono ?_; rintro e1 w1 ⟨rfl, rfl⟩)
  have hXX : Blk (((((w0.setCell ⟨w.heap.size, 0, none⟩ (.int .i64 0)).setCell ⟨w.heap.size, 1, none⟩ (.int .i64 0)).setCell ⟨w.heap.size, 2, none⟩ (.int .i64 0)).setCell ⟨w.heap.size, 3, none⟩ (.int .i64 0)).setCell ⟨w.heap.size, 4, none⟩ (.int .i64 0)) w.heap.size 47 [.int .i64 0, .int .i64 0, .int .i64 0, .int .i64 0, .int .i64 0] := ((((X.out.set 0 _).set 1 _).set 2 _).set 3 _).set 4 _
  refine bodyPost_ret_by (results_cell_tmp_row rfl _ _ w.heap.size 47 _ (0, 0) _ rfl hXX Tryz.underlying47 rfl (by kernel_rfl)) rfl ?_
  exact ⟨7, by decide, rfl, ((((B0.out.setCell (p := ⟨w.heap.size, 0, none⟩) (Nat.le_refl _) _).setCell (p := ⟨w.heap.size, 1, none⟩) (Nat.le_refl _) _).setCell (p := ⟨w.heap.size, 2, none⟩) (Nat.le_refl _) _).setCell (p := ⟨w.heap.size, 3, none⟩) (Nat.le_refl _) _).setCell (p := ⟨w.heap.size, 4, none⟩) (Nat.le_refl _) _⟩
end Go.Proofs.YtkddckfgdiemkaaGreat
/-
  The walks of Play's two choosers.
-/
set_option linter.unusedVariables false
set_option linter.unusedSimpArgs false
namespace Go.Proofs.YtkddckfgdiemkaaGreat
open Go.RowKit Go.Shelf Mem
set_option maxRecDepth 100000
attribute [local go_sem] Oper.semAt_some

theorem last_any {w : World} {n : Nat} (hn : 0 < n) (h1 : n < 1000000) : Calls Tryz.prog 19 #[.int .i64 (n : Int)] w fun e w' => e = .returned (.int .i64 ((n - 1 : Nat) : Int)) ∧ w = w' := by
  obtain ⟨k, rfl⟩ : ∃ k, n = k + 1 := ⟨n - 1, by omega⟩
  go_enter Tryz.func19, Tryz.ntmps19
  go_wp2
  go_ret
  refine ⟨?_, rfl⟩
  first | rfl | (simp; done) | (congr 1; simp)
theorem pick_any {w : World} {bt off n : Nat} {b : Int} (hc : w.cell? ⟨bt, off + 1, none⟩ = some (.int .i64 b)) (hb : -9223372036854775808 ≤ b ∧ b ≤ 9223372036854775807) (hn : 0 < n) (h1 : n < 1000000) :
    Calls Tryz.prog 17 #[.int .i64 (n : Int), .pointer (some ⟨bt, off, none⟩)] w fun e w' => e = .returned (.int .i64 (pickT b n : Int)) ∧ w = w' := by
  have hn0 : (n : Int) ≠ 0 := by omega
  have q1 := Int.lt_tmod_of_pos b (show (0 : Int) < n by omega)
  have q2 := Int.tmod_lt_of_pos b (show (0 : Int) < n by omega)
  have q3 := Int.tmod_lt_of_pos (Int.tmod b n + n) (show (0 : Int) < n by omega)
  have q4 := Int.tmod_nonneg (n : Int) (show 0 ≤ Int.tmod b n + n by omega)
  have hp : Hid ((pickT b n : Int) = Int.tmod (Int.tmod b n + n) n) := Lib.hid (by unfold pickT; omega)
  obtain ⟨pp, hpp⟩ : ∃ pp, (pickT b n : Int) = pp := ⟨_, rfl⟩
  rw [hpp] at hp ⊢
  clear hpp
  go_enter Tryz.func17, Tryz.ntmps17
  go_wp2
  go_ret
  refine ⟨?_, rfl⟩
  rw [hp.out, Int.tmod_eq_emod_of_nonneg (show 0 ≤ Int.tmod b n + n by omega)]
  rfl
end Go.Proofs.YtkddckfgdiemkaaGreat
/-
  Moves of the machine of views in memory.
-/
set_option linter.unusedVariables false
set_option linter.unusedSimpArgs false
namespace Go.Proofs.YtkddckfgdiemkaaGreat
open Go.RowKit Go.Shelf Mem
set_option maxRecDepth 100000

theorem Row.setAt {w : World} {B b n c z : Nat} {e : TypeId} {xs : List Value} (h : Row w B e z (.slice (some ⟨b, 0, none⟩) n c) n xs) {j : Nat} (hj : j < n * z) (u : Value) : Row (w.setCell ⟨b, j, none⟩ u) B e z (.slice (some ⟨b, 0, none⟩) n c) n (xs.set j u) := by
  rcases h.2 with ⟨h1, _⟩ | ⟨g, cap, cur, hv, hb, hg, h1, h2, h3, h4⟩
  · cases h1
  · injection hv with hv1 hv2 hv3
    injection hv1 with hv1
    injection hv1 with hv1
    subst hv1
    refine ⟨by rw [List.length_set]; exact h.1, .inr ⟨b, c, cur.set! j u, rfl, hb, ?_, by omega, by omega, by simp [h3, hv3], ?_⟩⟩
    · exact heap_setCell_same w b j cur e _ hg
    · have : (cur.set! j u).toList = cur.toList.set j u := by simp
      rw [this, List.take_set, h4]
/-- The blocks that are the machine's own. -/
def foot (g : Nat) (z : MV) (k : Nat) : Prop := k = g ∨ z.mv.ownBlock = some k ∨ z.tv.ownBlock = some k ∨ ∃ i, i < 3 + z.rs.length ∧ (z.row i).ownBlock = some k
/-- What a deed of the machine has turned. -/
structure Did (w w' : World) (g : Nat) (z z' : MV) : Prop where
  kept : Kept w w' (foot g z)
  new : ∀ k, foot g z' k → foot g z k ∨ w.heap.size ≤ k
theorem Did.refl (w : World) (g : Nat) (z : MV) : Did w w g z z := ⟨Kept.refl _ _, fun _ h => .inl h⟩
theorem Did.trans {a b c : World} {g : Nat} {x y z : MV} (h : Did a b g x y) (k : Did b c g y z) : Did a c g x z :=
  ⟨h.kept.trans k.kept (fun i hi hf => (h.new i hf).elim id (fun h2 => absurd hi (by omega))), fun i hi => (k.new i hi).elim (fun h2 => h.new i h2) (fun h2 => .inr (Nat.le_trans h.kept.size h2))⟩
theorem Did.below {a b : World} (g : Nat) (z : MV) (h : Below a.heap.size a b) : Did a b g z z := ⟨Kept.of_below h _, fun _ h => .inl h⟩
theorem IsV.row {w : World} {B g : Nat} {q : List (List Ev)} {m : VM} {z : MV} (h : IsV w B g q m z) {i : Nat} (hi : i < 3 + z.rs.length) : ∃ l, Own w B (z.row i) l := by
  unfold MV.row
  split
  · rename_i h3; exact ⟨_, h.ln i h3⟩
  · exact ⟨_, h.rd (i - 3) (by rw [← h.rl]; omega)⟩
theorem IsV.foot_lt {w : World} {B g : Nat} {q : List (List Ev)} {m : VM} {z : MV} (h : IsV w B g q m z) {k : Nat} (hf : foot g z k) : B ≤ k ∧ k < w.heap.size := by
  rcases hf with rfl | hf | hf | ⟨i, hi, hf⟩
  · exact ⟨h.gB, h.blk.lt⟩
  · exact Row.at_lt h.ms hf
  · exact Row.at_lt h.th hf
  · obtain ⟨l, hl⟩ := h.row hi
    exact Row.at_lt hl hf
/-- A block of another type is none of them. -/
theorem IsV.foot_ne {w : World} {B g : Nat} {q : List (List Ev)} {m : VM} {z : MV} (h : IsV w B g q m z) {k t : Nat} {cs : List Value} (hb : Blk w k t cs) (h1 : t ≠ 62 ∧ t ≠ 78 ∧ t ≠ 80 ∧ t ≠ 3) : ¬ foot g z k := by
  rintro (rfl | hf | hf | ⟨i, hi, hf⟩)
  · exact h1.1 (hb.type h.blk).1
  · exact Row.ne_blk h.ms hb (fun e => h1.2.1 e.symm) hf
  · exact Row.ne_blk h.th hb (fun e => h1.2.2.1 e.symm) hf
  · obtain ⟨l, hl⟩ := h.row hi
    exact Row.ne_blk hl hb (fun e => h1.2.2.2 e.symm) hf
theorem IsV.foot_row {w : World} {B g : Nat} {q : List (List Ev)} {m : VM} {z : MV} (h : IsV w B g q m z) {B' t y n : Nat} {v : Value} {xs : List Value} (hr : Row w B' t y v n xs) (h1 : t ≠ 62 ∧ t ≠ 78 ∧ t ≠ 80 ∧ t ≠ 3) {k : Nat} (hk : v.ownBlock = some k) : ¬ foot g z k := by
  rintro (rfl | hf | hf | ⟨i, hi, hf⟩)
  · exact Row.ne_blk hr h.blk h1.1 hk
  · exact Row.ne_row hr h.ms h1.2.1 hk hf
  · exact Row.ne_row hr h.th h1.2.2.1 hk hf
  · obtain ⟨l, hl⟩ := h.row hi
    exact Row.ne_row hr hl h1.2.2.2 hk hf
theorem IsV.p_keep {w w' : World} {B g : Nat} {q : List (List Ev)} {m : VM} {z : MV} (h : IsV w B g q m z) (k : Kept w w' (foot g z)) : OwnP w' B z.pv q := by
  obtain ⟨us, r1, r2, r3⟩ := h.p
  exact ⟨us, Row.keep r1 k (fun j hj => h.foot_row r1 (by decide) hj), r2, fun j u hu => Row.keep (r3 j u hu) k (fun i hi => h.foot_row (r3 j u hu) (by decide) hi)⟩
/-- The machine's rows share no block. -/
theorem IsV.apart {w : World} {B g : Nat} {q : List (List Ev)} {m : VM} {z : MV} (h : IsV w B g q m z) {i j k : Nat} (hi : i < 3 + z.rs.length) (hj : j < 3 + z.rs.length) (hn : i ≠ j) (hk : (z.row i).ownBlock = some k) : (z.row j).ownBlock ≠ some k := by
  rcases Nat.lt_or_gt_of_ne hn with hlt | hgt
  · exact h.ap i j hlt hj k hk
  · exact fun hj2 => h.ap j i hgt hi k hj2 hk
theorem IsV.row_g {w : World} {B g : Nat} {q : List (List Ev)} {m : VM} {z : MV} (h : IsV w B g q m z) {i : Nat} (hi : i < 3 + z.rs.length) : (z.row i).ownBlock ≠ some g := by
  obtain ⟨l, hl⟩ := h.row hi
  exact Row.ne_blk hl h.blk (by decide)
theorem MV.row_ln (z : MV) {l : Nat} (hl : l < 3) : z.row l = z.ln l := by unfold MV.row; rw [if_pos hl]
theorem MV.row_rs (z : MV) (t : Nat) : z.row (3 + t) = z.rs.getD t default := by unfold MV.row; rw [if_neg (by omega)]; congr 1; omega
/-- (1) A thread's cells turn, not what it read. -/
theorem IsV.setThr {w w' : World} {B g : Nat} {q : List (List Ev)} {m : VM} {z : MV} (h : IsV w B g q m z) {t : Nat} (ht : t < m.thr.length) (x : Thr) (hr : x.read = (m.th t).read) (hk : Kept w w' (fun k => z.tv.ownBlock = some k))
    (hrow : Row w' B 80 11 z.tv m.thr.length (thrs (m.thr.set t x) z.rs)) : IsV w' B g q (setTh m t x) z ∧ Did w w' g z z := by
  have hkf : Kept w w' (foot g z) := hk.mono (fun k _ hs => .inr (.inr (.inl hs)))
  refine ⟨⟨h.blk.keep hk (fun e => Row.ne_blk h.th h.blk (by decide) e), h.gB, h.p_keep hkf, Row.keep h.ms hk (fun k hk2 => fun e => Row.ne_row h.ms h.th (by decide) hk2 e), h.n3, fun k hk3 => Row.keep (h.ln k hk3) hk (fun j hj e => Row.ne_row (h.ln k hk3) h.th (by decide) hj e), ?_, ?_, fun j hj => ?_, h.ap⟩, hkf, fun k hf => .inl hf⟩
  · show z.rs.length = (m.thr.set t x).length
    rw [List.length_set]; exact h.rl
  · show Row w' B 80 11 z.tv (m.thr.set t x).length (thrs (m.thr.set t x) z.rs)
    rw [List.length_set]; exact hrow
  · have hj' : j < m.thr.length := by simpa [setTh] using hj
    have e : ((setTh m t x).th j).read = (m.th j).read := by
      unfold setTh; rw [th_set ht]; split
      · rename_i e; rw [e]; exact hr
      · rfl
    rw [e]
    exact Row.keep (h.rd j hj') hk (fun i hi e => Row.ne_row (h.rd j hj') h.th (by decide) hi e)
/-- The cells of the block, but for one. -/
theorem IsV.blk_at {w : World} {B g : Nat} {q : List (List Ev)} {m : VM} {z : MV} (h : IsV w B g q m z) {w' : World} {S : Nat → Prop} (hk : Kept w w' S) (hs : ¬ S g) (j : Nat) (u : Value) :
    Blk (w'.setCell ⟨g, j, none⟩ u) g 62 ([z.pv, z.mv, z.l0, z.l1, z.l2, z.tv, .int .i64 m.all.a, .int .i64 m.all.b, .int .i64 m.all.c].set j u) := (h.blk.keep hk hs).set j u
def MV.setLn (z : MV) (l : Nat) (u : Value) : MV := if l = 0 then { z with l0 := u } else if l = 1 then { z with l1 := u } else { z with l2 := u }
theorem MV.setLn_ln (z : MV) {l k : Nat} (u : Value) (hl : l < 3) (hk : k < 3) : (z.setLn l u).ln k = if k = l then u else z.ln k := by
  rcases (by omega : l = 0 ∨ l = 1 ∨ l = 2) with rfl | rfl | rfl <;> rcases (by omega : k = 0 ∨ k = 1 ∨ k = 2) with rfl | rfl | rfl <;> rfl
theorem MV.setLn_rs (z : MV) (l : Nat) (u : Value) : (z.setLn l u).rs = z.rs ∧ (z.setLn l u).mv = z.mv ∧ (z.setLn l u).tv = z.tv ∧ (z.setLn l u).pv = z.pv := by
  unfold MV.setLn; split
  · exact ⟨rfl, rfl, rfl, rfl⟩
  · split <;> exact ⟨rfl, rfl, rfl, rfl⟩
theorem MV.setLn_row (z : MV) {l : Nat} (u : Value) (hl : l < 3) (i : Nat) : (z.setLn l u).row i = if i = l then u else z.row i := by
  unfold MV.row
  split
  · rename_i h3; exact z.setLn_ln u hl h3
  · rw [if_neg (by omega), (z.setLn_rs l u).1]
/-- (2) All turns. -/
theorem IsV.setAll {w : World} {B g : Nat} {q : List (List Ev)} {m : VM} {z : MV} (h : IsV w B g q m z) (v : V3) :
    IsV (((w.setCell ⟨g, 6, none⟩ (.int .i64 v.a)).setCell ⟨g, 7, none⟩ (.int .i64 v.b)).setCell ⟨g, 8, none⟩ (.int .i64 v.c)) B g q { m with all := v } z ∧ Did w (((w.setCell ⟨g, 6, none⟩ (.int .i64 v.a)).setCell ⟨g, 7, none⟩ (.int .i64 v.b)).setCell ⟨g, 8, none⟩ (.int .i64 v.c)) g z z := by
  have hk : Kept w (((w.setCell ⟨g, 6, none⟩ (.int .i64 v.a)).setCell ⟨g, 7, none⟩ (.int .i64 v.b)).setCell ⟨g, 8, none⟩ (.int .i64 v.c)) (fun k => k = g) := (((Kept.refl w (fun k => k = g)).setCell (p := ⟨g, 6, none⟩) (.inl rfl) _).setCell (p := ⟨g, 7, none⟩) (.inl rfl) _).setCell (p := ⟨g, 8, none⟩) (.inl rfl) _
  have hkf := hk.mono (T := foot g z) (fun k _ hs => .inl hs)
  refine ⟨⟨((h.blk.set 6 _).set 7 _).set 8 _, h.gB, h.p_keep hkf, Row.keep h.ms hk (fun k hk2 e => Row.ne_blk h.ms h.blk (by decide) (e ▸ hk2)), h.n3, fun k hk3 => Row.keep (h.ln k hk3) hk (fun j hj e => Row.ne_blk (h.ln k hk3) h.blk (by decide) (e ▸ hj)), h.rl, Row.keep h.th hk (fun k hk2 e => Row.ne_blk h.th h.blk (by decide) (e ▸ hk2)), fun j hj => Row.keep (h.rd j hj) hk (fun i hi e => Row.ne_blk (h.rd j hj) h.blk (by decide) (e ▸ hi)), h.ap⟩, hkf, fun k hf => .inl hf⟩
theorem VM.ln_set (m : VM) (h3 : m.line.length = 3) {l k : Nat} (hl : l < 3) (x : List Int) : ({ m with line := m.line.set l x } : VM).ln k = if k = l then x else m.ln k := by
  show (m.line.set l x).getD k [] = _
  rw [getD_set]
  by_cases h : l = k
  · subst h; rw [if_pos ⟨rfl, by omega⟩, if_pos rfl]
  · rw [if_neg (fun hh => h hh.1), if_neg (fun hh => h hh.symm)]; rfl
/-- (3) A line turns. -/
theorem IsV.setLine {w w' : World} {B g : Nat} {q : List (List Ev)} {m : VM} {z : MV} (h : IsV w B g q m z) {l : Nat} (hl : l < 3) {u : Value} {x : List Int} (hk : Kept w w' (fun k => (z.ln l).ownBlock = some k)) (hu : Own w' B u x) (hn : ∀ k, u.ownBlock = some k → (z.ln l).ownBlock = some k ∨ w.heap.size ≤ k) :
    IsV (w'.setCell ⟨g, 2 + l, none⟩ u) B g q { m with line := m.line.set l x } (z.setLn l u) ∧ Did w (w'.setCell ⟨g, 2 + l, none⟩ u) g z (z.setLn l u) := by
  obtain ⟨z1, z2, z3, z4⟩ := z.setLn_rs l u
  have hll : ∀ k, (z.ln l).ownBlock = some k → foot g z k := fun k hk2 => .inr (.inr (.inr ⟨l, by omega, by rw [z.row_ln hl]; exact hk2⟩))
  have hkg : Kept w (w'.setCell ⟨g, 2 + l, none⟩ u) (fun k => k = g ∨ (z.ln l).ownBlock = some k) := (hk.mono (fun k _ hs => .inr hs)).setCell (p := ⟨g, 2 + l, none⟩) (.inl (.inl rfl)) u
  have hkf := hkg.mono (T := foot g z) (fun k _ hs => hs.elim (fun e => .inl e) (hll k))
  have hlg := h.row_g (i := l) (by omega)
  rw [z.row_ln hl] at hlg
  have off : ∀ {t y n : Nat} {v : Value} {xs : List Value}, Row w B t y v n xs → t ≠ 62 → t ≠ 3 → Row (w'.setCell ⟨g, 2 + l, none⟩ u) B t y v n xs := fun hr h1 h2 => Row.keep hr hkg (fun k hk2 hs => hs.elim (fun e => Row.ne_blk hr h.blk h1 (e ▸ hk2)) (fun e => Row.ne_row hr (h.ln l hl) h2 hk2 e))
  have hug : ∀ k, u.ownBlock = some k → k ≠ g := fun k hk2 e => by
    rcases hn k hk2 with h1 | h1
    · exact hlg (e ▸ h1)
    · have := h.blk.lt; omega
  have hus : Own (w'.setCell ⟨g, 2 + l, none⟩ u) B u x := Row.keep hu ((Kept.refl w' (fun k => k = g)).setCell (p := ⟨g, 2 + l, none⟩) (.inl rfl) u) (fun k hk2 e => hug k hk2 e)
  have rowk : ∀ i, i < 3 + z.rs.length → i ≠ l → ∀ y, Own w B (z.row i) y → Own (w'.setCell ⟨g, 2 + l, none⟩ u) B (z.row i) y := fun i hi hne y hy => Row.keep hy hkg (fun k hk2 hs => hs.elim (fun e => h.row_g hi (e ▸ hk2)) (fun e => h.apart (i := l) (j := i) (by omega) hi (fun e => hne e.symm) (by rw [z.row_ln hl]; exact e) hk2))
  refine ⟨⟨?_, h.gB, by rw [z4]; exact h.p_keep hkf, by rw [z2]; exact off h.ms (by decide) (by decide), ?_, fun k hk3 => ?_, by rw [z1]; exact h.rl, by rw [z1, z3]; exact off h.th (by decide) (by decide), fun j hj => ?_, fun i j hij hj k hk2 => ?_⟩, hkf, ?_⟩
  · have := h.blk_at hk (fun e => hlg e) (2 + l) u
    rcases (by omega : l = 0 ∨ l = 1 ∨ l = 2) with rfl | rfl | rfl <;> exact this
  · show (m.line.set l x).length = 3
    rw [List.length_set]; exact h.n3
  · rw [m.ln_set h.n3 hl, z.setLn_ln u hl hk3]
    split
    · exact hus
    · rename_i hne
      have := rowk k (by omega) hne (m.ln k)
      rw [z.row_ln hk3] at this
      exact this (h.ln k hk3)
  · rw [z1]
    have := rowk (3 + j) (by have : j < m.thr.length := hj; rw [h.rl]; omega) (by omega) (m.th j).read
    rw [z.row_rs] at this
    exact this (h.rd j hj)
  · rw [z1] at hj
    rw [z.setLn_row u hl] at hk2 ⊢
    split at hk2
    · rename_i e
      rw [if_neg (by omega)]
      rcases hn k hk2 with h1 | h1
      · exact h.apart (i := l) (j := j) (by omega) hj (by omega) (by rw [z.row_ln hl]; exact h1)
      · obtain ⟨y, hy⟩ := h.row hj
        exact fun h2 => by have := (Row.at_lt hy h2).2; omega
    · split
      · intro h2
        rcases hn k h2 with h1 | h1
        · exact h.apart (i := i) (j := l) (by omega) (by omega) (by assumption) hk2 (by rw [z.row_ln hl]; exact h1)
        · obtain ⟨y, hy⟩ := h.row (i := i) (by omega)
          have := (Row.at_lt hy hk2).2; omega
      · exact h.apart (by omega) hj (by omega) hk2
  · rintro k (rfl | h1 | h1 | ⟨i, hi, h1⟩)
    · exact .inl (.inl rfl)
    · rw [z2] at h1; exact .inl (.inr (.inl h1))
    · rw [z3] at h1; exact .inl (.inr (.inr (.inl h1)))
    · rw [z1] at hi
      rw [z.setLn_row u hl] at h1
      split at h1
      · exact (hn k h1).imp (hll k) id
      · exact .inl (.inr (.inr (.inr ⟨i, hi, h1⟩)))
/-- (5) The messages turn. -/
theorem IsV.setMsgs {w w' : World} {B g : Nat} {q : List (List Ev)} {m : VM} {z : MV} (h : IsV w B g q m z) {u : Value} {x : List Msg} (hk : Kept w w' (fun k => z.mv.ownBlock = some k)) (hu : Row w' B 78 5 u x.length (msgs x)) (hn : ∀ k, u.ownBlock = some k → z.mv.ownBlock = some k ∨ w.heap.size ≤ k) :
    IsV (w'.setCell ⟨g, 1, none⟩ u) B g q { m with msgs := x } { z with mv := u } ∧ Did w (w'.setCell ⟨g, 1, none⟩ u) g z { z with mv := u } := by
  have hkg : Kept w (w'.setCell ⟨g, 1, none⟩ u) (fun k => k = g ∨ z.mv.ownBlock = some k) := (hk.mono (fun k _ hs => .inr hs)).setCell (p := ⟨g, 1, none⟩) (.inl (.inl rfl)) u
  have hkf := hkg.mono (T := foot g z) (fun k _ hs => hs.elim (fun e => .inl e) (fun e => .inr (.inl e)))
  have hmg : z.mv.ownBlock ≠ some g := Row.ne_blk h.ms h.blk (by decide)
  have off : ∀ {t y n : Nat} {v : Value} {xs : List Value}, Row w B t y v n xs → t ≠ 62 → t ≠ 78 → Row (w'.setCell ⟨g, 1, none⟩ u) B t y v n xs := fun hr h1 h2 => Row.keep hr hkg (fun k hk2 hs => hs.elim (fun e => Row.ne_blk hr h.blk h1 (e ▸ hk2)) (fun e => Row.ne_row hr h.ms h2 hk2 e))
  have hug : ∀ k, u.ownBlock = some k → k ≠ g := fun k hk2 e => by
    rcases hn k hk2 with h1 | h1
    · exact hmg (e ▸ h1)
    · have := h.blk.lt; omega
  refine ⟨⟨h.blk_at hk (fun e => hmg e) 1 u, h.gB, h.p_keep hkf, Row.keep hu ((Kept.refl w' (fun k => k = g)).setCell (p := ⟨g, 1, none⟩) (.inl rfl) u) (fun k hk2 e => hug k hk2 e), h.n3, fun k hk3 => off (h.ln k hk3) (by decide) (by decide), h.rl, off h.th (by decide) (by decide), fun j hj => off (h.rd j hj) (by decide) (by decide), h.ap⟩, hkf, ?_⟩
  rintro k (rfl | h1 | h1 | ⟨i, hi, h1⟩)
  · exact .inl (.inl rfl)
  · exact (hn k h1).imp (fun e => .inr (.inl e)) id
  · exact .inl (.inr (.inr (.inl h1)))
  · exact .inl (.inr (.inr (.inr ⟨i, hi, h1⟩)))
/-- (6) The messages turn in place. -/
theorem IsV.putMsgs {w w' : World} {B g : Nat} {q : List (List Ev)} {m : VM} {z : MV} (h : IsV w B g q m z) {x : List Msg} (hl : x.length = m.msgs.length) (hk : Kept w w' (fun k => z.mv.ownBlock = some k)) (hu : Row w' B 78 5 z.mv m.msgs.length (msgs x)) :
    IsV w' B g q { m with msgs := x } z ∧ Did w w' g z z := by
  have hkf := hk.mono (T := foot g z) (fun k _ e => .inr (.inl e))
  have hmg : z.mv.ownBlock ≠ some g := Row.ne_blk h.ms h.blk (by decide)
  have off : ∀ {t y n : Nat} {v : Value} {xs : List Value}, Row w B t y v n xs → t ≠ 78 → Row w' B t y v n xs := fun hr h2 => Row.keep hr hk (fun k hk2 e => Row.ne_row hr h.ms h2 hk2 e)
  exact ⟨⟨h.blk.keep hk (fun e => hmg e), h.gB, h.p_keep hkf, by show Row w' B 78 5 z.mv x.length (msgs x); rw [hl]; exact hu, h.n3, fun k hk3 => off (h.ln k hk3) (by decide), h.rl, off h.th (by decide), fun j hj => off (h.rd j hj) (by decide), h.ap⟩, hkf, fun k hf => .inl hf⟩
/-- (4) What a thread read turns. -/
theorem IsV.setRead {w w' w2 : World} {B g : Nat} {q : List (List Ev)} {m : VM} {z : MV} (h : IsV w B g q m z) {t : Nat} (ht : t < m.thr.length) {u : Value} {x : List Int} (hk : Kept w w' (fun k => (z.rs.getD t default).ownBlock = some k)) (hu : Own w' B u x) (hn : ∀ k, u.ownBlock = some k → (z.rs.getD t default).ownBlock = some k ∨ w.heap.size ≤ k)
    (hk2 : Kept w' w2 (fun k => z.tv.ownBlock = some k)) (hrow : Row w2 B 80 11 z.tv m.thr.length (thrs (m.thr.set t { m.th t with read := x }) (z.rs.set t u))) :
    IsV w2 B g q (setTh m t { m.th t with read := x }) { z with rs := z.rs.set t u } ∧ Did w w2 g z { z with rs := z.rs.set t u } := by
  have htz : t < z.rs.length := by rw [h.rl]; exact ht
  have hro : ∀ k, (z.rs.getD t default).ownBlock = some k → foot g z k := fun k hk3 => .inr (.inr (.inr ⟨3 + t, by omega, by rw [z.row_rs]; exact hk3⟩))
  have hkg : Kept w w2 (fun k => z.tv.ownBlock = some k ∨ (z.rs.getD t default).ownBlock = some k) := (hk.mono (fun k _ hs => .inr hs)).trans hk2 (fun k _ hs => .inl hs)
  have hkf := hkg.mono (T := foot g z) (fun k _ hs => hs.elim (fun e => .inr (.inr (.inl e))) (hro k))
  have off : ∀ {t' y n : Nat} {v : Value} {xs : List Value}, Row w B t' y v n xs → t' ≠ 80 → t' ≠ 3 → Row w2 B t' y v n xs := fun hr h1 h2 => Row.keep hr hkg (fun k hk3 hs => hs.elim (fun e => Row.ne_row hr h.th h1 hk3 e) (fun e => Row.ne_row hr (h.rd t ht) h2 hk3 e))
  have hut : ∀ k, u.ownBlock = some k → z.tv.ownBlock ≠ some k := fun k hk3 e => by
    rcases hn k hk3 with h1 | h1
    · exact Row.ne_row (h.rd t ht) h.th (by decide) h1 e
    · have := (Row.at_lt h.th e).2; omega
  have hus : Own w2 B u x := Row.keep hu hk2 (fun k hk3 e => hut k hk3 e)
  have rowk : ∀ i, i < 3 + z.rs.length → i ≠ 3 + t → ∀ y, Own w B (z.row i) y → Own w2 B (z.row i) y := fun i hi hne y hy => Row.keep hy hkg (fun k hk3 hs => hs.elim (fun e => Row.ne_row hy h.th (by decide) hk3 e) (fun e => h.apart (i := 3 + t) (j := i) (by omega) hi (fun e => hne e.symm) (by rw [z.row_rs]; exact e) hk3))
  have hrow2 : ∀ i, ({ z with rs := z.rs.set t u } : MV).row i = if i = 3 + t then u else z.row i := fun i => by
    unfold MV.row
    split
    · rw [if_neg (by omega)]; rfl
    · rename_i h3
      show (z.rs.set t u).getD (i - 3) default = _
      rw [getD_set]
      by_cases e : i = 3 + t
      · rw [if_pos ⟨by omega, htz⟩, if_pos e]
      · rw [if_neg (fun hh => e (by omega)), if_neg e]
  have hg2 : ¬ (z.tv.ownBlock = some g ∨ (z.rs.getD t default).ownBlock = some g) := by
    rintro (e | e)
    · exact Row.ne_blk h.th h.blk (by decide) e
    · exact Row.ne_blk (h.rd t ht) h.blk (by decide) e
  refine ⟨⟨h.blk.keep hkg hg2, h.gB, h.p_keep hkf, off h.ms (by decide) (by decide), h.n3, fun k hk3 => ?_, ?_, ?_, fun j hj => ?_, fun i j hij hj k hk3 => ?_⟩, hkf, ?_⟩
  · have := rowk k (by omega) (by omega) (m.ln k)
    rw [z.row_ln hk3] at this
    exact this (h.ln k hk3)
  · show (z.rs.set t u).length = (m.thr.set t _).length
    rw [List.length_set, List.length_set]; exact h.rl
  · show Row w2 B 80 11 z.tv (m.thr.set t { m.th t with read := x }).length _
    rw [List.length_set]; exact hrow
  · have hj' : j < m.thr.length := by simpa [setTh] using hj
    show Own w2 B ((z.rs.set t u).getD j default) _
    unfold setTh
    rw [th_set ht, getD_set]
    by_cases e : j = t
    · subst e; rw [if_pos ⟨rfl, htz⟩, if_pos rfl]; exact hus
    · rw [if_neg (fun hh => e hh.1.symm), if_neg e]
      have := rowk (3 + j) (by rw [h.rl]; omega) (by omega) (m.th j).read
      rw [z.row_rs] at this
      exact this (h.rd j hj')
  · have hj : j < 3 + z.rs.length := by simpa using hj
    rw [hrow2] at hk3 ⊢
    split at hk3
    · rename_i e
      rw [if_neg (by omega)]
      rcases hn k hk3 with h1 | h1
      · exact h.apart (i := 3 + t) (j := j) (by omega) hj (by omega) (by rw [z.row_rs]; exact h1)
      · obtain ⟨y, hy⟩ := h.row hj
        exact fun h2 => by have := (Row.at_lt hy h2).2; omega
    · rename_i hne
      split
      · intro h2
        rcases hn k h2 with h1 | h1
        · exact h.apart (i := i) (j := 3 + t) (by omega) (by omega) hne hk3 (by rw [z.row_rs]; exact h1)
        · obtain ⟨y, hy⟩ := h.row (i := i) (by omega)
          have := (Row.at_lt hy hk3).2; omega
      · exact h.apart (by omega) hj (by omega) hk3
  · rintro k (rfl | h1 | h1 | ⟨i, hi, h1⟩)
    · exact .inl (.inl rfl)
    · exact .inl (.inr (.inl h1))
    · exact .inl (.inr (.inr (.inl h1)))
    · have hi : i < 3 + z.rs.length := by simpa using hi
      rw [hrow2] at h1
      split at h1
      · exact (hn k h1).imp (hro k) id
      · exact .inl (.inr (.inr (.inr ⟨i, hi, h1⟩)))
/-! Cells of a thread. -/
theorem thrs_set : ∀ (l : List Thr) (s : List Value) (t i : Nat) (u : Value) (x : Thr) (r : Value), l.length = s.length → t < l.length → i < 11 → thrC x r = (thrC (l.getD t default) (s.getD t default)).set i u → (thrs l s).set (t * 11 + i) u = thrs (l.set t x) (s.set t r)
  | [], _, t, i, u, x, r, _, h, _, _ => by simp at h
  | _ :: _, [], t, i, u, x, r, h, _, _, _ => by simp at h
  | a :: l, b :: s, 0, i, u, x, r, hl, _, hi, he => by
    simp only [List.getD_cons_zero] at he
    simp only [thrs, List.set_cons_zero, Nat.zero_mul, Nat.zero_add]
    rw [List.set_append_left _ _ (by simp [thrC]; omega), he]
  | a :: l, b :: s, t + 1, i, u, x, r, hl, ht, hi, he => by
    have ih := thrs_set l s t i u x r (by simpa using hl) (by simpa using ht) hi (by simpa using he)
    simp only [thrs, List.set_cons_succ]
    rw [List.set_append_right _ _ (by simp [thrC]; omega), ← ih]
    congr 2
    simp [thrC]; omega
theorem msgs_set : ∀ (l : List Msg) (t i : Nat) (u : Value) (x : Msg), t < l.length → i < 5 → msgC x = (msgC (l.getD t default)).set i u → (msgs l).set (t * 5 + i) u = msgs (l.set t x)
  | [], t, i, u, x, h, _, _ => by simp at h
  | a :: l, 0, i, u, x, _, hi, he => by
    simp only [List.getD_cons_zero] at he
    simp only [msgs, List.flatMap_cons, List.set_cons_zero, Nat.zero_mul, Nat.zero_add]
    rw [List.set_append_left _ _ (by simp [msgC]; omega), he]
  | a :: l, t + 1, i, u, x, ht, hi, he => by
    have ih := msgs_set l t i u x (by simpa using ht) hi (by simpa using he)
    simp only [msgs, List.flatMap_cons, List.set_cons_succ] at ih ⊢
    rw [List.set_append_right _ _ (by simp [msgC]; omega), ← ih]
    congr 2
    simp [msgC]; omega
/-! One cell of a thread, of a message. -/
theorem set_getD_self {α : Type} (l : List α) (t : Nat) (d : α) : l.set t (l.getD t d) = l := by
  by_cases h : t < l.length
  · rw [List.getD, List.getElem?_eq_getElem h, Option.getD_some, List.set_getElem_self]
  · rw [List.set_eq_of_length_le (by omega)]
theorem setTh_twice (m : VM) (t : Nat) (x y : Thr) : setTh (setTh m t x) t y = setTh m t y := by simp [setTh, List.set_set]
theorem setTh_same {m : VM} {t : Nat} (ht : t < m.thr.length) (x : Thr) : (setTh m t x).th t = x := by unfold setTh; rw [th_set ht, if_pos rfl]
theorem setTh_len (m : VM) (t : Nat) (x : Thr) : (setTh m t x).thr.length = m.thr.length := by simp [setTh]
theorem setTh_ln (m : VM) (t : Nat) (x : Thr) (l : Nat) : (setTh m t x).ln l = m.ln l ∧ (setTh m t x).line = m.line ∧ (setTh m t x).msgs = m.msgs ∧ (setTh m t x).all = m.all := ⟨rfl, rfl, rfl, rfl⟩
/-- The threads' row, as the walk meets it. -/
theorem IsV.tv_at {w : World} {B g : Nat} {q : List (List Ev)} {m : VM} {z : MV} (h : IsV w B g q m z) {t : Nat} (ht : t < m.thr.length) : ∃ b c, z.tv = .slice (some ⟨b, 0, none⟩) m.thr.length c ∧ m.thr.length ≤ c ∧ c ≤ 9223372036854775807 ∧ B ≤ b ∧ b < w.heap.size ∧ (∀ j, w.frozen? ⟨b, j, none⟩ = false) ∧ b ≠ g ∧ ∀ i, i < 11 → w.cell? ⟨b, t * 11 + i, none⟩ = (thrC (m.th t) (z.rs.getD t default))[i]? := by
  obtain ⟨b, c, hv, hB, hlt, hc1, hc2, _⟩ := Row.form h.th (by omega)
  have hr := h.th
  rw [hv] at hr
  have hne : b ≠ g := fun e => Row.ne_blk h.th h.blk (by decide) (by rw [hv, e]; rfl)
  refine ⟨b, c, hv, hc1, by simpa [maxLen] using hc2, hB, hlt, fun j => Row.free hr j, hne, fun i hi => ?_⟩
  obtain ⟨b', off, hA, _, hc⟩ := Rd.elem (Row.rd hr) ht
  injection hA with hA
  injection hA with e1 e2
  subst e1 e2
  have e : m.th t = m.thr[t] := by unfold VM.th; rw [List.getD, List.getElem?_eq_getElem ht]; rfl
  rw [e, ← thrs_at m.thr z.rs t ht h.rl i hi, ← hc i hi, Nat.zero_add]
theorem IsV.thr1 {w : World} {B g : Nat} {q : List (List Ev)} {m : VM} {z : MV} (h : IsV w B g q m z) {t : Nat} (ht : t < m.thr.length) {b c i p : Nat} (hb : z.tv = .slice (some ⟨b, 0, none⟩) m.thr.length c) (hi : i < 11) (hp : p = t * 11 + i) (u : Value) (x : Thr) (hr : x.read = (m.th t).read) (hc : thrC x (z.rs.getD t default) = (thrC (m.th t) (z.rs.getD t default)).set i u) :
    IsV (w.setCell ⟨b, p, none⟩ u) B g q (setTh m t x) z ∧ Did w (w.setCell ⟨b, p, none⟩ u) g z z := by
  subst hp
  refine h.setThr ht x hr ((Kept.refl w (fun k => z.tv.ownBlock = some k)).setCell (p := ⟨b, t * 11 + i, none⟩) (.inl (by rw [hb]; rfl)) u) ?_
  have hrow := h.th
  rw [hb] at hrow ⊢
  have h2 := Row.setAt hrow (j := t * 11 + i) (by omega) u
  rw [thrs_set m.thr z.rs t i u x (z.rs.getD t default) h.rl.symm ht hi hc, set_getD_self] at h2
  exact h2
theorem IsV.thr3 {w : World} {B g : Nat} {q : List (List Ev)} {m : VM} {z : MV} (h : IsV w B g q m z) {t : Nat} (ht : t < m.thr.length) {b c i p : Nat} (hb : z.tv = .slice (some ⟨b, 0, none⟩) m.thr.length c) (hi : i + 2 < 11) (hp : p = t * 11 + i) (u1 u2 u3 : Value) (x y v : Thr) (hx : x.read = (m.th t).read) (hy : y.read = (m.th t).read) (hv : v.read = (m.th t).read)
    (h1 : thrC x (z.rs.getD t default) = (thrC (m.th t) (z.rs.getD t default)).set i u1) (h2 : thrC y (z.rs.getD t default) = (thrC x (z.rs.getD t default)).set (i + 1) u2) (h3 : thrC v (z.rs.getD t default) = (thrC y (z.rs.getD t default)).set (i + 2) u3) :
    IsV (((w.setCell ⟨b, p, none⟩ u1).setCell ⟨b, p + 1, none⟩ u2).setCell ⟨b, p + 2, none⟩ u3) B g q (setTh m t v) z ∧ Did w (((w.setCell ⟨b, p, none⟩ u1).setCell ⟨b, p + 1, none⟩ u2).setCell ⟨b, p + 2, none⟩ u3) g z z := by
  obtain ⟨a1, a2⟩ := h.thr1 ht hb (show i < 11 by omega) hp u1 x hx h1
  have e1 := setTh_same ht x
  obtain ⟨b1, b2⟩ := a1.thr1 (by rw [setTh_len]; exact ht) (by rw [setTh_len]; exact hb) (show i + 1 < 11 by omega) (show p + 1 = t * 11 + (i + 1) by omega) u2 y (by rw [e1, hy, hx]) (by rw [e1]; exact h2)
  rw [setTh_twice] at b1
  have e2 := setTh_same ht y
  obtain ⟨c1, c2⟩ := b1.thr1 (by rw [setTh_len]; exact ht) (by rw [setTh_len]; exact hb) (show i + 2 < 11 by omega) (show p + 2 = t * 11 + (i + 2) by omega) u3 v (by rw [e2, hv, hy]) (by rw [e2]; exact h3)
  rw [setTh_twice] at c1
  exact ⟨c1, (a2.trans b2).trans c2⟩
theorem IsV.setNow {w : World} {B g : Nat} {q : List (List Ev)} {m : VM} {z : MV} (h : IsV w B g q m z) {t : Nat} (ht : t < m.thr.length) {b c p : Nat} (hb : z.tv = .slice (some ⟨b, 0, none⟩) m.thr.length c) (hp : p = t * 11) (v : V3) :
    IsV (((w.setCell ⟨b, p, none⟩ (.int .i64 v.a)).setCell ⟨b, p + 1, none⟩ (.int .i64 v.b)).setCell ⟨b, p + 2, none⟩ (.int .i64 v.c)) B g q (setTh m t { m.th t with now := v }) z ∧ Did w (((w.setCell ⟨b, p, none⟩ (.int .i64 v.a)).setCell ⟨b, p + 1, none⟩ (.int .i64 v.b)).setCell ⟨b, p + 2, none⟩ (.int .i64 v.c)) g z z :=
  h.thr3 ht hb (i := 0) (by decide) hp _ _ _ { m.th t with now := ⟨v.a, (m.th t).now.b, (m.th t).now.c⟩ } { m.th t with now := ⟨v.a, v.b, (m.th t).now.c⟩ } _ rfl rfl rfl rfl rfl rfl
theorem IsV.setGained {w : World} {B g : Nat} {q : List (List Ev)} {m : VM} {z : MV} (h : IsV w B g q m z) {t : Nat} (ht : t < m.thr.length) {b c p : Nat} (hb : z.tv = .slice (some ⟨b, 0, none⟩) m.thr.length c) (hp : p = t * 11 + 3) (v : V3) :
    IsV (((w.setCell ⟨b, p, none⟩ (.int .i64 v.a)).setCell ⟨b, p + 1, none⟩ (.int .i64 v.b)).setCell ⟨b, p + 2, none⟩ (.int .i64 v.c)) B g q (setTh m t { m.th t with gained := v }) z ∧ Did w (((w.setCell ⟨b, p, none⟩ (.int .i64 v.a)).setCell ⟨b, p + 1, none⟩ (.int .i64 v.b)).setCell ⟨b, p + 2, none⟩ (.int .i64 v.c)) g z z :=
  h.thr3 ht hb (i := 3) (by decide) hp _ _ _ { m.th t with gained := ⟨v.a, (m.th t).gained.b, (m.th t).gained.c⟩ } { m.th t with gained := ⟨v.a, v.b, (m.th t).gained.c⟩ } _ rfl rfl rfl rfl rfl rfl
theorem IsV.setGiven {w : World} {B g : Nat} {q : List (List Ev)} {m : VM} {z : MV} (h : IsV w B g q m z) {t : Nat} (ht : t < m.thr.length) {b c p : Nat} (hb : z.tv = .slice (some ⟨b, 0, none⟩) m.thr.length c) (hp : p = t * 11 + 6) (v : V3) :
    IsV (((w.setCell ⟨b, p, none⟩ (.int .i64 v.a)).setCell ⟨b, p + 1, none⟩ (.int .i64 v.b)).setCell ⟨b, p + 2, none⟩ (.int .i64 v.c)) B g q (setTh m t { m.th t with given := v }) z ∧ Did w (((w.setCell ⟨b, p, none⟩ (.int .i64 v.a)).setCell ⟨b, p + 1, none⟩ (.int .i64 v.b)).setCell ⟨b, p + 2, none⟩ (.int .i64 v.c)) g z z :=
  h.thr3 ht hb (i := 6) (by decide) hp _ _ _ { m.th t with given := ⟨v.a, (m.th t).given.b, (m.th t).given.c⟩ } { m.th t with given := ⟨v.a, v.b, (m.th t).given.c⟩ } _ rfl rfl rfl rfl rfl rfl
theorem IsV.setNow1 {w : World} {B g : Nat} {q : List (List Ev)} {m : VM} {z : MV} (h : IsV w B g q m z) {t : Nat} (ht : t < m.thr.length) {b c p l : Nat} (hb : z.tv = .slice (some ⟨b, 0, none⟩) m.thr.length c) (hl : l < 3) (hp : p = t * 11 + l) (x : Int) :
    IsV (w.setCell ⟨b, p, none⟩ (.int .i64 x)) B g q (setTh m t { m.th t with now := (m.th t).now.put l x }) z ∧ Did w (w.setCell ⟨b, p, none⟩ (.int .i64 x)) g z z := by
  refine h.thr1 ht hb (show l < 11 by omega) hp _ _ rfl ?_
  rcases (by omega : l = 0 ∨ l = 1 ∨ l = 2) with rfl | rfl | rfl <;> rfl
theorem IsV.setNext {w : World} {B g : Nat} {q : List (List Ev)} {m : VM} {z : MV} (h : IsV w B g q m z) {t : Nat} (ht : t < m.thr.length) {b c p : Nat} (hb : z.tv = .slice (some ⟨b, 0, none⟩) m.thr.length c) (hp : p = t * 11 + 10) (k : Nat) :
    IsV (w.setCell ⟨b, p, none⟩ (.int .i64 (k : Int))) B g q (setTh m t { m.th t with next := k }) z ∧ Did w (w.setCell ⟨b, p, none⟩ (.int .i64 (k : Int))) g z z :=
  h.thr1 ht hb (show 10 < 11 by decide) hp _ _ rfl rfl
/-- What a thread read, and its cell. -/
theorem IsV.readOn {w w' : World} {B g : Nat} {q : List (List Ev)} {m : VM} {z : MV} (h : IsV w B g q m z) {t : Nat} (ht : t < m.thr.length) {b c p : Nat} (hb : z.tv = .slice (some ⟨b, 0, none⟩) m.thr.length c) (hp : p = t * 11 + 9) {u : Value} {x : List Int} (hk : Kept w w' (fun k => (z.rs.getD t default).ownBlock = some k)) (hu : Own w' B u x) (hn : ∀ k, u.ownBlock = some k → (z.rs.getD t default).ownBlock = some k ∨ w.heap.size ≤ k) :
    IsV (w'.setCell ⟨b, p, none⟩ u) B g q (setTh m t { m.th t with read := x }) { z with rs := z.rs.set t u } ∧ Did w (w'.setCell ⟨b, p, none⟩ u) g z { z with rs := z.rs.set t u } := by
  subst hp
  have hrow := Row.keep h.th hk (fun k hk2 e => Row.ne_row (h.rd t ht) h.th (by decide) e hk2)
  refine h.setRead ht hk hu hn ((Kept.refl w' (fun k => z.tv.ownBlock = some k)).setCell (p := ⟨b, t * 11 + 9, none⟩) (.inl (by rw [hb]; rfl)) u) ?_
  rw [hb] at hrow ⊢
  have h2 := Row.setAt hrow (j := t * 11 + 9) (by omega) u
  rw [thrs_set m.thr z.rs t 9 u { m.th t with read := x } u h.rl.symm ht (by decide) rfl] at h2
  exact h2
/-- A message's view. -/
theorem IsV.msg3 {w : World} {B g : Nat} {q : List (List Ev)} {m : VM} {z : MV} (h : IsV w B g q m z) {k : Nat} (hk : k < m.msgs.length) {b c p : Nat} (hb : z.mv = .slice (some ⟨b, 0, none⟩) m.msgs.length c) (hp : p = k * 5 + 1) (v : V3) :
    IsV (((w.setCell ⟨b, p, none⟩ (.int .i64 v.a)).setCell ⟨b, p + 1, none⟩ (.int .i64 v.b)).setCell ⟨b, p + 2, none⟩ (.int .i64 v.c)) B g q { m with msgs := m.msgs.set k { m.msg k with view := v } } z ∧ Did w (((w.setCell ⟨b, p, none⟩ (.int .i64 v.a)).setCell ⟨b, p + 1, none⟩ (.int .i64 v.b)).setCell ⟨b, p + 2, none⟩ (.int .i64 v.c)) g z z := by
  subst hp
  have hs : z.mv.ownBlock = some b := by rw [hb]; rfl
  refine h.putMsgs (by rw [List.length_set]) ((((Kept.refl w (fun k => z.mv.ownBlock = some k)).setCell (p := ⟨b, k * 5 + 1, none⟩) (.inl hs) _).setCell (p := ⟨b, k * 5 + 1 + 1, none⟩) (.inl hs) _).setCell (p := ⟨b, k * 5 + 1 + 2, none⟩) (.inl hs) _) ?_
  have hrow := h.ms
  rw [hb] at hrow ⊢
  have h2 := Row.setAt (Row.setAt (Row.setAt hrow (j := k * 5 + 1) (by omega) (.int .i64 v.a)) (j := k * 5 + 1 + 1) (by omega) (.int .i64 v.b)) (j := k * 5 + 1 + 2) (by omega) (.int .i64 v.c)
  rw [msgs_set m.msgs k 1 _ { m.msg k with view := ⟨v.a, (m.msg k).view.b, (m.msg k).view.c⟩ } hk (by decide) rfl,
    show k * 5 + 1 + 1 = k * 5 + 2 from rfl, msgs_set _ k 2 _ { m.msg k with view := ⟨v.a, v.b, (m.msg k).view.c⟩ } (by rw [List.length_set]; exact hk) (by decide) (by rw [getD_set, if_pos ⟨rfl, hk⟩]; rfl), List.set_set,
    show k * 5 + 1 + 2 = k * 5 + 3 from rfl, msgs_set _ k 3 _ { m.msg k with view := v } (by rw [List.length_set]; exact hk) (by decide) (by rw [getD_set, if_pos ⟨rfl, hk⟩]; rfl), List.set_set] at h2
  exact h2
/-- The messages' row, as the walk meets it. -/
theorem IsV.mv_at {w : World} {B g : Nat} {q : List (List Ev)} {m : VM} {z : MV} (h : IsV w B g q m z) {k : Nat} (hk : k < m.msgs.length) : ∃ b c, z.mv = .slice (some ⟨b, 0, none⟩) m.msgs.length c ∧ m.msgs.length ≤ c ∧ c ≤ 9223372036854775807 ∧ B ≤ b ∧ b < w.heap.size ∧ (∀ j, w.frozen? ⟨b, j, none⟩ = false) ∧ b ≠ g ∧ ∀ i, i < 5 → w.cell? ⟨b, k * 5 + i, none⟩ = (msgC (m.msg k))[i]? := by
  obtain ⟨b, c, hv, hB, hlt, hc1, hc2, _⟩ := Row.form h.ms (by omega)
  have hr := h.ms
  rw [hv] at hr
  have hne : b ≠ g := fun e => Row.ne_blk h.ms h.blk (by decide) (by rw [hv, e]; rfl)
  refine ⟨b, c, hv, hc1, by simpa [maxLen] using hc2, hB, hlt, fun j => Row.free hr j, hne, fun i hi => ?_⟩
  obtain ⟨b', off, hA, _, hc⟩ := Rd.elem (Row.rd hr) hk
  injection hA with hA
  injection hA with e1 e2
  subst e1 e2
  have e : m.msg k = m.msgs[k] := by unfold VM.msg; rw [List.getD, List.getElem?_eq_getElem hk]; rfl
  rw [e, ← msgs_at m.msgs k hk i hi, ← hc i hi, Nat.zero_add]
def DidV (w : World) (B g : Nat) (q : List (List Ev)) (m' : VM) (z : MV) (e : Ending) (w' : World) : Prop := e = .returned (.tuple #[]) ∧ ∃ z', IsV w' B g q m' z' ∧ Did w w' g z z'
end Go.Proofs.YtkddckfgdiemkaaGreat
