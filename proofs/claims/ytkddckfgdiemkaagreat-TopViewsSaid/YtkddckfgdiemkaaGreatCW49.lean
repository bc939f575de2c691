/-
  The walks of Choices and Step.
-/
import Derived.Test.YtkddckfgdiemkaaGreatCW48
set_option linter.unusedVariables false
set_option linter.unusedSimpArgs false
namespace Go.Proofs.YtkddckfgdiemkaaGreat
open Go.RowKit Go.Shelf Mem
set_option maxRecDepth 100000
attribute [local go_sem] Oper.semAt_some

theorem choices_any {w : World} {B g : Nat} {q : List (List Ev)} {m : VM} {z : MV} (h : IsV w B g q m z) (ho : VmOk m) {t L : Nat} {K V W R T : Int} (ht : t < m.thr.length) (hL : L < 3) (hK : 0 ≤ K ∧ K ≤ 5) (hs : place m.line L ((m.th t).now.at_ L) ≤ (m.ln L).length) :
    Calls Tryz.prog 31 #[.pointer (some ⟨g, 0, none⟩), .int .i64 (t : Int), .agg #[.int .i64 K, .int .i64 (L : Int), .int .i64 V, .int .i64 W, .int .i64 R]] w (MadeC (choicesF m t ⟨K, (L : Int), V, W, R, T⟩) w) := by
  by_cases h5 : K = 5
  · subst h5
    have e : choicesF m t ⟨5, (L : Int), V, W, R, T⟩ = [(0, false)] := if_pos rfl
    rw [e]
    exact choices_fen (m := m) (T := T)
  · exact choices_acc h ho ht hL (by omega) hs
theorem choices_lt {m : VM} {t L : Nat} {K V W R T : Int} {c : Nat × Bool} (hc : c ∈ choicesF m t ⟨K, (L : Int), V, W, R, T⟩) (h5 : K ≠ 5) : c.1 < (m.ln L).length := by
  unfold choicesF at hc
  rw [if_neg (show ¬ (⟨K, (L : Int), V, W, R, T⟩ : Ev).kind = 5 from h5)] at hc
  obtain ⟨i, h1, h2⟩ := choicesTo_mem _ hc
  have e : c.1 = place m.line L ((m.th t).now.at_ L) + i := by
    unfold choice1 at h2
    rw [List.mem_append] at h2
    rcases h2 with h2 | h2
    · split at h2
      · rw [List.mem_singleton.1 h2]; rfl
      · simp at h2
    · split at h2
      · rw [List.mem_singleton.1 h2]; rfl
      · simp at h2
  have h3 : i < (m.ln L).length - place m.line L ((m.th t).now.at_ L) := h1
  omega
/-- What a thread's next operation is, and what the walks want of the machine. -/
structure NextOk (q : List (List Ev)) (m : VM) (t L : Nat) (K V W R : Int) : Prop where
  hql : q.length = m.thr.length
  ht : t < m.thr.length
  hn : (m.th t).next < (q.getD t []).length
  ho : ∃ T, ev (q.getD t []) ((m.th t).next : Int) = ⟨K, (L : Int), V, W, R, T⟩
  hL : L < 3
  hK : 0 ≤ K ∧ K ≤ 5
  hR : 0 ≤ R ∧ R < 5
  hs : place m.line L ((m.th t).now.at_ L) ≤ (m.ln L).length
  hok : VmOk m
  hrl : (m.th t).read.length ≤ 1000
  hnx : (m.th t).next ≤ 1000
theorem NextOk.turn {w : World} {B g : Nat} {q : List (List Ev)} {m : VM} {z : MV} {t L : Nat} {K V W R : Int} (h : IsV w B g q m z) (hn : NextOk q m t L K V W R) :
    Calls Tryz.prog 30 #[.pointer (some ⟨g, 0, none⟩), .int .i64 (t : Int)] w fun e w' => e = .returned (.tuple #[.agg #[.int .i64 K, .int .i64 (L : Int), .int .i64 V, .int .i64 W, .int .i64 R], .int .i64 0]) ∧ Below w.heap.size w w' := by
  obtain ⟨T, hT⟩ := hn.ho
  have := turn_ok h hn.hql hn.ht hn.hn
  rw [hT] at this
  exact this
set_option maxHeartbeats 2000000 in
theorem vchoices_ok {w : World} {B g : Nat} {q : List (List Ev)} {m : VM} {z : MV} {t L : Nat} {K V W R T : Int} (h : IsV w B g q m z) (hn : NextOk q m t L K V W R) :
    Calls Tryz.prog 15 #[.pointer (some ⟨g, 0, none⟩), .int .i64 (t : Int)] w fun e w' => e = two (.int .i64 ((choicesF m t ⟨K, (L : Int), V, W, R, T⟩).length : Int)) (.int .i64 0) ∧ Below w.heap.size w w' := by
  have HT := Lib.hid (NextOk.turn h hn)
  have HC : Hid (∀ W', Below w.heap.size w W' → Calls Tryz.prog 31 #[.pointer (some ⟨g, 0, none⟩), .int .i64 (t : Int), .agg #[.int .i64 K, .int .i64 (L : Int), .int .i64 V, .int .i64 W, .int .i64 R]] W' (MadeC (choicesF m t ⟨K, (L : Int), V, W, R, T⟩) W')) := Lib.hid (fun W' hW => choices_any (h.below hW) hn.hok hn.ht hn.hL hn.hK hn.hs)
  obtain ⟨C, hC⟩ : ∃ C, choicesF m t ⟨K, (L : Int), V, W, R, T⟩ = C := ⟨_, rfl⟩
  rw [hC] at HC ⊢
  clear h hn hC
  go_enter Tryz.func15, Tryz.ntmps15
  go_upto_region 2 with (go_at_call 30; refine HT.out.mono ?_; rintro e1 w1 ⟨rfl, hb1⟩)
  obtain ⟨w2, hw2⟩ : ∃ x, w1.alloc (.cells #[.int .i64 K, .int .i64 (L : Int), .int .i64 V, .int .i64 W, .int .i64 R] 47) = x := ⟨_, rfl⟩
  rw [hw2]
  have hb2 : Below w.heap.size w w2 := by rw [← hw2]; exact hb1.alloc hb1.size _
  have X := (show Blk w2 w1.heap.size 47 [.int .i64 K, .int .i64 (L : Int), .int .i64 V, .int .i64 W, .int .i64 R] by rw [← hw2]; exact Blk.new w1 47 _)
  have x0 := X.cell 0 rfl
  have x1 := X.cell 1 rfl
  have x2 := X.cell 2 rfl
  have x3 := X.cell 3 rfl
  have x4 := X.cell 4 rfl
  have HB2 := Lib.hid hb2
  clear hw2 hb1 hb2 X
  go_wp2_with (go_at_call 31; refine (HC.out _ HB2.out).mono ?_; rintro e3 w3 ⟨u3, rfl, hr3, hb3⟩; obtain ⟨A3, c3, rfl, hc31, hc32⟩ := (Row.rd hr3).shape)
  go_ret2
  exact ⟨rfl, HB2.out.trans (hb3.mono HB2.out.size)⟩
def NoChoice (w : World) (e : Ending) (w' : World) : Prop := ∃ c : Int, c ≠ 0 ∧ e = two (.int .i64 0) (.int .i64 c) ∧ Below w.heap.size w w'
theorem vchoices_no {w : World} {g : Nat} {who : Int} (h : Calls Tryz.prog 30 #[.pointer (some ⟨g, 0, none⟩), .int .i64 who] w (NoTurn w)) :
    Calls Tryz.prog 15 #[.pointer (some ⟨g, 0, none⟩), .int .i64 who] w (NoChoice w) := by
  have HT := Lib.hid h
  clear h
  go_enter Tryz.func15, Tryz.ntmps15
  go_upto_region 2 with (go_at_call 30; refine HT.out.mono ?_; rintro e1 w1 ⟨c, hc, rfl, hb1⟩)
  have hcb : (c != 0) = true := bne_iff_ne.2 hc
  have HCC := Lib.hid hc
  have HB1 := Lib.hid hb1
  clear hc hb1
  go_wp2
  go_ret2
  exact ⟨c, HCC.out, rfl, HB1.out.alloc HB1.out.size _⟩
def DidS (w : World) (B g : Nat) (q : List (List Ev)) (m' : VM) (z : MV) (e : Ending) (w' : World) : Prop := e = .returned (.int .i64 0) ∧ ∃ z', IsV w' B g q m' z' ∧ Did w w' g z z'
set_option maxHeartbeats 4000000 in
theorem vstep_ok {w : World} {B g : Nat} {q : List (List Ev)} {m : VM} {z : MV} {t L p : Nat} {K V W R T : Int} (h : IsV w B g q m z) (hn : NextOk q m t L K V W R) (hp : p < (choicesF m t ⟨K, (L : Int), V, W, R, T⟩).length) (hB : B ≤ w.heap.size) :
    Calls Tryz.prog 16 #[.pointer (some ⟨g, 0, none⟩), .int .i64 (t : Int), .int .i64 (p : Int)] w (DidS w B g q (doesF m t ⟨K, (L : Int), V, W, R, T⟩ ((choicesF m t ⟨K, (L : Int), V, W, R, T⟩).getD p (0, false))) z) := by
  have HT := Lib.hid (NextOk.turn h hn)
  have HC : Hid (∀ W', Below w.heap.size w W' → Calls Tryz.prog 31 #[.pointer (some ⟨g, 0, none⟩), .int .i64 (t : Int), .agg #[.int .i64 K, .int .i64 (L : Int), .int .i64 V, .int .i64 W, .int .i64 R]] W' (MadeC (choicesF m t ⟨K, (L : Int), V, W, R, T⟩) W')) := Lib.hid (fun W' hW => choices_any (h.below hW) hn.hok hn.ht hn.hL hn.hK hn.hs)
  have hlt := fun (h5 : K ≠ 5) => choices_lt (c := (choicesF m t ⟨K, (L : Int), V, W, R, T⟩)[p]) (List.getElem_mem hp) h5
  have HD : Hid (∀ W', Below w.heap.size w W' → Calls Tryz.prog 32 #[.pointer (some ⟨g, 0, none⟩), .int .i64 (t : Int), .agg #[.int .i64 K, .int .i64 (L : Int), .int .i64 V, .int .i64 W, .int .i64 R], .agg #[.int .i64 (((choicesF m t ⟨K, (L : Int), V, W, R, T⟩)[p]).1 : Int), .bool ((choicesF m t ⟨K, (L : Int), V, W, R, T⟩)[p]).2]] W' (DidV W' B g q (doesF m t ⟨K, (L : Int), V, W, R, T⟩ ((choicesF m t ⟨K, (L : Int), V, W, R, T⟩)[p])) z)) := Lib.hid (fun W' hW => vdoes_any (h.below hW) hn.hok hn.ht hn.hL hn.hK hn.hR hlt hn.hrl hn.hnx (Nat.le_trans hB hW.size))
  have hgd : (choicesF m t ⟨K, (L : Int), V, W, R, T⟩).getD p (0, false) = (choicesF m t ⟨K, (L : Int), V, W, R, T⟩)[p] := by rw [List.getD, List.getElem?_eq_getElem hp]; rfl
  rw [hgd]
  obtain ⟨CC, hCC⟩ : ∃ CC, (choicesF m t ⟨K, (L : Int), V, W, R, T⟩)[p] = CC := ⟨_, rfl⟩
  rw [hCC] at HD ⊢
  have hpa : ∀ i, i < 2 → (chs (choicesF m t ⟨K, (L : Int), V, W, R, T⟩))[p * 2 + i]? = (chC CC)[i]? := fun i hi => by rw [chs_at _ p hp i hi, hCC]
  obtain ⟨C, hC⟩ : ∃ C, choicesF m t ⟨K, (L : Int), V, W, R, T⟩ = C := ⟨_, rfl⟩
  have hpC : p < C.length := by rw [← hC]; exact hp
  rw [hC] at hpa
  rw [hC] at HC
  have p0 : ¬ (p : Int) < 0 := by omega
  have p1 : ¬ (p : Int) ≥ (C.length : Int) := by omega
  have p2 : (0 : Int) ≤ (p : Int) := by omega
  have p3 : (p : Int) < (C.length : Int) := by omega
  have HPA := Lib.hid hpa
  obtain ⟨m', hm'⟩ : ∃ x, doesF m t ⟨K, (L : Int), V, W, R, T⟩ CC = x := ⟨_, rfl⟩
  rw [hm'] at HD ⊢
  clear h hn hlt hgd hCC hp hC hpa hm'
  go_enter Tryz.func16, Tryz.ntmps16
  go_upto_region 2 with (go_at_call 30; refine HT.out.mono ?_; rintro e1 w1 ⟨rfl, hb1⟩)
  obtain ⟨w2, hw2⟩ : ∃ x, w1.alloc (.cells #[.int .i64 K, .int .i64 (L : Int), .int .i64 V, .int .i64 W, .int .i64 R] 47) = x := ⟨_, rfl⟩
  rw [hw2]
  have hb2 : Below w.heap.size w w2 := by rw [← hw2]; exact hb1.alloc hb1.size _
  have X := (show Blk w2 w1.heap.size 47 [.int .i64 K, .int .i64 (L : Int), .int .i64 V, .int .i64 W, .int .i64 R] by rw [← hw2]; exact Blk.new w1 47 _)
  have x0 := X.cell 0 rfl
  have x1 := X.cell 1 rfl
  have x2 := X.cell 2 rfl
  have x3 := X.cell 3 rfl
  have x4 := X.cell 4 rfl
  have HB2 := Lib.hid hb2
  have HX := Lib.hid X
  clear hw2 hb1 hb2 X
  go_upto_region 7 with (go_at_call 31; refine (HC.out _ HB2.out).mono ?_; rintro e3 w3 ⟨u3, rfl, hr3, hb3⟩; obtain ⟨A3, c3, rfl, hc31, hc32⟩ := (Row.rd hr3).shape)
  clear x0 x1 x2 x3 x4
  have X3 := HX.out.below hb3
  have x0 := X3.cell 0 rfl
  have x1 := X3.cell 1 rfl
  have x2 := X3.cell 2 rfl
  have x3 := X3.cell 3 rfl
  have x4 := X3.cell 4 rfl
  obtain ⟨b3, o3, rfl, hb3l, hc3⟩ := Rd.elem (Row.rd hr3) hpC
  have r0 : w3.cell? ⟨b3, o3 + p * 2, none⟩ = some (.int .i64 (CC.1 : Int)) := (hc3 0 (by decide)).trans (HPA.out 0 (by decide))
  have r1 : w3.cell? ⟨b3, o3 + p * 2 + 1, none⟩ = some (.bool CC.2) := (hc3 1 (by decide)).trans (HPA.out 1 (by decide))
  have HB3 := Lib.hid (HB2.out.trans (hb3.mono HB2.out.size))
  clear X3 hc3 hr3 hb3 hc31
  go_region_with (go_at_call 32; (refine (HD.out _ (HB3.out.drew)).mono ?_); rintro e5 w5 ⟨rfl, z5, i5, d5⟩)
  all_goals
    have I5 := Lib.hid i5
    have D5 := Lib.hid ((Did.below g z (HB3.out.drew)).trans d5)
    clear i5 d5
    go_wp2
    go_ret
    exact ⟨rfl, z5, I5.out, D5.out⟩
end Go.Proofs.YtkddckfgdiemkaaGreat
