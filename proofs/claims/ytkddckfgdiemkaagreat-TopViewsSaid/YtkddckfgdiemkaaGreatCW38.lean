/-
  The walk of join.
-/
import Derived.Test.YtkddckfgdiemkaaGreatCW36
set_option linter.unusedVariables false
set_option linter.unusedSimpArgs false
namespace Go.Proofs.YtkddckfgdiemkaaGreat
open Go.RowKit Go.Shelf Mem
set_option maxRecDepth 100000
attribute [local go_sem] Oper.semAt_some

abbrev v3V (v : V3) : Value := .agg #[.int .i64 v.a, .int .i64 v.b, .int .i64 v.c]
/-- How far it is joined. -/
def jn (line : List (List Int)) (u v : V3) (i : Nat) : List Int := [if 0 < i then join1 line 0 u.a v.a else u.a, if 1 < i then join1 line 1 u.b v.b else u.b, if 2 < i then join1 line 2 u.c v.c else u.c]
theorem jn_next (line : List (List Int)) (u v : V3) {i : Nat} (hi : i < 3) : jn line u v (i + 1) = (jn line u v i).set i (join1 line i (u.at_ i) (v.at_ i)) ∧ (jn line u v i).getD i 0 = u.at_ i := by
  rcases (by omega : i = 0 ∨ i = 1 ∨ i = 2) with rfl | rfl | rfl <;> exact ⟨rfl, rfl⟩
theorem jn_end (line : List (List Int)) (u v : V3) : jn line u v 3 = [(joinV line u v).a, (joinV line u v).b, (joinV line u v).c] := rfl
theorem set_same {l : List Int} {i : Nat} {x : Int} (h : l.getD i 0 = x) (hi : i < l.length) : l.set i x = l := by
  rw [← h, int_getD hi, List.set_getElem_self]
set_option maxHeartbeats 4000000 in
theorem join_any {w : World} {B g : Nat} {q : List (List Ev)} {m : VM} {z : MV} (h : IsV w B g q m z) {u v : V3} :
    Calls Tryz.prog 89 #[.pointer (some ⟨g, 0, none⟩), v3V u, v3V v] w (fun e w' => e = .returned (v3V (joinV m.line u v)) ∧ Below w.heap.size w w') := by
  obtain ⟨w0, hw0⟩ : ∃ w0, ((w.alloc (.cells #[.int .i64 u.a, .int .i64 u.b, .int .i64 u.c] 60)).alloc (.cells #[.int .i64 v.a, .int .i64 v.b, .int .i64 v.c] 60)).alloc (.cells #[.int .i64 0, .int .i64 0, .int .i64 0] 60) = w0 := ⟨_, rfl⟩
  have b0 : Below w.heap.size w w0 := by rw [← hw0]; exact (((Below.refl _ w).alloc (Nat.le_refl _) _).alloc (by simp) _).alloc (by simp; omega) _
  have hsz : w0.heap.size = w.heap.size + 3 := by rw [← hw0]; simp
  have XA := Lib.hid (show Blk w0 w.heap.size 60 (ints (jn m.line u v 0)) by rw [← hw0]; exact ((Blk.new w 60 [.int .i64 u.a, .int .i64 u.b, .int .i64 u.c]).alloc _).alloc _)
  have XB := Lib.hid (show Blk w0 (w.heap.size + 1) 60 [.int .i64 v.a, .int .i64 v.b, .int .i64 v.c] by rw [← hw0]; exact (blk_at_new 60 [.int .i64 v.a, .int .i64 v.b, .int .i64 v.c] (by simp)).alloc _)
  have XC := Lib.hid (show Blk w0 (w.heap.size + 1 + 1) 60 [.int .i64 0, .int .i64 0, .int .i64 0] by rw [← hw0]; exact blk_at_new 60 [.int .i64 0, .int .i64 0, .int .i64 0] (by simp))
  have HPL : Hid (∀ W, Below w.heap.size w W → ∀ (l : Nat) (x : Int), l < 3 → Calls Tryz.prog 55 #[.pointer (some ⟨g, 0, none⟩), .int .i64 (l : Int), .int .i64 x] W fun e w' => e = .returned (.int .i64 (place m.line l x : Int)) ∧ W = w') := Lib.hid (fun W hW l x hl => place_any (h.below hW) hl)
  have HW0 := Lib.hid hw0
  have B0 := Lib.hid b0
  have HSZ := Lib.hid hsz
  clear h hw0 b0 hsz
  go_enter Tryz.func89, Tryz.ntmps89
  go_upto_region 1 with fail
  rw [HW0.out]
  go_wp2
  go_loopw [8] (fun i wr => ∃ k : Nat, k ≤ 3 ∧ i = .int .i64 k ∧ Blk wr w.heap.size 60 (ints (jn m.line u v k)) ∧ Blk wr (w.heap.size + 1) 60 [.int .i64 v.a, .int .i64 v.b, .int .i64 v.c] ∧ Blk wr (w.heap.size + 1 + 1) 60 [.int .i64 0, .int .i64 0, .int .i64 0] ∧ Below w.heap.size w wr) (fun i _ => 3 - (intOf i).toNat)
  case atStart => exact ⟨0, Nat.zero_le _, rfl, XA.out, XB.out, XC.out, B0.out⟩
  case round =>
    obtain ⟨k, hk, rfl, ha, hb, hc, hbel⟩ := hrel
    by_cases hlt : k < 3
    · have hlt' : (k : Int) < 3 := by omega
      have k0 : (0 : Int) ≤ (k : Int) := by omega
      obtain ⟨hn1, hn2⟩ := jn_next m.line u v hlt
      have ca : wr.cell? ⟨w.heap.size, k, none⟩ = some (.int .i64 (u.at_ k)) := by
        refine ha.cell k ?_
        rw [ints_at _ k (by simp [jn]; omega), ← int_getD, hn2]
      have cb : wr.cell? ⟨w.heap.size + 1, k, none⟩ = some (.int .i64 (v.at_ k)) := by
        refine hb.cell k ?_
        rcases (by omega : k = 0 ∨ k = 1 ∨ k = 2) with rfl | rfl | rfl <;> rfl
      have fa := ha.free k
      have hj : join1 m.line k (u.at_ k) (v.at_ k) = if 0 ≤ v.at_ k ∧ (u.at_ k < 0 ∨ place m.line k (u.at_ k) < place m.line k (v.at_ k)) then v.at_ k else u.at_ k := rfl
      have HPX : Hid (∀ n, Calls Tryz.prog 55 #[.pointer (some ⟨g, 0, none⟩), .int .i64 (k : Int), .int .i64 (u.at_ k)] (wr.drewN n) fun e w' => e = .returned (.int .i64 (place m.line k (u.at_ k) : Int)) ∧ w' = wr.drewN n) := Lib.hid (fun n => (HPL.out (wr.drewN n) (hbel.drewN n) k (u.at_ k) hlt).mono (fun _ _ h => ⟨h.1, h.2.symm⟩))
      have HPY : Hid (∀ n, Calls Tryz.prog 55 #[.pointer (some ⟨g, 0, none⟩), .int .i64 (k : Int), .int .i64 (v.at_ k)] (wr.drewN n) fun e w' => e = .returned (.int .i64 (place m.line k (v.at_ k) : Int)) ∧ w' = wr.drewN n) := Lib.hid (fun n => (HPL.out (wr.drewN n) (hbel.drewN n) k (v.at_ k) hlt).mono (fun _ _ h => ⟨h.1, h.2.symm⟩))
      have hjl : (jn m.line u v k).length = 3 := rfl
      obtain ⟨x, hx⟩ : ∃ x, u.at_ k = x := ⟨_, rfl⟩
      obtain ⟨y, hy⟩ : ∃ y, v.at_ k = y := ⟨_, rfl⟩
      obtain ⟨px, hpx⟩ : ∃ px, place m.line k (u.at_ k) = px := ⟨_, rfl⟩
      obtain ⟨py, hpy⟩ : ∃ py, place m.line k (v.at_ k) = py := ⟨_, rfl⟩
      rw [hpx] at HPX hj
      rw [hpy] at HPY hj
      rw [hx] at ca hj HPX hn2
      rw [hy] at cb hj HPY
      rw [hx, hy] at hn1
      obtain ⟨J, hJ⟩ : ∃ J, join1 m.line k x y = J := ⟨_, rfl⟩
      rw [hJ] at hj hn1
      have HN := Lib.hid hn1
      have HA := Lib.hid ha
      have HBB := Lib.hid hb
      have HC := Lib.hid hc
      have HBL := Lib.hid hbel
      have HS2 := Lib.hid hn2
      clear ha hb hc hbel hn1 hn2 hx hy hpx hpy hJ
      by_cases hy0 : 0 ≤ y
      · have hy0' : y ≥ 0 := hy0
        by_cases hx0 : x < 0
        · have hJ : Hid (J = y) := Lib.hid (by rw [hj, if_pos ⟨hy0, .inl hx0⟩])
          clear hj
          go_upto_region 4 with fail
          go_quiet (fail)
          go_wp2
          go_roundw
          case measure => simp [intOf]; all_goals omega
          case rel => exact ⟨k + 1, by omega, by go_num, by { rw [HN.out, hJ.out, ints_set]; exact (HA.out.below ((Below.refl _ _).drewN _)).set k _ }, (HBB.out.below ((Below.refl _ _).drewN _)).off (by omega), (HC.out.below ((Below.refl _ _).drewN _)).off (by omega), (HBL.out.drewN _).setCell (p := ⟨w.heap.size, k, none⟩) (Nat.le_refl _) _⟩
        · have hxb : decide (x < 0) = false := decide_eq_false hx0
          by_cases hlp : px < py
          · have hlp' : (py : Int) > (px : Int) := by omega
            have hJ : Hid (J = y) := Lib.hid (by rw [hj, if_pos ⟨hy0, .inr hlp⟩])
            clear hj
            go_upto_region 4 with fail
            go_quiet (first | (go_at_call 55; with_reducible exact Calls.quiet_of_same (HPY.out _)) | (go_at_call 55; with_reducible exact Calls.quiet_of_same (HPX.out _)))
            go_wp2
            go_roundw
            case measure => simp [intOf]; all_goals omega
            case rel => exact ⟨k + 1, by omega, by go_num, by { rw [HN.out, hJ.out, ints_set]; exact (HA.out.below ((Below.refl _ _).drewN _)).set k _ }, (HBB.out.below ((Below.refl _ _).drewN _)).off (by omega), (HC.out.below ((Below.refl _ _).drewN _)).off (by omega), (HBL.out.drewN _).setCell (p := ⟨w.heap.size, k, none⟩) (Nat.le_refl _) _⟩
          · have hlp' : ¬ (py : Int) > (px : Int) := by omega
            have hJ : Hid (J = x) := Lib.hid (by rw [hj, if_neg (fun hh => hh.2.elim hx0 hlp)])
            clear hj
            go_upto_region 4 with fail
            go_quiet (first | (go_at_call 55; with_reducible exact Calls.quiet_of_same (HPY.out _)) | (go_at_call 55; with_reducible exact Calls.quiet_of_same (HPX.out _)))
            go_wp2
            go_roundw
            case measure => simp [intOf]; all_goals omega
            case rel => exact ⟨k + 1, by omega, by go_num, by { rw [HN.out, hJ.out, set_same HS2.out (by rw [hjl]; exact hlt)]; exact HA.out.below ((Below.refl _ _).drewN _) }, HBB.out.below ((Below.refl _ _).drewN _), HC.out.below ((Below.refl _ _).drewN _), HBL.out.drewN _⟩
      · have hy0' : ¬ y ≥ 0 := hy0
        have hJ : Hid (J = x) := Lib.hid (by rw [hj, if_neg (fun hh => hy0 hh.1)])
        clear hj
        go_upto_region 4 with fail
        go_quiet (fail)
        go_wp2
        go_roundw
        case measure => simp [intOf]; all_goals omega
        case rel => exact ⟨k + 1, by omega, by go_num, by { rw [HN.out, hJ.out, set_same HS2.out (by rw [hjl]; exact hlt)]; exact HA.out.below ((Below.refl _ _).drewN _) }, HBB.out.below ((Below.refl _ _).drewN _), HC.out.below ((Below.refl _ _).drewN _), HBL.out.drewN _⟩
    · have hk3 : k = 3 := by omega
      subst hk3
      rw [jn_end] at ha
      have a0 := ha.cell 0 rfl
      have a1 := ha.cell 1 rfl
      have a2 := ha.cell 2 rfl
      have c0 := hc.cell 0 rfl
      have c1 := hc.cell 1 rfl
      have c2 := hc.cell 2 rfl
      have f0 := hc.free 0
      have f1 := hc.free 1
      have f2 := hc.free 2
      have HC := Lib.hid hc
      have HBL := Lib.hid hbel
      obtain ⟨R, hR⟩ : ∃ R, joinV m.line u v = R := ⟨_, rfl⟩
      rw [hR] at a0 a1 a2
      have HRR := Lib.hid hR
      clear ha hb hc hbel hR
      go_wp2
      have hXX : Blk (((wr.setCell ⟨w.heap.size + 1 + 1, 0, none⟩ (.int .i64 R.a)).setCell ⟨w.heap.size + 1 + 1, 1, none⟩ (.int .i64 R.b)).setCell ⟨w.heap.size + 1 + 1, 2, none⟩ (.int .i64 R.c)) (w.heap.size + 1 + 1) 60 [.int .i64 R.a, .int .i64 R.b, .int .i64 R.c] := ((HC.out.set 0 _).set 1 _).set 2 _
      refine bodyPost_ret (results_cell_row rfl _ _ (w.heap.size + 1 + 1) 60 _ (0, 0) _ rfl hXX Tryz.underlying60 rfl (by kernel_rfl)) rfl ?_
      exact ⟨by rw [HRR.out], ((HBL.out.setCell (p := ⟨w.heap.size + 1 + 1, 0, none⟩) (by show w.heap.size ≤ w.heap.size + 1 + 1; omega) _).setCell (p := ⟨w.heap.size + 1 + 1, 1, none⟩) (by show w.heap.size ≤ w.heap.size + 1 + 1; omega) _).setCell (p := ⟨w.heap.size + 1 + 1, 2, none⟩) (by show w.heap.size ≤ w.heap.size + 1 + 1; omega) _⟩
end Go.Proofs.YtkddckfgdiemkaaGreat
