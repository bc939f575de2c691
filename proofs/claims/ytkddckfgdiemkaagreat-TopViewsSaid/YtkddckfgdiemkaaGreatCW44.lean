/-
  The walk of choices.
-/
import Derived.Test.YtkddckfgdiemkaaGreatCW39
set_option linter.unusedVariables false
set_option linter.unusedSimpArgs false
namespace Go.Proofs.YtkddckfgdiemkaaGreat
open Go.RowKit Go.Shelf Mem
set_option maxRecDepth 100000
attribute [local go_sem] Oper.semAt_some

def chC (c : Nat × Bool) : List Value := [.int .i64 (c.1 : Int), .bool c.2]
def chs (l : List (Nat × Bool)) : List Value := l.flatMap chC
theorem chs_app (a b : List (Nat × Bool)) : chs (a ++ b) = chs a ++ chs b := by simp [chs]
theorem chs_one (c : Nat × Bool) : chs [c] = chC c := by simp [chs]
theorem chC_one (c : Nat × Bool) : ∀ u ∈ chC c, u.oneCell' = true := by
  intro u hu
  simp only [chC, List.mem_cons, List.not_mem_nil, or_false] at hu
  rcases hu with h | h <;> (rw [h]; rfl)
theorem chs_length : ∀ l : List (Nat × Bool), (chs l).length = l.length * 2
  | [] => rfl
  | x :: t => by have ih := chs_length t; simp only [chs, List.flatMap_cons, List.length_append, List.length_cons] at ih ⊢; rw [ih]; simp [chC]; omega
theorem chs_at : ∀ (ds : List (Nat × Bool)) (j : Nat) (h : j < ds.length) (i : Nat), i < 2 → (chs ds)[j * 2 + i]? = (chC ds[j])[i]?
  | x :: t, 0, _, i, hi => by
    simp only [chs, List.flatMap_cons, List.getElem_cons_zero, Nat.zero_mul, Nat.zero_add]
    rw [List.getElem?_append_left (by simp [chC]; omega)]
  | x :: t, j + 1, h, i, hi => by
    have ih := chs_at t j (by simpa using h) i hi
    simp only [chs, List.flatMap_cons, List.getElem_cons_succ] at ih ⊢
    rw [List.getElem?_append_right (by simp [chC]; omega), ← ih]
    congr 1
    simp [chC]; omega
theorem info87 : (Tryz.prog.info? 87).map (fun i => (i.zero, i.size, i.bytes)) = some (some (.agg #[.int .i64 0, .bool false]), 2, 16) := by kernel_rfl
def MadeC (l : List (Nat × Bool)) (w : World) (e : Ending) (w' : World) : Prop := ∃ u, e = .returned u ∧ Row w' w.heap.size 87 2 u l.length (chs l) ∧ Below w.heap.size w w'
theorem choice1_len (m : VM) (o : Ev) (k : Nat) : (choice1 m o k).length ≤ 2 := by
  unfold choice1
  rw [List.length_append]
  split <;> split <;> simp
theorem choicesTo_len (m : VM) (o : Ev) (s : Nat) : ∀ k, (choicesTo m o s k).length ≤ 2 * k
  | 0 => by simp [choicesTo]
  | k + 1 => by have := choicesTo_len m o s k; have := choice1_len m o (s + k); simp only [choicesTo, List.length_append]; omega
theorem choices_fen {w : World} {g t : Nat} {L V W R T : Int} {m : VM} :
    Calls Tryz.prog 31 #[.pointer (some ⟨g, 0, none⟩), .int .i64 (t : Int), .agg #[.int .i64 5, .int .i64 L, .int .i64 V, .int .i64 W, .int .i64 R]] w (MadeC [(0, false)] w) := by
  obtain ⟨w0, hw0⟩ : ∃ w0, w.alloc (.cells #[.int .i64 5, .int .i64 L, .int .i64 V, .int .i64 W, .int .i64 R] 47) = w0 := ⟨_, rfl⟩
  have b0 : Below w.heap.size w w0 := by rw [← hw0]; exact (Below.refl _ w).alloc (Nat.le_refl _) _
  have X := show Blk w0 w.heap.size 47 [.int .i64 5, .int .i64 L, .int .i64 V, .int .i64 W, .int .i64 R] by rw [← hw0]; exact Blk.new w 47 _
  have hsz : w.heap.size ≤ w0.heap.size := b0.size
  have x0 := X.cell 0 rfl
  have HW0 := Lib.hid hw0
  have B0 := Lib.hid b0
  clear hw0 b0 X
  go_enter Tryz.func31, Tryz.ntmps31
  go_upto_region 1 with fail
  rw [HW0.out]
  go_wp2
  go_ret
  exact ⟨_, rfl, row_of_blk (n := 1) (k := 2) hsz (Blk.new w0 87 [.int .i64 0, .bool false]) rfl (by decide), B0.out.alloc hsz _⟩
set_option maxHeartbeats 4000000 in
theorem choices_acc {w : World} {B g : Nat} {q : List (List Ev)} {m : VM} {z : MV} (h : IsV w B g q m z) (ho : VmOk m) {t L : Nat} {K V W R T : Int} (ht : t < m.thr.length) (hL : L < 3) (hK : 0 ≤ K ∧ K < 5) (hs : place m.line L ((m.th t).now.at_ L) ≤ (m.ln L).length) :
    Calls Tryz.prog 31 #[.pointer (some ⟨g, 0, none⟩), .int .i64 (t : Int), .agg #[.int .i64 K, .int .i64 (L : Int), .int .i64 V, .int .i64 W, .int .i64 R]] w (MadeC (choicesF m t ⟨K, (L : Int), V, W, R, T⟩) w) := by
  obtain ⟨w0, hw0⟩ : ∃ w0, w.alloc (.cells #[.int .i64 K, .int .i64 (L : Int), .int .i64 V, .int .i64 W, .int .i64 R] 47) = w0 := ⟨_, rfl⟩
  have b0 : Below w.heap.size w w0 := by rw [← hw0]; exact (Below.refl _ w).alloc (Nat.le_refl _) _
  have X := show Blk w0 w.heap.size 47 [.int .i64 K, .int .i64 (L : Int), .int .i64 V, .int .i64 W, .int .i64 R] by rw [← hw0]; exact Blk.new w 47 _
  have hsz : w.heap.size ≤ w0.heap.size := b0.size
  have h1 := h.below b0
  obtain ⟨A, c, hc1, hc2, _, c5, hth⟩ := h1.thrs_
  obtain ⟨b, off, rfl, hb, hcs⟩ := hth t ht
  have n0 : w0.cell? ⟨b, off + t * 11 + L, none⟩ = some (.int .i64 ((m.th t).now.at_ L)) := by
    rw [hcs L (by omega)]
    rcases (by omega : L = 0 ∨ L = 1 ∨ L = 2) with rfl | rfl | rfl <;> rfl
  have x0 := X.cell 0 rfl
  have x1 := X.cell 1 rfl
  have HPL : Hid (∀ n, Calls Tryz.prog 55 #[.pointer (some ⟨g, 0, none⟩), .int .i64 (L : Int), .int .i64 ((m.th t).now.at_ L)] (w0.drewN n) fun e w' => e = .returned (.int .i64 (place m.line L ((m.th t).now.at_ L) : Int)) ∧ w' = w0.drewN n) := Lib.hid (fun n => (place_any (h1.below ((Below.refl _ w0).drewN n)) hL).mono (fun _ _ h => ⟨h.1, h.2.symm⟩))
  have hgoal : choicesF m t ⟨K, (L : Int), V, W, R, T⟩ = choicesTo m ⟨K, (L : Int), V, W, R, T⟩ (place m.line L ((m.th t).now.at_ L)) ((m.ln L).length - place m.line L ((m.th t).now.at_ L)) := by
    unfold choicesF
    rw [if_neg (show ¬ K = 5 by omega)]
    rfl
  rw [hgoal]
  obtain ⟨s, hse⟩ : ∃ s, place m.line L ((m.th t).now.at_ L) = s := ⟨_, rfl⟩
  rw [hse] at HPL hs ⊢
  obtain ⟨nw, hnw⟩ : ∃ nw, (m.th t).now.at_ L = nw := ⟨_, rfl⟩
  rw [hnw] at HPL n0
  obtain ⟨N, hN⟩ : ∃ N, m.thr.length = N := ⟨_, rfl⟩
  rw [hN] at c5 ht
  have t0 : (0 : Int) ≤ (t : Int) := by omega
  have t3 : (t : Int) < (N : Int) := by omega
  have l0 : (0 : Int) ≤ (L : Int) := by omega
  have l3 : (L : Int) < 3 := by omega
  have k5 : (K == 5) = false := beq_eq_false_iff_ne.2 (by omega)
  obtain ⟨n, hn⟩ : ∃ n, (m.ln L).length = n := ⟨_, rfl⟩
  rw [hn] at hs ⊢
  have hn1 := ho.ll L hL
  rw [hn] at hn1
  have HX := Lib.hid X
  have H1 := Lib.hid h1
  have HO := Lib.hid ho
  have HN := Lib.hid hn
  have HW0 := Lib.hid hw0
  have B0 := Lib.hid b0
  clear h h1 ho hth hcs X hw0 b0 hgoal hse hnw hN hn
  go_enter Tryz.func31, Tryz.ntmps31
  go_upto_region 1 with fail
  rw [HW0.out]
  go_upto_region 4 with fail
  go_quiet ((go_at_call 55; with_reducible exact Calls.quiet_of_same (HPL.out _)))
  clear n0 c5 x0 x1
  go_wp2
  go_loopw [7, 8] (fun l i wr => ∃ j : Nat, s ≤ j ∧ j ≤ n ∧ i = .int .i64 (j : Int) ∧ Row wr w0.heap.size 87 2 l (choicesTo m ⟨K, (L : Int), V, W, R, T⟩ s (j - s)).length (chs (choicesTo m ⟨K, (L : Int), V, W, R, T⟩ s (j - s))) ∧ Below w0.heap.size w0 wr) (fun _ i _ => n - (intOf i).toNat)
  case atStart => exact ⟨s, Nat.le_refl _, hs, rfl, by rw [Nat.sub_self]; exact World.ownsRow_nil _ _ _ _, (Below.refl _ _).drewN _⟩
  case round =>
    obtain ⟨j, hsj, hjn, rfl, hrow, hbel⟩ := hrel
    obtain ⟨Al, cl, rfl, hcl1, hcl2⟩ := (Row.rd hrow).shape
    have hlen := choicesTo_len m ⟨K, (L : Int), V, W, R, T⟩ s (j - s)
    by_cases hlt : j < n
    · have hlt' : (j : Int) < (n : Int) := by omega
      have j0 : (0 : Int) ≤ (j : Int) := by omega
      have hr := H1.out.below hbel
      obtain ⟨A, c, hc1, hc2, _, c2, hrd⟩ := hr.line hL
      obtain ⟨Am, cm, hcm1, hcm2, _, cm1, hms⟩ := hr.msgs_
      have hlt2 : j < (m.ln L).length := by rw [HN.out]; exact hlt
      obtain ⟨bl, ol, rfl, hbl, hcl⟩ := RdI.atn hrd rfl hlt2
      obtain ⟨y0, y1⟩ := HO.out.ln L hL j _ (List.getElem?_eq_getElem hlt2)
      rw [int_getD hlt2] at hcl
      obtain ⟨y, hy⟩ : ∃ y : Nat, (m.ln L)[j] = (y : Int) := ⟨((m.ln L)[j]).toNat, by omega⟩
      rw [hy] at hcl y0 y1
      obtain ⟨bm, om, rfl, hbm, wc, _⟩ := hms y (by omega)
      have hch : choicesTo m ⟨K, (L : Int), V, W, R, T⟩ s (j + 1 - s) = choicesTo m ⟨K, (L : Int), V, W, R, T⟩ s (j - s) ++ ((if (K == 1 || K == 2 || (K != 0 && (m.msg y).word == V)) && !bound m L j then [(j, true)] else []) ++ (if !(K == 1 || K == 2 || (K != 0 && (m.msg y).word == V)) || K == 4 then [(j, false)] else [])) := by
        rw [show j + 1 - s = (j - s) + 1 by omega, choicesTo, show s + (j - s) = j by omega]
        congr 1
        unfold choice1
        have e : ((m.ln ((⟨K, (L : Int), V, W, R, T⟩ : Ev).loc.toNat)).getD j 0).toNat = y := by
          show ((m.ln L).getD j 0).toNat = y
          rw [int_getD hlt2, hy]; rfl
        rw [e]; rfl
      obtain ⟨wd, hwd⟩ : ∃ wd, (m.msg y).word = wd := ⟨_, rfl⟩
      rw [hwd] at wc hch
      obtain ⟨bd, hbd⟩ : ∃ bd, bound m L j = bd := ⟨_, rfl⟩
      have HBD := Lib.hid (fun W (hW : Below w0.heap.size w0 W) => bound_any (H1.out.below hW) HO.out hL (show j < 2000 by omega))
      rw [hbd] at hch HBD
      obtain ⟨WB, hWB⟩ : ∃ WB, (K == 1 || K == 2 || (K != 0 && wd == V)) = WB := ⟨_, rfl⟩
      rw [hWB] at hch
      have HWB := Lib.hid hWB
      have HCH := Lib.hid hch
      obtain ⟨M, hM⟩ : ∃ M, m.msgs.length = M := ⟨_, rfl⟩
      rw [hM] at cm1 y1
      rw [HN.out] at c2
      obtain ⟨C, hC⟩ : ∃ C, choicesTo m ⟨K, (L : Int), V, W, R, T⟩ s (j - s) = C := ⟨_, rfl⟩
      rw [hC] at hrow hlen HCH hcl1 ⊢
      have HROW := Lib.hid hrow
      have HBEL := Lib.hid hbel
      have HXW : Hid (∀ W', Below w0.heap.size w0 W' → W'.cell? ⟨w.heap.size, 0, none⟩ = some (.int .i64 K) ∧ W'.cell? ⟨w.heap.size, 1, none⟩ = some (.int .i64 (L : Int)) ∧ W'.cell? ⟨w.heap.size, 2, none⟩ = some (.int .i64 V)) := Lib.hid (fun W' hW => ⟨(HX.out.below hW).cell 0 rfl, (HX.out.below hW).cell 1 rfl, (HX.out.below hW).cell 2 rfl⟩)
      obtain ⟨e0, e1, e2⟩ := HXW.out wr hbel
      clear hr hrd hms hy hwd hbd hWB hch hM hrow hbel hcm1 hlt2 hc1
      have HCC := Lib.hid hC
      clear hC
      go_upto_region 5 with fail
      go_quiet (fail)
      go_upto_region 7 with fail
      go_quiet (fail)
      go_upto_region 9 with (go_at_call 56; refine (HBD.out _ (HBEL.out.drewN _)).mono ?_; rintro ee w1 ⟨rfl, hb1⟩; have hbr : Below wr.heap.size wr w1 := ((Below.refl _ wr).drewN _).trans hb1)
      have hbw : Below w0.heap.size w0 w1 := HBEL.out.trans (hbr.mono HBEL.out.size)
      have HR1 := Lib.hid (Row.below HROW.out hbr)
      clear e0 e1 e2 wc hcl c2 cm1 hb1
      obtain ⟨e0, e1, e2⟩ := HXW.out w1 hbw
      have HBW := Lib.hid hbw
      have HSZ : w0.heap.size ≤ w1.heap.size := hbw.size
      clear hbw hbr HROW
      go_cut [11] from 67 to 85 (fun v wx => v = .bool WB ∧ wx = w1)
      case first =>
        by_cases h1 : K = 1
        · have a1 : (K == 1) = true := beq_iff_eq.2 h1
          have HR : Hid (WB = true) := Lib.hid (by rw [← HWB.out, a1]; rfl)
          clear h1
          go_wp2_with fail
          go_meet
          exact ⟨by rw [HR.out], rfl⟩
        · have a1 : (K == 1) = false := beq_eq_false_iff_ne.2 h1
          by_cases h2 : K = 2
          · have a2 : (K == 2) = true := beq_iff_eq.2 h2
            have HR : Hid (WB = true) := Lib.hid (by rw [← HWB.out, a1, a2]; rfl)
            clear h1 h2
            go_wp2_with fail
            go_meet
            exact ⟨by rw [HR.out], rfl⟩
          · have a2 : (K == 2) = false := beq_eq_false_iff_ne.2 h2
            by_cases h0 : K = 0
            · have a0 : (K != 0) = false := by rw [h0]; rfl
              have HR : Hid (WB = false) := Lib.hid (by rw [← HWB.out, a1, a2, a0]; rfl)
              clear h1 h2 h0
              go_wp2_with fail
              go_meet
              exact ⟨by rw [HR.out], rfl⟩
            · have a0 : (K != 0) = true := bne_iff_ne.2 h0
              by_cases hv : wd = V
              · have av : (wd == V) = true := beq_iff_eq.2 hv
                have HR : Hid (WB = true) := Lib.hid (by rw [← HWB.out, a1, a2, a0, av]; rfl)
                clear h1 h2 h0 hv
                go_wp2_with fail
                go_meet
                exact ⟨by rw [HR.out], rfl⟩
              · have av : (wd == V) = false := beq_eq_false_iff_ne.2 hv
                have HR : Hid (WB = false) := Lib.hid (by rw [← HWB.out, a1, a2, a0, av]; rfl)
                clear h1 h2 h0 hv
                go_wp2_with fail
                go_meet
                exact ⟨by rw [HR.out], rfl⟩
      case rest =>
        obtain ⟨rfl, rfl⟩ := hcut
        have hCl : C.length ≤ 4000 := by omega
        cases WB with
        | false =>
          have HC2 : Hid (choicesTo m ⟨K, (L : Int), V, W, R, T⟩ s (j + 1 - s) = C ++ [(j, false)]) := Lib.hid (by rw [HCH.out]; rfl)
          go_upto_region 6 with (at_builtin; refine wpList_app rfl (.tmp 102) (.tmp 105) rfl Tryz.underlying83 info87 rfl (by decide) (by decide) w0.heap.size _ _ _ wc.heap.size (chC (j, false)) rfl (World.ownsRow.alloc HR1.out _) rfl (Blk.new wc 87 (chC (j, false))) rfl (chC_one _) (by simp; omega) (by omega) ?_; intro v6 w6 hrow6 hk6 hat6; obtain ⟨A6, c6, rfl, hc61, hc62⟩ := (Row.rd hrow6).shape)
          have hb6 : Below w0.heap.size w0 w6 := (HBW.out.alloc HSZ (.cells (chC (j, false)).toArray 87)).trans (hk6.below (by simp; omega) (fun k hk => (Row.at_lt HR1.out hk).1))
          have HR6 := Lib.hid hrow6
          have HB6 := Lib.hid hb6
          clear hrow6 hb6 hk6 hat6 e0 e1 e2
          go_wp2
          go_roundw
          case measure => simp [intOf]; all_goals omega
          case rel => exact ⟨j + 1, by omega, by omega, by go_num, by { rw [HC2.out, chs_app, chs_one, List.length_append]; exact HR6.out }, HB6.out⟩
        | true =>
          cases bd with
          | true =>
            by_cases h4 : K = 4
            · have a4 : (K == 4) = true := beq_iff_eq.2 h4
              have HC2 : Hid (choicesTo m ⟨K, (L : Int), V, W, R, T⟩ s (j + 1 - s) = C ++ [(j, false)]) := Lib.hid (by rw [HCH.out, a4]; rfl)
              clear h4
              go_upto_region 6 with (at_builtin; refine wpList_app rfl (.tmp 102) (.tmp 105) rfl Tryz.underlying83 info87 rfl (by decide) (by decide) w0.heap.size _ _ _ wc.heap.size (chC (j, false)) rfl (World.ownsRow.alloc HR1.out _) rfl (Blk.new wc 87 (chC (j, false))) rfl (chC_one _) (by simp; omega) (by omega) ?_; intro v6 w6 hrow6 hk6 hat6; obtain ⟨A6, c6, rfl, hc61, hc62⟩ := (Row.rd hrow6).shape)
              have hb6 : Below w0.heap.size w0 w6 := (HBW.out.alloc HSZ (.cells (chC (j, false)).toArray 87)).trans (hk6.below (by simp; omega) (fun k hk => (Row.at_lt HR1.out hk).1))
              have HR6 := Lib.hid hrow6
              have HB6 := Lib.hid hb6
              clear hrow6 hb6 hk6 hat6 e0 e1 e2
              go_wp2
              go_roundw
              case measure => simp [intOf]; all_goals omega
              case rel => exact ⟨j + 1, by omega, by omega, by go_num, by { rw [HC2.out, chs_app, chs_one, List.length_append]; exact HR6.out }, HB6.out⟩
            · have a4 : (K == 4) = false := beq_eq_false_iff_ne.2 h4
              have HC2 : Hid (choicesTo m ⟨K, (L : Int), V, W, R, T⟩ s (j + 1 - s) = C) := Lib.hid (by rw [HCH.out, a4]; simp)
              clear h4
              go_wp2
              go_roundw
              case measure => simp [intOf]; all_goals omega
              case rel => exact ⟨j + 1, by omega, by omega, by go_num, by { rw [HC2.out]; exact HR1.out }, HBW.out⟩
          | false =>
            go_upto_region 12 with (at_builtin; refine wpList_app rfl (.tmp 90) (.tmp 93) rfl Tryz.underlying83 info87 rfl (by decide) (by decide) w0.heap.size _ _ _ wc.heap.size (chC (j, true)) rfl (World.ownsRow.alloc HR1.out _) rfl (Blk.new wc 87 (chC (j, true))) rfl (chC_one _) (by simp; omega) (by omega) ?_; intro v5 w5 hrow5 hk5 hat5; obtain ⟨A5, c5, rfl, hc51, hc52⟩ := (Row.rd hrow5).shape)
            have hb5 : Below w0.heap.size w0 w5 := (HBW.out.alloc HSZ (.cells (chC (j, true)).toArray 87)).trans (hk5.below (by simp; omega) (fun k hk => (Row.at_lt HR1.out hk).1))
            have HR5 := Lib.hid hrow5
            have HB5 := Lib.hid hb5
            have HS5 : w0.heap.size ≤ w5.heap.size := hb5.size
            clear e0 e1 e2
            obtain ⟨e0, e1, e2⟩ := HXW.out w5 hb5
            clear hrow5 hb5 hk5 hat5
            by_cases h4 : K = 4
            · have a4 : (K == 4) = true := beq_iff_eq.2 h4
              have HC2 : Hid (choicesTo m ⟨K, (L : Int), V, W, R, T⟩ s (j + 1 - s) = (C ++ [(j, true)]) ++ [(j, false)]) := Lib.hid (by rw [HCH.out, a4]; simp)
              clear h4
              go_upto_region 6 with (at_builtin; refine wpList_app rfl (.tmp 102) (.tmp 105) rfl Tryz.underlying83 info87 rfl (by decide) (by decide) w0.heap.size _ _ _ w5.heap.size (chC (j, false)) rfl (World.ownsRow.alloc HR5.out _) rfl (Blk.new w5 87 (chC (j, false))) rfl (chC_one _) (by simp; omega) (by omega) ?_; intro v6 w6 hrow6 hk6 hat6; obtain ⟨A6, c6, rfl, hc61, hc62⟩ := (Row.rd hrow6).shape)
              have hb6 : Below w0.heap.size w0 w6 := (HB5.out.alloc HS5 (.cells (chC (j, false)).toArray 87)).trans (hk6.below (by simp; omega) (fun k hk => (Row.at_lt HR5.out hk).1))
              have HR6 := Lib.hid hrow6
              have HB6 := Lib.hid hb6
              clear hrow6 hb6 hk6 hat6 e0 e1 e2
              go_wp2
              go_roundw
              case measure => simp [intOf]; all_goals omega
              case rel => exact ⟨j + 1, by omega, by omega, by go_num, by { rw [HC2.out, chs_app, chs_app, chs_one, chs_one, List.length_append, List.length_append]; exact HR6.out }, HB6.out⟩
            · have a4 : (K == 4) = false := beq_eq_false_iff_ne.2 h4
              have HC2 : Hid (choicesTo m ⟨K, (L : Int), V, W, R, T⟩ s (j + 1 - s) = C ++ [(j, true)]) := Lib.hid (by rw [HCH.out, a4]; simp)
              clear h4
              go_wp2
              go_roundw
              case measure => simp [intOf]; all_goals omega
              case rel => exact ⟨j + 1, by omega, by omega, by go_num, by { rw [HC2.out, chs_app, chs_one, List.length_append]; exact HR5.out }, HB5.out⟩
    · have hin : j = n := by omega
      subst hin
      have hr := H1.out.below hbel
      obtain ⟨A, c, hc1, hc2, _, c2, hrd⟩ := hr.line hL
      rw [HN.out] at c2
      obtain ⟨C, hC⟩ : ∃ C, choicesTo m ⟨K, (L : Int), V, W, R, T⟩ s (j - s) = C := ⟨_, rfl⟩
      rw [hC] at hrow hlen hcl1 ⊢
      have e1 := (HX.out.below hbel).cell 1 rfl
      have HROW := Lib.hid hrow
      have HBEL := Lib.hid hbel
      have HCC := Lib.hid hC
      clear hr hrd hrow hbel hC
      go_upto_region 5 with fail
      go_quiet (fail)
      go_wp2
      go_ret
      exact ⟨.slice Al C.length cl, rfl, by { rw [HCC.out]; exact Row.mono (Row.below HROW.out ((Below.refl _ _).drewN _)) hsz }, B0.out.trans ((HBEL.out.drewN _).mono hsz)⟩
end Go.Proofs.YtkddckfgdiemkaaGreat
