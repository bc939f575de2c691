/-
  The walk of does.
-/
import Derived.Test.YtkddckfgdiemkaaGreatCW47
set_option linter.unusedVariables false
set_option linter.unusedSimpArgs false
namespace Go.Proofs.YtkddckfgdiemkaaGreat
open Go.RowKit Go.Shelf Mem
set_option maxRecDepth 100000
attribute [local go_sem] Oper.semAt_some

theorem does_fen {m : VM} {t : Nat} {L V W R T : Int} {c : Nat × Bool} : doesF m t ⟨5, L, V, W, R, T⟩ c = fencedF (bump m t) t ⟨5, L, V, W, R, T⟩ := if_pos rfl
theorem does_acc {m : VM} {t L F : Nat} {K V W R T : Int} {c : Nat × Bool} (h5 : ¬ K = 5) (h1 : ¬ K = 1) (hF : (m.ln L).getD c.1 0 = (F : Int)) :
    doesF m t ⟨K, (L : Int), V, W, R, T⟩ c = if c.2 then writesV (readsF (bump m t) t F ⟨K, (L : Int), V, W, R, T⟩) t c.1 (if K = 2 then wrap64 ((m.msg F).word + V) else W) ⟨K, (L : Int), V, W, R, T⟩ true else readsF (bump m t) t F ⟨K, (L : Int), V, W, R, T⟩ := by
  unfold doesF wordW
  have e : ((m.ln (⟨K, (L : Int), V, W, R, T⟩ : Ev).loc.toNat).getD c.1 0).toNat = F := by
    show ((m.ln L).getD c.1 0).toNat = F
    rw [hF]; rfl
  rw [if_neg (show ¬ (⟨K, (L : Int), V, W, R, T⟩ : Ev).kind = 5 from h5), if_neg (show ¬ (⟨K, (L : Int), V, W, R, T⟩ : Ev).kind = 1 from h1), if_neg (show ¬ (⟨K, (L : Int), V, W, R, T⟩ : Ev).kind = 1 from h1), e]
  have hb : ((⟨K, (L : Int), V, W, R, T⟩ : Ev).kind != 1) = true := bne_iff_ne.2 h1
  rw [hb]
theorem does_store {m : VM} {t L : Nat} {V W R T : Int} {c : Nat × Bool} :
    doesF m t ⟨1, (L : Int), V, W, R, T⟩ c = if c.2 then writesV (bump m t) t c.1 V ⟨1, (L : Int), V, W, R, T⟩ false else bump m t := rfl
theorem VmOk.of {m m' : VM} (h : VmOk m) (h1 : m'.msgs = m.msgs) (h2 : m'.line = m.line) : VmOk m' := by
  have e : ∀ l, m'.ln l = m.ln l := fun l => by unfold VM.ln; rw [h2]
  exact ⟨fun l hl k y => by rw [e, h1]; exact h.ln l hl k y, fun l hl => by rw [e]; exact h.ll l hl, by rw [h1]; exact h.ml⟩
set_option maxHeartbeats 8000000 in
theorem vdoes_any {w : World} {B g : Nat} {q : List (List Ev)} {m : VM} {z : MV} (h : IsV w B g q m z) (ho : VmOk m) {t L k : Nat} {K V W R T : Int} {CB : Bool} (ht : t < m.thr.length) (hL : L < 3) (hK : 0 ≤ K ∧ K ≤ 5) (hR : 0 ≤ R ∧ R < 5) (hk : K ≠ 5 → k < (m.ln L).length) (hrl : (m.th t).read.length ≤ 1000) (hnx : (m.th t).next ≤ 1000) (hB : B ≤ w.heap.size) :
    Calls Tryz.prog 32 #[.pointer (some ⟨g, 0, none⟩), .int .i64 (t : Int), .agg #[.int .i64 K, .int .i64 (L : Int), .int .i64 V, .int .i64 W, .int .i64 R], .agg #[.int .i64 (k : Int), .bool CB]] w (DidV w B g q (doesF m t ⟨K, (L : Int), V, W, R, T⟩ (k, CB)) z) := by
  obtain ⟨w0, hw0⟩ : ∃ w0, (w.alloc (.cells #[.int .i64 K, .int .i64 (L : Int), .int .i64 V, .int .i64 W, .int .i64 R] 47)).alloc (.cells #[.int .i64 (k : Int), .bool CB] 87) = w0 := ⟨_, rfl⟩
  have b0 : Below w.heap.size w w0 := by rw [← hw0]; exact ((Below.refl _ w).alloc (Nat.le_refl _) _).alloc (by simp) _
  have X := show Blk w0 w.heap.size 47 [.int .i64 K, .int .i64 (L : Int), .int .i64 V, .int .i64 W, .int .i64 R] by rw [← hw0]; exact (Blk.new w 47 _).alloc _
  have Y := show Blk w0 (w.heap.size + 1) 87 [.int .i64 (k : Int), .bool CB] by rw [← hw0]; exact blk_at_new 87 [.int .i64 (k : Int), .bool CB] (by simp)
  have i0 := h.below b0
  obtain ⟨bt, ct, hzt, hct1, hct2, _, _, hf0_, hbg, hc0_⟩ := i0.tv_at ht
  have c5 : w0.cell? ⟨g, 5, none⟩ = some (.slice (some ⟨bt, 0, none⟩) m.thr.length ct) := by rw [i0.cells.2.2.1, hzt]
  obtain ⟨nx, hnxe⟩ : ∃ nx, (m.th t).next = nx := ⟨_, rfl⟩
  have n0 : w0.cell? ⟨bt, t * 11 + 10, none⟩ = some (.int .i64 (nx : Int)) := by rw [← hnxe]; exact hc0_ 10 (by decide)
  have g0 := hf0_ (t * 11 + 10)
  obtain ⟨N, hN⟩ : ∃ N, m.thr.length = N := ⟨_, rfl⟩
  rw [hN] at c5 ht
  rw [hnxe] at hnx
  have t0 : (0 : Int) ≤ (t : Int) := by omega
  have t3 : (t : Int) < (N : Int) := by omega
  have l0 : (0 : Int) ≤ (L : Int) := by omega
  have l3 : (L : Int) < 3 := by omega
  have hst := i0.setNext (t := t) (by rw [hN]; exact ht) hzt (p := t * 11 + 10) rfl (nx + 1)
  rw [show ((nx + 1 : Nat) : Int) = (nx : Int) + 1 by omega] at hst
  have HST := Lib.hid hst
  have HN := Lib.hid hN
  have HNX := Lib.hid hnxe
  have HX := Lib.hid X
  have HY := Lib.hid Y
  have I0 := Lib.hid i0
  have HO := Lib.hid ho
  have HW0 := Lib.hid hw0
  have D0 := Lib.hid (Did.below g z b0)
  have HRL := Lib.hid hrl
  clear h ho hzt hct1 hf0_ hc0_ hN hnxe hst X Y i0 hw0 b0 hrl
  go_enter Tryz.func32, Tryz.ntmps32
  go_upto_region 1 with fail
  rw [HW0.out]
  go_upto_region 2 with fail
  obtain ⟨w1, hw1⟩ : ∃ x, w0.setCell ⟨bt, t * 11 + 10, none⟩ (.int .i64 ((nx : Int) + 1)) = x := ⟨_, rfl⟩
  rw [hw1]
  have hst := HST.out
  rw [hw1] at hst
  obtain ⟨m1, hm1⟩ : ∃ x, bump m t = x := ⟨_, rfl⟩
  have i1 : IsV w1 B g q m1 z := by rw [← hm1]; unfold bump; rw [HNX.out]; exact hst.1
  have d1 : Did w0 w1 g z z := hst.2
  have XO1 := HX.out.keep d1.kept (I0.out.foot_ne HX.out (by decide))
  have XC1 := HY.out.keep d1.kept (I0.out.foot_ne HY.out (by decide))
  have I1 := Lib.hid i1
  have D1 := Lib.hid (D0.out.trans d1)
  have M1 := Lib.hid hm1
  have hms1 : m1.msgs = m.msgs := by rw [← hm1]; rfl
  have hln1 : m1.line = m.line := by rw [← hm1]; rfl
  have hln1' : ∀ l, m1.ln l = m.ln l := fun l => by unfold VM.ln; rw [hln1]
  have L1 : Hid (t < m1.thr.length) := Lib.hid (by rw [← hm1]; simp [bump, setTh, HN.out]; exact ht)
  have O1 := Lib.hid (HO.out.of hms1 hln1)
  have R1 : Hid ((m1.th t).read.length ≤ 1000) := Lib.hid (by rw [← hm1]; unfold bump; rw [setTh_same (by rw [HN.out]; exact ht)]; exact HRL.out)
  have HXO := Lib.hid XO1
  have HXC := Lib.hid XC1
  have HMS1 := Lib.hid hms1
  have HLN1 := Lib.hid hln1'
  have hB1 : B ≤ w1.heap.size := Nat.le_trans hB (D0.out.trans d1).kept.size
  have x0 := XO1.cell 0 rfl
  have x1 := XO1.cell 1 rfl
  have x2 := XO1.cell 2 rfl
  have x3 := XO1.cell 3 rfl
  have x4 := XO1.cell 4 rfl
  have y0 := XC1.cell 0 rfl
  have y1 := XC1.cell 1 rfl
  clear hw1 hst hm1 i1 d1 XO1 XC1 hms1 hln1 hln1' n0 g0 c5 HST
  by_cases h5 : K = 5
  · subst h5
    clear hk
    go_wp2_with (go_at_call 57; refine (vfenced_any (T := T) I1.out L1.out hR).mono ?_; rintro e5 w5 ⟨rfl, z5, i5, d5⟩)
    go_returns
    refine ⟨rfl, z5, ?_, D1.out.trans d5⟩
    rw [does_fen, M1.out]; exact i5
  · have k5 : (K == 5) = false := beq_eq_false_iff_ne.2 h5
    have hkl := hk h5
    have HKL := Lib.hid (show k < (m1.ln L).length by rw [HLN1.out]; exact hkl)
    clear hk
    by_cases h1 : K = 1
    · subst h1
      cases CB with
      | false =>
        go_wp2
        go_returns
        refine ⟨rfl, z, ?_, D1.out⟩
        rw [does_store, M1.out]; exact I1.out
      | true =>
        go_wp2_with (go_at_call 59; refine (vwrites_any (T := T) I1.out O1.out L1.out hL HKL.out hR hB1).mono ?_; rintro e5 w5 ⟨rfl, z5, i5, d5⟩)
        go_returns
        refine ⟨rfl, z5, ?_, D1.out.trans d5⟩
        rw [does_store, M1.out]; exact i5
    · have k1 : (K == 1) = false := beq_eq_false_iff_ne.2 h1
      have kn1 : (K != 1) = true := bne_iff_ne.2 h1
      obtain ⟨A, c, hc1, hc2, _, c2, hrd⟩ := I1.out.line hL
      obtain ⟨bl, ol, rfl, hbl, hcl⟩ := RdI.atn hrd rfl HKL.out
      obtain ⟨f0, f1⟩ := O1.out.ln L hL k ((m1.ln L).getD k 0) (by rw [List.getD_eq_getElem?_getD, List.getElem?_eq_getElem HKL.out]; rfl)
      obtain ⟨F, hF⟩ : ∃ F : Nat, (m1.ln L).getD k 0 = (F : Int) := ⟨((m1.ln L).getD k 0).toNat, by omega⟩
      have hFm : (m.ln L).getD k 0 = (F : Int) := by rw [← HLN1.out L]; exact hF
      rw [hF] at hcl f0 f1
      have f2 : F < m1.msgs.length := by omega
      have HDA := Lib.hid (does_acc (m := m) (t := t) (L := L) (V := V) (W := W) (R := R) (T := T) (c := (k, CB)) h5 h1 hFm)
      have hlk : (k : Int) < ((m1.ln L).length : Int) := by have := HKL.out; omega
      have k0 : (0 : Int) ≤ (k : Int) := by omega
      obtain ⟨n, hn⟩ : ∃ n, (m1.ln L).length = n := ⟨_, rfl⟩
      rw [hn] at c2 hlk
      have HF2 := Lib.hid f2
      have HRD : Hid (∀ a, Calls Tryz.prog 58 #[.pointer (some ⟨g, 0, none⟩), .int .i64 (t : Int), .int .i64 (F : Int), .agg #[.int .i64 K, .int .i64 (L : Int), .int .i64 V, .int .i64 W, .int .i64 R]] (w1.drewN a) (DidV (w1.drewN a) B g q (readsF m1 t F ⟨K, (L : Int), V, W, R, T⟩) z)) := Lib.hid (fun a => vreads_any (I1.out.below ((Below.refl _ w1).drewN a)) L1.out hL f2 R1.out hR hB1)
      obtain ⟨m2, hm2⟩ : ∃ x, readsF m1 t F ⟨K, (L : Int), V, W, R, T⟩ = x := ⟨_, rfl⟩
      rw [hm2] at HRD
      have M2 := Lib.hid hm2
      have hms2 : m2.msgs = m.msgs := by rw [← hm2, ← HMS1.out]; rfl
      have hln2 : m2.line = m1.line := by rw [← hm2]; rfl
      have L2 : Hid (t < m2.thr.length) := Lib.hid (by rw [← hm2]; unfold readsF; rw [setTh_len]; exact L1.out)
      have O2 := Lib.hid (O1.out.of (by rw [hms2, HMS1.out]) hln2)
      have KL2 : Hid (k < (m2.ln L).length) := Lib.hid (by unfold VM.ln; rw [hln2]; exact HKL.out)
      have HMS2 := Lib.hid hms2
      have F2 : Hid (F < m2.msgs.length) := Lib.hid (by rw [hms2, ← HMS1.out]; exact f2)
      clear hrd hF hFm f2 hn hm2 hms2 hln2 hc1
      go_upto_region 7 with fail
      go_quiet (fail)
      clear hcl c2
      go_upto_region 9 with (go_at_call 58; refine (HRD.out _).mono ?_; rintro e2 w2 ⟨rfl, z2, i2, d2⟩)
      clear x0 x1 x2 x3 x4 y0 y1
      have d2' : Did w1 w2 g z z2 := (Did.below g z ((Below.refl _ w1).drewN _)).trans d2
      have XO2 := HXO.out.keep d2'.kept (I1.out.foot_ne HXO.out (by decide))
      have XC2 := HXC.out.keep d2'.kept (I1.out.foot_ne HXC.out (by decide))
      have x0 := XO2.cell 0 rfl
      have x1 := XO2.cell 1 rfl
      have x2 := XO2.cell 2 rfl
      have x3 := XO2.cell 3 rfl
      have x4 := XO2.cell 4 rfl
      have y0 := XC2.cell 0 rfl
      have y1 := XC2.cell 1 rfl
      have I2 := Lib.hid i2
      have D2 := Lib.hid (D1.out.trans d2')
      have hB2 : B ≤ w2.heap.size := Nat.le_trans hB1 d2'.kept.size
      clear d2 d2' i2 XO2 XC2
      by_cases h2 : K = 2
      · have k2 : (K == 2) = true := beq_iff_eq.2 h2
        have HWE : Hid ((if K = 2 then wrap64 ((m.msg F).word + V) else W) = wrap64 ((m.msg F).word + V)) := Lib.hid (if_pos h2)
        obtain ⟨Am, cm, hcm1, hcm2, _, cm1, hms⟩ := I2.out.msgs_
        obtain ⟨bm, om, rfl, hbm, wc, _⟩ := hms F F2.out
        obtain ⟨wd, hwd⟩ : ∃ x, (m.msg F).word = x := ⟨_, rfl⟩
        have e : m2.msg F = m.msg F := by unfold VM.msg; rw [HMS2.out]
        rw [e, hwd] at wc
        have f3 : (F : Int) < (m2.msgs.length : Int) := by have := F2.out; omega
        obtain ⟨M, hM⟩ : ∃ x, m2.msgs.length = x := ⟨_, rfl⟩
        rw [hM] at cm1 f3
        have hw64 : Hid (wrap64 (wd + V) = IntKind.i64.wrap (wd + V)) := Lib.hid (by unfold wrap64; rw [IntKind.wrap_i64])
        have HWD := Lib.hid hwd
        clear hms hwd e hM h2 hcm1
        go_upto_region 10 with fail
        go_quiet (fail)
        cases CB with
        | false =>
          go_wp2
          go_returns
          refine ⟨rfl, z2, ?_, D2.out.trans (Did.below g z2 ((Below.refl _ _).drewN _))⟩
          rw [HDA.out, M1.out, M2.out]; exact I2.out.below ((Below.refl _ _).drewN _)
        | true =>
          go_wp2_with (go_at_call 59; refine (vwrites_any (T := T) (I2.out.below ((Below.refl _ w2).drewN _)) O2.out L2.out hL KL2.out hR hB2).mono ?_; rintro e5 w5 ⟨rfl, z5, i5, d5⟩)
          go_returns
          refine ⟨rfl, z5, ?_, D2.out.trans ((Did.below g z2 ((Below.refl _ _).drewN _)).trans d5)⟩
          rw [HDA.out, M1.out, M2.out, HWE.out, HWD.out]
          first | exact i5 | (rw [hw64.out]; exact i5)
      · have k2 : (K == 2) = false := beq_eq_false_iff_ne.2 h2
        have HWE : Hid ((if K = 2 then wrap64 ((m.msg F).word + V) else W) = W) := Lib.hid (if_neg h2)
        clear h2
        cases CB with
        | false =>
          go_wp2
          go_returns
          refine ⟨rfl, z2, ?_, D2.out⟩
          rw [HDA.out, M1.out, M2.out]; exact I2.out
        | true =>
          go_wp2_with (go_at_call 59; refine (vwrites_any (T := T) I2.out O2.out L2.out hL KL2.out hR hB2).mono ?_; rintro e5 w5 ⟨rfl, z5, i5, d5⟩)
          go_returns
          refine ⟨rfl, z5, ?_, D2.out.trans d5⟩
          rw [HDA.out, M1.out, M2.out, HWE.out]; exact i5
end Go.Proofs.YtkddckfgdiemkaaGreat
