/-
  The walks of source and fit, of executions that fit.
-/
import Derived.Test.YtkddckfgdiemkaaGreatCW20
import Derived.Test.YtkddckfgdiemkaaGreatCP13
set_option linter.unusedVariables false
set_option linter.unusedSimpArgs false
namespace Go.Proofs.YtkddckfgdiemkaaGreat
open Go.RowKit Go.Shelf Mem
set_option maxRecDepth 100000
attribute [local go_sem] Oper.semAt_some

theorem RdB.atn {w : World} {A : Option Addr} {c n : Nat} {d : List Bool} (h : Rd w (.slice A n c) n 1 (bools d)) (hn : d.length = n) {i : Nat} (hi : i < n) : ∃ b off, A = some ⟨b, off, none⟩ ∧ b < w.heap.size ∧ w.cell? ⟨b, off + i, none⟩ = some (.bool (d.getD i false)) := by
  subst hn
  obtain ⟨b, off, hA, hb, hc⟩ := Rd.one h hi
  exact ⟨b, off, hA, hb, hc.trans (by rw [bool_getD hi]; exact bools_at d i hi)⟩
theorem RdI.atn {w : World} {A : Option Addr} {c n : Nat} {d : List Int} (h : Rd w (.slice A n c) n 1 (ints d)) (hn : d.length = n) {i : Nat} (hi : i < n) : ∃ b off, A = some ⟨b, off, none⟩ ∧ b < w.heap.size ∧ w.cell? ⟨b, off + i, none⟩ = some (.int .i64 (d.getD i 0)) := by
  subst hn
  obtain ⟨b, off, hA, hb, hc⟩ := Rd.one h hi
  exact ⟨b, off, hA, hb, hc.trans (by rw [int_getD hi]; exact ints_at d i hi)⟩
set_option maxHeartbeats 1000000 in
theorem source_any {w : World} {pv fv dv ov sv : Value} {es : List Ev} {x : Ex} {i : Nat} (hr : RdE w pv es) (hf : RdI w fv x.fr) (hd : RdB w dv x.dn) (hfl : x.fr.length = es.length) (hdl : x.dn.length = es.length) (hi : i < es.length) (hok : FitOk es x) :
    Calls Tryz.prog 82 #[pv, .agg #[fv, dv, ov, sv], .int .i64 (i : Int)] w (Tells w true) := by
  obtain ⟨A, c, rfl, hc1, hc2⟩ := hr.shape
  have hd : Rd w dv es.length 1 (bools x.dn) := by rw [← hdl]; exact hd
  have hf : Rd w fv es.length 1 (ints x.fr) := by rw [← hfl]; exact hf
  obtain ⟨Ad, cd, rfl, hcd1, hcd2⟩ := hd.shape
  obtain ⟨Af, cf, rfl, hcf1, hcf2⟩ := hf.shape
  obtain ⟨bf, offf, rfl, hbf, f0⟩ := RdI.atn hf hfl hi
  obtain ⟨w0, hw0⟩ : ∃ w0, w.alloc (.cells #[.slice (some ⟨bf, offf, none⟩) es.length cf, .slice Ad es.length cd, ov, sv] 35) = w0 := ⟨_, rfl⟩
  have b0 : Below w.heap.size w w0 := by rw [← hw0]; exact (Below.refl _ w).alloc (Nat.le_refl _) _
  have X0 : Blk w0 w.heap.size 35 [.slice (some ⟨bf, offf, none⟩) es.length cf, .slice Ad es.length cd, ov, sv] := by rw [← hw0]; exact Blk.new w 35 _
  have R0 : RdE w0 (.slice A es.length c) es := hr.below b0
  have D0 : Rd w0 (.slice Ad es.length cd) es.length 1 (bools x.dn) := Rd.below hd b0
  have f1 := (World.cell?_of_block (b0.block bf hbf)).trans f0
  have hlf : bf < w0.heap.size := Nat.lt_of_lt_of_le hbf b0.size
  have hl0 : w.heap.size < w0.heap.size := X0.lt
  obtain ⟨b, off, hA, hb, x0, x1, x2, x3, x4, x5⟩ := R0.at_ hi
  have i1 : (0 : Int) ≤ (i : Int) := by omega
  have i2 : (i : Int) < (es.length : Int) := by omega
  subst hA
  have HW0 := Lib.hid hw0
  have hq : ∀ W1, Below w0.heap.size w0 W1 → W1.cell? ⟨w.heap.size, 1, none⟩ = some (.slice Ad es.length cd) ∧ W1.cell? ⟨w.heap.size, 0, none⟩ = some (.slice (some ⟨bf, offf, none⟩) es.length cf) ∧ W1.cell? ⟨bf, offf + i, none⟩ = some (.int .i64 (x.fr.getD i 0)) := fun W1 hb1 =>
    ⟨(X0.below hb1).cell 1 rfl, (X0.below hb1).cell 0 rfl, (World.cell?_of_block (hb1.block bf hlf)).trans f1⟩
  obtain ⟨q1, q0, qf⟩ := hq w0 (Below.refl _ _)
  have HQ := Lib.hid hq
  have HR := Lib.hid R0
  have HD := Lib.hid D0
  have B0 := Lib.hid b0
  have HO := Lib.hid hok
  obtain ⟨E, hE⟩ : ∃ E, ev es (i : Int) = E := ⟨_, rfl⟩
  have HE := Lib.hid hE
  rw [hE] at x0 x1 x2 x3 x4 x5
  clear hE hr hd hf hq R0 D0 b0 X0 f0 f1 hok hw0
  cases hrd : isRd E with
  | false =>
    have HRD := Lib.hid hrd
    have hn : x.fr.getD i 0 = -2 := HO.out.nrd i hi (by rw [HE.out]; exact hrd)
    rw [hn] at qf
    have HQ2 := HQ
    rw [hn] at HQ2
    clear hrd hn
    go_enter Tryz.func82, Tryz.ntmps82
    go_upto_region 1 with fail
    rw [HW0.out]
    go_wp2_with (go_at_call 45; refine (reads_any (e := E)).mono ?_; rintro e1 w1 ⟨rfl, hb1⟩; rw [HRD.out])
    go_ret
    exact ⟨rfl, B0.out.trans (hb1.mono B0.out.size)⟩
  | true =>
    have HRD := Lib.hid hrd
    rcases HO.out.src i hi (by rw [HE.out]; exact hrd) with hn | ⟨k, hn, hk, hdk, h5, hlc⟩
    · rw [hn] at qf
      have HQ2 := HQ
      rw [hn] at HQ2
      clear hrd hn
      go_enter Tryz.func82, Tryz.ntmps82
      go_upto_region 1 with fail
      rw [HW0.out]
      go_wp2_with (go_at_call 45; refine (reads_any (e := E)).mono ?_; rintro e1 w1 ⟨rfl, hb1⟩; rw [HRD.out])
      go_ret
      exact ⟨rfl, B0.out.trans (hb1.mono B0.out.size)⟩
    · rw [hn] at qf
      have HQ2 := HQ
      rw [hn] at HQ2
      rw [HE.out] at hlc
      obtain ⟨G, hG⟩ : ∃ G, ev es (k : Int) = G := ⟨_, rfl⟩
      rw [hG] at h5 hlc
      have k1 : (0 : Int) ≤ (k : Int) := by omega
      have k2 : (k : Int) < (es.length : Int) := by omega
      have k3 : (k : Int) ≠ -1 := by omega
      have HG := Lib.hid hG
      have HDK := Lib.hid hdk
      clear hrd hn hdk hG
      go_enter Tryz.func82, Tryz.ntmps82
      go_upto_region 1 with fail
      rw [HW0.out]
      go_upto_region 6 with (go_at_call 45; refine (reads_any (e := E)).mono ?_; rintro e1 w1 ⟨rfl, hb1⟩; rw [HRD.out])
      obtain ⟨d1, _, _⟩ := HQ.out w1 hb1
      obtain ⟨bd, offd, hAd, hbd, d2⟩ := RdB.atn (Rd.below HD.out hb1) hdl hk
      rw [HDK.out] at d2
      obtain ⟨b', off', hA', hb', y0, y1, _⟩ := RdE.at_ (HR.out.below hb1) hk
      injection hA' with hA'
      injection hA' with hA1 hA2
      subst hA1 hA2 hAd
      rw [HG.out] at y0 y1
      obtain ⟨_, _, hA3, _, z0, z1, _⟩ := RdE.at_ (HR.out.below hb1) hi
      injection hA3 with hA3
      injection hA3 with hA4 hA5
      subst hA4 hA5
      rw [HE.out] at z1
      rw [hlc] at y1
      have H5 := Lib.hid (bne_iff_ne.2 h5)
      go_quiet (fail)
      go_wp2
      go_ret
      exact ⟨congrArg (fun b => Ending.returned (.bool b)) H5.out, (B0.out.trans (hb1.mono B0.out.size)).drewN _⟩
end Go.Proofs.YtkddckfgdiemkaaGreat
