/-
  The walk of before: what is before what.
-/
import Derived.Test.YtkddckfgdiemkaaGreatCW10
set_option linter.unusedVariables false
set_option linter.unusedSimpArgs false
namespace Go.Proofs.YtkddckfgdiemkaaGreat
open Go.RowKit Go.Shelf Mem
set_option maxRecDepth 100000
attribute [local go_sem ↓] shl32 shr32 low32 or32 or32z

/-- What is released along a chain of exchanges; k: how many steps are left. -/
def chainF (es : List Ev) (x : Ex) : Nat → Nat → Nat → Nat
  | 0, _, s => s
  | k + 1, w, s => if exchF es x w = true ∧ 0 ≤ x.fr.getD w 0 then chainF es x k (x.fr.getD w 0).toNat (orN s (startsF es w)) else orN s (startsF es w)
def addTo (r : List Nat) (F T : Nat) : Nat → List Nat
  | 0 => r
  | m + 1 => if bitOf F m then (addTo r F T m).set m (orN ((addTo r F T m).getD m 0) T) else addTo r F T m
def swTo (es : List Ev) (x : Ex) (r : List Nat) : Nat → List Nat
  | 0 => r
  | k + 1 => if isRd (ev es (k : Int)) = true ∧ 0 ≤ x.fr.getD k 0 then addTo (swTo es x r k) (chainF es x es.length (x.fr.getD k 0).toNat 0) (endsF es k) es.length else swTo es x r k
def beforeF (es : List Ev) (x : Ex) : List Nat := closeF es.length (swTo es x (stepsF es x.fen) es.length)
set_option maxHeartbeats 2000000 in
theorem before_any {w : World} {pv fv dv ov sv : Value} {es : List Ev} {x : Ex} (hr : RdE w pv es) (hx : RdX w fv dv ov sv x) (he : WfE es) (hw : WfX es x) :
    Calls Tryz.prog 78 #[pv, .agg #[fv, dv, ov, sv]] w (NewR es.length (beforeF es x) w) := by
  obtain ⟨A, c, rfl, hc1, hc2⟩ := hr.shape
  obtain ⟨Af, cf, rfl, hcf1, hcf2⟩ := hx.f.shape
  rw [show x.fr.length = es.length from hw.fl] at *
  obtain ⟨w0, hw0⟩ : ∃ w0, w.alloc (.cells #[.slice Af es.length cf, dv, ov, sv] 35) = w0 := ⟨_, rfl⟩
  have b0 : Below w.heap.size w w0 := by rw [← hw0]; exact (Below.refl _ w).alloc (Nat.le_refl _) _
  have X0 : Hid (Blk w0 w.heap.size 35 [.slice Af es.length cf, dv, ov, sv]) := Lib.hid (by rw [← hw0]; exact Blk.new w 35 _)
  have R0 := Lib.hid (hr.below b0)
  have RX := Lib.hid (hx.below b0)
  have hwl : w.heap.size < w0.heap.size := X0.out.lt
  have hn := he.n
  have HE := Lib.hid he
  have HW := Lib.hid hw
  have HW0 := Lib.hid hw0
  have B0 := Lib.hid b0
  have hc4 : ∀ W1, Below w0.heap.size w0 W1 → W1.cell? ⟨w.heap.size, 0, none⟩ = some (.slice Af es.length cf) ∧ W1.cell? ⟨w.heap.size, 1, none⟩ = some dv ∧ W1.cell? ⟨w.heap.size, 2, none⟩ = some ov ∧ W1.cell? ⟨w.heap.size, 3, none⟩ = some sv := fun W1 h1 =>
    ⟨(X0.out.below h1).cell 0 rfl, (X0.out.below h1).cell 1 rfl, (X0.out.below h1).cell 2 rfl, (X0.out.below h1).cell 3 rfl⟩
  have C4 := Lib.hid hc4
  clear hr hx he hw hw0 b0 hc4
  go_enter Tryz.func78, Tryz.ntmps78
  go_upto_region 1 with fail
  rw [HW0.out]
  obtain ⟨k0, k1, k2, k3⟩ := C4.out w0 (Below.refl _ _)
  go_upto_region 2 with (go_at_call 74; refine (steps_any R0.out RX.out HE.out HW.out.si HW.out.sb).mono ?_; rintro e w1 ⟨g, rfl, hg, hgl, hb1⟩)
  have HB1 := Lib.hid hb1
  have HG1 := Lib.hid hg
  have HGL := Lib.hid hgl
  clear hg hb1 k0 k1 k2 k3
  obtain ⟨R00, hR00⟩ : ∃ R00, stepsF es x.fen = R00 := ⟨_, rfl⟩
  rw [hR00] at HG1
  have HR00 := Lib.hid hR00
  clear hR00
  go_wp2
  go_loopw [16] (fun i wr => ∃ k : Nat, k ≤ es.length ∧ i = .int .i64 k ∧ IsR wr g es.length (swTo es x R00 k) ∧ Below w0.heap.size w0 wr) (fun i _ => es.length - (intOf i).toNat)
  case atStart => exact ⟨0, Nat.zero_le _, rfl, HG1.out, HB1.out⟩
  case round =>
    obtain ⟨k, hk, rfl, hr, hb⟩ := hrel
    have HR := Lib.hid hr
    have HB := Lib.hid hb
    have RE := R0.out.below hb
    have XR := RX.out.below hb
    obtain ⟨k0, k1, k2, k3⟩ := C4.out wr hb
    clear hr hb
    by_cases hlt : k < es.length
    · have hlt' : (k : Int) < (es.length : Int) := by omega
      have i1 : (0 : Int) ≤ (k : Int) := by omega
      obtain ⟨b, off, hA, hbb, x0, x1, x2, x3, x4, x5⟩ := RdE.at_ RE hlt
      subst hA
      have hfl : k < x.fr.length := by rw [HW.out.fl]; exact hlt
      have hf := XR.f
      rw [RdI, HW.out.fl] at hf
      obtain ⟨bf, offf, hAf, hbf, hfc⟩ := Rd.one hf hlt
      subst hAf
      have d0 := hfc.trans (ints_at x.fr k hfl)
      obtain ⟨fk, hfk⟩ : ∃ fk, x.fr[k] = fk := ⟨_, rfl⟩
      rw [hfk] at d0
      have hgd : Hid (x.fr.getD k 0 = fk) := Lib.hid (by rw [int_getD hfl, hfk])
      have hsw : Hid (∀ FN, chainF es x es.length fk.toNat 0 = FN → ∀ TN, endsF es k = TN → isRd (ev es (k : Int)) = true → 0 ≤ fk → swTo es x R00 (k + 1) = addTo (swTo es x R00 k) FN TN es.length) := Lib.hid (fun FN h1 TN h2 h3 h4 => by
        rw [swTo, hgd.out, if_pos ⟨h3, h4⟩, h1, h2])
      have hsn : Hid (¬ (isRd (ev es (k : Int)) = true ∧ 0 ≤ fk) → swTo es x R00 (k + 1) = swTo es x R00 k) := Lib.hid (fun h => by rw [swTo, hgd.out, if_neg h])
      obtain ⟨G, hG⟩ : ∃ G, ev es (k : Int) = G := ⟨_, rfl⟩
      rw [hG] at x0 x1 x2 x3 x4 x5 hsw hsn
      clear hf hfc hfk hG RE
      have hsub : ∀ W1, Below wr.heap.size wr W1 → W1.cell? ⟨w.heap.size, 0, none⟩ = some (.slice (some ⟨bf, offf, none⟩) es.length cf) ∧ W1.cell? ⟨bf, offf + k, none⟩ = some (.int .i64 fk) := fun W1 h1 => ⟨(World.cell?_of_block (h1.block w.heap.size (by have := HB.out.size; omega))).trans k0, (World.cell?_of_block (h1.block bf hbf)).trans d0⟩
      have HSB := Lib.hid hsub
      clear hsub
      cases hrd : isRd G with
      | false =>
        have HRD := Lib.hid hrd
        clear hrd
        go_wp2_with (go_at_call 45; refine (reads_any (e := G)).mono ?_; rintro e1 w1 ⟨rfl, hb1⟩; rw [HRD.out])
        go_roundw
        case measure => simp [intOf]; omega
        case rel => exact ⟨k + 1, by omega, by go_num, by rw [hsn.out (fun h => by rw [HRD.out] at h; cases h.1)]; exact HR.out.below hb1, HB.out.trans (hb1.mono HB.out.size)⟩
      | true =>
        have HRD := Lib.hid hrd
        clear hrd
        by_cases hf0 : fk < 0
        · go_wp2_with (go_at_call 45; refine (reads_any (e := G)).mono ?_; rintro e1 w1 ⟨rfl, hb1⟩; rw [HRD.out]; obtain ⟨q1, q2⟩ := HSB.out w1 hb1)
          go_roundw
          case measure => simp [intOf]; omega
          case rel => exact ⟨k + 1, by omega, by go_num, by rw [hsn.out (fun h => by omega)]; exact HR.out.below hb1, HB.out.trans (hb1.mono HB.out.size)⟩
        · obtain ⟨f0, hf0n⟩ : ∃ f0 : Nat, fk = (f0 : Int) := ⟨fk.toNat, by omega⟩
          subst hf0n
          have HSW : Hid (∀ FN, chainF es x es.length f0 0 = FN → ∀ TN, endsF es k = TN → swTo es x R00 (k + 1) = addTo (swTo es x R00 k) FN TN es.length) := Lib.hid (fun FN h1 TN h2 => hsw.out FN (by simpa using h1) TN h2 HRD.out (by omega))
          have hf0l : f0 < es.length := by have := HW.out.fr k hlt; rw [hgd.out] at this; omega
          obtain ⟨R, hR⟩ : ∃ R, swTo es x R00 k = R := ⟨_, rfl⟩
          rw [hR] at HSW HR
          clear hsw hsn hgd hR XR
          go_upto_region 9 with (go_at_call 45; refine (reads_any (e := G)).mono ?_; rintro e1 w1 ⟨rfl, hb1⟩; rw [HRD.out]; obtain ⟨q1, q2⟩ := HSB.out w1 hb1; have HB1b := Lib.hid (HB.out.trans (hb1.mono HB.out.size)); have HR1b := Lib.hid (HR.out.below hb1); clear hb1)
          go_loopw [7, 8, 40] (fun s v j wr => ∃ jn sN wN : Nat, jn ≤ es.length ∧ j = .int .i64 jn ∧ s = .int .u32 (sN : Int) ∧ sN < 4294967296 ∧ v = .int .i64 (wN : Int) ∧ wN < es.length ∧ Hid (chainF es x (es.length - jn) wN sN = chainF es x es.length f0 0) ∧ IsR wr g es.length R ∧ Below w0.heap.size w0 wr) (fun s v j _ => es.length - (intOf j).toNat)
          case atStart => exact ⟨0, 0, f0, Nat.zero_le _, rfl, rfl, by decide, rfl, hf0l, Lib.hid rfl, HR1b.out, HB1b.out⟩
          case round =>
            obtain ⟨jn, sN, wN, hjn, rfl, rfl, hsl, rfl, hwN, hch, hr2, hb2⟩ := hrel
            have HR2 := Lib.hid hr2
            have HB2 := Lib.hid hb2
            clear hr2
            by_cases hjl : jn < es.length
            · have hjl' : (jn : Int) < (es.length : Int) := by omega
              have j1 : (0 : Int) ≤ (wN : Int) := by omega
              have j2 : (wN : Int) < (es.length : Int) := by omega
              have hfw := (RX.out.below hb2).f
              rw [RdI, HW.out.fl] at hfw
              obtain ⟨bf', offf', hAf', hbf', hfc'⟩ := Rd.one hfw hwN
              injection hAf' with hAf'
              injection hAf' with e1 e2
              subst e1 e2
              have hwfl : wN < x.fr.length := by rw [HW.out.fl]; exact hwN
              have d1 := hfc'.trans (ints_at x.fr wN hwfl)
              obtain ⟨fw, hfwe⟩ : ∃ fw, x.fr[wN] = fw := ⟨_, rfl⟩
              rw [hfwe] at d1
              have hgw : x.fr.getD wN 0 = fw := by rw [int_getD hwfl, hfwe]
              have hch2 : Hid (∀ SN, startsF es wN = SN → (if exchF es x wN = true ∧ 0 ≤ fw then chainF es x (es.length - (jn + 1)) fw.toNat (orN sN SN) else orN sN SN) = chainF es x es.length f0 0) := Lib.hid (fun SN hSN => by
                have h := hch.out
                rw [show es.length - jn = (es.length - (jn + 1)) + 1 by omega, chainF, hgw, hSN] at h
                exact h)
              have hsub2 : Hid (∀ W1, Below wr.heap.size wr W1 → W1.cell? ⟨w.heap.size, 0, none⟩ = some (.slice (some ⟨bf, offf, none⟩) es.length cf) ∧ W1.cell? ⟨bf, offf + wN, none⟩ = some (.int .i64 fw)) := Lib.hid (fun W1 h1 => ⟨(C4.out W1 (hb2.trans (h1.mono hb2.size))).1, (World.cell?_of_block (h1.block bf hbf')).trans d1⟩)
              have hfwl : Hid (fw < (es.length : Int)) := Lib.hid (by have := HW.out.fr wN hwN; rw [hgw] at this; exact this)
              obtain ⟨ex, hex⟩ : ∃ ex, exchF es x wN = ex := ⟨_, rfl⟩
              rw [hex] at hch2
              have HEX := Lib.hid hex
              clear hfw hfc' hfwe hgw hex hch hb2
              cases ex with
              | false =>
                go_upto_region 14 with (first | (go_at_call 96; refine (starts_any (R0.out.below HB2.out) HE.out hwN).mono ?_; rintro e2 w2 ⟨rfl, hsl2, hb3⟩; have HB3 := Lib.hid hb3; have hb03 := HB2.out.trans (hb3.mono HB2.out.size); have HB03 := Lib.hid hb03; obtain ⟨k0, k1, k2, k3⟩ := C4.out w2 hb03; clear hb3 hb03) | (go_at_call 97; refine (exchanged_any (R0.out.below HB03.out) (RX.out.below HB03.out).d HW.out.dl hwN).mono ?_; rintro e3 w3 ⟨rfl, hb4⟩; rw [HEX.out]; obtain ⟨q3, q4⟩ := hsub2.out w3 (HB3.out.trans (hb4.mono HB3.out.size)); have HB34 := Lib.hid (HB3.out.trans (hb4.mono HB3.out.size)); clear hb4))
                obtain ⟨FN, hFN⟩ : ∃ FN, orN sN (startsF es wN) = FN := ⟨_, rfl⟩
                have hFNl : FN < 4294967296 := by rw [← hFN]; exact orN_lt hsl hsl2
                have HFN : Hid (chainF es x es.length f0 0 = FN) := Lib.hid (by
                  have h := hch2.out _ rfl
                  rw [if_neg (fun h => by cases h.1), hFN] at h
                  exact h.symm)
                rw [hFN]
                clear hFN
                have HR2 := Lib.hid (HR2.out.below HB34.out)
                have HB2 := Lib.hid (HB2.out.trans (HB34.out.mono HB2.out.size))
                go_upto_region 16 with (go_at_call 98; refine (ends_any (R0.out.below HB2.out) HE.out hlt).mono ?_; rintro e4 w4 ⟨rfl, htl, hb4⟩; have HB4 := Lib.hid (HB2.out.trans (hb4.mono HB2.out.size)); have HR4 := Lib.hid (HR2.out.below hb4); clear hb4)
                obtain ⟨TN, hTN⟩ : ∃ TN, endsF es k = TN := ⟨_, rfl⟩
                rw [hTN] at htl ⊢
                have HTN := Lib.hid hTN
                clear hTN
                go_loopw [71] (fun i wr => ∃ m : Nat, m ≤ es.length ∧ i = .int .i64 m ∧ IsR wr g es.length (addTo R FN TN m) ∧ Below w0.heap.size w0 wr) (fun i _ => es.length - (intOf i).toNat)
                case atStart => exact ⟨0, Nat.zero_le _, rfl, HR4.out, HB4.out⟩
                case round =>
                  obtain ⟨m, hm, rfl, hr5, hb5⟩ := hrel
                  have HR5 := Lib.hid hr5
                  have HB5 := Lib.hid hb5
                  clear hr5 hb5
                  by_cases hlm : m < es.length
                  · have hlm' : (m : Int) < (es.length : Int) := by omega
                    have j1 : (0 : Int) ≤ (m : Int) := by omega
                    have hm32 : m < 32 := by omega
                    have c9 := HR5.out.cell hlm
                    have f9 := HR5.out.blk.free m
                    have x9 := HR5.out.lt m
                    have hgl9 : g < wr.heap.size := HR5.out.blk.lt
                    cases hbit : bitOf FN m with
                    | true =>
                      have hst : Hid (IsR (wr.setCell ⟨g, m, none⟩ (.int .u32 ((orN ((addTo R FN TN m).getD m 0) TN : Nat) : Int))) g es.length (addTo R FN TN (m + 1))) := Lib.hid (by
                        rw [addTo, if_pos hbit]; exact HR5.out.set m _ (orN_lt x9 htl))
                      unfold bitOf at hbit
                      generalize (addTo R FN TN m).getD m 0 = a9 at *
                      go_wp2
                      go_roundw
                      case measure => simp [intOf]; omega
                      case rel => exact ⟨m + 1, by omega, by go_num, hst.out, (HB5.out.setCell (p := ⟨g, m, none⟩) (by have := HGL.out; exact this) _)⟩
                    | false =>
                      have hst : Hid (addTo R FN TN (m + 1) = addTo R FN TN m) := Lib.hid (by rw [addTo, hbit]; rfl)
                      unfold bitOf at hbit
                      go_wp2
                      go_roundw
                      case measure => simp [intOf]; omega
                      case rel => exact ⟨m + 1, by omega, by go_num, by rw [hst.out]; exact HR5.out, HB5.out⟩
                  · have hmn : m = es.length := by omega
                    have HMN := Lib.hid hmn
                    clear hmn
                    go_wp2
                    go_roundw
                    case measure => simp [intOf]; omega
                    case rel => exact ⟨k + 1, by omega, by go_num, by { rw [HSW.out FN HFN.out TN HTN.out]; have h := HR5.out; rw [HMN.out] at h; exact h }, HB5.out⟩
              | true =>
                by_cases hfw0 : fw < 0
                · go_upto_region 14 with (first | (go_at_call 96; refine (starts_any (R0.out.below HB2.out) HE.out hwN).mono ?_; rintro e2 w2 ⟨rfl, hsl2, hb3⟩; have HB3 := Lib.hid hb3; have hb03 := HB2.out.trans (hb3.mono HB2.out.size); have HB03 := Lib.hid hb03; obtain ⟨k0, k1, k2, k3⟩ := C4.out w2 hb03; clear hb3 hb03) | (go_at_call 97; refine (exchanged_any (R0.out.below HB03.out) (RX.out.below HB03.out).d HW.out.dl hwN).mono ?_; rintro e3 w3 ⟨rfl, hb4⟩; rw [HEX.out]; obtain ⟨q3, q4⟩ := hsub2.out w3 (HB3.out.trans (hb4.mono HB3.out.size)); have HB34 := Lib.hid (HB3.out.trans (hb4.mono HB3.out.size)); clear hb4))
                  obtain ⟨FN, hFN⟩ : ∃ FN, orN sN (startsF es wN) = FN := ⟨_, rfl⟩
                  have hFNl : FN < 4294967296 := by rw [← hFN]; exact orN_lt hsl hsl2
                  have HFN : Hid (chainF es x es.length f0 0 = FN) := Lib.hid (by
                    have h := hch2.out _ rfl
                    rw [if_neg (fun h => by omega), hFN] at h
                    exact h.symm)
                  rw [hFN]
                  clear hFN
                  have HR2 := Lib.hid (HR2.out.below HB34.out)
                  have HB2 := Lib.hid (HB2.out.trans (HB34.out.mono HB2.out.size))
                  go_upto_region 16 with (go_at_call 98; refine (ends_any (R0.out.below HB2.out) HE.out hlt).mono ?_; rintro e4 w4 ⟨rfl, htl, hb4⟩; have HB4 := Lib.hid (HB2.out.trans (hb4.mono HB2.out.size)); have HR4 := Lib.hid (HR2.out.below hb4); clear hb4)
                  obtain ⟨TN, hTN⟩ : ∃ TN, endsF es k = TN := ⟨_, rfl⟩
                  rw [hTN] at htl ⊢
                  have HTN := Lib.hid hTN
                  clear hTN
                  go_loopw [71] (fun i wr => ∃ m : Nat, m ≤ es.length ∧ i = .int .i64 m ∧ IsR wr g es.length (addTo R FN TN m) ∧ Below w0.heap.size w0 wr) (fun i _ => es.length - (intOf i).toNat)
                  case atStart => exact ⟨0, Nat.zero_le _, rfl, HR4.out, HB4.out⟩
                  case round =>
                    obtain ⟨m, hm, rfl, hr5, hb5⟩ := hrel
                    have HR5 := Lib.hid hr5
                    have HB5 := Lib.hid hb5
                    clear hr5 hb5
                    by_cases hlm : m < es.length
                    · have hlm' : (m : Int) < (es.length : Int) := by omega
                      have j1 : (0 : Int) ≤ (m : Int) := by omega
                      have hm32 : m < 32 := by omega
                      have c9 := HR5.out.cell hlm
                      have f9 := HR5.out.blk.free m
                      have x9 := HR5.out.lt m
                      have hgl9 : g < wr.heap.size := HR5.out.blk.lt
                      cases hbit : bitOf FN m with
                      | true =>
                        have hst : Hid (IsR (wr.setCell ⟨g, m, none⟩ (.int .u32 ((orN ((addTo R FN TN m).getD m 0) TN : Nat) : Int))) g es.length (addTo R FN TN (m + 1))) := Lib.hid (by
                          rw [addTo, if_pos hbit]; exact HR5.out.set m _ (orN_lt x9 htl))
                        unfold bitOf at hbit
                        generalize (addTo R FN TN m).getD m 0 = a9 at *
                        go_wp2
                        go_roundw
                        case measure => simp [intOf]; omega
                        case rel => exact ⟨m + 1, by omega, by go_num, hst.out, (HB5.out.setCell (p := ⟨g, m, none⟩) (by have := HGL.out; exact this) _)⟩
                      | false =>
                        have hst : Hid (addTo R FN TN (m + 1) = addTo R FN TN m) := Lib.hid (by rw [addTo, hbit]; rfl)
                        unfold bitOf at hbit
                        go_wp2
                        go_roundw
                        case measure => simp [intOf]; omega
                        case rel => exact ⟨m + 1, by omega, by go_num, by rw [hst.out]; exact HR5.out, HB5.out⟩
                    · have hmn : m = es.length := by omega
                      have HMN := Lib.hid hmn
                      clear hmn
                      go_wp2
                      go_roundw
                      case measure => simp [intOf]; omega
                      case rel => exact ⟨k + 1, by omega, by go_num, by { rw [HSW.out FN HFN.out TN HTN.out]; have h := HR5.out; rw [HMN.out] at h; exact h }, HB5.out⟩
                · obtain ⟨fn, hfn⟩ : ∃ fn : Nat, fw = (fn : Int) := ⟨fw.toNat, by omega⟩
                  subst hfn
                  have hch3 : Hid (∀ SN, startsF es wN = SN → chainF es x (es.length - (jn + 1)) fn (orN sN SN) = chainF es x es.length f0 0) := Lib.hid (fun SN hSN => by
                    have h := hch2.out SN hSN
                    rw [if_pos ⟨rfl, by omega⟩] at h
                    simpa using h)
                  have hfnl : fn < es.length := by have := hfwl.out; omega
                  clear hch2
                  go_wp2_with (first | (go_at_call 96; refine (starts_any (R0.out.below HB2.out) HE.out hwN).mono ?_; rintro e2 w2 ⟨rfl, hsl2, hb3⟩; have HB3 := Lib.hid hb3; have hb03 := HB2.out.trans (hb3.mono HB2.out.size); have HB03 := Lib.hid hb03; obtain ⟨k0, k1, k2, k3⟩ := C4.out w2 hb03; clear hb3 hb03) | (go_at_call 97; refine (exchanged_any (R0.out.below HB03.out) (RX.out.below HB03.out).d HW.out.dl hwN).mono ?_; rintro e3 w3 ⟨rfl, hb4⟩; rw [HEX.out]; obtain ⟨q3, q4⟩ := hsub2.out w3 (HB3.out.trans (hb4.mono HB3.out.size)); have HB34 := Lib.hid (HB3.out.trans (hb4.mono HB3.out.size)); clear hb4))
                  go_roundw
                  case measure => simp [intOf]; omega
                  case rel => exact ⟨jn + 1, _, fn, by omega, by go_num, rfl, orN_lt hsl hsl2, rfl, hfnl, Lib.hid (hch3.out _ rfl), HR2.out.below HB34.out, HB2.out.trans (HB34.out.mono HB2.out.size)⟩
            · have hjn2 : es.length - jn = 0 := by omega
              obtain ⟨FN, hFN⟩ : ∃ FN, FN = sN := ⟨_, rfl⟩
              have hFNl : FN < 4294967296 := by rw [hFN]; exact hsl
              have HFN : Hid (chainF es x es.length f0 0 = FN) := Lib.hid (by
                have h := hch.out
                rw [hjn2, chainF] at h
                rw [← h, hFN])
              subst hFN
              clear hjn2 hch
              have HB2 := Lib.hid hb2
              clear hb2
              go_upto_region 14 with fail
              go_upto_region 16 with (go_at_call 98; refine (ends_any (R0.out.below HB2.out) HE.out hlt).mono ?_; rintro e4 w4 ⟨rfl, htl, hb4⟩; have HB4 := Lib.hid (HB2.out.trans (hb4.mono HB2.out.size)); have HR4 := Lib.hid (HR2.out.below hb4); clear hb4)
              obtain ⟨TN, hTN⟩ : ∃ TN, endsF es k = TN := ⟨_, rfl⟩
              rw [hTN] at htl ⊢
              have HTN := Lib.hid hTN
              clear hTN
              go_loopw [71] (fun i wr => ∃ m : Nat, m ≤ es.length ∧ i = .int .i64 m ∧ IsR wr g es.length (addTo R FN TN m) ∧ Below w0.heap.size w0 wr) (fun i _ => es.length - (intOf i).toNat)
              case atStart => exact ⟨0, Nat.zero_le _, rfl, HR4.out, HB4.out⟩
              case round =>
                obtain ⟨m, hm, rfl, hr5, hb5⟩ := hrel
                have HR5 := Lib.hid hr5
                have HB5 := Lib.hid hb5
                clear hr5 hb5
                by_cases hlm : m < es.length
                · have hlm' : (m : Int) < (es.length : Int) := by omega
                  have j1 : (0 : Int) ≤ (m : Int) := by omega
                  have hm32 : m < 32 := by omega
                  have c9 := HR5.out.cell hlm
                  have f9 := HR5.out.blk.free m
                  have x9 := HR5.out.lt m
                  have hgl9 : g < wr.heap.size := HR5.out.blk.lt
                  cases hbit : bitOf FN m with
                  | true =>
                    have hst : Hid (IsR (wr.setCell ⟨g, m, none⟩ (.int .u32 ((orN ((addTo R FN TN m).getD m 0) TN : Nat) : Int))) g es.length (addTo R FN TN (m + 1))) := Lib.hid (by
                      rw [addTo, if_pos hbit]; exact HR5.out.set m _ (orN_lt x9 htl))
                    unfold bitOf at hbit
                    generalize (addTo R FN TN m).getD m 0 = a9 at *
                    go_wp2
                    go_roundw
                    case measure => simp [intOf]; omega
                    case rel => exact ⟨m + 1, by omega, by go_num, hst.out, (HB5.out.setCell (p := ⟨g, m, none⟩) (by have := HGL.out; exact this) _)⟩
                  | false =>
                    have hst : Hid (addTo R FN TN (m + 1) = addTo R FN TN m) := Lib.hid (by rw [addTo, hbit]; rfl)
                    unfold bitOf at hbit
                    go_wp2
                    go_roundw
                    case measure => simp [intOf]; omega
                    case rel => exact ⟨m + 1, by omega, by go_num, by rw [hst.out]; exact HR5.out, HB5.out⟩
                · have hmn : m = es.length := by omega
                  have HMN := Lib.hid hmn
                  clear hmn
                  go_wp2
                  go_roundw
                  case measure => simp [intOf]; omega
                  case rel => exact ⟨k + 1, by omega, by go_num, by { rw [HSW.out FN HFN.out TN HTN.out]; have h := HR5.out; rw [HMN.out] at h; exact h }, HB5.out⟩
    · have hkn : k = es.length := by omega
      have HKN := Lib.hid hkn
      clear hkn
      go_wp2_with (go_at_call 76; refine (close_any HR.out HE.out.n).mono ?_; rintro e9 w9 ⟨rfl, hr9, hk9⟩)
      go_ret
      refine ⟨g, rfl, ?_, by have := HGL.out; have := B0.out.size; omega, B0.out.trans ((HB.out.trans (hk9.below HB.out.size (fun q e => by have := HGL.out; omega))).mono B0.out.size)⟩
      rw [beforeF, HR00.out, ← HKN.out]
      rw [HKN.out] at hr9 ⊢
      exact hr9
end Go.Proofs.YtkddckfgdiemkaaGreat
