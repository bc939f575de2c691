/-
  The walk of Small of the law's package.
-/
import Derived.Test.YtkddckfgdiemkaaGreatCW27
set_option linter.unusedVariables false
set_option linter.unusedSimpArgs false
namespace Go.Proofs.YtkddckfgdiemkaaGreat
open Go.RowKit Go.Shelf Mem
set_option maxRecDepth 100000
attribute [local go_sem] Oper.semAt_some

def SmallT (w : World) (ps : List (List Ev)) (e : Ending) (w' : World) : Prop := ∃ b, e = .returned (.bool b) ∧ (b = true → Valid ps) ∧ Below w.heap.size w w'
set_option maxHeartbeats 4000000 in
theorem small_any {w : World} {tv : Value} {ps : List (List Ev)} {most : Int} (hr : RdP w tv ps) (hs : SizeOk ps) :
    Calls Tryz.prog 4 #[.agg #[tv], .int .i64 most] w (SmallT w ps) := by
  obtain ⟨A, c, rfl, hc1, hc2⟩ := hr.shape
  obtain ⟨w0, hw0⟩ : ∃ w0, w.alloc (.cells #[.slice A ps.length c] 24) = w0 := ⟨_, rfl⟩
  have b0 : Below w.heap.size w w0 := by rw [← hw0]; exact (Below.refl _ w).alloc (Nat.le_refl _) _
  have X24 := Lib.hid (show Blk w0 w.heap.size 24 [.slice A ps.length c] by rw [← hw0]; exact Blk.new w 24 [.slice A ps.length c])
  have R0 := Lib.hid (hr.below b0)
  have k0 := X24.out.cell 0 rfl
  have HL := Lib.hid (large_any (hr.below b0) hs)
  have HW0 := Lib.hid hw0
  have B0 := Lib.hid b0
  have C24 := Lib.hid (fun W (h : Below w0.heap.size w0 W) => ((X24.out.below h).cell 0 rfl : W.cell? ⟨w.heap.size, 0, none⟩ = some (.slice A ps.length c)))
  clear hr hw0 b0 hs
  by_cases ht : ps.length + sizeP ps ps.length < 60
  · have HT := Lib.hid ht
    clear ht
    go_enter Tryz.func4, Tryz.ntmps4
    go_upto_region 1 with fail
    rw [HW0.out]
    go_upto_if 16 with (first | (go_at_call 11; refine HL.out.mono ?_; rintro e1 w1 ⟨b1, rfl, h1, h2, hb1⟩; obtain rfl : b1 = false := (by cases b1; rfl; exact absurd HT.out (h2 rfl)); have k1 := C24.out w1 hb1) | (go_at_call 12; refine (check3_any (R0.out.below hb1) HT.out).mono ?_; rintro e2 w2 ⟨cc, rfl, hcc, hb2⟩))
    have HB2 := Lib.hid (hb1.trans (hb2.mono hb1.size))
    have HCC := Lib.hid hcc
    clear h1 h2 hcc hb1 hb2 k1
    by_cases hc0 : cc = 0
    · have hcb : (cc != 0) = false := by rw [hc0]; rfl
      have HV := Lib.hid (HCC.out hc0)
      clear hc0
      have k2 := C24.out w2 HB2.out
      go_wp2
      go_loopw [5, 6, 7] (fun a f t wr => ∃ (k : Nat) (a' f' : Int), k ≤ ps.length ∧ t = .int .i64 k ∧ a = .int .i64 a' ∧ f = .int .i64 f' ∧ Below w0.heap.size w0 wr) (fun _ _ t _ => ps.length - (intOf t).toNat)
      case atStart => exact ⟨0, 0, 0, Nat.zero_le _, rfl, rfl, rfl, HB2.out⟩
      case round =>
        obtain ⟨k, a', f', hk, rfl, rfl, rfl, hbel⟩ := hrel
        have k3 := C24.out wr hbel
        by_cases hlt : k < ps.length
        · have hlt' : (k : Int) < (ps.length : Int) := by omega
          have i1 : (0 : Int) ≤ (k : Int) := by omega
          have hAt : Hid (∀ W, Below w0.heap.size w0 W → ∃ b off A1 c1, A = some ⟨b, off, none⟩ ∧ W.cell? ⟨b, off + k, none⟩ = some (.slice A1 (ps.getD k []).length c1) ∧ Rd W (.slice A1 (ps.getD k []).length c1) (ps.getD k []).length 5 (ops (ps.getD k [])) ∧ (ps.getD k []).length ≤ c1 ∧ c1 ≤ 9223372036854775807) := Lib.hid (fun W hW => by
            obtain ⟨b, off, A1, c1, hA, _, h3, h4, h5, h6⟩ := RdP.at_ (R0.out.below hW) rfl hlt
            exact ⟨b, off, A1, c1, hA, h3, h4, h5, h6⟩)
          obtain ⟨L, hL⟩ : ∃ L, ps.getD k [] = L := ⟨_, rfl⟩
          rw [hL] at hAt
          obtain ⟨b, off, A1, c1, rfl, hc0, _, hc3, hc4⟩ := hAt.out wr hbel
          have HBL := Lib.hid hbel
          clear hL hbel
          go_wp2
          clear k3 hc0
          go_loopw [5, 6, 8] (fun a f j wx => ∃ (i : Nat) (a' f' : Int), i ≤ L.length ∧ j = .int .i64 i ∧ a = .int .i64 a' ∧ f = .int .i64 f' ∧ Below w0.heap.size w0 wx) (fun _ _ j _ => L.length - (intOf j).toNat)
          case atStart => exact ⟨0, _, _, Nat.zero_le _, rfl, rfl, rfl, HBL.out⟩
          case round =>
            obtain ⟨i, a1, f1, hi, rfl, rfl, rfl, hbel⟩ := hrel
            have k3 := C24.out wr hbel
            obtain ⟨b', off', A2, c2, hA, hc0, hro, _, _⟩ := hAt.out wr hbel
            injection hA with hA
            injection hA with hA1 hA2
            subst hA1 hA2
            by_cases hlti : i < L.length
            · have hlti' : (i : Int) < (L.length : Int) := by omega
              have i2 : (0 : Int) ≤ (i : Int) := by omega
              obtain ⟨bo, oo, rfl, hbo, x0, x1, x2, x3, x4⟩ := RdO.at_ hro rfl hlti
              obtain ⟨G, hG⟩ : ∃ G, ev L (i : Int) = G := ⟨_, rfl⟩
              rw [hG] at x0 x1 x2 x3 x4
              have HBI := Lib.hid (hbel.alloc hbel.size (.cells #[.int .i64 G.kind, .int .i64 G.loc, .int .i64 G.v, .int .i64 G.w, .int .i64 G.ord] 47))
              clear hG hro hbel
              by_cases hk5 : G.kind = 5
              · have hk5b : (G.kind == 5) = true := beq_iff_eq.2 hk5
                clear hk5
                go_wp2
                go_roundw
                case measure => simp [intOf]; all_goals omega
                case rel => exact ⟨i + 1, _, _, by omega, by go_num, rfl, rfl, HBI.out⟩
              · have hk5b : (G.kind == 5) = false := beq_eq_false_iff_ne.2 hk5
                clear hk5
                by_cases ho : G.ord = 4
                · have hob : (G.ord == 4) = true := beq_iff_eq.2 ho
                  clear ho
                  go_wp2
                  go_roundw
                  case measure => simp [intOf]; all_goals omega
                  case rel => exact ⟨i + 1, _, _, by omega, by go_num, rfl, rfl, HBI.out⟩
                · have hob : (G.ord == 4) = false := beq_eq_false_iff_ne.2 ho
                  clear ho
                  go_wp2
                  go_roundw
                  case measure => simp [intOf]; all_goals omega
                  case rel => exact ⟨i + 1, _, _, by omega, by go_num, rfl, rfl, HBI.out⟩
            · have HBI := Lib.hid hbel
              clear hro hbel
              go_wp2
              go_roundw
              case measure => simp [intOf]; all_goals omega
              case rel => exact ⟨k + 1, _, _, by omega, by go_num, rfl, rfl, HBI.out⟩
        · have hin : k = ps.length := by omega
          subst hin
          have HBL := Lib.hid hbel
          clear hbel
          by_cases ha : a' ≤ most
          · by_cases hf : f' ≤ 4
            · go_wp2
              go_ret
              exact ⟨_, rfl, fun _ => HV.out, B0.out.trans (HBL.out.mono B0.out.size)⟩
            · go_wp2
              go_ret
              exact ⟨_, rfl, fun _ => HV.out, B0.out.trans (HBL.out.mono B0.out.size)⟩
          · go_wp2
            go_ret
            exact ⟨_, rfl, fun _ => HV.out, B0.out.trans (HBL.out.mono B0.out.size)⟩
    · have hcb : (cc != 0) = true := bne_iff_ne.2 hc0
      clear hc0
      go_wp2
      go_ret
      exact ⟨false, rfl, fun h => (by cases h), B0.out.trans (HB2.out.mono B0.out.size)⟩
  · have HT := Lib.hid ht
    clear ht
    go_enter Tryz.func4, Tryz.ntmps4
    go_upto_region 1 with fail
    rw [HW0.out]
    go_wp2_with (go_at_call 11; refine HL.out.mono ?_; rintro e1 w1 ⟨b1, rfl, h1, h2, hb1⟩; obtain rfl : b1 = true := (by cases b1; exact absurd (h1 rfl) HT.out; rfl))
    go_ret
    exact ⟨false, rfl, fun h => (by cases h), B0.out.trans (hb1.mono B0.out.size)⟩
end Go.Proofs.YtkddckfgdiemkaaGreat
