/-
  The walk of broken: which condition an execution breaks.
-/
import Derived.Test.YtkddckfgdiemkaaGreatCW11
import Derived.Test.YtkddckfgdiemkaaGreatCW12
set_option linter.unusedVariables false
set_option linter.unusedSimpArgs false
namespace Go.Proofs.YtkddckfgdiemkaaGreat
open Go.RowKit Go.Shelf Mem
set_option maxRecDepth 100000
attribute [local go_sem ↓] shl32 shr32 low32 or32 or32z

def rfTo (x : Ex) (r : List Nat) : Nat → List Nat
  | 0 => r
  | k + 1 => if 0 ≤ x.fr.getD k 0 then putR (rfTo x r k) (x.fr.getD k 0).toNat k else rfTo x r k
def clashR (n : Nat) (hb eco : List Nat) : Bool := (List.range n).any fun a => (List.range n).any fun b => hasR hb a b && hasR eco b a
def looseL (es : List Ev) (x : Ex) : Int → List Int → Bool
  | _, [] => false
  | front, w :: t => (isRd (ev es w) && (x.fr.getD w.toNat 0 != front)) || looseL es x w t
def roundF (es : List Ev) (x : Ex) : List Nat := closeF es.length (rfTo x (stepsF es x.fen) es.length)
def brokenF (es : List Ev) (x : Ex) : Int :=
  if circleR es.length (roundF es x) then 2 else if circleR es.length (beforeF es x) then 3 else if clashR es.length (beforeF es x) (commF es x) then 3
  else if x.ord.any (fun l => looseL es x (-1) l) then 4 else 0
set_option maxHeartbeats 2000000 in
theorem broken_any {w : World} {pv fv dv ov sv : Value} {es : List Ev} {x : Ex} (hr : RdE w pv es) (hx : RdX w fv dv ov sv x) (he : WfE es) (hw : WfX es x) :
    Calls Tryz.prog 42 #[pv, .agg #[fv, dv, ov, sv]] w (TellsI w (brokenF es x)) := by
  obtain ⟨A, c, rfl, hc1, hc2⟩ := hr.shape
  obtain ⟨Af, cf, rfl, hcf1, hcf2⟩ := hx.f.shape
  obtain ⟨Ao, co, rfl, hco1, hco2⟩ := hx.o.shape
  rw [show x.fr.length = es.length from hw.fl] at *
  rw [show x.ord.length = 3 from hw.ol] at *
  obtain ⟨w0, hw0⟩ : ∃ w0, w.alloc (.cells #[.slice Af es.length cf, dv, .slice Ao 3 co, sv] 35) = w0 := ⟨_, rfl⟩
  have b0 : Below w.heap.size w w0 := by rw [← hw0]; exact (Below.refl _ w).alloc (Nat.le_refl _) _
  have X0 : Hid (Blk w0 w.heap.size 35 [.slice Af es.length cf, dv, .slice Ao 3 co, sv]) := Lib.hid (by rw [← hw0]; exact Blk.new w 35 _)
  have R0 := Lib.hid (hr.below b0)
  have RX := Lib.hid (hx.below b0)
  have hwl : w.heap.size < w0.heap.size := X0.out.lt
  have hn := he.n
  have HE := Lib.hid he
  have HW := Lib.hid hw
  have HW0 := Lib.hid hw0
  have B0 := Lib.hid b0
  have hc4 : ∀ W1, Below w0.heap.size w0 W1 → W1.cell? ⟨w.heap.size, 0, none⟩ = some (.slice Af es.length cf) ∧ W1.cell? ⟨w.heap.size, 1, none⟩ = some dv ∧ W1.cell? ⟨w.heap.size, 2, none⟩ = some (.slice Ao 3 co) ∧ W1.cell? ⟨w.heap.size, 3, none⟩ = some sv := fun W1 h1 =>
    ⟨(X0.out.below h1).cell 0 rfl, (X0.out.below h1).cell 1 rfl, (X0.out.below h1).cell 2 rfl, (X0.out.below h1).cell 3 rfl⟩
  have C4 := Lib.hid hc4
  have hol : ∀ k, k < 3 → ∃ b off A1 c1, Ao = some ⟨b, off, none⟩ ∧ (x.ord.getD k []).length ≤ c1 ∧ c1 ≤ 9223372036854775807 ∧ ∀ W1, Below w0.heap.size w0 W1 → W1.cell? ⟨b, off + k, none⟩ = some (.slice A1 (x.ord.getD k []).length c1) ∧ RdI W1 (.slice A1 (x.ord.getD k []).length c1) (x.ord.getD k []) := fun k hk => by
    have ho := RX.out.o
    rw [RdLL, ← HW.out.ol] at ho
    obtain ⟨us, r1, r2, r3, r4⟩ := ho
    have hk3 : k < x.ord.length := by rw [HW.out.ol]; exact hk
    obtain ⟨b, off, hA, hb, hc⟩ := r1.one hk3
    have hu : us[k]? = some (us[k]'(by omega)) := List.getElem?_eq_getElem _
    obtain ⟨hr, _⟩ := r4 k _ hu
    obtain ⟨A1, c1, he, k1, k2⟩ := hr.shape
    rw [he] at hr
    exact ⟨b, off, A1, c1, hA, k1, k2, fun W1 h1 => ⟨(World.cell?_of_block (h1.block b hb)).trans (by rw [hc, hu, he]), Rd.below hr h1⟩⟩
  have HOL := Lib.hid hol
  have hom : ∀ k, k < 3 → (∀ y ∈ x.ord.getD k [], In es y) ∧ (x.ord.getD k []).length < 100000 := fun k hk => by
    have hm : x.ord.getD k [] ∈ x.ord := by
      rw [List.getD, List.getElem?_eq_getElem (by rw [HW.out.ol]; exact hk)]; exact List.getElem_mem _
    exact ⟨HW.out.oi _ hm, HW.out.ob _ hm⟩
  have HOM := Lib.hid hom
  have hbf : ∀ W1, Below w0.heap.size w0 W1 → Calls Tryz.prog 78 #[.slice A es.length c, .agg #[.slice Af es.length cf, dv, .slice Ao 3 co, sv]] W1 (NewR es.length (beforeF es x) W1) := fun W1 h1 => before_any (R0.out.below h1) (RX.out.below h1) HE.out HW.out
  have hcm : ∀ W1, Below w0.heap.size w0 W1 → Calls Tryz.prog 79 #[.slice A es.length c, .agg #[.slice Af es.length cf, dv, .slice Ao 3 co, sv]] W1 (NewR es.length (commF es x) W1) := fun W1 h1 => comm_any (R0.out.below h1) (RX.out.below h1) HE.out HW.out
  have HBF := Lib.hid hbf
  have HCM := Lib.hid hcm
  clear hr hx he hw hw0 b0 hc4 hol hom hbf hcm
  go_enter Tryz.func42, Tryz.ntmps42
  go_upto_region 1 with fail
  rw [HW0.out]
  obtain ⟨k0, k1, k2, k3⟩ := C4.out w0 (Below.refl _ _)
  go_upto_region 2 with (go_at_call 74; refine (steps_any R0.out RX.out HE.out HW.out.si HW.out.sb).mono ?_; rintro e w1 ⟨g, rfl, hg, hgl, hb1⟩)
  have HB1 := Lib.hid hb1
  have HG1 := Lib.hid hg
  have HGL := Lib.hid hgl
  clear hg k0 k1 k2 k3
  obtain ⟨k0, k1, k2, k3⟩ := C4.out w1 hb1
  clear hb1
  obtain ⟨R00, hR00⟩ : ∃ R00, stepsF es x.fen = R00 := ⟨_, rfl⟩
  rw [hR00] at HG1
  have HR00 := Lib.hid hR00
  clear hR00
  go_wp2
  go_loopw [23] (fun i wr => ∃ k : Nat, k ≤ es.length ∧ i = .int .i64 k ∧ IsR wr g es.length (rfTo x R00 k) ∧ Below w0.heap.size w0 wr) (fun i _ => es.length - (intOf i).toNat)
  case atStart => exact ⟨0, Nat.zero_le _, rfl, HG1.out, HB1.out⟩
  case round =>
    obtain ⟨k, hk, rfl, hr, hb⟩ := hrel
    have HR := Lib.hid hr
    have HB := Lib.hid hb
    obtain ⟨R1, hR1⟩ : ∃ R1, rfTo x R00 k = R1 := ⟨_, rfl⟩
    rw [hR1] at HR
    by_cases hlt : k < es.length
    · have hlt' : (k : Int) < (es.length : Int) := by omega
      have i1 : (0 : Int) ≤ (k : Int) := by omega
      have hfl : k < x.fr.length := by rw [HW.out.fl]; exact hlt
      have hf := (RX.out.below hb).f
      rw [RdI, HW.out.fl] at hf
      obtain ⟨bf, offf, hAf, hbf, hfc⟩ := Rd.one hf hlt
      subst hAf
      have d0 := hfc.trans (ints_at x.fr k hfl)
      obtain ⟨fk, hfk⟩ : ∃ fk, x.fr[k] = fk := ⟨_, rfl⟩
      rw [hfk] at d0
      have hgd : x.fr.getD k 0 = fk := by rw [int_getD hfl, hfk]
      have hfkl : fk < (es.length : Int) := by have := HW.out.fr k hlt; rwa [hgd] at this
      have hst : Hid (rfTo x R00 (k + 1) = if 0 ≤ fk then putR R1 fk.toNat k else R1) := Lib.hid (by rw [rfTo, hR1, hgd])
      clear hr hb hR1 hf hfc hfk hgd
      by_cases hf0 : 0 ≤ fk
      · obtain ⟨fn, hfn⟩ : ∃ fn : Nat, fk = (fn : Int) := ⟨fk.toNat, by omega⟩
        have hfnl : fn < es.length := by omega
        have hst2 : Hid (rfTo x R00 (k + 1) = putR R1 fn k) := Lib.hid (by rw [hst.out, if_pos hf0, hfn]; rfl)
        have HFN := Lib.hid hfn
        clear hst hfn
        go_wp2_with (go_at_call 75; refine (put_int (a := fn) (b := k) HR.out HFN.out rfl hfnl (by omega)).mono ?_; rintro e8 w8 ⟨rfl, hr8, hk8⟩; have HR4 := Lib.hid hr8; have HB4 := Lib.hid (HB.out.trans (hk8.below HB.out.size (fun q e => by have := HGL.out; omega))); clear hr8 hk8)
        go_roundw
        case measure => simp [intOf]; all_goals omega
        case rel => exact ⟨k + 1, by omega, by go_num, by rw [hst2.out]; exact HR4.out, HB4.out⟩
      · have hst2 : Hid (rfTo x R00 (k + 1) = R1) := Lib.hid (by rw [hst.out, if_neg hf0])
        clear hst
        go_wp2
        go_roundw
        case measure => simp [intOf]; all_goals omega
        case rel => exact ⟨k + 1, by omega, by go_num, by rw [hst2.out]; exact HR.out, HB.out⟩
    · have hkn : k = es.length := by omega
      have HRF : Hid (roundF es x = closeF es.length R1) := Lib.hid (by rw [roundF, HR00.out, ← hR1, hkn])
      clear hkn hr hb hR1
      obtain ⟨cr, hcr⟩ : ∃ cr, circleR es.length (roundF es x) = cr := ⟨_, rfl⟩
      have HCR := Lib.hid hcr
      rw [HRF.out] at hcr
      have HCR2 := Lib.hid hcr
      clear hcr
      cases cr with
      | true =>
        go_wp2_with (first | (go_at_call 76; refine (close_any HR.out HE.out.n).mono ?_; rintro e9 w9 ⟨rfl, hr9, hk9⟩) | (go_at_call 77; refine (circle_any hr9 HE.out.n).mono ?_; rintro e10 w10 ⟨rfl, rfl⟩; rw [HCR2.out]))
        go_ret
        exact ⟨by rw [brokenF, HCR.out]; rfl, B0.out.trans ((HB.out.trans (hk9.below HB.out.size (fun q e => by have := HGL.out; omega))).mono B0.out.size)⟩
      | false =>
        go_upto_region 10 with (first | (go_at_call 76; refine (close_any HR.out HE.out.n).mono ?_; rintro e9 w9 ⟨rfl, hr9, hk9⟩) | (go_at_call 77; refine (circle_any hr9 HE.out.n).mono ?_; rintro e10 w10 ⟨rfl, rfl⟩; rw [HCR2.out]))
        have HB9 := Lib.hid (HB.out.trans (hk9.below HB.out.size (fun q e => by have := HGL.out; omega)))
        clear hr9 hk9
        have hd9 : Below w0.heap.size w0 w9.drew := HB9.out.drew
        go_region_held3? (fun w' => w'.cell? ⟨w.heap.size, 0, none⟩ = some (.slice Af es.length cf) ∧ w'.cell? ⟨w.heap.size, 1, none⟩ = some dv ∧ w'.cell? ⟨w.heap.size, 2, none⟩ = some (.slice Ao 3 co) ∧ w'.cell? ⟨w.heap.size, 3, none⟩ = some sv)
          (first | exact C4.out _ hd9 | exact C4.out _ hbB | exact C4.out _ hbC)
          (first
            | (go_at_call 78; refine (HBF.out _ hd9).mono ?_; rintro e11 w11 ⟨gb, rfl, hgb, hgbl, hb11⟩; have hbB : Below w0.heap.size w0 w11 := hd9.trans (hb11.mono hd9.size); dsimp only)
            | (go_at_call 78; refine (HBF.out _ hbC).mono ?_; rintro e11 w11 ⟨gb, rfl, hgb, hgbl, hb11⟩; have hbB : Below w0.heap.size w0 w11 := hbC.trans (hb11.mono hbC.size); have hgc := hgc.below hb11; dsimp only)
            | (go_at_call 79; refine (HCM.out _ hd9).mono ?_; rintro e12 w12 ⟨gc, rfl, hgc, hgcl, hb12⟩; have hbC : Below w0.heap.size w0 w12 := hd9.trans (hb12.mono hd9.size); dsimp only)
            | (go_at_call 79; refine (HCM.out _ hbB).mono ?_; rintro e12 w12 ⟨gc, rfl, hgc, hgcl, hb12⟩; have hbC : Below w0.heap.size w0 w12 := hbB.trans (hb12.mono hbB.size); have hgb := hgb.below hb12; dsimp only))
        have HGB := Lib.hid hgb
        have HGC := Lib.hid hgc
        have HBC := Lib.hid hbC
        obtain ⟨RB, hRB⟩ : ∃ RB, beforeF es x = RB := ⟨_, rfl⟩
        obtain ⟨RC, hRC⟩ : ∃ RC, commF es x = RC := ⟨_, rfl⟩
        rw [hRB] at HGB
        rw [hRC] at HGC
        have HRB := Lib.hid hRB
        have HRC := Lib.hid hRC
        obtain ⟨k0', k1', k2', k3'⟩ := C4.out w12 hbC
        clear hd9 hb11 hb12 hgb hgc hbB hbC hRB hRC
        obtain ⟨cb, hcb⟩ : ∃ cb, circleR es.length RB = cb := ⟨_, rfl⟩
        have HCB := Lib.hid hcb
        clear hcb
        have hbr : Hid (brokenF es x = if cb then 3 else if clashR es.length RB RC then 3 else if x.ord.any (fun l => looseL es x (-1) l) then 4 else 0) := Lib.hid (by
          rw [brokenF, HCR.out, HRB.out, HRC.out, HCB.out]; rfl)
        cases cb with
        | true =>
          go_wp2_with (go_at_call 77; refine (circle_any HGB.out HE.out.n).mono ?_; rintro e13 w13 ⟨rfl, rfl⟩; rw [HCB.out])
          go_ret
          exact ⟨by rw [hbr.out]; rfl, B0.out.trans (HBC.out.mono B0.out.size)⟩
        | false =>
          go_wp2_with (go_at_call 77; refine (circle_any HGB.out HE.out.n).mono ?_; rintro e13 w13 ⟨rfl, rfl⟩; rw [HCB.out])
          go_loop [48] (fun i => ∃ a : Nat, a ≤ es.length ∧ i = .int .i64 a ∧ Hid (∀ j, j < a → (List.range es.length).any (fun b => hasR RB j b && hasR RC b j) = false)) (fun i => es.length - (intOf i).toNat)
          case atStart => exact ⟨0, Nat.zero_le _, rfl, Lib.hid (fun j hj => absurd hj (by omega))⟩
          case round =>
            obtain ⟨a, ha, rfl, hia⟩ := hrel
            by_cases hla : a < es.length
            · have hla' : (a : Int) < (es.length : Int) := by omega
              have a1 : (0 : Int) ≤ (a : Int) := by omega
              go_wp2
              go_loop [53] (fun i => ∃ b : Nat, b ≤ es.length ∧ i = .int .i64 b ∧ Hid (∀ j, j < b → (hasR RB a j && hasR RC j a) = false)) (fun i => es.length - (intOf i).toNat)
              case atStart => exact ⟨0, Nat.zero_le _, rfl, Lib.hid (fun j hj => absurd hj (by omega))⟩
              case round =>
                obtain ⟨b, hb, rfl, hib⟩ := hrel
                by_cases hlb : b < es.length
                · have hlb' : (b : Int) < (es.length : Int) := by omega
                  have b1 : (0 : Int) ≤ (b : Int) := by omega
                  obtain ⟨h1, hh1⟩ : ∃ h1, hasR RB a b = h1 := ⟨_, rfl⟩
                  obtain ⟨h2, hh2⟩ : ∃ h2, hasR RC b a = h2 := ⟨_, rfl⟩
                  have HH1 := Lib.hid hh1
                  have HH2 := Lib.hid hh2
                  clear hh1 hh2
                  cases h1 with
                  | true =>
                    have hcall1 := Lib.hid (has_any HGB.out hla (show b < 32 by omega))
                    have hcall2 := Lib.hid (has_any HGC.out hlb (show a < 32 by omega))
                    cases h2 with
                    | true =>
                      have hcl : Hid (clashR es.length RB RC = true) := Lib.hid (by
                        unfold clashR
                        exact any_range_true (p := fun a => (List.range es.length).any fun b => hasR RB a b && hasR RC b a) hla (any_range_true (p := fun b => hasR RB a b && hasR RC b a) hlb (by simp only [HH1.out, HH2.out, Bool.and_self])))
                      go_wp2_with (first | (go_at_call 80; with_reducible refine hcall1.out.mono ?_; rintro e14 w14 ⟨rfl, rfl⟩; rw [HH1.out]) | (go_at_call 80; with_reducible refine hcall2.out.mono ?_; rintro e15 w15 ⟨rfl, rfl⟩; rw [HH2.out]))
                      go_ret
                      exact ⟨by rw [hbr.out, hcl.out]; rfl, B0.out.trans (HBC.out.mono B0.out.size)⟩
                    | false =>
                      go_wp2_with (first | (go_at_call 80; with_reducible refine hcall1.out.mono ?_; rintro e14 w14 ⟨rfl, rfl⟩; rw [HH1.out]) | (go_at_call 80; with_reducible refine hcall2.out.mono ?_; rintro e15 w15 ⟨rfl, rfl⟩; rw [HH2.out]))
                      go_round
                      case measure => simp [intOf]; all_goals omega
                      case rel =>
                        refine ⟨b + 1, by omega, by go_num, Lib.hid (fun j hj => ?_)⟩
                        by_cases hjb : j = b
                        · rw [hjb, HH2.out, Bool.and_false]
                        · exact hib.out j (by omega)
                  | false =>
                    go_wp2_with (go_at_call 80; refine (has_any HGB.out hla (by omega)).mono ?_; rintro e14 w14 ⟨rfl, rfl⟩; rw [HH1.out])
                    go_round
                    case measure => simp [intOf]; all_goals omega
                    case rel =>
                      refine ⟨b + 1, by omega, by go_num, Lib.hid (fun j hj => ?_)⟩
                      by_cases hjb : j = b
                      · rw [hjb, HH1.out, Bool.false_and]
                      · exact hib.out j (by omega)
                · have hbn : Hid (b = es.length) := Lib.hid (by omega)
                  go_wp2
                  go_round
                  case measure => simp [intOf]; all_goals omega
                  case rel =>
                    refine ⟨a + 1, by omega, by go_num, Lib.hid (fun j hj => ?_)⟩
                    by_cases hja : j = a
                    · rw [hja]; exact any_range_false (p := fun b => hasR RB a b && hasR RC b a) (by have h := hib.out; rw [hbn.out] at h; exact h)
                    · exact hia.out j (by omega)
            · have hcl : Hid (clashR es.length RB RC = false) := Lib.hid (by
                have han : a = es.length := by omega
                unfold clashR
                exact any_range_false (p := fun a => (List.range es.length).any fun b => hasR RB a b && hasR RC b a) (by have h := hia.out; rw [han] at h; exact h))
              clear hia
              go_wp2
              go_loopw [71] (fun i wr => ∃ m : Nat, m ≤ 3 ∧ i = .int .i64 m ∧ Hid (∀ j, j < m → looseL es x (-1) (x.ord.getD j []) = false) ∧ Below w0.heap.size w0 wr) (fun i _ => 3 - (intOf i).toNat)
              case atStart => exact ⟨0, Nat.zero_le _, rfl, Lib.hid (fun j hj => absurd hj (by omega)), HBC.out⟩
              case round =>
                obtain ⟨m, hm, rfl, him, hbm⟩ := hrel
                have HBM := Lib.hid hbm
                by_cases hlm : m < 3
                · have hlm' : (m : Int) < 3 := by omega
                  have m1 : (0 : Int) ≤ (m : Int) := by omega
                  obtain ⟨b3, off3, A1, c1, hA3, hc11, hc12, hro⟩ := HOL.out m hlm
                  obtain ⟨hlms, hll⟩ := HOM.out m hlm
                  have o1 := (hro wr hbm).1
                  have hml3 : m < x.ord.length := by rw [HW.out.ol]; exact hlm
                  have hmo : Hid (x.ord.getD m [] ∈ x.ord) := Lib.hid (by rw [List.getD, List.getElem?_eq_getElem hml3]; exact List.getElem_mem _)
                  have hlo : Hid (∀ l, x.ord.getD m [] = l → looseL es x (-1) l = false → ∀ j, j < m + 1 → looseL es x (-1) (x.ord.getD j []) = false) := Lib.hid (fun l hl h j hj => by
                    by_cases hjm : j = m
                    · rw [hjm, hl]; exact h
                    · exact him.out j (by omega))
                  obtain ⟨l, hl⟩ : ∃ l, x.ord.getD m [] = l := ⟨_, rfl⟩
                  have HLO := Lib.hid (hlo.out l hl)
                  rw [hl] at o1 hc11 hro hlms hll hmo
                  have HLM := Lib.hid hlms
                  have HRO := Lib.hid hro
                  subst hA3
                  clear hbm hro hlms hlo hl him
                  go_wp2
                  go_loopw [14, 77] (fun fr i wr => ∃ q : Nat, ∃ f : Int, q ≤ l.length ∧ i = .int .i64 q ∧ fr = .int .i64 f ∧ Hid (looseL es x (-1) l = looseL es x f (l.drop q)) ∧ Below w0.heap.size w0 wr) (fun _ i _ => l.length - (intOf i).toNat)
                  case atStart => exact ⟨0, -1, Nat.zero_le _, rfl, rfl, Lib.hid rfl, HBM.out⟩
                  case round =>
                    obtain ⟨q, f, hq, rfl, rfl, hloo, hbq⟩ := hrel
                    have HBQ := Lib.hid hbq
                    by_cases hlq : q < l.length
                    · have hlq' : (q : Int) < (l.length : Int) := by omega
                      have q1 : (0 : Int) ≤ (q : Int) := by omega
                      obtain ⟨b5, off5, hA5, hbb5, hcell5⟩ := Rd.one (HRO.out wr hbq).2 hlq
                      have d5 := hcell5.trans (ints_at l q hlq)
                      obtain ⟨p, hp, hpn⟩ := (HLM.out _ (List.getElem_mem hlq)).nat
                      rw [hp] at d5
                      have p1 : (0 : Int) ≤ (p : Int) := by omega
                      have p2 : (p : Int) < (es.length : Int) := by omega
                      have hpf : p < x.fr.length := by rw [HW.out.fl]; exact hpn
                      have hf := (RX.out.below hbq).f
                      rw [RdI, HW.out.fl] at hf
                      obtain ⟨bf, offf, hAf, hbf, hfc⟩ := Rd.one hf hpn
                      have d6 := hfc.trans (ints_at x.fr p hpf)
                      obtain ⟨fp, hfp⟩ : ∃ fp, x.fr[p] = fp := ⟨_, rfl⟩
                      rw [hfp] at d6
                      obtain ⟨b6, off6, hA6, hbb6, x0, x1, x2, x3, x4, x5⟩ := RdE.at_ (R0.out.below hbq) hpn
                      have hsub : Hid (∀ W1, Below wr.heap.size wr W1 → W1.cell? ⟨w.heap.size, 0, none⟩ = some (.slice (some ⟨bf, offf, none⟩) es.length cf) ∧ W1.cell? ⟨bf, offf + p, none⟩ = some (.int .i64 fp)) := Lib.hid (fun W1 h1 =>
                        ⟨by rw [← hAf]; exact (C4.out W1 (hbq.trans (h1.mono hbq.size))).1, (World.cell?_of_block (h1.block bf hbf)).trans d6⟩)
                      have hst : Hid (∀ G, ev es (p : Int) = G → looseL es x (-1) l = ((isRd G && (fp != f)) || looseL es x (p : Int) (l.drop (q + 1)))) := Lib.hid (fun G hG => by
                        rw [hloo.out, List.drop_eq_getElem_cons hlq, looseL, hp, hG, Int.toNat_natCast, int_getD hpf, hfp])
                      subst hA5 hAf hA6
                      obtain ⟨G, hG⟩ : ∃ G, ev es (p : Int) = G := ⟨_, rfl⟩
                      have hst2 := Lib.hid (hst.out G hG)
                      rw [hG] at x0 x1 x2 x3 x4 x5
                      clear hbq hcell5 hp hf hfc hfp hG hst hloo
                      cases hrd : isRd G with
                      | false =>
                        have HRD := Lib.hid hrd
                        have hst3 : Hid (looseL es x (-1) l = looseL es x (p : Int) (l.drop (q + 1))) := Lib.hid (by rw [hst2.out, hrd]; rfl)
                        clear hrd hst2
                        go_wp2_with (go_at_call 45; refine (reads_any (e := G)).mono ?_; rintro e16 w16 ⟨rfl, hb16⟩; rw [HRD.out])
                        go_roundw
                        case measure => simp [intOf]; all_goals omega
                        case rel => exact ⟨q + 1, p, by omega, by go_num, rfl, hst3, HBQ.out.trans (hb16.mono HBQ.out.size)⟩
                      | true =>
                        have HRD := Lib.hid hrd
                        by_cases hff : fp = f
                        · have hst3 : Hid (looseL es x (-1) l = looseL es x (p : Int) (l.drop (q + 1))) := Lib.hid (by rw [hst2.out, hrd, hff]; simp)
                          have hbne : (fp != f) = false := by rw [hff]; simp
                          clear hrd hst2 hff
                          go_wp2_with (go_at_call 45; refine (reads_any (e := G)).mono ?_; rintro e16 w16 ⟨rfl, hb16⟩; rw [HRD.out]; obtain ⟨q3, q4⟩ := hsub.out w16 hb16)
                          go_roundw
                          case measure => simp [intOf]; all_goals omega
                          case rel => exact ⟨q + 1, p, by omega, by go_num, rfl, hst3, HBQ.out.trans (hb16.mono HBQ.out.size)⟩
                        · have hbne : (fp != f) = true := bne_iff_ne.2 hff
                          have hst3 : Hid (x.ord.any (fun l => looseL es x (-1) l) = true) := Lib.hid (List.any_eq_true.2 ⟨l, hmo.out, by rw [hst2.out, hrd, hbne]; rfl⟩)
                          clear hrd hst2 hff
                          go_wp2_with (go_at_call 45; refine (reads_any (e := G)).mono ?_; rintro e16 w16 ⟨rfl, hb16⟩; rw [HRD.out]; obtain ⟨q3, q4⟩ := hsub.out w16 hb16)
                          go_ret
                          exact ⟨by rw [hbr.out, hcl.out, hst3.out]; rfl, B0.out.trans ((HBQ.out.trans (hb16.mono HBQ.out.size)).mono B0.out.size)⟩
                    · have hqn : Hid (looseL es x (-1) l = false) := Lib.hid (by
                        rw [hloo.out, List.drop_eq_nil_of_le (by omega)]; rfl)
                      clear hbq
                      go_wp2
                      go_roundw
                      case measure => simp [intOf]; all_goals omega
                      case rel => exact ⟨m + 1, by omega, by go_num, Lib.hid (HLO.out hqn.out), HBQ.out⟩
                · have hfin : Hid (x.ord.any (fun l => looseL es x (-1) l) = false) := Lib.hid (by
                    rw [List.any_eq_false]
                    intro l hl
                    obtain ⟨j, hj, rfl⟩ := List.mem_iff_getElem.1 hl
                    have := him.out j (by have := HW.out.ol; omega)
                    rw [List.getD, List.getElem?_eq_getElem hj] at this
                    simp only [Option.getD_some] at this
                    rw [this]; decide)
                  clear hbm him
                  go_wp2
                  go_ret
                  exact ⟨by rw [hbr.out, hcl.out, hfin.out]; rfl, B0.out.trans (HBM.out.mono B0.out.size)⟩
end Go.Proofs.YtkddckfgdiemkaaGreat
