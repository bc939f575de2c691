/-
  The walks of possible, outcome, copy.
-/
import Derived.Test.YtkddckfgdiemkaaGreatCW13
import Derived.Test.YtkddckfgdiemkaaGreatCW14
set_option linter.unusedVariables false
set_option linter.unusedSimpArgs false
namespace Go.Proofs.YtkddckfgdiemkaaGreat
open Go.RowKit Go.Shelf Mem
set_option maxRecDepth 100000

def badP (es : List Ev) (x : Ex) (i : Nat) : Bool :=
  ((ev es (i : Int)).kind == 3 && (x.dn.getD i false != ((wordsF es x).rd.getD i 0 == (ev es (i : Int)).v))) || ((ev es (i : Int)).kind == 4 && x.dn.getD i false && ((wordsF es x).rd.getD i 0 != (ev es (i : Int)).v))
def possibleF (es : List Ev) (x : Ex) : Bool := !(List.range es.length).any (fun i => badP es x i) && (brokenF es x == 0)
set_option maxHeartbeats 4000000 in
theorem possible_any {w : World} {pv fv dv ov sv : Value} {es : List Ev} {x : Ex} (hr : RdE w pv es) (hx : RdX w fv dv ov sv x) (he : WfE es) (hw : WfX es x) (hwr : WfR es x) :
    Calls Tryz.prog 40 #[pv, .agg #[fv, dv, ov, sv]] w (Tells w (possibleF es x)) := by
  obtain ⟨A, c, rfl, hc1, hc2⟩ := hr.shape
  obtain ⟨Ad, cd, rfl, hcd1, hcd2⟩ := hx.d.shape
  rw [show x.dn.length = es.length from hw.dl] at *
  obtain ⟨w0, hw0⟩ : ∃ w0, w.alloc (.cells #[fv, .slice Ad es.length cd, ov, sv] 35) = w0 := ⟨_, rfl⟩
  have b0 : Below w.heap.size w w0 := by rw [← hw0]; exact (Below.refl _ w).alloc (Nat.le_refl _) _
  have X0 : Hid (Blk w0 w.heap.size 35 [fv, .slice Ad es.length cd, ov, sv]) := Lib.hid (by rw [← hw0]; exact Blk.new w 35 _)
  have R0 := Lib.hid (hr.below b0)
  have RX := Lib.hid (hx.below b0)
  have hwl : w.heap.size < w0.heap.size := X0.out.lt
  have hn := he.n
  have HE := Lib.hid he
  have HW := Lib.hid hw
  have HWR := Lib.hid hwr
  have HW0 := Lib.hid hw0
  have B0 := Lib.hid b0
  have hc4 : ∀ W1, Below w0.heap.size w0 W1 → W1.cell? ⟨w.heap.size, 0, none⟩ = some fv ∧ W1.cell? ⟨w.heap.size, 1, none⟩ = some (.slice Ad es.length cd) ∧ W1.cell? ⟨w.heap.size, 2, none⟩ = some ov ∧ W1.cell? ⟨w.heap.size, 3, none⟩ = some sv := fun W1 h1 =>
    ⟨(X0.out.below h1).cell 0 rfl, (X0.out.below h1).cell 1 rfl, (X0.out.below h1).cell 2 rfl, (X0.out.below h1).cell 3 rfl⟩
  have C4 := Lib.hid hc4
  have hd0 : ∀ i, i < es.length → ∃ b off, Ad = some ⟨b, off, none⟩ ∧ ∀ W1, Below w0.heap.size w0 W1 → W1.cell? ⟨b, off + i, none⟩ = some (.bool (x.dn.getD i false)) := fun i hi => by
    have hd := (RX.out).d
    rw [RdB, HW.out.dl] at hd
    obtain ⟨b, off, hA, hb, hc⟩ := Rd.one hd hi
    have hdl : i < x.dn.length := by rw [HW.out.dl]; exact hi
    exact ⟨b, off, hA, fun W1 h1 => (World.cell?_of_block (h1.block b hb)).trans (hc.trans (by rw [bool_getD hdl]; exact bools_at _ _ _))⟩
  have HD0 := Lib.hid hd0
  clear hr hx he hw hwr hw0 b0 hc4 hd0
  go_enter Tryz.func40, Tryz.ntmps40
  go_upto_region 1 with fail
  rw [HW0.out]
  obtain ⟨k0, k1, k2, k3⟩ := C4.out w0 (Below.refl _ _)
  go_wp2_with (go_at_call 44; refine (words_any R0.out RX.out.f HE.out.n HWR.out).mono ?_; rintro e w1 ⟨g1, g2, g3, rfl, h1, h2, h3, h4, hb1⟩)
  obtain ⟨rs, hrs⟩ : ∃ rs, (wordsF es x).rd = rs := ⟨_, rfl⟩
  rw [hrs] at h1
  have hrl : rs.length = es.length := by rw [← hrs]; exact h4.rd
  have HRS := Lib.hid hrs
  have HRL := Lib.hid hrl
  have H1 := Lib.hid h1
  have HB1 := Lib.hid hb1
  clear h1 h2 h3 h4 hb1 hrs hrl k0 k1 k2 k3
  go_loopw [19] (fun i wr => ∃ k : Nat, k ≤ es.length ∧ i = .int .i64 k ∧ Hid (∀ j, j < k → badP es x j = false) ∧ Blk wr g1 3 (ints rs) ∧ Below w0.heap.size w0 wr) (fun i _ => es.length - (intOf i).toNat)
  case atStart => exact ⟨0, Nat.zero_le _, rfl, Lib.hid (fun j hj => absurd hj (by omega)), H1.out, HB1.out⟩
  case round =>
    obtain ⟨i, hi, rfl, hall, hrd, hb⟩ := hrel
    by_cases hlt : i < es.length
    · have hlt' : (i : Int) < (es.length : Int) := by omega
      have i1 : (0 : Int) ≤ (i : Int) := by omega
      obtain ⟨b, off, hA, hbb, x0, x1, x2, x3, x4, x5⟩ := RdE.at_ (R0.out.below hb) hlt
      obtain ⟨bd, offd, hAd, hdc⟩ := HD0.out i hlt
      have hbad0 : badP es x i = (((ev es (i : Int)).kind == 3 && (x.dn.getD i false != (rs.getD i 0 == (ev es (i : Int)).v))) || ((ev es (i : Int)).kind == 4 && x.dn.getD i false && (rs.getD i 0 != (ev es (i : Int)).v))) := by rw [badP, HRS.out]
      have hnext : Hid (badP es x i = false → ∀ j, j < i + 1 → badP es x j = false) := Lib.hid (fun h j hj => by
        by_cases hji : j = i
        · rw [hji]; exact h
        · exact hall.out j (by omega))
      obtain ⟨G, hG⟩ : ∃ G, ev es (i : Int) = G := ⟨_, rfl⟩
      rw [hG] at x0 x1 x2 x3 x4 x5 hbad0
      obtain ⟨dd, hdd⟩ : ∃ dd, x.dn.getD i false = dd := ⟨_, rfl⟩
      rw [hdd] at hdc hbad0
      obtain ⟨rr, hrr⟩ : ∃ rr, rs.getD i 0 = rr := ⟨_, rfl⟩
      have hil : i < rs.length := by rw [HRL.out]; exact hlt
      have r0 := hrd.cell i (ints_at rs i hil)
      rw [← int_getD hil, hrr] at r0
      rw [hrr] at hbad0
      have HBD := Lib.hid hbad0
      obtain ⟨wa, hwa⟩ : ∃ wa, wr.alloc (.cells #[.int .i64 G.kind, .int .i64 G.loc, .int .i64 G.v, .int .i64 G.w, .int .i64 G.ord, .int .i64 G.th] 89) = wa := ⟨_, rfl⟩
      have ba : Below wr.heap.size wr wa := by rw [← hwa]; exact (Below.refl _ wr).alloc (Nat.le_refl _) _
      have HEv := (show Blk wa wr.heap.size 89 [.int .i64 G.kind, .int .i64 G.loc, .int .i64 G.v, .int .i64 G.w, .int .i64 G.ord, .int .i64 G.th] by rw [← hwa]; exact Blk.new wr 89 _)
      have e0 := HEv.cell 0 rfl
      have e2 := HEv.cell 2 rfl
      have HRD := Lib.hid hrd
      have HBA := Lib.hid ba
      have HB1 := Lib.hid (hb.trans (ba.mono hb.size))
      obtain ⟨k0, k1, k2, k3⟩ := C4.out wa HB1.out
      have d0 := hdc wa HB1.out
      have r1 := (World.cell?_of_block (ba.block g1 hrd.lt)).trans r0
      subst hA hAd
      clear hbad0 hG hdd hrr hdc hall hrd hb ba HEv r0
      by_cases hk3 : G.kind = 3
      · have hb3 : (G.kind == 3) = true := beq_iff_eq.2 hk3
        have hb4 : (G.kind == 4) = false := beq_eq_false_iff_ne.2 (by omega)
        by_cases hv : rr = G.v
        · have hvb : (rr == G.v) = true := beq_iff_eq.2 hv
          cases dd with
          | true =>
            have hbad : Hid (badP es x i = false) := Lib.hid (by rw [HBD.out, hb3, hb4, hvb]; rfl)
            clear hk3 hv
            go_upto_region 5 with fail
            go_quiet (fail)
            go_wp2
            go_roundw
            case measure => simp [intOf]; all_goals omega
            case rel => exact ⟨i + 1, by omega, by go_num, Lib.hid (hnext.out hbad.out), HRD.out.below (HBA.out.drewN _), HB1.out.drewN _⟩
          | false =>
            have hbad : Hid (badP es x i = true) := Lib.hid (by rw [HBD.out, hb3, hb4, hvb]; rfl)
            clear hk3 hv
            go_upto_region 5 with fail
            go_quiet (fail)
            go_wp2
            go_ret
            exact ⟨by { rw [possibleF, any_range_true (p := fun i => badP es x i) hlt hbad.out]; rfl }, B0.out.trans ((HB1.out.drewN _).mono B0.out.size)⟩
        · have hvb : (rr == G.v) = false := beq_eq_false_iff_ne.2 hv
          cases dd with
          | true =>
            have hbad : Hid (badP es x i = true) := Lib.hid (by rw [HBD.out, hb3, hb4, hvb]; rfl)
            clear hk3 hv
            go_upto_region 5 with fail
            go_quiet (fail)
            go_wp2
            go_ret
            exact ⟨by { rw [possibleF, any_range_true (p := fun i => badP es x i) hlt hbad.out]; rfl }, B0.out.trans ((HB1.out.drewN _).mono B0.out.size)⟩
          | false =>
            have hbad : Hid (badP es x i = false) := Lib.hid (by rw [HBD.out, hb3, hb4, hvb]; rfl)
            clear hk3 hv
            go_upto_region 5 with fail
            go_quiet (fail)
            go_wp2
            go_roundw
            case measure => simp [intOf]; all_goals omega
            case rel => exact ⟨i + 1, by omega, by go_num, Lib.hid (hnext.out hbad.out), HRD.out.below (HBA.out.drewN _), HB1.out.drewN _⟩
      · have hb3 : (G.kind == 3) = false := beq_eq_false_iff_ne.2 hk3
        by_cases hk4 : G.kind = 4
        · have hb4 : (G.kind == 4) = true := beq_iff_eq.2 hk4
          cases dd with
          | false =>
            have hbad : Hid (badP es x i = false) := Lib.hid (by rw [HBD.out, hb3, hb4]; rfl)
            clear hk3 hk4
            go_upto_region 5 with fail
            go_quiet (fail)
            go_wp2
            go_roundw
            case measure => simp [intOf]; all_goals omega
            case rel => exact ⟨i + 1, by omega, by go_num, Lib.hid (hnext.out hbad.out), HRD.out.below (HBA.out.drewN _), HB1.out.drewN _⟩
          | true =>
            by_cases hv : rr = G.v
            · have hvb : (rr != G.v) = false := by rw [hv]; simp
              have hbad : Hid (badP es x i = false) := Lib.hid (by rw [HBD.out, hb3, hb4, hvb]; rfl)
              clear hk3 hk4 hv
              go_upto_region 5 with fail
              go_quiet (fail)
              go_wp2
              go_roundw
              case measure => simp [intOf]; all_goals omega
              case rel => exact ⟨i + 1, by omega, by go_num, Lib.hid (hnext.out hbad.out), HRD.out.below (HBA.out.drewN _), HB1.out.drewN _⟩
            · have hvb : (rr != G.v) = true := bne_iff_ne.2 hv
              have hbad : Hid (badP es x i = true) := Lib.hid (by rw [HBD.out, hb3, hb4, hvb]; rfl)
              clear hk3 hk4 hv
              go_upto_region 5 with fail
              go_quiet (fail)
              go_wp2
              go_ret
              exact ⟨by { rw [possibleF, any_range_true (p := fun i => badP es x i) hlt hbad.out]; rfl }, B0.out.trans ((HB1.out.drewN _).mono B0.out.size)⟩
        · have hb4 : (G.kind == 4) = false := beq_eq_false_iff_ne.2 hk4
          have hbad : Hid (badP es x i = false) := Lib.hid (by rw [HBD.out, hb3, hb4]; rfl)
          clear hk3 hk4
          go_upto_region 5 with fail
          go_quiet (fail)
          go_wp2
          go_roundw
          case measure => simp [intOf]; all_goals omega
          case rel => exact ⟨i + 1, by omega, by go_num, Lib.hid (hnext.out hbad.out), HRD.out.below (HBA.out.drewN _), HB1.out.drewN _⟩
    · have hin : i = es.length := by omega
      have hno : Hid ((List.range es.length).any (fun i => badP es x i) = false) := Lib.hid (any_range_false (p := fun i => badP es x i) (by have h := hall.out; rw [hin] at h; exact h))
      have HB1 := Lib.hid hb
      obtain ⟨k0, k1, k2, k3⟩ := C4.out wr hb
      obtain ⟨br, hbr⟩ : ∃ br, brokenF es x = br := ⟨_, rfl⟩
      have hbre : Hid (possibleF es x = (br == 0)) := Lib.hid (by rw [possibleF, hno.out, hbr]; rfl)
      have HBR := Lib.hid hbr
      clear hin hall hrd hb hbr
      go_wp2_with (go_at_call 42; refine (broken_any (R0.out.below HB1.out) (RX.out.below HB1.out) HE.out HW.out).mono ?_; rintro e6 w6 ⟨rfl, hb6⟩; rw [HBR.out])
      go_ret
      exact ⟨by rw [hbre.out]; rfl, B0.out.trans ((HB1.out.trans (hb6.mono HB1.out.size)).mono B0.out.size)⟩

/-! outcome -/
def outTo (es : List Ev) (rs : List Int) : Nat → List Int
  | 0 => []
  | k + 1 => if isRd (ev es (k : Int)) then outTo es rs k ++ [rs.getD k 0] else outTo es rs k
theorem outTo_le (es : List Ev) (rs : List Int) : ∀ k, (outTo es rs k).length ≤ k
  | 0 => Nat.le_refl _
  | k + 1 => by
    have := outTo_le es rs k
    rw [outTo]; split
    · simp; exact this
    · omega
def lastW (ws l : List Int) : Int := if l.length = 0 then 0 else ws.getD (l.getD (l.length - 1) 0).toNat 0
def lastTo (ws : List Int) (ord : List (List Int)) (base : List Int) : Nat → List Int
  | 0 => base
  | k + 1 => lastTo ws ord base k ++ [lastW ws (ord.getD k [])]
theorem lastTo_len (ws : List Int) (ord : List (List Int)) (base : List Int) : ∀ k, (lastTo ws ord base k).length = base.length + k
  | 0 => rfl
  | k + 1 => by rw [lastTo]; simp [lastTo_len ws ord base k]; omega
def outcomeF (es : List Ev) (x : Ex) : List Int := lastTo (wordsF es x).wr x.ord (outTo es (wordsF es x).rd es.length) 3
set_option maxHeartbeats 2000000 in
theorem outcome_any {w : World} {pv fv dv ov sv : Value} {es : List Ev} {x : Ex} (hr : RdE w pv es) (hx : RdX w fv dv ov sv x) (hn : es.length ≤ 31) (hw : WfX es x) (hwr : WfR es x) :
    Calls Tryz.prog 24 #[pv, .agg #[fv, dv, ov, sv]] w (Made (outcomeF es x) w) := by
  obtain ⟨A, c, rfl, hc1, hc2⟩ := hr.shape
  obtain ⟨Ao, co, rfl, hco1, hco2⟩ := hx.o.shape
  rw [show x.ord.length = 3 from hw.ol] at *
  obtain ⟨w0, hw0⟩ : ∃ w0, w.alloc (.cells #[fv, dv, .slice Ao 3 co, sv] 35) = w0 := ⟨_, rfl⟩
  have b0 : Below w.heap.size w w0 := by rw [← hw0]; exact (Below.refl _ w).alloc (Nat.le_refl _) _
  have X0 : Hid (Blk w0 w.heap.size 35 [fv, dv, .slice Ao 3 co, sv]) := Lib.hid (by rw [← hw0]; exact Blk.new w 35 _)
  have R0 := Lib.hid (hr.below b0)
  have RX := Lib.hid (hx.below b0)
  have hwl : w.heap.size < w0.heap.size := X0.out.lt
  have HW := Lib.hid hw
  have HWR := Lib.hid hwr
  have HW0 := Lib.hid hw0
  have B0 := Lib.hid b0
  have hc4 : ∀ W1, Below w0.heap.size w0 W1 → W1.cell? ⟨w.heap.size, 0, none⟩ = some fv ∧ W1.cell? ⟨w.heap.size, 1, none⟩ = some dv ∧ W1.cell? ⟨w.heap.size, 2, none⟩ = some (.slice Ao 3 co) ∧ W1.cell? ⟨w.heap.size, 3, none⟩ = some sv := fun W1 h1 =>
    ⟨(X0.out.below h1).cell 0 rfl, (X0.out.below h1).cell 1 rfl, (X0.out.below h1).cell 2 rfl, (X0.out.below h1).cell 3 rfl⟩
  have C4 := Lib.hid hc4
  have hol : ∀ k, k < 3 → ∃ b off A1 c1, Ao = some ⟨b, off, none⟩ ∧ (x.ord.getD k []).length ≤ c1 ∧ c1 ≤ 9223372036854775807 ∧ ∀ W1, Below w0.heap.size w0 W1 → W1.cell? ⟨b, off + k, none⟩ = some (.slice A1 (x.ord.getD k []).length c1) ∧ RdI W1 (.slice A1 (x.ord.getD k []).length c1) (x.ord.getD k []) := fun k hk => by
    have ho := RX.out.o
    rw [RdLL, ← HW.out.ol] at ho
    obtain ⟨us, r1, r2, r3, r4⟩ := ho
    have hk3 : k < x.ord.length := by rw [HW.out.ol]; exact hk
    obtain ⟨b, off, hA, hb, hc⟩ := r1.one hk3
    have hu : us[k]? = some (us[k]'(by omega)) := List.getElem?_eq_getElem _
    obtain ⟨hr, _⟩ := r4 k _ hu
    obtain ⟨A1, c1, he, k1, k2⟩ := hr.shape
    rw [he] at hr
    exact ⟨b, off, A1, c1, hA, k1, k2, fun W1 h1 => ⟨(World.cell?_of_block (h1.block b hb)).trans (by rw [hc, hu, he]), Rd.below hr h1⟩⟩
  have HOL := Lib.hid hol
  have hom : ∀ k, k < 3 → (∀ y ∈ x.ord.getD k [], In es y) ∧ (x.ord.getD k []).length < 100000 := fun k hk => by
    have hm : x.ord.getD k [] ∈ x.ord := by
      rw [List.getD, List.getElem?_eq_getElem (by rw [HW.out.ol]; exact hk)]; exact List.getElem_mem _
    exact ⟨HW.out.oi _ hm, HW.out.ob _ hm⟩
  have HOM := Lib.hid hom
  clear hr hx hw hwr hw0 b0 hc4 hol hom
  go_enter Tryz.func24, Tryz.ntmps24
  go_upto_region 1 with fail
  rw [HW0.out]
  obtain ⟨k0, k1, k2, k3⟩ := C4.out w0 (Below.refl _ _)
  go_wp2_with (go_at_call 44; refine (words_any R0.out RX.out.f hn HWR.out).mono ?_; rintro e w1 ⟨g1, g2, g3, rfl, h1, h2, h3, h4, hb1⟩)
  obtain ⟨rs, hrs⟩ : ∃ rs, (wordsF es x).rd = rs := ⟨_, rfl⟩
  obtain ⟨ws, hws⟩ : ∃ ws, (wordsF es x).wr = ws := ⟨_, rfl⟩
  rw [hrs] at h1
  rw [hws] at h2
  have HRL := Lib.hid (show rs.length = es.length by rw [← hrs]; exact h4.rd)
  have HWL := Lib.hid (show ws.length = es.length by rw [← hws]; exact h4.wr)
  have HRS := Lib.hid hrs
  have HWS := Lib.hid hws
  have H1 := Lib.hid h1
  have H2 := Lib.hid h2
  have HB1 := Lib.hid hb1
  clear h1 h2 h3 h4 hb1 hrs hws k0 k1 k2 k3
  go_loopw [8, 23] (fun v i wr => ∃ k : Nat, k ≤ es.length ∧ i = .int .i64 k ∧ Own wr w1.heap.size v (outTo es rs k) ∧ Below w1.heap.size w1 wr) (fun _ i _ => es.length - (intOf i).toNat)
  case atStart => exact ⟨0, Nat.zero_le _, rfl, Own.nil _ _, Below.refl _ _⟩
  case round =>
    obtain ⟨k, hk, rfl, hown, hbel⟩ := hrel
    have HO := Lib.hid hown
    have HB := Lib.hid hbel
    have HL := Lib.hid (outTo_le es rs k)
    obtain ⟨Av, cv, rfl, hcv1, hcv2⟩ := (Row.rd hown).shape
    by_cases hlt : k < es.length
    · have hlt' : (k : Int) < (es.length : Int) := by omega
      have i1 : (0 : Int) ≤ (k : Int) := by omega
      have hb0 := HB1.out.trans (hbel.mono HB1.out.size)
      obtain ⟨b, off, hA, hbb, x0, x1, x2, x3, x4, x5⟩ := RdE.at_ (R0.out.below hb0) hlt
      have hrl : k < rs.length := by rw [HRL.out]; exact hlt
      have hrc : Hid (∀ W1, Below w1.heap.size w1 W1 → W1.cell? ⟨g1, k, none⟩ = some (.int .i64 (rs.getD k 0))) := Lib.hid (fun W1 h1 => by
        rw [int_getD hrl]; exact (H1.out.below h1).cell k (ints_at rs k hrl))
      have hst : Hid (outTo es rs (k + 1) = if isRd (ev es (k : Int)) then outTo es rs k ++ [rs.getD k 0] else outTo es rs k) := Lib.hid (by rw [outTo])
      obtain ⟨G, hG⟩ : ∃ G, ev es (k : Int) = G := ⟨_, rfl⟩
      rw [hG] at x0 x1 x2 x3 x4 x5 hst
      obtain ⟨rr, hrr⟩ : ∃ rr, rs.getD k 0 = rr := ⟨_, rfl⟩
      rw [hrr] at hrc hst
      obtain ⟨wa, hwa⟩ : ∃ wa, wr.alloc (.cells #[.int .i64 G.kind, .int .i64 G.loc, .int .i64 G.v, .int .i64 G.w, .int .i64 G.ord, .int .i64 G.th] 89) = wa := ⟨_, rfl⟩
      have ba : Below wr.heap.size wr wa := by rw [← hwa]; exact (Below.refl _ wr).alloc (Nat.le_refl _) _
      have HEv := (show Blk wa wr.heap.size 89 [.int .i64 G.kind, .int .i64 G.loc, .int .i64 G.v, .int .i64 G.w, .int .i64 G.ord, .int .i64 G.th] by rw [← hwa]; exact Blk.new wr 89 _)
      have e0 := HEv.cell 0 rfl
      have e1 := HEv.cell 1 rfl
      have e2 := HEv.cell 2 rfl
      have e3 := HEv.cell 3 rfl
      have e4 := HEv.cell 4 rfl
      have e5 := HEv.cell 5 rfl
      have HBA := Lib.hid (hbel.trans (ba.mono hbel.size))
      have HOA := Lib.hid (Row.below hown ba)
      subst hA
      clear hG hrr hown hbel hb0 ba HEv
      cases hrd : isRd G with
      | true =>
        have HRD := Lib.hid hrd
        have hst2 : Hid (outTo es rs (k + 1) = outTo es rs k ++ [rr]) := Lib.hid (by rw [hst.out, hrd]; rfl)
        clear hrd hst
        go_wp2_with (first | (go_at_call 45; refine (reads_any (e := G)).mono ?_; rintro e w6 ⟨rfl, hb6⟩; rw [HRD.out]; have hown1 := Lib.hid (Row.below HOA.out hb6); have hbel1 := Lib.hid (HBA.out.trans (hb6.mono HBA.out.size)); have hrc1 := hrc.out w6 hbel1.out) | (at_builtin; refine wpList_append_int rfl (.tmp 30) (.tmp 35) rfl w1.heap.size _ _ _ _ rfl hown1.out rfl rfl hbel1.out.size (by have := HL.out; omega) ?_))
        intro v2 w2 hown2 hk2 _
        have hb2 : Below w1.heap.size w1 w2 := hbel1.out.trans (hk2.below hbel1.out.size (fun k hk => (Row.at_lt hown1.out hk).1))
        have HO2 := Lib.hid hown2
        have HB2 := Lib.hid hb2
        clear hown2 hb2 hk2
        go_wp2
        go_roundw
        case measure => simp [intOf]; all_goals omega
        case rel => exact ⟨k + 1, by omega, by go_num, by rw [hst2.out]; exact HO2.out, HB2.out⟩
      | false =>
        have HRD := Lib.hid hrd
        have hst2 : Hid (outTo es rs (k + 1) = outTo es rs k) := Lib.hid (by rw [hst.out, hrd]; rfl)
        clear hrd hst
        go_wp2_with (go_at_call 45; refine (reads_any (e := G)).mono ?_; rintro e w6 ⟨rfl, hb6⟩; rw [HRD.out]; have hown1 := Lib.hid (Row.below HOA.out hb6); have hbel1 := Lib.hid (HBA.out.trans (hb6.mono HBA.out.size)))
        go_roundw
        case measure => simp [intOf]; all_goals omega
        case rel => exact ⟨k + 1, by omega, by go_num, by rw [hst2.out]; exact hown1.out, hbel1.out⟩
    · have hkn : k = es.length := by omega
      have HKN := Lib.hid hkn
      obtain ⟨ob, hob⟩ : ∃ ob, outTo es rs k = ob := ⟨_, rfl⟩
      rw [hob] at HO hcv1
      have HOB : Hid (outTo es rs es.length = ob) := Lib.hid (by rw [← hkn]; exact hob)
      have HL2 : Hid (ob.length ≤ es.length) := Lib.hid (by rw [← hob]; have := HL.out; omega)
      obtain ⟨k0, k1, k2, k3⟩ := C4.out wr (HB1.out.trans (hbel.mono HB1.out.size))
      rw [hob]
      clear hkn hob hown hbel
      go_wp2
      go_loopw [8, 41] (fun v i wr => ∃ m : Nat, m ≤ 3 ∧ i = .int .i64 m ∧ Own wr w1.heap.size v (lastTo ws x.ord ob m) ∧ Below w1.heap.size w1 wr) (fun _ i _ => 3 - (intOf i).toNat)
      case atStart => exact ⟨0, Nat.zero_le _, rfl, HO.out, HB.out⟩
      case round =>
        obtain ⟨m, hm, rfl, hown, hbel⟩ := hrel
        have HO := Lib.hid hown
        have HB := Lib.hid hbel
        have HL3 := Lib.hid (lastTo_len ws x.ord ob m)
        obtain ⟨Av3, cv3, rfl, hcv13, hcv23⟩ := (Row.rd hown).shape
        by_cases hml : m < 3
        · have hml' : (m : Int) < 3 := by omega
          have m1 : (0 : Int) ≤ (m : Int) := by omega
          have hb0 := HB1.out.trans (hbel.mono HB1.out.size)
          obtain ⟨b3, off3, A1, c1, hA3, hc11, hc12, hro⟩ := HOL.out m hml
          obtain ⟨hlm, hll⟩ := HOM.out m hml
          obtain ⟨o1, hrl⟩ := hro wr hb0
          have hst : Hid (lastTo ws x.ord ob (m + 1) = lastTo ws x.ord ob m ++ [lastW ws (x.ord.getD m [])]) := Lib.hid (by rw [lastTo])
          obtain ⟨l, hl⟩ : ∃ l, x.ord.getD m [] = l := ⟨_, rfl⟩
          rw [hl] at o1 hc11 hrl hlm hst hll
          subst hA3
          by_cases hl0 : l.length = 0
          · have hst2 : Hid (lastTo ws x.ord ob (m + 1) = lastTo ws x.ord ob m ++ [0]) := Lib.hid (by rw [hst.out, lastW, if_pos hl0])
            rw [hl0] at o1
            clear hst hro hrl hl hlm hown hbel hb0
            go_wp2_with (at_builtin; refine wpList_append_int rfl (.tmp 57) (.tmp 59) rfl w1.heap.size _ _ _ _ rfl HO.out rfl rfl HB.out.size (by have := HL3.out; have := HL2.out; omega) ?_)
            intro v2 w2 hown2 hk2 _
            have hb2 : Below w1.heap.size w1 w2 := HB.out.trans (hk2.below HB.out.size (fun k hk => (Row.at_lt HO.out hk).1))
            have HO2 := Lib.hid hown2
            have HB2 := Lib.hid hb2
            clear hown2 hb2 hk2
            go_wp2
            go_roundw
            case measure => simp [intOf]; all_goals omega
            case rel => exact ⟨m + 1, by omega, by go_num, by rw [hst2.out]; exact HO2.out, HB2.out⟩
          · obtain ⟨b5, off5, hA5, hbb5, hcell5⟩ := Rd.one hrl (show l.length - 1 < l.length by omega)
            have d5 := hcell5.trans (ints_at l (l.length - 1) (by omega))
            obtain ⟨p, hp, hpn⟩ := (hlm _ (List.getElem_mem (show l.length - 1 < l.length by omega))).nat
            rw [hp] at d5
            have hwsl : p < ws.length := by rw [HWL.out]; exact hpn
            have d6 := (H2.out.below hbel).cell p (ints_at ws p hwsl)
            obtain ⟨lw, hlw⟩ : ∃ lw, ws[p] = lw := ⟨_, rfl⟩
            rw [hlw] at d6
            have hst2 : Hid (lastTo ws x.ord ob (m + 1) = lastTo ws x.ord ob m ++ [lw]) := Lib.hid (by
              rw [hst.out, lastW, if_neg hl0, int_getD (show l.length - 1 < l.length by omega), hp, Int.toNat_natCast, int_getD hwsl, hlw])
            have p1 : (0 : Int) ≤ (p : Int) := by omega
            have p2 : (p : Int) < (es.length : Int) := by omega
            obtain ⟨ln, hln⟩ : ∃ ln, l.length = ln + 1 := ⟨l.length - 1, by omega⟩
            rw [show l.length - 1 = ln by omega] at d5
            rw [hln] at o1
            have q1 : IntKind.i64.wrap (((ln + 1 : Nat) : Int) - 1) = (ln : Int) := by rw [IntKind.wrap_i64]; omega
            have q2 : (0 : Int) ≤ (ln : Int) := by omega
            have q3 : (ln : Int) < ((ln + 1 : Nat) : Int) := by omega
            have q4 : (0 : Int) < ((ln + 1 : Nat) : Int) := by omega
            have q5 : ln ≤ 1000000 := by omega
            subst hA5
            clear hst hro hrl hl hlm hown hbel hb0 hcell5 hp hlw hln hl0
            go_wp2_with (at_builtin; refine wpList_append_int rfl (.tmp 57) (.tmp 59) rfl w1.heap.size _ _ _ _ rfl HO.out rfl rfl HB.out.size (by have := HL3.out; have := HL2.out; omega) ?_)
            intro v2 w2 hown2 hk2 _
            have hb2 : Below w1.heap.size w1 w2 := HB.out.trans (hk2.below HB.out.size (fun k hk => (Row.at_lt HO.out hk).1))
            have HO2 := Lib.hid hown2
            have HB2 := Lib.hid hb2
            clear hown2 hb2 hk2
            go_wp2
            go_roundw
            case measure => simp [intOf]; all_goals omega
            case rel => exact ⟨m + 1, by omega, by go_num, by rw [hst2.out]; exact HO2.out, HB2.out⟩
        · have hm3 : m = 3 := by omega
          have HM3 := Lib.hid hm3
          clear hm3 hown hbel
          go_wp2
          go_ret
          have h := HO.out
          rw [HM3.out] at h
          refine ⟨_, rfl, ?_, B0.out.trans ((HB1.out.trans (HB.out.mono HB1.out.size)).mono B0.out.size)⟩
          rw [outcomeF, HRS.out, HWS.out, HOB.out]
          rw [HM3.out]
          exact Row.mono h (Nat.le_trans B0.out.size HB1.out.size)
end Go.Proofs.YtkddckfgdiemkaaGreat
