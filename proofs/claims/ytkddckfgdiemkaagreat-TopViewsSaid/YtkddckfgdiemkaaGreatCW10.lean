/-
  What an execution says, and the walks of steps, starts, ends, exchanged.
-/
import Derived.Test.YtkddckfgdiemkaaGreatCW9
set_option linter.unusedVariables false
set_option linter.unusedSimpArgs false
namespace Go.Proofs.YtkddckfgdiemkaaGreat
open Go.RowKit Go.Shelf Mem
set_option maxRecDepth 100000
attribute [local go_sem ↓] shl32 shr32 low32 or32 or32z

/-- An execution. -/
structure Ex where
  fr : List Int
  dn : List Bool
  ord : List (List Int)
  fen : List Int
abbrev RdLL (W : World) (v : Value) (x : List (List Int)) : Prop := RdL W (fun _ => False) v x
structure RdX (W : World) (fv dv ov sv : Value) (x : Ex) : Prop where
  f : RdI W fv x.fr
  d : RdB W dv x.dn
  o : RdLL W ov x.ord
  s : RdI W sv x.fen
theorem RdX.below {W W' : World} {fv dv ov sv : Value} {x : Ex} (h : RdX W fv dv ov sv x) (k : Below W.heap.size W W') : RdX W' fv dv ov sv x := ⟨Rd.below h.f k, Rd.below h.d k, h.o.below k, Rd.below h.s k⟩
structure WfE (es : List Ev) : Prop where
  n : es.length ≤ 31
  o : ∀ i : Nat, i < es.length → 0 ≤ (ev es (i : Int)).ord ∧ (ev es (i : Int)).ord < 5
  l : ∀ i : Nat, i < es.length → 0 ≤ (ev es (i : Int)).loc ∧ (ev es (i : Int)).loc < 3
/-- The execution fits the events so far that nothing is read that is not there. -/
structure WfX (es : List Ev) (x : Ex) : Prop where
  fl : x.fr.length = es.length
  dl : x.dn.length = es.length
  ol : x.ord.length = 3
  fr : ∀ i : Nat, i < es.length → x.fr.getD i 0 < (es.length : Int)
  oi : ∀ l ∈ x.ord, ∀ w ∈ l, In es w
  si : ∀ w ∈ x.fen, In es w
  ob : ∀ l ∈ x.ord, l.length < 100000
  sb : x.fen.length < 100000
theorem int_getD {l : List Int} {k : Nat} (h : k < l.length) : l.getD k 0 = l[k] := by simp [List.getD, List.getElem?_eq_getElem h]

/-! steps -/
def stepsA (es : List Ev) : Nat → List Nat
  | 0 => List.replicate es.length 0
  | k + 1 => if (ev es ((k + 1 : Nat) : Int)).th = (ev es (k : Int)).th then putR (stepsA es k) k (k + 1) else stepsA es k
def stepsB (fen : List Int) (r : List Nat) : Nat → List Nat
  | 0 => r
  | k + 1 => putR (stepsB fen r k) (fen.getD k 0).toNat (fen.getD (k + 1) 0).toNat
def stepsF (es : List Ev) (fen : List Int) : List Nat := stepsB fen (stepsA es (es.length - 1)) (fen.length - 1)
set_option maxHeartbeats 1000000 in
theorem steps_any {w : World} {pv fv dv ov sv : Value} {es : List Ev} {x : Ex} (hr : RdE w pv es) (hx : RdX w fv dv ov sv x) (he : WfE es) (hw : ∀ f ∈ x.fen, In es f) (hsb : x.fen.length < 100000) :
    Calls Tryz.prog 74 #[pv, .agg #[fv, dv, ov, sv]] w (NewR es.length (stepsF es x.fen) w) := by
  obtain ⟨A, c, rfl, hc1, hc2⟩ := hr.shape
  obtain ⟨As, cs, rfl, hcs1, hcs2⟩ := hx.s.shape
  obtain ⟨w0, hw0⟩ : ∃ w0, w.alloc (.cells #[fv, dv, ov, .slice As x.fen.length cs] 35) = w0 := ⟨_, rfl⟩
  have b0 : Below w.heap.size w w0 := by rw [← hw0]; exact (Below.refl _ w).alloc (Nat.le_refl _) _
  have X0 : Hid (Blk w0 w.heap.size 35 [fv, dv, ov, .slice As x.fen.length cs]) := Lib.hid (by rw [← hw0]; exact Blk.new w 35 _)
  have R0 := Lib.hid (hr.below b0)
  have S0 := Lib.hid (hx.s.below b0)
  have hwl : w.heap.size < w0.heap.size := X0.out.lt
  have hn := he.n
  have HE := Lib.hid he
  have HW := Lib.hid hw
  have HW0 := Lib.hid hw0
  have B0 := Lib.hid b0
  clear hr hx he hw hw0 b0
  go_enter Tryz.func74, Tryz.ntmps74
  go_upto_region 1 with fail
  rw [HW0.out]
  go_upto_region 2 with (go_at_call 95; refine (relation_any HE.out.n).mono ?_; rintro e w1 ⟨g, rfl, hg, hgl, hb1⟩)
  have HB1 := Lib.hid hb1
  have HG1 := Lib.hid hg
  have HGL := Lib.hid hgl
  clear hg hb1
  go_wp2
  go_loopw [6] (fun i wr => ∃ k : Nat, (k = 0 ∨ k < es.length) ∧ i = .int .i64 ((k : Int) + 1) ∧ IsR wr g es.length (stepsA es k) ∧ Below w0.heap.size w0 wr) (fun i _ => es.length - (intOf i).toNat)
  case atStart => exact ⟨0, .inl rfl, rfl, HG1.out, HB1.out⟩
  case round =>
    obtain ⟨k, hk, rfl, hr, hb⟩ := hrel
    have HR := Lib.hid hr
    have HB := Lib.hid hb
    have RE := R0.out.below hb
    clear hr hb
    by_cases hlt : k + 1 < es.length
    · have hlt' : (k : Int) + 1 < (es.length : Int) := by omega
      obtain ⟨b, off, hA, hbb, x0, x1, x2, x3, x4, x5⟩ := RdE.at_ RE (show k < es.length by omega)
      obtain ⟨b', off', hA', hbb', y0, y1, y2, y3, y4, y5⟩ := RdE.at_ RE hlt
      rw [hA] at hA'
      injection hA' with hA'
      injection hA' with e1 e2
      subst e1 e2 hA
      clear RE x0 x1 x2 x3 x4 y0 y1 y2 y3 y4
      have i1 : (0 : Int) ≤ (k : Int) := by omega
      have i3 : (k : Int) < (es.length : Int) := by omega
      have e1 : IntKind.i64.wrap ((k : Int) + 1 - 1) = (k : Int) := by rw [IntKind.wrap_i64]; omega
      have e2 : IntKind.i64.wrap ((k : Int) + 1 + 1) = (k : Int) + 1 + 1 := by rw [IntKind.wrap_i64]; omega
      by_cases ht : (ev es ((k + 1 : Nat) : Int)).th = (ev es (k : Int)).th
      · have hst : Hid (stepsA es (k + 1) = putR (stepsA es k) k (k + 1)) := Lib.hid (by rw [stepsA, if_pos ht])
        rw [ht] at y5
        clear ht
        go_upto_region 5 with fail
        go_quiet (fail)
        go_wp2_with (go_at_call 75; refine (put_int (a := k) (b := k + 1) (HR.out.below ((Below.refl _ wr).drewN nq)) (by omega) (by omega) (by omega) (by omega)).mono ?_; rintro e1 w1 ⟨rfl, hr1, hk1⟩; have HR1 := Lib.hid hr1; have HK1 := Lib.hid hk1; clear hr1 hk1)
        go_roundw
        case measure => simp [intOf]; omega
        case rel => exact ⟨k + 1, .inr hlt, by go_num, by rw [hst.out]; exact HR1.out, (HB.out.drewN nq).trans (HK1.out.below (by have := HB.out.size; have := HGL.out; simp; omega) (fun q e => by have := HGL.out; omega))⟩
      · have hst : Hid (stepsA es (k + 1) = stepsA es k) := Lib.hid (by rw [stepsA, if_neg ht])
        have hte : ((ev es ((k + 1 : Nat) : Int)).th == (ev es (k : Int)).th) = false := beq_eq_false_iff_ne.2 ht
        clear ht
        generalize (ev es ((k + 1 : Nat) : Int)).th = t1 at *
        generalize (ev es (k : Int)).th = t0 at *
        go_upto_region 5 with fail
        go_quiet (fail)
        go_wp2
        go_roundw
        case measure => simp [intOf]; omega
        case rel => exact ⟨k + 1, .inr hlt, by go_num, by rw [hst.out]; exact HR.out.below ((Below.refl _ wr).drewN nq), HB.out.drewN nq⟩
    · have hkn : k = es.length - 1 := by omega
      have HKN := Lib.hid hkn
      have hnlt : ¬ ((k : Int) + 1 < (es.length : Int)) := by omega
      clear hkn hlt hk
      go_upto_region 8 with fail
      obtain ⟨R, hR⟩ : ∃ R, stepsA es k = R := ⟨_, rfl⟩
      rw [hR] at HR
      have HRR := Lib.hid hR
      clear hR
      go_loopw [7] (fun i wr => ∃ k : Nat, (k = 0 ∨ k < x.fen.length) ∧ i = .int .i64 ((k : Int) + 1) ∧ IsR wr g es.length (stepsB x.fen R k) ∧ Below w0.heap.size w0 wr) (fun i _ => x.fen.length - (intOf i).toNat)
      case atStart => exact ⟨0, .inl rfl, rfl, HR.out, HB.out⟩
      case round =>
        obtain ⟨m, hm, rfl, hr, hb⟩ := hrel
        have HR2 := Lib.hid hr
        have HB2 := Lib.hid hb
        have SX := S0.out.below hb
        have c3 := (X0.out.below hb).cell 3 rfl
        clear hr hb
        by_cases hlt : m + 1 < x.fen.length
        · have hlt' : (m : Int) + 1 < (x.fen.length : Int) := by omega
          obtain ⟨b, off, hA, hbb, hcell⟩ := Rd.one S0.out (show m < x.fen.length by omega)
          obtain ⟨b', off', hA', hbb', hcell'⟩ := Rd.one S0.out hlt
          rw [hA] at hA'
          injection hA' with hA'
          injection hA' with e1 e2
          subst e1 e2 hA
          have d0 := (World.cell?_of_block (HB2.out.block b hbb)).trans (hcell.trans (ints_at x.fen m (by omega)))
          have d1 := (World.cell?_of_block (HB2.out.block b hbb)).trans (hcell'.trans (ints_at x.fen (m + 1) hlt))
          obtain ⟨p, hp, hpn⟩ := (HW.out _ (List.getElem_mem (show m < x.fen.length by omega))).nat
          obtain ⟨q, hq, hqn⟩ := (HW.out _ (List.getElem_mem hlt)).nat
          rw [hp] at d0
          rw [hq] at d1
          have hst : Hid (stepsB x.fen R (m + 1) = putR (stepsB x.fen R m) p q) := Lib.hid (by
            rw [stepsB, int_getD (show m < x.fen.length by omega), int_getD hlt, hp, hq]; rfl)
          clear SX hcell hcell' hp hq
          have i1 : (0 : Int) ≤ (m : Int) := by omega
          have i3 : (m : Int) < (x.fen.length : Int) := by omega
          have e1 : IntKind.i64.wrap ((m : Int) + 1 - 1) = (m : Int) := by rw [IntKind.wrap_i64]; omega
          have e2 : IntKind.i64.wrap ((m : Int) + 1 + 1) = (m : Int) + 1 + 1 := by rw [IntKind.wrap_i64]; omega
          have e3 : IntKind.i64.wrap (m : Int) = (m : Int) := by rw [IntKind.wrap_i64]; omega
          have i4 : (0 : Int) ≤ (m : Int) + 1 := by omega
          have HSS : Hid (∀ W1, Kept wr.drew W1 (fun k => k = g) → W1.cell? ⟨w.heap.size, 3, none⟩ = some (.slice (some ⟨b, off, none⟩) x.fen.length cs) ∧ W1.cell? ⟨b, off + m, none⟩ = some (.int .i64 (p : Int)) ∧ W1.cell? ⟨b, off + (m + 1), none⟩ = some (.int .i64 (q : Int))) := Lib.hid (fun W1 k1 => by
            have hg := HGL.out
            exact ⟨(World.cell?_of_block (k1.block w.heap.size (by have := HB2.out.size; simp; omega) (by omega))).trans c3, (World.cell?_of_block (k1.block b (by have := HB2.out.size; simp; omega) (by omega))).trans d0, (World.cell?_of_block (k1.block b (by have := HB2.out.size; simp; omega) (by omega))).trans d1⟩)
          go_upto_region 10 with fail
          go_region_held3 (fun w' => w'.cell? ⟨w.heap.size, 3, none⟩ = some (.slice (some ⟨b, off, none⟩) x.fen.length cs) ∧ w'.cell? ⟨b, off + m, none⟩ = some (.int .i64 (p : Int)) ∧ w'.cell? ⟨b, off + (m + 1), none⟩ = some (.int .i64 (q : Int)))
            (first | exact ⟨c3, d0, d1⟩ | exact hs1)
            (first | (go_at_call 75; refine (put_any (HR2.out.below ((Below.refl _ wr).drew)) hpn (by omega)).mono ?_; rintro e1 w1 ⟨rfl, hr1, hk1⟩; have hs1 : w1.cell? ⟨w.heap.size, 3, none⟩ = some (.slice (some ⟨b, off, none⟩) x.fen.length cs) ∧ w1.cell? ⟨b, off + m, none⟩ = some (.int .i64 (p : Int)) ∧ w1.cell? ⟨b, off + (m + 1), none⟩ = some (.int .i64 (q : Int)) := HSS.out w1 hk1; have HR1 := Lib.hid hr1; have HK1 := Lib.hid hk1; clear hr1 hk1; dsimp only))
          go_wp2
          go_roundw
          case measure => simp [intOf]; omega
          case rel => exact ⟨m + 1, .inr hlt, by go_num, by rw [hst.out]; exact HR1.out, (HB2.out.drew).trans (HK1.out.below (by have := HB2.out.size; have := HGL.out; simp; omega) (fun q e => by have := HGL.out; omega))⟩
        · have hkm : m = x.fen.length - 1 := by omega
          have HKM := Lib.hid hkm
          have hnlt : ¬ ((m : Int) + 1 < (x.fen.length : Int)) := by omega
          clear hkm hlt hm
          obtain ⟨A3, c3', hA3, _, _⟩ := SX.shape
          go_wp2
          go_ret
          refine ⟨g, rfl, ?_, by have := HGL.out; have := B0.out.size; omega, B0.out.trans (HB2.out.mono B0.out.size)⟩
          rw [stepsF, ← HKN.out, HRR.out, ← HKM.out]
          exact HR2.out

/-! exchanged, starts, ends -/
def exchF (es : List Ev) (x : Ex) (i : Nat) : Bool := isRd (ev es (i : Int)) && x.dn.getD i false
theorem exchanged_any {w : World} {pv fv dv ov sv : Value} {es : List Ev} {x : Ex} {i : Nat} (hr : RdE w pv es) (hd : RdB w dv x.dn) (hdl : x.dn.length = es.length) (hi : i < es.length) :
    Calls Tryz.prog 97 #[pv, .agg #[fv, dv, ov, sv], .int .i64 (i : Int)] w (Tells w (exchF es x i)) := by
  obtain ⟨A, c, rfl, hc1, hc2⟩ := hr.shape
  obtain ⟨Ad, cd, rfl, hcd1, hcd2⟩ := hd.shape
  obtain ⟨b, off, rfl, hb, x0, x1, x2, x3, x4, x5⟩ := hr.at_ hi
  have hid : i < x.dn.length := by omega
  obtain ⟨b2, off2, rfl, hb2, hdc⟩ := hd.one hid
  have d0 := hdc.trans (bools_at x.dn i hid)
  obtain ⟨di, hdi⟩ : ∃ di, x.dn[i] = di := ⟨_, rfl⟩
  rw [hdi] at d0
  have hde : x.dn.getD i false = di := by rw [List.getD, List.getElem?_eq_getElem hid, hdi]; rfl
  unfold exchF
  rw [hde]
  have i1 : (0 : Int) ≤ (i : Int) := by omega
  have i2 : (i : Int) < (es.length : Int) := by omega
  have i3 : (i : Int) < (x.dn.length : Int) := by omega
  have hq : ∀ W1, Below (w.alloc (.cells #[fv, .slice (some ⟨b2, off2, none⟩) x.dn.length cd, ov, sv] 35)).heap.size (w.alloc (.cells #[fv, .slice (some ⟨b2, off2, none⟩) x.dn.length cd, ov, sv] 35)) W1 → W1.cell? ⟨w.heap.size, 1, none⟩ = some (.slice (some ⟨b2, off2, none⟩) x.dn.length cd) ∧ W1.cell? ⟨b2, off2 + i, none⟩ = some (.bool di) := fun W1 hb1 =>
    ⟨((Blk.new w 35 [fv, .slice (some ⟨b2, off2, none⟩) x.dn.length cd, ov, sv]).below hb1).cell 1 rfl, (World.cell?_of_block (hb1.block b2 (by simp; omega))).trans ((World.cell?_alloc_past _ _ _ hb2).trans d0)⟩
  have HQ := Lib.hid hq
  obtain ⟨E, hE⟩ : ∃ E, ev es (i : Int) = E := ⟨_, rfl⟩
  rw [hE] at x0 x1 x2 x3 x4 x5 ⊢
  clear hE hr hd hdc hde hdi hq hdl
  cases hrd : isRd E with
  | true =>
    have HRD := Lib.hid hrd
    clear hrd
    go_enter Tryz.func97, Tryz.ntmps97
    go_wp2_with (go_at_call 45; refine (reads_any (e := E)).mono ?_; rintro e1 w1 ⟨rfl, hb1⟩; rw [HRD.out]; obtain ⟨q1, q2⟩ := HQ.out w1 hb1)
    go_ret
    exact ⟨rfl, ((Below.refl _ w).alloc (Nat.le_refl _) _).trans (hb1.mono (by simp))⟩
  | false =>
    have HRD := Lib.hid hrd
    clear hrd
    go_enter Tryz.func97, Tryz.ntmps97
    go_wp2_with (go_at_call 45; refine (reads_any (e := E)).mono ?_; rintro e1 w1 ⟨rfl, hb1⟩; rw [HRD.out])
    go_ret
    exact ⟨rfl, ((Below.refl _ w).alloc (Nat.le_refl _) _).trans (hb1.mono (by simp))⟩
/-- From which events what an event wrote is released: backwards. -/
def startsDown (es : List Ev) (t : Int) : Nat → Nat → Nat
  | 0, s => s
  | m + 1, s => if (ev es (m : Int)).th = t then startsDown es t m (if (ev es (m : Int)).kind = 5 ∧ oRel (ev es (m : Int)).ord = true then orN s (powN m) else s) else s
def startsF (es : List Ev) (w : Nat) : Nat := startsDown es (ev es (w : Int)).th w (if oRel (ev es (w : Int)).ord then orN 0 (powN w) else 0)
/-- Which events acquire what an event read: onwards; m: how many are left. -/
def endsUp (es : List Ev) (t : Int) : Nat → Nat → Nat
  | 0, s => s
  | m + 1, s => if (ev es ((es.length - (m + 1) : Nat) : Int)).th = t then endsUp es t m (if (ev es ((es.length - (m + 1) : Nat) : Int)).kind = 5 ∧ oAcq (ev es ((es.length - (m + 1) : Nat) : Int)).ord = true then orN s (powN (es.length - (m + 1))) else s) else s
def endsF (es : List Ev) (r : Nat) : Nat := endsUp es (ev es (r : Int)).th (es.length - (r + 1)) (if oAcq (ev es (r : Int)).ord then orN 0 (powN r) else 0)
def TellsU (w : World) (n : Nat) (e : Ending) (w' : World) : Prop := e = .returned (.int .u32 (n : Int)) ∧ n < 4294967296 ∧ Below w.heap.size w w'
set_option maxHeartbeats 1000000 in
theorem starts_any {w : World} {pv : Value} {es : List Ev} {i : Nat} (hr : RdE w pv es) (he : WfE es) (hi : i < es.length) :
    Calls Tryz.prog 96 #[pv, .int .i64 (i : Int)] w (TellsU w (startsF es i)) := by
  obtain ⟨A, c, rfl, hc1, hc2⟩ := hr.shape
  obtain ⟨b, off, rfl, hb, x0, x1, x2, x3, x4, x5⟩ := hr.at_ hi
  obtain ⟨o1, o2⟩ := he.o i hi
  have HE := Lib.hid he
  have HR := Lib.hid hr
  have hn := he.n
  have i1 : (0 : Int) ≤ (i : Int) := by omega
  have i2 : (i : Int) < (es.length : Int) := by omega
  have hx5 : ∀ W1, Below w.heap.size w W1 → W1.cell? ⟨b, off + i * 6 + 5, none⟩ = some (.int .i64 (ev es (i : Int)).th) := fun W1 hb1 => (World.cell?_of_block (hb1.block b hb)).trans x5
  have HX5 := Lib.hid hx5
  clear hr he hx5
  unfold startsF
  obtain ⟨E, hE⟩ : ∃ E, ev es (i : Int) = E := ⟨_, rfl⟩
  rw [hE] at x0 x1 x2 x3 x4 x5 o1 o2 HX5 ⊢
  clear hE
  obtain ⟨rl, hrl⟩ : ∃ rl, oRel E.ord = rl := ⟨_, rfl⟩
  have HRL := Lib.hid hrl
  rw [hrl]
  clear hrl
  obtain ⟨s0, hs0⟩ : ∃ s0, (if rl then orN 0 (powN i) else 0) = s0 := ⟨_, rfl⟩
  have hs0l : s0 < 4294967296 := by
    rw [← hs0]; split
    · exact orN_lt (by decide) (powN_lt (by omega))
    · decide
  have hpl := powN_lt (b := i) (by omega)
  rw [hs0]
  have hdec : IntKind.i64.wrap ((i : Int) - 1) = (i : Int) - 1 := by rw [IntKind.wrap_i64]; omega
  have hor := or32 0 (powN i) (by decide) hpl
  have hlt31 : i < 32 := by omega
  go_enter Tryz.func96, Tryz.ntmps96
  go_upto_if 11 with (go_at_call 108; refine (ev_releases_any (e := E) o1 o2).mono ?_; rintro e1 w1 ⟨rfl, hb1⟩; rw [HRL.out])
  have B1 := Lib.hid hb1
  clear hb1 hor
  cases rl
  case true =>
    simp only [if_true, if_false, Bool.false_eq_true] at hs0
    have HS0 := Lib.hid hs0
    clear hs0
    go_upto_region 5 with fail
    go_loopw [5, 6] (fun s a wr => ∃ m sN : Nat, m ≤ i ∧ s = .int .u32 (sN : Int) ∧ sN < 4294967296 ∧ a = .int .i64 ((m : Int) - 1) ∧ Hid (startsDown es E.th m sN = startsDown es E.th i s0) ∧ Below w.heap.size w wr) (fun s a wr => (intOf a + 1).toNat)
    case atStart => exact ⟨i, s0, Nat.le_refl _, by { rw [← HS0.out]; all_goals rfl }, hs0l, rfl, Lib.hid rfl, B1.out⟩
    case round =>
      obtain ⟨m, sN, hm, rfl, hsl, rfl, he, hb1⟩ := hrel
      have HB1 := Lib.hid hb1
      have y5 := HX5.out _ hb1
      have RE := HR.out.below hb1
      clear hb1
      cases m with
      | zero =>
        go_upto_region 5 with fail
        go_quiet (fail)
        go_wp2
        go_ret
        exact ⟨by rw [← he.out]; rfl, by rw [← he.out]; exact hsl, HB1.out.drewN _⟩
      | succ m =>
        obtain ⟨b9, off9, hA, hbb, z0, z1, z2, z3, z4, z5⟩ := RdE.at_ RE (show m < es.length by omega)
        injection hA with hA
        injection hA with e1 e2
        subst e1 e2
        obtain ⟨p1, p2⟩ := HE.out.o m (by omega)
        have h0 : ((m + 1 : Nat) : Int) - 1 = (m : Int) := by omega
        rw [h0]
        have i4 : (0 : Int) ≤ (m : Int) := by omega
        have i5 : (m : Int) < (es.length : Int) := by omega
        have e5 : IntKind.i64.wrap ((m : Int) - 1) = (m : Int) - 1 := by rw [IntKind.wrap_i64]; omega
        have hst : Hid (startsDown es E.th (m + 1) sN = startsDown es E.th i s0) := he
        rw [startsDown] at hst
        obtain ⟨G, hG⟩ : ∃ G, ev es (m : Int) = G := ⟨_, rfl⟩
        rw [hG] at z0 z1 z2 z3 z4 z5 p1 p2 hst
        clear hG RE he h0
        by_cases ht : G.th = E.th
        · have hte : (G.th == E.th) = true := beq_iff_eq.2 ht
          rw [if_pos ht] at hst
          have hpm := powN_lt (b := m) (by omega)
          have hm32 : m < 32 := by omega
          clear ht
          by_cases hk : G.kind = 5
          · cases hrl : oRel G.ord with
            | true =>
              have HRL2 := Lib.hid hrl
              have hst2 : Hid (startsDown es E.th m (orN sN (powN m)) = startsDown es E.th i s0) := Lib.hid (by have h := hst.out; rw [if_pos ⟨hk, hrl⟩] at h; exact h)
              have hk5 : (G.kind == 5) = true := beq_iff_eq.2 hk
              clear hrl hst hk
              go_upto_region 5 with fail
              go_quiet (fail)
              go_wp2_with (go_at_call 108; refine (ev_releases_any (e := G) p1 p2).mono ?_; rintro e3 w3 ⟨rfl, hb3⟩; rw [HRL2.out])
              go_roundw
              case measure => simp [intOf]; all_goals omega
              case rel => exact ⟨m, orN sN (powN m), by omega, rfl, orN_lt hsl hpm, rfl, hst2, (HB1.out.drewN _).trans (hb3.mono (HB1.out.drewN _).size)⟩
            | false =>
              have HRL2 := Lib.hid hrl
              have hst2 : Hid (startsDown es E.th m sN = startsDown es E.th i s0) := Lib.hid (by have h := hst.out; rw [if_neg (fun h => by rw [hrl] at h; cases h.2)] at h; exact h)
              have hk5 : (G.kind == 5) = true := beq_iff_eq.2 hk
              clear hrl hst hk
              go_upto_region 5 with fail
              go_quiet (fail)
              go_wp2_with (go_at_call 108; refine (ev_releases_any (e := G) p1 p2).mono ?_; rintro e3 w3 ⟨rfl, hb3⟩; rw [HRL2.out])
              go_roundw
              case measure => simp [intOf]; all_goals omega
              case rel => exact ⟨m, sN, by omega, rfl, hsl, rfl, hst2, (HB1.out.drewN _).trans (hb3.mono (HB1.out.drewN _).size)⟩
          · have hst2 : Hid (startsDown es E.th m sN = startsDown es E.th i s0) := Lib.hid (by have h := hst.out; rw [if_neg (fun h => hk h.1)] at h; exact h)
            have hk5 : (G.kind == 5) = false := beq_eq_false_iff_ne.2 hk
            clear hst hk
            go_upto_region 5 with fail
            go_quiet (fail)
            go_wp2
            go_roundw
            case measure => simp [intOf]; all_goals omega
            case rel => exact ⟨m, sN, by omega, rfl, hsl, rfl, hst2, HB1.out.drewN _⟩
        · have hte : (G.th == E.th) = false := beq_eq_false_iff_ne.2 ht
          have hst2 : Hid (sN = startsDown es E.th i s0) := Lib.hid (by have h := hst.out; rw [if_neg ht] at h; exact h)
          clear ht hst
          go_upto_region 5 with fail
          go_quiet (fail)
          go_wp2
          go_ret
          exact ⟨by rw [← hst2.out]; rfl, by rw [← hst2.out]; exact hsl, HB1.out.drewN _⟩
  case false =>
    simp only [if_true, if_false, Bool.false_eq_true] at hs0
    have HS0 := Lib.hid hs0
    clear hs0
    go_upto_region 5 with fail
    go_loopw [5, 6] (fun s a wr => ∃ m sN : Nat, m ≤ i ∧ s = .int .u32 (sN : Int) ∧ sN < 4294967296 ∧ a = .int .i64 ((m : Int) - 1) ∧ Hid (startsDown es E.th m sN = startsDown es E.th i s0) ∧ Below w.heap.size w wr) (fun s a wr => (intOf a + 1).toNat)
    case atStart => exact ⟨i, s0, Nat.le_refl _, by { rw [← HS0.out]; all_goals rfl }, hs0l, rfl, Lib.hid rfl, B1.out⟩
    case round =>
      obtain ⟨m, sN, hm, rfl, hsl, rfl, he, hb1⟩ := hrel
      have HB1 := Lib.hid hb1
      have y5 := HX5.out _ hb1
      have RE := HR.out.below hb1
      clear hb1
      cases m with
      | zero =>
        go_upto_region 5 with fail
        go_quiet (fail)
        go_wp2
        go_ret
        exact ⟨by rw [← he.out]; rfl, by rw [← he.out]; exact hsl, HB1.out.drewN _⟩
      | succ m =>
        obtain ⟨b9, off9, hA, hbb, z0, z1, z2, z3, z4, z5⟩ := RdE.at_ RE (show m < es.length by omega)
        injection hA with hA
        injection hA with e1 e2
        subst e1 e2
        obtain ⟨p1, p2⟩ := HE.out.o m (by omega)
        have h0 : ((m + 1 : Nat) : Int) - 1 = (m : Int) := by omega
        rw [h0]
        have i4 : (0 : Int) ≤ (m : Int) := by omega
        have i5 : (m : Int) < (es.length : Int) := by omega
        have e5 : IntKind.i64.wrap ((m : Int) - 1) = (m : Int) - 1 := by rw [IntKind.wrap_i64]; omega
        have hst : Hid (startsDown es E.th (m + 1) sN = startsDown es E.th i s0) := he
        rw [startsDown] at hst
        obtain ⟨G, hG⟩ : ∃ G, ev es (m : Int) = G := ⟨_, rfl⟩
        rw [hG] at z0 z1 z2 z3 z4 z5 p1 p2 hst
        clear hG RE he h0
        by_cases ht : G.th = E.th
        · have hte : (G.th == E.th) = true := beq_iff_eq.2 ht
          rw [if_pos ht] at hst
          have hpm := powN_lt (b := m) (by omega)
          have hm32 : m < 32 := by omega
          clear ht
          by_cases hk : G.kind = 5
          · cases hrl : oRel G.ord with
            | true =>
              have HRL2 := Lib.hid hrl
              have hst2 : Hid (startsDown es E.th m (orN sN (powN m)) = startsDown es E.th i s0) := Lib.hid (by have h := hst.out; rw [if_pos ⟨hk, hrl⟩] at h; exact h)
              have hk5 : (G.kind == 5) = true := beq_iff_eq.2 hk
              clear hrl hst hk
              go_upto_region 5 with fail
              go_quiet (fail)
              go_wp2_with (go_at_call 108; refine (ev_releases_any (e := G) p1 p2).mono ?_; rintro e3 w3 ⟨rfl, hb3⟩; rw [HRL2.out])
              go_roundw
              case measure => simp [intOf]; all_goals omega
              case rel => exact ⟨m, orN sN (powN m), by omega, rfl, orN_lt hsl hpm, rfl, hst2, (HB1.out.drewN _).trans (hb3.mono (HB1.out.drewN _).size)⟩
            | false =>
              have HRL2 := Lib.hid hrl
              have hst2 : Hid (startsDown es E.th m sN = startsDown es E.th i s0) := Lib.hid (by have h := hst.out; rw [if_neg (fun h => by rw [hrl] at h; cases h.2)] at h; exact h)
              have hk5 : (G.kind == 5) = true := beq_iff_eq.2 hk
              clear hrl hst hk
              go_upto_region 5 with fail
              go_quiet (fail)
              go_wp2_with (go_at_call 108; refine (ev_releases_any (e := G) p1 p2).mono ?_; rintro e3 w3 ⟨rfl, hb3⟩; rw [HRL2.out])
              go_roundw
              case measure => simp [intOf]; all_goals omega
              case rel => exact ⟨m, sN, by omega, rfl, hsl, rfl, hst2, (HB1.out.drewN _).trans (hb3.mono (HB1.out.drewN _).size)⟩
          · have hst2 : Hid (startsDown es E.th m sN = startsDown es E.th i s0) := Lib.hid (by have h := hst.out; rw [if_neg (fun h => hk h.1)] at h; exact h)
            have hk5 : (G.kind == 5) = false := beq_eq_false_iff_ne.2 hk
            clear hst hk
            go_upto_region 5 with fail
            go_quiet (fail)
            go_wp2
            go_roundw
            case measure => simp [intOf]; all_goals omega
            case rel => exact ⟨m, sN, by omega, rfl, hsl, rfl, hst2, HB1.out.drewN _⟩
        · have hte : (G.th == E.th) = false := beq_eq_false_iff_ne.2 ht
          have hst2 : Hid (sN = startsDown es E.th i s0) := Lib.hid (by have h := hst.out; rw [if_neg ht] at h; exact h)
          clear ht hst
          go_upto_region 5 with fail
          go_quiet (fail)
          go_wp2
          go_ret
          exact ⟨by rw [← hst2.out]; rfl, by rw [← hst2.out]; exact hsl, HB1.out.drewN _⟩
set_option maxHeartbeats 1000000 in
theorem ends_any {w : World} {pv : Value} {es : List Ev} {i : Nat} (hr : RdE w pv es) (he : WfE es) (hi : i < es.length) :
    Calls Tryz.prog 98 #[pv, .int .i64 (i : Int)] w (TellsU w (endsF es i)) := by
  obtain ⟨A, c, rfl, hc1, hc2⟩ := hr.shape
  obtain ⟨b, off, rfl, hb, x0, x1, x2, x3, x4, x5⟩ := hr.at_ hi
  obtain ⟨o1, o2⟩ := he.o i hi
  have HE := Lib.hid he
  have HR := Lib.hid hr
  have hn := he.n
  have i1 : (0 : Int) ≤ (i : Int) := by omega
  have i2 : (i : Int) < (es.length : Int) := by omega
  have hx5 : ∀ W1, Below w.heap.size w W1 → W1.cell? ⟨b, off + i * 6 + 5, none⟩ = some (.int .i64 (ev es (i : Int)).th) := fun W1 hb1 => (World.cell?_of_block (hb1.block b hb)).trans x5
  have HX5 := Lib.hid hx5
  clear hr he hx5
  unfold endsF
  obtain ⟨E, hE⟩ : ∃ E, ev es (i : Int) = E := ⟨_, rfl⟩
  rw [hE] at x0 x1 x2 x3 x4 x5 o1 o2 HX5 ⊢
  clear hE
  obtain ⟨rl, hrl⟩ : ∃ rl, oAcq E.ord = rl := ⟨_, rfl⟩
  have HRL := Lib.hid hrl
  rw [hrl]
  clear hrl
  obtain ⟨s0, hs0⟩ : ∃ s0, (if rl then orN 0 (powN i) else 0) = s0 := ⟨_, rfl⟩
  have hs0l : s0 < 4294967296 := by
    rw [← hs0]; split
    · exact orN_lt (by decide) (powN_lt (by omega))
    · decide
  have hpl := powN_lt (b := i) (by omega)
  rw [hs0]
  have hdec : IntKind.i64.wrap ((i : Int) + 1) = (i : Int) + 1 := by rw [IntKind.wrap_i64]; omega
  have hor := or32 0 (powN i) (by decide) hpl
  have hlt31 : i < 32 := by omega
  go_enter Tryz.func98, Tryz.ntmps98
  go_upto_if 11 with (go_at_call 109; refine (ev_acquires_any (e := E) o1 o2).mono ?_; rintro e1 w1 ⟨rfl, hb1⟩; rw [HRL.out])
  have B1 := Lib.hid hb1
  clear hb1 hor
  cases rl
  case true =>
    simp only [if_true, if_false, Bool.false_eq_true] at hs0
    have HS0 := Lib.hid hs0
    clear hs0
    go_upto_region 5 with fail
    go_loopw [5, 6] (fun s a wr => ∃ d sN : Nat, d ≤ es.length - (i + 1) ∧ s = .int .u32 (sN : Int) ∧ sN < 4294967296 ∧ a = .int .i64 ((es.length - d : Nat) : Int) ∧ Hid (endsUp es E.th d sN = endsUp es E.th (es.length - (i + 1)) s0) ∧ Below w.heap.size w wr) (fun s a wr => es.length - (intOf a).toNat)
    case atStart => exact ⟨es.length - (i + 1), s0, Nat.le_refl _, by { rw [← HS0.out]; all_goals rfl }, hs0l, by { congr 1; omega }, Lib.hid rfl, B1.out⟩
    case round =>
      obtain ⟨d, sN, hm, rfl, hsl, rfl, he, hb1⟩ := hrel
      have HB1 := Lib.hid hb1
      have y5 := HX5.out _ hb1
      have RE := HR.out.below hb1
      clear hb1
      cases d with
      | zero =>
        rw [Nat.sub_zero]
        go_upto_region 5 with fail
        go_quiet (fail)
        go_wp2
        go_ret
        exact ⟨by rw [← he.out]; rfl, by rw [← he.out]; exact hsl, HB1.out.drewN _⟩
      | succ d =>
        have hst : Hid (endsUp es E.th (d + 1) sN = endsUp es E.th (es.length - (i + 1)) s0) := he
        rw [endsUp] at hst
        obtain ⟨m, hmd⟩ : ∃ m, es.length - (d + 1) = m := ⟨_, rfl⟩
        rw [hmd] at hst ⊢
        have hml : m < es.length := by omega
        have hmd2 : es.length - d = m + 1 := by omega
        have HMD := Lib.hid hmd2
        obtain ⟨b9, off9, hA, hbb, z0, z1, z2, z3, z4, z5⟩ := RdE.at_ RE hml
        injection hA with hA
        injection hA with e1 e2
        subst e1 e2
        obtain ⟨p1, p2⟩ := HE.out.o m (by omega)
        have i4 : (0 : Int) ≤ (m : Int) := by omega
        have i5 : (m : Int) < (es.length : Int) := by omega
        have e5 : IntKind.i64.wrap ((m : Int) + 1) = (m : Int) + 1 := by rw [IntKind.wrap_i64]; omega
        have hgoal : Hid (∀ (q : Nat) (Wq : World), q < 4294967296 → Hid (endsUp es E.th d q = endsUp es E.th (es.length - (i + 1)) s0) → Below w.heap.size w Wq →
          ∃ d sN : Nat, d ≤ es.length - (i + 1) ∧ Value.int .u32 (q : Int) = .int .u32 (sN : Int) ∧ sN < 4294967296 ∧ Value.int .i64 ((m : Int) + 1) = .int .i64 ((es.length - d : Nat) : Int) ∧ Hid (endsUp es E.th d sN = endsUp es E.th (es.length - (i + 1)) s0) ∧ Below w.heap.size w Wq) :=
          Lib.hid (fun q Wq h1 h2 h3 => ⟨d, q, by omega, rfl, h1, by rw [hmd2]; rfl, h2, h3⟩)
        obtain ⟨G, hG⟩ : ∃ G, ev es (m : Int) = G := ⟨_, rfl⟩
        rw [hG] at z0 z1 z2 z3 z4 z5 p1 p2 hst
        clear hG RE he hmd hmd2 hm
        by_cases ht : G.th = E.th
        · have hte : (G.th == E.th) = true := beq_iff_eq.2 ht
          rw [if_pos ht] at hst
          have hpm := powN_lt (b := m) (by omega)
          have hm32 : m < 32 := by omega
          clear ht
          by_cases hk : G.kind = 5
          · cases hrl : oAcq G.ord with
            | true =>
              have HRL2 := Lib.hid hrl
              have hst2 : Hid (endsUp es E.th d (orN sN (powN m)) = endsUp es E.th (es.length - (i + 1)) s0) := Lib.hid (by have h := hst.out; rw [if_pos ⟨hk, hrl⟩] at h; exact h)
              have hk5 : (G.kind == 5) = true := beq_iff_eq.2 hk
              clear hrl hst hk
              go_upto_region 5 with fail
              go_quiet (fail)
              go_wp2_with (go_at_call 109; refine (ev_acquires_any (e := G) p1 p2).mono ?_; rintro e3 w3 ⟨rfl, hb3⟩; rw [HRL2.out])
              go_roundw
              case measure => simp [intOf]; all_goals omega
              case rel => exact hgoal.out _ _ (orN_lt hsl hpm) hst2 ((HB1.out.drewN _).trans (hb3.mono (HB1.out.drewN _).size))
            | false =>
              have HRL2 := Lib.hid hrl
              have hst2 : Hid (endsUp es E.th d sN = endsUp es E.th (es.length - (i + 1)) s0) := Lib.hid (by have h := hst.out; rw [if_neg (fun h => by rw [hrl] at h; cases h.2)] at h; exact h)
              have hk5 : (G.kind == 5) = true := beq_iff_eq.2 hk
              clear hrl hst hk
              go_upto_region 5 with fail
              go_quiet (fail)
              go_wp2_with (go_at_call 109; refine (ev_acquires_any (e := G) p1 p2).mono ?_; rintro e3 w3 ⟨rfl, hb3⟩; rw [HRL2.out])
              go_roundw
              case measure => simp [intOf]; all_goals omega
              case rel => exact hgoal.out _ _ hsl hst2 ((HB1.out.drewN _).trans (hb3.mono (HB1.out.drewN _).size))
          · have hst2 : Hid (endsUp es E.th d sN = endsUp es E.th (es.length - (i + 1)) s0) := Lib.hid (by have h := hst.out; rw [if_neg (fun h => hk h.1)] at h; exact h)
            have hk5 : (G.kind == 5) = false := beq_eq_false_iff_ne.2 hk
            clear hst hk
            go_upto_region 5 with fail
            go_quiet (fail)
            go_wp2
            go_roundw
            case measure => simp [intOf]; all_goals omega
            case rel => exact hgoal.out _ _ hsl hst2 (HB1.out.drewN _)
        · have hte : (G.th == E.th) = false := beq_eq_false_iff_ne.2 ht
          have hst2 : Hid (sN = endsUp es E.th (es.length - (i + 1)) s0) := Lib.hid (by have h := hst.out; rw [if_neg ht] at h; exact h)
          clear ht hst
          go_upto_region 5 with fail
          go_quiet (fail)
          go_wp2
          go_ret
          exact ⟨by rw [← hst2.out]; rfl, by rw [← hst2.out]; exact hsl, HB1.out.drewN _⟩
  case false =>
    simp only [if_true, if_false, Bool.false_eq_true] at hs0
    have HS0 := Lib.hid hs0
    clear hs0
    go_upto_region 5 with fail
    go_loopw [5, 6] (fun s a wr => ∃ d sN : Nat, d ≤ es.length - (i + 1) ∧ s = .int .u32 (sN : Int) ∧ sN < 4294967296 ∧ a = .int .i64 ((es.length - d : Nat) : Int) ∧ Hid (endsUp es E.th d sN = endsUp es E.th (es.length - (i + 1)) s0) ∧ Below w.heap.size w wr) (fun s a wr => es.length - (intOf a).toNat)
    case atStart => exact ⟨es.length - (i + 1), s0, Nat.le_refl _, by { rw [← HS0.out]; all_goals rfl }, hs0l, by { congr 1; omega }, Lib.hid rfl, B1.out⟩
    case round =>
      obtain ⟨d, sN, hm, rfl, hsl, rfl, he, hb1⟩ := hrel
      have HB1 := Lib.hid hb1
      have y5 := HX5.out _ hb1
      have RE := HR.out.below hb1
      clear hb1
      cases d with
      | zero =>
        rw [Nat.sub_zero]
        go_upto_region 5 with fail
        go_quiet (fail)
        go_wp2
        go_ret
        exact ⟨by rw [← he.out]; rfl, by rw [← he.out]; exact hsl, HB1.out.drewN _⟩
      | succ d =>
        have hst : Hid (endsUp es E.th (d + 1) sN = endsUp es E.th (es.length - (i + 1)) s0) := he
        rw [endsUp] at hst
        obtain ⟨m, hmd⟩ : ∃ m, es.length - (d + 1) = m := ⟨_, rfl⟩
        rw [hmd] at hst ⊢
        have hml : m < es.length := by omega
        have hmd2 : es.length - d = m + 1 := by omega
        have HMD := Lib.hid hmd2
        obtain ⟨b9, off9, hA, hbb, z0, z1, z2, z3, z4, z5⟩ := RdE.at_ RE hml
        injection hA with hA
        injection hA with e1 e2
        subst e1 e2
        obtain ⟨p1, p2⟩ := HE.out.o m (by omega)
        have i4 : (0 : Int) ≤ (m : Int) := by omega
        have i5 : (m : Int) < (es.length : Int) := by omega
        have e5 : IntKind.i64.wrap ((m : Int) + 1) = (m : Int) + 1 := by rw [IntKind.wrap_i64]; omega
        have hgoal : Hid (∀ (q : Nat) (Wq : World), q < 4294967296 → Hid (endsUp es E.th d q = endsUp es E.th (es.length - (i + 1)) s0) → Below w.heap.size w Wq →
          ∃ d sN : Nat, d ≤ es.length - (i + 1) ∧ Value.int .u32 (q : Int) = .int .u32 (sN : Int) ∧ sN < 4294967296 ∧ Value.int .i64 ((m : Int) + 1) = .int .i64 ((es.length - d : Nat) : Int) ∧ Hid (endsUp es E.th d sN = endsUp es E.th (es.length - (i + 1)) s0) ∧ Below w.heap.size w Wq) :=
          Lib.hid (fun q Wq h1 h2 h3 => ⟨d, q, by omega, rfl, h1, by rw [hmd2]; rfl, h2, h3⟩)
        obtain ⟨G, hG⟩ : ∃ G, ev es (m : Int) = G := ⟨_, rfl⟩
        rw [hG] at z0 z1 z2 z3 z4 z5 p1 p2 hst
        clear hG RE he hmd hmd2 hm
        by_cases ht : G.th = E.th
        · have hte : (G.th == E.th) = true := beq_iff_eq.2 ht
          rw [if_pos ht] at hst
          have hpm := powN_lt (b := m) (by omega)
          have hm32 : m < 32 := by omega
          clear ht
          by_cases hk : G.kind = 5
          · cases hrl : oAcq G.ord with
            | true =>
              have HRL2 := Lib.hid hrl
              have hst2 : Hid (endsUp es E.th d (orN sN (powN m)) = endsUp es E.th (es.length - (i + 1)) s0) := Lib.hid (by have h := hst.out; rw [if_pos ⟨hk, hrl⟩] at h; exact h)
              have hk5 : (G.kind == 5) = true := beq_iff_eq.2 hk
              clear hrl hst hk
              go_upto_region 5 with fail
              go_quiet (fail)
              go_wp2_with (go_at_call 109; refine (ev_acquires_any (e := G) p1 p2).mono ?_; rintro e3 w3 ⟨rfl, hb3⟩; rw [HRL2.out])
              go_roundw
              case measure => simp [intOf]; all_goals omega
              case rel => exact hgoal.out _ _ (orN_lt hsl hpm) hst2 ((HB1.out.drewN _).trans (hb3.mono (HB1.out.drewN _).size))
            | false =>
              have HRL2 := Lib.hid hrl
              have hst2 : Hid (endsUp es E.th d sN = endsUp es E.th (es.length - (i + 1)) s0) := Lib.hid (by have h := hst.out; rw [if_neg (fun h => by rw [hrl] at h; cases h.2)] at h; exact h)
              have hk5 : (G.kind == 5) = true := beq_iff_eq.2 hk
              clear hrl hst hk
              go_upto_region 5 with fail
              go_quiet (fail)
              go_wp2_with (go_at_call 109; refine (ev_acquires_any (e := G) p1 p2).mono ?_; rintro e3 w3 ⟨rfl, hb3⟩; rw [HRL2.out])
              go_roundw
              case measure => simp [intOf]; all_goals omega
              case rel => exact hgoal.out _ _ hsl hst2 ((HB1.out.drewN _).trans (hb3.mono (HB1.out.drewN _).size))
          · have hst2 : Hid (endsUp es E.th d sN = endsUp es E.th (es.length - (i + 1)) s0) := Lib.hid (by have h := hst.out; rw [if_neg (fun h => hk h.1)] at h; exact h)
            have hk5 : (G.kind == 5) = false := beq_eq_false_iff_ne.2 hk
            clear hst hk
            go_upto_region 5 with fail
            go_quiet (fail)
            go_wp2
            go_roundw
            case measure => simp [intOf]; all_goals omega
            case rel => exact hgoal.out _ _ hsl hst2 (HB1.out.drewN _)
        · have hte : (G.th == E.th) = false := beq_eq_false_iff_ne.2 ht
          have hst2 : Hid (sN = endsUp es E.th (es.length - (i + 1)) s0) := Lib.hid (by have h := hst.out; rw [if_neg ht] at h; exact h)
          clear ht hst
          go_upto_region 5 with fail
          go_quiet (fail)
          go_wp2
          go_ret
          exact ⟨by rw [← hst2.out]; rfl, by rw [← hst2.out]; exact hsl, HB1.out.drewN _⟩
end Go.Proofs.YtkddckfgdiemkaaGreat
