/-
  The iterator over all choices of which events write.
-/
import Derived.Test.YtkddckfgdiemkaaGreatCW5
import Derived.Laws.ShiftsVarLaws
set_option linter.unusedVariables false
set_option linter.unusedSimpArgs false
namespace Go.Proofs.YtkddckfgdiemkaaGreat
open Go.RowKit Go.Shelf Mem
set_option maxRecDepth 100000
attribute [local go_sem] Oper.semAt_some

def shrN (x b : Nat) : Nat := x / 2 ^ b
def powN (b : Nat) : Nat := 2 ^ b
def lowN (x : Nat) : Nat := x % 2
theorem pow_le40 {b : Nat} (hb : b ≤ 40) : powN b ≤ 1099511627776 := Nat.le_trans (Nat.pow_le_pow_right (by decide) hb) (by decide)
theorem powN_int (b : Nat) : (2 : Int) ^ b = ((powN b : Nat) : Int) := by simp [powN]
theorem shl64 (b : Nat) (hb : b ≤ 40) : Op.shift .shl .i64 1 .i64 (b : Int) = pure (.int .i64 ((powN b : Nat) : Int)) := by
  rw [shift_shl_any _ _ _ _ (by omega)]
  have h1 := pow_le40 hb
  have e : min ((b : Int)).toNat IntKind.i64.bits = b := by simp [IntKind.bits]; omega
  rw [e, IntKind.wrap_i64, powN_int]
  generalize powN b = q at *
  have : ((1 : Int) * (q : Int) + 9223372036854775808) % 18446744073709551616 - 9223372036854775808 = (q : Int) := by omega
  rw [this]
theorem shr64 (x b : Nat) (hb : b ≤ 40) : Op.shift .shr .i64 (x : Int) .i64 (b : Int) = pure (.int .i64 ((shrN x b : Nat) : Int)) := by
  rw [shift_shr_any _ _ _ _ (by omega)]
  have e : min ((b : Int)).toNat IntKind.i64.bits = b := by simp [IntKind.bits]; omega
  rw [e, powN_int]
  rfl
theorem wraps_i40 (n : Int) (h₀ : 0 ≤ n) (h₁ : n < 2 ^ 40) : IntKind.i64.wrap n = n := by rw [IntKind.wrap_i64]; omega
theorem low64 (x : Nat) (hx : x < 1099511627776) : bits .and .i64 (x : Int) 1 = ((lowN x : Nat) : Int) := by
  have := bits_mask .i64 40 (by decide) wraps_i40 1 (by decide) (x : Int) (by omega) (by omega)
  rw [show ((2 : Int) ^ 1 - 1) = 1 by decide] at this
  rw [this]; rfl
attribute [local go_sem ↓] shl64 shr64 low64
theorem run_make_rows {P : Program} (t e : TypeId) (z : Value) (k b : Nat) (ht : P.underlying t = some (.slice e)) (hi : (P.info? e).map (fun i => (i.zero, i.size, i.bytes)) = some (some z, k, b)) (m : Nat) (hb : b ≤ 100000000) (hm : m < 1000000) :
    ∀ W : World, (Instr.makeSlice t (.int .i64 (m : Int)) (.int .i64 (m : Int))).run P W = .ok (.slice (some ⟨W.heap.size, 0, none⟩) m m) (W.alloc (.cells (madeCells z.cells (m * k)) e)) := by
  intro W
  obtain ⟨i0, hi0, hz0, hz1, hz2⟩ := info_one hi
  have hb' : (i0.bytes : Int) * (m : Int) ≤ 281474976710656 := by
    have : i0.bytes * m ≤ 100000000 * 1000000 := Nat.mul_le_mul (by omega) (by omega)
    have h : ((i0.bytes * m : Nat) : Int) ≤ 281474976710656 := by omega
    rwa [Int.natCast_mul] at h
  have := run_make (P := P) W t e i0 z ht hi0 hz0 .i64 .i64 (m : Int) (m : Int) (by omega) (Int.le_refl _) hb' (by omega)
  simp only [Int.toNat_natCast, hz1] at this
  exact this
theorem madeCells_one (z : Value) (hz : z.cells = #[z]) (m : Nat) : madeCells z.cells (m * 1) = (List.replicate m z).toArray := by
  rw [hz]
  apply Array.ext'
  apply List.ext_getElem
  · simp [madeCells]
  · intro i h1 h2
    simp [madeCells, Nat.mod_one]
/-- A row that is filled from the front: k have come. -/
def fillD (f : Nat → Bool) (n k : Nat) : List Bool := (List.range n).map fun i => if i < k then f i else false
theorem fillD_length (f : Nat → Bool) (n k : Nat) : (fillD f n k).length = n := by simp [fillD]
theorem fillD_zero (f : Nat → Bool) (n : Nat) : bools (fillD f n 0) = List.replicate n (.bool false) := by
  apply List.ext_getElem
  · simp [bools, fillD]
  · intro i h1 h2; simp [bools, fillD]
theorem fillD_set (f : Nat → Bool) (n k : Nat) (hk : k < n) : (fillD f n k).set k (f k) = fillD f n (k + 1) := by
  apply List.ext_getElem
  · simp [fillD]
  · intro i h1 h2
    simp only [fillD, List.getElem_set, List.getElem_map, List.getElem_range]
    by_cases h : k = i
    · subst h; simp
    · rw [if_neg h]
      by_cases h3 : i < k
      · rw [if_pos h3, if_pos (by omega)]
      · rw [if_neg h3, if_neg (by omega)]
theorem fillD_all (f : Nat → Bool) (n : Nat) : fillD f n n = (List.range n).map f := by
  apply List.ext_getElem
  · simp [fillD]
  · intro i h1 h2
    simp only [fillD, List.getElem_map, List.getElem_range]
    rw [if_pos (by simp [fillD] at h1; exact h1)]
def isW01 (e : Ev) : Bool := decide (e.kind = 1) || decide (e.kind = 2)
def baseD (es : List Ev) : List Bool := (List.range es.length).map fun i : Nat => isW01 (ev es (i : Int))
def freeF (es : List Ev) : List Int := pickTo (fun x => isFree (ev es x)) es.length
def bitS (s k : Nat) : Bool := decide (lowN (shrN s k) = 1)
def setTo (free : List Int) (s : Nat) (d : List Bool) : Nat → List Bool
  | 0 => d
  | k + 1 => (setTo free s d k).set (free.getD k 0).toNat (bitS s k)
theorem setTo_length (free : List Int) (s : Nat) (d : List Bool) : ∀ k, (setTo free s d k).length = d.length
  | 0 => rfl
  | k + 1 => by rw [setTo, List.length_set, setTo_length free s d k]
def doneOf (es : List Ev) (s : Nat) : List Bool := setTo (freeF es) s (baseD es) (freeF es).length
def donesTo (es : List Ev) (k : Nat) : List (List Bool) := (List.range k).map (doneOf es)
theorem donesTo_succ (es : List Ev) (k : Nat) : donesTo es (k + 1) = donesTo es k ++ [doneOf es k] := by simp [donesTo, List.range_succ]
theorem donesTo_le (es : List Ev) {k j : Nat} (h : k ≤ j) : donesTo es k <+: donesTo es j := by
  induction j with
  | zero => rw [show k = 0 by omega]; exact List.prefix_refl _
  | succ j ih =>
    by_cases hk : k = j + 1
    · rw [hk]; exact List.prefix_refl _
    · rw [donesTo_succ]; exact (ih (by omega)).trans (List.prefix_append _ _)
def donesF (es : List Ev) : List (List Bool) := donesTo es (powN (freeF es).length)
theorem pickTo_mem {q : Int → Bool} {n : Nat} {x : Int} (h : x ∈ pickTo q n) : 0 ≤ x ∧ x < (n : Int) ∧ q x = true := by
  simp only [pickTo, List.mem_filter, List.mem_map, List.mem_range] at h
  obtain ⟨⟨i, hi, rfl⟩, hq⟩ := h
  exact ⟨by omega, by omega, hq⟩
def RepB (B : Nat) (W : World) (vs : Array Value) (x : List Bool) : Prop := ∃ v, vs = #[v] ∧ OwnB W B v x
theorem ownB_of_blk {W : World} {B g : Nat} {l : List Bool} {n : Nat} (hB : B ≤ g) (h : Blk W g 4 (bools l)) (hl : l.length = n) (hn : n < 1000000) : OwnB W B (.slice (some ⟨g, 0, none⟩) n n) l := by
  subst hl
  refine ⟨by simp [bools], .inr ⟨g, l.length, (bools l).toArray, rfl, hB, h, Nat.le_refl _, by simp [maxLen]; omega, by simp [bools], List.take_of_length_le (by simp [bools])⟩⟩
theorem round_of {A B K : Prop} {e : Ending} (h : (e = .returned (.bool true) ∧ A ∧ K) ∨ (e = .returned (.bool false) ∧ B ∧ K)) : ∃ b, e = .returned (.bool b) ∧ ((b = true ∧ A) ∨ (b = false ∧ B)) ∧ K := by
  rcases h with ⟨h, h1, h2⟩ | ⟨h, h1, h2⟩
  · exact ⟨_, h, .inl ⟨rfl, h1⟩, h2⟩
  · exact ⟨_, h, .inr ⟨rfl, h1⟩, h2⟩
set_option maxHeartbeats 2000000 in
/-- **The iterator's contract.** -/
theorem dones_gives {w : World} {S0 : Nat → Prop} {es : List Ev} {pv : Value} {bp : Nat} (hp : Blk w bp 65 [pv]) (hr : RdE w pv es) (hsp : ¬ S0 bp) (hsv : ∀ g, pv.ownBlock = some g → ¬ S0 g) (hplt : ∀ g, pv.ownBlock = some g → g < w.heap.size) (hn : es.length ≤ 40) :
    Gives Tryz.prog 60 #[.pointer (some ⟨bp, 0, none⟩)] S0 (RepB w.heap.size) (donesF es) w := by
  intro l J Jx W S hS hSl hK hJ hJx hY h0
  have hs : ∀ k, k < w.heap.size → ¬ S0 k → ¬ S k := fun k hk h1 h2 => h1 (hS k hk h2)
  have hw : w.heap.size ≤ W.heap.size := hK.size
  have P1 := Lib.hid (hp.keep hK hsp)
  have R1 := Lib.hid (hr.keep hK hsv)
  have hsp1 : Hid (¬ S bp) := Lib.hid (hs _ hp.lt hsp)
  have hsv1 : Hid (∀ g, pv.ownBlock = some g → ¬ S g) := Lib.hid (fun g hg => hs g (hplt g hg) (hsv g hg))
  have HJ := Lib.hid hJ
  have HS := Lib.hid hSl
  have HY := Lib.hid hY
  have H0 := Lib.hid h0
  obtain ⟨A, c, rfl, hc1, hc2⟩ := R1.out.shape
  have hfree : ∀ W0, Kept W W0 S → Calls Tryz.prog 33 #[.slice A es.length c, .func (.func 61) #[] #[.pointer (some ⟨bp, 0, none⟩)]] W0 (Made (freeF es) W0) := fun W0 hk =>
    pick_free (w := W0) (q := fun x => isFree (ev es x)) (R1.out.keep hk hsv1.out) (fun k hk' W1 hb => free_any (((P1.out.keep hk hsp1.out).below hb).cell 0 rfl) ((R1.out.keep hk hsv1.out).below hb) ⟨by omega, by omega⟩) (by omega)
  have HF := Lib.hid hfree
  have p0 := P1.out.cell 0 rfl
  have hfl : (freeF es).length ≤ 40 := Nat.le_trans (pickTo_le _ _) hn
  have mk := run_make_rows (P := Tryz.prog) 32 4 (.bool false) 1 1 Tryz.underlying32 info4 es.length (by omega) (by omega)
  rw [madeCells_one (.bool false) rfl] at mk
  clear hp hr hsp hsv hplt hS hSl hK hJ hJx hY h0 hs hfree
  refine callsIn_wide.2 ?_
  show Calls Tryz.prog 60 #[.func (.yield l) #[] #[], .pointer (some ⟨bp, 0, none⟩)] W _
  go_enter Tryz.func60, Tryz.ntmps60
  go_upto_region 1 with (go_at_call 33; refine (HF.out W (Kept.refl _ _)).mono ?_; rintro e w1 ⟨fv, rfl, hown1, hbel1⟩; obtain ⟨Af, cf, rfl, hcf1, hcf2⟩ := (Row.rd hown1).shape)
  have B1 := Lib.hid hbel1
  have HFM : Hid (∀ x ∈ freeF es, In es x) := Lib.hid (fun x hx => ⟨(pickTo_mem hx).1, (pickTo_mem hx).2.1⟩)
  obtain ⟨m, hm⟩ : ∃ m, (freeF es).length = m := ⟨_, rfl⟩
  obtain ⟨FL, hFL⟩ : ∃ FL, freeF es = FL := ⟨_, rfl⟩
  have HFL := Lib.hid hFL
  have HM := Lib.hid hm
  rw [hm] at hfl hcf1 hown1 ⊢
  have O1 := Lib.hid hown1
  clear hown1 hbel1 hm hFL HF
  have HD : Hid (∀ k, k < powN m → donesTo es (k + 1) <+: donesF es) := Lib.hid (fun k hk => by rw [donesF, HM.out]; exact donesTo_le es hk)
  go_wp2
  go_loopw [16] (fun i wr => ∃ s : Nat, s ≤ powN m ∧ i = .int .i64 s ∧ J (donesTo es s) wr ∧ Kept W wr S ∧ Row wr W.heap.size 3 1 (.slice Af m cf) m (ints (freeF es))) (fun i _ => powN m - (intOf i).toNat)
  case atStart => exact ⟨0, Nat.zero_le _, rfl, HJ.out _ _ _ H0.out B1.out, Kept.of_below B1.out _, by have := O1.out; rw [Own, HM.out] at this; exact this⟩
  case round =>
    obtain ⟨s, hs, rfl, hj, hk, hof⟩ := hrel
    have HJ1 := Lib.hid hj
    have HK1 := Lib.hid hk
    have HOF := Lib.hid hof
    clear hj hk hof
    by_cases hlt : s < powN m
    · generalize wr = WO at *
      have P2 := P1.out.keep HK1.out hsp1.out
      have R2 := Lib.hid (R1.out.keep HK1.out hsv1.out)
      have p2 := P2.cell 0 rfl
      have hbp2 : bp < WO.heap.size := P2.lt
      have G0 : Hid (Blk (WO.alloc (.cells (List.replicate es.length (Value.bool false)).toArray 4)) WO.heap.size 4 (bools (fillD (fun i : Nat => isW01 (ev es (i : Int))) es.length 0))) := Lib.hid (by rw [fillD_zero]; exact Blk.new WO 4 _)
      clear P2
      go_wp2
      go_loopw [24] (fun i wr => ∃ k : Nat, k ≤ es.length ∧ i = .int .i64 k ∧ Blk wr WO.heap.size 4 (bools (fillD (fun i : Nat => isW01 (ev es (i : Int))) es.length k)) ∧ Below WO.heap.size WO wr) (fun i _ => es.length - (intOf i).toNat)
      case atStart => exact ⟨0, Nat.zero_le _, rfl, G0.out, (Below.refl _ _).alloc (Nat.le_refl _) _⟩
      case round =>
        obtain ⟨k, hk, rfl, hg, hb⟩ := hrel
        have HG := Lib.hid hg
        have HB := Lib.hid hb
        have hgl : WO.heap.size < wr.heap.size := hg.lt
        have R3 := Lib.hid (R2.out.below hb)
        clear hg hb
        by_cases hlk : k < es.length
        · obtain ⟨b, off, rfl, hb, x0, x1, x2, x3, x4, x5⟩ := RdE.at_ R3.out hlk
          have hset := Lib.hid (fillD_set (fun i : Nat => isW01 (ev es (i : Int))) es.length k hlk)
          have hcell := HG.out.cell k (bools_at _ k (by rw [fillD_length]; exact hlk))
          have hfree := HG.out.free k
          generalize (fillD (fun i : Nat => isW01 (ev es (i : Int))) es.length k)[k]'(by rw [fillD_length]; exact hlk) = old at hcell
          have i1 : (0 : Int) ≤ (k : Int) := by omega
          have i2 : (k : Int) < (es.length : Int) := by omega
          by_cases h1 : (ev es (k : Int)).kind = 1
          · have hv : Hid (isW01 (ev es (k : Int)) = true) := Lib.hid (by simp [isW01, h1])
            rw [h1] at x0
            clear h1
            go_wp2
            go_roundw
            case measure => simp [intOf]; omega
            case rel =>
              refine ⟨k + 1, by omega, by go_num, ?_, (HB.out.setCell (p := ⟨WO.heap.size, k, none⟩) (Nat.le_refl _) _).alloc (HB.out.setCell (p := ⟨WO.heap.size, k, none⟩) (Nat.le_refl _) _).size _⟩
              rw [← hset.out, bools_set]
              rw [hv.out]
              exact (HG.out.set k (.bool true)).alloc _
          · have hb1 : ((ev es (k : Int)).kind == 1) = false := beq_eq_false_iff_ne.2 h1
            have hv : Hid (isW01 (ev es (k : Int)) = ((ev es (k : Int)).kind == 2)) := Lib.hid (by simp [isW01, h1, beq_dec])
            clear h1
            go_wp2
            go_roundw
            case measure => simp [intOf]; omega
            case rel =>
              refine ⟨k + 1, by omega, by go_num, ?_, (HB.out.setCell (p := ⟨WO.heap.size, k, none⟩) (Nat.le_refl _) _).alloc (HB.out.setCell (p := ⟨WO.heap.size, k, none⟩) (Nat.le_refl _) _).size _⟩
              rw [← hset.out, bools_set]
              rw [hv.out]
              exact (HG.out.set k (.bool ((ev es (k : Int)).kind == 2))).alloc _
        · have hkn : k = es.length := by omega
          subst hkn
          have hbd : fillD (fun i : Nat => isW01 (ev es (i : Int))) es.length es.length = baseD es := fillD_all _ _
          rw [hbd] at HG
          clear hbd
          have hbl : (baseD es).length = es.length := by simp [baseD]
          have HBL := Lib.hid hbl
          have OF := Lib.hid (Row.below HOF.out HB.out)
          have ebit : ∀ k, ((((lowN (shrN s k) : Nat) : Int) == 1)) = bitS s k := fun k => by
            rw [bitS, beq_dec]
            by_cases h : lowN (shrN s k) = 1
            · rw [h]; rfl
            · rw [decide_eq_false h, decide_eq_false (by omega)]
          have EB := Lib.hid ebit
          have hs40 : s < 1099511627776 := Nat.lt_of_lt_of_le hlt (pow_le40 hfl)
          have ML := Lib.hid (show (freeF es).length = m from HM.out)
          clear ebit
          go_wp2
          go_loopw [45] (fun i wr => ∃ k : Nat, k ≤ m ∧ i = .int .i64 k ∧ Blk wr WO.heap.size 4 (bools (setTo (freeF es) s (baseD es) k)) ∧ Below WO.heap.size WO wr) (fun i _ => m - (intOf i).toNat)
          case atStart => exact ⟨0, Nat.zero_le _, rfl, HG.out, HB.out⟩
          case round =>
            obtain ⟨k, hk, rfl, hg, hb⟩ := hrel
            have HG2 := Lib.hid hg
            have HB2 := Lib.hid hb
            have OF2 := Lib.hid (Row.rd (Row.below HOF.out hb))
            have hgl : WO.heap.size < wr.heap.size := hg.lt
            clear hg hb
            by_cases hlk : k < m
            · obtain ⟨b, off, rfl, hb, hcell⟩ := Rd.one OF2.out hlk
              have hfk : k < (freeF es).length := by rw [ML.out]; exact hlk
              have d0 := hcell.trans (ints_at (freeF es) k hfk)
              obtain ⟨j, hj, hjl⟩ := (HFM.out _ (List.getElem_mem hfk)).nat
              have hgd : (freeF es).getD k 0 = (j : Int) := by rw [List.getD, List.getElem?_eq_getElem hfk, hj]; rfl
              rw [hj] at d0
              have HGD := Lib.hid hgd
              have hdl : j < (setTo (freeF es) s (baseD es) k).length := by rw [setTo_length, HBL.out]; exact hjl
              have c0 := HG2.out.cell j (bools_at _ j hdl)
              have f0 := HG2.out.free j
              generalize (setTo (freeF es) s (baseD es) k)[j]'hdl = old at c0
              have hsk : shrN s k < 1099511627776 := Nat.lt_of_le_of_lt (Nat.div_le_self _ _) hs40
              have hk40 : k ≤ 40 := by omega
              have i1 : (0 : Int) ≤ (j : Int) := by omega
              have i2 : (j : Int) < (es.length : Int) := by omega
              clear hgd hcell hj hdl hfk
              go_wp2
              go_roundw
              case measure => simp [intOf]; omega
              case rel =>
                refine ⟨k + 1, by omega, by go_num, ?_, HB2.out.setCell (p := ⟨WO.heap.size, j, none⟩) (Nat.le_refl _) _⟩
                rw [setTo, HGD.out, bools_set, EB.out]
                exact HG2.out.set j (.bool (bitS s k))
            · have hkm : k = m := by omega
              have EF : Hid (setTo (freeF es) s (baseD es) k = doneOf es s) := Lib.hid (by rw [doneOf, ML.out, hkm])
              have HG3 : Hid (Blk wr WO.heap.size 4 (bools (doneOf es s))) := Lib.hid (by rw [← EF.out]; exact HG2.out)
              have hdl : (doneOf es s).length = es.length := by rw [← EF.out, setTo_length, HBL.out]
              have hWO : W.heap.size ≤ WO.heap.size := HK1.out.size
              have hj3 : J (donesTo es s) wr := HJ.out _ _ _ HJ1.out (HB2.out.mono hWO)
              have hpre : donesTo es s ++ [doneOf es s] <+: donesF es := by rw [← donesTo_succ]; exact HD.out s hlt
              obtain ⟨fn, tmps, assign, body, hy, hR⟩ := HY.out (donesTo es s) (doneOf es s) #[.slice (some ⟨WO.heap.size, 0, none⟩) es.length es.length] wr hj3 hpre ⟨_, rfl, ownB_of_blk (by omega) HG3.out hdl (by omega)⟩
              have HR := Lib.hid hR
              have HDL := Lib.hid hdl
              have HWO := Lib.hid hWO
              have HPre := Lib.hid hpre
              subst hkm
              clear hj3 hdl hWO hpre hR
              go_upto_region 15 with fail
              refine wpIn_wide (n := 9).1 ?_
              gi_wp2_with (refine (roundN HR.out).mono ?_; rintro e W3 h3; obtain ⟨bb, rfl, hb3, hk3⟩ := round_of h3)
              have hkw : Kept W W3 S := (HK1.out.then_below HB2.out).trans hk3 (fun _ _ h => h)
              have HKW := Lib.hid hkw
              have HO3 : Hid (Row W3 W.heap.size 3 1 (.slice Af k cf) k (ints (freeF es))) := Lib.hid (Row.keep (Row.below HOF.out HB2.out) hk3 (fun g hg hs => by have := (Row.at_lt HOF.out hg).1; have := HS.out g hs; omega))
              have HB3 := Lib.hid hb3
              clear hkw hk3 hb3
              cases bb with
              | true =>
                have hj4 : Hid (J (donesTo es (s + 1)) W3) := Lib.hid (by
                  rw [donesTo_succ]
                  rcases HB3.out with ⟨_, h⟩ | ⟨h, _⟩
                  · exact h
                  · cases h)
                clear HB3
                go_wp2
                go_roundw
                case measure => simp [intOf]; omega
                case rel => exact ⟨s + 1, by omega, by go_num, hj4.out, HKW.out, HO3.out⟩
              | false =>
                have hj4 : Hid (∃ q, q <+: donesF es ∧ Jx q W3) := Lib.hid (by
                  rcases HB3.out with ⟨h, _⟩ | ⟨_, h⟩
                  · cases h
                  · exact ⟨_, HPre.out, h⟩)
                clear HB3
                go_wp2
                go_returns
                exact ⟨⟨_, rfl⟩, .inr hj4.out⟩
    · have hsm : s = powN m := by omega
      subst hsm
      go_wp2
      go_returns
      refine ⟨⟨_, rfl⟩, .inl ?_⟩
      have := HJ1.out
      rw [← HM.out] at this
      exact this
end Go.Proofs.YtkddckfgdiemkaaGreat
