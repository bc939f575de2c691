/-
  The iterator over all orders of a list of events that keep the order of each thread.
-/
import Derived.Test.YtkddckfgdiemkaaGreatCW2
import Derived.Test.YtkddckfgdiemkaaGreatCRng
import Derived.Shelf.Abstract
import Derived.Shelf.RegionOpen
import Derived.OwnWalkIn
import Derived.TacticsInMore
import Derived.LoopNIn
import Derived.LoopIn
import Derived.Deep.CutRange
set_option linter.unusedVariables false
set_option linter.unusedSimpArgs false
namespace Go.Proofs.YtkddckfgdiemkaaGreat
open Go.RowKit Go.Shelf Mem
set_option maxRecDepth 100000
attribute [local go_sem] Oper.semAt_some

theorem roundN {n m : Nat} {P : Program} {l : Nat} {f : FuncId} {tmps : Array Value} {assign body : Code} {w : World} {R : Ending → World → Prop} (h : RoundIn Fence.wide n P l f tmps assign body w R) : RoundIn Fence.wide m P l f tmps assign body w R := ⟨h.1, fun c cs _ => h.2 c cs (fun d h => by cases h)⟩
/-- What a round tells. -/
theorem round_tells {W : World} {p q : World → Prop} {e : Ending} {W' : World} (h : (e = .returned (.bool true) ∧ p W') ∨ (e = .returned (.bool false) ∧ q W')) : ∃ b, e = .returned (.bool b) ∧ ((b = true ∧ p W') ∨ (b = false ∧ q W')) := by
  rcases h with ⟨h, h1⟩ | ⟨h, h1⟩
  · exact ⟨_, h, .inl ⟨rfl, h1⟩⟩
  · exact ⟨_, h, .inr ⟨rfl, h1⟩⟩
/-- All orders of a list that keep the order of each thread; n: how many there are. -/
def mergesW (th : Int → Int) : Nat → List Int → List Int → List (List Int)
  | 0, out, _ => [out]
  | n + 1, out, left => (List.range left.length).flatMap fun i => if (left.take i).any (fun x => decide (th x = th (left.getD i 0))) then [] else mergesW th n (out ++ [left.getD i 0]) (left.take i ++ left.drop (i + 1))
/-- The first k rounds. -/
def mergesTo (th : Int → Int) (n : Nat) (out left : List Int) (k : Nat) : List (List Int) :=
  (List.range k).flatMap fun i => if (left.take i).any (fun x => decide (th x = th (left.getD i 0))) then [] else mergesW th n (out ++ [left.getD i 0]) (left.take i ++ left.drop (i + 1))
theorem mergesTo_succ (th : Int → Int) (n : Nat) (out left : List Int) (k : Nat) : mergesTo th n out left (k + 1) = mergesTo th n out left k ++
    (if (left.take k).any (fun x => decide (th x = th (left.getD k 0))) then [] else mergesW th n (out ++ [left.getD k 0]) (left.take k ++ left.drop (k + 1))) := by
  simp only [mergesTo, List.range_succ, List.flatMap_append, List.flatMap_cons, List.flatMap_nil, List.append_nil]
theorem mergesTo_all (th : Int → Int) (n : Nat) (out left : List Int) : mergesW th (n + 1) out left = mergesTo th n out left left.length := rfl
theorem mergesTo_le (th : Int → Int) (n : Nat) (out left : List Int) {k j : Nat} (h : k ≤ j) : mergesTo th n out left k <+: mergesTo th n out left j := by
  induction j with
  | zero => rw [show k = 0 by omega]; exact List.prefix_refl _
  | succ j ih =>
    by_cases hk : k = j + 1
    · rw [hk]; exact List.prefix_refl _
    · rw [mergesTo_succ]; exact (ih (by omega)).trans (List.prefix_append _ _)

abbrev walkV (by_ bp bw : Nat) : Value := .func (.func 69) #[] #[.pointer (some ⟨by_, 0, none⟩), .pointer (some ⟨bp, 0, none⟩), .pointer (some ⟨bw, 0, none⟩)]
/-- What the walk has captured. -/
structure Cap (W : World) (S : Nat → Prop) (B l : Nat) (es : List Ev) (pv : Value) (by_ bp bw : Nat) : Prop where
  y : Blk W by_ 118 [.func (.yield l) #[] #[]]
  p : Blk W bp 65 [pv]
  w : Blk W bw 41 [walkV by_ bp bw]
  rd : RdE W pv es
  sy : ¬ S by_
  sp : ¬ S bp
  sw : ¬ S bw
  sv : ∀ g, pv.ownBlock = some g → ¬ S g
theorem Cap.keep {W W' : World} {S : Nat → Prop} {B l : Nat} {es : List Ev} {pv : Value} {by_ bp bw : Nat} (h : Cap W S B l es pv by_ bp bw) (k : Kept W W' S) : Cap W' S B l es pv by_ bp bw :=
  ⟨h.y.keep k h.sy, h.p.keep k h.sp, h.w.keep k h.sw, h.rd.keep k h.sv, h.sy, h.sp, h.sw, h.sv⟩
theorem Cap.below {W W' : World} {S : Nat → Prop} {B l : Nat} {es : List Ev} {pv : Value} {by_ bp bw : Nat} (h : Cap W S B l es pv by_ bp bw) (k : Below W.heap.size W W') : Cap W' S B l es pv by_ bp bw :=
  h.keep (Kept.of_below k _)
/-- What the walk leaves. -/
def Walked (S : Nat → Prop) (J Jx : List (List Int) → World → Prop) (xs : List (List Int)) (pre ys : List (List Int)) (W : World) (e : Ending) (W' : World) : Prop :=
  (e = .returned (.bool true) ∧ J (pre ++ ys) W' ∧ Kept W W' S) ∨ (e = .returned (.bool false) ∧ (∃ q, q <+: xs ∧ Jx q W') ∧ Kept W W' S)
theorem walked_tells {S : Nat → Prop} {J Jx : List (List Int) → World → Prop} {xs pre ys : List (List Int)} {W : World} {e : Ending} {W' : World} (h : Walked S J Jx xs pre ys W e W') : ∃ b, e = .returned (.bool b) ∧ ((b = true ∧ J (pre ++ ys) W') ∨ (b = false ∧ ∃ q, q <+: xs ∧ Jx q W')) ∧ Kept W W' S := by
  rcases h with ⟨h, h1⟩ | ⟨h, h1⟩
  · exact ⟨_, h, .inl ⟨rfl, h1.1⟩, h1.2⟩
  · exact ⟨_, h, .inr ⟨rfl, h1.1⟩, h1.2⟩
set_option maxHeartbeats 2000000 in
theorem walk_zero {l B : Nat} {S : Nat → Prop} {J Jx : List (List Int) → World → Prop} {xs : List (List Int)} {es : List Ev} {pv : Value} {by_ bp bw : Nat} (hJ : Abide B J)
    (hY : ∀ pre x vs W1, J pre W1 → (pre ++ [x]) <+: xs → (∃ v, vs = #[v] ∧ Own W1 B v x) → YieldAt Fence.wide 9 Tryz.prog l vs W1 fun e W' =>
      (e = .returned (.bool true) ∧ J (pre ++ [x]) W' ∧ Kept W1 W' S) ∨ (e = .returned (.bool false) ∧ Jx (pre ++ [x]) W' ∧ Kept W1 W' S))
    {out : List Int} {ov lv : Value} {pre : List (List Int)} {W : World} (hc : Cap W S B l es pv by_ bp bw) (hB : B ≤ W.heap.size) (ho : Own W 0 ov out) (hl : RdI W lv []) (hlen : out.length < 900000) (hj : J pre W) (hx : (pre ++ [out]) <+: xs) :
    CallsIn Fence.wide 9 Tryz.prog 69 #[ov, lv, .pointer (some ⟨by_, 0, none⟩), .pointer (some ⟨bp, 0, none⟩), .pointer (some ⟨bw, 0, none⟩)] W (Walked S J Jx xs pre [out] W) := by
  obtain ⟨A, c, rfl, hc1, hc2⟩ := hl.shape
  have hy0 := hc.y.cell 0 rfl
  have HC := Lib.hid hc
  have HO := Lib.hid ho
  clear hc ho hl
  refine callsIn_wide.2 ?_
  go_enter Tryz.func69, Tryz.ntmps69
  go_upto_region 2 with fail
  refine wpIn_wide (n := 9).1 ?_
  have hmix : Tryz.prog.follows Departure.mixedOrders = true := by kernel_rfl
  gi_region_with_o (first | (refine (roundN hR).mono ?_; rintro e W3 h3; obtain ⟨bb, rfl, hb3⟩ := round_tells (p := fun W' => J (pre ++ [out]) W' ∧ Kept w' W' S) (q := fun W' => Jx (pre ++ [out]) W' ∧ Kept w' W' S) (W := W) h3) | (refine ⟨trivial, ?_⟩; gi_at_call 66; refine (callsIn_wide.2 (iclone_any (HO.out.below ((Below.refl _ W).drew)) (by omega))).mono ?_; rintro e w' ⟨u, rfl, hown, hbel0⟩; have hbel : Below W.heap.size W w' := ((Below.refl _ W).drew).trans hbel0; have hj1 := hJ _ _ _ hj (hbel.mono hB); have hy1 := (HC.out.below hbel).y.cell 0 rfl; obtain ⟨fn, tmps, assign, body, hy, hR⟩ := hY pre out #[u] w' hj1 hx ⟨u, rfl, Row.mono hown hB⟩))
  all_goals rcases hb3 with ⟨rfl, hJ3, hk3⟩ | ⟨rfl, hJ3, hk3⟩
  all_goals go_wp2
  all_goals go_ret
  · exact .inl ⟨rfl, hJ3, (Kept.of_below hbel _).trans hk3 (fun _ _ h => h)⟩
  · exact .inr ⟨rfl, ⟨_, hx, hJ3⟩, (Kept.of_below hbel _).trans hk3 (fun _ _ h => h)⟩
  · exact .inl ⟨rfl, hJ3, (Kept.of_below hbel _).trans hk3 (fun _ _ h => h)⟩
  · exact .inr ⟨rfl, ⟨_, hx, hJ3⟩, (Kept.of_below hbel _).trans hk3 (fun _ _ h => h)⟩
abbrev thOf (es : List Ev) (x : Int) : Int := (ev es x).th
/-- The walk's contract for lists of length n. -/
def WalkAt (l B : Nat) (S : Nat → Prop) (J Jx : List (List Int) → World → Prop) (xs : List (List Int)) (es : List Ev) (pv : Value) (by_ bp bw : Nat) (n : Nat) : Prop :=
  ∀ (out left : List Int) (ov lv : Value) (pre : List (List Int)) (W : World), left.length = n → Cap W S B l es pv by_ bp bw → B ≤ W.heap.size → Own W 0 ov out → (∀ g, ov.ownBlock = some g → ¬ S g) → RdI W lv left → (∀ g, lv.ownBlock = some g → ¬ S g) →
    (∀ x ∈ left, In es x) → out.length + n < 900000 → J pre W → (pre ++ mergesW (thOf es) n out left) <+: xs →
    CallsIn Fence.wide 9 Tryz.prog 69 #[ov, lv, .pointer (some ⟨by_, 0, none⟩), .pointer (some ⟨bp, 0, none⟩), .pointer (some ⟨bw, 0, none⟩)] W (Walked S J Jx xs pre (mergesW (thOf es) n out left) W)
set_option maxHeartbeats 2000000 in
theorem walk_succ {l B : Nat} {S : Nat → Prop} {J Jx : List (List Int) → World → Prop} {xs : List (List Int)} {es : List Ev} {pv : Value} {by_ bp bw : Nat} (hJ : Abide B J) (hSB : ∀ k, S k → k < B) {n : Nat} (IH : WalkAt l B S J Jx xs es pv by_ bp bw n) :
    WalkAt l B S J Jx xs es pv by_ bp bw (n + 1) := by
  intro out left ov lv pre W hn hc hB ho hos hl hls hin hlen hj hx
  obtain ⟨A, c, rfl, hc1, hc2⟩ := hl.shape
  obtain ⟨Ao, co, rfl, hco1, hco2⟩ := ho.rd.shape
  rw [mergesTo_all] at hx ⊢
  have HC := Lib.hid hc
  have HO := Lib.hid ho
  have HL := Lib.hid hl
  have HIN := Lib.hid hin
  have HX := Lib.hid hx
  have HIH := Lib.hid IH
  have hne : ((left.length : Int) == 0) = false := beq_eq_false_iff_ne.2 (by omega)
  have Hos := Lib.hid hos
  have Hls := Lib.hid hls
  have Hn := Lib.hid hn
  have Hlen := Lib.hid hlen
  have Hj := Lib.hid hj
  clear hc ho hl hin hx IH hos hls hn hlen hj
  refine callsIn_wide.2 ?_
  go_enter Tryz.func69, Tryz.ntmps69
  go_wp2
  go_loopw [20] (fun i wr => ∃ k : Nat, k ≤ left.length ∧ i = .int .i64 k ∧ J (pre ++ mergesTo (thOf es) n out left k) wr ∧ Kept W wr S) (fun i _ => left.length - (intOf i).toNat)
  case atStart => exact ⟨0, Nat.zero_le _, rfl, by simpa [mergesTo] using Hj.out, Kept.refl _ _⟩
  case round =>
    obtain ⟨k, hk, rfl, hjk, hkept⟩ := hrel
    have HJ := Lib.hid hjk
    have HK := Lib.hid hkept
    have C1 := Lib.hid (HC.out.keep hkept)
    have L1 := Lib.hid (Rd.keep HL.out hkept Hls.out)
    have O1 := Lib.hid (Row.keep HO.out hkept Hos.out)
    have hBw : B ≤ wr.heap.size := Nat.le_trans hB hkept.size
    clear hjk hkept
    by_cases hlt : k < left.length
    · obtain ⟨b, off, rfl, hb, hcell⟩ := L1.out.one hlt
      have d0 := hcell.trans (ints_at left k hlt)
      clear hcell
      obtain ⟨e, he⟩ : ∃ e, left[k] = e := ⟨_, rfl⟩
      rw [he] at d0
      have hg : left.getD k 0 = e := by rw [List.getD, List.getElem?_eq_getElem hlt, he]; rfl
      have hem : In es e := by rw [← he]; exact HIN.out _ (List.getElem_mem hlt)
      have HE := Lib.hid hem
      have HG := Lib.hid hg
      have i1 : (0 : Int) ≤ (k : Int) := by omega
      have i2 : (k : Int) ≤ (left.length : Int) := by omega
      have b1 : Below wr.heap.size wr (wr.alloc (.cells #[.int .i64 e] 3)) := (Below.refl _ _).alloc (Nat.le_refl _) _
      have E1 := Lib.hid (Blk.new wr 3 [.int .i64 e])
      have B1 := Lib.hid b1
      have C2 := Lib.hid (C1.out.below b1)
      have F1 := Lib.hid ((Rd.front L1.out hk).below b1)
      have A1 : Hid (Asks (wr.alloc (.cells #[.int .i64 e] 3)) 71 #[.pointer (some ⟨bp, 0, none⟩), .pointer (some ⟨wr.heap.size, 0, none⟩)] (fun x => decide (thOf es x = thOf es e)) (left.take k)) :=
        Lib.hid (fun x hx W2 hb2 => samethread_any ((C2.out.below hb2).p.cell 0 rfl) (C2.out.below hb2).rd ((E1.out.below hb2).cell 0 rfl) (HIN.out x (List.mem_of_mem_take hx)) HE.out)
      clear b1 he hg hem
      cases hbl : (left.take k).any (fun x => decide (thOf es x = thOf es e)) with
      | true =>
        have HBl := Lib.hid hbl
        clear hbl
        go_wp2_with (go_at_call 70; refine (containsfunc_any F1.out A1.out).mono ?_; rintro e1 w1 ⟨rfl, hb1⟩; rw [HBl.out])
        have hbw : Below wr.heap.size wr w1 := B1.out.trans (hb1.mono B1.out.size)
        have BW := Lib.hid hbw
        clear hb1 hbw
        go_quiet (fail)
        go_wp2
        go_roundw
        case measure => simp [intOf]; omega
        case rel =>
          refine ⟨k + 1, by omega, by go_num, ?_, HK.out.then_below (BW.out.drewN _)⟩
          rw [mergesTo_succ, HG.out, if_pos HBl.out, List.append_nil]
          exact hJ _ _ _ HJ.out ((BW.out.drewN _).mono hBw)
      | false =>
        have HBl := Lib.hid hbl
        clear hbl
        go_wp2_with (go_at_call 70; refine (containsfunc_any F1.out A1.out).mono ?_; rintro e1 w1 ⟨rfl, hb1⟩; rw [HBl.out])
        have hbw : Below wr.heap.size wr w1 := B1.out.trans (hb1.mono B1.out.size)
        have BW := Lib.hid hbw
        have C3 := Lib.hid (C2.out.below hb1)
        have E3 := Lib.hid (E1.out.below hb1)
        have w1c := C3.out.w.cell 0 rfl
        have e1c := E3.out.cell 0 rfl
        have L3 := Lib.hid (L1.out.below hbw)
        have O3 := Lib.hid (O1.out.below hbw)
        have j1 : (0 : Int) ≤ (k : Int) + 1 := by omega
        have j2 : (k : Int) + 1 ≤ (left.length : Int) := by omega
        have j3 : (left.length : Int) ≤ (c : Int) := by omega
        have j4 : (k : Int) ≤ (c : Int) := by omega
        have j5 : IntKind.i64.wrap ((k : Int) + 1) = (k : Int) + 1 := by rw [IntKind.wrap_i64]; omega
        have hk1 : k + 1 ≤ left.length := hlt
        have hfr : RdS w1 (.slice (some ⟨b, off, none⟩) k c) (left.take k) := ⟨Rd.front L3.out hk, ⟨b, off, none⟩, c, by rw [List.length_take, Nat.min_eq_left hk]⟩
        have hbk : RdS w1 (.slice (if c = k + 1 then some ⟨b, off, none⟩ else some ⟨b, off + (k + 1), none⟩) (left.length - (k + 1)) (c - (k + 1))) (left.drop (k + 1)) := Rd.tail L3.out hk1
        have hall : ∀ (W0 : World), Below w1.heap.size w1 W0 → RdI W0 (.slice Ao out.length out.length) out ∧ RdS W0 (.slice (some ⟨b, off, none⟩) k c) (left.take k) ∧ RdS W0 (.slice (if c = k + 1 then some ⟨b, off, none⟩ else some ⟨b, off + (k + 1), none⟩) (left.length - (k + 1)) (c - (k + 1))) (left.drop (k + 1)) :=
          fun W0 h0 => ⟨(Rd.clip (Row.rd O3.out)).below h0, hfr.below h0, hbk.below h0⟩
        have HA := Lib.hid hall
        have hwe : ∀ (W0 : World), Below w1.heap.size w1 W0 → W0.cell? ⟨bw, 0, none⟩ = some (walkV by_ bp bw) ∧ W0.cell? ⟨wr.heap.size, 0, none⟩ = some (.int .i64 e) := fun W0 h0 => ⟨(C3.out.below h0).w.cell 0 rfl, (E3.out.below h0).cell 0 rfl⟩
        have HWE := Lib.hid hwe
        have hstep : mergesTo (thOf es) n out left (k + 1) = mergesTo (thOf es) n out left k ++ mergesW (thOf es) n (out ++ [e]) (left.take k ++ left.drop (k + 1)) := by
          rw [mergesTo_succ, HG.out, if_neg (by rw [HBl.out]; decide)]
        have HS := Lib.hid hstep
        have hwk : ∀ (W3 : World) (ov lv : Value), Below w1.heap.size w1 W3 → Own W3 w1.heap.size ov (out ++ [e]) → Own W3 w1.heap.size lv (left.take k ++ left.drop (k + 1)) →
            CallsIn Fence.wide 9 Tryz.prog 69 #[ov, lv, .pointer (some ⟨by_, 0, none⟩), .pointer (some ⟨bp, 0, none⟩), .pointer (some ⟨bw, 0, none⟩)] W3
              (Walked S J Jx xs (pre ++ mergesTo (thOf es) n out left k) (mergesW (thOf es) n (out ++ [e]) (left.take k ++ left.drop (k + 1))) W3) := fun W3 ov lv h0 h1 h2 => by
          refine HIH.out (out ++ [e]) (left.take k ++ left.drop (k + 1)) ov lv _ W3 ?_ (C3.out.below h0) ?_ (Row.mono h1 (Nat.zero_le _)) ?_ (Row.rd h2) ?_ ?_ ?_ ?_ ?_
          · have := Hn.out; simp; omega
          · have := BW.out.size; have := h0.size; omega
          · intro g hg hsg
            have := (Row.at_lt h1 hg).1; have := hSB g hsg; have := BW.out.size; omega
          · intro g hg hsg
            have := (Row.at_lt h2 hg).1; have := hSB g hsg; have := BW.out.size; omega
          · intro x hx
            rcases List.mem_append.1 hx with h | h
            · exact HIN.out x (List.mem_of_mem_take h)
            · exact HIN.out x (List.mem_of_mem_drop h)
          · have := Hlen.out; simp; omega
          · exact hJ _ _ _ HJ.out ((BW.out.trans (h0.mono BW.out.size)).mono hBw)
          · rw [List.append_assoc, ← hstep]
            exact (List.prefix_append_right_inj _).2 (mergesTo_le _ _ _ _ hlt) |>.trans HX.out
        have HWK := Lib.hid hwk
        have hwk4 : ∀ (W3 W4 : World), Below w1.heap.size w1 W3 → Kept W3 W4 S → W4.cell? ⟨bw, 0, none⟩ = some (walkV by_ bp bw) ∧ W4.cell? ⟨wr.heap.size, 0, none⟩ = some (.int .i64 e) := fun W3 W4 h0 h1 =>
          ⟨((C3.out.below h0).keep h1).w.cell 0 rfl, ((E3.out.below h0).keep h1 (fun hs => by have := hSB _ hs; omega)).cell 0 rfl⟩
        have HWK4 := Lib.hid hwk4
        have hB1 : B ≤ w1.heap.size := Nat.le_trans hBw hbw.size
        have hcl : ([left.take k, left.drop (k + 1)] : List (List Int)).flatten.length < 1000000 := by have := Hlen.out; have := Hn.out; simp; omega
        have hol : out.length < 1000000 := by have := Hlen.out; omega
        have b1 : Below w1.heap.size w1 w1.drew := (Below.refl _ w1).drew
        clear hb1 hbw hfr hbk hall hwe hstep hwk hwk4
        go_region_held3 (fun w' => w'.cell? ⟨bw, 0, none⟩ = some (walkV by_ bp bw) ∧ w'.cell? ⟨wr.heap.size, 0, none⟩ = some (.int .i64 e)) (first | exact hs4 | exact HWE.out _ b1 | exact HWE.out _ (b1.alloc (Nat.le_refl _) _) | exact HWE.out _ ((b1.alloc (Nat.le_refl _) _).alloc (by simp) _) | exact HWE.out _ hb3 | exact HWE.out _ hb2 | exact HWE.out _ (hb2.alloc hb2.size _))
          (first
            | (go_at_call 72; refine (clip_any hco1).mono ?_; rintro e2 w2 ⟨rfl, rfl⟩; dsimp only)
            | (refine step_app_full (by rfl) _ _ (by rfl) Ao out.length out (by rfl) (HA.out _ (b1.alloc (Nat.le_refl _) _)).1 _ e (by rfl) (cell_at_new _ _ rfl) hol ?_; intro v2 w2 hown2 hbel2; have ho2 : Own w2 w1.heap.size v2 (out ++ [e]) := Row.mono hown2 (by simp); have hb2 : Below w1.heap.size w1 w2 := (b1.alloc (Nat.le_refl _) _).trans (hbel2.mono (by simp)))
            | (refine step_app_full (by rfl) _ _ (by rfl) Ao out.length out (by rfl) (HA.out _ ((b1.alloc (Nat.le_refl _) _).alloc (by simp) _)).1 _ e (by rfl) (cell_at_new _ _ (by simp)) hol ?_; intro v2 w2 hown2 hbel2; have ho2 : Own w2 w1.heap.size v2 (out ++ [e]) := Row.mono hown2 (by first | (simp; done) | (simp; omega)); have hb2 : Below w1.heap.size w1 w2 := ((b1.alloc (Nat.le_refl _) _).alloc (by simp) _).trans (hbel2.mono (by first | (simp; done) | (simp; omega))); have hpc : Blk w2 w1.heap.size 28 [.slice (some ⟨b, off, none⟩) k c, .slice (if c = k + 1 then some ⟨b, off, none⟩ else some ⟨b, off + (k + 1), none⟩) (left.length - (k + 1)) (c - (k + 1))] := ((Blk.new w1.drew 28 [.slice (some ⟨b, off, none⟩) k c, .slice (if c = k + 1 then some ⟨b, off, none⟩ else some ⟨b, off + (k + 1), none⟩) (left.length - (k + 1)) (c - (k + 1))]).alloc _).below hbel2)
            | (refine step_app_full (by rfl) _ _ (by rfl) Ao out.length out (by rfl) (HA.out _ ((b1.alloc (Nat.le_refl _) _).alloc (by simp) _)).1 _ e (by rfl) (((Blk.new w1.drew 3 [.int .i64 e]).alloc _).cell 0 rfl) hol ?_; intro v2 w2 hown2 hbel2; have ho2 : Own w2 w1.heap.size v2 (out ++ [e]) := Row.mono hown2 (by first | (simp; done) | (simp; omega)); have hb2 : Below w1.heap.size w1 w2 := ((b1.alloc (Nat.le_refl _) _).alloc (by simp) _).trans (hbel2.mono (by first | (simp; done) | (simp; omega))); have hpc : Blk w2 (w1.heap.size + 1) 28 [.slice (some ⟨b, off, none⟩) k c, .slice (if c = k + 1 then some ⟨b, off, none⟩ else some ⟨b, off + (k + 1), none⟩) (left.length - (k + 1)) (c - (k + 1))] := (blk_at_new (W := w1.drew.alloc (.cells #[.int .i64 e] 3)) (n := w1.heap.size + 1) 28 [.slice (some ⟨b, off, none⟩) k c, .slice (if c = k + 1 then some ⟨b, off, none⟩ else some ⟨b, off + (k + 1), none⟩) (left.length - (k + 1)) (c - (k + 1))] (by simp)).below hbel2)
            | (go_at_call 73; refine (concat_any (ls := [left.take k, left.drop (k + 1)]) (pcs2 hpc (HA.out _ hb2).2.1 (HA.out _ hb2).2.2) hcl).mono ?_; rintro e3 w3 ⟨u3, rfl, hown3, hbel3⟩; have hb3 : Below w1.heap.size w1 w3 := hb2.trans (hbel3.mono hb2.size); have ho23 : Own w3 w1.heap.size v2 (out ++ [e]) := ho2.below hbel3; have ho3 : Own w3 w1.heap.size u3 (left.take k ++ left.drop (k + 1)) := by { have := Row.mono hown3 hb2.size; simpa [Own] using this }; dsimp only)
            | (go_at_call 73; refine (concat_any (ls := [left.take k, left.drop (k + 1)]) (pcs2 (Blk.new w2 28 _) (HA.out _ (hb2.alloc hb2.size _)).2.1 (HA.out _ (hb2.alloc hb2.size _)).2.2) hcl).mono ?_; rintro e3 w3 ⟨u3, rfl, hown3, hbel3⟩; have hb3 : Below w1.heap.size w1 w3 := (hb2.alloc hb2.size _).trans (hbel3.mono (by have := hb2.size; simp; omega)); have ho23 : Own w3 w1.heap.size v2 (out ++ [e]) := (Row.below ho2 ((Below.refl _ _).alloc (Nat.le_refl _) _)).below hbel3; have ho3 : Own w3 w1.heap.size u3 (left.take k ++ left.drop (k + 1)) := by { have := Row.mono hown3 (B' := w1.heap.size) (by have := hb2.size; simp; omega); simpa [Own] using this }; dsimp only)
            | (go_at_call 69; refine (callsIn_wide.1 (HWK.out w3 _ _ hb3 ho23 ho3)).mono ?_; rintro e4 w4 hw4; obtain ⟨bb, rfl, hb4, hk4⟩ := walked_tells hw4; have hb5 := hb3; have hs4 := HWK4.out w3 w4 hb3 hk4; dsimp only))
        all_goals have hkw : Kept W w4 S := ((HK.out.then_below BW.out).then_below (hb3.mono (Nat.le_refl _))).trans hk4 (fun _ _ h => h)
        all_goals have HKW := Lib.hid hkw
        all_goals have HB4 := Lib.hid hb4
        all_goals clear hkw hb4 hk4 hs4 hb2 hb3 hb5 hown2 hbel2 ho2 hown3 hbel3 ho23 ho3 hw4
        all_goals (cases bb with
          | true =>
            have hj4 : Hid (J (pre ++ mergesTo (thOf es) n out left (k + 1)) w4) := Lib.hid (by
              rw [HS.out, ← List.append_assoc]
              rcases HB4.out with ⟨_, h⟩ | ⟨h, _⟩
              · exact h
              · cases h)
            clear HB4
            go_wp2
            go_roundw
            case measure => simp [intOf]; omega
            case rel => exact ⟨k + 1, by omega, by go_num, hj4.out, HKW.out⟩
          | false =>
            have hj4 : Hid (∃ q, q <+: xs ∧ Jx q w4) := Lib.hid (by
              rcases HB4.out with ⟨h, _⟩ | ⟨_, h⟩
              · cases h
              · exact h)
            clear HB4
            go_wp2
            all_goals go_ret
            all_goals exact .inr ⟨rfl, hj4.out, HKW.out⟩)
    · have hkn : k = left.length := by omega
      subst hkn
      go_wp2
      go_ret
      exact .inl ⟨rfl, HJ.out, HK.out⟩
theorem walk_at {l B : Nat} {S : Nat → Prop} {J Jx : List (List Int) → World → Prop} {xs : List (List Int)} {es : List Ev} {pv : Value} {by_ bp bw : Nat} (hJ : Abide B J) (hSB : ∀ k, S k → k < B)
    (hY : ∀ pre x vs W1, J pre W1 → (pre ++ [x]) <+: xs → (∃ v, vs = #[v] ∧ Own W1 B v x) → YieldAt Fence.wide 9 Tryz.prog l vs W1 fun e W' =>
      (e = .returned (.bool true) ∧ J (pre ++ [x]) W' ∧ Kept W1 W' S) ∨ (e = .returned (.bool false) ∧ Jx (pre ++ [x]) W' ∧ Kept W1 W' S)) :
    ∀ n, WalkAt l B S J Jx xs es pv by_ bp bw n
  | 0 => fun out left ov lv pre W hn hc hB ho hos hl hls hin hlen hj hx => by
    obtain rfl := List.eq_nil_of_length_eq_zero hn
    exact walk_zero hJ hY hc hB ho hl (by omega) hj hx
  | n + 1 => walk_succ hJ hSB (walk_at hJ hSB hY n)
end Go.Proofs.YtkddckfgdiemkaaGreat
