/-
  The walks of Play's do, by both choosers (written by gen_w52.py).
-/
import Derived.Test.YtkddckfgdiemkaaGreatCW49
import Derived.Test.YtkddckfgdiemkaaGreatCW50
import Derived.Test.YtkddckfgdiemkaaGreatCW51
import Derived.Test.YtkddckfgdiemkaaGreatRows
import Derived.Deep.Slices
import Derived.Deep.Fields
import Derived.ChangeSame
import Derived.ProofKit
import Derived.OpenShut
import Derived.SizedLaws
import Derived.Lib.SmallJoins
set_option linter.unusedVariables false
set_option linter.unusedSimpArgs false
namespace Go.Proofs.YtkddckfgdiemkaaGreat
open Go.RowKit Go.Shelf Mem
set_option maxRecDepth 100000
attribute [local go_sem] Oper.semAt_some

abbrev esP (ps : List (List Ev)) : List Ev := esOf (expP ps)
abbrev nP (ps : List (List Ev)) : Nat := (expP ps).length
abbrev FineP (ps : List (List Ev)) (m : VM) : Prop := Fine (esP ps) (nP ps) (offQ (expP ps)) m
abbrev stepP (ps : List (List Ev)) (m : VM) (who : Int) (pick : Nat → Nat) : VM := stepF (esP ps) (nP ps) (offQ (expP ps)) m who pick
theorem FineP.vb {ps : List (List Ev)} {m : VM} (hv : Valid ps) (hi : FineP ps m) : VB (esP ps) (nP ps) (offQ (expP ps)) m := Fine.vb (shape_of hv) (by have h : (esP ps).length ≤ 14 := esOf_len hv; omega) hi
theorem VB.ok {es : List Ev} {N : Nat} {off : Nat → Nat} {m : VM} (h : VB es N off m) : VmOk m := ⟨h.ln, fun l _ => h.ll l, h.ms⟩
theorem choicesF_len {m : VM} {t L : Nat} {K V W R T : Int} (h : (m.ln L).length ≤ 1000) : (choicesF m t ⟨K, (L : Int), V, W, R, T⟩).length < 1000000 := by
  unfold choicesF
  split
  · simp
  · have := choicesTo_len m ⟨K, (L : Int), V, W, R, T⟩ (place m.line (⟨K, (L : Int), V, W, R, T⟩ : Ev).loc.toNat ((m.th t).now.at_ (⟨K, (L : Int), V, W, R, T⟩ : Ev).loc.toNat)) ((m.ln (⟨K, (L : Int), V, W, R, T⟩ : Ev).loc.toNat).length - place m.line (⟨K, (L : Int), V, W, R, T⟩ : Ev).loc.toNat ((m.th t).now.at_ (⟨K, (L : Int), V, W, R, T⟩ : Ev).loc.toNat))
    have e : (m.ln (⟨K, (L : Int), V, W, R, T⟩ : Ev).loc.toNat).length = (m.ln L).length := rfl
    omega
theorem next_ok {ps : List (List Ev)} {m : VM} (hv : Valid ps) (hi : FineP ps m) {t : Nat} (ht : t < nP ps) (hn : offQ (expP ps) t + (m.th t).next < offQ (expP ps) (t + 1)) :
    ∃ (K : Int) (L : Nat) (V W R : Int), NextOk (expP ps) m t L K V W R ∧ E (esP ps) (offQ (expP ps) t + (m.th t).next) = ⟨K, (L : Int), V, W, R, (t : Int)⟩ ∧ 0 < (choicesF m t ⟨K, (L : Int), V, W, R, (t : Int)⟩).length ∧ (choicesF m t ⟨K, (L : Int), V, W, R, (t : Int)⟩).length < 1000000 := by
  have vb := FineP.vb hv hi
  have hp : Shape (esP ps) (nP ps) (offQ (expP ps)) := shape_of hv
  rw [offQ_succ] at hn
  have hlt : offQ (expP ps) t + (m.th t).next < (esP ps).length := by
    have hN : t + 1 ≤ nP ps := ht
    have : ∀ d, t + 1 + d ≤ nP ps → offQ (expP ps) (t + 1) ≤ offQ (expP ps) (t + 1 + d) := fun d => by
      induction d with
      | zero => intro _; exact Nat.le_refl _
      | succ d ih => intro h; have := ih (by omega); have := hp.mono (t + 1 + d) (by omega); rw [show t + 1 + (d + 1) = t + 1 + d + 1 by omega]; omega
    have h2 := this (nP ps - (t + 1)) (by omega)
    rw [show t + 1 + (nP ps - (t + 1)) = nP ps by omega, hp.e, offQ_succ] at h2
    omega
  have hE := E_at (expP ps) (t := t) (i := (m.th t).next) ht (by omega)
  have hok := esOf_ok hv _ hlt
  rw [hE] at hok ⊢
  obtain ⟨o, ho⟩ : ∃ o, ev ((expP ps).getD t []) ((m.th t).next : Int) = o := ⟨_, rfl⟩
  rw [ho] at hok ⊢
  obtain ⟨K, Lz, V, W, R, T⟩ := o
  have hl : 0 ≤ Lz ∧ Lz < 3 := hok.l
  obtain ⟨L, rfl⟩ : ∃ L : Nat, Lz = (L : Int) := ⟨Lz.toNat, by omega⟩
  have hL : L < 3 := by omega
  obtain ⟨⟨g, hg⟩, _⟩ := hi
  refine ⟨K, L, V, W, R, ⟨by rw [vb.len], by rw [vb.len]; exact ht, by omega, ⟨T, ho⟩, hL, hok.k, hok.o, Nat.le_of_lt (hg.lines.place_lt hL _), vb.ok, vb.rl t ht, ?_⟩, rfl, choices_pos hp hg ⟨K, (L : Int), V, W, R, (t : Int)⟩ hL t, choicesF_len (vb.ll L)⟩
  have h14 : (esP ps).length ≤ 14 := esOf_len hv
  omega
theorem stepP_yes {ps : List (List Ev)} {m : VM} {t : Nat} {K V W R : Int} {L : Nat} {pick : Nat → Nat} (ht : t < nP ps) (hn : offQ (expP ps) t + (m.th t).next < offQ (expP ps) (t + 1)) (hE : E (esP ps) (offQ (expP ps) t + (m.th t).next) = ⟨K, (L : Int), V, W, R, (t : Int)⟩) :
    stepP ps m (t : Int) pick = doesF m t ⟨K, (L : Int), V, W, R, (t : Int)⟩ ((choicesF m t ⟨K, (L : Int), V, W, R, (t : Int)⟩).getD (pick (choicesF m t ⟨K, (L : Int), V, W, R, (t : Int)⟩).length) (0, false)) := by
  unfold stepP stepF
  rw [if_pos ⟨by omega, by omega, by simpa using hn⟩]
  simp only [Int.toNat_natCast, hE]
theorem no_turn {w : World} {B g : Nat} {ps : List (List Ev)} {m : VM} {z : MV} (h : IsV w B g (expP ps) m z) (hv : Valid ps) (hi : FineP ps m) {who : Int} (hno : ¬ (0 ≤ who ∧ who < (nP ps : Int) ∧ offQ (expP ps) who.toNat + (m.th who.toNat).next < offQ (expP ps) (who.toNat + 1))) :
    Calls Tryz.prog 30 #[.pointer (some ⟨g, 0, none⟩), .int .i64 who] w (NoTurn w) := by
  have vb := FineP.vb hv hi
  have hp0 : 0 < nP ps := by show 0 < (expP ps).length; rw [expP_len]; exact hv.p
  by_cases hr : 0 ≤ who ∧ who < (nP ps : Int)
  · obtain ⟨t, rfl⟩ : ∃ t : Nat, who = (t : Int) := ⟨who.toNat, by omega⟩
    have ht : t < nP ps := by omega
    have h1 := vb.nx t ht
    have h2 : ¬ offQ (expP ps) t + (m.th t).next < offQ (expP ps) (t + 1) := fun h3 => hno ⟨hr.1, hr.2, by simpa using h3⟩
    rw [offQ_succ] at h1 h2
    exact turn_over h vb.len.symm (by rw [vb.len]; exact ht) (by omega)
  · exact turn_out h (by rw [vb.len]; exact hp0) (by rw [vb.len]; omega)
theorem stepP_no {ps : List (List Ev)} {m : VM} {who : Int} {pick : Nat → Nat} (hno : ¬ (0 ≤ who ∧ who < (nP ps : Int) ∧ offQ (expP ps) who.toNat + (m.th who.toNat).next < offQ (expP ps) (who.toNat + 1))) : stepP ps m who pick = m := if_neg hno
set_option maxHeartbeats 4000000 in
theorem vdo_pick {w : World} {B g mb bt : Nat} {a b : Int} {ps : List (List Ev)} {m : VM} {z : MV} {who : Int} (h : IsV w B g (expP ps) m z) (hv : Valid ps) (hi : FineP ps m) (hmb : Blk w mb 48 [.pointer (some ⟨g, 0, none⟩)]) (hbt : Blk w bt 55 [.int .i64 a, .int .i64 b]) (hbb : -9223372036854775808 ≤ b ∧ b ≤ 9223372036854775807) (hB : B ≤ w.heap.size) :
    Calls Tryz.prog 14 #[.int .i64 who, .func (.func 17) #[] #[.pointer (some ⟨bt, 0, none⟩)], .pointer (some ⟨mb, 0, none⟩)] w (DidV w B g (expP ps) (stepP ps m who (pickT b)) z) := by
  have c0 := hmb.cell 0 rfl
  have hml := hmb.lt
  have t1 := hbt.cell 1 rfl
  have htl := hbt.lt
  clear hbt
  by_cases hyes : 0 ≤ who ∧ who < (nP ps : Int) ∧ offQ (expP ps) who.toNat + (m.th who.toNat).next < offQ (expP ps) (who.toNat + 1)
  · obtain ⟨t, rfl⟩ : ∃ t : Nat, who = (t : Int) := ⟨who.toNat, by omega⟩
    have ht : t < nP ps := by omega
    have hn : offQ (expP ps) t + (m.th t).next < offQ (expP ps) (t + 1) := by simpa using hyes.2.2
    obtain ⟨K, L, V, W, R, hN, hE, hpos, hlen⟩ := next_ok hv hi ht hn
    rw [stepP_yes ht hn hE]
    have HC := Lib.hid (vchoices_ok (T := (t : Int)) h hN)
    obtain ⟨C, hC⟩ : ∃ C, (choicesF m t ⟨K, (L : Int), V, W, R, (t : Int)⟩).length = C := ⟨_, rfl⟩
    have hplt : (pickT b) C < C := pickT_lt (by rw [hC] at hpos; exact hpos)
    have HS : Hid (∀ W', Below w.heap.size w W' → Calls Tryz.prog 16 #[.pointer (some ⟨g, 0, none⟩), .int .i64 (t : Int), .int .i64 ((((pickT b) C : Nat)) : Int)] W' (DidS W' B g (expP ps) (doesF m t ⟨K, (L : Int), V, W, R, (t : Int)⟩ ((choicesF m t ⟨K, (L : Int), V, W, R, (t : Int)⟩).getD ((pickT b) C) (0, false))) z)) := Lib.hid (fun W' hW => vstep_ok (h.below hW) hN (by rw [hC]; exact hplt) (Nat.le_trans hB hW.size))
    rw [hC] at HC hpos hlen ⊢
    obtain ⟨m', hm'⟩ : ∃ x, doesF m t ⟨K, (L : Int), V, W, R, (t : Int)⟩ ((choicesF m t ⟨K, (L : Int), V, W, R, (t : Int)⟩).getD ((pickT b) C) (0, false)) = x := ⟨_, rfl⟩
    rw [hm'] at HS ⊢
    have HCELL : Hid (∀ W', Below w.heap.size w W' → W'.cell? ⟨mb, 0, none⟩ = some (.pointer (some ⟨g, 0, none⟩)) ∧ W'.cell? ⟨bt, 0 + 1, none⟩ = some (.int .i64 b)) := Lib.hid (fun W' hW => ⟨(hW.cell (p := ⟨mb, 0, none⟩) hml).trans c0, (hW.cell (p := ⟨bt, 1, none⟩) htl).trans t1⟩)
    clear h hv hi hmb hyes hn hN hE hC hm' hplt
    go_enter Tryz.func14, Tryz.ntmps14
    go_upto_region 2 with (go_at_call 15; refine HC.out.mono ?_; rintro e1 w1 ⟨rfl, hb1⟩)
    have HB1 := Lib.hid hb1
    have c1 := HCELL.out w1 hb1
    have cN := HCELL.out _ hb1.drew
    clear c0 hb1
    have c2 := c1.1
    go_region_with (first
      | (go_at_call 17; refine (pick_any (bt := bt) (off := 0) (b := b) (n := C) (by first | exact c1.2 | exact cN.2) hbb hpos hlen).mono ?_; rintro e2 w2 ⟨rfl, rfl⟩)
      | (go_at_call 16; refine (HS.out _ (by first | exact HB1.out | exact HB1.out.drew | exact HB1.out.drewN _)).mono ?_; rintro e3 w3 ⟨rfl, z3, i3, d3⟩; have d4 : Did w w3 g z z3 := (by first | exact (Did.below g z HB1.out).trans d3 | exact (Did.below g z HB1.out.drew).trans d3 | exact (Did.below g z (HB1.out.drewN _)).trans d3)))
    all_goals
      have I3 := Lib.hid i3
      have D4 := Lib.hid d4
      clear i3 d3 d4
      go_wp2
      go_returns
      exact ⟨rfl, z3, I3.out, D4.out⟩
  · rw [stepP_no hyes]
    have HC := Lib.hid (vchoices_no (no_turn h hv hi hyes))
    have HI := Lib.hid h
    clear h hv hi hmb hyes
    go_enter Tryz.func14, Tryz.ntmps14
    go_upto_region 1 with (go_at_call 15; refine HC.out.mono ?_; rintro e1 w1 ⟨c, hc, rfl, hb1⟩)
    have hcb : (c == 0) = false := beq_eq_false_iff_ne.2 hc
    have HB1 := Lib.hid hb1
    clear hc hb1 c0
    go_wp2
    go_returns
    exact ⟨rfl, z, HI.out.below HB1.out, Did.below g z HB1.out⟩
set_option maxHeartbeats 4000000 in
theorem vdo_last {w : World} {B g mb : Nat} {ps : List (List Ev)} {m : VM} {z : MV} {who : Int} (h : IsV w B g (expP ps) m z) (hv : Valid ps) (hi : FineP ps m) (hmb : Blk w mb 48 [.pointer (some ⟨g, 0, none⟩)]) (hB : B ≤ w.heap.size) :
    Calls Tryz.prog 14 #[.int .i64 who, .func (.func 19) #[] #[], .pointer (some ⟨mb, 0, none⟩)] w (DidV w B g (expP ps) (stepP ps m who (fun n => n - 1)) z) := by
  have c0 := hmb.cell 0 rfl
  have hml := hmb.lt
  by_cases hyes : 0 ≤ who ∧ who < (nP ps : Int) ∧ offQ (expP ps) who.toNat + (m.th who.toNat).next < offQ (expP ps) (who.toNat + 1)
  · obtain ⟨t, rfl⟩ : ∃ t : Nat, who = (t : Int) := ⟨who.toNat, by omega⟩
    have ht : t < nP ps := by omega
    have hn : offQ (expP ps) t + (m.th t).next < offQ (expP ps) (t + 1) := by simpa using hyes.2.2
    obtain ⟨K, L, V, W, R, hN, hE, hpos, hlen⟩ := next_ok hv hi ht hn
    rw [stepP_yes ht hn hE]
    have HC := Lib.hid (vchoices_ok (T := (t : Int)) h hN)
    obtain ⟨C, hC⟩ : ∃ C, (choicesF m t ⟨K, (L : Int), V, W, R, (t : Int)⟩).length = C := ⟨_, rfl⟩
    have hplt : (fun n => n - 1) C < C := (by rw [hC] at hpos; show C - 1 < C; omega)
    have HS : Hid (∀ W', Below w.heap.size w W' → Calls Tryz.prog 16 #[.pointer (some ⟨g, 0, none⟩), .int .i64 (t : Int), .int .i64 ((((fun n => n - 1) C : Nat)) : Int)] W' (DidS W' B g (expP ps) (doesF m t ⟨K, (L : Int), V, W, R, (t : Int)⟩ ((choicesF m t ⟨K, (L : Int), V, W, R, (t : Int)⟩).getD ((fun n => n - 1) C) (0, false))) z)) := Lib.hid (fun W' hW => vstep_ok (h.below hW) hN (by rw [hC]; exact hplt) (Nat.le_trans hB hW.size))
    rw [hC] at HC hpos hlen ⊢
    obtain ⟨m', hm'⟩ : ∃ x, doesF m t ⟨K, (L : Int), V, W, R, (t : Int)⟩ ((choicesF m t ⟨K, (L : Int), V, W, R, (t : Int)⟩).getD ((fun n => n - 1) C) (0, false)) = x := ⟨_, rfl⟩
    rw [hm'] at HS ⊢
    have HCELL : Hid (∀ W', Below w.heap.size w W' → W'.cell? ⟨mb, 0, none⟩ = some (.pointer (some ⟨g, 0, none⟩))) := Lib.hid (fun W' hW => (hW.cell (p := ⟨mb, 0, none⟩) hml).trans c0)
    clear h hv hi hmb hyes hn hN hE hC hm' hplt
    go_enter Tryz.func14, Tryz.ntmps14
    go_upto_region 2 with (go_at_call 15; refine HC.out.mono ?_; rintro e1 w1 ⟨rfl, hb1⟩)
    have HB1 := Lib.hid hb1
    have c1 := HCELL.out w1 hb1
    have cN := HCELL.out _ hb1.drew
    clear c0 hb1
    have c2 := c1
    go_region_with (first
      | (go_at_call 19; refine (last_any (n := C) hpos hlen).mono ?_; rintro e2 w2 ⟨rfl, rfl⟩)
      | (go_at_call 16; refine (HS.out _ (by first | exact HB1.out | exact HB1.out.drew | exact HB1.out.drewN _)).mono ?_; rintro e3 w3 ⟨rfl, z3, i3, d3⟩; have d4 : Did w w3 g z z3 := (by first | exact (Did.below g z HB1.out).trans d3 | exact (Did.below g z HB1.out.drew).trans d3 | exact (Did.below g z (HB1.out.drewN _)).trans d3)))
    all_goals
      have I3 := Lib.hid i3
      have D4 := Lib.hid d4
      clear i3 d3 d4
      go_wp2
      go_returns
      exact ⟨rfl, z3, I3.out, D4.out⟩
  · rw [stepP_no hyes]
    have HC := Lib.hid (vchoices_no (no_turn h hv hi hyes))
    have HI := Lib.hid h
    clear h hv hi hmb hyes
    go_enter Tryz.func14, Tryz.ntmps14
    go_upto_region 1 with (go_at_call 15; refine HC.out.mono ?_; rintro e1 w1 ⟨c, hc, rfl, hb1⟩)
    have hcb : (c == 0) = false := beq_eq_false_iff_ne.2 hc
    have HB1 := Lib.hid hb1
    clear hc hb1 c0
    go_wp2
    go_returns
    exact ⟨rfl, z, HI.out.below HB1.out, Did.below g z HB1.out⟩
end Go.Proofs.YtkddckfgdiemkaaGreat
/-
  The walk of Play.
-/
set_option linter.unusedVariables false
set_option linter.unusedSimpArgs false
namespace Go.Proofs.YtkddckfgdiemkaaGreat
open Go.RowKit Go.Shelf Mem
set_option maxRecDepth 100000
attribute [local go_sem] Oper.semAt_some

def tsC (ts : List (Int × Int)) : List Value := ts.flatMap fun p => [.int .i64 p.1, .int .i64 p.2]
theorem tsC_at : ∀ (ds : List (Int × Int)) (j : Nat) (h : j < ds.length), (tsC ds)[j * 2 + 0]? = some (.int .i64 (ds.getD j (0, 0)).1) ∧ (tsC ds)[j * 2 + 1]? = some (.int .i64 (ds.getD j (0, 0)).2)
  | x :: t, 0, _ => ⟨rfl, rfl⟩
  | x :: t, j + 1, h => by
    have ih := tsC_at t j (by simpa using h)
    simp only [tsC, List.flatMap_cons, List.getD_cons_succ] at ih ⊢
    constructor
    · rw [List.getElem?_append_right (by simp; omega), ← ih.1]; congr 1; simp; omega
    · rw [List.getElem?_append_right (by simp; omega), ← ih.2]; congr 1; simp; omega
abbrev RdT (w : World) (v : Value) (ts : List (Int × Int)) : Prop := Rd w v ts.length 2 (tsC ts)
abbrev turnsP (ps : List (List Ev)) (ts : List (Int × Int)) (k : Nat) : VM := turnsF (esP ps) (nP ps) (offQ (expP ps)) ts (vm0 (nP ps)) k
abbrev endP (ps : List (List Ev)) (t : Nat) (m : VM) (k : Nat) : VM := endF (esP ps) (nP ps) (offQ (expP ps)) t m k
abbrev endsP (ps : List (List Ev)) (m : VM) (k : Nat) : VM := endsV (esP ps) (nP ps) (offQ (expP ps)) m k
abbrev playP (ps : List (List Ev)) (ts : List (Int × Int)) : List Int := playF (esP ps) (nP ps) (offQ (expP ps)) ts
theorem turnsP_fine {ps : List (List Ev)} (hv : Valid ps) (ts : List (Int × Int)) (k : Nat) : FineP ps (turnsP ps ts k) := Fine.turns (shape_of hv) (Fine.start (shape_of hv)) ts k
theorem endsP_fine {ps : List (List Ev)} {m : VM} (hv : Valid ps) (hi : FineP ps m) (k : Nat) : FineP ps (endsP ps m k) := Fine.ends (shape_of hv) hi k
theorem endP_fine {ps : List (List Ev)} {m : VM} (hv : Valid ps) (hi : FineP ps m) (t k : Nat) : FineP ps (endP ps t m k) := Fine.endF_ (shape_of hv) hi t k
theorem leftTo_get (q : List (List Ev)) (m : VM) {N k : Nat} (hk : k < N) : (leftTo q m N)[k]? = some (((q.getD k []).length : Int) - ((m.th k).next : Int)) := by
  simp [leftTo, hk]
theorem ints_at' (l : List Int) {j : Nat} {x : Int} (h : l[j]? = some x) : (ints l)[j]? = some (.int .i64 x) := by simp [ints, h]
def PlayT (ps : List (List Ev)) (ts : List (Int × Int)) (w : World) (e : Ending) (w' : World) : Prop := ∃ u, e = two u (.int .i64 0) ∧ Own w' w.heap.size u (playP ps ts) ∧ Below w.heap.size w w'
/-- What a deed leaves. -/
theorem play_next {w wr w5 : World} {B g mb : Nat} {q : List (List Ev)} {m : VM} {z z5 : MV} (h : IsV wr B g q m z) (hm : Blk wr mb 48 [.pointer (some ⟨g, 0, none⟩)]) (hb : Below w.heap.size w wr) (hB : w.heap.size ≤ B) (d : Did wr w5 g z z5) : Blk w5 mb 48 [.pointer (some ⟨g, 0, none⟩)] ∧ Below w.heap.size w w5 :=
  ⟨hm.keep d.kept (h.foot_ne hm (by decide)), hb.trans (d.kept.below hb.size (fun k hk => Nat.le_trans hB (h.foot_lt hk).1))⟩
set_option maxHeartbeats 8000000 in
theorem vplay_any {w : World} {tv uv : Value} {ps : List (List Ev)} {ts : List (Int × Int)} (hr : RdP w tv ps) (hv : Valid ps) (ht : RdT w uv ts) (h100 : ts.length ≤ 100) (hbd : ∀ k, k < ts.length → -9223372036854775808 ≤ (ts.getD k (0, 0)).2 ∧ (ts.getD k (0, 0)).2 ≤ 9223372036854775807) :
    Calls Tryz.prog 6 #[.agg #[tv], uv] w (PlayT ps ts w) := by
  obtain ⟨Au, cu, rfl, hcu1, hcu2⟩ := Rd.shape ht
  obtain ⟨w0, hw0⟩ : ∃ w0, w.alloc (.cells #[tv] 24) = w0 := ⟨_, rfl⟩
  have b0 : Below w.heap.size w w0 := by rw [← hw0]; exact (Below.refl _ w).alloc (Nat.le_refl _) _
  have X := show Blk w0 w.heap.size 24 [tv] by rw [← hw0]; exact Blk.new w 24 _
  have x0 := X.cell 0 rfl
  have HN := Lib.hid (vnew_any (hr.below b0) hv)
  have hBw : w.heap.size ≤ w0.heap.size := b0.size
  have HQ3 : Hid (nP ps ≤ 3) := Lib.hid (by show (expP ps).length ≤ 3; rw [expP_len]; exact hv.n)
  have HT := Lib.hid ht
  have HV := Lib.hid hv
  have HBD := Lib.hid hbd
  obtain ⟨TL, hTL⟩ : ∃ TL, ts.length = TL := ⟨_, rfl⟩
  rw [hTL] at h100 hcu1 ⊢
  have HTL := Lib.hid hTL
  have h100' : ¬ (TL : Int) > 100 := by omega
  have HW0 := Lib.hid hw0
  have B0 := Lib.hid b0
  clear hr hv ht hbd hw0 b0 X hTL
  go_enter Tryz.func6, Tryz.ntmps6
  go_upto_region 1 with fail
  rw [HW0.out]
  go_upto_region 2 with (go_at_call 13; refine HN.out.mono ?_; rintro e1 w1 ⟨g, z, rfl, i1, hb1⟩)
  obtain ⟨w2, hw2⟩ : ∃ x, w1.alloc (.cells #[.pointer (some ⟨g, 0, none⟩)] 48) = x := ⟨_, rfl⟩
  rw [hw2]
  have b12 : Below w1.heap.size w1 w2 := by rw [← hw2]; exact (Below.refl _ w1).alloc (Nat.le_refl _) _
  have X2 := show Blk w2 w1.heap.size 48 [.pointer (some ⟨g, 0, none⟩)] by rw [← hw2]; exact Blk.new w1 48 _
  obtain ⟨mb, hmb⟩ : ∃ x, w1.heap.size = x := ⟨_, rfl⟩
  rw [hmb] at X2 ⊢
  have B2 := Lib.hid (B0.out.trans ((hb1.trans (b12.mono hb1.size)).mono B0.out.size))
  have I2 := Lib.hid (i1.below b12)
  have HX2 := Lib.hid X2
  clear hw2 b12 X2 hmb hb1 i1 x0
  go_wp2
  go_loopw [26] (fun i wr => ∃ (k : Nat) (z : MV), k ≤ TL ∧ i = .int .i64 k ∧ IsV wr w0.heap.size g (expP ps) (turnsP ps ts k) z ∧ Blk wr mb 48 [.pointer (some ⟨g, 0, none⟩)] ∧ Below w.heap.size w wr) (fun i _ => TL - (intOf i).toNat)
  case atStart => exact ⟨0, z, Nat.zero_le _, rfl, I2.out, HX2.out, B2.out⟩
  case round =>
    clear I2 B2 HX2
    obtain ⟨k, zk, hk, rfl, hi, hm, hb⟩ := hrel
    by_cases hlt : k < TL
    · have hlt' : (k : Int) < (TL : Int) := by omega
      have k0 : (0 : Int) ≤ (k : Int) := by omega
      have hrt := HT.out.below hb
      have hkl : k < ts.length := by rw [HTL.out]; exact hlt
      obtain ⟨bt0, ot, rfl, hbt0, hct⟩ := Rd.elem (A := Au) hrt hkl
      have t0 := (hct 0 (by decide)).trans (tsC_at ts k hkl).1
      have t1 := (hct 1 (by decide)).trans (tsC_at ts k hkl).2
      rw [Nat.add_zero] at t0
      have hbb := HBD.out k hkl
      have hfin := turnsP_fine HV.out ts k
      have hs : turnsP ps ts (k + 1) = stepP ps (turnsP ps ts k) (ts.getD k (0, 0)).1 (pickT (ts.getD k (0, 0)).2) := rfl
      obtain ⟨a, ha⟩ : ∃ x, (ts.getD k (0, 0)).1 = x := ⟨_, rfl⟩
      obtain ⟨b, hbe⟩ : ∃ x, (ts.getD k (0, 0)).2 = x := ⟨_, rfl⟩
      rw [ha] at t0 hs
      rw [hbe] at t1 hs hbb
      obtain ⟨m, hme⟩ : ∃ x, turnsP ps ts k = x := ⟨_, rfl⟩
      rw [hme] at hi hfin hs
      have HS := Lib.hid hs
      have HFIN := Lib.hid hfin
      have HI := Lib.hid hi
      have HM := Lib.hid hm
      have HB := Lib.hid hb
      have HBB := Lib.hid hbb
      clear hrt hct hfin hs ha hbe hme hi hm hb hkl hbb
      go_upto_region 10 with fail
      obtain ⟨wt, hwt⟩ : ∃ x, wr.alloc (.cells #[.int .i64 a, .int .i64 b] 55) = x := ⟨_, rfl⟩
      rw [hwt]
      have bt1 : Below wr.heap.size wr wt := by rw [← hwt]; exact (Below.refl _ wr).alloc (Nat.le_refl _) _
      have XT := show Blk wt wr.heap.size 55 [.int .i64 a, .int .i64 b] by rw [← hwt]; exact Blk.new wr 55 _
      have y0 := XT.cell 0 rfl
      have IT := Lib.hid (HI.out.below bt1)
      have MT := Lib.hid (HM.out.below bt1)
      have BT := Lib.hid (HB.out.trans (bt1.mono HB.out.size))
      obtain ⟨bt, hbt⟩ : ∃ x, wr.heap.size = x := ⟨_, rfl⟩
      rw [hbt] at XT y0 ⊢
      have HXT := Lib.hid XT
      have hB0 : w0.heap.size ≤ wt.heap.size := Nat.le_trans HI.out.gB (Nat.le_trans (Nat.le_of_lt HI.out.blk.lt) bt1.size)
      clear hwt bt1 XT hbt t0 t1
      go_wp2_with (go_at_call 14; refine (vdo_pick IT.out HV.out HFIN.out MT.out HXT.out HBB.out hB0).mono ?_; rintro e5 w5 ⟨rfl, z5, i5, d5⟩)
      have hpn := play_next IT.out MT.out BT.out hBw d5
      have I5 := Lib.hid i5
      have PN := Lib.hid hpn
      clear hpn i5 d5 y0
      go_roundw
      case measure => simp [intOf]; all_goals omega
      case rel => exact ⟨k + 1, z5, by omega, by go_num, by { rw [HS.out]; exact I5.out }, PN.out.1, PN.out.2⟩
    · have hin : k = TL := by omega
      subst hin
      obtain ⟨M1, hM1⟩ : ∃ x, turnsP ps ts k = x := ⟨_, rfl⟩
      have hfin := turnsP_fine HV.out ts k
      rw [hM1] at hi hfin
      have c0 := hm.cell 0 rfl
      have vb := FineP.vb HV.out hfin
      obtain ⟨At, ct, hat1, hat2, _, c5, _⟩ := hi.thrs_
      rw [vb.len] at c5 hat1
      obtain ⟨N, hN⟩ : ∃ x, nP ps = x := ⟨_, rfl⟩
      rw [hN] at c5 hat1
      have HNN := Lib.hid hN
      have HFIN := Lib.hid hfin
      have HI := Lib.hid hi
      have HM := Lib.hid hm
      have HB := Lib.hid hb
      have HM1 := Lib.hid hM1
      clear hfin vb hi hm hb hM1 hN hlt
      go_wp2
      clear c0 c5
      go_loopw [41] (fun i wr2 => ∃ (j : Nat) (z : MV), j ≤ N ∧ i = .int .i64 j ∧ IsV wr2 w0.heap.size g (expP ps) (endsP ps M1 j) z ∧ Blk wr2 mb 48 [.pointer (some ⟨g, 0, none⟩)] ∧ Below w.heap.size w wr2) (fun i _ => N - (intOf i).toNat)
      case atStart => exact ⟨0, zk, Nat.zero_le _, rfl, HI.out, HM.out, HB.out⟩
      case round =>
        clear HI HM HB
        obtain ⟨j, zj, hj, rfl, hi, hm, hb⟩ := hrel
        have hfin := endsP_fine HV.out HFIN.out j
        have hsuc : endsP ps M1 (j + 1) = endP ps j (endsP ps M1 j) (offQ (expP ps) (j + 1) - (offQ (expP ps) j + ((endsP ps M1 j).th j).next)) := rfl
        obtain ⟨M2, hM2⟩ : ∃ x, endsP ps M1 j = x := ⟨_, rfl⟩
        rw [hM2] at hi hfin hsuc
        by_cases hlt : j < N
        · have hlt' : (j : Int) < (N : Int) := by omega
          have j0 : (0 : Int) ≤ (j : Int) := by omega
          have vb := FineP.vb HV.out hfin
          have hnx := vb.nx j (by rw [HNN.out]; exact hlt)
          rw [offQ_succ] at hnx hsuc
          have h14 : (esP ps).length ≤ 14 := esOf_len HV.out
          have hql : ∀ t, t < (expP ps).length → ((expP ps).getD t []).length ≤ 300 := fun t _ => (smallQ HV.out).l t
          have HLF := Lib.hid (fun W' (hW : Below wr.heap.size wr W') => left_any (hi.below hW) vb.len.symm HQ3.out (fun t ht => ⟨by have := vb.nx t (by rw [← vb.len]; exact ht); rw [offQ_succ] at this; omega, by have := (smallQ HV.out).l t; omega⟩))
          rw [vb.len, HNN.out] at HLF
          obtain ⟨c, hc⟩ : ∃ x, offQ (expP ps) j + ((expP ps).getD j []).length - (offQ (expP ps) j + (M2.th j).next) = x := ⟨_, rfl⟩
          rw [hc] at hsuc
          have hc300 : c ≤ 300 := by have := (smallQ HV.out).l j; omega
          have hlg : (leftTo (expP ps) M2 N)[j]? = some ((c : Nat) : Int) := by rw [leftTo_get _ _ hlt]; congr 1; omega
          have hll : (leftTo (expP ps) M2 N).length = N := by simp [leftTo]
          obtain ⟨LT, hLT⟩ : ∃ x, leftTo (expP ps) M2 N = x := ⟨_, rfl⟩
          rw [hLT] at HLF hlg hll
          have c0 := hm.cell 0 rfl
          have HS := Lib.hid hsuc
          have HFI := Lib.hid hfin
          have HI := Lib.hid hi
          have HM := Lib.hid hm
          have HB := Lib.hid hb
          have HLG := Lib.hid hlg
          have HLL := Lib.hid hll
          have HM2 := Lib.hid hM2
          clear hsuc hfin hi hm hb hlg hll hM2 vb hnx h14 hql hc hLT
          go_upto_region 15 with fail
          go_upto_region 16 with (go_at_call 18; refine (HLF.out _ (Below.refl _ _)).mono ?_; rintro e5 w5 ⟨u5, rfl, ho5, hb5⟩; obtain ⟨A5, c5, rfl, hc51, hc52⟩ := (Row.rd ho5).shape; obtain ⟨b5, o5, rfl, hb5l, hcl5⟩ := Rd.one (Row.rd ho5) (show j < LT.length by rw [HLL.out]; exact hlt); rw [ints_at' LT HLG.out] at hcl5; rw [HLL.out])
          have I5 := Lib.hid (HI.out.below hb5)
          have M5 := Lib.hid (HM.out.below hb5)
          have B5 := Lib.hid (HB.out.trans (hb5.mono HB.out.size))
          clear ho5 hb5 hc51 HI HM HB
          go_wp2
          clear hcl5 c0
          go_loopw [49] (fun i wr3 => ∃ (r : Nat) (z : MV), r ≤ c ∧ i = .int .i64 r ∧ IsV wr3 w0.heap.size g (expP ps) (endP ps j M2 r) z ∧ Blk wr3 mb 48 [.pointer (some ⟨g, 0, none⟩)] ∧ Below w.heap.size w wr3) (fun i _ => c - (intOf i).toNat)
          case atStart => exact ⟨0, zj, Nat.zero_le _, rfl, I5.out, M5.out, B5.out⟩
          case round =>
            clear I5 M5 B5
            obtain ⟨r, zr, hr, rfl, hi, hm, hb⟩ := hrel
            have hfin := endP_fine HV.out HFI.out j r
            have hs3 : endP ps j M2 (r + 1) = stepP ps (endP ps j M2 r) (j : Int) (fun n => n - 1) := rfl
            obtain ⟨M3, hM3⟩ : ∃ x, endP ps j M2 r = x := ⟨_, rfl⟩
            rw [hM3] at hi hfin hs3
            have HS3 := Lib.hid hs3
            have HF3 := Lib.hid hfin
            have HI := Lib.hid hi
            have HM := Lib.hid hm
            have HB := Lib.hid hb
            have HM3 := Lib.hid hM3
            have hB0 : w0.heap.size ≤ wr.heap.size := Nat.le_trans hi.gB (Nat.le_of_lt hi.blk.lt)
            clear hs3 hfin hi hm hb hM3
            by_cases hlt3 : r < c
            · have hlt3' : (r : Int) < (c : Int) := by omega
              have r0 : (0 : Int) ≤ (r : Int) := by omega
              have r3 : (r : Int) ≤ 300 := by omega
              go_wp2_with (go_at_call 14; refine (vdo_last HI.out HV.out HF3.out HM.out hB0).mono ?_; rintro e6 w6 ⟨rfl, z6, i6, d6⟩)
              have hpn := play_next HI.out HM.out HB.out hBw d6
              have I6 := Lib.hid i6
              have PN := Lib.hid hpn
              clear hpn i6 d6
              go_roundw
              case measure => simp [intOf]; all_goals omega
              case rel => exact ⟨r + 1, z6, by omega, by go_num, by { rw [HS3.out]; exact I6.out }, PN.out.1, PN.out.2⟩
            · have hrc : r = c := by omega
              have HE : Hid (endsP ps M1 (j + 1) = M3) := Lib.hid (by rw [HS.out, ← hrc]; exact HM3.out)
              clear hrc
              go_wp2
              go_roundw
              case measure => simp [intOf]; all_goals omega
              case rel => exact ⟨j + 1, zr, by omega, by go_num, by { rw [HE.out]; exact HI.out }, HM.out, HB.out⟩
        · have hin2 : j = N := by omega
          have vb := FineP.vb HV.out hfin
          have hN3 : N ≤ 3 := by rw [← HNN.out]; exact HQ3.out
          have HOUT := Lib.hid (fun W' (hW : Below wr.heap.size wr W') => voutcome_any (hi.below hW) vb.ok vb.l0 (by rw [vb.len, HNN.out]; exact hN3) (fun t ht => vb.rl t (by rw [← vb.len]; exact ht)))
          have HPL : Hid (playP ps ts = outV M2) := Lib.hid (by
            show outV (endsP ps (turnsP ps ts ts.length) (nP ps)) = _
            rw [HTL.out, HM1.out, HNN.out, ← hin2, hM2])
          have c0 := hm.cell 0 rfl
          have HB := Lib.hid hb
          clear hfin hsuc hi hm hb hM2 hin2 vb hN3
          go_wp2_with (go_at_call 20; refine (HOUT.out _ (Below.refl _ _)).mono ?_; rintro e7 w7 ⟨u7, rfl, ho7, hb7⟩; obtain ⟨A7, c7, rfl, hc71, hc72⟩ := (Row.rd ho7).shape)
          go_ret2
          exact ⟨_, rfl, by { rw [HPL.out]; exact Row.mono ho7 HB.out.size }, HB.out.trans (hb7.mono HB.out.size)⟩
end Go.Proofs.YtkddckfgdiemkaaGreat
/-
  The walks of Ints (at equal lists), saneViews and TopViews.
-/
set_option linter.unusedVariables false
set_option linter.unusedSimpArgs false
namespace Go.Proofs.YtkddckfgdiemkaaGreat
open Go.RowKit Go.Shelf Mem
set_option maxRecDepth 100000
attribute [local go_sem] Oper.semAt_some

set_option maxHeartbeats 1000000 in
theorem intsEq_any {w : World} {u v : Value} {a : List Int} (ha : RdI w u a) (hb : RdI w v a) : Calls Tryz.prog 10 #[u, v] w (Tells w true) := by
  obtain ⟨A, c, rfl, hc1, hc2⟩ := ha.shape
  obtain ⟨A', c', rfl, hc1', hc2'⟩ := hb.shape
  have hra := Lib.hid ha
  have hrb := Lib.hid hb
  clear ha hb
  go_enter Tryz.func10, Tryz.ntmps10
  go_wp2
  go_loopw [5] (fun i wr => ∃ k : Nat, k ≤ a.length ∧ i = .int .i64 k ∧ Below w.heap.size w wr) (fun i _ => a.length - (intOf i).toNat)
  case atStart => exact ⟨0, Nat.zero_le _, rfl, Below.refl _ _⟩
  case round =>
    obtain ⟨k, hk, rfl, hbel⟩ := hrel
    have HB := Lib.hid hbel
    clear hbel
    by_cases hlt : k < a.length
    · obtain ⟨g, off, rfl, hg, hcell⟩ := (hra.out.below HB.out).one hlt
      obtain ⟨g', off', rfl, hg', hcell'⟩ := (hrb.out.below HB.out).one hlt
      have d0 := hcell.trans (ints_at a k hlt)
      have d1 := hcell'.trans (ints_at a k hlt)
      obtain ⟨x, hx⟩ : ∃ x, a[k] = x := ⟨_, rfl⟩
      rw [hx] at d0 d1
      have hxb : (x != x) = false := bne_self_eq_false x
      clear hcell hcell' hx
      go_wp2_with fail
      go_quiet (fail)
      go_wp2
      go_roundw
      case measure => simp [intOf]; omega
      case rel => exact ⟨k + 1, by omega, by go_num, HB.out.drewN _⟩
    · have hkn : k = a.length := by omega
      have Hkn := Lib.hid hkn
      clear hkn
      go_wp2
      go_ret
      exact ⟨rfl, HB.out⟩
def ops0 : List Ev := [⟨1, 0, 1, 0, 0, 0⟩, ⟨0, 0, 0, 0, 0, 0⟩]
theorem ops0_ok : ∀ e ∈ ops0, OkOp e := by
  intro e he
  simp only [ops0, List.mem_cons, List.not_mem_nil, or_false] at he
  rcases he with rfl | rfl <;> exact ⟨⟨by decide, by decide, by decide, by decide, by decide⟩, by decide, by decide, by decide, by decide, by decide, by decide⟩
theorem valid0 : Valid [ops0] := by
  have h := cnt_le ([ops0] : List (List Ev)).flatten ⟨0, 0, 0, 0, 0⟩
  have hl : ([ops0] : List (List Ev)).flatten.length = 2 := rfl
  rw [hl] at h
  have e : (([ops0] : List (List Ev)).flatten.foldl cntStep ⟨0, 0, 0, 0, 0⟩) = cntOf ([ops0] : List (List Ev)).flatten := rfl
  rw [e] at h
  obtain ⟨h1, h2, h3, h4, h5⟩ := h
  exact ⟨by decide, by decide, ops0_ok, by simpa using Nat.le_trans h1 (by decide), by simpa using Nat.le_trans h2 (by decide), by simpa using Nat.le_trans h3 (by decide), by simpa using Nat.le_trans h4 (by decide), by simpa using Nat.le_trans h5 (by decide)⟩
theorem play0 : playP [ops0] [] = [1, 1, 0, 0] := by decide +kernel
set_option maxHeartbeats 1000000 in
theorem sane_any {w : World} : Calls Tryz.prog 5 #[] w (Tells w true) := by
  obtain ⟨w2, hw2⟩ : ∃ x, (w.alloc (.cells #[.int .i64 1, .int .i64 0, .int .i64 1, .int .i64 0, .int .i64 0, .int .i64 0, .int .i64 0, .int .i64 0, .int .i64 0, .int .i64 0] 47)).alloc (.cells #[.slice (some ⟨w.heap.size, 0, none⟩) 2 2] 45) = x := ⟨_, rfl⟩
  have b2 : Below w.heap.size w w2 := by rw [← hw2]; exact ((Below.refl _ w).alloc (Nat.le_refl _) _).alloc (by simp) _
  have X := show Blk w2 w.heap.size 47 (ops ops0) by rw [← hw2]; exact (Blk.new w 47 (ops ops0)).alloc _
  have Y := show Blk w2 (w.heap.size + 1) 45 [.slice (some ⟨w.heap.size, 0, none⟩) 2 2] by rw [← hw2]; exact blk_at_new 45 [.slice (some ⟨w.heap.size, 0, none⟩) 2 2] (by simp)
  have hP : RdP w2 (.slice (some ⟨w.heap.size + 1, 0, none⟩) 1 1) [ops0] := by
    refine ⟨[.slice (some ⟨w.heap.size, 0, none⟩) 2 2], Row.rd (row_of_blk (B := 0) (n := 1) (k := 1) (Nat.zero_le _) Y rfl (by decide)), rfl, fun k u hu => ?_⟩
    cases k with
    | zero =>
      simp only [List.getElem?_cons_zero, Option.some.injEq] at hu
      subst hu
      exact Row.rd (row_of_blk (B := 0) (n := 2) (k := 5) (Nat.zero_le _) X rfl (by decide))
    | succ k => simp at hu
  have HPL := Lib.hid (vplay_any (w := w2) (uv := .slice none 0 0) (ts := []) hP valid0 (Row.rd (World.ownsRow_nil w2 0 55 2)) (by decide) (fun k hk => by simp at hk))
  have HW2 := Lib.hid hw2
  have B2 := Lib.hid b2
  clear hw2 b2 X Y hP
  go_enter Tryz.func5, Tryz.ntmps5
  go_upto_region 2 with (rw [HW2.out]; go_at_call 6; refine HPL.out.mono ?_; rintro e3 w3 ⟨u3, rfl, ho3, hb3⟩; rw [play0] at ho3; obtain ⟨A3, c3, rfl, hc31, hc32⟩ := (Row.rd ho3).shape)
  have HO3 := Lib.hid ho3
  have HB3 := Lib.hid (B2.out.trans (hb3.mono B2.out.size))
  clear ho3 hb3
  have b4 : Below w3.heap.size w3 (w3.alloc (.cells (ints [1, 1, 0, 0]).toArray 3)) := (Below.refl _ w3).alloc (Nat.le_refl _) _
  have HI := Lib.hid (intsEq_any (w := w3.alloc (.cells (ints [1, 1, 0, 0]).toArray 3)) (Row.rd (Row.below HO3.out b4)) (Row.rd (row_of_blk (B := 0) (n := 4) (k := 1) (Nat.zero_le _) (Blk.new w3 3 (ints [1, 1, 0, 0])) rfl (by decide))))
  have HB4 := Lib.hid (HB3.out.alloc HB3.out.size (.cells (ints [1, 1, 0, 0]).toArray 3))
  clear b4
  go_wp2_with (go_at_call 10; refine HI.out.mono ?_; rintro e5 w5 ⟨rfl, hb5⟩)
  go_ret
  exact ⟨rfl, HB4.out.trans (hb5.mono HB4.out.size)⟩
theorem OwnX.shapes {W : World} {B : Nat} {fv dv ov sv : Value} {x : Ex} (h : OwnX W B (.agg #[fv, dv, ov, sv]) x) : (∃ A n c, fv = .slice A n c) ∧ (∃ A n c, dv = .slice A n c) ∧ (∃ A n c, ov = .slice A n c) ∧ ∃ A n c, sv = .slice A n c := by
  obtain ⟨f', d', o', s', he, h1, h2, h3, h4⟩ := h
  simp only [Value.agg.injEq, Array.mk.injEq, List.cons.injEq, and_true] at he
  obtain ⟨rfl, rfl, rfl, rfl⟩ := he
  obtain ⟨us, h3, _⟩ := h3
  refine ⟨?_, ?_, ?_, ?_⟩
  · obtain ⟨A, c, h, _⟩ := (Row.rd h1).shape; exact ⟨A, _, c, h⟩
  · obtain ⟨A, c, h, _⟩ := (Row.rd h2).shape; exact ⟨A, _, c, h⟩
  · obtain ⟨A, c, h, _⟩ := (Row.rd h3).shape; exact ⟨A, _, c, h⟩
  · obtain ⟨A, c, h, _⟩ := (Row.rd h4).shape; exact ⟨A, _, c, h⟩
theorem hkd_of {ps : List (List Ev)} (hv : Valid ps) : ∀ i : Nat, i < (esP ps).length → 0 ≤ (ev (esP ps) (i : Int)).kind ∧ (ev (esP ps) (i : Int)).kind ≤ 5 := fun i hi => (esOf_ok hv i hi).k
set_option maxHeartbeats 2000000 in
theorem topViews_any {w : World} {tv uv : Value} {ps : List (List Ev)} {ts : List (Int × Int)} (hr : RdP w tv ps) (hs : SizeOk ps) (ht : RdT w uv ts) (hbd : ∀ k, k < ts.length → -9223372036854775808 ≤ (ts.getD k (0, 0)).2 ∧ (ts.getD k (0, 0)).2 ≤ 9223372036854775807) :
    Calls Tryz.prog 3 #[.agg #[tv], uv] w (Tells w true) := by
  obtain ⟨Au, cu, rfl, hcu1, hcu2⟩ := Rd.shape ht
  obtain ⟨w0, hw0⟩ : ∃ w0, w.alloc (.cells #[tv] 24) = w0 := ⟨_, rfl⟩
  have b0 : Below w.heap.size w w0 := by rw [← hw0]; exact (Below.refl _ w).alloc (Nat.le_refl _) _
  have X := show Blk w0 w.heap.size 24 [tv] by rw [← hw0]; exact Blk.new w 24 _
  have x0 := X.cell 0 rfl
  have HSM := Lib.hid (small_any (most := 5) (hr.below b0) hs)
  have HRP : Hid (∀ W, Below w0.heap.size w0 W → RdP W tv ps) := Lib.hid (fun W hW => (hr.below b0).below hW)
  have HT := Lib.hid (ht.below b0)
  have HX := Lib.hid X
  have HBD := Lib.hid hbd
  have HW0 := Lib.hid hw0
  have B0 := Lib.hid b0
  clear hr hs ht hbd hw0 b0 X
  go_enter Tryz.func3, Tryz.ntmps3
  go_upto_region 1 with fail
  rw [HW0.out]
  by_cases h100 : ts.length ≤ 100
  · have h100' : ¬ (ts.length : Int) > 100 := by omega
    go_wp2_with fail
    refine HSM.out.mono ?_
    rintro e1 w1 ⟨b, rfl, hvb, hb1⟩
    have HB1 := Lib.hid hb1
    have HVB := Lib.hid hvb
    have x1 := (HX.out.below hb1).cell 0 rfl
    clear hb1 hvb x0
    cases b with
    | false =>
      go_wp2_with (go_at_call 5; refine sane_any.mono ?_; rintro e2 w2 ⟨rfl, hb2⟩)
      go_ret
      exact ⟨rfl, (B0.out.trans (HB1.out.mono B0.out.size)).trans (hb2.mono (B0.out.trans (HB1.out.mono B0.out.size)).size)⟩
    | true =>
      have hv := HVB.out rfl
      have HV := Lib.hid hv
      have hp := shape_of hv
      obtain ⟨y, hy1, hy2⟩ := views_sound hp ts
      have he := wfE_of hv
      have hkd := hkd_of hv
      have HPL := Lib.hid (vplay_any (w := w1) (HRP.out w1 HB1.out) hv (HT.out.below HB1.out) h100 HBD.out)
      have HOF : Hid (∀ W, Below w0.heap.size w0 W → OfAt tv (esP ps) W) := Lib.hid (fun W hW W' hW' => of_any ((HRP.out W hW).below hW') hv)
      have HY1 := Lib.hid hy1
      have HY2 := Lib.hid hy2
      have HE := Lib.hid he
      have HK := Lib.hid hkd
      have HTS := Lib.hid h100
      clear hv hp hy1 hy2 he hkd
      go_upto_region 4 with (go_at_call 6; refine HPL.out.mono ?_; rintro e2 w2 ⟨u2, rfl, ho2, hb2⟩; obtain ⟨A2, c2, rfl, hc21, hc22⟩ := (Row.rd ho2).shape)
      have hb02 := HB1.out.trans (hb2.mono HB1.out.size)
      have HB2 := Lib.hid hb02
      have HO2 := Lib.hid ho2
      have x2 := (HX.out.below hb02).cell 0 rfl
      have HWT := Lib.hid (witness_any (w := w2) (tv := tv) (es := esP ps) (y := y) (Row.rd ho2) (fun g hg => (Row.at_lt ho2 hg).2) HE.out HY1.out HY2.out (fun W hW => HOF.out w2 hb02 W hW))
      clear hb02 ho2 hb2 x1
      go_upto_region 5 with (go_at_call 7; refine HWT.out.mono ?_; rintro e3 w3 ⟨fv, dv, ov, sv, x, rfl, hx1, hx2, hox, hb3⟩; obtain ⟨⟨Af, nf, cf, rfl⟩, ⟨Ad, nd, cd, rfl⟩, ⟨Ao, no, co, rfl⟩, ⟨As, ns, cs, rfl⟩⟩ := OwnX.shapes hox)
      obtain ⟨w4, hw4⟩ : ∃ x, w3.alloc (.cells #[.slice Af nf cf, .slice Ad nd cd, .slice Ao no co, .slice As ns cs] 35) = x := ⟨_, rfl⟩
      rw [hw4]
      have b34 : Below w3.heap.size w3 w4 := by rw [← hw4]; exact (Below.refl _ w3).alloc (Nat.le_refl _) _
      have X4 := show Blk w4 w3.heap.size 35 [.slice Af nf cf, .slice Ad nd cd, .slice Ao no co, .slice As ns cs] by rw [← hw4]; exact Blk.new w3 35 _
      have hb04 : Below w0.heap.size w0 w4 := HB2.out.trans ((hb3.trans (b34.mono hb3.size)).mono HB2.out.size)
      have HX4 := Lib.hid X4
      have hox4 := hox.below b34
      have HF := Lib.hid (fails2_any (w := w4) (tv := tv) hox4 HE.out HK.out hx1 (HOF.out w4 hb04))
      have x4 := (HX.out.below hb04).cell 0 rfl
      have y0 := X4.cell 0 rfl
      have y1 := X4.cell 1 rfl
      have y2 := X4.cell 2 rfl
      have y3 := X4.cell 3 rfl
      have HB4 := Lib.hid hb04
      have HOX := Lib.hid hox4
      have HX1 := Lib.hid hx1
      have HX2 := Lib.hid hx2
      have HO4 := Lib.hid (Row.below HO2.out (hb3.trans (b34.mono hb3.size)))
      clear hw4 b34 X4 hb04 hox hox4 hx1 hx2 hb3 x2
      go_upto_region 6 with (go_at_call 8; refine HF.out.mono ?_; rintro e5 w5 ⟨rfl, hb5⟩)
      clear x4 y0 y1 y2 y3
      have hb05 := HB4.out.trans (hb5.mono HB4.out.size)
      have x5 := (HX.out.below hb05).cell 0 rfl
      have Y5 := HX4.out.below hb5
      have y0 := Y5.cell 0 rfl
      have y1 := Y5.cell 1 rfl
      have y2 := Y5.cell 2 rfl
      have y3 := Y5.cell 3 rfl
      have HOO := Lib.hid (outcome2_any (w := w5) (tv := tv) (HOX.out.below hb5) HE.out HK.out HX1.out (HOF.out w5 hb05))
      have HB5 := Lib.hid hb05
      have HO5 := Lib.hid (Row.below HO4.out hb5)
      clear hb05 hb5 Y5
      go_upto_region 7 with (go_at_call 9; refine HOO.out.mono ?_; rintro e6 w6 ⟨u6, rfl, ho6, hb6⟩; rw [HX2.out] at ho6; obtain ⟨A6, c6, rfl, hc61, hc62⟩ := (Row.rd ho6).shape)
      have HII := Lib.hid (intsEq_any (Row.rd (Row.below HO5.out hb6)) (Row.rd ho6))
      have HB6 := Lib.hid (HB5.out.trans (hb6.mono HB5.out.size))
      clear hb6 ho6 x5 y0 y1 y2 y3
      go_wp2_with (first
        | (go_at_call 10; refine HII.out.mono ?_; rintro e7 w7 ⟨rfl, hb7⟩)
        | (go_at_call 5; refine sane_any.mono ?_; rintro e8 w8 ⟨rfl, hb8⟩))
      go_ret
      have hb := (HB6.out.trans (hb7.mono HB6.out.size))
      exact ⟨rfl, B0.out.trans ((hb.trans (hb8.mono hb.size)).mono B0.out.size)⟩
  · have h100' : (ts.length : Int) > 100 := by omega
    go_wp2_with fail
    refine HSM.out.mono ?_
    rintro e1 w1 ⟨b, rfl, hvb, hb1⟩
    have HB1 := Lib.hid hb1
    clear hb1 hvb x0
    cases b with
    | false =>
      go_wp2_with (go_at_call 5; refine sane_any.mono ?_; rintro e2 w2 ⟨rfl, hb2⟩)
      go_ret
      exact ⟨rfl, (B0.out.trans (HB1.out.mono B0.out.size)).trans (hb2.mono (B0.out.trans (HB1.out.mono B0.out.size)).size)⟩
    | true =>
      go_wp2_with (go_at_call 5; refine sane_any.mono ?_; rintro e2 w2 ⟨rfl, hb2⟩)
      go_ret
      exact ⟨rfl, (B0.out.trans (HB1.out.mono B0.out.size)).trans (hb2.mono (B0.out.trans (HB1.out.mono B0.out.size)).size)⟩
end Go.Proofs.YtkddckfgdiemkaaGreat
/-
  A program and turns that come in as arguments: what is read of them, as plain lists.
-/
set_option linter.unusedVariables false
set_option linter.unusedSimpArgs false
namespace Go.Proofs.YtkddckfgdiemkaaGreat
open Go.RowKit Mem Go.ChangeShapes Go.WideShapes Go.Deep
set_option maxRecDepth 100000

section
variable {H : Type} {enc : TypeId × Value → H} {P : Program} {w : World} {base : Nat} {spare : Nat → Bool} {held : Bool}
/-- A slice, opened to its elements' cells. -/
theorem open_rowsG {t e : TypeId} {fuel k : Nat} {cs : List Value} {x : DataW H × List MemPlace} (ht : P.underlying t = some (.slice e)) (hC : P.cellsOf e = k) (hk : 0 < k) (h : DataW.trod enc P w base spare held fuel t cs = some x) :
    ∃ (A : Option Addr) (len cap n : Nat) (D : Nat → DataW H) (Pl : Nat → List MemPlace), cs = [.slice A len cap] ∧ len ≤ cap ∧ cap ≤ maxLen ∧
      (0 < len → ∃ b off sp, A = some ⟨b, off, none⟩ ∧ b < w.heap.size ∧ x.1 = .slice ((List.range len).map D) sp ∧
        ∀ i, i < len → ∃ cs', cs'.length = k ∧ (∀ j, j < k → w.cell? ⟨b, off + (i * k + j), none⟩ = cs'[j]?) ∧ DataW.trod enc P w base spare held n e cs' = some (D i, Pl i)) := by
  rcases open_slice ht h with ⟨rfl, _⟩ | ⟨a, len, cap, m, n, D, Pl, rfl, hb, hl, hm, hmm, hx, hi⟩
  · exact ⟨none, 0, 0, 0, fun _ => .nil, fun _ => [], rfl, Nat.le_refl _, by simp [maxLen], fun h => absurd h (by omega)⟩
  · refine ⟨some a, len, cap, n, D, Pl, rfl, hl, hm, fun h0 => ?_⟩
    have hlm : len ≤ m := by rw [hmm]; split <;> omega
    rw [hC] at hi
    have hat : ∀ i, i < len → ∃ cs', cs'.length = k ∧ (∀ j, j < k → w.cell? (a.add (i * k + j)) = cs'[j]?) ∧ DataW.trod enc P w base spare held n e cs' = some (D i, Pl i) := fun i hil => by
      obtain ⟨cs', hc, ht'⟩ := hi i (by omega)
      obtain ⟨_, hcl, hat⟩ := World.cells?_some hc
      exact ⟨cs', hcl, fun j hj => by have := hat j hj; rw [Go.Deep.add_add] at this; exact this, ht'⟩
    obtain ⟨cs0, hl0, hc0, _⟩ := hat 0 h0
    have h00 := hc0 0 hk
    rw [Nat.zero_mul] at h00
    obtain ⟨b, off, spot⟩ := a
    have e00 : (⟨b, off, spot⟩ : Addr).add (0 + 0) = ⟨b, off, spot⟩ := rfl
    rw [e00, List.getElem?_eq_getElem (by omega)] at h00
    have hblt := World.block_lt_of_cell? w _ h00
    cases spot with
    | some s => unfold World.cell? at h00; split at h00 <;> simp at h00
    | none =>
      refine ⟨b, off, _, rfl, hblt, by rw [hx], fun i hil => ?_⟩
      obtain ⟨cs', h1, h2, h3⟩ := hat i hil
      exact ⟨cs', h1, fun j hj => by have := h2 j hj; rw [Addr.add_mid] at this; exact this, h3⟩
theorem trod_ints {e : TypeId} {fs : Array Field} {n : Nat} {cs' : List Value} {x : DataW H × List MemPlace} (he : P.underlying e = some (.struct fs)) (hone : oneCellFields P fs = true) (hcl : cs'.length = fs.size)
    (hint : ∀ (j : Nat) (f : Field), fs[j]? = some f → P.underlying f.type = some (.int .i64)) (ht' : DataW.trod enc P w base spare held n e cs' = some x) : ∀ j, j < fs.size → ∃ nn, cs'[j]? = some (.int .i64 nn) ∧ (Lit.int .i64 nn).wf = true := by
  intro j hj
  obtain ⟨ys, n', hn', hy, hlen, hyl, hf⟩ := DataW.trod_struct he ht'
  have hfj : fs[j]? = some fs[j] := Array.getElem?_eq_getElem hj
  obtain ⟨ho, hk⟩ := hone_of hone j _ hfj
  have h1 := hf j _ hfj
  rw [ho, hk] at h1
  have hone' : (cs'.drop j).take 1 = [cs'[j]'(by omega)] := by rw [List.drop_eq_getElem_cons (by omega)]; rfl
  rw [hone', List.getElem?_eq_getElem (by omega)] at h1
  obtain ⟨nn, hv, _, hwf⟩ := DataW.trod_int (hint j _ hfj) h1
  injection hv with hv
  exact ⟨nn, by rw [List.getElem?_eq_getElem (by omega), hv], hwf⟩
theorem trod_pair {e i : TypeId} {n : Nat} {cs' : List Value} {x : DataW H × List MemPlace} (he : P.underlying e = some (.array 2 i)) (hi : P.underlying i = some (.int .i64)) (hci : P.cellsOf i = 1) (hcl : cs'.length = 2) (ht' : DataW.trod enc P w base spare held n e cs' = some x) :
    ∀ j, j < 2 → ∃ nn, cs'[j]? = some (.int .i64 nn) ∧ (Lit.int .i64 nn).wf = true := by
  intro j hj
  obtain ⟨xs, m, _, hx, _, hxl, hf⟩ := DataW.trod_array he ht'
  have h1 := hf j hj
  rw [hci, Nat.mul_one] at h1
  have hone' : (cs'.drop j).take 1 = [cs'[j]'(by omega)] := by rw [List.drop_eq_getElem_cons (by omega)]; rfl
  rw [hone', List.getElem?_eq_getElem (by omega)] at h1
  obtain ⟨nn, hv, _, hwf⟩ := DataW.trod_int hi h1
  injection hv with hv
  exact ⟨nn, by rw [List.getElem?_eq_getElem (by omega), hv], hwf⟩
end
theorem choose_ints {Q : Nat → Nat → Int → Prop} {len k : Nat} (h : ∀ i, i < len → ∀ j, j < k → ∃ n, Q i j n) : ∃ N : Nat → Nat → Int, ∀ i, i < len → ∀ j, j < k → Q i j (N i j) :=
  ⟨fun i j => if h' : i < len ∧ j < k then (h i h'.1 j h'.2).choose else 0, fun i hi j hj => by simp only [hi, hj, and_self, dite_true]; exact (h i hi j hj).choose_spec⟩
theorem choose_lists {Q : Nat → List Ev → Prop} {len : Nat} (h : ∀ i, i < len → ∃ l, Q i l) : ∃ F : Nat → List Ev, ∀ i, i < len → Q i (F i) :=
  ⟨fun i => if h' : i < len then (h i h').choose else [], fun i hi => by simp only [hi, dite_true]; exact (h i hi).choose_spec⟩
theorem choose_vals {Q : Nat → Value → Prop} {len : Nat} (h : ∀ i, i < len → ∃ l, Q i l) : ∃ F : Nat → Value, ∀ i, i < len → Q i (F i) :=
  ⟨fun i => if h' : i < len then (h i h').choose else default, fun i hi => by simp only [hi, dite_true]; exact (h i hi).choose_spec⟩
section
variable {H : Type} {enc : TypeId × Value → H} {w : World} {base : Nat} {spare : Nat → Bool} {held : Bool}
theorem bytes47 : Tryz.prog.bytesOf 47 = 40 := by kernel_rfl
theorem bytes45 : Tryz.prog.bytesOf 45 = 24 := by kernel_rfl
/-- A row of operations, opened. -/
theorem open_ops {fuel : Nat} {c : Value} {x : DataW H × List MemPlace} (h : DataW.trod enc Tryz.prog w base spare held fuel 45 [c] = some x) : ∃ l : List Ev, RdO w c l ∧ ((∀ n ∈ x.1.weights Tryz.prog 45, n ≤ reachBytes) → l.length ≤ 1000000000000000) := by
  obtain ⟨A, len, cap, n, D, Pl, hcs, hl, hm, hx⟩ := open_rowsG Tryz.underlying45 (show Tryz.prog.cellsOf 47 = 5 by kernel_rfl) (by decide) h
  simp only [List.cons.injEq, and_true] at hcs
  subst hcs
  by_cases h0 : 0 < len
  · obtain ⟨b, off, sp, rfl, hb, hxe, hi⟩ := hx h0
    obtain ⟨N, hN⟩ := choose_ints (len := len) (k := 5) (Q := fun i j nn => w.cell? ⟨b, off + (i * 5 + j), none⟩ = some (.int .i64 nn)) (fun i hil j hj => by
      obtain ⟨cs', h1, h2, h3⟩ := hi i hil
      obtain ⟨nn, h4, _⟩ := trod_ints Tryz.underlying47 (by kernel_rfl) h1 (fun j f hj => by
        match j, hj with
        | 0, hj => injection hj with hj; subst hj; exact Tryz.underlying3
        | 1, hj => injection hj with hj; subst hj; exact Tryz.underlying3
        | 2, hj => injection hj with hj; subst hj; exact Tryz.underlying3
        | 3, hj => injection hj with hj; subst hj; exact Tryz.underlying3
        | 4, hj => injection hj with hj; subst hj; exact Tryz.underlying3
        | n + 5, hj => simp at hj) h3 j hj
      exact ⟨nn, (h2 j hj).trans h4⟩)
    have hlen : ((List.range len).map fun i => (⟨N i 0, N i 1, N i 2, N i 3, N i 4, 0⟩ : Ev)).length = len := by simp
    refine ⟨(List.range len).map fun i => ⟨N i 0, N i 1, N i 2, N i 3, N i 4, 0⟩, ⟨by rw [ops_length], some ⟨b, off, none⟩, cap, by rw [hlen], by rw [hlen]; exact hl, hm, fun _ => ⟨b, off, rfl, hb, fun q u hu => ?_⟩⟩, fun hw => ?_⟩
    · have hq : q < len * 5 := by
        have h1 := (List.getElem?_eq_some_iff.1 hu).1
        rw [ops_length, hlen] at h1; exact h1
      have hqi : q / 5 < len := by omega
      have hqj : q % 5 < 5 := Nat.mod_lt _ (by decide)
      have hqq : q = q / 5 * 5 + q % 5 := by omega
      rw [hqq, ops_at _ (q / 5) (by rw [hlen]; exact hqi) (q % 5) hqj] at hu
      rw [hqq, hN (q / 5) hqi (q % 5) hqj, ← hu]
      simp only [List.getElem_map, List.getElem_range]
      rcases (show q % 5 = 0 ∨ q % 5 = 1 ∨ q % 5 = 2 ∨ q % 5 = 3 ∨ q % 5 = 4 by omega) with e | e | e | e | e <;> rw [e] <;> rfl
    · rw [hlen]
      have h1 := hw ((((List.range len).map D).length + sp.length) * Tryz.prog.bytesOf 47) (by rw [hxe]; simp [DataW.weights, Tryz.underlying45])
      rw [bytes47] at h1
      simp only [List.length_map, List.length_range, reachBytes] at h1
      omega
  · have hz : len = 0 := by omega
    subst hz
    exact ⟨[], ⟨rfl, A, cap, rfl, Nat.zero_le _, hm, fun h => absurd h (by simp)⟩, fun _ => by simp⟩
/-- A program's rows, opened. -/
theorem open_rows22 {fuel : Nat} {c : Value} {x : DataW H × List MemPlace} (h : DataW.trod enc Tryz.prog w base spare held fuel 22 [c] = some x) : ∃ ps : List (List Ev), RdP w c ps ∧ ((∀ n ∈ x.1.weights Tryz.prog 22, n ≤ reachBytes) → SizeOk ps) := by
  obtain ⟨A, len, cap, n, D, Pl, hcs, hl, hm, hx⟩ := open_rowsG Tryz.underlying22 (show Tryz.prog.cellsOf 45 = 1 by kernel_rfl) (by decide) h
  simp only [List.cons.injEq, and_true] at hcs
  subst hcs
  by_cases h0 : 0 < len
  · obtain ⟨b, off, sp, rfl, hb, hxe, hi⟩ := hx h0
    obtain ⟨U, hU⟩ := choose_vals (len := len) (Q := fun i u => w.cell? ⟨b, off + i, none⟩ = some u ∧ DataW.trod enc Tryz.prog w base spare held n 45 [u] = some (D i, Pl i)) (fun i hil => by
      obtain ⟨cs', h1, h2, h3⟩ := hi i hil
      match cs', h1 with
      | [u], _ => exact ⟨u, by have := h2 0 (by decide); rw [Nat.mul_one, Nat.add_zero] at this; exact this, h3⟩)
    obtain ⟨F, hF⟩ := choose_lists (len := len) (Q := fun i l => RdO w (U i) l ∧ ((∀ n ∈ (D i).weights Tryz.prog 45, n ≤ reachBytes) → l.length ≤ 1000000000000000)) (fun i hil => open_ops (hU i hil).2)
    have hlen : ((List.range len).map F).length = len := by simp
    have hg : ∀ k, k < len → ((List.range len).map F).getD k [] = F k := fun k hk => by simp [List.getD, hk]
    refine ⟨(List.range len).map F, ⟨(List.range len).map U, ⟨by simp, some ⟨b, off, none⟩, cap, by rw [hlen], by rw [hlen]; exact hl, hm, fun _ => ⟨b, off, rfl, hb, fun q u hu => ?_⟩⟩, by simp, fun k u hu => ?_⟩, fun hw => ⟨?_, fun k => ?_⟩⟩
    · have hq : q < len := by have := (List.getElem?_eq_some_iff.1 hu).1; simpa using this
      simp [hq] at hu
      subst hu
      exact (hU q hq).1
    · have hq : k < len := by have := (List.getElem?_eq_some_iff.1 hu).1; simpa using this
      simp [hq] at hu
      subst hu
      rw [hg k hq]; exact (hF k hq).1
    · rw [hlen]
      have h1 := hw ((((List.range len).map D).length + sp.length) * Tryz.prog.bytesOf 45) (by rw [hxe]; simp [DataW.weights, Tryz.underlying22])
      rw [bytes45] at h1
      simp only [List.length_map, List.length_range, reachBytes] at h1
      omega
    · by_cases hk : k < len
      · rw [hg k hk]
        refine (hF k hk).2 (fun n hn => hw n ?_)
        rw [hxe]
        simp only [DataW.weights, Tryz.underlying22]
        refine List.mem_cons_of_mem _ (List.mem_append_left _ ?_)
        have key : ∀ (l : List (DataW H)) (d : DataW H), d ∈ l → n ∈ d.weights Tryz.prog 45 → n ∈ DataW.weightsAll Tryz.prog 45 l := fun l => by
          induction l with
          | nil => intro d hd _; simp at hd
          | cons a t ih =>
            intro d hd hn
            simp only [DataW.weightsAll, List.mem_append]
            rcases List.mem_cons.1 hd with rfl | hd
            · exact .inl hn
            · exact .inr (ih d hd hn)
        exact key _ (D k) (List.mem_map.2 ⟨k, List.mem_range.2 hk, rfl⟩) hn
      · have : ((List.range len).map F).getD k [] = [] := by rw [List.getD_eq_getElem?_getD, List.getElem?_eq_none (by rw [hlen]; omega)]; rfl
        rw [this]; simp
  · have hz : len = 0 := by omega
    subst hz
    exact ⟨[], ⟨[], ⟨rfl, A, cap, rfl, Nat.zero_le _, hm, fun h => absurd h (by simp)⟩, rfl, fun k u hu => by simp at hu⟩, fun _ => ⟨by simp, fun k => by simp⟩⟩
theorem array1 {α : Type} {cs : Array α} (h : cs.size = 1) : ∃ c0, cs = #[c0] := by
  obtain ⟨l⟩ := cs
  match l, h with
  | [c0], _ => exact ⟨c0, rfl⟩
/-- A program, opened. -/
theorem open_lit {v : Value} {r : Reach} {b0 : Nat} {d : DataW H} {p : List MemPlace} (hv : Value.okWide Tryz.prog w r b0 24 v) (h : DataW.Trod enc Tryz.prog w base spare held 24 v d p) :
    ∃ (c : Value) (ps : List (List Ev)), v = .agg #[c] ∧ RdP w c ps ∧ ((∀ n ∈ d.weights Tryz.prog 24, n ≤ reachBytes) → SizeOk ps) := by
  have hs := Tryz.underlying24
  obtain ⟨cs, rfl, hsz⟩ := okWide_struct hs hv
  obtain ⟨c0, rfl⟩ := array1 (hsz.trans (show Tryz.prog.cellsOf 24 = 1 by kernel_rfl))
  obtain ⟨fuel, hf⟩ := h
  obtain ⟨xs, n, _, hx, hl, hlen, hf⟩ := DataW.trod_struct hs hf
  have i22 : Tryz.prog.cellsOf 22 = 1 := by kernel_rfl
  match xs, hlen with
  | [y0], _ =>
    have h0 : DataW.trod enc Tryz.prog w base spare held n 22 [c0] = some y0 := by have h := hf 0 _ rfl; simpa [Value.cells, i22] using h
    obtain ⟨ps, hp, hw⟩ := open_rows22 h0
    refine ⟨c0, ps, rfl, hp, fun hn => hw (fun k hk => hn k ?_)⟩
    have e : d = .agg [y0.1] := by simpa using congrArg Prod.fst hx
    rw [e]
    simp only [DataW.weights, hs]
    simp [DataW.weightsEach, hk]
theorem okWide_slice25 {v : Value} {r : Reach} {b0 : Nat} (hv : Value.okWide Tryz.prog w r b0 25 v) : ∃ a n c, v = .slice a n c := okWide_slice Tryz.underlying25 hv
/-- Turns, opened. -/
theorem open_turns {v : Value} {r : Reach} {b0 : Nat} {d : DataW H} {p : List MemPlace} (hv : Value.okWide Tryz.prog w r b0 25 v) (h : DataW.Trod enc Tryz.prog w base spare held 25 v d p) :
    ∃ ts : List (Int × Int), RdT w v ts ∧ ∀ k, k < ts.length → -9223372036854775808 ≤ (ts.getD k (0, 0)).2 ∧ (ts.getD k (0, 0)).2 ≤ 9223372036854775807 := by
  obtain ⟨a0, n0, c0, rfl⟩ := okWide_slice25 hv
  obtain ⟨fuel, hf⟩ := h
  obtain ⟨A, len, cap, n, D, Pl, hcs, hl, hm, hx⟩ := open_rowsG Tryz.underlying25 (show Tryz.prog.cellsOf 55 = 2 by kernel_rfl) (by decide) hf
  have hcs : Value.slice a0 n0 c0 = .slice A len cap := by
    have : [Value.slice a0 n0 c0] = [.slice A len cap] := hcs
    simpa using this
  rw [hcs]
  by_cases h0 : 0 < len
  · obtain ⟨b, off, sp, rfl, hb, hxe, hi⟩ := hx h0
    obtain ⟨N, hN⟩ := choose_ints (len := len) (k := 2) (Q := fun i j nn => w.cell? ⟨b, off + (i * 2 + j), none⟩ = some (.int .i64 nn) ∧ (Lit.int .i64 nn).wf = true) (fun i hil j hj => by
      obtain ⟨cs', h1, h2, h3⟩ := hi i hil
      obtain ⟨nn, h4, h5⟩ := trod_pair Tryz.underlying55 Tryz.underlying3 (by kernel_rfl) h1 h3 j hj
      exact ⟨nn, (h2 j hj).trans h4, h5⟩)
    have hlen : ((List.range len).map fun i => (N i 0, N i 1)).length = len := by simp
    have hg : ∀ k, k < len → ((List.range len).map fun i => (N i 0, N i 1)).getD k (0, 0) = (N k 0, N k 1) := fun k hk => by simp [List.getD, hk]
    have hlt : ∀ l : List (Int × Int), (tsC l).length = l.length * 2 := fun l => by
      induction l with
      | nil => rfl
      | cons x t ih => simp only [tsC, List.flatMap_cons, List.length_append, List.length_cons] at ih ⊢; rw [ih]; simp; omega
    refine ⟨(List.range len).map fun i => (N i 0, N i 1), ⟨by rw [hlt], some ⟨b, off, none⟩, cap, by rw [hlen], by rw [hlen]; exact hl, hm, fun _ => ⟨b, off, rfl, hb, fun q u hu => ?_⟩⟩, fun k hk => ?_⟩
    · have hq : q < len * 2 := by
        have h1 := (List.getElem?_eq_some_iff.1 hu).1
        rw [hlt, hlen] at h1; exact h1
      have hqi : q / 2 < len := by omega
      have hqq : q = q / 2 * 2 + q % 2 := by omega
      have h1 := tsC_at ((List.range len).map fun i => (N i 0, N i 1)) (q / 2) (by rw [hlen]; exact hqi)
      rw [hg _ hqi] at h1
      rw [hqq] at hu ⊢
      rcases (show q % 2 = 0 ∨ q % 2 = 1 by omega) with e | e <;> rw [e] at hu ⊢
      · rw [h1.1] at hu
        rw [(hN (q / 2) hqi 0 (by decide)).1]; exact hu
      · rw [h1.2] at hu
        rw [(hN (q / 2) hqi 1 (by decide)).1]; exact hu
    · rw [hlen] at hk
      rw [hg k hk]
      have := (hN k hk 1 (by decide)).2
      exact bounds_i64 this
  · have hz : len = 0 := by omega
    subst hz
    exact ⟨[], ⟨rfl, A, cap, rfl, Nat.zero_le _, hm, fun h => absurd h (by simp)⟩, fun k hk => by simp at hk⟩
end
end Go.Proofs.YtkddckfgdiemkaaGreat
