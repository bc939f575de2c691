/-
  The iterator over all consistent executions.
-/
import Derived.Test.YtkddckfgdiemkaaGreatCP1
import Derived.Test.YtkddckfgdiemkaaGreatCW16
import Derived.Sort.CutIn
set_option linter.unusedVariables false
set_option linter.unusedSimpArgs false
namespace Go.Proofs.YtkddckfgdiemkaaGreat
open Go.RowKit Go.Shelf Mem
set_option maxRecDepth 100000
attribute [local go_sem] Oper.semAt_some

def RepX (B : Nat) (W : World) (vs : Array Value) (x : Ex) : Prop := ∃ v, vs = #[v] ∧ OwnX W B v x
theorem OwnL.rd2 {W : World} {B : Nat} {v : Value} {x : List (List Int)} (h : OwnL W B v x) {S : Nat → Prop} (hS : ∀ k, B ≤ k → k < W.heap.size → ¬ S k) : RdL W S v x := by
  obtain ⟨us, h1, h2, h3⟩ := h
  exact ⟨us, Row.rd h1, h2, fun g hg => hS g (Row.at_lt h1 hg).1 (Row.at_lt h1 hg).2, fun k u hu => ⟨Row.rd (h3 k u hu), fun g hg => hS g (Row.at_lt (h3 k u hu) hg).1 (Row.at_lt (h3 k u hu) hg).2⟩⟩
theorem ne_loop {W : World} {l : Nat} {r : Loop} (hr : W.heap[l]? = some (.loop r)) {e : TypeId} {z m : Nat} {v : Value} {ys : List Value} {B : Nat} (h : Row W B e z v m ys) : ∀ g, v.ownBlock = some g → ¬ g = l := fun g hg hgl => by
  subst hgl
  rcases h.2 with ⟨hn, _⟩ | ⟨g', _, cur, hv', _, hg', _⟩
  · rw [hn] at hg; cases hg
  · rw [hv'] at hg; simp [Value.ownBlock] at hg; subst hg; rw [hr] at hg'; cases hg'
theorem OwnL.keepl {W W' : World} {l : Nat} {r : Loop} (hr : W.heap[l]? = some (.loop r)) {B : Nat} {v : Value} {x : List (List Int)} (h : OwnL W B v x) (k : Kept W W' (fun k => k = l)) : OwnL W' B v x := by
  obtain ⟨us, h1, h2, h3⟩ := h
  exact ⟨us, Row.keep h1 k (ne_loop hr h1), h2, fun j u hu => Row.keep (h3 j u hu) k (ne_loop hr (h3 j u hu))⟩
theorem row_keep4 {W W' : World} {S : Nat → Prop} {EB B n z : Nat} {e : TypeId} {v : Value} {xs cs : List Value} (h : Row W B e z v n xs) (hE : Blk W EB 35 cs) (he : e ≠ 35) (k : Kept W W' (fun k => S k ∨ k = EB)) (hs : ∀ g, B ≤ g → ¬ S g) : Row W' B e z v n xs :=
  Row.keep h k (fun g hg h1 => h1.elim (hs g (Row.at_lt h hg).1) (fun e1 => by subst e1; exact Row.ne_blk h hE he hg))
theorem ownl_keep4 {W W' : World} {S : Nat → Prop} {EB B : Nat} {v : Value} {x : List (List Int)} {cs : List Value} (h : OwnL W B v x) (hE : Blk W EB 35 cs) (k : Kept W W' (fun k => S k ∨ k = EB)) (hs : ∀ g, B ≤ g → ¬ S g) : OwnL W' B v x := by
  obtain ⟨us, h1, h2, h3⟩ := h
  exact ⟨us, row_keep4 h1 hE (by decide) k hs, h2, fun j u hu => row_keep4 (h3 j u hu) hE (by decide) k hs⟩
set_option maxHeartbeats 8000000 in
/-- **The iterator's contract.** -/
theorem execs_gives {w : World} {S0 : Nat → Prop} {es : List Ev} {fen : List Int} {pv fcv : Value} {bp bfc : Nat} (hp : Blk w bp 65 [pv]) (hr : RdE w pv es) (hfb : Blk w bfc 28 [fcv]) (hf : RdI w fcv fen) (hsp : ¬ S0 bp) (hsf : ¬ S0 bfc)
    (hsv : ∀ g, pv.ownBlock = some g → ¬ S0 g) (hsfv : ∀ g, fcv.ownBlock = some g → ¬ S0 g) (hplt : ∀ g, pv.ownBlock = some g → g < w.heap.size) (hflt : ∀ g, fcv.ownBlock = some g → g < w.heap.size) (he : WfE es) (hfin : ∀ x ∈ fen, In es x) (hfl : fen.length < 100000) :
    Gives Tryz.prog 36 #[.pointer (some ⟨bp, 0, none⟩), .pointer (some ⟨bfc, 0, none⟩)] S0 (RepX w.heap.size) (execsF es fen) w := by
  intro l J Jx W S hS hSl hK hJ hJx hY h0
  have hs : ∀ k, k < w.heap.size → ¬ S0 k → ¬ S k := fun k hk h1 h2 => h1 (hS k hk h2)
  have hw : w.heap.size ≤ W.heap.size := hK.size
  obtain ⟨A, c, rfl, hc1, hc2⟩ := hr.shape
  obtain ⟨Af, cf, rfl, hcf1, hcf2⟩ := hf.shape
  have hn := he.n
  have hnb : ∀ k, W.heap.size ≤ k → ¬ S k := fun k hk hsk => by have := hSl k hsk; omega
  -- what stays whatever the consumer does
  have hst : ∀ W1, Kept W W1 S → Blk W1 bp 65 [.slice A es.length c] ∧ RdE W1 (.slice A es.length c) es ∧ Blk W1 bfc 28 [.slice Af fen.length cf] ∧ RdI W1 (.slice Af fen.length cf) fen := fun W1 k1 =>
    ⟨(hp.keep hK hsp).keep k1 (hs _ hp.lt hsp), (hr.keep hK hsv).keep k1 (fun g hg => hs g (hplt g hg) (hsv g hg)), (hfb.keep hK hsf).keep k1 (hs _ hfb.lt hsf), Rd.keep (Rd.keep hf hK hsfv) k1 (fun g hg => hs g (hflt g hg) (hsfv g hg))⟩
  have npv : ∀ g, (Value.slice A es.length c).ownBlock = some g → ¬ S g := fun g hg => hs g (hplt g hg) (hsv g hg)
  have nfv : ∀ g, (Value.slice Af fen.length cf).ownBlock = some g → ¬ S g := fun g hg => hs g (hflt g hg) (hsfv g hg)
  have lpv : ∀ g, (Value.slice A es.length c).ownBlock = some g → g < W.heap.size := fun g hg => Nat.lt_of_lt_of_le (hplt g hg) hw
  have lfv : ∀ g, (Value.slice Af fen.length cf).ownBlock = some g → g < W.heap.size := fun g hg => Nat.lt_of_lt_of_le (hflt g hg) hw
  have l0 := (hst W (Kept.refl _ _)).1.cell 0 rfl
  have HST := Lib.hid hst
  have HNB := Lib.hid hnb
  have HN := Lib.hid (And.intro npv (And.intro nfv (And.intro lpv lfv)))
  have HE := Lib.hid he
  have HJ := Lib.hid hJ
  have HJx := Lib.hid hJx
  have HY := Lib.hid hY
  have HSL := Lib.hid hSl
  have HFI := Lib.hid (And.intro hfin hfl)
  have HW := Lib.hid hw
  have H0 := Lib.hid h0
  clear hp hr hfb hf hsp hsf hsv hsfv hplt hflt he hfin hs hst hnb npv nfv lpv lfv hS hSl hK hJ hJx hY h0 hw
  show CallsIn Fence.wide 9 Tryz.prog 36 #[.func (.yield l) #[] #[], .pointer (some ⟨bp, 0, none⟩), .pointer (some ⟨bfc, 0, none⟩)] W _
  refine callsIn_of_wp_marks Tryz.func36 rfl trivial ?_ rfl
  simp only [Tryz.ntmps36, List.size_toArray, List.length_cons, List.length_nil, Nat.reduceAdd, Nat.reduceSub, Array.replicate_succ, Array.replicate_zero, List.push_toArray, List.append_toArray, List.nil_append, List.cons_append]
  obtain ⟨WA, hWA⟩ : ∃ WA, W.alloc (.cells #[.func (.yield l) #[] #[]] 92) = WA := ⟨_, rfl⟩
  have bA : Below W.heap.size W WA := by rw [← hWA]; exact (Below.refl _ W).alloc (Nat.le_refl _) _
  have Y1 := Lib.hid (show Blk WA W.heap.size 92 [.func (.yield l) #[] #[]] by rw [← hWA]; exact Blk.new W 92 _)
  have l1 : WA.cell? ⟨bp, 0, none⟩ = some (.slice A es.length c) := (HST.out WA (Kept.of_below bA S)).1.cell 0 rfl
  gi_wp2_with (refine ⟨trivial, ?_⟩; gi_at_call 37; refine (callsIn_wide.2 dones_any).mono ?_; rintro e4 W4 ⟨rfl, hw4⟩; replace hw4 := Lib.hid hw4.symm)
  have b4 : Below WA.heap.size WA W4 := by rw [← hw4.out]; exact (Below.refl _ WA).alloc (Nat.le_refl _) _
  have bW4 : Below W.heap.size W W4 := bA.trans (b4.mono bA.size)
  have G4 : Blk W4 WA.heap.size 65 [.slice A es.length c] := by rw [← hw4.out]; exact Blk.new WA 65 _
  have HG4 := Lib.hid (dones_gives (w := W4) (S0 := S) G4 (HST.out W4 (Kept.of_below bW4 S)).2.1 (HNB.out _ bA.size) HN.out.1 (fun g hg => Nat.lt_of_lt_of_le (HN.out.2.2.1 g hg) bW4.size) (by omega))
  have Y4 := Lib.hid (Y1.out.below b4)
  have BW4 := Lib.hid bW4
  have h04 := Lib.hid (HJ.out _ _ _ H0.out bW4)
  have HWA := Lib.hid bA.size
  clear hw4 b4 bW4 G4 bA l1 hWA
  refine wpIn_range (gf := 60) (lb := #[.pointer (some ⟨WA.heap.size, 0, none⟩)])
    (I := fun (pre : List (List Bool)) Wc => J (pre.flatMap (F1 es fen)) Wc ∧ Kept W4 Wc S) (Ix := fun c _ Wc => c = .ret ∧ ∃ q, q <+: execsF es fen ∧ Jx q Wc)
    rfl (enters_of Tryz.func60 (by kernel_rfl) rfl) HG4.out (fun k hk => by have := HSL.out k hk; have := BW4.out.size; omega)
    ((Abide.mono (B := W.heap.size) (J := fun (pre : List (List Bool)) Wc => J (pre.flatMap (F1 es fen)) Wc) (fun s A C hj hb => HJ.out _ _ _ hj hb) BW4.out.size).and abide_kept)
    (fun c s A C hj hb hcs => ⟨hj.1, hj.2.imp fun q hq => ⟨hq.1, HJx.out _ _ _ hq.2 (hb.mono BW4.out.size) hcs⟩⟩)
    (fun Wc vs x hv => by obtain ⟨v, rfl, _⟩ := hv; rfl) ⟨by simpa using h04.out, Kept.refl _ _⟩ ?round ?done ?stop
  case done =>
    rintro D Wc hD ⟨hj, hk⟩ hdef
    have hj2 : J (execsF es fen) (Wc.putObj D (.deferred none)) := HJ.out _ _ _ hj (putObj_below (Nat.le_trans BW4.out.size hD))
    refine ⟨by simp, .inl ⟨_, _, rfl, run_takeDeferred hdef, ?_⟩⟩
    exact ⟨_, results_none rfl _ _ _, ⟨_, rfl⟩, .inl hj2⟩
  case stop =>
    rintro D c pre Wc hD hpre ⟨rfl, hq⟩ hdef
    have hq2 : ∃ q, q <+: execsF es fen ∧ Jx q (Wc.putObj D (.deferred none)) := hq.imp fun q hq => ⟨hq.1, HJx.out _ _ _ hq.2 (putObj_below (Nat.le_trans BW4.out.size hD)) (putObj_cells hdef (fun _ _ _ h => by cases h))⟩
    gi_wp2
    refine ⟨by simp, .inl ⟨_, _, rfl, run_takeDeferred hdef, ?_⟩⟩
    exact ⟨_, results_none rfl _ _ _, ⟨_, rfl⟩, .inr hq2⟩
  case round =>
    rintro l₁ pre d vs W1 hl1 hloop1 ⟨hj1, hk1⟩ hpre1 ⟨v, rfl, hv⟩
    obtain ⟨Av, cv, rfl, hcv1, hcv2⟩ := (Row.rd hv).shape
    have hdm : d ∈ donesF es := hpre1.subset (List.mem_append_right _ (List.mem_singleton.2 rfl))
    gi_wp2
    refine ⟨(Kept.refl W1 _).alloc _, fun W₂ hk2 hsz2 hloop2 => ?_⟩
    obtain ⟨r1, hr1⟩ := hloop1
    have hl1lt : l₁ < W1.heap.size := (Array.getElem?_eq_some_iff.1 hr1).1
    have hk3 : Kept W4 W₂ S := (hk1.alloc _).trans hk2 (fun i hi e => absurd hi (by omega))
    have hk4 : Kept W W₂ S := (Kept.of_below BW4.out S).trans hk3 (fun _ _ h => h)
    have hb12 : Below W.heap.size W1 W₂ := ((Below.refl W.heap.size W1).alloc (by have := hk1.size; have := BW4.out.size; omega) _).trans (hk2.below (by have := hk1.size; have := BW4.out.size; simp; omega) (fun k e => by have := BW4.out.size; omega))
    have hj2 := Lib.hid (HJ.out _ _ _ hj1 hb12)
    have D2 : Blk W₂ W1.heap.size 32 [.slice Av d.length cv] := (Blk.new W1 32 [.slice Av d.length cv]).keep hk2 (by omega)
    have V2 : OwnB W₂ W4.heap.size (.slice Av d.length cv) d := Row.keep (Row.below hv ((Below.refl _ W1).alloc (Nat.le_refl _) _)) hk2 (ne_loop (l := l₁) (r := r1) (show (W1.alloc (.cells #[.slice Av d.length cv] 32)).heap[l₁]? = some (.loop r1) from (Below.heap_alloc W1 _ l₁ hl1lt).trans hr1) (Row.below hv ((Below.refl _ W1).alloc (Nat.le_refl _) _)))
    have Y2 := Y4.out.keep hk3 (HNB.out _ (Nat.le_refl _))
    have hst2 := HST.out W₂ hk4
    have p2 := hst2.1.cell 0 rfl
    have dd2 := D2.cell 0 rfl
    have hw42 : W4.heap.size ≤ W₂.heap.size := hk3.size
    have hw41 : W4.heap.size ≤ W1.heap.size := hk1.size
    obtain ⟨r2, hr2⟩ := hloop2
    have FF := Lib.hid (And.intro hk3 (And.intro D2 (And.intro V2 (And.intro Y2 hst2))))
    have HR2 := Lib.hid hr2
    have HPre := Lib.hid hpre1
    have HDM := Lib.hid hdm
    clear hk1 hj1 hv hr1 hb12 hk2 hsz2 hk3 hk4 D2 V2 Y2 hst2 hpre1 hr2 hl1lt hdm
    gi_wp2_with (refine ⟨trivial, ?_⟩; gi_at_call 38; refine (CallsIn.inRound l₁ (callsIn_wide.2 orders_any)).mono ?_; rintro e5 W5 ⟨rfl, hw5⟩; replace hw5 := Lib.hid hw5.symm)
    obtain ⟨hk3, D2, V2, Y2, hst2⟩ := FF.out
    have hb5 : Below W₂.heap.size W₂ W5 := by rw [← hw5.out]; exact (((Below.refl _ W₂).alloc (Nat.le_refl _) _).alloc (by simp) _).alloc (by simp; omega) _
    have G1 : Blk W5 W₂.heap.size 65 [.slice A es.length c] := by rw [← hw5.out]; exact ((Blk.new W₂ 65 [.slice A es.length c]).alloc _).alloc _
    have G2 : Blk W5 (W₂.heap.size + 1) 32 [.slice Av d.length cv] := by rw [← hw5.out]; exact (blk_at_new 32 [.slice Av d.length cv] (by simp)).alloc _
    have G3 : Blk W5 (W₂.heap.size + 1 + 1) 3 [.int .i64 ((3 : Int) - (3 : Nat))] := by rw [← hw5.out]; exact blk_at_new 3 [.int .i64 0] (by simp)
    have hWW : W.heap.size ≤ W₂.heap.size := Nat.le_trans BW4.out.size hw42
    have nv2 : ∀ g, (Value.slice Av d.length cv).ownBlock = some g → ¬ S g ∧ g < W₂.heap.size := fun g hg => ⟨HNB.out _ (Nat.le_trans BW4.out.size (Row.at_lt V2 hg).1), (Row.at_lt V2 hg).2⟩
    have hdl := donesF_len HDM.out
    have HG5 := Lib.hid (orders_at (es := es) (d := d) hdl (by omega) 3 (Nat.le_refl _) W5 S (W₂.heap.size + 1 + 1) W₂.heap.size (W₂.heap.size + 1) _ _ G3 G1 (hst2.2.1.below hb5) G2 (Rd.below (Row.rd V2) hb5) (HNB.out _ (by omega)) (HNB.out _ (by omega)) (HNB.out _ (by omega)) HN.out.1 (fun g hg => (nv2 g hg).1)
      (fun g hg => by have := HN.out.2.2.1 g hg; have := hb5.size; omega) (fun g hg => Nat.lt_of_lt_of_le (nv2 g hg).2 hb5.size))
    have hk5 : Kept W4 W5 S := hk3.then_below hb5
    have hj5 := Lib.hid (HJ.out _ _ _ hj2.out (hb5.mono hWW))
    have hr5 : W5.heap[l₁]? = some (.loop r2) := (hb5.block l₁ (Array.getElem?_eq_some_iff.1 HR2.out).1).trans HR2.out
    have D5 := Lib.hid (D2.below hb5)
    have V5 := Lib.hid (Row.below V2 hb5)
    have Y5 := Lib.hid (Y2.below hb5)
    have W5s := Lib.hid (Nat.le_trans hWW hb5.size)
    have K5 := Lib.hid hk5
    have KW5 := Lib.hid ((Kept.of_below BW4.out S).trans hk5 (fun _ _ h => h))
    have HB5 := Lib.hid hb5
    have hw25 : W₂.heap.size ≤ W5.heap.size := hb5.size
    have hD2l : W1.heap.size < W5.heap.size := Nat.lt_of_lt_of_le D2.lt hb5.size
    clear hk3 D2 V2 Y2 hst2 FF hb5 G1 G2 G3 nv2 hk5 hw5 hdl
    refine wpIn_range_in (l₀ := l₁) (r₀ := r2) (gf := 62) (lb := #[.pointer (some ⟨W₂.heap.size + 1 + 1, 0, none⟩), .pointer (some ⟨W₂.heap.size, 0, none⟩), .pointer (some ⟨W₂.heap.size + 1, 0, none⟩)])
      (I := fun (pre2 : List (List (List Int))) Wc => J (pre.flatMap (F1 es fen) ++ pre2.flatMap (F2 es fen d)) Wc ∧ Kept W5 Wc S) (Ix := fun c _ Wc => c = .ret ∧ (∃ q, q <+: execsF es fen ∧ Jx q Wc) ∧ Kept W5 Wc S)
      hr5 rfl (enters_of Tryz.func62 (by kernel_rfl) rfl) HG5.out (fun k hk => by have := HSL.out k hk; have := W5s.out; omega)
      ((Abide.mono (B := W.heap.size) (J := fun (pre2 : List (List (List Int))) Wc => J (pre.flatMap (F1 es fen) ++ pre2.flatMap (F2 es fen d)) Wc) (fun s A C hj hb => HJ.out _ _ _ hj hb) W5s.out).and abide_kept)
      (fun c s A C hj hb hcs => ⟨hj.1, hj.2.1.imp fun q hq => ⟨hq.1, HJx.out _ _ _ hq.2 (hb.mono W5s.out) hcs⟩, abide_kept (β := Unit) () _ _ hj.2.2 hb⟩)
      (fun Wc vs x hv => by obtain ⟨v, rfl, _⟩ := hv; rfl) ⟨by simpa using hj5.out, Kept.refl _ _⟩ ?round2 ?done2 ?stop2
    case done2 =>
      rintro Wc ⟨hj, hk⟩
      exact ⟨⟨by rw [flat_snoc]; exact hj, K5.out.trans hk (fun _ _ h => h)⟩, (Kept.of_below HB5.out S).trans hk (fun _ _ h => h)⟩
    case stop2 =>
      rintro c2 pre2 Wc hpre2 ⟨rfl, hq, hk⟩
      gi_wp2
      exact ⟨⟨rfl, hq⟩, (Kept.of_below HB5.out S).trans hk (fun _ _ h => h)⟩
    case round2 =>
      rintro l₂ pre2 o vs W6 hl2 hloop2 ⟨hj6, hk6⟩ hpre2 ⟨v2, rfl, hv2⟩
      obtain ⟨A2, c2, rfl, hc21, hc22⟩ := hv2.shape
      have hom : o ∈ ordersW es d 3 := hpre2.subset (List.mem_append_right _ (List.mem_singleton.2 rfl))
      gi_wp2
      refine ⟨(Kept.refl W6 _).alloc _, fun W₇ hk7 hsz7 hloop7 => ?_⟩
      obtain ⟨r6, hr6⟩ := hloop2
      have hl2lt : l₂ < W6.heap.size := (Array.getElem?_eq_some_iff.1 hr6).1
      have hw56 : W5.heap.size ≤ W6.heap.size := hk6.size
      have hk57 : Kept W5 W₇ S := (hk6.alloc _).trans hk7 (fun i hi e => absurd hi (by omega))
      have hkW7 : Kept W W₇ S := KW5.out.trans hk57 (fun _ _ h => h)
      have hb67 : Below W.heap.size W6 W₇ := ((Below.refl W.heap.size W6).alloc (by have := W5s.out; omega) _).trans (hk7.below (by have := W5s.out; simp; omega) (fun k e => by have := W5s.out; omega))
      have hj7 := Lib.hid (HJ.out _ _ _ hj6 hb67)
      have O7 : Blk W₇ W6.heap.size 33 [.slice A2 o.length c2] := (Blk.new W6 33 [.slice A2 o.length c2]).keep hk7 (by omega)
      have hr6a : (W6.alloc (.cells #[.slice A2 o.length c2] 33)).heap[l₂]? = some (.loop r6) := (Below.heap_alloc W6 _ l₂ hl2lt).trans hr6
      have VO7 : OwnL W₇ W5.heap.size (.slice A2 o.length c2) o := OwnL.keepl hr6a (hv2.below ((Below.refl _ W6).alloc (Nat.le_refl _) _)) hk7
      have D7 := D5.out.keep hk57 (HNB.out _ (by have := BW4.out.size; omega))
      have V7 : OwnB W₇ W4.heap.size (.slice Av d.length cv) d := Row.keep V5.out hk57 (fun g hg => HNB.out g (Nat.le_trans BW4.out.size (Row.at_lt V5.out hg).1))
      have Y7 := Y5.out.keep hk57 (HNB.out _ (Nat.le_refl _))
      have hst7 := HST.out W₇ hkW7
      have p7 := hst7.1.cell 0 rfl
      have d7 := D7.cell 0 rfl
      have o7 := O7.cell 0 rfl
      have hw57 : W5.heap.size ≤ W₇.heap.size := hk57.size
      obtain ⟨r7, hr7⟩ := hloop7
      have FF2 := Lib.hid (And.intro hk57 (And.intro O7 (And.intro VO7 (And.intro D7 (And.intro V7 (And.intro Y7 hst7))))))
      have HR7 := Lib.hid hr7
      have HPre2 := Lib.hid hpre2
      have HOM := Lib.hid hom
      clear hk6 hj6 hv2 hr6 hr6a hb67 hk7 hsz7 hk57 hkW7 O7 VO7 D7 V7 Y7 hst7 hpre2 hr7 hl2lt hom hr5 p2 dd2
      gi_wp2_with (refine ⟨trivial, ?_⟩; gi_at_call 39; refine (CallsIn.inRound l₂ (callsIn_wide.2 froms_any)).mono ?_; rintro e8 W8 ⟨rfl, hw8⟩; replace hw8 := Lib.hid hw8.symm)
      obtain ⟨hk57, O7, VO7, D7, V7, Y7, hst7⟩ := FF2.out
      have hb8 : Below W₇.heap.size W₇ W8 := by rw [← hw8.out]; exact (((Below.refl _ W₇).alloc (Nat.le_refl _) _).alloc (by simp) _).alloc (by simp; omega) _
      have G1 : Blk W8 W₇.heap.size 65 [.slice A es.length c] := by rw [← hw8.out]; exact ((Blk.new W₇ 65 [.slice A es.length c]).alloc _).alloc _
      have G2 : Blk W8 (W₇.heap.size + 1) 32 [.slice Av d.length cv] := by rw [← hw8.out]; exact (blk_at_new 32 [.slice Av d.length cv] (by simp)).alloc _
      have G3 : Blk W8 (W₇.heap.size + 1 + 1) 33 [.slice A2 o.length c2] := by rw [← hw8.out]; exact blk_at_new 33 [.slice A2 o.length c2] (by simp)
      have hWW7 : W.heap.size ≤ W₇.heap.size := Nat.le_trans W5s.out hw57
      have nv7 : ∀ g, (Value.slice Av d.length cv).ownBlock = some g → ¬ S g ∧ g < W₇.heap.size := fun g hg => ⟨HNB.out _ (Nat.le_trans BW4.out.size (Row.at_lt V7 hg).1), (Row.at_lt V7 hg).2⟩
      have VO8 : OwnL W8 W5.heap.size (.slice A2 o.length c2) o := VO7.below hb8
      have hRL : RdL W8 (fun k => S k ∨ W8.heap.size ≤ k) (.slice A2 o.length c2) o := VO8.rd2 (fun k h1 h2 h3 => h3.elim (HNB.out k (Nat.le_trans W5s.out h1)) (fun h => by omega))
      have HG8 := Lib.hid (froms_gives (w := W8) (S0 := S) G1 (hst7.2.1.below hb8) G2 (Rd.below (Row.rd V7) hb8) G3 hRL (HNB.out _ (by omega)) (HNB.out _ (by omega)) (HNB.out _ (by omega)) HN.out.1 (fun g hg => (nv7 g hg).1) (fun k hk => by have := HSL.out k hk; have := hb8.size; omega)
        (fun g hg => by have := HN.out.2.2.1 g hg; have := hb8.size; omega) (fun g hg => Nat.lt_of_lt_of_le (nv7 g hg).2 hb8.size) (ordOk HE.out HDM.out HOM.out) (by omega))
      have hk8 : Kept W5 W8 S := hk57.then_below hb8
      have hj8 := Lib.hid (HJ.out _ _ _ hj7.out (hb8.mono hWW7))
      have hr8 : W8.heap[l₂]? = some (.loop r7) := (hb8.block l₂ (Array.getElem?_eq_some_iff.1 HR7.out).1).trans HR7.out
      have D8 := Lib.hid (D7.below hb8)
      have O8 := Lib.hid (O7.below hb8)
      have V8 := Lib.hid (Row.below V7 hb8)
      have HVO8 := Lib.hid VO8
      have Y8 := Lib.hid (Y7.below hb8)
      have W8s := Lib.hid (Nat.le_trans hWW7 hb8.size)
      have K8 := Lib.hid hk8
      have KW8 := Lib.hid (KW5.out.trans hk8 (fun _ _ h => h))
      have HB8 := Lib.hid hb8
      have hw78 : W₇.heap.size ≤ W8.heap.size := hb8.size
      have hO7l : W6.heap.size < W8.heap.size := Nat.lt_of_lt_of_le O7.lt hb8.size
      have hD7l : W1.heap.size < W8.heap.size := Nat.lt_of_lt_of_le D7.lt hb8.size
      clear hk57 O7 VO7 D7 V7 Y7 hst7 FF2 hb8 G1 G2 G3 nv7 hk8 hw8 VO8 hRL
      refine wpIn_range_in (l₀ := l₂) (r₀ := r7) (gf := 64) (lb := #[.pointer (some ⟨W₇.heap.size, 0, none⟩), .pointer (some ⟨W₇.heap.size + 1 + 1, 0, none⟩), .pointer (some ⟨W₇.heap.size + 1, 0, none⟩)])
        (I := fun (pre3 : List (List Int)) Wc => J ((pre.flatMap (F1 es fen) ++ pre2.flatMap (F2 es fen d)) ++ pre3.flatMap (F3 es fen d o)) Wc ∧ Kept W8 Wc S) (Ix := fun c _ Wc => c = .ret ∧ (∃ q, q <+: execsF es fen ∧ Jx q Wc) ∧ Kept W8 Wc S)
        hr8 rfl (enters_of Tryz.func64 (by kernel_rfl) rfl) HG8.out (fun k hk => by have := HSL.out k hk; have := W8s.out; omega)
        ((Abide.mono (B := W.heap.size) (J := fun (pre3 : List (List Int)) Wc => J ((pre.flatMap (F1 es fen) ++ pre2.flatMap (F2 es fen d)) ++ pre3.flatMap (F3 es fen d o)) Wc) (fun s A C hj hb => HJ.out _ _ _ hj hb) W8s.out).and abide_kept)
        (fun c s A C hj hb hcs => ⟨hj.1, hj.2.1.imp fun q hq => ⟨hq.1, HJx.out _ _ _ hq.2 (hb.mono W8s.out) hcs⟩, abide_kept (β := Unit) () _ _ hj.2.2 hb⟩)
        (fun Wc vs x hv => by obtain ⟨v, rfl, _⟩ := hv; rfl) ⟨by simpa using hj8.out, Kept.refl _ _⟩ ?round3 ?done3 ?stop3
      case done3 =>
        rintro Wc ⟨hj, hk⟩
        exact ⟨⟨by rw [flat_snoc, ← List.append_assoc]; exact hj, K8.out.trans hk (fun _ _ h => h)⟩, (Kept.of_below HB8.out S).trans hk (fun _ _ h => h)⟩
      case stop3 =>
        rintro c3 pre3 Wc hpre3 ⟨rfl, hq, hk⟩
        gi_wp2
        exact ⟨⟨rfl, hq, K8.out.trans hk (fun _ _ h => h)⟩, (Kept.of_below HB8.out S).trans hk (fun _ _ h => h)⟩
      case round3 =>
        rintro l₃ pre3 f vs W9 hl3 hloop3 ⟨hj9, hk9⟩ hpre3 ⟨v3, rfl, hv3⟩
        obtain ⟨A3, c3, rfl, hc31, hc32⟩ := (Row.rd hv3).shape
        have hfm : f ∈ fromsW es d o es.length [] := hpre3.subset (List.mem_append_right _ (List.mem_singleton.2 rfl))
        gi_wp2
        refine ⟨Kept.refl W9 _, fun W₁₀ hk10 hsz10 hloop10 => ?_⟩
        obtain ⟨r9, hr9⟩ := hloop3
        have hw89 : W8.heap.size ≤ W9.heap.size := hk9.size
        have hk810 : Kept W8 W₁₀ S := hk9.trans hk10 (fun i hi e => absurd hi (by omega))
        have hkW10 : Kept W W₁₀ S := KW8.out.trans hk810 (fun _ _ h => h)
        have hb910 : Below W.heap.size W9 W₁₀ := hk10.below (by have := W8s.out; omega) (fun k e => by have := W8s.out; omega)
        have hj10 := Lib.hid (HJ.out _ _ _ hj9 hb910)
        have VF10 : Own W₁₀ W8.heap.size (.slice A3 f.length c3) f := Row.keep hv3 hk10 (ne_loop hr9 hv3)
        have D10 := D8.out.keep hk810 (HNB.out _ (by have := BW4.out.size; omega))
        have O10 := O8.out.keep hk810 (HNB.out _ (by have := W5s.out; omega))
        have V10 : OwnB W₁₀ W4.heap.size (.slice Av d.length cv) d := Row.keep V8.out hk810 (fun g hg => HNB.out g (Nat.le_trans BW4.out.size (Row.at_lt V8.out hg).1))
        have VO10 : OwnL W₁₀ W5.heap.size (.slice A2 o.length c2) o := HVO8.out.keep hk810 (fun g hg => HNB.out g (Nat.le_trans W5s.out hg))
        have Y10 := Y8.out.keep hk810 (HNB.out _ (Nat.le_refl _))
        have hst10 := HST.out W₁₀ hkW10
        have p10 := hst10.1.cell 0 rfl
        have f10 := hst10.2.2.1.cell 0 rfl
        have d10 := D10.cell 0 rfl
        have o10 := O10.cell 0 rfl
        have hw810 : W8.heap.size ≤ W₁₀.heap.size := hk810.size
        obtain ⟨r10, hr10⟩ := hloop10
        have hWX := wfX (s := []) HE.out HDM.out HOM.out hfm (by simp) (by simp)
        have hWR := wfR (s := []) HE.out HOM.out hfm
        -- the execution, without its fences
        obtain ⟨W11, hW11⟩ : ∃ W11, W₁₀.alloc (.cells #[.slice A3 f.length c3, .slice Av d.length cv, .slice A2 o.length c2, .slice none 0 0] 35) = W11 := ⟨_, rfl⟩
        have hb11 : Below W₁₀.heap.size W₁₀ W11 := by rw [← hW11]; exact (Below.refl _ W₁₀).alloc (Nat.le_refl _) _
        have E11 : Blk W11 W₁₀.heap.size 35 [.slice A3 f.length c3, .slice Av d.length cv, .slice A2 o.length c2, .slice none 0 0] := by rw [← hW11]; exact Blk.new W₁₀ 35 _
        obtain ⟨EB, hEB⟩ : ∃ EB, W₁₀.heap.size = EB := ⟨_, rfl⟩
        have hEBw : W₁₀.heap.size = EB := hEB
        rw [hEB] at E11
        have X11 : RdX W11 (.slice A3 f.length c3) (.slice Av d.length cv) (.slice A2 o.length c2) (.slice none 0 0) ⟨f, d, o, []⟩ := ⟨Rd.below (Row.rd VF10) hb11, Rd.below (Row.rd V10) hb11, ((VO10.below hb11).rd2 (S := fun _ => False) (fun _ _ _ h => h)), ⟨rfl, none, 0, rfl, Nat.le_refl _, Nat.zero_le _, fun h => absurd h (by simp)⟩⟩
        have e0 := E11.cell 0 rfl
        have e1 := E11.cell 1 rfl
        have e2 := E11.cell 2 rfl
        have e3 := E11.cell 3 rfl
        have p11 := (hst10.1.below hb11).cell 0 rfl
        have RE11 := Lib.hid (hst10.2.1.below hb11)
        have HX11 := Lib.hid X11
        have HE11 := Lib.hid E11
        have HB11 := Lib.hid hb11
        have HWX := Lib.hid hWX
        have HWR := Lib.hid hWR
        have HFM := Lib.hid hfm
        have HEB := Lib.hid hEB
        have HW11 := Lib.hid hW11
        have HR10 := Lib.hid hr10
        have HPre3 := Lib.hid hpre3
        have FF3 := Lib.hid (And.intro hk810 (And.intro VF10 (And.intro V10 (And.intro VO10 (And.intro Y10 hst10)))))
        have HK810 := Lib.hid hk810
        clear hk9 hj9 hv3 hr9 hk10 hsz10 hb910 VF10 D10 O10 V10 VO10 Y10 hst10 hfm hpre3 hWX hWR hb11 E11 X11 hr10 hk810 hkW10 hr8 p7 d7 o7 hW11 hEB hEBw
        cases hpo : possibleF es ⟨f, d, o, []⟩ with
        | false =>
          have HPO := Lib.hid hpo
          clear hpo
          gi_upto_region 8 with fail
          rw [HW11.out, HEB.out]
          gi_wp2_with (refine ⟨trivial, ?_⟩; gi_at_call 40; refine (CallsIn.inRound l₃ (callsIn_wide.2 (possible_any RE11.out HX11.out HE.out HWX.out HWR.out))).mono ?_; rintro e12 W12 ⟨rfl, hb12⟩; rw [HPO.out])
          have hb1012 : Below W₁₀.heap.size W₁₀ W12 := HB11.out.trans (hb12.mono HB11.out.size)
          have hWs10 : W.heap.size ≤ W₁₀.heap.size := Nat.le_trans W8s.out hw810
          refine ⟨⟨?_, HK810.out.then_below hb1012⟩, Kept.of_below hb1012 S⟩
          rw [flat_snoc, F3, HPO.out]
          simp only [Bool.false_eq_true, if_false, List.append_nil]
          exact HJ.out _ _ _ hj10.out (hb1012.mono hWs10)
        | true =>
          have HPO := Lib.hid hpo
          clear hpo
          have hWs10 : W.heap.size ≤ W₁₀.heap.size := Nat.le_trans W8s.out hw810
          have hWE : W.heap.size ≤ EB := by have := HEB.out; omega
          gi_upto_region 8 with fail
          rw [HW11.out, HEB.out]
          gi_upto_region 9 with (refine ⟨trivial, ?_⟩; gi_at_call 40; refine (CallsIn.inRound l₃ (callsIn_wide.2 (possible_any RE11.out HX11.out HE.out HWX.out HWR.out))).mono ?_; rintro e12 W12 ⟨rfl, hb12⟩; rw [HPO.out])
          have hb1012 : Below W₁₀.heap.size W₁₀ W12 := HB11.out.trans (hb12.mono HB11.out.size)
          obtain ⟨hk810, VF10, V10, VO10, Y10, hst10⟩ := FF3.out
          have hst12 := HST.out W12 ((KW8.out.trans hk810 (fun _ _ h => h)).then_below hb1012)
          have p12 := hst12.1.cell 0 rfl
          have f12 := hst12.2.2.1.cell 0 rfl
          have E12 := HE11.out.below hb12
          have VF12 := Row.below VF10 hb1012
          have V12 := Row.below V10 hb1012
          have VO12 := VO10.below hb1012
          have Y12 := Y10.below hb1012
          have hj12 := HJ.out _ _ _ hj10.out (hb1012.mono hWs10)
          have HB12 := Lib.hid hb1012
          have HJ12 := Lib.hid hj12
          have FF4 := Lib.hid (And.intro E12 (And.intro VF12 (And.intro V12 (And.intro VO12 (And.intro Y12 hst12)))))
          clear hb12 hb1012 hk810 VF10 V10 VO10 Y10 hst10 E12 VF12 V12 VO12 Y12 hst12 hj12 FF3 e0 e1 e2 e3 p11 p10 f10 d10 o10
          gi_wp2_with (refine ⟨trivial, ?_⟩; gi_at_call 41; refine (CallsIn.inRound l₃ (callsIn_wide.2 merges_any)).mono ?_; rintro e13 W13 ⟨rfl, hw13⟩; replace hw13 := Lib.hid hw13.symm)
          obtain ⟨E12, VF12, V12, VO12, Y12, hst12⟩ := FF4.out
          have hb13 : Below W12.heap.size W12 W13 := by rw [← hw13.out]; exact ((Below.refl _ W12).alloc (Nat.le_refl _) _).alloc (by simp) _
          have G1 : Blk W13 W12.heap.size 65 [.slice A es.length c] := by rw [← hw13.out]; exact (Blk.new W12 65 [.slice A es.length c]).alloc _
          have G2 : Blk W13 (W12.heap.size + 1) 28 [.slice Af fen.length cf] := by rw [← hw13.out]; exact blk_at_new 28 [.slice Af fen.length cf] (by simp)
          have hE12 : EB < W12.heap.size := E12.lt
          have hW12 : W.heap.size ≤ W12.heap.size := Nat.le_trans hWs10 HB12.out.size
          have n4 : ∀ k, W12.heap.size ≤ k → ¬ (S k ∨ k = EB) := fun k hk h => h.elim (HNB.out k (by omega)) (fun h => by omega)
          have HG13 := Lib.hid (merges_gives (w := W13) (S0 := fun k => S k ∨ k = EB) G1 (hst12.2.1.below hb13) G2 (Rd.below hst12.2.2.2 hb13) (n4 _ (Nat.le_refl _)) (fun g hg h => h.elim (HN.out.1 g hg) (fun h => by have := HN.out.2.2.1 g hg; omega)) (n4 _ (by omega)) (fun g hg h => h.elim (HN.out.2.1 g hg) (fun h => by have := HN.out.2.2.2 g hg; omega))
            (fun g hg => by have := HN.out.2.2.1 g hg; have := hb13.size; omega) (fun g hg => by have := HN.out.2.2.2 g hg; have := hb13.size; omega) HFI.out.1 (by omega))
          have E13 := E12.below hb13
          have VF13 := Row.below VF12 hb13
          have V13 := Row.below V12 hb13
          have VO13 := VO12.below hb13
          have Y13 := Y12.below hb13
          have hj13 := Lib.hid (HJ.out _ _ _ HJ12.out (hb13.mono hW12))
          have hr13 : W13.heap[l₃]? = some (.loop r10) := by
            have hlt := (Array.getElem?_eq_some_iff.1 HR10.out).1
            exact (hb13.block l₃ (Nat.lt_of_lt_of_le hlt HB12.out.size)).trans ((HB12.out.block l₃ hlt).trans HR10.out)
          have hb1013 : Below W₁₀.heap.size W₁₀ W13 := HB12.out.trans (hb13.mono HB12.out.size)
          have HB13 := Lib.hid hb1013
          have hW13 : W.heap.size ≤ W13.heap.size := Nat.le_trans hW12 hb13.size
          have hE13l : EB < W13.heap.size := E13.lt
          have HKW13 := Lib.hid ((KW8.out.trans HK810.out (fun _ _ h => h)).then_below hb1013)
          have FF5 := Lib.hid (And.intro E13 (And.intro VF13 (And.intro V13 (And.intro VO13 Y13))))
          have hnE : Hid (∀ W1, Kept W13 W1 (fun k => S k ∨ k = EB) → Kept W₁₀ W1 S) := Lib.hid (fun W1 k1 => (Kept.of_below hb1013 S).trans k1 (fun i hi h => h.elim id (fun h => by have := HEB.out; omega)))
          have hnW : Hid (∀ W1, Kept W13 W1 (fun k => S k ∨ k = EB) → Kept W W1 S) := Lib.hid (fun W1 k1 => HKW13.out.trans k1 (fun i hi h => h.elim id (fun h => by omega)))
          clear E12 VF12 V12 VO12 Y12 hst12 FF4 hb13 G1 G2 n4 E13 VF13 V13 VO13 Y13 hb1013 hw13 p12 f12
          refine wpIn_range_in (l₀ := l₃) (r₀ := r10) (gf := 68) (lb := #[.pointer (some ⟨W12.heap.size, 0, none⟩), .pointer (some ⟨W12.heap.size + 1, 0, none⟩)]) (S0 := fun k => S k ∨ k = EB)
            (I := fun (pre4 : List (List Int)) Wc => J (((pre.flatMap (F1 es fen) ++ pre2.flatMap (F2 es fen d)) ++ pre3.flatMap (F3 es fen d o)) ++ pre4.flatMap (F4 es d o f)) Wc ∧ Kept W13 Wc (fun k => S k ∨ k = EB) ∧ ∃ sv, Blk Wc EB 35 [.slice A3 f.length c3, .slice Av d.length cv, .slice A2 o.length c2, sv])
            (Ix := fun c _ Wc => c = .ret ∧ (∃ q, q <+: execsF es fen ∧ Jx q Wc) ∧ Kept W13 Wc (fun k => S k ∨ k = EB))
            hr13 rfl (enters_of Tryz.func68 (by kernel_rfl) rfl) HG13.out (fun k hk => hk.elim (fun hk => by have := HSL.out k hk; omega) (fun h => by omega))
            (fun s A C hj hb => ⟨HJ.out _ _ _ hj.1 (hb.mono hW13), abide_kept (β := Unit) () _ _ hj.2.1 hb, hj.2.2.imp fun sv h => (hb.block EB hE13l).trans h⟩)
            (fun c s A C hj hb hcs => ⟨hj.1, hj.2.1.imp fun q hq => ⟨hq.1, HJx.out _ _ _ hq.2 (hb.mono hW13) hcs⟩, abide_kept (β := Unit) () _ _ hj.2.2 hb⟩)
            (fun Wc vs x hv => by obtain ⟨v, rfl, _⟩ := hv; rfl) ⟨by simpa using hj13.out, Kept.refl _ _, _, FF5.out.1⟩ ?round4 ?done4 ?stop4
          case done4 =>
            rintro Wc ⟨hj, hk, _⟩
            refine ⟨⟨?_, HK810.out.trans (hnE.out Wc hk) (fun _ _ h => h)⟩, hnE.out Wc hk⟩
            rw [flat_snoc, F3, HPO.out, ← List.append_assoc]
            exact hj
          case stop4 =>
            rintro c4 pre4 Wc hpre4 ⟨rfl, hq, hk⟩
            gi_wp2
            exact ⟨⟨rfl, hq, HK810.out.trans (hnE.out Wc hk) (fun _ _ h => h)⟩, hnE.out Wc hk⟩
          case round4 =>
            rintro l₄ pre4 s vs W14 hl4 hloop4 ⟨hj14, hk14, sv, hE14⟩ hpre4 ⟨v4, rfl, hv4⟩
            obtain ⟨A4, c4, rfl, hc41, hc42⟩ := (Row.rd hv4).shape
            have hsm : s ∈ mergesW (thOf es) fen.length [] fen := hpre4.subset (List.mem_append_right _ (List.mem_singleton.2 rfl))
            have hsp := mergesW_len _ hsm
            have e3 := hE14.cell 3 rfl
            have f3 := hE14.free 3
            have hEl := hE14.lt
            gi_wp2
            refine ⟨(Kept.refl W14 _).setCell (.inl (.inr rfl)) _, fun W₁₅ hk15 hsz15 hloop15 => ?_⟩
            obtain ⟨r14, hr14⟩ := hloop4
            have hr14' : (W14.setCell ⟨EB, 3, none⟩ (.slice A4 s.length c4)).heap[l₄]? = some (.loop r14) := (Below.heap_setCell W14 ⟨EB, 3, none⟩ _ l₄ (by show l₄ ≠ EB; omega)).trans hr14
            have hk1315 : Kept W13 W₁₅ (fun k => S k ∨ k = EB) := (hk14.setCell (p := ⟨EB, 3, none⟩) (.inl (.inr rfl)) _).trans hk15 (fun i hi e => absurd hi (by omega))
            have E15 : Blk W₁₅ EB 35 [.slice A3 f.length c3, .slice Av d.length cv, .slice A2 o.length c2, .slice A4 s.length c4] := (hE14.set 3 _).keep hk15 (by omega)
            have S15 : Own W₁₅ W13.heap.size (.slice A4 s.length c4) s := Row.keep (Go.Proofs.YtkddckfgdiemkaaGreat.set1 hE14 (by decide) _ hv4) hk15 (ne_loop hr14' (Go.Proofs.YtkddckfgdiemkaaGreat.set1 hE14 (by decide) _ hv4))
            obtain ⟨E13, VF13, V13, VO13, Y13⟩ := FF5.out
            have VF15 := row_keep4 VF13 E13 (by decide) hk1315 (fun g hg => HNB.out g (Nat.le_trans W8s.out hg))
            have V15 := row_keep4 V13 E13 (by decide) hk1315 (fun g hg => HNB.out g (Nat.le_trans BW4.out.size hg))
            have VO15 := ownl_keep4 VO13 E13 hk1315 (fun g hg => HNB.out g (Nat.le_trans W5s.out hg))
            have Y15 := Y13.keep hk1315 (fun h => h.elim (HNB.out _ (Nat.le_refl _)) (fun h => by rw [h] at Y13; have := (Blk.type E13 Y13).1; cases this))
            have hkW15 := hnW.out W₁₅ hk1315
            have hst15 := HST.out W₁₅ hkW15
            have hsz14 : W14.heap.size = (W14.setCell ⟨EB, 3, none⟩ (.slice A4 s.length c4)).heap.size := by simp [World.setCell]
            have hb1415 : Below W.heap.size W14 W₁₅ := ((Below.refl W.heap.size W14).setCell (p := ⟨EB, 3, none⟩) hWE _).trans (hk15.below (by have := hk14.size; omega) (fun k e => by omega))
            have hj15 := HJ.out _ _ _ hj14 hb1415
            have X15 : RdX W₁₅ (.slice A3 f.length c3) (.slice Av d.length cv) (.slice A2 o.length c2) (.slice A4 s.length c4) ⟨f, d, o, s⟩ := ⟨Row.rd VF15, Row.rd V15, VO15.rd2 (S := fun _ => False) (fun _ _ _ h => h), Row.rd S15⟩
            have hsi : ∀ x ∈ s, In es x := fun x hx => HFI.out.1 x (hsp.mem_iff.1 hx)
            have hsl : s.length < 100000 := by rw [hsp.length_eq]; exact HFI.out.2
            have hWX4 := wfX (s := s) HE.out HDM.out HOM.out HFM.out hsi hsl
            have hOX : OwnX W₁₅ 0 (.agg #[.slice A3 f.length c3, .slice Av d.length cv, .slice A2 o.length c2, .slice A4 s.length c4]) ⟨f, d, o, s⟩ := ⟨_, _, _, _, rfl, Row.mono VF15 (Nat.zero_le _), Row.mono V15 (Nat.zero_le _), VO15.mono (Nat.zero_le _), Row.mono S15 (Nat.zero_le _)⟩
            have p15 := hst15.1.cell 0 rfl
            have y15 := Y15.cell 0 rfl
            have c0 := E15.cell 0 rfl
            have c1 := E15.cell 1 rfl
            have c2' := E15.cell 2 rfl
            have c3' := E15.cell 3 rfl
            have hW15 : W.heap.size ≤ W₁₅.heap.size := hkW15.size
            have HX15 := Lib.hid X15
            have HE15 := Lib.hid E15
            have HR15 := Lib.hid hst15.2.1
            have HY15 := Lib.hid Y15
            have HWX4 := Lib.hid hWX4
            have HOX := Lib.hid hOX
            have HJ15 := Lib.hid hj15
            have HK15 := Lib.hid hk1315
            have HPre4 := Lib.hid hpre4
            clear hj14 hk14 hE14 hv4 e3 f3 hr14 hr14' hk15 hk1315 E15 S15 E13 VF13 V13 VO13 Y13 VF15 V15 VO15 Y15 hkW15 hst15 hsz14 hb1415 hj15 X15 hsi hsl hWX4 hOX hpre4 hsm hsp hsz15
            have hmix : Tryz.prog.follows Departure.mixedOrders = true := by kernel_rfl
            obtain ⟨br, hbr⟩ : ∃ br, brokenF es ⟨f, d, o, s⟩ = br := ⟨_, rfl⟩
            have HBR := Lib.hid hbr
            have hcl : Hid (∀ W1, Below W₁₅.heap.size W₁₅ W1 → W1.cell? ⟨W.heap.size, 0, none⟩ = some (.func (.yield l) #[] #[]) ∧ W1.cell? ⟨EB, 0, none⟩ = some (.slice A3 f.length c3) ∧ W1.cell? ⟨EB, 1, none⟩ = some (.slice Av d.length cv) ∧ W1.cell? ⟨EB, 2, none⟩ = some (.slice A2 o.length c2) ∧ W1.cell? ⟨EB, 3, none⟩ = some (.slice A4 s.length c4)) := Lib.hid (fun W1 h1 =>
              ⟨(HY15.out.below h1).cell 0 rfl, (HE15.out.below h1).cell 0 rfl, (HE15.out.below h1).cell 1 rfl, (HE15.out.below h1).cell 2 rfl, (HE15.out.below h1).cell 3 rfl⟩)
            have hfn := HE.out.n
            have hcp : Hid (∀ W1, Below W₁₅.heap.size W₁₅ W1 → Calls Tryz.prog 43 #[.agg #[.slice A3 f.length c3, .slice Av d.length cv, .slice A2 o.length c2, .slice A4 s.length c4]] W1 fun e w' => ∃ u, e = .returned u ∧ OwnX w' W1.heap.size u ⟨f, d, o, s⟩ ∧ Below W1.heap.size W1 w') := Lib.hid (fun W1 h1 =>
              copy_any (HOX.out.below h1) (by have := HWX4.out.fl; simp only at this ⊢; omega) (by have := HWX4.out.dl; simp only at this ⊢; omega) HWX4.out.sb (by have := HWX4.out.ol; simp only at this ⊢; omega) (fun k => by
                show (o.getD k []).length < 100000
                by_cases hk : k < o.length
                · exact HWX4.out.ob _ (getD_mem hk [])
                · rw [List.getD, List.getElem?_eq_none (by omega)]; simp))
            have hpre4 : Hid ((((pre.flatMap (F1 es fen) ++ pre2.flatMap (F2 es fen d)) ++ pre3.flatMap (F3 es fen d o)) ++ pre4.flatMap (F4 es d o f)) ++ F4 es d o f s <+: execsF es fen) := Lib.hid (by
              have h4 : pre4.flatMap (F4 es d o f) ++ F4 es d o f s <+: F3 es fen d o f := by
                rw [F3, HPO.out, if_pos rfl]; exact flat_next _ HPre4.out (List.prefix_refl _)
              have h3 : pre3.flatMap (F3 es fen d o) ++ (pre4.flatMap (F4 es d o f) ++ F4 es d o f s) <+: F2 es fen d o := flat_next _ HPre3.out h4
              have h2 : pre2.flatMap (F2 es fen d) ++ (pre3.flatMap (F3 es fen d o) ++ (pre4.flatMap (F4 es d o f) ++ F4 es d o f s)) <+: F1 es fen d := flat_next _ HPre2.out h3
              have h1 : pre.flatMap (F1 es fen) ++ (pre2.flatMap (F2 es fen d) ++ (pre3.flatMap (F3 es fen d o) ++ (pre4.flatMap (F4 es d o f) ++ F4 es d o f s))) <+: execsF es fen := flat_next _ HPre.out h2
              simpa [List.append_assoc] using h1)
            have hyl : Hid (brokenF es ⟨f, d, o, s⟩ = 0 → ∀ W1 u1, Below W₁₅.heap.size W₁₅ W1 → OwnX W1 W₁₅.heap.size u1 ⟨f, d, o, s⟩ → YieldAt Fence.wide 9 Tryz.prog l #[u1] W1 fun e W' =>
              (e = .returned (.bool true) ∧ J ((((pre.flatMap (F1 es fen) ++ pre2.flatMap (F2 es fen d)) ++ pre3.flatMap (F3 es fen d o)) ++ pre4.flatMap (F4 es d o f)) ++ [⟨f, d, o, s⟩]) W' ∧ Kept W1 W' S) ∨ (e = .returned (.bool false) ∧ Jx ((((pre.flatMap (F1 es fen) ++ pre2.flatMap (F2 es fen d)) ++ pre3.flatMap (F3 es fen d o)) ++ pre4.flatMap (F4 es d o f)) ++ [⟨f, d, o, s⟩]) W' ∧ Kept W1 W' S)) := Lib.hid (fun hb W1 u1 h1 h2 => by
              have h := hpre4.out
              rw [F4, if_pos hb] at h
              exact HY.out _ _ #[u1] W1 (HJ.out _ _ _ HJ15.out (h1.mono hW15)) h ⟨u1, rfl, h2.mono (Nat.le_trans HW.out hW15)⟩)
            have hd15 : Below W₁₅.heap.size W₁₅ W₁₅.drew := (Below.refl _ W₁₅).drew
            have hbrk := Lib.hid (broken_any (HR15.out.below hd15) (HX15.out.below hd15) HE.out HWX4.out)
            clear hbr
            by_cases hb0 : br = 0
            · have hbb : (br == 0) = true := beq_iff_eq.2 hb0
              have hyl0 := Lib.hid (hyl.out (by rw [HBR.out]; exact hb0))
              have hF4 : Hid (F4 es d o f s = [⟨f, d, o, s⟩]) := Lib.hid (by rw [F4, HBR.out, if_pos hb0])
              clear hb0
              refine wpIn_block (wpIn_seq ?_)
              gi_region_with_o (first
                | (refine ⟨trivial, ?_⟩; gi_at_call 42; refine (CallsIn.inRound l₄ (callsIn_wide.2 hbrk.out)).mono ?_; rintro e16 W16 ⟨rfl, hb16⟩; rw [HBR.out]; have hb1516 : Below W₁₅.heap.size W₁₅ W16 := hd15.trans hb16; obtain ⟨y16, q0, q1, q2, q3⟩ := hcl.out W16 hb1516)
                | (refine ⟨trivial, ?_⟩; gi_at_call 43; refine (CallsIn.inRound l₄ (callsIn_wide.2 (hcp.out W16 hb1516))).mono ?_; rintro e17 W17 ⟨u17, rfl, ho17, hb17⟩; have hb1517 : Below W₁₅.heap.size W₁₅ W17 := hb1516.trans (hb17.mono hb1516.size); obtain ⟨y17, q4, q5, q6, q7⟩ := hcl.out W17 hb1517; obtain ⟨fn, tmps, assign, body, hy, hR⟩ := hyl0.out W17 u17 hb1517 (ho17.mono hb1516.size))
                | (refine (roundN hR).mono ?_; rintro e W18 h18; obtain ⟨bb, rfl, hb18, hk18⟩ := round_of h18))
              all_goals have hkA : Kept W₁₅ W18 S := (Kept.of_below hb1517 S).trans hk18 (fun _ _ h => h)
              all_goals have hE18 := (HE15.out.below hb1517).keep hk18 (fun h => HNB.out _ hWE h)
              all_goals have HKA := Lib.hid hkA
              all_goals have HE18 := Lib.hid hE18
              all_goals have HB18 := Lib.hid hb18
              all_goals have hk2 : Kept W₁₅ W18 (fun k => S k ∨ k = EB) := hkA.mono (fun _ _ h => .inl h)
              all_goals have hk3 : Kept W13 W18 (fun k => S k ∨ k = EB) := HK15.out.trans hk2 (fun _ _ h => h)
              all_goals have hjt : Hid (bb = true → J (((pre.flatMap (F1 es fen) ++ pre2.flatMap (F2 es fen d)) ++ pre3.flatMap (F3 es fen d o)) ++ (pre4 ++ [s]).flatMap (F4 es d o f)) W18) := Lib.hid (fun hbt => by
                rw [flat_snoc, hF4.out, ← List.append_assoc]
                rcases hb18 with ⟨_, h⟩ | ⟨h, _⟩
                · exact h
                · rw [hbt] at h; cases h)
              all_goals have hjf : Hid (bb = false → ∃ q, q <+: execsF es fen ∧ Jx q W18) := Lib.hid (fun hbt => by
                have h1 := hpre4.out
                rw [hF4.out] at h1
                rcases hb18 with ⟨h, _⟩ | ⟨_, h⟩
                · rw [hbt] at h; cases h
                · exact ⟨_, h1, h⟩)
              all_goals have HK2 := Lib.hid hk2
              all_goals have HK3 := Lib.hid hk3
              all_goals clear hb18 hk18 hkA hE18 hk2 hk3
              all_goals (cases bb with
                | true =>
                  gi_wp2
                  exact ⟨⟨(by have h := hjt.out (by simp); simpa only [List.append_assoc] using h), HK3.out, _, HE18.out⟩, HK2.out⟩
                | false =>
                  gi_wp2
                  exact ⟨⟨rfl, hjf.out (by simp), HK3.out⟩, HK2.out⟩)
            · have hbb : (br == 0) = false := beq_eq_false_iff_ne.2 hb0
              have hF4 : Hid (F4 es d o f s = []) := Lib.hid (by rw [F4, HBR.out, if_neg hb0])
              clear hb0
              refine wpIn_block (wpIn_seq (wpIn_region_any hmix ?_))
              (try (change wpAnyIn _ _ _ _ _ _ _ _ _ (World.drew _)))
              refine wpAnyIn_ready (rs := [0, 1]) (by kernel_rfl) (by simp) ?_
              refine AllReadyIn.cons rfl (fun K hK => ?_) ?_
              · go_simp
                refine hK _ _ ?_
                clear hK K
                refine wpAnyIn_ready (rs := [1]) (by kernel_rfl) (by simp) ?_
                refine AllReadyIn.cons rfl (fun K hK => ?_) ?_
                · go_simp
                  refine hK _ _ ?_
                  clear hK K
                  refine wpAnyIn_ready (rs := [2]) (by kernel_rfl) (by simp) ?_
                  refine AllReadyIn.cons rfl (fun K hK => ?_) ?_
                  · go_simp
                    refine ⟨trivial, ?_⟩
                    refine (CallsIn.inRound l₄ (callsIn_wide.2 hbrk.out)).mono ?_
                    rintro e16 W16 ⟨rfl, hb16⟩
                    rw [HBR.out]
                    have hb1516 : Below W₁₅.heap.size W₁₅ W16 := hd15.trans hb16
                    dsimp only
                    refine hK _ _ ?_
                    clear hK K
                    refine wpAnyIn_ready (rs := [3]) (by kernel_rfl) (by simp) ?_
                    refine AllReadyIn.cons rfl (fun K hK => ?_) ?_
                    · go_simp
                      refine hK _ _ ?_
                      clear hK K
                      refine wpAnyIn_ready (rs := [4]) (by kernel_rfl) (by simp) ?_
                      refine AllReadyIn.cons rfl (fun K hK => ?_) ?_
                      · go_simp
                        refine hK _ _ ?_
                        clear hK K
                        refine wpAnyIn_ready (rs := [5, 6]) (by kernel_rfl) (by simp) ?_
                        refine AllReadyIn.cons rfl (fun K hK => ?_) ?_
                        · go_simp
                          refine hK _ _ ?_
                          clear hK K
                          refine wpAnyIn_ready (rs := [6]) (by kernel_rfl) (by simp) ?_
                          refine AllReadyIn.cons rfl (fun K hK => ?_) ?_
                          · go_simp
                            refine hK _ _ ?_
                            clear hK K
                            refine wpAnyIn_ready (rs := [7]) (by kernel_rfl) (by simp) ?_
                            refine AllReadyIn.cons rfl (fun K hK => ?_) ?_
                            · go_simp
                              refine ⟨trivial, ?_⟩
                              refine hK _ _ ?_
                              clear hK K
                              refine wpAnyIn_ready (rs := [8]) (by kernel_rfl) (by simp) ?_
                              refine AllReadyIn.cons rfl (fun K hK => ?_) ?_
                              · go_simp
                                refine ⟨fun _ _ => trivial, ?_⟩
                                refine hK _ _ ?_
                                clear hK K
                                refine wpAnyIn_ready (rs := [9]) (by kernel_rfl) (by simp) ?_
                                refine AllReadyIn.cons rfl (fun K hK => ?_) ?_
                                · go_simp
                                  refine hK _ _ ?_
                                  clear hK K
                                  refine wpAnyIn_ready (rs := [10]) (by kernel_rfl) (by simp) ?_
                                  refine AllReadyIn.cons rfl (fun K hK => ?_) ?_
                                  · go_simp
                                    refine hK _ _ ?_
                                    clear hK K
                                    refine wpAnyIn_done (by kernel_rfl) ?_ _
                                    gi_wp2
                                    refine ⟨⟨?_, HK15.out.then_below hb1516, _, HE15.out.below hb1516⟩, Kept.of_below hb1516 _⟩
                                    have hj := HJ.out _ _ _ HJ15.out (hb1516.mono hW15)
                                    rw [flat_snoc, hF4.out, List.append_nil]
                                    simpa only [List.append_assoc] using hj
                                  exact AllReadyIn.nil
                                exact AllReadyIn.nil
                              exact AllReadyIn.nil
                            exact AllReadyIn.nil
                          exact AllReadyIn.nil
                        refine AllReadyIn.cons rfl (fun K hK => ?_) ?_
                        · go_simp
                          refine hK _ _ ?_
                          clear hK K
                          refine wpAnyIn_ready (rs := [5, 7]) (by kernel_rfl) (by simp) ?_
                          refine AllReadyIn.cons rfl (fun K hK => ?_) ?_
                          · go_simp
                            refine hK _ _ ?_
                            clear hK K
                            refine wpAnyIn_ready (rs := [7]) (by kernel_rfl) (by simp) ?_
                            refine AllReadyIn.cons rfl (fun K hK => ?_) ?_
                            · go_simp
                              refine ⟨trivial, ?_⟩
                              refine hK _ _ ?_
                              clear hK K
                              refine wpAnyIn_ready (rs := [8]) (by kernel_rfl) (by simp) ?_
                              refine AllReadyIn.cons rfl (fun K hK => ?_) ?_
                              · go_simp
                                refine ⟨fun _ _ => trivial, ?_⟩
                                refine hK _ _ ?_
                                clear hK K
                                refine wpAnyIn_ready (rs := [9]) (by kernel_rfl) (by simp) ?_
                                refine AllReadyIn.cons rfl (fun K hK => ?_) ?_
                                · go_simp
                                  refine hK _ _ ?_
                                  clear hK K
                                  refine wpAnyIn_ready (rs := [10]) (by kernel_rfl) (by simp) ?_
                                  refine AllReadyIn.cons rfl (fun K hK => ?_) ?_
                                  · go_simp
                                    refine hK _ _ ?_
                                    clear hK K
                                    refine wpAnyIn_done (by kernel_rfl) ?_ _
                                    gi_wp2
                                    refine ⟨⟨?_, HK15.out.then_below hb1516, _, HE15.out.below hb1516⟩, Kept.of_below hb1516 _⟩
                                    have hj := HJ.out _ _ _ HJ15.out (hb1516.mono hW15)
                                    rw [flat_snoc, hF4.out, List.append_nil]
                                    simpa only [List.append_assoc] using hj
                                  exact AllReadyIn.nil
                                exact AllReadyIn.nil
                              exact AllReadyIn.nil
                            exact AllReadyIn.nil
                          refine AllReadyIn.cons rfl (fun K hK => ?_) ?_
                          · go_simp
                            refine ⟨trivial, ?_⟩
                            refine hK _ _ ?_
                            clear hK K
                            refine wpAnyIn_ready (rs := [5]) (by kernel_rfl) (by simp) ?_
                            refine AllReadyIn.cons rfl (fun K hK => ?_) ?_
                            · go_simp
                              refine hK _ _ ?_
                              clear hK K
                              refine wpAnyIn_ready (rs := [8]) (by kernel_rfl) (by simp) ?_
                              refine AllReadyIn.cons rfl (fun K hK => ?_) ?_
                              · go_simp
                                refine ⟨fun _ _ => trivial, ?_⟩
                                refine hK _ _ ?_
                                clear hK K
                                refine wpAnyIn_ready (rs := [9]) (by kernel_rfl) (by simp) ?_
                                refine AllReadyIn.cons rfl (fun K hK => ?_) ?_
                                · go_simp
                                  refine hK _ _ ?_
                                  clear hK K
                                  refine wpAnyIn_ready (rs := [10]) (by kernel_rfl) (by simp) ?_
                                  refine AllReadyIn.cons rfl (fun K hK => ?_) ?_
                                  · go_simp
                                    refine hK _ _ ?_
                                    clear hK K
                                    refine wpAnyIn_done (by kernel_rfl) ?_ _
                                    gi_wp2
                                    refine ⟨⟨?_, HK15.out.then_below hb1516, _, HE15.out.below hb1516⟩, Kept.of_below hb1516 _⟩
                                    have hj := HJ.out _ _ _ HJ15.out (hb1516.mono hW15)
                                    rw [flat_snoc, hF4.out, List.append_nil]
                                    simpa only [List.append_assoc] using hj
                                  exact AllReadyIn.nil
                                exact AllReadyIn.nil
                              exact AllReadyIn.nil
                            exact AllReadyIn.nil
                          exact AllReadyIn.nil
                        exact AllReadyIn.nil
                      exact AllReadyIn.nil
                    exact AllReadyIn.nil
                  exact AllReadyIn.nil
                exact AllReadyIn.nil
              refine AllReadyIn.cons rfl (fun K hK => ?_) ?_
              · go_simp
                refine hK _ _ ?_
                clear hK K
                refine wpAnyIn_ready (rs := [0]) (by kernel_rfl) (by simp) ?_
                refine AllReadyIn.cons rfl (fun K hK => ?_) ?_
                · go_simp
                  refine hK _ _ ?_
                  clear hK K
                  refine wpAnyIn_ready (rs := [2]) (by kernel_rfl) (by simp) ?_
                  refine AllReadyIn.cons rfl (fun K hK => ?_) ?_
                  · go_simp
                    refine ⟨trivial, ?_⟩
                    refine (CallsIn.inRound l₄ (callsIn_wide.2 hbrk.out)).mono ?_
                    rintro e16 W16 ⟨rfl, hb16⟩
                    rw [HBR.out]
                    have hb1516 : Below W₁₅.heap.size W₁₅ W16 := hd15.trans hb16
                    dsimp only
                    refine hK _ _ ?_
                    clear hK K
                    refine wpAnyIn_ready (rs := [3]) (by kernel_rfl) (by simp) ?_
                    refine AllReadyIn.cons rfl (fun K hK => ?_) ?_
                    · go_simp
                      refine hK _ _ ?_
                      clear hK K
                      refine wpAnyIn_ready (rs := [4]) (by kernel_rfl) (by simp) ?_
                      refine AllReadyIn.cons rfl (fun K hK => ?_) ?_
                      · go_simp
                        refine hK _ _ ?_
                        clear hK K
                        refine wpAnyIn_ready (rs := [5, 6]) (by kernel_rfl) (by simp) ?_
                        refine AllReadyIn.cons rfl (fun K hK => ?_) ?_
                        · go_simp
                          refine hK _ _ ?_
                          clear hK K
                          refine wpAnyIn_ready (rs := [6]) (by kernel_rfl) (by simp) ?_
                          refine AllReadyIn.cons rfl (fun K hK => ?_) ?_
                          · go_simp
                            refine hK _ _ ?_
                            clear hK K
                            refine wpAnyIn_ready (rs := [7]) (by kernel_rfl) (by simp) ?_
                            refine AllReadyIn.cons rfl (fun K hK => ?_) ?_
                            · go_simp
                              refine ⟨trivial, ?_⟩
                              refine hK _ _ ?_
                              clear hK K
                              refine wpAnyIn_ready (rs := [8]) (by kernel_rfl) (by simp) ?_
                              refine AllReadyIn.cons rfl (fun K hK => ?_) ?_
                              · go_simp
                                refine ⟨fun _ _ => trivial, ?_⟩
                                refine hK _ _ ?_
                                clear hK K
                                refine wpAnyIn_ready (rs := [9]) (by kernel_rfl) (by simp) ?_
                                refine AllReadyIn.cons rfl (fun K hK => ?_) ?_
                                · go_simp
                                  refine hK _ _ ?_
                                  clear hK K
                                  refine wpAnyIn_ready (rs := [10]) (by kernel_rfl) (by simp) ?_
                                  refine AllReadyIn.cons rfl (fun K hK => ?_) ?_
                                  · go_simp
                                    refine hK _ _ ?_
                                    clear hK K
                                    refine wpAnyIn_done (by kernel_rfl) ?_ _
                                    gi_wp2
                                    refine ⟨⟨?_, HK15.out.then_below hb1516, _, HE15.out.below hb1516⟩, Kept.of_below hb1516 _⟩
                                    have hj := HJ.out _ _ _ HJ15.out (hb1516.mono hW15)
                                    rw [flat_snoc, hF4.out, List.append_nil]
                                    simpa only [List.append_assoc] using hj
                                  exact AllReadyIn.nil
                                exact AllReadyIn.nil
                              exact AllReadyIn.nil
                            exact AllReadyIn.nil
                          exact AllReadyIn.nil
                        refine AllReadyIn.cons rfl (fun K hK => ?_) ?_
                        · go_simp
                          refine hK _ _ ?_
                          clear hK K
                          refine wpAnyIn_ready (rs := [5, 7]) (by kernel_rfl) (by simp) ?_
                          refine AllReadyIn.cons rfl (fun K hK => ?_) ?_
                          · go_simp
                            refine hK _ _ ?_
                            clear hK K
                            refine wpAnyIn_ready (rs := [7]) (by kernel_rfl) (by simp) ?_
                            refine AllReadyIn.cons rfl (fun K hK => ?_) ?_
                            · go_simp
                              refine ⟨trivial, ?_⟩
                              refine hK _ _ ?_
                              clear hK K
                              refine wpAnyIn_ready (rs := [8]) (by kernel_rfl) (by simp) ?_
                              refine AllReadyIn.cons rfl (fun K hK => ?_) ?_
                              · go_simp
                                refine ⟨fun _ _ => trivial, ?_⟩
                                refine hK _ _ ?_
                                clear hK K
                                refine wpAnyIn_ready (rs := [9]) (by kernel_rfl) (by simp) ?_
                                refine AllReadyIn.cons rfl (fun K hK => ?_) ?_
                                · go_simp
                                  refine hK _ _ ?_
                                  clear hK K
                                  refine wpAnyIn_ready (rs := [10]) (by kernel_rfl) (by simp) ?_
                                  refine AllReadyIn.cons rfl (fun K hK => ?_) ?_
                                  · go_simp
                                    refine hK _ _ ?_
                                    clear hK K
                                    refine wpAnyIn_done (by kernel_rfl) ?_ _
                                    gi_wp2
                                    refine ⟨⟨?_, HK15.out.then_below hb1516, _, HE15.out.below hb1516⟩, Kept.of_below hb1516 _⟩
                                    have hj := HJ.out _ _ _ HJ15.out (hb1516.mono hW15)
                                    rw [flat_snoc, hF4.out, List.append_nil]
                                    simpa only [List.append_assoc] using hj
                                  exact AllReadyIn.nil
                                exact AllReadyIn.nil
                              exact AllReadyIn.nil
                            exact AllReadyIn.nil
                          refine AllReadyIn.cons rfl (fun K hK => ?_) ?_
                          · go_simp
                            refine ⟨trivial, ?_⟩
                            refine hK _ _ ?_
                            clear hK K
                            refine wpAnyIn_ready (rs := [5]) (by kernel_rfl) (by simp) ?_
                            refine AllReadyIn.cons rfl (fun K hK => ?_) ?_
                            · go_simp
                              refine hK _ _ ?_
                              clear hK K
                              refine wpAnyIn_ready (rs := [8]) (by kernel_rfl) (by simp) ?_
                              refine AllReadyIn.cons rfl (fun K hK => ?_) ?_
                              · go_simp
                                refine ⟨fun _ _ => trivial, ?_⟩
                                refine hK _ _ ?_
                                clear hK K
                                refine wpAnyIn_ready (rs := [9]) (by kernel_rfl) (by simp) ?_
                                refine AllReadyIn.cons rfl (fun K hK => ?_) ?_
                                · go_simp
                                  refine hK _ _ ?_
                                  clear hK K
                                  refine wpAnyIn_ready (rs := [10]) (by kernel_rfl) (by simp) ?_
                                  refine AllReadyIn.cons rfl (fun K hK => ?_) ?_
                                  · go_simp
                                    refine hK _ _ ?_
                                    clear hK K
                                    refine wpAnyIn_done (by kernel_rfl) ?_ _
                                    gi_wp2
                                    refine ⟨⟨?_, HK15.out.then_below hb1516, _, HE15.out.below hb1516⟩, Kept.of_below hb1516 _⟩
                                    have hj := HJ.out _ _ _ HJ15.out (hb1516.mono hW15)
                                    rw [flat_snoc, hF4.out, List.append_nil]
                                    simpa only [List.append_assoc] using hj
                                  exact AllReadyIn.nil
                                exact AllReadyIn.nil
                              exact AllReadyIn.nil
                            exact AllReadyIn.nil
                          exact AllReadyIn.nil
                        exact AllReadyIn.nil
                      exact AllReadyIn.nil
                    exact AllReadyIn.nil
                  exact AllReadyIn.nil
                exact AllReadyIn.nil
              exact AllReadyIn.nil
end Go.Proofs.YtkddckfgdiemkaaGreat
