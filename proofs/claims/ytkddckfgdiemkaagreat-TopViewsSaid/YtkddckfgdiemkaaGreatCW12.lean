/-
  The walk of communication: eco.
-/
import Derived.Test.YtkddckfgdiemkaaGreatCW10
set_option linter.unusedVariables false
set_option linter.unusedSimpArgs false
namespace Go.Proofs.YtkddckfgdiemkaaGreat
open Go.RowKit Go.Shelf Mem
set_option maxRecDepth 100000
attribute [local go_sem ↓] shl32 shr32 low32 or32 or32z

/-- Of one list: the i-th before those behind it. -/
def ecoC (l : List Int) (i : Nat) (r : List Nat) : Nat → List Nat
  | 0 => r
  | m + 1 => putR (ecoC l i r m) (l.getD i 0).toNat (l.getD (i + 1 + m) 0).toNat
def ecoB (l : List Int) (r : List Nat) : Nat → List Nat
  | 0 => r
  | i + 1 => ecoC l i (ecoB l r i) (l.length - (i + 1))
def ecoA (ord : List (List Int)) (r : List Nat) : Nat → List Nat
  | 0 => r
  | k + 1 => ecoB (ord.getD k []) (ecoA ord r k) (ord.getD k []).length
/-- Of one event that reads: to all writes behind the one from which it read. -/
def frIn (i : Nat) (from_ : Int) (l : List Int) (r : List Nat) : Nat → List Nat × Bool
  | 0 => (r, from_ == -1)
  | m + 1 => (if (frIn i from_ l r m).2 && (l.getD m 0 != (i : Int)) then putR (frIn i from_ l r m).1 i (l.getD m 0).toNat else (frIn i from_ l r m).1, (frIn i from_ l r m).2 || (l.getD m 0 == from_))
def frOne (es : List Ev) (x : Ex) (i : Nat) (r : List Nat) : List Nat :=
  if isRd (ev es (i : Int)) then (frIn i (x.fr.getD i 0) (x.ord.getD (ev es (i : Int)).loc.toNat []) (if 0 ≤ x.fr.getD i 0 then putR r (x.fr.getD i 0).toNat i else r) (x.ord.getD (ev es (i : Int)).loc.toNat []).length).1 else r
def ecoD (es : List Ev) (x : Ex) (r : List Nat) : Nat → List Nat
  | 0 => r
  | k + 1 => frOne es x k (ecoD es x r k)
def commF (es : List Ev) (x : Ex) : List Nat := closeF es.length (ecoD es x (ecoA x.ord (List.replicate es.length 0) 3) es.length)
theorem Rd.from_ {w : World} {A : Option Addr} {c : Nat} {l : List Int} (h : RdI w (.slice A l.length c) l) {i : Nat} (hi : i + 1 ≤ l.length) (A' : Option Addr) (hA : ∀ a, A = some a → i + 1 < l.length → A' = some (a.add (i + 1))) :
    Rd w (.slice A' (l.length - (i + 1)) (c - (i + 1))) (l.length - (i + 1)) 1 (ints (l.drop (i + 1))) := by
  have := Rd.piece h hi (Nat.le_refl _) A' hA
  rwa [List.take_length] at this
set_option maxHeartbeats 2000000 in
theorem comm_any {w : World} {pv fv dv ov sv : Value} {es : List Ev} {x : Ex} (hr : RdE w pv es) (hx : RdX w fv dv ov sv x) (he : WfE es) (hw : WfX es x) :
    Calls Tryz.prog 79 #[pv, .agg #[fv, dv, ov, sv]] w (NewR es.length (commF es x) w) := by
  obtain ⟨A, c, rfl, hc1, hc2⟩ := hr.shape
  obtain ⟨Af, cf, rfl, hcf1, hcf2⟩ := hx.f.shape
  obtain ⟨Ao, co, rfl, hco1, hco2⟩ := hx.o.shape
  rw [show x.fr.length = es.length from hw.fl] at *
  rw [show x.ord.length = 3 from hw.ol] at *
  obtain ⟨w0, hw0⟩ : ∃ w0, w.alloc (.cells #[.slice Af es.length cf, dv, .slice Ao 3 co, sv] 35) = w0 := ⟨_, rfl⟩
  have b0 : Below w.heap.size w w0 := by rw [← hw0]; exact (Below.refl _ w).alloc (Nat.le_refl _) _
  have X0 : Hid (Blk w0 w.heap.size 35 [.slice Af es.length cf, dv, .slice Ao 3 co, sv]) := Lib.hid (by rw [← hw0]; exact Blk.new w 35 _)
  have R0 := Lib.hid (hr.below b0)
  have RX := Lib.hid (hx.below b0)
  have hwl : w.heap.size < w0.heap.size := X0.out.lt
  have hn := he.n
  have HE := Lib.hid he
  have HW := Lib.hid hw
  have HW0 := Lib.hid hw0
  have B0 := Lib.hid b0
  have hc4 : ∀ W1, Below w0.heap.size w0 W1 → W1.cell? ⟨w.heap.size, 0, none⟩ = some (.slice Af es.length cf) ∧ W1.cell? ⟨w.heap.size, 2, none⟩ = some (.slice Ao 3 co) := fun W1 h1 =>
    ⟨(X0.out.below h1).cell 0 rfl, (X0.out.below h1).cell 2 rfl⟩
  have C4 := Lib.hid hc4
  have hol : ∀ k, k < 3 → ∃ b off A1 c1, Ao = some ⟨b, off, none⟩ ∧ (x.ord.getD k []).length ≤ c1 ∧ c1 ≤ 9223372036854775807 ∧ ∀ W1, Below w0.heap.size w0 W1 → W1.cell? ⟨b, off + k, none⟩ = some (.slice A1 (x.ord.getD k []).length c1) ∧ RdI W1 (.slice A1 (x.ord.getD k []).length c1) (x.ord.getD k []) := fun k hk => by
    have ho := RX.out.o
    rw [RdLL, ← HW.out.ol] at ho
    obtain ⟨us, r1, r2, r3, r4⟩ := ho
    have hk3 : k < x.ord.length := by rw [HW.out.ol]; exact hk
    obtain ⟨b, off, hA, hb, hc⟩ := r1.one hk3
    have hu : us[k]? = some (us[k]'(by omega)) := List.getElem?_eq_getElem _
    obtain ⟨hr, _⟩ := r4 k _ hu
    obtain ⟨A1, c1, he, k1, k2⟩ := hr.shape
    rw [he] at hr
    exact ⟨b, off, A1, c1, hA, k1, k2, fun W1 h1 => ⟨(World.cell?_of_block (h1.block b hb)).trans (by rw [hc, hu, he]), Rd.below hr h1⟩⟩
  have HOL := Lib.hid hol
  have hom : ∀ k, k < 3 → (∀ y ∈ x.ord.getD k [], In es y) ∧ (x.ord.getD k []).length < 100000 := fun k hk => by
    have hm : x.ord.getD k [] ∈ x.ord := by
      rw [List.getD, List.getElem?_eq_getElem (by rw [HW.out.ol]; exact hk)]; exact List.getElem_mem _
    exact ⟨HW.out.oi _ hm, HW.out.ob _ hm⟩
  have HOM := Lib.hid hom
  clear hr hx he hw hw0 b0 hc4 hol hom
  go_enter Tryz.func79, Tryz.ntmps79
  go_upto_region 1 with fail
  rw [HW0.out]
  obtain ⟨k0, k2⟩ := C4.out w0 (Below.refl _ _)
  go_upto_region 2 with (go_at_call 95; refine (relation_any HE.out.n).mono ?_; rintro e w1 ⟨g, rfl, hg, hgl, hb1⟩)
  have HB1 := Lib.hid hb1
  have HG1 := Lib.hid hg
  have HGL := Lib.hid hgl
  clear hg k0 k2
  obtain ⟨k0, k2⟩ := C4.out w1 hb1
  clear hb1
  obtain ⟨R00, hR00⟩ : ∃ R00, List.replicate es.length 0 = R00 := ⟨_, rfl⟩
  rw [hR00] at HG1
  have HR00 := Lib.hid hR00
  clear hR00
  go_wp2
  go_loopw [22] (fun i wr => ∃ k : Nat, k ≤ 3 ∧ i = .int .i64 k ∧ IsR wr g es.length (ecoA x.ord R00 k) ∧ Below w0.heap.size w0 wr) (fun i _ => 3 - (intOf i).toNat)
  case atStart => exact ⟨0, Nat.zero_le _, rfl, HG1.out, HB1.out⟩
  case round =>
    obtain ⟨k, hk, rfl, hr, hb⟩ := hrel
    have HR := Lib.hid hr
    have HB := Lib.hid hb
    obtain ⟨R1, hR1⟩ : ∃ R1, ecoA x.ord R00 k = R1 := ⟨_, rfl⟩
    rw [hR1] at HR
    by_cases hlt : k < 3
    · have hlt' : (k : Int) < 3 := by omega
      have i1 : (0 : Int) ≤ (k : Int) := by omega
      obtain ⟨b, off, A1, c1, hA, hc11, hc12, hro⟩ := HOL.out k hlt
      subst hA
      have hst : Hid (ecoA x.ord R00 (k + 1) = ecoB (x.ord.getD k []) R1 (x.ord.getD k []).length) := Lib.hid (by rw [ecoA, hR1])
      obtain ⟨hlm, hll⟩ := HOM.out k hlt
      have o1 := (hro wr hb).1
      obtain ⟨l, hl⟩ : ∃ l, x.ord.getD k [] = l := ⟨_, rfl⟩
      rw [hl] at o1 hc11 hro hst hlm hll
      have HLM := Lib.hid hlm
      have HRO := Lib.hid hro
      clear hr hb hro hl hlm hR1
      go_wp2
      go_loopw [28] (fun i wr => ∃ i' : Nat, i' ≤ l.length ∧ i = .int .i64 i' ∧ IsR wr g es.length (ecoB l R1 i') ∧ Below w0.heap.size w0 wr) (fun i _ => l.length - (intOf i).toNat)
      case atStart => exact ⟨0, Nat.zero_le _, rfl, HR.out, HB.out⟩
      case round =>
        obtain ⟨i, hi, rfl, hr2, hb2⟩ := hrel
        have HR2 := Lib.hid hr2
        have HB2 := Lib.hid hb2
        obtain ⟨R2, hR2⟩ : ∃ R2, ecoB l R1 i = R2 := ⟨_, rfl⟩
        rw [hR2] at HR2
        by_cases hil : i < l.length
        · have hil' : (i : Int) < (l.length : Int) := by omega
          have j1 : (0 : Int) ≤ (i : Int) := by omega
          have hrl := (HRO.out wr hb2).2
          obtain ⟨b1, off1, hA1, hbb1, hcell⟩ := Rd.one hrl hil
          have d0 := hcell.trans (ints_at l i hil)
          obtain ⟨p, hp, hpn⟩ := (HLM.out _ (List.getElem_mem hil)).nat
          rw [hp] at d0
          have hst2 : Hid (ecoB l R1 (i + 1) = ecoC l i R2 (l.length - (i + 1))) := Lib.hid (by rw [ecoB, hR2])
          have hgp : Hid (l.getD i 0 = (p : Int)) := Lib.hid (by rw [int_getD hil, hp])
          have j2 : (i : Int) + 1 ≤ (l.length : Int) := by omega
          have j3 : (l.length : Int) ≤ (c1 : Int) := by omega
          have j4 : (0 : Int) ≤ (i : Int) + 1 := by omega
          have e1 : IntKind.i64.wrap ((i : Int) + 1) = (i : Int) + 1 := by rw [IntKind.wrap_i64]; omega
          subst hA1
          clear hr2 hb2 hR2 hrl hcell hp
          by_cases hcap : c1 = i + 1
          · subst hcap
            go_wp2
            go_loopw [38] (fun i' wr => ∃ m : Nat, m ≤ l.length - (i + 1) ∧ i' = .int .i64 m ∧ IsR wr g es.length (ecoC l i R2 m) ∧ Below w0.heap.size w0 wr) (fun i' _ => (l.length - (i + 1)) - (intOf i').toNat)
            case atStart => exact ⟨0, Nat.zero_le _, rfl, HR2.out, HB2.out⟩
            case round =>
              obtain ⟨m, hm, rfl, hr3, hb3⟩ := hrel
              have HR3 := Lib.hid hr3
              have HB3 := Lib.hid hb3
              have hmm : m = l.length - (i + 1) := by omega
              have HMM := Lib.hid hmm
              have hml : ¬ m < l.length - (i + 1) := by omega
              clear hmm hr3 hb3
              go_wp2
              go_roundw
              case measure => simp [intOf]; all_goals omega
              case rel => exact ⟨i + 1, by omega, by go_num, by { rw [hst2.out]; have h := HR3.out; rw [HMM.out] at h; exact h }, HB3.out⟩
          ·
            go_wp2
            go_loopw [38] (fun i' wr => ∃ m : Nat, m ≤ l.length - (i + 1) ∧ i' = .int .i64 m ∧ IsR wr g es.length (ecoC l i R2 m) ∧ Below w0.heap.size w0 wr) (fun i' _ => (l.length - (i + 1)) - (intOf i').toNat)
            case atStart => exact ⟨0, Nat.zero_le _, rfl, HR2.out, HB2.out⟩
            case round =>
              obtain ⟨m, hm, rfl, hr3, hb3⟩ := hrel
              have HR3 := Lib.hid hr3
              have HB3 := Lib.hid hb3
              by_cases hml : m < l.length - (i + 1)
              · have hml' : (m : Int) < ((l.length - (i + 1) : Nat) : Int) := by omega
                have m1 : (0 : Int) ≤ (m : Int) := by omega
                have hq0 : i + 1 + m < l.length := by omega
                obtain ⟨b1', off1', hA1', hbb1', hcell'⟩ := Rd.one (HRO.out wr hb3).2 hq0
                injection hA1' with hA1'
                injection hA1' with e5 e6
                subst e5 e6
                have d1 := hcell'.trans (ints_at l (i + 1 + m) hq0)
                rw [← Nat.add_assoc] at d1
                obtain ⟨q, hq, hqn⟩ := (HLM.out _ (List.getElem_mem hq0)).nat
                rw [hq] at d1
                have hst3 : Hid (ecoC l i R2 (m + 1) = putR (ecoC l i R2 m) p q) := Lib.hid (by rw [ecoC, hgp.out, int_getD hq0, hq]; rfl)
                clear hr3 hb3 hcell' hq
                go_wp2_with (go_at_call 75; refine (put_any HR3.out hpn (by omega)).mono ?_; rintro e8 w8 ⟨rfl, hr8, hk8⟩; have HR8 := Lib.hid hr8; have HB8 := Lib.hid (HB3.out.trans (hk8.below HB3.out.size (fun q e => by have := HGL.out; omega))); clear hr8 hk8)
                go_roundw
                case measure => simp [intOf]; all_goals omega
                case rel => exact ⟨m + 1, by omega, by go_num, by rw [hst3.out]; exact HR8.out, HB8.out⟩
              · have hmm : m = l.length - (i + 1) := by omega
                have HMM := Lib.hid hmm
                clear hmm hr3 hb3
                go_wp2
                go_roundw
                case measure => simp [intOf]; all_goals omega
                case rel => exact ⟨i + 1, by omega, by go_num, by { rw [hst2.out]; have h := HR3.out; rw [HMM.out] at h; exact h }, HB3.out⟩
        · have hin : i = l.length := by omega
          have HIN := Lib.hid hin
          clear hin hr2 hb2
          go_wp2
          go_roundw
          case measure => simp [intOf]; all_goals omega
          case rel => exact ⟨k + 1, by omega, by go_num, by { rw [hst.out]; have h := HR2.out; rw [← hR2, HIN.out] at h; exact h }, HB2.out⟩
    · have hk3 : k = 3 := by omega
      have HR3 : Hid (ecoA x.ord R00 3 = R1) := Lib.hid (by rw [← hk3]; exact hR1)
      have hlt3 : ¬ ((k : Int) < 3) := by omega
      clear hk3
      obtain ⟨k0, k2⟩ := C4.out wr hb
      clear hr hb hR1
      go_wp2
      go_loopw [52] (fun i' wr => ∃ k : Nat, k ≤ es.length ∧ i' = .int .i64 k ∧ IsR wr g es.length (ecoD es x R1 k) ∧ Below w0.heap.size w0 wr) (fun i' _ => es.length - (intOf i').toNat)
      case atStart => exact ⟨0, Nat.zero_le _, rfl, HR.out, HB.out⟩
      case round =>
        obtain ⟨k, hk, rfl, hr2, hb2⟩ := hrel
        have HR2 := Lib.hid hr2
        have HB2 := Lib.hid hb2
        obtain ⟨R2, hR2⟩ : ∃ R2, ecoD es x R1 k = R2 := ⟨_, rfl⟩
        rw [hR2] at HR2
        by_cases hlt : k < es.length
        · have hlt' : (k : Int) < (es.length : Int) := by omega
          have i1 : (0 : Int) ≤ (k : Int) := by omega
          have RE := R0.out.below hb2
          obtain ⟨b, off, hA, hbb, x0, x1, x2, x3, x4, x5⟩ := RdE.at_ RE hlt
          subst hA
          have hfl : k < x.fr.length := by rw [HW.out.fl]; exact hlt
          have hf := (RX.out.below hb2).f
          rw [RdI, HW.out.fl] at hf
          obtain ⟨bf, offf, hAf, hbf, hfc⟩ := Rd.one hf hlt
          subst hAf
          have d0 := hfc.trans (ints_at x.fr k hfl)
          obtain ⟨fk, hfk⟩ : ∃ fk, x.fr[k] = fk := ⟨_, rfl⟩
          rw [hfk] at d0
          have hgd : x.fr.getD k 0 = fk := by rw [int_getD hfl, hfk]
          have hfkl : fk < (es.length : Int) := by have := HW.out.fr k hlt; rwa [hgd] at this
          obtain ⟨l1, l2⟩ := HE.out.l k hlt
          have hst : Hid (∀ G l, ev es (k : Int) = G → x.ord.getD G.loc.toNat [] = l → ecoD es x R1 (k + 1) = if isRd G then (frIn k fk l (if 0 ≤ fk then putR R2 fk.toNat k else R2) l.length).1 else R2) := Lib.hid (fun G l h1 h2 => by
            rw [ecoD, hR2, frOne, hgd, h1, h2])
          obtain ⟨G, hG⟩ : ∃ G, ev es (k : Int) = G := ⟨_, rfl⟩
          have hst2 := Lib.hid (hst.out G _ hG rfl)
          rw [hG] at x0 x1 x2 x3 x4 x5 l1 l2
          obtain ⟨lk, hlk⟩ : ∃ lk : Nat, G.loc = (lk : Int) := ⟨G.loc.toNat, by omega⟩
          have hlk3 : lk < 3 := by omega
          have hlk3' : (lk : Int) < 3 := by omega
          have hlk0 : (0 : Int) ≤ (lk : Int) := by omega
          obtain ⟨b3, off3, A1, c1, hA3, hc11, hc12, hro⟩ := HOL.out lk hlk3
          have hsub : ∀ W1, Below wr.heap.size wr W1 → W1.cell? ⟨b, off + k * 6 + 1, none⟩ = some (.int .i64 (lk : Int)) ∧ W1.cell? ⟨w.heap.size, 2, none⟩ = some (.slice Ao 3 co) ∧ W1.cell? ⟨b3, off3 + lk, none⟩ = some (.slice A1 (x.ord.getD lk []).length c1) := fun W1 h1 =>
            ⟨(World.cell?_of_block (h1.block b hbb)).trans (x1.trans (by rw [hlk])), (C4.out W1 (hb2.trans (h1.mono hb2.size))).2, (hro W1 (hb2.trans (h1.mono hb2.size))).1⟩
          have hput : ∀ W1, Below w0.heap.size w0 W1 → W1.cell? ⟨b, off + k * 6 + 1, none⟩ = some (.int .i64 (lk : Int)) := fun W1 h1 => by
            obtain ⟨b', off', hA', _, _, y1, _, _, _, _⟩ := RdE.at_ (R0.out.below h1) hlt
            injection hA' with hA'
            injection hA' with e1 e2
            subst e1 e2
            rw [hG, hlk] at y1
            exact y1
          have HPUT := Lib.hid hput
          obtain ⟨hlm, hll⟩ := HOM.out lk hlk3
          have hll3 : x.ord.getD G.loc.toNat [] = x.ord.getD lk [] := by rw [hlk]; rfl
          rw [hll3] at hst2
          obtain ⟨l, hl⟩ : ∃ l, x.ord.getD lk [] = l := ⟨_, rfl⟩
          rw [hl] at hc11 hro hlm hll hst2 hsub
          have HLM := Lib.hid hlm
          have HRO := Lib.hid hro
          have HSB := Lib.hid hsub
          subst hA3
          obtain ⟨k0, k2⟩ := C4.out wr hb2
          clear hr2 hb2 hR2 RE hf hfc hfk hG hro hlm hl hll3 hsub hst hput hlk
          cases hrd : isRd G with
          | false =>
            have HRD := Lib.hid hrd
            have hst3 : Hid (ecoD es x R1 (k + 1) = R2) := Lib.hid (by rw [hst2.out, hrd]; rfl)
            clear hrd hst2
            go_wp2_with (go_at_call 45; refine (reads_any (e := G)).mono ?_; rintro e1 w1 ⟨rfl, hb1⟩; rw [HRD.out])
            go_roundw
            case measure => simp [intOf]; all_goals omega
            case rel => exact ⟨k + 1, by omega, by go_num, by rw [hst3.out]; exact HR2.out.below hb1, HB2.out.trans (hb1.mono HB2.out.size)⟩
          | true =>
            have HRD := Lib.hid hrd
            have hst3 : Hid (ecoD es x R1 (k + 1) = (frIn k fk l (if 0 ≤ fk then putR R2 fk.toNat k else R2) l.length).1) := Lib.hid (by rw [hst2.out, hrd]; rfl)
            clear hrd hst2
            by_cases hf0 : 0 ≤ fk
            · obtain ⟨fn, hfn⟩ : ∃ fn : Nat, fk = (fn : Int) := ⟨fk.toNat, by omega⟩
              have hfnl : fn < es.length := by omega
              obtain ⟨R4, hR4⟩ : ∃ R4, putR R2 fn k = R4 := ⟨_, rfl⟩
              have HEND : Hid (ecoD es x R1 (k + 1) = (frIn k fk l R4 l.length).1) := Lib.hid (by rw [hst3.out, if_pos hf0, hfn, ← hR4]; rfl)
              have HFN := Lib.hid hfn
              have HR4E := Lib.hid hR4
              clear hst3 hfn hR4
              go_upto_region 21 with (first | (go_at_call 45; refine (reads_any (e := G)).mono ?_; rintro e1 w1 ⟨rfl, hb1⟩; rw [HRD.out]) | (go_at_call 75; refine (put_int (a := fn) (b := k) (HR2.out.below hb1) HFN.out rfl hfnl (by omega)).mono ?_; rintro e8 w8 ⟨rfl, hr8, hk8⟩; have HR4 := Lib.hid (HR4E.out ▸ hr8); have HB4 := Lib.hid ((HB2.out.trans (hb1.mono HB2.out.size)).trans (hk8.below (Nat.le_trans HB2.out.size hb1.size) (fun q e => by have := HGL.out; omega)))))
              have y1 := HPUT.out w8 HB4.out
              obtain ⟨k0', k2'⟩ := C4.out w8 HB4.out
              have y3 := (HRO.out w8 HB4.out).1
              clear hr8 hk8 hb1 k0 k2
              go_upto_region 22 with fail
              go_quiet (fail)
              go_wp2
              go_loopw [14, 82] (fun bh i' wr => ∃ m : Nat, m ≤ l.length ∧ i' = .int .i64 m ∧ bh = .bool (frIn k fk l R4 m).2 ∧ IsR wr g es.length (frIn k fk l R4 m).1 ∧ Below w0.heap.size w0 wr) (fun _ i' _ => l.length - (intOf i').toNat)
              case atStart => exact ⟨0, Nat.zero_le _, rfl, rfl, HR4.out.below ((Below.refl _ _).drewN _), HB4.out.drewN _⟩
              case round =>
                obtain ⟨m, hm, rfl, rfl, hr5, hb5⟩ := hrel
                have HR5 := Lib.hid hr5
                have HB5 := Lib.hid hb5
                by_cases hml : m < l.length
                · have hml' : (m : Int) < (l.length : Int) := by omega
                  have m1 : (0 : Int) ≤ (m : Int) := by omega
                  obtain ⟨b1', off1', hA1', hbb1', hcell'⟩ := Rd.one (HRO.out wr hb5).2 hml
                  have d1 := hcell'.trans (ints_at l m hml)
                  obtain ⟨q, hq, hqn⟩ := (HLM.out _ (List.getElem_mem hml)).nat
                  rw [hq] at d1
                  have hgm : l.getD m 0 = (q : Int) := by rw [int_getD hml, hq]
                  have hst5 : Hid (∀ b R, (frIn k fk l R4 m).2 = b → (frIn k fk l R4 m).1 = R → frIn k fk l R4 (m + 1) = (if b && ((q : Int) != (k : Int)) then putR R k q else R, b || ((q : Int) == fk))) := Lib.hid (fun b R h1 h2 => by
                    rw [frIn, h1, h2, hgm]; rfl)
                  obtain ⟨bh, hbh⟩ : ∃ bh, (frIn k fk l R4 m).2 = bh := ⟨_, rfl⟩
                  obtain ⟨R5, hR5⟩ : ∃ R5, (frIn k fk l R4 m).1 = R5 := ⟨_, rfl⟩
                  rw [hbh]
                  rw [hR5] at HR5
                  have hst6 := Lib.hid (hst5.out bh R5 hbh hR5)
                  subst hA1'
                  clear hr5 hb5 hcell' hq hgm hst5 hbh hR5
                  cases bh with
                  | true =>
                    by_cases hqk : q = k
                    · subst hqk
                      have hst7 : Hid (frIn q fk l R4 (m + 1) = (R5, true)) := Lib.hid (by rw [hst6.out]; simp)
                      clear hst6
                      go_wp2
                      go_roundw
                      case measure => simp [intOf]; all_goals omega
                      case rel => exact ⟨m + 1, by omega, by go_num, by rw [hst7.out], by rw [hst7.out]; exact HR5.out, HB5.out⟩
                    · have hbne : ((q : Int) != (k : Int)) = true := bne_iff_ne.2 (by omega)
                      have hst7 : Hid (frIn k fk l R4 (m + 1) = (putR R5 k q, true)) := Lib.hid (by rw [hst6.out, hbne]; rfl)
                      clear hst6
                      go_wp2_with (go_at_call 75; refine (put_any HR5.out hlt (by omega)).mono ?_; rintro e8 w8 ⟨rfl, hr8, hk8⟩; have HR8 := Lib.hid hr8; have HB8 := Lib.hid (HB5.out.trans (hk8.below HB5.out.size (fun q e => by have := HGL.out; omega))); clear hr8 hk8)
                      go_roundw
                      case measure => simp [intOf]; all_goals omega
                      case rel => exact ⟨m + 1, by omega, by go_num, by rw [hst7.out], by rw [hst7.out]; exact HR8.out, HB8.out⟩
                  | false =>
                    have hst7 : Hid (frIn k fk l R4 (m + 1) = (R5, ((q : Int) == fk))) := Lib.hid (by rw [hst6.out]; simp)
                    clear hst6
                    go_wp2
                    go_roundw
                    case measure => simp [intOf]; all_goals omega
                    case rel => exact ⟨m + 1, by omega, by go_num, by rw [hst7.out], by rw [hst7.out]; exact HR5.out, HB5.out⟩
                · have hmm : m = l.length := by omega
                  have HMM := Lib.hid hmm
                  clear hmm hr5 hb5
                  go_wp2
                  go_roundw
                  case measure => simp [intOf]; all_goals omega
                  case rel => exact ⟨k + 1, by omega, by go_num, by { rw [HEND.out]; have h := HR5.out; rw [HMM.out] at h; exact h }, HB5.out⟩
            · obtain ⟨R4, hR4⟩ : ∃ R4, R2 = R4 := ⟨_, rfl⟩
              have HEND : Hid (ecoD es x R1 (k + 1) = (frIn k fk l R4 l.length).1) := Lib.hid (by rw [hst3.out, if_neg hf0, ← hR4])
              clear hst3
              go_upto_region 21 with (go_at_call 45; refine (reads_any (e := G)).mono ?_; rintro e1 w1 ⟨rfl, hb1⟩; rw [HRD.out])
              have HB4 := Lib.hid (HB2.out.trans (hb1.mono HB2.out.size))
              have HR4 := Lib.hid (HR2.out.below hb1)
              rw [hR4] at HR4
              have y1 := HPUT.out w1 HB4.out
              obtain ⟨k0', k2'⟩ := C4.out w1 HB4.out
              have y3 := (HRO.out w1 HB4.out).1
              clear hb1 k0 k2 hR4
              go_upto_region 22 with fail
              go_quiet (fail)
              go_wp2
              go_loopw [14, 82] (fun bh i' wr => ∃ m : Nat, m ≤ l.length ∧ i' = .int .i64 m ∧ bh = .bool (frIn k fk l R4 m).2 ∧ IsR wr g es.length (frIn k fk l R4 m).1 ∧ Below w0.heap.size w0 wr) (fun _ i' _ => l.length - (intOf i').toNat)
              case atStart => exact ⟨0, Nat.zero_le _, rfl, rfl, HR4.out.below ((Below.refl _ _).drewN _), HB4.out.drewN _⟩
              case round =>
                obtain ⟨m, hm, rfl, rfl, hr5, hb5⟩ := hrel
                have HR5 := Lib.hid hr5
                have HB5 := Lib.hid hb5
                by_cases hml : m < l.length
                · have hml' : (m : Int) < (l.length : Int) := by omega
                  have m1 : (0 : Int) ≤ (m : Int) := by omega
                  obtain ⟨b1', off1', hA1', hbb1', hcell'⟩ := Rd.one (HRO.out wr hb5).2 hml
                  have d1 := hcell'.trans (ints_at l m hml)
                  obtain ⟨q, hq, hqn⟩ := (HLM.out _ (List.getElem_mem hml)).nat
                  rw [hq] at d1
                  have hgm : l.getD m 0 = (q : Int) := by rw [int_getD hml, hq]
                  have hst5 : Hid (∀ b R, (frIn k fk l R4 m).2 = b → (frIn k fk l R4 m).1 = R → frIn k fk l R4 (m + 1) = (if b && ((q : Int) != (k : Int)) then putR R k q else R, b || ((q : Int) == fk))) := Lib.hid (fun b R h1 h2 => by
                    rw [frIn, h1, h2, hgm]; rfl)
                  obtain ⟨bh, hbh⟩ : ∃ bh, (frIn k fk l R4 m).2 = bh := ⟨_, rfl⟩
                  obtain ⟨R5, hR5⟩ : ∃ R5, (frIn k fk l R4 m).1 = R5 := ⟨_, rfl⟩
                  rw [hbh]
                  rw [hR5] at HR5
                  have hst6 := Lib.hid (hst5.out bh R5 hbh hR5)
                  subst hA1'
                  clear hr5 hb5 hcell' hq hgm hst5 hbh hR5
                  cases bh with
                  | true =>
                    by_cases hqk : q = k
                    · subst hqk
                      have hst7 : Hid (frIn q fk l R4 (m + 1) = (R5, true)) := Lib.hid (by rw [hst6.out]; simp)
                      clear hst6
                      go_wp2
                      go_roundw
                      case measure => simp [intOf]; all_goals omega
                      case rel => exact ⟨m + 1, by omega, by go_num, by rw [hst7.out], by rw [hst7.out]; exact HR5.out, HB5.out⟩
                    · have hbne : ((q : Int) != (k : Int)) = true := bne_iff_ne.2 (by omega)
                      have hst7 : Hid (frIn k fk l R4 (m + 1) = (putR R5 k q, true)) := Lib.hid (by rw [hst6.out, hbne]; rfl)
                      clear hst6
                      go_wp2_with (go_at_call 75; refine (put_any HR5.out hlt (by omega)).mono ?_; rintro e8 w8 ⟨rfl, hr8, hk8⟩; have HR8 := Lib.hid hr8; have HB8 := Lib.hid (HB5.out.trans (hk8.below HB5.out.size (fun q e => by have := HGL.out; omega))); clear hr8 hk8)
                      go_roundw
                      case measure => simp [intOf]; all_goals omega
                      case rel => exact ⟨m + 1, by omega, by go_num, by rw [hst7.out], by rw [hst7.out]; exact HR8.out, HB8.out⟩
                  | false =>
                    have hst7 : Hid (frIn k fk l R4 (m + 1) = (R5, ((q : Int) == fk))) := Lib.hid (by rw [hst6.out]; simp)
                    clear hst6
                    go_wp2
                    go_roundw
                    case measure => simp [intOf]; all_goals omega
                    case rel => exact ⟨m + 1, by omega, by go_num, by rw [hst7.out], by rw [hst7.out]; exact HR5.out, HB5.out⟩
                · have hmm : m = l.length := by omega
                  have HMM := Lib.hid hmm
                  clear hmm hr5 hb5
                  go_wp2
                  go_roundw
                  case measure => simp [intOf]; all_goals omega
                  case rel => exact ⟨k + 1, by omega, by go_num, by { rw [HEND.out]; have h := HR5.out; rw [HMM.out] at h; exact h }, HB5.out⟩
        · have hkn : k = es.length := by omega
          have HKN := Lib.hid hkn
          clear hkn hr2 hb2
          go_wp2_with (go_at_call 76; refine (close_any HR2.out HE.out.n).mono ?_; rintro e9 w9 ⟨rfl, hr9, hk9⟩)
          go_ret
          refine ⟨g, rfl, ?_, by have := HGL.out; have := B0.out.size; omega, B0.out.trans ((HB2.out.trans (hk9.below HB2.out.size (fun q e => by have := HGL.out; omega))).mono B0.out.size)⟩
          rw [commF, HR00.out, HR3.out]
          rw [← hR2, HKN.out] at hr9
          exact hr9
end Go.Proofs.YtkddckfgdiemkaaGreat
