/-
  The walk of fit, of executions that fit; fails.
-/
import Derived.Test.YtkddckfgdiemkaaGreatCW21
set_option linter.unusedVariables false
set_option linter.unusedSimpArgs false
namespace Go.Proofs.YtkddckfgdiemkaaGreat
open Go.RowKit Go.Shelf Mem
set_option maxRecDepth 100000
attribute [local go_sem] Oper.semAt_some

set_option maxHeartbeats 4000000 in
theorem fit_any {w : World} {B : Nat} {pv fv dv ov sv : Value} {es : List Ev} {x : Ex} (hr : RdE w pv es) (hx : OwnX w B (.agg #[fv, dv, ov, sv]) x) (he : WfE es) (hw : WfX es x) (hwr : WfR es x) (hok : FitOk es x) (hkd : ∀ i : Nat, i < es.length → 0 ≤ (ev es (i : Int)).kind ∧ (ev es (i : Int)).kind ≤ 5)
    (hlo : ∀ k, k < 3 → (x.ord.getD k []).length ≤ 1000) (hlf : x.fen.length ≤ 1000) :
    Calls Tryz.prog 46 #[pv, .agg #[fv, dv, ov, sv]] w (Tells w true) := by
  obtain ⟨A, c, rfl, hc1, hc2⟩ := hr.shape
  have hrx := OwnX.rd hx
  have hd : Rd w dv es.length 1 (bools x.dn) := by rw [← hw.dl]; exact hrx.d
  have hf : Rd w fv es.length 1 (ints x.fr) := by rw [← hw.fl]; exact hrx.f
  obtain ⟨Ad, cd, rfl, hcd1, hcd2⟩ := hd.shape
  obtain ⟨Af, cf, rfl, hcf1, hcf2⟩ := hf.shape
  obtain ⟨fv', dv', ov', sv', hag, ox1, ox2, ox3, ox4⟩ := hx
  injection hag with hag
  simp only [Array.mk.injEq, List.cons.injEq, and_true] at hag
  obtain ⟨rfl, rfl, rfl, rfl⟩ := hag
  obtain ⟨Ao, co, rfl, hco1, hco2⟩ := ox3.shape
  have ho3 : ∀ W, Below w.heap.size w W → OwnL W B (.slice Ao x.ord.length co) x.ord := fun W h => ox3.below h
  have hs3 : ∀ W, Below w.heap.size w W → Own W B sv x.fen := fun W h => Row.below ox4 h
  obtain ⟨As, cs, rfl, hcs1, hcs2⟩ := (Row.rd ox4).shape
  have hol : x.ord.length = 3 := hw.ol
  rw [hol] at ho3 ⊢
  obtain ⟨w0, hw0⟩ : ∃ w0, (w.alloc (.cells #[.slice A es.length c] 65)).alloc (.cells #[.slice Af es.length cf, .slice Ad es.length cd, .slice Ao 3 co, .slice As x.fen.length cs] 35) = w0 := ⟨_, rfl⟩
  have b0 : Below w.heap.size w w0 := by rw [← hw0]; exact ((Below.refl _ w).alloc (Nat.le_refl _) _).alloc (by simp) _
  have X65 : Blk w0 w.heap.size 65 [.slice A es.length c] := by rw [← hw0]; exact (Blk.new w 65 [.slice A es.length c]).alloc _
  have X35 : Blk w0 (w.heap.size + 1) 35 [.slice Af es.length cf, .slice Ad es.length cd, .slice Ao 3 co, .slice As x.fen.length cs] := by rw [← hw0]; exact blk_at_new 35 [.slice Af es.length cf, .slice Ad es.length cd, .slice Ao 3 co, .slice As x.fen.length cs] (by simp)
  have hsz0 : w0.heap.size = w.heap.size + 2 := by rw [← hw0]; simp
  have R0 : Hid (RdE w0 (.slice A es.length c) es) := Lib.hid (hr.below b0)
  have RX : Hid (RdX w0 (.slice Af es.length cf) (.slice Ad es.length cd) (.slice Ao 3 co) (.slice As x.fen.length cs) x) := Lib.hid (by have := hrx.below b0; rw [hol] at this; exact this)
  have D0 : Hid (Rd w0 (.slice Ad es.length cd) es.length 1 (bools x.dn)) := Lib.hid (Rd.below hd b0)
  have HO3 := Lib.hid (fun W (h : Below w0.heap.size w0 W) => ho3 W (b0.trans (h.mono b0.size)))
  have HS3 := Lib.hid (fun W (h : Below w0.heap.size w0 W) => hs3 W (b0.trans (h.mono b0.size)))
  have hc4 : ∀ W1, Below w0.heap.size w0 W1 → W1.cell? ⟨w.heap.size, 0, none⟩ = some (.slice A es.length c) ∧ W1.cell? ⟨w.heap.size + 1, 0, none⟩ = some (.slice Af es.length cf) ∧ W1.cell? ⟨w.heap.size + 1, 1, none⟩ = some (.slice Ad es.length cd) ∧ W1.cell? ⟨w.heap.size + 1, 2, none⟩ = some (.slice Ao 3 co) ∧ W1.cell? ⟨w.heap.size + 1, 3, none⟩ = some (.slice As x.fen.length cs) := fun W1 h1 =>
    ⟨(X65.below h1).cell 0 rfl, (X35.below h1).cell 0 rfl, (X35.below h1).cell 1 rfl, (X35.below h1).cell 2 rfl, (X35.below h1).cell 3 rfl⟩
  have C4 := Lib.hid hc4
  have HW := Lib.hid hw
  have HWR := Lib.hid hwr
  have HOK := Lib.hid hok
  have HKD := Lib.hid hkd
  have HLO := Lib.hid hlo
  have HLF := Lib.hid hlf
  have HW0 := Lib.hid hw0
  have B0 := Lib.hid b0
  have HSZ := Lib.hid hsz0
  have hn := he.n
  have HE := Lib.hid he
  clear hr hrx hd hf ox1 ox2 ox3 ox4 ho3 hs3 hol hw hwr hok hkd hlo hlf hw0 b0 hsz0 hc4 X65 X35 he
  go_enter Tryz.func46, Tryz.ntmps46
  go_upto_region 1 with fail
  rw [HW0.out]
  obtain ⟨k0, k1, k2, k3, k4⟩ := C4.out w0 (Below.refl _ _)
  go_wp2
  clear k0 k1 k2 k3 k4
  go_loopw [36] (fun i wr => ∃ k : Nat, k ≤ es.length ∧ i = .int .i64 k ∧ Below w0.heap.size w0 wr) (fun i _ => es.length - (intOf i).toNat)
  case atStart => exact ⟨0, Nat.zero_le _, rfl, Below.refl _ _⟩
  case round =>
    obtain ⟨i, hi, rfl, hb⟩ := hrel
    obtain ⟨k0, k1, k2, k3, k4⟩ := C4.out wr hb
    by_cases hlt : i < es.length
    · have hlt' : (i : Int) < (es.length : Int) := by omega
      have HB := Lib.hid hb
      have HS := Lib.hid (source_any (ov := .slice Ao 3 co) (sv := .slice As x.fen.length cs) (R0.out.below hb) (Rd.below RX.out.f hb) (Rd.below RX.out.d hb) HW.out.fl HW.out.dl hlt HOK.out)
      clear hb
      go_wp2_with (go_at_call 82; refine HS.out.mono ?_; rintro e1 w1 ⟨rfl, hb1⟩)
      go_roundw
      case measure => simp [intOf]; all_goals omega
      case rel => exact ⟨i + 1, by omega, by go_num, HB.out.trans (hb1.mono HB.out.size)⟩
    · have hin : i = es.length := by omega
      subst hin
      have HB := Lib.hid hb
      have HWD := Lib.hid (words_any (dv := .slice Ad es.length cd) (ov := .slice Ao 3 co) (sv := .slice As x.fen.length cs) (R0.out.below hb) (Rd.below RX.out.f hb) hn HWR.out)
      clear hb
      go_upto_region 10 with (go_at_call 44; refine HWD.out.mono ?_; rintro e w1 ⟨g1, g2, g3, rfl, h1, h2, h3, h4, hb1⟩)
      obtain ⟨rs, hrs⟩ : ∃ rs, (wordsF es x).rd = rs := ⟨_, rfl⟩
      obtain ⟨kn, hkn⟩ : ∃ kn, (wordsF es x).kn = kn := ⟨_, rfl⟩
      rw [hrs] at h1
      rw [hkn] at h3
      have HRL := Lib.hid (show rs.length = es.length by rw [← hrs]; exact h4.rd)
      have HKL := Lib.hid (show kn.length = es.length by rw [← hkn]; exact h4.kn)
      have HRS := Lib.hid hrs
      have H1 := Lib.hid h1
      have H3 := Lib.hid h3
      have HB1 := Lib.hid (HB.out.trans (hb1.mono HB.out.size))
      clear h1 h2 h3 h4 hb1 hrs hkn k0 k1 k2 k3 k4
      obtain ⟨k0, k1, k2, k3, k4⟩ := C4.out w1 HB1.out
      go_wp2
      clear k0 k1 k2 k3 k4
      go_loopw [54] (fun i wr => ∃ k : Nat, k ≤ es.length ∧ i = .int .i64 k ∧ Blk wr g1 3 (ints rs) ∧ Blk wr g3 4 (bools kn) ∧ Below w0.heap.size w0 wr) (fun i _ => es.length - (intOf i).toNat)
      case atStart => exact ⟨0, Nat.zero_le _, rfl, H1.out, H3.out, HB1.out⟩
      case round =>
        obtain ⟨i, hi, rfl, hrd, hkb, hb⟩ := hrel
        by_cases hlt : i < es.length
        · have hlt' : (i : Int) < (es.length : Int) := by omega
          have i1 : (0 : Int) ≤ (i : Int) := by omega
          obtain ⟨b, off, hA, hbb, x0, x1, x2, x3, x4, x5⟩ := RdE.at_ (R0.out.below hb) hlt
          have hKD := HKD.out i hlt
          have hfw := HOK.out.kw i hlt
          have hfn := HOK.out.kn i hlt
          have hfc := HOK.out.kc i hlt
          have hfk := HOK.out.kk i hlt
          rw [HRS.out] at hfc hfk
          obtain ⟨G, hG⟩ : ∃ G, ev es (i : Int) = G := ⟨_, rfl⟩
          rw [hG] at x0 x1 x2 x3 x4 x5 hKD hfw hfn hfc hfk
          obtain ⟨dd, hdd⟩ : ∃ dd, x.dn.getD i false = dd := ⟨_, rfl⟩
          rw [hdd] at hfw hfn hfc hfk
          obtain ⟨rr, hrr⟩ : ∃ rr, rs.getD i 0 = rr := ⟨_, rfl⟩
          rw [hrr] at hfc hfk
          obtain ⟨kb, hkk⟩ : ∃ kb, kn.getD i false = kb := ⟨_, rfl⟩
          have r0 := hrd.cell i (ints_at rs i (by rw [HRL.out]; exact hlt))
          rw [← int_getD (by rw [HRL.out]; exact hlt), hrr] at r0
          have q0 := hkb.cell i (bools_at kn i (by rw [HKL.out]; exact hlt))
          rw [← bool_getD (by rw [HKL.out]; exact hlt), hkk] at q0
          obtain ⟨wa, hwa⟩ : ∃ wa, wr.alloc (.cells #[.int .i64 G.kind, .int .i64 G.loc, .int .i64 G.v, .int .i64 G.w, .int .i64 G.ord, .int .i64 G.th] 89) = wa := ⟨_, rfl⟩
          have ba : Below wr.heap.size wr wa := by rw [← hwa]; exact (Below.refl _ wr).alloc (Nat.le_refl _) _
          have HEv := (show Blk wa wr.heap.size 89 [.int .i64 G.kind, .int .i64 G.loc, .int .i64 G.v, .int .i64 G.w, .int .i64 G.ord, .int .i64 G.th] by rw [← hwa]; exact Blk.new wr 89 _)
          have e0 := HEv.cell 0 rfl
          have e2 := HEv.cell 2 rfl
          have HRD := Lib.hid hrd
          have HKN := Lib.hid hkb
          have HBA := Lib.hid ba
          have HB1 := Lib.hid (hb.trans (ba.mono hb.size))
          obtain ⟨k0, k1, k2, k3, k4⟩ := C4.out wa HB1.out
          obtain ⟨j0, j1, j2, j3, j4⟩ := C4.out wr hb
          obtain ⟨bd, offd, hAd, hbd, d0⟩ := RdB.atn (Rd.below D0.out HB1.out) HW.out.dl hlt
          rw [hdd] at d0
          have r1 := (World.cell?_of_block (ba.block g1 hrd.lt)).trans r0
          have q1 := (World.cell?_of_block (ba.block g3 hkb.lt)).trans q0
          have HWA := Lib.hid hwa
          subst hA hAd
          clear hG hdd hrr hkk hrd hkb hb ba HEv r0 q0 hwa
          rcases (by omega : G.kind = 0 ∨ G.kind = 1 ∨ G.kind = 2 ∨ G.kind = 3 ∨ G.kind = 4 ∨ G.kind = 5) with hk | hk | hk | hk | hk | hk
          · have hd1 := hfn (.inl hk)
            subst hd1
            rw [hk] at e0
            clear hk hKD hfw hfn hfc hfk
            go_upto_region 13 with fail
            rw [HWA.out]
            go_wp2
            go_roundw
            case measure => simp [intOf]; all_goals omega
            case rel => exact ⟨i + 1, by omega, by go_num, HRD.out.below HBA.out, HKN.out.below HBA.out, HB1.out⟩
          · have hd1 := hfw (.inl hk)
            subst hd1
            rw [hk] at e0
            clear hk hKD hfw hfn hfc hfk
            go_upto_region 13 with fail
            rw [HWA.out]
            go_wp2
            go_roundw
            case measure => simp [intOf]; all_goals omega
            case rel => exact ⟨i + 1, by omega, by go_num, HRD.out.below HBA.out, HKN.out.below HBA.out, HB1.out⟩
          · have hd1 := hfw (.inr hk)
            subst hd1
            rw [hk] at e0
            clear hk hKD hfw hfn hfc hfk
            go_upto_region 13 with fail
            rw [HWA.out]
            go_wp2
            go_roundw
            case measure => simp [intOf]; all_goals omega
            case rel => exact ⟨i + 1, by omega, by go_num, HRD.out.below HBA.out, HKN.out.below HBA.out, HB1.out⟩
          · have hd1 := hfc hk
            rw [hk] at e0
            clear hk hKD hfw hfn hfc hfk
            cases kb with
            | false =>
              go_upto_region 13 with fail
              rw [HWA.out]
              go_upto_region 22 with fail
              go_quiet (fail)
              go_wp2
              go_roundw
              case measure => simp [intOf]; all_goals omega
              case rel => exact ⟨i + 1, by omega, by go_num, HRD.out.below (HBA.out.drewN _), HKN.out.below (HBA.out.drewN _), HB1.out.drewN _⟩
            | true =>
              by_cases hv : rr = G.v
              · have hvb : (rr == G.v) = true := beq_iff_eq.2 hv
                rw [hvb] at hd1
                subst hd1
                rw [hv] at r1
                clear hv hvb
                go_upto_region 13 with fail
                rw [HWA.out]
                go_upto_region 22 with fail
                go_quiet (fail)
                go_wp2
                go_roundw
                case measure => simp [intOf]; all_goals omega
                case rel => exact ⟨i + 1, by omega, by go_num, HRD.out.below (HBA.out.drewN _), HKN.out.below (HBA.out.drewN _), HB1.out.drewN _⟩
              · have hvb : (rr == G.v) = false := beq_eq_false_iff_ne.2 hv
                rw [hvb] at hd1
                subst hd1
                clear hvb
                go_upto_region 13 with fail
                rw [HWA.out]
                go_upto_region 22 with fail
                go_quiet (fail)
                go_wp2
                go_roundw
                case measure => simp [intOf]; all_goals omega
                case rel => exact ⟨i + 1, by omega, by go_num, HRD.out.below (HBA.out.drewN _), HKN.out.below (HBA.out.drewN _), HB1.out.drewN _⟩
          · rw [hk] at e0
            have hfk := hfk hk
            clear hk hKD hfw hfn hfc
            cases kb with
            | false =>
              clear hfk
              go_upto_region 13 with fail
              rw [HWA.out]
              go_upto_region 24 with fail
              go_quiet (fail)
              go_wp2
              go_roundw
              case measure => simp [intOf]; all_goals omega
              case rel => exact ⟨i + 1, by omega, by go_num, HRD.out.below (HBA.out.drewN _), HKN.out.below (HBA.out.drewN _), HB1.out.drewN _⟩
            | true =>
              cases dd with
              | false =>
                clear hfk
                go_upto_region 13 with fail
                rw [HWA.out]
                go_upto_region 24 with fail
                go_quiet (fail)
                go_wp2
                go_roundw
                case measure => simp [intOf]; all_goals omega
                case rel => exact ⟨i + 1, by omega, by go_num, HRD.out.below (HBA.out.drewN _), HKN.out.below (HBA.out.drewN _), HB1.out.drewN _⟩
              | true =>
                have hv := hfk rfl
                rw [hv] at r1
                clear hfk hv
                go_upto_region 13 with fail
                rw [HWA.out]
                go_upto_region 24 with fail
                go_quiet (fail)
                go_wp2
                go_roundw
                case measure => simp [intOf]; all_goals omega
                case rel => exact ⟨i + 1, by omega, by go_num, HRD.out.below (HBA.out.drewN _), HKN.out.below (HBA.out.drewN _), HB1.out.drewN _⟩
          · have hd1 := hfn (.inr hk)
            subst hd1
            rw [hk] at e0
            clear hk hKD hfw hfn hfc hfk
            go_upto_region 13 with fail
            rw [HWA.out]
            go_wp2
            go_roundw
            case measure => simp [intOf]; all_goals omega
            case rel => exact ⟨i + 1, by omega, by go_num, HRD.out.below HBA.out, HKN.out.below HBA.out, HB1.out⟩
        · have HB2 := Lib.hid hb
          obtain ⟨k0, k1, k2, k3, k4⟩ := C4.out wr hb
          clear hrd hkb hb
          go_wp2
          clear k0 k1 k2 k3 k4
          go_loopw [133] (fun i wr => ∃ k : Nat, k ≤ 3 ∧ i = .int .i64 k ∧ Below w0.heap.size w0 wr) (fun i _ => 3 - (intOf i).toNat)
          case atStart => exact ⟨0, Nat.zero_le _, rfl, HB2.out⟩
          case round =>
            obtain ⟨i, hi, rfl, hb⟩ := hrel
            obtain ⟨k0, k1, k2, k3, k4⟩ := C4.out wr hb
            by_cases hlt : i < 3
            · have hlt' : (i : Int) < 3 := by omega
              have i1 : (0 : Int) ≤ (i : Int) := by omega
              have hoat := HO3.out wr hb
              rw [← HW.out.ol] at hoat
              obtain ⟨bo, oo, u, hAo, hbo, cu, hou⟩ := hoat.at_ (k := i) (by rw [HW.out.ol]; exact hlt)
              obtain ⟨Au, lu, rfl, hlu1, hlu2⟩ := (Row.rd hou).shape
              subst hAo
              have HOU := Lib.hid hou
              have HB3 := Lib.hid hb
              have HWR2 := Lib.hid (writers_any (loc := (i : Int)) (R0.out.below hb) (show RdB wr (.slice Ad es.length cd) x.dn by have := Rd.below D0.out hb; rw [← HW.out.dl] at this ⊢; exact this) HW.out.dl (by omega))
              have HSO := Lib.hid (HOK.out.so i hlt)
              clear hb hou hoat
              go_wp2_with (first | (go_at_call 63; refine HWR2.out.mono ?_; rintro e4 w4 ⟨v4, rfl, hown4, hb4⟩; obtain ⟨A4, c4, rfl, hc41, hc42⟩ := (Row.rd hown4).shape) | (go_at_call 83; refine (same_any (Row.rd (Row.below HOU.out hb4)) (Row.rd hown4) (fun g hg => (Row.at_lt (Row.below HOU.out hb4) hg).2) (HLO.out i hlt)).mono ?_; rintro e5 w5 ⟨rfl, hb5⟩; rw [decide_eq_true HSO.out]))
              go_roundw
              case measure => simp [intOf]; all_goals omega
              case rel => exact ⟨i + 1, by omega, by go_num, (HB3.out.trans (hb4.mono HB3.out.size)).trans (hb5.mono (by have := HB3.out.size; have := hb4.size; omega))⟩
            · have hb1 : Below wr.heap.size wr wr.drew := (Below.refl _ wr).drew
              have HB3 := Lib.hid hb
              have hs0 : wr.drew.cell? ⟨w.heap.size, 0, none⟩ = some (.slice A es.length c) ∧ wr.drew.cell? ⟨w.heap.size + 1, 3, none⟩ = some (.slice As x.fen.length cs) := ⟨k0, k4⟩
              have HPK := Lib.hid (fun W (hW : Below wr.heap.size wr W) => pick_strong2 (w := W) (bp := w.heap.size) (q := fun y => isStrong (ev es y)) ((R0.out.below hb).below hW)
                (fun k hk W1 hb1 => strong2_any ((C4.out W1 ((hb.trans (hW.mono hb.size)).trans (hb1.mono (by have := hb.size; have := hW.size; omega)))).1) (((R0.out.below hb).below hW).below hb1) ⟨by omega, by omega⟩) (by omega))
              have HSF := Lib.hid HOK.out.sf
              have HS4 := Lib.hid (fun W (hW : Below wr.heap.size wr W) => (⟨(C4.out W (hb.trans (hW.mono hb.size))).1, (C4.out W (hb.trans (hW.mono hb.size))).2.2.2.2⟩ : W.cell? ⟨w.heap.size, 0, none⟩ = some (.slice A es.length c) ∧ W.cell? ⟨w.heap.size + 1, 3, none⟩ = some (.slice As x.fen.length cs)))
              have HFN := Lib.hid (fun W (hW : Below wr.heap.size wr W) => HS3.out W (hb.trans (hW.mono hb.size)))
              clear hb k0 k1 k2 k3 k4
              go_upto_region 34 with fail
              go_region_held3 (fun w' => w'.cell? ⟨w.heap.size, 0, none⟩ = some (.slice A es.length c) ∧ w'.cell? ⟨w.heap.size + 1, 3, none⟩ = some (.slice As x.fen.length cs))
                (first | exact hs0 | exact HS4.out _ hb5 | exact HS4.out _ hb6)
                (first
                  | (go_at_call 33; refine (HPK.out _ hb1).mono ?_; rintro e5 w5 ⟨v5, rfl, hown5, hbe5⟩; have hb5 : Below wr.heap.size wr w5 := hb1.trans (hbe5.mono hb1.size); obtain ⟨A5, c5, rfl, hc51, hc52⟩ := (Row.rd hown5).shape; dsimp only)
                  | (go_at_call 83; refine (same_any (Row.rd (HFN.out _ hb5)) (Row.rd hown5) (fun g hg => (Row.at_lt (HFN.out _ hb5) hg).2) HLF.out).mono ?_; rintro e6 w6 ⟨rfl, hbe6⟩; have hb6 : Below wr.heap.size wr w6 := hb5.trans (hbe6.mono hb5.size); dsimp only))
              all_goals go_wp2
              all_goals go_ret
              all_goals exact ⟨congrArg (fun b => Ending.returned (.bool b)) (decide_eq_true HSF.out), B0.out.trans ((HB3.out.trans (hb6.mono HB3.out.size)).mono B0.out.size)⟩
end Go.Proofs.YtkddckfgdiemkaaGreat
