/-
  The walk of Check of the document.
-/
import Derived.Test.YtkddckfgdiemkaaGreatCW26
set_option linter.unusedVariables false
set_option linter.unusedSimpArgs false
namespace Go.Proofs.YtkddckfgdiemkaaGreat
open Go.RowKit Go.Shelf Mem
set_option maxRecDepth 100000
attribute [local go_sem] Oper.semAt_some

/-- What is counted. -/
structure Cnt where
  a : Nat
  f : Nat
  w0 : Nat
  w1 : Nat
  w2 : Nat
noncomputable def cntStep (c : Cnt) (e : Ev) : Cnt :=
  if e.kind = 5 then { c with f := c.f + 1 }
  else if dec (Accessed e) then ⟨c.a + 1, c.f + (if e.ord = 4 then 2 else 0), c.w0 + (if 0 < e.kind ∧ e.loc = 0 then 1 else 0), c.w1 + (if 0 < e.kind ∧ e.loc = 1 then 1 else 0), c.w2 + (if 0 < e.kind ∧ e.loc = 2 then 1 else 0)⟩
  else c
noncomputable def cntOf (l : List Ev) : Cnt := l.foldl cntStep ⟨0, 0, 0, 0, 0⟩
theorem cntOf_snoc (l : List Ev) (e : Ev) : cntOf (l ++ [e]) = cntStep (cntOf l) e := by simp [cntOf]
noncomputable def okAll (v : Bool) (l : List Ev) : Bool := v && l.all (fun e => dec (OkOp e))
theorem okAll_snoc (v : Bool) (l : List Ev) (e : Ev) : okAll v (l ++ [e]) = (okAll v l && dec (OkOp e)) := by simp [okAll, Bool.and_assoc]
theorem cnt_le : ∀ (l : List Ev) (c : Cnt), (l.foldl cntStep c).a ≤ c.a + l.length ∧ (l.foldl cntStep c).f ≤ c.f + 2 * l.length ∧ (l.foldl cntStep c).w0 ≤ c.w0 + l.length ∧ (l.foldl cntStep c).w1 ≤ c.w1 + l.length ∧ (l.foldl cntStep c).w2 ≤ c.w2 + l.length
  | [], c => by simp
  | e :: t, c => by
    have ih := cnt_le t (cntStep c e)
    have hs : (cntStep c e).a ≤ c.a + 1 ∧ (cntStep c e).f ≤ c.f + 2 ∧ (cntStep c e).w0 ≤ c.w0 + 1 ∧ (cntStep c e).w1 ≤ c.w1 + 1 ∧ (cntStep c e).w2 ≤ c.w2 + 1 := by
      unfold cntStep
      split
      · simp
      · split
        · simp only []
          refine ⟨Nat.le_refl _, ?_, ?_, ?_, ?_⟩
          all_goals split <;> omega
        · simp
    simp only [List.foldl_cons, List.length_cons]
    omega
/-- What Check grants. -/
structure Valid (ps : List (List Ev)) : Prop where
  n : ps.length ≤ 3
  p : 0 < ps.length
  o : ∀ e ∈ ps.flatten, OkOp e
  a : (cntOf ps.flatten).a ≤ 6
  f : (cntOf ps.flatten).f ≤ 8
  w0 : (cntOf ps.flatten).w0 ≤ 4
  w1 : (cntOf ps.flatten).w1 ≤ 4
  w2 : (cntOf ps.flatten).w2 ≤ 4
def CheckT (w : World) (ps : List (List Ev)) (e : Ending) (w' : World) : Prop := ∃ c : Int, e = .returned (.int .i64 c) ∧ (c = 0 → Valid ps) ∧ Below w.heap.size w w'
def CkRel (w0 : World) (gw : Nat) (l : List Ev) (v : Bool) (a f vv : Value) (wr : World) : Prop :=
  a = .int .i64 ((cntOf l).a : Int) ∧ f = .int .i64 ((cntOf l).f : Int) ∧ vv = .bool (okAll v l) ∧ Blk wr gw 3 (ints [((cntOf l).w0 : Int), ((cntOf l).w1 : Int), ((cntOf l).w2 : Int)]) ∧ Below w0.heap.size w0 wr
theorem ck_next {w0 wr : World} {gw : Nat} {l : List Ev} {G : Ev} {v bv b' : Bool} {a f vv : Value} {C D : Cnt} (hC : cntOf l = C) (hS : cntStep C G = D) (hv : okAll v l = bv) (hb : (bv && dec (OkOp G)) = b') (ha : a = .int .i64 (D.a : Int)) (hf : f = .int .i64 (D.f : Int)) (hvv : vv = .bool b')
    (hblk : Blk wr gw 3 (ints [(D.w0 : Int), (D.w1 : Int), (D.w2 : Int)])) (hbel : Below w0.heap.size w0 wr) : CkRel w0 gw (l ++ [G]) v a f vv wr := by
  unfold CkRel
  rw [cntOf_snoc, hC, hS, okAll_snoc, hv, hb]
  exact ⟨ha, hf, hvv, hblk, hbel⟩
set_option maxHeartbeats 16000000 in
theorem check3_any {w : World} {tv : Value} {ps : List (List Ev)} (hr : RdP w tv ps) (hs : ps.length + sizeP ps ps.length < 60) :
    Calls Tryz.prog 12 #[.agg #[tv]] w (CheckT w ps) := by
  obtain ⟨A, c, rfl, hc1, hc2⟩ := hr.shape
  obtain ⟨w0, hw0⟩ : ∃ w0, w.alloc (.cells #[.slice A ps.length c] 24) = w0 := ⟨_, rfl⟩
  have b0 : Below w.heap.size w w0 := by rw [← hw0]; exact (Below.refl _ w).alloc (Nat.le_refl _) _
  have X24 := Lib.hid (show Blk w0 w.heap.size 24 [.slice A ps.length c] by rw [← hw0]; exact Blk.new w 24 [.slice A ps.length c])
  have R0 := Lib.hid (hr.below b0)
  have HW0 := Lib.hid hw0
  have B0 := Lib.hid b0
  have hszA : sizeP ps ps.length = ps.flatten.length := by unfold sizeP; rw [List.take_length]
  have hsz : Hid (∀ k i, k < ps.length → i ≤ (ps.getD k []).length → ((ps.take k).flatten ++ (ps.getD k []).take i).length < 60) := Lib.hid (fun k i hk hi => by
    have h1 : sizeP ps (k + 1) ≤ sizeP ps ps.length := by
      have h2 : ps.take (k + 1) ++ ps.drop (k + 1) = ps := List.take_append_drop _ _
      have h3 : ps.flatten.length = (ps.take (k + 1)).flatten.length + (ps.drop (k + 1)).flatten.length := by
        conv => lhs; rw [← h2]
        rw [List.flatten_append, List.length_append]
      rw [hszA, h3]; exact Nat.le_add_right _ _
    rw [sizeP_succ ps hk] at h1
    have h4 : sizeP ps k = (ps.take k).flatten.length := rfl
    rw [List.length_append, List.length_take]
    omega)
  have hszF : Hid (ps.flatten.length < 60) := Lib.hid (by omega)
  have mk := run_make_rows (P := Tryz.prog) 28 3 (.int .i64 0) 1 8 Tryz.underlying28 info3 3 (by omega) (by omega)
  rw [madeCells_one (.int .i64 0) rfl] at mk
  have mk3 : ∀ W : World, (Instr.makeSlice 28 (.int .i64 3) (.int .i64 3)).run Tryz.prog W = .ok (.slice (some ⟨W.heap.size, 0, none⟩) 3 3) (W.alloc (.cells (Array.replicate 3 (.int .i64 0)) 3)) := mk
  clear mk
  have b01 : Below w0.heap.size w0 (w0.alloc (.cells (Array.replicate 3 (.int .i64 0)) 3)) := (Below.refl _ w0).alloc (Nat.le_refl _) _
  have XW := Lib.hid (show Blk (w0.alloc (.cells (Array.replicate 3 (.int .i64 0)) 3)) w0.heap.size 3 (ints [0, 0, 0]) from blkrep w0 3 (.int .i64 0) 3)
  have k0 := (X24.out.below b01).cell 0 rfl
  have B01 := Lib.hid b01
  clear hr hw0 b0 b01 hs hszA
  obtain ⟨v0, hv0⟩ : ∃ v0, decide (0 < ps.length) = v0 := ⟨_, rfl⟩
  have HV0 := Lib.hid hv0
  clear hv0
  obtain ⟨gw, hgw⟩ : ∃ gw, w0.heap.size = gw := ⟨_, rfl⟩
  have HGW := Lib.hid hgw
  rw [hgw] at XW
  clear hgw
  go_enter Tryz.func12, Tryz.ntmps12
  go_upto_region 1 with fail
  rw [HW0.out]
  go_wp2
  rw [HGW.out]
  clear k0
  have hnn : Hid (decide ((ps.length : Int) > 0) = v0) := Lib.hid (by rw [← HV0.out]; congr 1; exact propext (by omega))
  go_loopw [3, 4, 6, 7] (fun a f vv t wr => ∃ k : Nat, k ≤ ps.length ∧ t = .int .i64 k ∧ CkRel w0 gw ((ps.take k).flatten) v0 a f vv wr) (fun _ _ _ t _ => ps.length - (intOf t).toNat)
  case atStart => exact ⟨0, Nat.zero_le _, rfl, rfl, rfl, by first | (rw [hnn.out]; simp [okAll]; done) | (rw [← HV0.out]; simp [okAll]), XW.out, B01.out⟩
  case round =>
    obtain ⟨k, hk, rfl, hck⟩ := hrel
    have hck0 := hck
    obtain ⟨rfl, rfl, rfl, hbk, hbel⟩ := hck
    have k0 := (X24.out.below hbel).cell 0 rfl
    by_cases hlt : k < ps.length
    · have hlt' : (k : Int) < (ps.length : Int) := by omega
      have i1 : (0 : Int) ≤ (k : Int) := by omega
      have HCK := Lib.hid hck0
      have hAt : Hid (∀ W, Below w0.heap.size w0 W → ∃ b off A1 c1, A = some ⟨b, off, none⟩ ∧ W.cell? ⟨b, off + k, none⟩ = some (.slice A1 (ps.getD k []).length c1) ∧ Rd W (.slice A1 (ps.getD k []).length c1) (ps.getD k []).length 5 (ops (ps.getD k [])) ∧ (ps.getD k []).length ≤ c1 ∧ c1 ≤ 9223372036854775807) := Lib.hid (fun W hW => by
        obtain ⟨b, off, A1, c1, hA, _, h3, h4, h5, h6⟩ := RdP.at_ (R0.out.below hW) rfl hlt
        exact ⟨b, off, A1, c1, hA, h3, h4, h5, h6⟩)
      have hsz2 := Lib.hid (fun i => hsz.out k i hlt)
      have hFL : Hid ((ps.take (k + 1)).flatten = (ps.take k).flatten ++ (ps.getD k []).take (ps.getD k []).length) := Lib.hid (by
        rw [take_snoc hlt, List.take_length]
        simp only [List.flatten_append, List.flatten_cons, List.flatten_nil, List.append_nil, List.getD, List.getElem?_eq_getElem hlt, Option.getD_some])
      obtain ⟨L, hL⟩ : ∃ L, ps.getD k [] = L := ⟨_, rfl⟩
      obtain ⟨F, hF⟩ : ∃ F, (ps.take k).flatten = F := ⟨_, rfl⟩
      rw [hF] at HCK
      have hF0 := hF
      rw [hL, hF] at hFL
      rw [hL] at hAt
      rw [hL, hF] at hsz2
      clear hck0 hbk hbel hL hF
      obtain ⟨b, off, A1, c1, rfl, hc0, _, hc3, hc4⟩ := hAt.out wr HCK.out.2.2.2.2
      go_wp2
      clear k0 hc0
      go_loopw [3, 4, 6, 8] (fun a f vv j wr => ∃ i : Nat, i ≤ L.length ∧ j = .int .i64 i ∧ CkRel w0 gw (F ++ L.take i) v0 a f vv wr) (fun _ _ _ j _ => L.length - (intOf j).toNat)
      case atStart => exact ⟨0, Nat.zero_le _, rfl, by rw [List.take_zero, List.append_nil]; rw [hF0]; exact HCK.out⟩
      case round =>
        obtain ⟨i, hi, rfl, hck⟩ := hrel
        have HCI := Lib.hid hck
        obtain ⟨rfl, rfl, rfl, hbk, hbel⟩ := hck
        have k0 := (X24.out.below hbel).cell 0 rfl
        obtain ⟨b', off', A2, c2, hA, hc0, hro, _, _⟩ := hAt.out wr hbel
        injection hA with hA
        injection hA with hA1 hA2
        subst hA1 hA2
        by_cases hlti : i < L.length
        · have hlti' : (i : Int) < (L.length : Int) := by omega
          have i2 : (0 : Int) ≤ (i : Int) := by omega
          obtain ⟨bo, oo, rfl, hbo, x0, x1, x2, x3, x4⟩ := RdO.at_ hro rfl hlti
          have hLN : Hid (F ++ L.take (i + 1) = (F ++ L.take i) ++ [ev L (i : Int)]) := Lib.hid (by rw [take_snoc hlti, ev_at L hlti, List.append_assoc])
          have hlen := hsz2.out i (by omega)
          have hcl := cnt_le (F ++ L.take i) ⟨0, 0, 0, 0, 0⟩
          obtain ⟨G, hG⟩ : ∃ G, ev L (i : Int) = G := ⟨_, rfl⟩
          rw [hG] at x0 x1 x2 x3 x4 hLN
          obtain ⟨Q, hQ⟩ : ∃ Q, F ++ L.take i = Q := ⟨_, rfl⟩
          rw [hQ] at hLN hlen hbk hcl ⊢
          obtain ⟨C, hC⟩ : ∃ C, cntOf Q = C := ⟨_, rfl⟩
          rw [show Q.foldl cntStep ⟨0, 0, 0, 0, 0⟩ = C from hC] at hcl
          rw [hC] at hbk ⊢
          obtain ⟨ca, cf, q0, q1, q2⟩ := C
          simp only [] at hcl hbk ⊢
          obtain ⟨hl1, hl2, hl3, hl4, hl5⟩ := hcl
          obtain ⟨bv, hbv⟩ : ∃ bv, okAll v0 Q = bv := ⟨_, rfl⟩
          rw [hbv]
          have HC := Lib.hid hC
          have HBV := Lib.hid hbv
          obtain ⟨wa, hwa⟩ : ∃ wa, wr.alloc (.cells #[.int .i64 G.kind, .int .i64 G.loc, .int .i64 G.v, .int .i64 G.w, .int .i64 G.ord] 47) = wa := ⟨_, rfl⟩
          have ba : Below wr.heap.size wr wa := by rw [← hwa]; exact (Below.refl _ wr).alloc (Nat.le_refl _) _
          have XE := (show Blk wa wr.heap.size 47 [.int .i64 G.kind, .int .i64 G.loc, .int .i64 G.v, .int .i64 G.w, .int .i64 G.ord] by rw [← hwa]; exact Blk.new wr 47 _)
          have CW : Hid (∀ W, Below wa.heap.size wa W → W.cell? ⟨wr.heap.size, 0, none⟩ = some (.int .i64 G.kind) ∧ W.cell? ⟨wr.heap.size, 1, none⟩ = some (.int .i64 G.loc) ∧ W.cell? ⟨wr.heap.size, 2, none⟩ = some (.int .i64 G.v) ∧ W.cell? ⟨wr.heap.size, 3, none⟩ = some (.int .i64 G.w) ∧ W.cell? ⟨wr.heap.size, 4, none⟩ = some (.int .i64 G.ord)) := Lib.hid (fun W h =>
            ⟨(XE.below h).cell 0 rfl, (XE.below h).cell 1 rfl, (XE.below h).cell 2 rfl, (XE.below h).cell 3 rfl, (XE.below h).cell 4 rfl⟩)
          have CB : Hid (∀ W, Below wa.heap.size wa W → Blk W gw 3 (ints [(q0 : Int), (q1 : Int), (q2 : Int)])) := Lib.hid (fun W h => (hbk.below ba).below h)
          have HBA := Lib.hid (hbel.trans (ba.mono hbel.size))
          have HWA := Lib.hid hwa
          obtain ⟨e0, e1, e2, e3, e4⟩ := CW.out wa (Below.refl _ _)
          have hgwlt : w0.heap.size ≤ gw := by rw [HGW.out]; exact Nat.le_refl _
          clear hC hbv hQ hG hbk hbel ba XE hwa

          go_upto_region 12 with fail
          rw [HWA.out]
          go_cut [6] from 41 to 45 (fun v wx => v = .bool (bv && dec (OkOp G)) ∧ Below wa.heap.size wa wx)
          case first =>
            cases bv with
            | false =>
              go_wp2_with fail
              go_meet
              exact ⟨rfl, Below.refl _ _⟩
            | true =>
              go_wp2_with (go_at_call 26; refine (isOp_any (e := G)).mono ?_; rintro e7 w7 ⟨rfl, hb7⟩)
              go_meet
              exact ⟨rfl, hb7⟩
          case rest =>
            obtain ⟨rfl, hwc⟩ := hcut
            clear e0 e1 e2 e3 e4
            obtain ⟨b2, hb2⟩ : ∃ b2, (bv && dec (OkOp G)) = b2 := ⟨_, rfl⟩
            rw [hb2]
            have hb' := Lib.hid hb2
            have hWB := Lib.hid hwc
            obtain ⟨e0, e1, e2, e3, e4⟩ := CW.out wc hWB.out
            clear hb2 hwc
            by_cases hk5 : G.kind = 5
            · have hk5b : (G.kind == 5) = true := beq_iff_eq.2 hk5
              have HD : Hid (cntStep ⟨ca, cf, q0, q1, q2⟩ G = ⟨ca, cf + 1, q0, q1, q2⟩) := Lib.hid (by simp [cntStep, hk5])
              have HAC := Lib.hid (dec_false (P := Accessed G) (fun h => by have := h.2; omega))
              clear hk5
              go_wp2_with (go_at_call 27; refine (isAccess_any (e := G)).mono ?_; rintro e5 w5 ⟨rfl, hb5⟩; rw [HAC.out]; have hb25 := hWB.out.trans (hb5.mono hWB.out.size); obtain ⟨e0, e1, e2, e3, e4⟩ := CW.out w5 hb25; have hB5 := CB.out w5 hb25)
              go_roundw
              case measure => simp [intOf]; all_goals omega
              case rel => exact ⟨i + 1, by omega, by go_num, by { rw [hLN.out]; exact ck_next HC.out HD.out HBV.out hb'.out (by go_num) (by go_num) rfl hB5 (HBA.out.trans (hb25.mono HBA.out.size)) }⟩
            · by_cases hac : Accessed G
              · have hka : 0 ≤ G.kind ∧ G.kind < 5 := hac
                have HAC := Lib.hid (dec_true hac)
                go_upto_if 58 with (go_at_call 27; refine (isAccess_any (e := G)).mono ?_; rintro e5 w5 ⟨rfl, hb5⟩; rw [HAC.out]; have hb25 := hWB.out.trans (hb5.mono hWB.out.size); obtain ⟨e0, e1, e2, e3, e4⟩ := CW.out w5 hb25; have hB5 := CB.out w5 hb25)
                go_cut [4] from 59 to 60 (fun f wx => f = .int .i64 ((cf + (if G.ord = 4 then 2 else 0) : Nat) : Int) ∧ wx = w5)
                case first =>
                  by_cases ho : G.ord = 4
                  · have hob : (G.ord == 4) = true := beq_iff_eq.2 ho
                    go_wp2_with fail
                    go_meet
                    exact ⟨by rw [if_pos ho]; go_num, rfl⟩
                  · have hob : (G.ord == 4) = false := beq_eq_false_iff_ne.2 ho
                    go_wp2_with fail
                    go_meet
                    exact ⟨by rw [if_neg ho]; rfl, rfl⟩
                case rest =>
                  obtain ⟨rfl, rfl⟩ := hcut
                  obtain ⟨f2, hf2⟩ : ∃ f2, (cf + (if G.ord = 4 then 2 else 0) : Nat) = f2 := ⟨_, rfl⟩
                  rw [hf2]
                  by_cases hk0 : G.kind > 0
                  · rcases (by omega : ¬ G.loc ≥ 0 ∨ (G.loc ≥ 0 ∧ ¬ G.loc < 3) ∨ G.loc = 0 ∨ G.loc = 1 ∨ G.loc = 2) with hl | ⟨hl, hl2⟩ | hl | hl | hl
                    · have HD : Hid (cntStep ⟨ca, cf, q0, q1, q2⟩ G = ⟨ca + 1, f2, q0 + 0, q1 + 0, q2 + 0⟩) := Lib.hid (by
                        have z0 : (if 0 < G.kind ∧ G.loc = 0 then 1 else 0) = 0 := by split <;> omega
                        have z1 : (if 0 < G.kind ∧ G.loc = 1 then 1 else 0) = 0 := by split <;> omega
                        have z2 : (if 0 < G.kind ∧ G.loc = 2 then 1 else 0) = 0 := by split <;> omega
                        simp only [cntStep, if_neg hk5, HAC.out, if_true, hf2, z0, z1, z2])
                      have HB5 := Lib.hid hB5
                      clear hac hka hf2 hB5
                      go_wp2
                      go_roundw
                      case measure => simp [intOf]; all_goals omega
                      case rel => exact ⟨i + 1, by omega, by go_num, by { rw [hLN.out]; exact ck_next HC.out HD.out HBV.out hb'.out (by go_num) (by go_num) rfl HB5.out (HBA.out.trans (hb25.mono HBA.out.size)) }⟩
                    · have HD : Hid (cntStep ⟨ca, cf, q0, q1, q2⟩ G = ⟨ca + 1, f2, q0 + 0, q1 + 0, q2 + 0⟩) := Lib.hid (by
                        have z0 : (if 0 < G.kind ∧ G.loc = 0 then 1 else 0) = 0 := by split <;> omega
                        have z1 : (if 0 < G.kind ∧ G.loc = 1 then 1 else 0) = 0 := by split <;> omega
                        have z2 : (if 0 < G.kind ∧ G.loc = 2 then 1 else 0) = 0 := by split <;> omega
                        simp only [cntStep, if_neg hk5, HAC.out, if_true, hf2, z0, z1, z2])
                      have HB5 := Lib.hid hB5
                      clear hac hka hf2 hB5
                      go_wp2
                      go_roundw
                      case measure => simp [intOf]; all_goals omega
                      case rel => exact ⟨i + 1, by omega, by go_num, by { rw [hLN.out]; exact ck_next HC.out HD.out HBV.out hb'.out (by go_num) (by go_num) rfl HB5.out (HBA.out.trans (hb25.mono HBA.out.size)) }⟩
                    · have HD : Hid (cntStep ⟨ca, cf, q0, q1, q2⟩ G = ⟨ca + 1, f2, q0 + 1, q1 + 0, q2 + 0⟩) := Lib.hid (by
                        have z0 : (if 0 < G.kind ∧ G.loc = 0 then 1 else 0) = 1 := by split <;> omega
                        have z1 : (if 0 < G.kind ∧ G.loc = 1 then 1 else 0) = 0 := by split <;> omega
                        have z2 : (if 0 < G.kind ∧ G.loc = 2 then 1 else 0) = 0 := by split <;> omega
                        simp only [cntStep, if_neg hk5, HAC.out, if_true, hf2, z0, z1, z2])
                      have HB5 := Lib.hid hB5
                      rw [hl] at e1
                      clear hac hka hf2
                      go_upto_region 20 with fail
                      have fz := HB5.out.free 0
                      have yc := HB5.out.cell 0 rfl
                      go_region
                      go_wp2
                      go_roundw
                      case measure => simp [intOf]; all_goals omega
                      case rel => exact ⟨i + 1, by omega, by go_num, by { rw [hLN.out]; exact ck_next HC.out HD.out HBV.out hb'.out (by go_num) (by go_num) rfl (by { have := (HB5.out.set 0 (.int .i64 ((q0 : Int) + 1))).below ((Below.refl _ _).drew); simpa [ints] using this }) (((HBA.out.trans (hb25.mono HBA.out.size)).setCell (p := ⟨gw, 0, none⟩) hgwlt _).drewN _) }⟩
                    · have HD : Hid (cntStep ⟨ca, cf, q0, q1, q2⟩ G = ⟨ca + 1, f2, q0 + 0, q1 + 1, q2 + 0⟩) := Lib.hid (by
                        have z0 : (if 0 < G.kind ∧ G.loc = 0 then 1 else 0) = 0 := by split <;> omega
                        have z1 : (if 0 < G.kind ∧ G.loc = 1 then 1 else 0) = 1 := by split <;> omega
                        have z2 : (if 0 < G.kind ∧ G.loc = 2 then 1 else 0) = 0 := by split <;> omega
                        simp only [cntStep, if_neg hk5, HAC.out, if_true, hf2, z0, z1, z2])
                      have HB5 := Lib.hid hB5
                      rw [hl] at e1
                      clear hac hka hf2
                      go_upto_region 20 with fail
                      have fz := HB5.out.free 1
                      have yc := HB5.out.cell 1 rfl
                      go_region
                      go_wp2
                      go_roundw
                      case measure => simp [intOf]; all_goals omega
                      case rel => exact ⟨i + 1, by omega, by go_num, by { rw [hLN.out]; exact ck_next HC.out HD.out HBV.out hb'.out (by go_num) (by go_num) rfl (by { have := (HB5.out.set 1 (.int .i64 ((q1 : Int) + 1))).below ((Below.refl _ _).drew); simpa [ints] using this }) (((HBA.out.trans (hb25.mono HBA.out.size)).setCell (p := ⟨gw, 1, none⟩) hgwlt _).drewN _) }⟩
                    · have HD : Hid (cntStep ⟨ca, cf, q0, q1, q2⟩ G = ⟨ca + 1, f2, q0 + 0, q1 + 0, q2 + 1⟩) := Lib.hid (by
                        have z0 : (if 0 < G.kind ∧ G.loc = 0 then 1 else 0) = 0 := by split <;> omega
                        have z1 : (if 0 < G.kind ∧ G.loc = 1 then 1 else 0) = 0 := by split <;> omega
                        have z2 : (if 0 < G.kind ∧ G.loc = 2 then 1 else 0) = 1 := by split <;> omega
                        simp only [cntStep, if_neg hk5, HAC.out, if_true, hf2, z0, z1, z2])
                      have HB5 := Lib.hid hB5
                      rw [hl] at e1
                      clear hac hka hf2
                      go_upto_region 20 with fail
                      have fz := HB5.out.free 2
                      have yc := HB5.out.cell 2 rfl
                      go_region
                      go_wp2
                      go_roundw
                      case measure => simp [intOf]; all_goals omega
                      case rel => exact ⟨i + 1, by omega, by go_num, by { rw [hLN.out]; exact ck_next HC.out HD.out HBV.out hb'.out (by go_num) (by go_num) rfl (by { have := (HB5.out.set 2 (.int .i64 ((q2 : Int) + 1))).below ((Below.refl _ _).drew); simpa [ints] using this }) (((HBA.out.trans (hb25.mono HBA.out.size)).setCell (p := ⟨gw, 2, none⟩) hgwlt _).drewN _) }⟩
                  · have HD : Hid (cntStep ⟨ca, cf, q0, q1, q2⟩ G = ⟨ca + 1, f2, q0 + 0, q1 + 0, q2 + 0⟩) := Lib.hid (by
                      have z0 : (if 0 < G.kind ∧ G.loc = 0 then 1 else 0) = 0 := by split <;> omega
                      have z1 : (if 0 < G.kind ∧ G.loc = 1 then 1 else 0) = 0 := by split <;> omega
                      have z2 : (if 0 < G.kind ∧ G.loc = 2 then 1 else 0) = 0 := by split <;> omega
                      simp only [cntStep, if_neg hk5, HAC.out, if_true, hf2, z0, z1, z2])
                    have HB5 := Lib.hid hB5
                    clear hac hka hf2 hB5
                    go_wp2
                    go_roundw
                    case measure => simp [intOf]; all_goals omega
                    case rel => exact ⟨i + 1, by omega, by go_num, by { rw [hLN.out]; exact ck_next HC.out HD.out HBV.out hb'.out (by go_num) (by go_num) rfl HB5.out (HBA.out.trans (hb25.mono HBA.out.size)) }⟩
              · have HAC := Lib.hid (dec_false hac)
                have HD : Hid (cntStep ⟨ca, cf, q0, q1, q2⟩ G = ⟨ca, cf, q0, q1, q2⟩) := Lib.hid (by simp only [cntStep, if_neg hk5, HAC.out, Bool.false_eq_true, if_false])
                clear hac
                go_wp2_with (go_at_call 27; refine (isAccess_any (e := G)).mono ?_; rintro e5 w5 ⟨rfl, hb5⟩; rw [HAC.out]; have hb25 := hWB.out.trans (hb5.mono hWB.out.size); obtain ⟨e0, e1, e2, e3, e4⟩ := CW.out w5 hb25; have hB5 := CB.out w5 hb25)
                go_roundw
                case measure => simp [intOf]; all_goals omega
                case rel => exact ⟨i + 1, by omega, by go_num, by { rw [hLN.out]; exact ck_next HC.out HD.out HBV.out hb'.out (by go_num) (by go_num) rfl hB5 (HBA.out.trans (hb25.mono HBA.out.size)) }⟩
        · have hin : i = L.length := by omega
          clear hbk hlti
          go_wp2
          go_roundw
          case measure => simp [intOf]; all_goals omega
          case rel => exact ⟨k + 1, by omega, by go_num, by { rw [hFL.out, ← hin]; exact HCI.out }⟩
    · have hin : k = ps.length := by omega
      subst hin
      have hfl : (ps.take ps.length).flatten = ps.flatten := by rw [List.take_length]
      rw [hfl] at hbk hck0 ⊢
      have hcl := cnt_le ps.flatten ⟨0, 0, 0, 0, 0⟩
      have hlen := hszF.out
      obtain ⟨C, hC⟩ : ∃ C, cntOf ps.flatten = C := ⟨_, rfl⟩
      rw [show ps.flatten.foldl cntStep ⟨0, 0, 0, 0, 0⟩ = C from hC] at hcl
      rw [hC] at hbk ⊢
      obtain ⟨ca, cf, q0, q1, q2⟩ := C
      simp only [] at hcl hbk ⊢
      obtain ⟨hl1, hl2, hl3, hl4, hl5⟩ := hcl
      obtain ⟨bv, hbv⟩ : ∃ bv, okAll v0 ps.flatten = bv := ⟨_, rfl⟩
      rw [hbv]
      have HC := Lib.hid hC
      have HBV := Lib.hid hbv
      have HB := Lib.hid hbel
      have HBK := Lib.hid hbk
      clear hC hbv hbel hbk hck0 hfl hlt
      by_cases n3 : (ps.length : Int) > 3
      · go_wp2
        go_ret
        exact ⟨2, rfl, fun h => (by cases h), B0.out.trans (HB.out.mono B0.out.size)⟩
      · by_cases n6 : (ca : Int) > 6
        · go_wp2
          go_ret
          exact ⟨2, rfl, fun h => (by cases h), B0.out.trans (HB.out.mono B0.out.size)⟩
        · by_cases n8 : (cf : Int) > 8
          · go_wp2
            go_ret
            exact ⟨2, rfl, fun h => (by cases h), B0.out.trans (HB.out.mono B0.out.size)⟩
          · go_wp2
            go_loopw [10] (fun j wx => ∃ j' : Nat, j' ≤ 3 ∧ j = .int .i64 j' ∧ Hid (∀ q, q < j' → [q0, q1, q2].getD q 0 ≤ 4) ∧ wx = wr) (fun j _ => 3 - (intOf j).toNat)
            case atStart => exact ⟨0, Nat.zero_le _, rfl, Lib.hid (fun q hq => absurd hq (by omega)), rfl⟩
            case round =>
              obtain ⟨j, hj, rfl, hq, rfl⟩ := hrel
              by_cases hlj : j < 3
              · have hlj' : (j : Int) < 3 := by omega
                have j0 : (0 : Int) ≤ (j : Int) := by omega
                obtain ⟨y, hy⟩ : ∃ y, [q0, q1, q2].getD j 0 = y := ⟨_, rfl⟩
                have yc : wr.cell? ⟨gw, j, none⟩ = some (.int .i64 (y : Int)) := by
                  refine HBK.out.cell j ?_
                  rcases (by omega : j = 0 ∨ j = 1 ∨ j = 2) with rfl | rfl | rfl <;> (rw [← hy]; rfl)
                have HY := Lib.hid hy
                clear hy
                by_cases hy4 : (y : Int) > 4
                · go_wp2
                  go_ret
                  exact ⟨2, rfl, fun h => (by cases h), B0.out.trans (HB.out.mono B0.out.size)⟩
                · have hq2 := Lib.hid (fun q (h : q < j + 1) => (if hqj : q < j then hq.out q hqj else by have : q = j := by omega
                                                                                                          subst this; rw [HY.out]; omega : [q0, q1, q2].getD q 0 ≤ 4))
                  go_wp2
                  go_roundw
                  case measure => simp [intOf]; all_goals omega
                  case rel => exact ⟨j + 1, by omega, by go_num, hq2, by first | rfl | trivial⟩
              · have hj3 : j = 3 := by omega
                have HQ := Lib.hid hq.out
                clear hq
                cases bv with
                | false =>
                  go_wp2
                  go_ret
                  exact ⟨1, rfl, fun h => (by cases h), B0.out.trans (HB.out.mono B0.out.size)⟩
                | true =>
                  go_wp2
                  go_ret
                  have hv := HBV.out
                  unfold okAll at hv
                  rw [Bool.and_eq_true, List.all_eq_true, ← HV0.out] at hv
                  have hc := HC.out
                  refine ⟨0, rfl, fun _ => ⟨by omega, of_decide_eq_true hv.1, fun e he => of_dec (hv.2 e he), by rw [hc]; show ca ≤ 6; omega, by rw [hc]; show cf ≤ 8; omega, by rw [hc]; exact HQ.out 0 (by omega), by rw [hc]; exact HQ.out 1 (by omega), by rw [hc]; exact HQ.out 2 (by omega)⟩, B0.out.trans (HB.out.mono B0.out.size)⟩

end Go.Proofs.YtkddckfgdiemkaaGreat
