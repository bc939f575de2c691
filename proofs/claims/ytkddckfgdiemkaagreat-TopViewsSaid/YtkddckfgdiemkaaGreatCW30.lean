/-
  The walks of limits and Check of litmus, of valid programs.
-/
import Derived.Test.YtkddckfgdiemkaaGreatCW29
import Derived.Test.YtkddckfgdiemkaaGreatCW28
set_option linter.unusedVariables false
set_option linter.unusedSimpArgs false
namespace Go.Proofs.YtkddckfgdiemkaaGreat
open Go.RowKit Go.Shelf Mem
set_option maxRecDepth 100000
attribute [local go_sem] Oper.semAt_some

theorem cnt_all : ∀ (l : List Ev), (∀ e ∈ l, OkOp e) → l.length ≤ (cntOf l).a + (cntOf l).f := fun l => by
  have key : ∀ (l : List Ev) (c : Cnt), (∀ e ∈ l, OkOp e) → c.a + c.f + l.length ≤ (l.foldl cntStep c).a + (l.foldl cntStep c).f := fun l => by
    induction l with
    | nil => intro c _; simp
    | cons e t ih =>
      intro c h
      have h1 := ih (cntStep c e) (fun x hx => h x (List.mem_cons_of_mem _ hx))
      have h2 := (h e (by simp)).m.hk
      have h3 : c.a + c.f + 1 ≤ (cntStep c e).a + (cntStep c e).f := by
        unfold cntStep
        split
        · show c.a + c.f + 1 ≤ c.a + (c.f + 1); omega
        · rename_i h5
          rw [if_pos (dec_true (by unfold Accessed; omega))]
          show c.a + c.f + 1 ≤ (c.a + 1) + (c.f + _); omega
      simp only [List.foldl_cons, List.length_cons]
      omega
  intro h
  have := key l ⟨0, 0, 0, 0, 0⟩ h
  unfold cntOf
  omega
def LmRel (w0 : World) (gw : Nat) (l : List Ev) (a f : Value) (wr : World) : Prop :=
  a = .int .i64 ((cntOf l).a : Int) ∧ f = .int .i64 ((cntOf l).f : Int) ∧ Blk wr gw 59 (ints [((cntOf l).w0 : Int), ((cntOf l).w1 : Int), ((cntOf l).w2 : Int)]) ∧ Below w0.heap.size w0 wr
theorem lm_next {w0 wr : World} {gw : Nat} {l : List Ev} {G : Ev} {a f : Value} {C D : Cnt} (hC : cntOf l = C) (hS : cntStep C G = D) (ha : a = .int .i64 (D.a : Int)) (hf : f = .int .i64 (D.f : Int))
    (hblk : Blk wr gw 59 (ints [(D.w0 : Int), (D.w1 : Int), (D.w2 : Int)])) (hbel : Below w0.heap.size w0 wr) : LmRel w0 gw (l ++ [G]) a f wr := by
  unfold LmRel
  rw [cntOf_snoc, hC, hS]
  exact ⟨ha, hf, hblk, hbel⟩
set_option maxHeartbeats 16000000 in
theorem limits_any {w : World} {tv : Value} {ps : List (List Ev)} (hr : RdP w tv ps) (hv : Valid ps) :
    Calls Tryz.prog 85 #[.agg #[tv]] w (Tells w true) := by
  obtain ⟨A, c, rfl, hc1, hc2⟩ := hr.shape
  obtain ⟨w0, hw0⟩ : ∃ w0, w.alloc (.cells #[.slice A ps.length c] 24) = w0 := ⟨_, rfl⟩
  have b0 : Below w.heap.size w w0 := by rw [← hw0]; exact (Below.refl _ w).alloc (Nat.le_refl _) _
  have X24 := Lib.hid (show Blk w0 w.heap.size 24 [.slice A ps.length c] by rw [← hw0]; exact Blk.new w 24 [.slice A ps.length c])
  have R0 := Lib.hid (hr.below b0)
  have k0 := X24.out.cell 0 rfl
  have HW0 := Lib.hid hw0
  have B0 := Lib.hid b0
  have n3 : ¬ (ps.length : Int) > 3 := by have := hv.n; omega
  have HV := Lib.hid hv
  clear hr hw0 b0 hv
  have C24 := Lib.hid (fun W (h : Below w0.heap.size w0 W) => ((X24.out.below h).cell 0 rfl : W.cell? ⟨w.heap.size, 0, none⟩ = some (.slice A ps.length c)))
  have hsz : Hid (∀ k i, k < ps.length → i ≤ (ps.getD k []).length → ((ps.take k).flatten ++ (ps.getD k []).take i).length < 100) := Lib.hid (fun k i hk hi => by
    have h1 := (HV.out).a
    have h2 := (HV.out).f
    have h3 := cnt_all ps.flatten (HV.out).o
    have h4 := sizeP_le ps (show k + 1 ≤ ps.length by omega)
    rw [sizeP_succ ps hk] at h4
    have h5 : sizeP ps k = (ps.take k).flatten.length := rfl
    have h6 : sizeP ps ps.length = ps.flatten.length := by unfold sizeP; rw [List.take_length]
    rw [List.length_append, List.length_take]
    omega)
  have hOk : Hid (∀ k i, k < ps.length → i < (ps.getD k []).length → OkOp (ev (ps.getD k []) (i : Int))) := Lib.hid (fun k i hk hi => by
    refine (HV.out).o _ (List.mem_flatten.2 ⟨ps.getD k [], getD_mem hk _, ?_⟩)
    rw [ev_at _ hi]; exact List.getElem_mem hi)
  have b01 : Below w0.heap.size w0 (w0.alloc (.cells #[.int .i64 0, .int .i64 0, .int .i64 0] 59)) := (Below.refl _ w0).alloc (Nat.le_refl _) _
  have XW := Lib.hid (show Blk (w0.alloc (.cells #[.int .i64 0, .int .i64 0, .int .i64 0] 59)) w0.heap.size 59 (ints [0, 0, 0]) from Blk.new w0 59 _)
  have B01 := Lib.hid b01
  obtain ⟨gw, hgw⟩ : ∃ gw, w0.heap.size = gw := ⟨_, rfl⟩
  have HGW := Lib.hid hgw
  rw [hgw] at XW
  have k1 := C24.out _ b01
  clear hgw b01
  go_enter Tryz.func85, Tryz.ntmps85
  go_upto_region 1 with fail
  rw [HW0.out]
  go_wp2
  rw [HGW.out]
  clear k0 k1
  go_loopw [3, 4, 17] (fun a f t wr => ∃ k : Nat, k ≤ ps.length ∧ t = .int .i64 k ∧ LmRel w0 gw ((ps.take k).flatten) a f wr) (fun _ _ t _ => ps.length - (intOf t).toNat)
  case atStart => exact ⟨0, Nat.zero_le _, rfl, rfl, rfl, XW.out, B01.out⟩
  case round =>
    obtain ⟨k, hk, rfl, hck⟩ := hrel
    have hck0 := hck
    obtain ⟨rfl, rfl, hbk, hbel⟩ := hck
    have k0 := C24.out wr hbel
    by_cases hlt : k < ps.length
    · have hlt' : (k : Int) < (ps.length : Int) := by omega
      have i1 : (0 : Int) ≤ (k : Int) := by omega
      have HCK := Lib.hid hck0
      obtain ⟨b, off, A1, c1, rfl, hbb, hc0, hro0, hc3, hc4⟩ := RdP.at_ R0.out rfl hlt
      have hAt : Hid (∀ W, Below w0.heap.size w0 W → W.cell? ⟨b, off + k, none⟩ = some (.slice A1 (ps.getD k []).length c1) ∧ Rd W (.slice A1 (ps.getD k []).length c1) (ps.getD k []).length 5 (ops (ps.getD k []))) := Lib.hid (fun W hW =>
        ⟨(World.cell?_of_block (hW.block b hbb)).trans hc0, Rd.below hro0 hW⟩)
      clear hc0 hro0
      have hsz2 := Lib.hid (fun i => hsz.out k i hlt)
      have hOk2 := Lib.hid (fun i => hOk.out k i hlt)
      have hFL : Hid ((ps.take (k + 1)).flatten = (ps.take k).flatten ++ (ps.getD k []).take (ps.getD k []).length) := Lib.hid (by
        rw [take_snoc hlt, List.take_length]
        simp only [List.flatten_append, List.flatten_cons, List.flatten_nil, List.append_nil, List.getD, List.getElem?_eq_getElem hlt, Option.getD_some])
      obtain ⟨L, hL⟩ : ∃ L, ps.getD k [] = L := ⟨_, rfl⟩
      obtain ⟨F, hF⟩ : ∃ F, (ps.take k).flatten = F := ⟨_, rfl⟩
      rw [hF] at HCK
      have hF0 := hF
      rw [hL, hF] at hFL
      rw [hL] at hAt hOk2 hc3
      rw [hL, hF] at hsz2
      clear hck0 hbk hL hF
      obtain ⟨hc0, _⟩ := hAt.out wr hbel
      clear hbel
      go_wp2
      clear k0 hc0
      go_loopw [3, 4, 23] (fun a f j wr => ∃ i : Nat, i ≤ L.length ∧ j = .int .i64 i ∧ LmRel w0 gw (F ++ L.take i) a f wr) (fun _ _ j _ => L.length - (intOf j).toNat)
      case atStart => exact ⟨0, Nat.zero_le _, rfl, by rw [List.take_zero, List.append_nil]; rw [hF0]; exact HCK.out⟩
      case round =>
        obtain ⟨i, hi, rfl, hck⟩ := hrel
        have HCI := Lib.hid hck
        obtain ⟨rfl, rfl, hbk, hbel⟩ := hck
        have k0 := C24.out wr hbel
        obtain ⟨hc0, hro⟩ := hAt.out wr hbel
        by_cases hlti : i < L.length
        · have hlti' : (i : Int) < (L.length : Int) := by omega
          have i2 : (0 : Int) ≤ (i : Int) := by omega
          obtain ⟨bo, oo, rfl, hbo, x0, x1, x2, x3, x4⟩ := RdO.at_ hro rfl hlti
          have hLN : Hid (F ++ L.take (i + 1) = (F ++ L.take i) ++ [ev L (i : Int)]) := Lib.hid (by rw [take_snoc hlti, ev_at L hlti, List.append_assoc])
          have hlen := hsz2.out i (by omega)
          have hok := hOk2.out i hlti
          have hcl := cnt_le (F ++ L.take i) ⟨0, 0, 0, 0, 0⟩
          obtain ⟨G, hG⟩ : ∃ G, ev L (i : Int) = G := ⟨_, rfl⟩
          rw [hG] at x0 x1 x2 x3 x4 hLN hok
          obtain ⟨Q, hQ⟩ : ∃ Q, F ++ L.take i = Q := ⟨_, rfl⟩
          rw [hQ] at hLN hlen hbk hcl ⊢
          obtain ⟨C, hC⟩ : ∃ C, cntOf Q = C := ⟨_, rfl⟩
          rw [show Q.foldl cntStep ⟨0, 0, 0, 0, 0⟩ = C from hC] at hcl
          rw [hC] at hbk ⊢
          obtain ⟨ca, cf, q0, q1, q2⟩ := C
          simp only [] at hcl hbk ⊢
          obtain ⟨hl1, hl2, hl3, hl4, hl5⟩ := hcl
          have HC := Lib.hid hC
          obtain ⟨wa, hwa⟩ : ∃ wa, wr.alloc (.cells #[.int .i64 G.kind, .int .i64 G.loc, .int .i64 G.v, .int .i64 G.w, .int .i64 G.ord] 47) = wa := ⟨_, rfl⟩
          have ba : Below wr.heap.size wr wa := by rw [← hwa]; exact (Below.refl _ wr).alloc (Nat.le_refl _) _
          have XE := (show Blk wa wr.heap.size 47 [.int .i64 G.kind, .int .i64 G.loc, .int .i64 G.v, .int .i64 G.w, .int .i64 G.ord] by rw [← hwa]; exact Blk.new wr 47 _)
          have CW : Hid (∀ W, Below wa.heap.size wa W → W.cell? ⟨wr.heap.size, 0, none⟩ = some (.int .i64 G.kind) ∧ W.cell? ⟨wr.heap.size, 1, none⟩ = some (.int .i64 G.loc) ∧ W.cell? ⟨wr.heap.size, 2, none⟩ = some (.int .i64 G.v) ∧ W.cell? ⟨wr.heap.size, 3, none⟩ = some (.int .i64 G.w) ∧ W.cell? ⟨wr.heap.size, 4, none⟩ = some (.int .i64 G.ord)) := Lib.hid (fun W h =>
            ⟨(XE.below h).cell 0 rfl, (XE.below h).cell 1 rfl, (XE.below h).cell 2 rfl, (XE.below h).cell 3 rfl, (XE.below h).cell 4 rfl⟩)
          have CB : Hid (∀ W, Below wa.heap.size wa W → Blk W gw 59 (ints [(q0 : Int), (q1 : Int), (q2 : Int)])) := Lib.hid (fun W h => (hbk.below ba).below h)
          have HBA := Lib.hid (hbel.trans (ba.mono hbel.size))
          have HWA := Lib.hid hwa
          obtain ⟨e0, e1, e2, e3, e4⟩ := CW.out wa (Below.refl _ _)
          have hgwlt : w0.heap.size ≤ gw := by rw [HGW.out]; exact Nat.le_refl _
          have hbw := CB.out wa (Below.refl _ _)
          have hka := hok.m.hk
          have hlo := hok.l
          clear hC hQ hG hbk hbel ba XE hwa hok
          go_upto_region 11 with fail
          rw [HWA.out]
          have HKA := Lib.hid hka
          by_cases hk5 : G.kind = 5
          · have hk5b : (G.kind == 5) = true := beq_iff_eq.2 hk5
            have HD : Hid (cntStep ⟨ca, cf, q0, q1, q2⟩ G = ⟨ca, cf + 1, q0, q1, q2⟩) := Lib.hid (by simp [cntStep, hk5])
            clear hk5
            go_wp2
            go_roundw
            case measure => simp [intOf]; all_goals omega
            case rel => exact ⟨i + 1, by omega, by go_num, by { rw [hLN.out]; exact lm_next HC.out HD.out (by go_num) (by go_num) hbw HBA.out }⟩
          · have hk5b : (G.kind == 5) = false := beq_eq_false_iff_ne.2 hk5
            have hac : Accessed G := by have := hka; unfold Accessed; omega
            have HDA := Lib.hid (dec_true hac)
            have HAC : Hid ((!decide (G.kind = 5)) = true) := Lib.hid (by rw [decide_eq_false hk5]; rfl)
            have HK5 := Lib.hid hk5
            clear hk5 hac
            go_upto_if 40 with (go_at_call 51; refine (access_any (e := G) HKA.out).mono ?_; rintro e5 w5 ⟨rfl, hb5⟩; rw [HAC.out]; obtain ⟨e0, e1, e2, e3, e4⟩ := CW.out w5 hb5; have hB5 := CB.out w5 hb5)
            go_cut [4] from 41 to 42 (fun f wx => f = .int .i64 ((cf + (if G.ord = 4 then 2 else 0) : Nat) : Int) ∧ wx = w5)
            case first =>
              by_cases ho : G.ord = 4
              · have hob : (G.ord == 4) = true := beq_iff_eq.2 ho
                go_wp2_with fail
                go_meet
                exact ⟨by rw [if_pos ho]; go_num, rfl⟩
              · have hob : (G.ord == 4) = false := beq_eq_false_iff_ne.2 ho
                go_wp2_with fail
                go_meet
                exact ⟨by rw [if_neg ho]; rfl, rfl⟩
            case rest =>
              obtain ⟨rfl, rfl⟩ := hcut
              obtain ⟨f2, hf2⟩ : ∃ f2, (cf + (if G.ord = 4 then 2 else 0) : Nat) = f2 := ⟨_, rfl⟩
              rw [hf2]
              by_cases hk0 : G.kind = 0
              · have HD : Hid (cntStep ⟨ca, cf, q0, q1, q2⟩ G = ⟨ca + 1, f2, q0 + 0, q1 + 0, q2 + 0⟩) := Lib.hid (by
                  have z0 : (if 0 < G.kind ∧ G.loc = 0 then 1 else 0) = 0 := by split <;> omega
                  have z1 : (if 0 < G.kind ∧ G.loc = 1 then 1 else 0) = 0 := by split <;> omega
                  have z2 : (if 0 < G.kind ∧ G.loc = 2 then 1 else 0) = 0 := by split <;> omega
                  simp only [cntStep, if_neg HK5.out, HDA.out, if_true, hf2, z0, z1, z2])
                have HB5 := Lib.hid hB5
                have hk0b : (G.kind != 0) = false := by rw [hk0]; rfl
                clear hka hf2 hB5 hk0
                go_wp2
                go_roundw
                case measure => simp [intOf]; all_goals omega
                case rel => exact ⟨i + 1, by omega, by go_num, by { rw [hLN.out]; exact lm_next HC.out HD.out (by go_num) (by go_num) HB5.out (HBA.out.trans (hb5.mono HBA.out.size)) }⟩
              · have hk0b : (G.kind != 0) = true := bne_iff_ne.2 hk0
                have hpos : 0 < G.kind := by have := hka; omega
                rcases (by omega : G.loc = 0 ∨ G.loc = 1 ∨ G.loc = 2) with hl | hl | hl
                · have HD : Hid (cntStep ⟨ca, cf, q0, q1, q2⟩ G = ⟨ca + 1, f2, q0 + 1, q1 + 0, q2 + 0⟩) := Lib.hid (by
                    have z0 : (if 0 < G.kind ∧ G.loc = 0 then 1 else 0) = 1 := by split <;> omega
                    have z1 : (if 0 < G.kind ∧ G.loc = 1 then 1 else 0) = 0 := by split <;> omega
                    have z2 : (if 0 < G.kind ∧ G.loc = 2 then 1 else 0) = 0 := by split <;> omega
                    simp only [cntStep, if_neg HK5.out, HDA.out, if_true, hf2, z0, z1, z2])
                  have HB5 := Lib.hid hB5
                  rw [hl] at e1
                  have fz := HB5.out.free 0
                  have yc := HB5.out.cell 0 rfl
                  clear hka hf2 hB5 hk0 hpos
                  go_wp2
                  go_roundw
                  case measure => simp [intOf]; all_goals omega
                  case rel => exact ⟨i + 1, by omega, by go_num, by { rw [hLN.out]; exact lm_next HC.out HD.out (by go_num) (by go_num) (by { have := HB5.out.set 0 (.int .i64 ((q0 : Int) + 1)); simpa [ints] using this }) ((HBA.out.trans (hb5.mono HBA.out.size)).setCell (p := ⟨gw, 0, none⟩) hgwlt _) }⟩
                · have HD : Hid (cntStep ⟨ca, cf, q0, q1, q2⟩ G = ⟨ca + 1, f2, q0 + 0, q1 + 1, q2 + 0⟩) := Lib.hid (by
                    have z0 : (if 0 < G.kind ∧ G.loc = 0 then 1 else 0) = 0 := by split <;> omega
                    have z1 : (if 0 < G.kind ∧ G.loc = 1 then 1 else 0) = 1 := by split <;> omega
                    have z2 : (if 0 < G.kind ∧ G.loc = 2 then 1 else 0) = 0 := by split <;> omega
                    simp only [cntStep, if_neg HK5.out, HDA.out, if_true, hf2, z0, z1, z2])
                  have HB5 := Lib.hid hB5
                  rw [hl] at e1
                  have fz := HB5.out.free 1
                  have yc := HB5.out.cell 1 rfl
                  clear hka hf2 hB5 hk0 hpos
                  go_wp2
                  go_roundw
                  case measure => simp [intOf]; all_goals omega
                  case rel => exact ⟨i + 1, by omega, by go_num, by { rw [hLN.out]; exact lm_next HC.out HD.out (by go_num) (by go_num) (by { have := HB5.out.set 1 (.int .i64 ((q1 : Int) + 1)); simpa [ints] using this }) ((HBA.out.trans (hb5.mono HBA.out.size)).setCell (p := ⟨gw, 1, none⟩) hgwlt _) }⟩
                · have HD : Hid (cntStep ⟨ca, cf, q0, q1, q2⟩ G = ⟨ca + 1, f2, q0 + 0, q1 + 0, q2 + 1⟩) := Lib.hid (by
                    have z0 : (if 0 < G.kind ∧ G.loc = 0 then 1 else 0) = 0 := by split <;> omega
                    have z1 : (if 0 < G.kind ∧ G.loc = 1 then 1 else 0) = 0 := by split <;> omega
                    have z2 : (if 0 < G.kind ∧ G.loc = 2 then 1 else 0) = 1 := by split <;> omega
                    simp only [cntStep, if_neg HK5.out, HDA.out, if_true, hf2, z0, z1, z2])
                  have HB5 := Lib.hid hB5
                  rw [hl] at e1
                  have fz := HB5.out.free 2
                  have yc := HB5.out.cell 2 rfl
                  clear hka hf2 hB5 hk0 hpos
                  go_wp2
                  go_roundw
                  case measure => simp [intOf]; all_goals omega
                  case rel => exact ⟨i + 1, by omega, by go_num, by { rw [hLN.out]; exact lm_next HC.out HD.out (by go_num) (by go_num) (by { have := HB5.out.set 2 (.int .i64 ((q2 : Int) + 1)); simpa [ints] using this }) ((HBA.out.trans (hb5.mono HBA.out.size)).setCell (p := ⟨gw, 2, none⟩) hgwlt _) }⟩
        · have hin : i = L.length := by omega
          clear hbk hlti
          go_wp2
          go_roundw
          case measure => simp [intOf]; all_goals omega
          case rel => exact ⟨k + 1, by omega, by go_num, by { rw [hFL.out, ← hin]; exact HCI.out }⟩
    · have hin : k = ps.length := by omega
      subst hin
      have hfl : (ps.take ps.length).flatten = ps.flatten := by rw [List.take_length]
      rw [hfl] at hbk hck0 ⊢
      have hva := (HV.out).a
      have hvf := (HV.out).f
      have hv0 := (HV.out).w0
      have hv1 := (HV.out).w1
      have hv2 := (HV.out).w2
      obtain ⟨C, hC⟩ : ∃ C, cntOf ps.flatten = C := ⟨_, rfl⟩
      rw [hC] at hbk hva hvf hv0 hv1 hv2 ⊢
      obtain ⟨ca, cf, q0, q1, q2⟩ := C
      simp only [] at hbk hva hvf hv0 hv1 hv2 ⊢
      have hva' : (ca : Int) ≤ 6 := by omega
      have hvf' : (cf : Int) ≤ 8 := by omega
      have HB := Lib.hid hbel
      have HMX := Lib.hid (Tryz.slices_Max_int gw 0 3 3 [(q0 : Int), (q1 : Int), (q2 : Int)] wr (by omega) (by simp) (by omega) (fun j hj => by
        rcases (by simp at hj; omega : j = 0 ∨ j = 1 ∨ j = 2) with rfl | rfl | rfl
        · exact hbk.cell 0 rfl
        · exact hbk.cell 1 rfl
        · exact hbk.cell 2 rfl))
      have hmx : Lib.maxOf ([(q0 : Int), (q1 : Int), (q2 : Int)].take 3) ≤ 4 := by
        simp only [List.take_succ_cons, List.take_zero, Lib.maxOf]
        simp
        omega
      obtain ⟨mx, hmxe⟩ : ∃ mx, Lib.maxOf ([(q0 : Int), (q1 : Int), (q2 : Int)].take 3) = mx := ⟨_, rfl⟩
      rw [hmxe] at hmx HMX
      clear hC hbel hbk hck0 hfl hlt hv0 hv1 hv2 hmxe
      go_wp2_with (go_at_call 101; refine HMX.out.mono ?_; rintro e7 w7 ⟨rfl, rfl⟩)
      go_ret
      exact ⟨rfl, B0.out.trans (HB.out.mono B0.out.size)⟩
end Go.Proofs.YtkddckfgdiemkaaGreat
/-
  The walk of Check of litmus, of valid programs.
-/
set_option linter.unusedVariables false
set_option linter.unusedSimpArgs false
namespace Go.Proofs.YtkddckfgdiemkaaGreat
open Go.RowKit Go.Shelf Mem
set_option maxRecDepth 100000
attribute [local go_sem] Oper.semAt_some

set_option maxHeartbeats 4000000 in
theorem check_any {w : World} {tv : Value} {ps : List (List Ev)} (hr : RdP w tv ps) (hv : Valid ps) :
    Calls Tryz.prog 48 #[.agg #[tv]] w (TellsI w 0) := by
  obtain ⟨A, c, rfl, hc1, hc2⟩ := hr.shape
  obtain ⟨w0, hw0⟩ : ∃ w0, w.alloc (.cells #[.slice A ps.length c] 24) = w0 := ⟨_, rfl⟩
  have b0 : Below w.heap.size w w0 := by rw [← hw0]; exact (Below.refl _ w).alloc (Nat.le_refl _) _
  have X24 := Lib.hid (show Blk w0 w.heap.size 24 [.slice A ps.length c] by rw [← hw0]; exact Blk.new w 24 [.slice A ps.length c])
  have R0 : Hid (RdP w0 (.slice A ps.length c) ps) := Lib.hid (hr.below b0)
  have k0 := X24.out.cell 0 rfl
  have HL := Lib.hid (limits_any (hr.below b0) hv)
  have HW0 := Lib.hid hw0
  have B0 := Lib.hid b0
  have C24 := Lib.hid (fun W (h : Below w0.heap.size w0 W) => ((X24.out.below h).cell 0 rfl : W.cell? ⟨w.heap.size, 0, none⟩ = some (.slice A ps.length c)))
  have hOk : Hid (∀ k i, k < ps.length → i < (ps.getD k []).length → OkOp (ev (ps.getD k []) (i : Int))) := Lib.hid (fun k i hk hi => by
    refine hv.o _ (List.mem_flatten.2 ⟨ps.getD k [], getD_mem hk _, ?_⟩)
    rw [ev_at _ hi]; exact List.getElem_mem hi)
  have hpb : ((ps.length : Int) == 0) = false := beq_eq_false_iff_ne.2 (by have := hv.p; omega)
  clear hr hw0 b0 hv
  go_enter Tryz.func48, Tryz.ntmps48
  go_upto_region 1 with fail
  rw [HW0.out]
  go_wp2_with (go_at_call 85; refine HL.out.mono ?_; rintro e1 w1 ⟨rfl, hb1⟩; have k1 := C24.out w1 hb1)
  have HB1 := Lib.hid hb1
  clear hb1 k0 k1
  go_loopw [19] (fun t wr => ∃ k : Nat, k ≤ ps.length ∧ t = .int .i64 k ∧ Below w0.heap.size w0 wr) (fun t _ => ps.length - (intOf t).toNat)
  case atStart => exact ⟨0, Nat.zero_le _, rfl, HB1.out⟩
  case round =>
    obtain ⟨k, hk, rfl, hbel⟩ := hrel
    by_cases hlt : k < ps.length
    · have hlt' : (k : Int) < (ps.length : Int) := by omega
      have i1 : (0 : Int) ≤ (k : Int) := by omega
      obtain ⟨b, off, A1, c1, rfl, hbb, hc0, hro0, hc3, hc4⟩ := RdP.at_ R0.out rfl hlt
      have hAt : Hid (∀ W, Below w0.heap.size w0 W → W.cell? ⟨b, off + k, none⟩ = some (.slice A1 (ps.getD k []).length c1) ∧ Rd W (.slice A1 (ps.getD k []).length c1) (ps.getD k []).length 5 (ops (ps.getD k []))) := Lib.hid (fun W hW =>
        ⟨(World.cell?_of_block (hW.block b hbb)).trans hc0, Rd.below hro0 hW⟩)
      clear hc0 hro0
      have hOk2 := Lib.hid (fun i => hOk.out k i hlt)
      obtain ⟨L, hL⟩ : ∃ L, ps.getD k [] = L := ⟨_, rfl⟩
      rw [hL] at hAt hOk2 hc3
      obtain ⟨hc0, _⟩ := hAt.out wr hbel
      have HBL := Lib.hid hbel
      clear hL hbel
      go_wp2
      clear hc0
      go_loopw [25] (fun j wx => ∃ i : Nat, i ≤ L.length ∧ j = .int .i64 i ∧ Below w0.heap.size w0 wx) (fun j _ => L.length - (intOf j).toNat)
      case atStart => exact ⟨0, Nat.zero_le _, rfl, HBL.out⟩
      case round =>
        obtain ⟨i, hi, rfl, hbel⟩ := hrel
        obtain ⟨hc0, hro⟩ := hAt.out wr hbel
        by_cases hlti : i < L.length
        · have hlti' : (i : Int) < (L.length : Int) := by omega
          have i2 : (0 : Int) ≤ (i : Int) := by omega
          obtain ⟨bo, oo, rfl, hbo, x0, x1, x2, x3, x4⟩ := RdO.at_ hro rfl hlti
          have hok := hOk2.out i hlti
          obtain ⟨G, hG⟩ : ∃ G, ev L (i : Int) = G := ⟨_, rfl⟩
          rw [hG] at x0 x1 x2 x3 x4 hok
          obtain ⟨wa, hwa⟩ : ∃ wa, wr.alloc (.cells #[.int .i64 G.kind, .int .i64 G.loc, .int .i64 G.v, .int .i64 G.w, .int .i64 G.ord] 47) = wa := ⟨_, rfl⟩
          have ba : Below wr.heap.size wr wa := by rw [← hwa]; exact (Below.refl _ wr).alloc (Nat.le_refl _) _
          have XE := (show Blk wa wr.heap.size 47 [.int .i64 G.kind, .int .i64 G.loc, .int .i64 G.v, .int .i64 G.w, .int .i64 G.ord] by rw [← hwa]; exact Blk.new wr 47 _)
          obtain ⟨e0, e1, e2, e3, e4⟩ : wa.cell? ⟨wr.heap.size, 0, none⟩ = some (.int .i64 G.kind) ∧ wa.cell? ⟨wr.heap.size, 1, none⟩ = some (.int .i64 G.loc) ∧ wa.cell? ⟨wr.heap.size, 2, none⟩ = some (.int .i64 G.v) ∧ wa.cell? ⟨wr.heap.size, 3, none⟩ = some (.int .i64 G.w) ∧ wa.cell? ⟨wr.heap.size, 4, none⟩ = some (.int .i64 G.ord) :=
            ⟨XE.cell 0 rfl, XE.cell 1 rfl, XE.cell 2 rfl, XE.cell 3 rfl, XE.cell 4 rfl⟩
          have HBA := Lib.hid (hbel.trans (ba.mono hbel.size))
          have HWA := Lib.hid hwa
          have HOK := Lib.hid hok
          have HMM := Lib.hid (mayE_any (w := wa) hok.m)
          have HFF := Lib.hid (fits_any (w := wa) hok)
          clear hG hro hbel ba XE hwa hok hc0
          go_upto_region 11 with fail
          rw [HWA.out]
          go_wp2_with (first | (go_at_call 86; refine HMM.out.mono ?_; rintro e5 w5 ⟨rfl, rfl⟩) | (go_at_call 87; refine HFF.out.mono ?_; rintro e6 w6 ⟨rfl, hb6⟩))
          go_roundw
          case measure => simp [intOf]; all_goals omega
          case rel => exact ⟨i + 1, by omega, by go_num, HBA.out.trans (hb6.mono HBA.out.size)⟩
        · have HBI := Lib.hid hbel
          clear hro hbel hc0
          go_wp2
          go_roundw
          case measure => simp [intOf]; all_goals omega
          case rel => exact ⟨k + 1, by omega, by go_num, HBI.out⟩
    · have hin : k = ps.length := by omega
      subst hin
      have HBL := Lib.hid hbel
      clear hbel
      go_wp2
      go_ret
      exact ⟨rfl, B0.out.trans (HBL.out.mono B0.out.size)⟩
end Go.Proofs.YtkddckfgdiemkaaGreat
/-
  The walk of Expand's function: what an operation is replaced by.
-/
set_option linter.unusedVariables false
set_option linter.unusedSimpArgs false
namespace Go.Proofs.YtkddckfgdiemkaaGreat
open Go.RowKit Go.Shelf Mem
set_option maxRecDepth 100000
attribute [local go_sem] Oper.semAt_some

theorem row_of_blk {W : World} {B g n k : Nat} {e : TypeId} {xs : List Value} (hB : B ≤ g) (h : Blk W g e xs) (hl : xs.length = n * k) (hn : n < 1000000) : Row W B e k (.slice (some ⟨g, 0, none⟩) n n) n xs :=
  ⟨hl, .inr ⟨g, n, xs.toArray, rfl, hB, h, Nat.le_refl _, by simp [maxLen]; omega, by simp [hl], List.take_of_length_le (by simp [hl])⟩⟩
def strongE : Ev := ⟨5, 0, 0, 0, 4, 0⟩
/-- What an operation is replaced by. -/
def expOp (e : Ev) : List Ev := if e.kind = 5 ∨ e.ord ≠ 4 then [e] else [strongE, { e with ord := plainO e.kind }, strongE]
def MadeO (l : List Ev) (w : World) (e : Ending) (w' : World) : Prop := ∃ u, e = .returned u ∧ Row w' w.heap.size 47 5 u l.length (ops l) ∧ Below w.heap.size w w'
set_option maxHeartbeats 4000000 in
theorem expand1_any {w : World} {e : Ev} {f : Bool} (h : OkOp e) : Calls Tryz.prog 50 #[opV e, .bool f] w (MadeO (expOp e) w) := by
  obtain ⟨w0, hw0⟩ : ∃ w0, w.alloc (.cells #[.int .i64 e.kind, .int .i64 e.loc, .int .i64 e.v, .int .i64 e.w, .int .i64 e.ord] 47) = w0 := ⟨_, rfl⟩
  have b0 : Below w.heap.size w w0 := by rw [← hw0]; exact (Below.refl _ w).alloc (Nat.le_refl _) _
  have X := (show Blk w0 w.heap.size 47 [.int .i64 e.kind, .int .i64 e.loc, .int .i64 e.v, .int .i64 e.w, .int .i64 e.ord] by rw [← hw0]; exact Blk.new w 47 _)
  have CW : Hid (∀ W, Below w0.heap.size w0 W → W.cell? ⟨w.heap.size, 0, none⟩ = some (.int .i64 e.kind) ∧ W.cell? ⟨w.heap.size, 1, none⟩ = some (.int .i64 e.loc) ∧ W.cell? ⟨w.heap.size, 2, none⟩ = some (.int .i64 e.v) ∧ W.cell? ⟨w.heap.size, 3, none⟩ = some (.int .i64 e.w) ∧ W.cell? ⟨w.heap.size, 4, none⟩ = some (.int .i64 e.ord)) := Lib.hid (fun W h =>
    ⟨(X.below h).cell 0 rfl, (X.below h).cell 1 rfl, (X.below h).cell 2 rfl, (X.below h).cell 3 rfl, (X.below h).cell 4 rfl⟩)
  obtain ⟨e0, e1, e2, e3, e4⟩ := CW.out w0 (Below.refl _ _)
  have HX := Lib.hid X
  have B0 := Lib.hid b0
  have HW0 := Lib.hid hw0
  have HK := Lib.hid h.m.hk
  have HM := Lib.hid h.m
  clear hw0 b0 X h
  by_cases h5 : e.kind = 5
  · have HAC : Hid ((!decide (e.kind = 5)) = false) := Lib.hid (by rw [decide_eq_true h5]; rfl)
    have HE : Hid (expOp e = [e]) := Lib.hid (by rw [expOp, if_pos (.inl h5)])
    clear h5
    go_enter Tryz.func50, Tryz.ntmps50
    go_upto_region 1 with fail
    rw [HW0.out]
    go_wp2_with (go_at_call 51; refine (access_any (e := e) HK.out).mono ?_; rintro e5 w5 ⟨rfl, hb5⟩; rw [HAC.out]; obtain ⟨e0, e1, e2, e3, e4⟩ := CW.out w5 hb5)
    go_ret
    refine ⟨_, rfl, ?_, (B0.out.trans (hb5.mono B0.out.size)).alloc (by have := hb5.size; have := B0.out.size; omega) _⟩
    rw [HE.out]
    exact row_of_blk (by have := hb5.size; have := B0.out.size; omega) (Blk.new w5 47 (opCells e)) rfl (by decide)
  · have HAC : Hid ((!decide (e.kind = 5)) = true) := Lib.hid (by rw [decide_eq_false h5]; rfl)
    by_cases h4 : e.ord = 4
    · have h4b : (e.ord != 4) = false := by rw [h4]; rfl
      have HE : Hid (expOp e = [strongE, { e with ord := plainO e.kind }, strongE]) := Lib.hid (by rw [expOp, if_neg (fun h => h.elim h5 (fun h => h h4))])
      have HP := Lib.hid (fun W => plain_any (w := W) (k := e.kind) (by have := HM.out; rwa [h4] at this) h5)
      have HO4 := Lib.hid h4
      clear h5 h4
      go_enter Tryz.func50, Tryz.ntmps50
      go_upto_region 1 with fail
      rw [HW0.out]
      go_upto_region 3 with (go_at_call 51; refine (access_any (e := e) HK.out).mono ?_; rintro e5 w5 ⟨rfl, hb5⟩; rw [HAC.out]; obtain ⟨e0, e1, e2, e3, e4⟩ := CW.out w5 hb5)
      rw [HO4.out] at e4
      have X5 := HX.out.below hb5
      have f4 := X5.free 4
      have HP5 := Lib.hid (HP.out w5)
      go_upto_region 4 with (go_at_call 52; refine HP5.out.mono ?_; rintro e6 w6 ⟨rfl, rfl⟩)
      obtain ⟨pk, hpk⟩ : ∃ pk, plainO e.kind = pk := ⟨_, rfl⟩
      rw [hpk] at HE ⊢
      obtain ⟨wq, hwq⟩ : ∃ wq, w5.setCell ⟨w.heap.size, 4, none⟩ (.int .i64 pk) = wq := ⟨_, rfl⟩
      rw [hwq]
      have XQ : Blk wq w.heap.size 47 [.int .i64 e.kind, .int .i64 e.loc, .int .i64 e.v, .int .i64 e.w, .int .i64 pk] := by rw [← hwq]; exact X5.set 4 _
      have bq : Below w.heap.size w wq := by rw [← hwq]; exact (B0.out.trans (hb5.mono B0.out.size)).setCell (p := ⟨w.heap.size, 4, none⟩) (Nat.le_refl _) _
      have CQ : Hid (∀ W, Below wq.heap.size wq W → W.cell? ⟨w.heap.size, 0, none⟩ = some (.int .i64 e.kind) ∧ W.cell? ⟨w.heap.size, 1, none⟩ = some (.int .i64 e.loc) ∧ W.cell? ⟨w.heap.size, 2, none⟩ = some (.int .i64 e.v) ∧ W.cell? ⟨w.heap.size, 3, none⟩ = some (.int .i64 e.w) ∧ W.cell? ⟨w.heap.size, 4, none⟩ = some (.int .i64 pk)) := Lib.hid (fun W h =>
        ⟨(XQ.below h).cell 0 rfl, (XQ.below h).cell 1 rfl, (XQ.below h).cell 2 rfl, (XQ.below h).cell 3 rfl, (XQ.below h).cell 4 rfl⟩)
      have b1 : Below wq.heap.size wq wq.drew := (Below.refl _ wq).drew
      have hs0 := CQ.out _ b1
      have BQ := Lib.hid bq
      clear hpk hwq XQ bq X5 f4 e0 e1 e2 e3 e4 hb5
      go_region_held3 (fun w' => w'.cell? ⟨w.heap.size, 0, none⟩ = some (.int .i64 e.kind) ∧ w'.cell? ⟨w.heap.size, 1, none⟩ = some (.int .i64 e.loc) ∧ w'.cell? ⟨w.heap.size, 2, none⟩ = some (.int .i64 e.v) ∧ w'.cell? ⟨w.heap.size, 3, none⟩ = some (.int .i64 e.w) ∧ w'.cell? ⟨w.heap.size, 4, none⟩ = some (.int .i64 pk))
        (first | exact hs0 | exact CQ.out _ hb6 | exact CQ.out _ hb7 | exact CQ.out _ (hb7.alloc hb7.size _))
        (first
          | (go_at_call 53; refine (strongFence_any (w := wq.drew)).mono ?_; rintro e6 w6 ⟨rfl, hbe6⟩; have hb6 : Below wq.heap.size wq w6 := b1.trans (hbe6.mono b1.size); dsimp only)
          | (go_at_call 53; refine (strongFence_any (w := w6)).mono ?_; rintro e7 w7 ⟨rfl, hbe7⟩; have hb7 : Below wq.heap.size wq w7 := hb6.trans (hbe7.mono hb6.size); dsimp only))
      all_goals go_wp2
      all_goals go_ret
      all_goals refine ⟨_, rfl, ?_, (BQ.out.trans (hb7.mono BQ.out.size)).alloc (by have := hb7.size; have := BQ.out.size; omega) _⟩
      all_goals rw [HE.out]
      all_goals exact row_of_blk (n := 3) (by have := hb7.size; have := BQ.out.size; omega) (Blk.new w7 47 (ops [strongE, { e with ord := pk }, strongE])) rfl (by decide)
    · have h4b : (e.ord != 4) = true := bne_iff_ne.2 h4
      have HE : Hid (expOp e = [e]) := Lib.hid (by rw [expOp, if_pos (.inr h4)])
      clear h5 h4
      go_enter Tryz.func50, Tryz.ntmps50
      go_upto_region 1 with fail
      rw [HW0.out]
      go_wp2_with (go_at_call 51; refine (access_any (e := e) HK.out).mono ?_; rintro e5 w5 ⟨rfl, hb5⟩; rw [HAC.out]; obtain ⟨e0, e1, e2, e3, e4⟩ := CW.out w5 hb5)
      go_ret
      refine ⟨_, rfl, ?_, (B0.out.trans (hb5.mono B0.out.size)).alloc (by have := hb5.size; have := B0.out.size; omega) _⟩
      rw [HE.out]
      exact row_of_blk (by have := hb5.size; have := B0.out.size; omega) (Blk.new w5 47 (opCells e)) rfl (by decide)
end Go.Proofs.YtkddckfgdiemkaaGreat
/-
  Programs that are made: rows of rows of operations; append of several operations.
-/
set_option linter.unusedVariables false
set_option linter.unusedSimpArgs false
namespace Go.Proofs.YtkddckfgdiemkaaGreat
open Go.RowKit Go.Shelf Mem
set_option maxRecDepth 100000

theorem ops_one (l : List Ev) : ∀ u ∈ ops l, u.oneCell' = true := by
  intro u hu
  simp only [ops, List.mem_flatMap, opCells, List.mem_cons, List.not_mem_nil, or_false] at hu
  obtain ⟨e, _, h | h | h | h | h⟩ := hu <;> (rw [h]; rfl)
theorem ops_app (a b : List Ev) : ops (a ++ b) = ops a ++ ops b := by simp [ops]
theorem info47 : (Tryz.prog.info? 47).map (fun i => (i.zero, i.size, i.bytes)) = some (some (.agg #[.int .i64 0, .int .i64 0, .int .i64 0, .int .i64 0, .int .i64 0]), 5, 40) := by kernel_rfl
theorem info45 : (Tryz.prog.info? 45).map (fun i => (i.zero, i.size, i.bytes)) = some (some (.slice none 0 0), 1, 24) := by kernel_rfl
/-- Append of several elements that lie somewhere. -/
theorem wpList_apps {P : Program} {ty e : TypeId} {z : Value} {k b : Nat} {ops : Array Oper} {rest : List Oper} {o : Oper} {a : Act} {Q : Exit → Act → World → Prop} {w : World} (hgd : o.guard = none) (s x : Operand)
    (ho : o.op = .call { callee := .builtin .append, args := #[s, x], argTypes := #[ty, ty] }) (ht : P.underlying ty = some (.slice e)) (hi : (P.info? e).map (fun i => (i.zero, i.size, i.bytes)) = some (some z, k, b)) (hz : z.cells.size = k) (hk : 0 < k) (hb : b ≤ 100000000)
    (B : Nat) (v : Value) (n : Nat) (xs : List Value) (u : Value) (m : Nat) (ys : List Value) (hs : a.eval s = v) (hown : Row w B e k v n xs) (hx : a.eval x = u) (hu : Rd w u m k ys) (hm : 0 < m) (h1 : ∀ u ∈ ys, u.oneCell' = true) (hB : B ≤ w.heap.size) (hl : n + m < 1000000)
    (h : ∀ v' w', Row w' B e k v' (n + m) (xs ++ ys) → Kept w w' (fun j => v.ownBlock = some j) → (∀ j, v'.ownBlock = some j → v.ownBlock = some j ∨ w.heap.size ≤ j) → wpList P ops Q rest (a.put o.dst v') w') :
    wpList P ops Q (o :: rest) a w := by
  obtain ⟨i0, hi0, hz0, hz1, hz2⟩ := info_one hi
  obtain ⟨hlen, A', c, rfl, _, _, hcell⟩ := hu
  obtain ⟨b', off', rfl, hlt, hc⟩ := hcell hm
  refine wpList_append_own_at _ hgd s x ty ho B e i0 z k b ht hi0 hz0 hz1 hz2 hz hk v n xs hs hown ⟨b', off', none⟩ m c ys hx hlen
    (fun j u hu => by rw [Addr.add_mid]; exact hc j u hu) h1 (by simp only [maxLen]; omega) ?_ hB ?_
  · have : (n + m) * b ≤ 1000000 * 100000000 := Nat.mul_le_mul (by omega) hb
    omega
  · intro v' w' hown' hg _ hat
    refine h v' w' hown' ((Kept.refl w _).grown hg (fun k hk => .inl hk)) (fun k hk => ?_)
    rcases hat with hat | hat
    · exact .inl (hat ▸ hk)
    · rw [hat] at hk; simp at hk; exact .inr (by omega)
/-- A program of the call's own. -/
def OwnP (W : World) (B : Nat) (v : Value) (x : List (List Ev)) : Prop := ∃ us, Row W B 45 1 v x.length us ∧ us.length = x.length ∧ ∀ k u, us[k]? = some u → Row W B 47 5 u (x.getD k []).length (ops (x.getD k []))
theorem OwnP.keep {W W' : World} {S : Nat → Prop} {B : Nat} {v : Value} {x : List (List Ev)} (h : OwnP W B v x) (k : Kept W W' S) (hs : ∀ g, B ≤ g → ¬ S g) : OwnP W' B v x := by
  obtain ⟨us, h1, h2, h3⟩ := h
  exact ⟨us, Row.keep h1 k (fun g hg => hs g (Row.at_lt h1 hg).1), h2, fun j u hu => Row.keep (h3 j u hu) k (fun g hg => hs g (Row.at_lt (h3 j u hu) hg).1)⟩
theorem OwnP.below {W W' : World} {B : Nat} {v : Value} {x : List (List Ev)} (h : OwnP W B v x) (k : Below W.heap.size W W') : OwnP W' B v x := h.keep (Kept.of_below k (fun _ => False)) (fun _ _ => id)
theorem OwnP.mono {W : World} {B B' : Nat} {v : Value} {x : List (List Ev)} (h : OwnP W B v x) (hB : B' ≤ B) : OwnP W B' v x := by
  obtain ⟨us, h1, h2, h3⟩ := h
  exact ⟨us, Row.mono h1 hB, h2, fun j u hu => Row.mono (h3 j u hu) hB⟩
theorem OwnP.nil (W : World) (B : Nat) : OwnP W B (.slice .none 0 0) [] := ⟨[], World.ownsRow_nil W B 45 1, rfl, fun k u hu => by simp at hu⟩
theorem OwnP.rd {W : World} {B : Nat} {v : Value} {x : List (List Ev)} (h : OwnP W B v x) : RdP W v x := by
  obtain ⟨us, h1, h2, h3⟩ := h
  exact ⟨us, Row.rd h1, h2, fun j u hu => Row.rd (h3 j u hu)⟩
theorem OwnP.setBlk {W : World} {B g j : Nat} {t : TypeId} {v a : Value} {x : List (List Ev)} {cs : List Value} (h : OwnP W B v x) (hb : Blk W g t cs) (h1 : t ≠ 45) (h2 : t ≠ 47) : OwnP (W.setCell ⟨g, j, none⟩ a) B v x := by
  obtain ⟨us, r1, r2, r3⟩ := h
  have k : Kept W (W.setCell ⟨g, j, none⟩ a) (fun k => k = g) := (Kept.refl W (fun k => k = g)).setCell (p := ⟨g, j, none⟩) (.inl rfl) a
  exact ⟨us, Row.keep r1 k (fun i hi he => Row.ne_blk r1 hb (fun e => h1 e.symm) (by rw [← he]; exact hi)), r2, fun q u hu => Row.keep (r3 q u hu) k (fun i hi he => Row.ne_blk (r3 q u hu) hb (fun e => h2 e.symm) (by rw [← he]; exact hi))⟩
/-- One thread more. -/
theorem OwnP.snoc {w w' : World} {B : Nat} {v v' u : Value} {x : List (List Ev)} {l : List Ev} {us : List Value} (hr : Row w B 45 1 v x.length us) (hl : us.length = x.length) (ha : ∀ k u, us[k]? = some u → Row w B 47 5 u (x.getD k []).length (ops (x.getD k [])))
    (hu : Row w B 47 5 u l.length (ops l)) (hr' : Row w' B 45 1 v' (x.length + 1) (us ++ [u])) (hk : Kept w w' (fun j => v.ownBlock = some j)) : OwnP w' B v' (x ++ [l]) := by
  refine ⟨us ++ [u], by rw [List.length_append, List.length_singleton]; exact hr', by simp [hl], fun k y hy => ?_⟩
  have key : ∀ {y : Value} {m : List Ev}, Row w B 47 5 y m.length (ops m) → Row w' B 47 5 y m.length (ops m) := fun {y m} h => Row.keep h hk (fun g hg hv => Row.ne_row h hr (by decide) hg hv)
  by_cases hk2 : k < us.length
  · rw [List.getElem?_append_left hk2] at hy
    have h := key (ha k y hy)
    have e : (x ++ [l]).getD k [] = x.getD k [] := by simp only [List.getD]; rw [List.getElem?_append_left (by omega)]
    rw [e]; exact h
  · have hke : k = us.length := by
      have := (List.getElem?_eq_some_iff.1 hy).1
      simp at this; omega
    subst hke
    rw [List.getElem?_append_right (Nat.le_refl _)] at hy
    simp at hy
    subst hy
    have e : (x ++ [l]).getD us.length [] = l := by simp only [List.getD]; rw [hl, List.getElem?_append_right (Nat.le_refl _)]; simp
    rw [e]; exact key hu
def expL (l : List Ev) : List Ev := l.flatMap expOp
def expP (ps : List (List Ev)) : List (List Ev) := ps.map expL
theorem expOp_pos (e : Ev) : 0 < (expOp e).length ∧ (expOp e).length ≤ 3 := by unfold expOp; split <;> simp
theorem expL_snoc (l : List Ev) (e : Ev) : expL (l ++ [e]) = expL l ++ expOp e := by simp [expL]
theorem expL_len (l : List Ev) : (expL l).length ≤ 3 * l.length := by
  induction l with
  | nil => simp [expL]
  | cons e t ih =>
    have := expOp_pos e
    simp only [expL, List.flatMap_cons, List.length_append, List.length_cons] at ih ⊢
    omega
theorem expP_snoc (ps : List (List Ev)) (l : List Ev) : expP (ps ++ [l]) = expP ps ++ [expL l] := by simp [expP]
theorem expP_len (ps : List (List Ev)) : (expP ps).length = ps.length := by simp [expP]
end Go.Proofs.YtkddckfgdiemkaaGreat
