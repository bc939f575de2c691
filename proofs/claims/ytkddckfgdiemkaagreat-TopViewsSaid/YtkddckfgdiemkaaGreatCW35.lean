/-
  The walk of of: the events of a program.
-/
import Derived.Test.YtkddckfgdiemkaaGreatCW34
set_option linter.unusedVariables false
set_option linter.unusedSimpArgs false
namespace Go.Proofs.YtkddckfgdiemkaaGreat
open Go.RowKit Go.Shelf Mem
set_option maxRecDepth 100000
attribute [local go_sem] Oper.semAt_some

/-- An event of a thread. -/
def evTh (k : Nat) (e : Ev) : Ev := { e with th := (k : Int) }
/-- The events of the first threads. -/
def esTo (q : List (List Ev)) : Nat → List Ev
  | 0 => []
  | k + 1 => esTo q k ++ (q.getD k []).map (evTh k)
abbrev esOf (q : List (List Ev)) : List Ev := esTo q q.length
theorem info89 : (Tryz.prog.info? 89).map (fun i => (i.zero, i.size, i.bytes)) = some (some (.agg #[.int .i64 0, .int .i64 0, .int .i64 0, .int .i64 0, .int .i64 0, .int .i64 0]), 6, 48) := by kernel_rfl
theorem evCells_one (e : Ev) : ∀ u ∈ evCells e, u.oneCell' = true := by
  intro u hu
  simp only [evCells, List.mem_cons, List.not_mem_nil, or_false] at hu
  rcases hu with h | h | h | h | h | h <;> (rw [h]; rfl)
theorem evs_app (a b : List Ev) : evs (a ++ b) = evs a ++ evs b := by simp [evs]
/-- How long what is made is. -/
structure SmallQ (q : List (List Ev)) : Prop where
  n : q.length ≤ 3
  l : ∀ k, (q.getD k []).length ≤ 300
theorem esTo_len {q : List (List Ev)} (h : SmallQ q) : ∀ k, (esTo q k).length ≤ 300 * k
  | 0 => by simp [esTo]
  | k + 1 => by have := esTo_len h k; have := h.l k; simp only [esTo, List.length_append, List.length_map]; omega
theorem smallQ {ps : List (List Ev)} (hv : Valid ps) : SmallQ (expP ps) := by
  refine ⟨by rw [expP_len]; exact hv.n, fun k => ?_⟩
  by_cases hk : k < ps.length
  · have h1 := hv.a
    have h2 := hv.f
    have h3 := cnt_all ps.flatten hv.o
    have h4 := sizeP_le ps (show k + 1 ≤ ps.length by omega)
    rw [sizeP_succ ps hk] at h4
    have h6 : sizeP ps ps.length = ps.flatten.length := by unfold sizeP; rw [List.take_length]
    have h7 : (expP ps).getD k [] = expL (ps.getD k []) := by simp [expP, List.getD, List.getElem?_eq_getElem hk]
    have := expL_len (ps.getD k [])
    rw [h7]; omega
  · have : (expP ps).getD k [] = [] := by simp only [List.getD, List.getElem?_eq_none (show (expP ps).length ≤ k by rw [expP_len]; omega)]; rfl
    rw [this]; simp
set_option maxHeartbeats 8000000 in
theorem of_any {w : World} {tv : Value} {ps : List (List Ev)} (hr : RdP w tv ps) (hv : Valid ps) :
    Calls Tryz.prog 21 #[.agg #[tv]] w fun e W' => ∃ pv, e = .returned (.tuple #[pv, .int .i64 0]) ∧ RdE W' pv (esOf (expP ps)) ∧ (∀ g, pv.ownBlock = some g → w.heap.size ≤ g ∧ g < W'.heap.size) ∧ Below w.heap.size w W' := by
  obtain ⟨A, c, rfl, hc1, hc2⟩ := hr.shape
  obtain ⟨w0, hw0⟩ : ∃ w0, w.alloc (.cells #[.slice A ps.length c] 24) = w0 := ⟨_, rfl⟩
  have b0 : Below w.heap.size w w0 := by rw [← hw0]; exact (Below.refl _ w).alloc (Nat.le_refl _) _
  have X0 := (show Blk w0 w.heap.size 24 [.slice A ps.length c] by rw [← hw0]; exact Blk.new w 24 [.slice A ps.length c])
  have k0 := X0.cell 0 rfl
  have HE := Lib.hid (expand_any (hr.below b0) hv)
  have HS := Lib.hid (smallQ hv)
  have HW0 := Lib.hid hw0
  have B0 := Lib.hid b0
  clear hr hv hw0 b0 X0
  go_enter Tryz.func21, Tryz.ntmps21
  go_upto_region 1 with fail
  rw [HW0.out]
  go_upto_region 4 with (go_at_call 28; refine HE.out.mono ?_; rintro e1 w1 ⟨v1, rfl, ho1, hb1⟩; have hv1 : ∃ A1 c1, v1 = .slice A1 (expP ps).length c1 := (by obtain ⟨us, r1, _⟩ := ho1; obtain ⟨A2, c2, h, _⟩ := (Row.rd r1).shape; exact ⟨A2, c2, h⟩); obtain ⟨A1, c1, rfl⟩ := hv1)
  obtain ⟨q, hq⟩ : ∃ q, expP ps = q := ⟨_, rfl⟩
  rw [hq] at ho1 HS ⊢
  obtain ⟨w2, hw2⟩ : ∃ w2, w1.alloc (.cells #[.slice A1 q.length c1] 24) = w2 := ⟨_, rfl⟩
  have b12 : Below w1.heap.size w1 w2 := by rw [← hw2]; exact (Below.refl _ w1).alloc (Nat.le_refl _) _
  have X4 := Lib.hid (show Blk w2 w1.heap.size 24 [.slice A1 q.length c1] by rw [← hw2]; exact Blk.new w1 24 [.slice A1 q.length c1])
  have RP := Lib.hid ((ho1.below b12).rd)
  have B2 := Lib.hid (B0.out.trans ((hb1.trans (b12.mono hb1.size)).mono B0.out.size))
  have k4 := X4.out.cell 0 rfl
  have HW2 := Lib.hid hw2
  have hqn := HS.out.n
  have HQE := Lib.hid hq
  clear hq ho1 b12 hw2 hb1 k0
  rw [HW2.out]
  go_wp2
  clear k4
  go_loopw [6, 22] (fun l t wr => ∃ k : Nat, k ≤ q.length ∧ t = .int .i64 k ∧ Row wr w2.heap.size 89 6 l (esTo q k).length (evs (esTo q k)) ∧ Below w2.heap.size w2 wr) (fun _ t _ => q.length - (intOf t).toNat)
  case atStart => exact ⟨0, Nat.zero_le _, rfl, World.ownsRow_nil _ _ 89 6, Below.refl _ _⟩
  case round =>
    obtain ⟨k, hk, rfl, hrow, hbel⟩ := hrel
    obtain ⟨Al, cl, rfl, hcl1, hcl2⟩ := (Row.rd hrow).shape
    by_cases hlt : k < q.length
    · have hlt' : (k : Int) < (q.length : Int) := by omega
      have i1 : (0 : Int) ≤ (k : Int) := by omega
      obtain ⟨b, off, A2, c2, rfl, hbb, hc0, hro0, hc3, hc4⟩ := RdP.at_ RP.out rfl hlt
      have hAt : Hid (∀ W, Below w2.heap.size w2 W → W.cell? ⟨b, off + k, none⟩ = some (.slice A2 (q.getD k []).length c2) ∧ Rd W (.slice A2 (q.getD k []).length c2) (q.getD k []).length 5 (ops (q.getD k []))) := Lib.hid (fun W hW =>
        ⟨(World.cell?_of_block (hW.block b hbb)).trans hc0, Rd.below hro0 hW⟩)
      clear hc0 hro0
      have hN : Hid (esTo q (k + 1) = esTo q k ++ (q.getD k []).map (evTh k)) := Lib.hid rfl
      have hL300 := HS.out.l k
      have hlen := esTo_len HS.out k
      obtain ⟨L, hL⟩ : ∃ L, q.getD k [] = L := ⟨_, rfl⟩
      obtain ⟨F, hF⟩ : ∃ F, esTo q k = F := ⟨_, rfl⟩
      rw [hL] at hAt hc3 hL300
      rw [hL, hF] at hN
      rw [hF] at hrow hcl1 hlen ⊢
      have hF9 : F.length ≤ 900 := by omega
      obtain ⟨hc0, _⟩ := hAt.out wr hbel
      have HR := Lib.hid hrow
      have HB := Lib.hid hbel
      clear hL hF hbel hrow hlen
      go_wp2
      clear hc0
      go_loopw [6, 29] (fun l j wx => ∃ i : Nat, i ≤ L.length ∧ j = .int .i64 i ∧ Row wx w2.heap.size 89 6 l (F ++ (L.take i).map (evTh k)).length (evs (F ++ (L.take i).map (evTh k))) ∧ Below w2.heap.size w2 wx) (fun _ j _ => L.length - (intOf j).toNat)
      case atStart => exact ⟨0, Nat.zero_le _, rfl, by simpa using HR.out, HB.out⟩
      case round =>
        obtain ⟨i, hi, rfl, hrow, hbel⟩ := hrel
        obtain ⟨Am, cm, rfl, hcm1, hcm2⟩ := (Row.rd hrow).shape
        obtain ⟨hc0, hro⟩ := hAt.out wr hbel
        by_cases hlti : i < L.length
        · have hlti' : (i : Int) < (L.length : Int) := by omega
          have i2 : (0 : Int) ≤ (i : Int) := by omega
          obtain ⟨bo, oo, rfl, hbo, x0, x1, x2, x3, x4⟩ := RdO.at_ hro rfl hlti
          have hEL : Hid (F ++ (L.take (i + 1)).map (evTh k) = (F ++ (L.take i).map (evTh k)) ++ [evTh k (ev L (i : Int))]) := Lib.hid (by rw [take_snoc hlti, List.map_append, ← List.append_assoc, ev_at L hlti]; rfl)
          have hlen : (F ++ (L.take i).map (evTh k)).length ≤ 1200 := by simp; omega
          obtain ⟨G, hG⟩ : ∃ G, ev L (i : Int) = G := ⟨_, rfl⟩
          obtain ⟨F2, hF2⟩ : ∃ F2, F ++ (L.take i).map (evTh k) = F2 := ⟨_, rfl⟩
          rw [hG] at x0 x1 x2 x3 x4 hEL
          rw [hF2] at hrow hcm1 hEL hlen ⊢
          obtain ⟨wb, hwb⟩ : ∃ wb, (wr.alloc (.cells #[.int .i64 G.kind, .int .i64 G.loc, .int .i64 G.v, .int .i64 G.w, .int .i64 G.ord] 47)).alloc (.cells #[.int .i64 G.kind, .int .i64 G.loc, .int .i64 G.v, .int .i64 G.w, .int .i64 G.ord, .int .i64 (k : Int)] 89) = wb := ⟨_, rfl⟩
          have bb : Below wr.heap.size wr wb := by rw [← hwb]; exact ((Below.refl _ wr).alloc (Nat.le_refl _) _).alloc (by simp) _
          have XB : Blk wb (wr.heap.size + 1) 89 (evCells (evTh k G)) := by rw [← hwb]; exact blk_at_new 89 (evCells (evTh k G)) (by simp)
          have HRB := Lib.hid (Row.below hrow bb)
          have HBB := Lib.hid (hbel.trans (bb.mono hbel.size))
          have HXB := Lib.hid XB
          have HWB := Lib.hid hwb
          clear hG hF2 hro hbel hrow bb XB hwb hc0
          go_wp2_with (at_builtin; rw [HWB.out]; refine wpList_app rfl (.tmp 33) (.tmp 37) rfl Tryz.underlying65 info89 rfl (by decide) (by decide) w2.heap.size _ _ _ (wr.heap.size + 1) _ rfl HRB.out rfl HXB.out rfl (evCells_one _) (by have := HBB.out.size; omega) (by omega) ?_; intro v6 w6 hrow6 hk6 hat6; obtain ⟨A6, c6, rfl, hc61, hc62⟩ := (Row.rd hrow6).shape)
          go_roundw
          case measure => simp [intOf]; all_goals omega
          case rel => exact ⟨i + 1, by omega, by go_num, by { rw [hEL.out, List.length_append, evs_app]; exact hrow6 }, HBB.out.trans (hk6.below HBB.out.size (fun g hg => (Row.at_lt HRB.out hg).1))⟩
        · have hin : i = L.length := by omega
          subst hin
          rw [List.take_length] at hrow hcm1 ⊢
          have HR2 := Lib.hid hrow
          have HB2 := Lib.hid hbel
          clear hrow hbel hc0 hro
          go_wp2
          go_roundw
          case measure => simp [intOf]; all_goals omega
          case rel => exact ⟨k + 1, by omega, by go_num, by { rw [hN.out]; exact HR2.out }, HB2.out⟩
    · have hin : k = q.length := by omega
      subst hin
      have HR := Lib.hid hrow
      have HB := Lib.hid hbel
      clear hrow hbel
      go_wp2
      go_ret2
      exact ⟨.slice Al _ cl, rfl, by { have h : RdE wr (.slice Al (esTo q q.length).length cl) (esOf q) := Row.rd HR.out; have e : esOf (expP ps) = esOf q := (by rw [HQE.out]); rw [e]; exact h }, fun g hg => ⟨Nat.le_trans B2.out.size (Row.at_lt HR.out hg).1, (Row.at_lt HR.out hg).2⟩, B2.out.trans (HB.out.mono B2.out.size)⟩
end Go.Proofs.YtkddckfgdiemkaaGreat
