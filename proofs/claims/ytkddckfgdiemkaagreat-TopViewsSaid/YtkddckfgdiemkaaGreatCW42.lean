/-
  The walk of left .
-/
import Derived.Test.YtkddckfgdiemkaaGreatCW39
set_option linter.unusedVariables false
set_option linter.unusedSimpArgs false
namespace Go.Proofs.YtkddckfgdiemkaaGreat
open Go.RowKit Go.Shelf Mem
set_option maxRecDepth 100000
attribute [local go_sem] Oper.semAt_some

/-- How many operations each of the first threads has. -/
def leftTo (q : List (List Ev)) (m : VM) (k : Nat) : List Int := (List.range k).map fun t => ((q.getD t []).length : Int) - ((m.th t).next : Int)
theorem leftTo_succ (q : List (List Ev)) (m : VM) (k : Nat) : leftTo q m (k + 1) = leftTo q m k ++ [((q.getD k []).length : Int) - ((m.th k).next : Int)] := by simp [leftTo, List.range_succ]
theorem left_any {w : World} {B g : Nat} {q : List (List Ev)} {m : VM} {z : MV} (h : IsV w B g q m z) (hq : q.length = m.thr.length) (hq3 : q.length ≤ 3) (hn : ∀ t, t < m.thr.length → (m.th t).next ≤ (q.getD t []).length ∧ (q.getD t []).length ≤ 1000) :
    Calls Tryz.prog 18 #[.pointer (some ⟨g, 0, none⟩)] w (Made (leftTo q m m.thr.length) w) := by
  have HI := Lib.hid h
  obtain ⟨A, c, hc1, hc2, htv, c5, _⟩ := h.thrs_
  obtain ⟨N, hN⟩ : ∃ N, m.thr.length = N := ⟨_, rfl⟩
  rw [hN] at c5 hc1 htv ⊢
  have HTV := Lib.hid htv
  have HN := Lib.hid hn
  have HNN := Lib.hid hN
  have HQL := Lib.hid hq
  clear h hn hN htv hq
  go_enter Tryz.func18, Tryz.ntmps18
  go_wp2
  go_loopw [3, 11] (fun v i wr => ∃ k : Nat, k ≤ N ∧ i = .int .i64 k ∧ Own wr w.heap.size v (leftTo q m k) ∧ Below w.heap.size w wr) (fun _ i _ => N - (intOf i).toNat)
  case atStart => exact ⟨0, Nat.zero_le _, rfl, Own.nil _ _, Below.refl _ _⟩
  case round =>
    obtain ⟨k, hk, rfl, hown, hbel⟩ := hrel
    obtain ⟨Av, cv, rfl, hcv1, hcv2⟩ := (Row.rd hown).shape
    by_cases hlt : k < N
    · have hlt' : (k : Int) < (N : Int) := by omega
      have k0 : (0 : Int) ≤ (k : Int) := by omega
      have hll : (leftTo q m k).length = k := by simp [leftTo]
      have hs := leftTo_succ q m k
      have h1 := HI.out.below hbel
      obtain ⟨A', c', _, _, htv', c5', hth⟩ := h1.thrs_
      rw [HTV.out] at htv'
      injection htv' with e1 e2 e3
      clear e2
      subst e1 e3
      obtain ⟨b, off, rfl, hb, hcs⟩ := hth k (by rw [HNN.out]; exact hlt)
      have u0 : wr.cell? ⟨b, off + k * 11, none⟩ = some (.int .i64 (m.th k).now.a) := hcs 0 (by decide)
      have u1 : wr.cell? ⟨b, off + k * 11 + 1, none⟩ = some (.int .i64 (m.th k).now.b) := hcs 1 (by decide)
      have u2 : wr.cell? ⟨b, off + k * 11 + 2, none⟩ = some (.int .i64 (m.th k).now.c) := hcs 2 (by decide)
      have u3 : wr.cell? ⟨b, off + k * 11 + 3, none⟩ = some (.int .i64 (m.th k).gained.a) := hcs 3 (by decide)
      have u4 : wr.cell? ⟨b, off + k * 11 + 4, none⟩ = some (.int .i64 (m.th k).gained.b) := hcs 4 (by decide)
      have u5 : wr.cell? ⟨b, off + k * 11 + 5, none⟩ = some (.int .i64 (m.th k).gained.c) := hcs 5 (by decide)
      have u6 : wr.cell? ⟨b, off + k * 11 + 6, none⟩ = some (.int .i64 (m.th k).given.a) := hcs 6 (by decide)
      have u7 : wr.cell? ⟨b, off + k * 11 + 7, none⟩ = some (.int .i64 (m.th k).given.b) := hcs 7 (by decide)
      have u8 : wr.cell? ⟨b, off + k * 11 + 8, none⟩ = some (.int .i64 (m.th k).given.c) := hcs 8 (by decide)
      have u9 : wr.cell? ⟨b, off + k * 11 + 9, none⟩ = some (z.rs.getD k default) := hcs 9 (by decide)
      have u10 : wr.cell? ⟨b, off + k * 11 + 10, none⟩ = some (.int .i64 ((m.th k).next : Int)) := hcs 10 (by decide)
      obtain ⟨TH, hTH⟩ : ∃ TH, m.th k = TH := ⟨_, rfl⟩
      have HTHN := Lib.hid hTH
      rw [hTH] at u0 u1 u2 u3 u4 u5 u6 u7 u8 u10 hs
      obtain ⟨Ar, cr, hrv, _, _⟩ := (Row.rd (HI.out.rd k (by rw [HNN.out]; exact hlt))).shape
      rw [hrv] at u9
      obtain ⟨nr, hnr⟩ : ∃ nr, (m.th k).read.length = nr := ⟨_, rfl⟩
      rw [hnr] at u9
      have HO := Lib.hid hown
      have HB := Lib.hid hbel
      have HS := Lib.hid hs
      have HLL := Lib.hid hll
      clear hown hbel hs h1 hth hcs hTH hrv hnr c5' hll
      go_upto_region 5 with fail
      obtain ⟨wa, hwa⟩ : ∃ wa, wr.alloc (.cells #[.int .i64 TH.now.a, .int .i64 TH.now.b, .int .i64 TH.now.c, .int .i64 TH.gained.a, .int .i64 TH.gained.b, .int .i64 TH.gained.c, .int .i64 TH.given.a, .int .i64 TH.given.b, .int .i64 TH.given.c, .slice Ar nr cr, .int .i64 (TH.next : Int)] 80) = wa := ⟨_, rfl⟩
      rw [hwa]
      have ba : Below wr.heap.size wr wa := by rw [← hwa]; exact (Below.refl _ wr).alloc (Nat.le_refl _) _
      have XT := (show Blk wa wr.heap.size 80 [.int .i64 TH.now.a, .int .i64 TH.now.b, .int .i64 TH.now.c, .int .i64 TH.gained.a, .int .i64 TH.gained.b, .int .i64 TH.gained.c, .int .i64 TH.given.a, .int .i64 TH.given.b, .int .i64 TH.given.c, .slice Ar nr cr, .int .i64 (TH.next : Int)] by rw [← hwa]; exact Blk.new wr 80 _)
      have hbw := HB.out.trans (ba.mono HB.out.size)
      have hp := HI.out.p.rd
      obtain ⟨Ap, cp, hAp, hcp1, hcp2⟩ := hp.shape
      rw [hAp] at hp
      have hkq : k < q.length := by rw [HQL.out, HNN.out]; exact hlt
      obtain ⟨bp, op, A1, cc1, rfl, hbp, hpc, hro, h4, h5⟩ := RdP.at_ hp rfl hkq
      obtain ⟨hnx, hnl⟩ := HN.out k (by rw [HNN.out]; exact hlt)
      have HSW := Lib.hid (fun W (hW : Below w.heap.size w W) => (⟨(HI.out.below hW).cells.1.trans (by rw [hAp]), (World.cell?_of_block (hW.block bp hbp)).trans hpc⟩ : W.cell? ⟨g, 0, none⟩ = some (.slice (some ⟨bp, op, none⟩) q.length cp) ∧ W.cell? ⟨bp, op + k, none⟩ = some (.slice A1 (q.getD k []).length cc1)))
      have HXT := Lib.hid XT
      have b1 : Below wa.heap.size wa wa.drew := (Below.refl _ wa).drew
      have HBA := Lib.hid hbw
      obtain ⟨L, hL⟩ : ∃ L, (q.getD k []).length = L := ⟨_, rfl⟩
      rw [hL] at HSW HS hnl
      have hs0 : wa.drew.cell? ⟨g, 0, none⟩ = some (.slice (some ⟨bp, op, none⟩) q.length cp) ∧ wa.drew.cell? ⟨bp, op + k, none⟩ = some (.slice A1 L cc1) ∧ wa.drew.cell? ⟨wr.heap.size, 10, none⟩ = some (.int .i64 (TH.next : Int)) := ⟨(HSW.out _ (hbw.drewN 1)).1, (HSW.out _ (hbw.drewN 1)).2, (XT.below b1).cell 10 rfl⟩
      have hsa : ∀ o, (wa.drew.alloc o).cell? ⟨g, 0, none⟩ = some (.slice (some ⟨bp, op, none⟩) q.length cp) ∧ (wa.drew.alloc o).cell? ⟨bp, op + k, none⟩ = some (.slice A1 L cc1) ∧ (wa.drew.alloc o).cell? ⟨wr.heap.size, 10, none⟩ = some (.int .i64 (TH.next : Int)) := fun o =>
        have hh : Below w.heap.size w (wa.drew.alloc o) := (hbw.drewN 1).alloc hbw.size o
        ⟨(HSW.out _ hh).1, (HSW.out _ hh).2, (XT.below (b1.alloc b1.size o)).cell 10 rfl⟩
      have HSA := Lib.hid hsa
      have HRA := Lib.hid (fun W (hW : Below wa.heap.size wa W) => Row.below (Row.below HO.out ba) hW)
      have kq0 : (k : Int) < (q.length : Int) := by omega
      have hk3 : k ≤ 3 := by omega
      have hwx : Hid (IntKind.i64.wrap ((L : Int) - (TH.next : Int)) = (L : Int) - (TH.next : Int)) := Lib.hid (by rw [HTHN.out] at hnx; rw [IntKind.wrap_i64]; omega)
      clear XT hp hpc hro u0 u1 u2 u3 u4 u5 u6 u7 u8 u9 u10 hwa hAp hL hsa hbw
      have hq0 := hs0.1
      have hq1 := hs0.2.1
      have hq2 := hs0.2.2
      go_region_law (first
        | (refine step_app rfl (.tmp 16) (.tmp 28) rfl Tryz.underlying28 info3 rfl (by decide) (by decide) w.heap.size _ _ _ wa.heap.size [.int .i64 (IntKind.i64.wrap ((L : Int) - (TH.next : Int)))] (by simp [Act.eval, Act.put]) (World.ownsRow.alloc (HRA.out _ b1) _) (by simp [Act.eval, Act.put]) (Blk.new wa 3 _) rfl (by intro u hu; rw [List.mem_singleton.1 hu]; rfl) (by have := HBA.out.size; simp; omega) (by rw [HLL.out]; omega) ?_; intro v6 w6 hrow6 hk6 hat6))
      all_goals
        have hb6 : Below w.heap.size w w6 := ((HBA.out.drewN 1).alloc HBA.out.size _).trans (hk6.below (Nat.le_trans HBA.out.size (by simp)) (fun j hj => (Row.at_lt (HRA.out _ b1) hj).1))
        have HB6 := Lib.hid hb6
        have HR6 := Lib.hid hrow6
        clear hrow6 hk6 hat6 hb6 hs0 hq0 hq1 hq2
        go_wp2
        go_roundw
        case measure => simp [intOf]; all_goals omega
        case rel => exact ⟨k + 1, by omega, by go_num, by { rw [HS.out]; have := HR6.out; rw [hwx.out] at this; simpa [Own, ints] using this }, HB6.out⟩
    · have hin : k = N := by omega
      subst hin
      have HO := Lib.hid hown
      have HB := Lib.hid hbel
      obtain ⟨L, hL⟩ : ∃ L, leftTo q m k = L := ⟨_, rfl⟩
      rw [hL] at HO hcv1
      rw [hL]
      have HLL := Lib.hid hL
      clear hown hbel hL
      go_wp2
      go_ret
      exact ⟨.slice Av L.length cv, rfl, by { have := HO.out; first | exact this | (rw [HLL.out]; exact this) }, HB.out⟩
end Go.Proofs.YtkddckfgdiemkaaGreat
