/-
  The walk of outcome.
-/
import Derived.Test.YtkddckfgdiemkaaGreatCW42
import Derived.Test.YtkddckfgdiemkaaGreatCP16
import Derived.Test.YtkddckfgdiemkaaGreatCW39
set_option linter.unusedVariables false
set_option linter.unusedSimpArgs false
namespace Go.Proofs.YtkddckfgdiemkaaGreat
open Go.RowKit Go.Shelf Mem
set_option maxRecDepth 100000
attribute [local go_sem] Oper.semAt_some

def readsTo (m : VM) (k : Nat) : List Int := (m.thr.take k).flatMap (·.read)
theorem readsTo_succ (m : VM) {k : Nat} (hk : k < m.thr.length) : readsTo m (k + 1) = readsTo m k ++ (m.th k).read := by
  unfold readsTo VM.th
  rw [take_snoc hk, List.flatMap_append, List.getD, List.getElem?_eq_getElem hk]; simp
theorem readsTo_len (m : VM) (h : ∀ t, t < m.thr.length → (m.th t).read.length ≤ 1000) : ∀ k, k ≤ m.thr.length → (readsTo m k).length ≤ 1000 * k
  | 0, _ => by simp [readsTo]
  | k + 1, hk => by rw [readsTo_succ m (by omega), List.length_append]; have := readsTo_len m h k (by omega); have := h k (by omega); omega
def outTo2 (m : VM) : Nat → List Int
  | 0 => readsTo m m.thr.length
  | k + 1 => outTo2 m k ++ [lastV m k]
theorem outTo2_end (m : VM) : outTo2 m 3 = outV m := by
  simp only [outTo2, outV, readsTo, List.take_length, List.append_assoc]; rfl
theorem outTo2_len (m : VM) (k : Nat) : (outTo2 m k).length = (readsTo m m.thr.length).length + k := by
  induction k with
  | zero => rfl
  | succ k ih => rw [outTo2, List.length_append, ih]; rfl
theorem idx57 (x0 x1 x2 : Value) (w : World) : (Instr.index 57 (.agg #[x0, x1, x2]) (.int .i64 0)).run Tryz.prog w = .ok x0 w ∧ (Instr.index 57 (.agg #[x0, x1, x2]) (.int .i64 1)).run Tryz.prog w = .ok x1 w ∧ (Instr.index 57 (.agg #[x0, x1, x2]) (.int .i64 2)).run Tryz.prog w = .ok x2 w := ⟨by kernel_rfl, by kernel_rfl, by kernel_rfl⟩
set_option maxHeartbeats 4000000 in
theorem voutcome_any {w : World} {B g : Nat} {q : List (List Ev)} {m : VM} {z : MV} (h : IsV w B g q m z) (ho : VmOk m) (hl0 : ∀ l, l < 3 → 0 < (m.ln l).length) (hn3 : m.thr.length ≤ 3) (hrd : ∀ t, t < m.thr.length → (m.th t).read.length ≤ 1000) :
    Calls Tryz.prog 20 #[.pointer (some ⟨g, 0, none⟩)] w (Made (outV m) w) := by
  have HI := Lib.hid h
  obtain ⟨A, c, hc1, hc2, htv, c5, _⟩ := h.thrs_
  have hlen := readsTo_len m hrd
  obtain ⟨N, hN⟩ : ∃ N, m.thr.length = N := ⟨_, rfl⟩
  rw [hN] at c5 hc1 htv hlen hn3
  have HTV := Lib.hid htv
  have HNN := Lib.hid hN
  have HRDL := Lib.hid hrd
  have HO := Lib.hid ho
  have HL0 := Lib.hid hl0
  have HLEN := Lib.hid hlen
  clear h hN htv hrd ho hl0 hlen
  go_enter Tryz.func20, Tryz.ntmps20
  go_wp2
  go_loopw [3, 13] (fun v i wr => ∃ k : Nat, k ≤ N ∧ i = .int .i64 k ∧ Own wr w.heap.size v (readsTo m k) ∧ Below w.heap.size w wr) (fun _ i _ => N - (intOf i).toNat)
  case atStart => exact ⟨0, Nat.zero_le _, rfl, Own.nil _ _, Below.refl _ _⟩
  case round =>
    obtain ⟨k, hk, rfl, hown, hbel⟩ := hrel
    obtain ⟨Av, cv, rfl, hcv1, hcv2⟩ := (Row.rd hown).shape
    by_cases hlt : k < N
    · have hlt' : (k : Int) < (N : Int) := by omega
      have k0 : (0 : Int) ≤ (k : Int) := by omega
      have hs := readsTo_succ m (k := k) (by rw [HNN.out]; exact hlt)
      have h1 := HI.out.below hbel
      obtain ⟨A', c', _, _, htv', c5', hth⟩ := h1.thrs_
      rw [HTV.out] at htv'
      injection htv' with e1 e2 e3
      clear e2
      subst e1 e3
      obtain ⟨b, off, rfl, hb, hcs⟩ := hth k (by rw [HNN.out]; exact hlt)
      have u0 : wr.cell? ⟨b, off + k * 11, none⟩ = some (.int .i64 (m.th k).now.a) := hcs 0 (by decide)
      have u1 : wr.cell? ⟨b, off + k * 11 + 1, none⟩ = some (.int .i64 (m.th k).now.b) := hcs 1 (by decide)
      have u2 : wr.cell? ⟨b, off + k * 11 + 2, none⟩ = some (.int .i64 (m.th k).now.c) := hcs 2 (by decide)
      have u3 : wr.cell? ⟨b, off + k * 11 + 3, none⟩ = some (.int .i64 (m.th k).gained.a) := hcs 3 (by decide)
      have u4 : wr.cell? ⟨b, off + k * 11 + 4, none⟩ = some (.int .i64 (m.th k).gained.b) := hcs 4 (by decide)
      have u5 : wr.cell? ⟨b, off + k * 11 + 5, none⟩ = some (.int .i64 (m.th k).gained.c) := hcs 5 (by decide)
      have u6 : wr.cell? ⟨b, off + k * 11 + 6, none⟩ = some (.int .i64 (m.th k).given.a) := hcs 6 (by decide)
      have u7 : wr.cell? ⟨b, off + k * 11 + 7, none⟩ = some (.int .i64 (m.th k).given.b) := hcs 7 (by decide)
      have u8 : wr.cell? ⟨b, off + k * 11 + 8, none⟩ = some (.int .i64 (m.th k).given.c) := hcs 8 (by decide)
      have u9 : wr.cell? ⟨b, off + k * 11 + 9, none⟩ = some (z.rs.getD k default) := hcs 9 (by decide)
      have u10 : wr.cell? ⟨b, off + k * 11 + 10, none⟩ = some (.int .i64 ((m.th k).next : Int)) := hcs 10 (by decide)
      obtain ⟨TH, hTH⟩ : ∃ TH, m.th k = TH := ⟨_, rfl⟩
      rw [hTH] at u0 u1 u2 u3 u4 u5 u6 u7 u8 u10 hs
      have hrdk := HRDL.out k (by rw [HNN.out]; exact hlt)
      have hkr := h1.rd k (by rw [HNN.out]; exact hlt)
      rw [hTH] at hrdk hkr
      obtain ⟨Ar, cr, hrv, _, _⟩ := (Row.rd hkr).shape
      rw [hrv] at u9 hkr
      have hll := HLEN.out k hk
      obtain ⟨RT, hRT⟩ : ∃ RT, readsTo m k = RT := ⟨_, rfl⟩
      rw [hRT] at hown hcv1 hs hll ⊢
      have HO1 := Lib.hid hown
      have HB := Lib.hid hbel
      have HS := Lib.hid hs
      have HKR := Lib.hid hkr
      clear hown hbel hs h1 hth hcs hTH hrv c5' hkr hRT
      go_upto_region 5 with fail
      obtain ⟨wa, hwa⟩ : ∃ wa, wr.alloc (.cells #[.int .i64 TH.now.a, .int .i64 TH.now.b, .int .i64 TH.now.c, .int .i64 TH.gained.a, .int .i64 TH.gained.b, .int .i64 TH.gained.c, .int .i64 TH.given.a, .int .i64 TH.given.b, .int .i64 TH.given.c, .slice Ar TH.read.length cr, .int .i64 (TH.next : Int)] 80) = wa := ⟨_, rfl⟩
      rw [hwa]
      have ba : Below wr.heap.size wr wa := by rw [← hwa]; exact (Below.refl _ wr).alloc (Nat.le_refl _) _
      have XT := (show Blk wa wr.heap.size 80 [.int .i64 TH.now.a, .int .i64 TH.now.b, .int .i64 TH.now.c, .int .i64 TH.gained.a, .int .i64 TH.gained.b, .int .i64 TH.gained.c, .int .i64 TH.given.a, .int .i64 TH.given.b, .int .i64 TH.given.c, .slice Ar TH.read.length cr, .int .i64 (TH.next : Int)] by rw [← hwa]; exact Blk.new wr 80 _)
      have x9 := XT.cell 9 rfl
      have HBA := Lib.hid (HB.out.trans (ba.mono HB.out.size))
      have HRA := Lib.hid (Row.below HO1.out ba)
      have HKA := Lib.hid (Row.below HKR.out ba)
      clear hwa ba XT u0 u1 u2 u3 u4 u5 u6 u7 u8 u9 u10
      cases Ar with
      | none =>
        have hz : TH.read = [] := by
          rcases HKA.out.2 with ⟨_, h⟩ | ⟨g', cap, cur, h, _⟩
          · exact List.eq_nil_of_length_eq_zero h
          · cases h
        have hcr : cr = 0 := by
          rcases HKA.out.2 with ⟨h, _⟩ | ⟨g', cap, cur, h, _⟩
          · injection h
          · cases h
        have HS2 : Hid (readsTo m (k + 1) = RT) := Lib.hid (by rw [HS.out, hz, List.append_nil])
        have hz0 : TH.read.length = 0 := by rw [hz]; rfl
        rw [hz0, hcr] at x9
        obtain ⟨i0, hi0, _⟩ := info_one info3
        clear hz hcr hz0
        go_upto_region 6 with (at_builtin; refine wpList_append_own_none rfl (.tmp 17) (.tmp 19) 28 rfl w.heap.size 3 i0 1 Tryz.underlying28 hi0 _ _ _ rfl HRA.out rfl ?_)
        go_wp2
        go_roundw
        case measure => simp [intOf]; all_goals omega
        case rel => exact ⟨k + 1, by omega, by go_num, by { rw [HS2.out]; exact HRA.out }, HBA.out⟩
      | some ad =>
        have HKS : Hid (RdS wa (.slice (some ad) TH.read.length cr) TH.read) := Lib.hid ⟨Row.rd HKA.out, ad, cr, rfl⟩
        obtain ⟨nr, hnr⟩ : ∃ nr, TH.read.length = nr := ⟨_, rfl⟩
        rw [hnr] at x9 hrdk
        have HNR := Lib.hid hnr
        have HSZ : w.heap.size ≤ wa.heap.size := HBA.out.size
        clear hnr
        go_upto_region 6 with (at_builtin; refine wpList_app_ints rfl (.tmp 17) (.tmp 19) rfl w.heap.size _ _ rfl HRA.out _ TH.read rfl (by have := HKS.out; rw [HNR.out] at this; exact this) HSZ (by rw [HNR.out]; omega) ?_; intro v6 w6 hrow6 hk6 hat6; obtain ⟨A6, c6, rfl, hc61, hc62⟩ := (Row.rd hrow6).shape)
        have HB6 := Lib.hid (HBA.out.trans (hk6.below HSZ (fun j hj => (Row.at_lt HRA.out hj).1)))
        have HR6 := Lib.hid hrow6
        clear hrow6 hk6 hat6
        go_wp2
        go_roundw
        case measure => simp [intOf]; all_goals omega
        case rel => exact ⟨k + 1, by omega, by go_num, by { rw [HS.out]; simpa only [Own, List.length_append] using HR6.out }, HB6.out⟩
    · have hin : k = N := by omega
      subst hin
      clear hlt
      have hl0 := HL0.out
      have h1 := HI.out.below hbel
      obtain ⟨A0, c0, _, _, hz0, d0, _⟩ := h1.line (show 0 < 3 by decide)
      obtain ⟨A1, c1, _, _, hz1, d1, _⟩ := h1.line (show 1 < 3 by decide)
      obtain ⟨A2, c2, _, _, hz2, d2, _⟩ := h1.line (show 2 < 3 by decide)
      have hll := HLEN.out k (Nat.le_refl _)
      have HS0 : Hid (outTo2 m 0 = readsTo m k) := Lib.hid (by unfold outTo2; rw [HNN.out])
      have hl2 := fun j => outTo2_len m j
      rw [HNN.out] at hl2
      have HO1 := Lib.hid (show Own wr w.heap.size (.slice Av (readsTo m k).length cv) (outTo2 m 0) by rw [HS0.out]; exact hown)
      have HB := Lib.hid hbel
      obtain ⟨p0, hn0⟩ : ∃ x, (m.ln 0).length = x + 1 := ⟨(m.ln 0).length - 1, by have := hl0 0 (by decide); omega⟩
      obtain ⟨p1, hn1⟩ : ∃ x, (m.ln 1).length = x + 1 := ⟨(m.ln 1).length - 1, by have := hl0 1 (by decide); omega⟩
      obtain ⟨p2, hn2⟩ : ∃ x, (m.ln 2).length = x + 1 := ⟨(m.ln 2).length - 1, by have := hl0 2 (by decide); omega⟩
      rw [hn0] at d0 hz0
      rw [hn1] at d1 hz1
      rw [hn2] at d2 hz2
      have HLZ : Hid ((z.ln 0 = .slice A0 (p0 + 1) c0 ∧ z.ln 1 = .slice A1 (p1 + 1) c1 ∧ z.ln 2 = .slice A2 (p2 + 1) c2) ∧ (m.ln 0).length = p0 + 1 ∧ (m.ln 1).length = p1 + 1 ∧ (m.ln 2).length = p2 + 1) := Lib.hid ⟨⟨hz0, hz1, hz2⟩, hn0, hn1, hn2⟩
      obtain ⟨rl, hrl⟩ : ∃ x, (readsTo m k).length = x := ⟨_, rfl⟩
      rw [hrl] at hll hl2 HO1 hcv1 ⊢
      have HL2 := Lib.hid hl2
      have e2 : (2 + 0 : Nat) = 2 := rfl
      clear hl0 hown hbel h1 hz0 hz1 hz2 hn0 hn1 hn2 hrl hl2 e2
      go_wp2
      have HIX := Lib.hid (idx57 (.slice A0 (p0 + 1) c0) (.slice A1 (p1 + 1) c1) (.slice A2 (p2 + 1) c2))
      clear d0 d1 d2 hcv1
      go_loopw [3, 26] (fun v i wr2 => ∃ j : Nat, j ≤ 3 ∧ i = .int .i64 j ∧ Own wr2 w.heap.size v (outTo2 m j) ∧ Below w.heap.size w wr2) (fun _ i _ => 3 - (intOf i).toNat)
      case atStart => exact ⟨0, by decide, rfl, by { have := HO1.out; have h2 := HL2.out 0; simpa only [Own, h2, Nat.add_zero] using this }, HB.out⟩
      case round =>
        obtain ⟨j, hj, rfl, hown, hbel⟩ := hrel
        obtain ⟨Aw, cw, rfl, hcw1, hcw2⟩ := (Row.rd hown).shape
        have hl2 := HL2.out j
        by_cases hlt : j < 3
        · have h1 := HI.out.below hbel
          have hs : outTo2 m (j + 1) = outTo2 m j ++ [lastV m j] := rfl
          have H1 := Lib.hid h1
          have HSS := Lib.hid hs
          have HLL := Lib.hid hl2
          have HOWN := Lib.hid hown
          have HBEL := Lib.hid hbel
          clear h1 hs hl2 hown hbel
          have jlt : (j : Int) < 3 := by omega
          go_upto_region 9 with fail
          have h1 := H1.out
          have hs := HSS.out
          have hl2 := HLL.out
          have hown := HOWN.out
          have hbel := HBEL.out
          clear H1 HSS HLL HOWN HBEL
          rcases (by omega : j = 0 ∨ j = 1 ∨ j = 2) with rfl | rfl | rfl
          · obtain ⟨A', c', _, _, hz', _, hrd⟩ := h1.line (show 0 < 3 by decide)
            rw [HLZ.out.1.1] at hz'
            injection hz' with e1 e2 e3
            clear e2
            subst e1 e3
            have hpl : p0 < (m.ln 0).length := by rw [HLZ.out.2.1]; omega
            obtain ⟨bl, ol, rfl, hbl, hcl⟩ := RdI.atn hrd rfl hpl
            obtain ⟨y0, y1⟩ := HO.out.ln 0 (by decide) p0 _ (List.getElem?_eq_getElem hpl)
            rw [int_getD hpl] at hcl
            obtain ⟨y, hy⟩ : ∃ y : Nat, (m.ln 0)[p0] = (y : Int) := ⟨((m.ln 0)[p0]).toNat, by omega⟩
            rw [hy] at hcl y0 y1
            obtain ⟨Am, cm, hcm1, hcm2, _, cm1, hms⟩ := h1.msgs_
            obtain ⟨bm, om, rfl, hbm, wc, _⟩ := hms y (by omega)
            have hlv : lastV m 0 = (m.msg y).word := by unfold lastV; rw [HLZ.out.2.1, Nat.add_sub_cancel, int_getD hpl, hy]; rfl
            rw [hlv] at hs
            obtain ⟨wd, hwd⟩ : ∃ x, (m.msg y).word = x := ⟨_, rfl⟩
            rw [hwd] at hs wc
            obtain ⟨M, hM⟩ : ∃ x, m.msgs.length = x := ⟨_, rfl⟩
            rw [hM] at cm1 y1
            obtain ⟨OT, hOT⟩ : ∃ x, outTo2 m 0 = x := ⟨_, rfl⟩
            rw [hOT] at hown hs hcw1 hl2 ⊢
            have HS := Lib.hid hs
            have HOW := Lib.hid hown
            have HBE := Lib.hid hbel
            have HSZ : w.heap.size ≤ wr.heap.size := hbel.size
            have hOl : OT.length ≤ 4000 := by omega
            have pp0 : (0 : Int) ≤ (p0 : Int) := by omega
            have pp1 : (p0 : Int) < (p0 : Int) + 1 := by omega
            have pll := HO.out.ll 0 (by decide)
            have pw : IntKind.i64.wrap (p0 : Int) = (p0 : Int) := by rw [IntKind.wrap_i64]; omega
            clear pll
            clear h1 hs hrd hy hms hlv hwd hM hOT hown hbel hcm1 hpl hl2
            clear hlt hj jlt
            rw [show ((0 : Nat) : Int) = 0 from rfl]
            have ix := fun W' => (HIX.out W').1
            go_upto_region 10 with fail
            go_region_law (first
              | (refine step_app rfl (.tmp 29) (.tmp 43) rfl Tryz.underlying28 info3 rfl (by decide) (by decide) w.heap.size (.slice Aw OT.length cw) OT.length (ints OT) wr.heap.size [.int .i64 wd] (by simp [Act.eval, Act.put]) (World.ownsRow.alloc (by first | exact HOW.out | exact Row.below HOW.out ((Below.refl _ _).drewN _)) _) (by simp [Act.eval, Act.put]) (by first | exact Blk.new wr 3 _ | exact Blk.new (wr.drewN _) 3 _) rfl (by intro u hu; rw [List.mem_singleton.1 hu]; rfl) (by simp; omega) (by omega) ?_; intro v6 w6 hrow6 hk6 hat6))
            all_goals
              have hk7 : Kept wr w6 (fun j => (Value.slice Aw OT.length cw).ownBlock = some j) := by first | exact ((Kept.refl wr _).alloc _).trans hk6 (fun _ _ h => h) | exact (((Kept.refl wr _).alloc _).drew).trans hk6 (fun _ _ h => h)
              have HB6 := Lib.hid (HBE.out.trans (hk7.below HSZ (fun i hi => (Row.at_lt HOW.out hi).1)))
              have HR6 := Lib.hid hrow6
              clear hrow6 hk6 hat6 hk7
              go_wp2
              go_roundw
              case measure => simp [intOf]; all_goals omega
              case rel => exact ⟨1, by omega, by go_num, by { rw [HS.out]; simpa [Own, ints] using HR6.out }, HB6.out⟩
          · obtain ⟨A', c', _, _, hz', _, hrd⟩ := h1.line (show 1 < 3 by decide)
            rw [HLZ.out.1.2.1] at hz'
            injection hz' with e1 e2 e3
            clear e2
            subst e1 e3
            have hpl : p1 < (m.ln 1).length := by rw [HLZ.out.2.2.1]; omega
            obtain ⟨bl, ol, rfl, hbl, hcl⟩ := RdI.atn hrd rfl hpl
            obtain ⟨y0, y1⟩ := HO.out.ln 1 (by decide) p1 _ (List.getElem?_eq_getElem hpl)
            rw [int_getD hpl] at hcl
            obtain ⟨y, hy⟩ : ∃ y : Nat, (m.ln 1)[p1] = (y : Int) := ⟨((m.ln 1)[p1]).toNat, by omega⟩
            rw [hy] at hcl y0 y1
            obtain ⟨Am, cm, hcm1, hcm2, _, cm1, hms⟩ := h1.msgs_
            obtain ⟨bm, om, rfl, hbm, wc, _⟩ := hms y (by omega)
            have hlv : lastV m 1 = (m.msg y).word := by unfold lastV; rw [HLZ.out.2.2.1, Nat.add_sub_cancel, int_getD hpl, hy]; rfl
            rw [hlv] at hs
            obtain ⟨wd, hwd⟩ : ∃ x, (m.msg y).word = x := ⟨_, rfl⟩
            rw [hwd] at hs wc
            obtain ⟨M, hM⟩ : ∃ x, m.msgs.length = x := ⟨_, rfl⟩
            rw [hM] at cm1 y1
            obtain ⟨OT, hOT⟩ : ∃ x, outTo2 m 1 = x := ⟨_, rfl⟩
            rw [hOT] at hown hs hcw1 hl2 ⊢
            have HS := Lib.hid hs
            have HOW := Lib.hid hown
            have HBE := Lib.hid hbel
            have HSZ : w.heap.size ≤ wr.heap.size := hbel.size
            have hOl : OT.length ≤ 4000 := by omega
            have pp0 : (0 : Int) ≤ (p1 : Int) := by omega
            have pp1 : (p1 : Int) < (p1 : Int) + 1 := by omega
            have pll := HO.out.ll 1 (by decide)
            have pw : IntKind.i64.wrap (p1 : Int) = (p1 : Int) := by rw [IntKind.wrap_i64]; omega
            clear pll
            clear h1 hs hrd hy hms hlv hwd hM hOT hown hbel hcm1 hpl hl2
            clear hlt hj jlt
            rw [show ((1 : Nat) : Int) = 1 from rfl]
            have ix := fun W' => (HIX.out W').2.1
            go_upto_region 10 with fail
            go_region_law (first
              | (refine step_app rfl (.tmp 29) (.tmp 43) rfl Tryz.underlying28 info3 rfl (by decide) (by decide) w.heap.size (.slice Aw OT.length cw) OT.length (ints OT) wr.heap.size [.int .i64 wd] (by simp [Act.eval, Act.put]) (World.ownsRow.alloc (by first | exact HOW.out | exact Row.below HOW.out ((Below.refl _ _).drewN _)) _) (by simp [Act.eval, Act.put]) (by first | exact Blk.new wr 3 _ | exact Blk.new (wr.drewN _) 3 _) rfl (by intro u hu; rw [List.mem_singleton.1 hu]; rfl) (by simp; omega) (by omega) ?_; intro v6 w6 hrow6 hk6 hat6))
            all_goals
              have hk7 : Kept wr w6 (fun j => (Value.slice Aw OT.length cw).ownBlock = some j) := by first | exact ((Kept.refl wr _).alloc _).trans hk6 (fun _ _ h => h) | exact (((Kept.refl wr _).alloc _).drew).trans hk6 (fun _ _ h => h)
              have HB6 := Lib.hid (HBE.out.trans (hk7.below HSZ (fun i hi => (Row.at_lt HOW.out hi).1)))
              have HR6 := Lib.hid hrow6
              clear hrow6 hk6 hat6 hk7
              go_wp2
              go_roundw
              case measure => simp [intOf]; all_goals omega
              case rel => exact ⟨2, by omega, by go_num, by { rw [HS.out]; simpa [Own, ints] using HR6.out }, HB6.out⟩
          · obtain ⟨A', c', _, _, hz', _, hrd⟩ := h1.line (show 2 < 3 by decide)
            rw [HLZ.out.1.2.2] at hz'
            injection hz' with e1 e2 e3
            clear e2
            subst e1 e3
            have hpl : p2 < (m.ln 2).length := by rw [HLZ.out.2.2.2]; omega
            obtain ⟨bl, ol, rfl, hbl, hcl⟩ := RdI.atn hrd rfl hpl
            obtain ⟨y0, y1⟩ := HO.out.ln 2 (by decide) p2 _ (List.getElem?_eq_getElem hpl)
            rw [int_getD hpl] at hcl
            obtain ⟨y, hy⟩ : ∃ y : Nat, (m.ln 2)[p2] = (y : Int) := ⟨((m.ln 2)[p2]).toNat, by omega⟩
            rw [hy] at hcl y0 y1
            obtain ⟨Am, cm, hcm1, hcm2, _, cm1, hms⟩ := h1.msgs_
            obtain ⟨bm, om, rfl, hbm, wc, _⟩ := hms y (by omega)
            have hlv : lastV m 2 = (m.msg y).word := by unfold lastV; rw [HLZ.out.2.2.2, Nat.add_sub_cancel, int_getD hpl, hy]; rfl
            rw [hlv] at hs
            obtain ⟨wd, hwd⟩ : ∃ x, (m.msg y).word = x := ⟨_, rfl⟩
            rw [hwd] at hs wc
            obtain ⟨M, hM⟩ : ∃ x, m.msgs.length = x := ⟨_, rfl⟩
            rw [hM] at cm1 y1
            obtain ⟨OT, hOT⟩ : ∃ x, outTo2 m 2 = x := ⟨_, rfl⟩
            rw [hOT] at hown hs hcw1 hl2 ⊢
            have HS := Lib.hid hs
            have HOW := Lib.hid hown
            have HBE := Lib.hid hbel
            have HSZ : w.heap.size ≤ wr.heap.size := hbel.size
            have hOl : OT.length ≤ 4000 := by omega
            have pp0 : (0 : Int) ≤ (p2 : Int) := by omega
            have pp1 : (p2 : Int) < (p2 : Int) + 1 := by omega
            have pll := HO.out.ll 2 (by decide)
            have pw : IntKind.i64.wrap (p2 : Int) = (p2 : Int) := by rw [IntKind.wrap_i64]; omega
            clear pll
            clear h1 hs hrd hy hms hlv hwd hM hOT hown hbel hcm1 hpl hl2
            clear hlt hj jlt
            rw [show ((2 : Nat) : Int) = 2 from rfl]
            have ix := fun W' => (HIX.out W').2.2
            go_upto_region 10 with fail
            go_region_law (first
              | (refine step_app rfl (.tmp 29) (.tmp 43) rfl Tryz.underlying28 info3 rfl (by decide) (by decide) w.heap.size (.slice Aw OT.length cw) OT.length (ints OT) wr.heap.size [.int .i64 wd] (by simp [Act.eval, Act.put]) (World.ownsRow.alloc (by first | exact HOW.out | exact Row.below HOW.out ((Below.refl _ _).drewN _)) _) (by simp [Act.eval, Act.put]) (by first | exact Blk.new wr 3 _ | exact Blk.new (wr.drewN _) 3 _) rfl (by intro u hu; rw [List.mem_singleton.1 hu]; rfl) (by simp; omega) (by omega) ?_; intro v6 w6 hrow6 hk6 hat6))
            all_goals
              have hk7 : Kept wr w6 (fun j => (Value.slice Aw OT.length cw).ownBlock = some j) := by first | exact ((Kept.refl wr _).alloc _).trans hk6 (fun _ _ h => h) | exact (((Kept.refl wr _).alloc _).drew).trans hk6 (fun _ _ h => h)
              have HB6 := Lib.hid (HBE.out.trans (hk7.below HSZ (fun i hi => (Row.at_lt HOW.out hi).1)))
              have HR6 := Lib.hid hrow6
              clear hrow6 hk6 hat6 hk7
              go_wp2
              go_roundw
              case measure => simp [intOf]; all_goals omega
              case rel => exact ⟨3, by omega, by go_num, by { rw [HS.out]; simpa [Own, ints] using HR6.out }, HB6.out⟩
        · have hj3 : j = 3 := by omega
          subst hj3
          rw [outTo2_end] at hown hcw1 ⊢
          have HOW := Lib.hid hown
          have HBE := Lib.hid hbel
          obtain ⟨OV, hOV⟩ : ∃ x, outV m = x := ⟨_, rfl⟩
          rw [hOV] at HOW hcw1 ⊢
          have HOVV := Lib.hid hOV
          clear hown hbel hOV hl2
          go_wp2
          go_ret
          exact ⟨.slice Aw OV.length cw, rfl, by rw [HOVV.out]; exact HOW.out, HBE.out⟩
end Go.Proofs.YtkddckfgdiemkaaGreat
