/-
  A manager gives back, waits and refuses as the document says: the walks of told, alike, and of the law.
-/
import Derived.Test.YtiokifkppfegfaaRef5
set_option linter.unusedVariables false
set_option linter.unusedSimpArgs false
namespace Go.Proofs.Ytiokifkppfegfaa
open Go.RowKit Mem Qm
set_option maxRecDepth 100000

theorem DidR.alloc {w : World} {B g gv m : Nat} {vb vi : Value} {r : Q × List Int × Int} {j : Nat} {e : Ending} {w' : World} {o : Obj} (h : DidR (w.alloc o) B g gv vb vi m r j e w') : DidR w B g gv vb vi m r j e w' := by
  obtain ⟨u, vb', vi', L', he, ho, hi, hs, hk, hm⟩ := h
  exact ⟨u, vb', vi', L', he, Row.mono ho (by simp), hi, hs, ((Kept.refl w _).alloc o).trans hk (fun _ _ h => h), fun i hi => (hm.1 i hi).imp id (fun h => Nat.le_trans (by simp) h), fun i hi => (hm.2 i hi).imp id (fun h => Nat.le_trans (by simp) h)⟩
theorem DidR.grow {w : World} {B g gv m : Nat} {vb vi : Value} {r : Q × List Int × Int} {j : Nat} {e : Ending} {w' : World} (h : DidR w B g gv vb vi m r j e w') : DidR w B g gv vb vi m r (j + 1) e w' := by
  obtain ⟨u, vb', vi', L', he, ho, hi, hs, hk, hm⟩ := h
  exact ⟨u, vb', vi', L', he, ho, hi, ⟨hs.look, Nat.le_succ_of_le hs.len⟩, hk, hm⟩
set_option maxHeartbeats 2000000 in
theorem told_did {w : World} {B g gv m : Nat} {vb vi : Value} {q : Q} {L : List Bi} (h : IsR w B g gv vb vi m q L) (hm1 : 1 ≤ m) (hm4 : m ≤ 4) (hI : Inv q) {j : Nat} (hg : Good q j) (hs : Sim q L j) (hj : j < 800000) (hBw : B ≤ w.heap.size) (d : Deed) :
    Calls Try.prog 24 #[.pointer (some ⟨g, 0, none⟩), deedV d] w (DidR w B g gv vb vi m (stepQ q d) (j + 1)) := by
  have h' : ∀ o : Obj, IsR (w.alloc o) B g gv vb vi m q L := fun o => h.below ((Below.refl _ _).alloc (Nat.le_refl _) o)
  have hB' : ∀ o : Obj, B ≤ (w.alloc o).heap.size := fun o => by simp; omega
  have hlen := hg.len
  have H := Lib.hid h'
  have HB := Lib.hid hB'
  have HG := Lib.hid hg
  have HI := Lib.hid hI
  have HS := Lib.hid hs
  obtain ⟨what, th, ho, ad⟩ := d
  clear h' hB' h hg hI hs
  simp only [deedV, stepQ]
  by_cases e0 : what = 0
  · subst e0
    go_enter Try.func24, Try.ntmps24
    go_wp2_with fail
    refine ((rin_any (H.out _) hm4 HS.out th).mono fun _ _ hd => hd.alloc.grow).mono ?_
    rintro e w' ⟨u, vb', vi', L', rfl, ho', hi, hs', hk, hm⟩
    have HH := Lib.hid (show Own w' w.heap.size u _ ∧ IsR w' B g gv vb' vi' m _ L' ∧ Sim _ L' _ ∧ Kept w w' (footR g gv vb vi) ∧ MovR w vb vi vb' vi' from ⟨ho', hi, hs', hk, hm⟩)
    clear ho' hi hs' hk hm
    go_wp2
    go_ret2
    exact ⟨u, vb', vi', L', rfl, HH.out⟩
  by_cases e1 : what = 1
  · subst e1
    go_enter Try.func24, Try.ntmps24
    go_wp2_with fail
    refine ((rout_any (H.out _) hm4 HI.out HS.out (by omega) (HB.out _) (by omega) th).mono fun _ _ hd => hd.alloc.grow).mono ?_
    rintro e w' ⟨u, vb', vi', L', rfl, ho', hi, hs', hk, hm⟩
    have HH := Lib.hid (show Own w' w.heap.size u _ ∧ IsR w' B g gv vb' vi' m _ L' ∧ Sim _ L' _ ∧ Kept w w' (footR g gv vb vi) ∧ MovR w vb vi vb' vi' from ⟨ho', hi, hs', hk, hm⟩)
    clear ho' hi hs' hk hm
    go_wp2
    go_ret2
    exact ⟨u, vb', vi', L', rfl, HH.out⟩
  by_cases e2 : what = 2
  · subst e2
    go_enter Try.func24, Try.ntmps24
    go_wp2_with fail
    refine ((rhold_any (H.out _) hm4 HS.out th ho ad).mono fun _ _ hd => hd.alloc.grow).mono ?_
    rintro e w' ⟨u, vb', vi', L', rfl, ho', hi, hs', hk, hm⟩
    have HH := Lib.hid (show Own w' w.heap.size u _ ∧ IsR w' B g gv vb' vi' m _ L' ∧ Sim _ L' _ ∧ Kept w w' (footR g gv vb vi) ∧ MovR w vb vi vb' vi' from ⟨ho', hi, hs', hk, hm⟩)
    clear ho' hi hs' hk hm
    go_wp2
    go_ret2
    exact ⟨u, vb', vi', L', rfl, HH.out⟩
  by_cases e3 : what = 3
  · subst e3
    go_enter Try.func24, Try.ntmps24
    go_wp2_with fail
    refine (rborn_any (H.out _) hm1 HS.out (by omega) HG.out.e0 (by have := HG.out.e1; omega) (HB.out _) ad).mono ?_
    rintro e w' ⟨vb', L', rfl, hl0, hi, hs', hk, hm⟩
    have HH := Lib.hid (show (bornQ q ad).2.1 = [] ∧ IsR w' B g gv vb' vi m _ L' ∧ Sim _ L' _ ∧ Kept _ w' (footR g gv vb vi) ∧ MovR _ vb vi vb' vi from ⟨hl0, hi, hs', hk, hm⟩)
    clear hl0 hi hs' hk hm
    go_wp2
    go_ret2
    obtain ⟨hl0, hi, hs', hk, hm⟩ := HH.out
    have hh : DidR (w.alloc _) B g gv vb vi m (bornQ q ad) (j + 1) (res (.slice none 0 0) (bornQ q ad).2.2) w' := ⟨_, vb', vi, L', rfl, by rw [hl0]; exact Own.nil _ _, hi, hs', hk, hm⟩
    exact hh.alloc
  by_cases e4 : what = 4
  · subst e4
    go_enter Try.func24, Try.ntmps24
    go_wp2_with fail
    refine ((rretire_any (H.out _) hm4 HI.out HS.out (by omega) (HB.out _) (by omega) th ad).mono fun _ _ hd => hd.alloc.grow).mono ?_
    rintro e w' ⟨u, vb', vi', L', rfl, ho', hi, hs', hk, hm⟩
    have HH := Lib.hid (show Own w' w.heap.size u _ ∧ IsR w' B g gv vb' vi' m _ L' ∧ Sim _ L' _ ∧ Kept w w' (footR g gv vb vi) ∧ MovR w vb vi vb' vi' from ⟨ho', hi, hs', hk, hm⟩)
    clear ho' hi hs' hk hm
    go_wp2
    go_ret2
    exact ⟨u, vb', vi', L', rfl, HH.out⟩
  by_cases e5 : what = 5
  · subst e5
    have HR := Lib.hid (show restQ q = (q.swept, backs q q.ws, 0) from if_pos ⟨Int.le_refl 0, by rw [(H.out (.cells #[] 0)).nm]; omega⟩)
    go_enter Try.func24, Try.ntmps24
    go_wp2_with fail
    refine (rrest_any (H.out _) hm4 HI.out.out (HB.out _) (by omega) (by have := HS.out.len; omega)).mono ?_
    rintro e w' ⟨u, vb', vi', rfl, ho', hi, hk, hm⟩
    have HH := Lib.hid (show Own w' _ u (backs q q.ws) ∧ IsR w' B g gv vb' vi' m q.swept _ ∧ Kept _ w' (footR g gv vb vi) ∧ MovR _ vb vi vb' vi' from ⟨ho', hi, hk, hm⟩)
    clear ho' hi hk hm
    go_wp2
    go_ret2
    obtain ⟨ho', hi, hk, hm⟩ := HH.out
    have hh : DidR (w.alloc (.cells #[.int .i64 5, .int .i64 th, .int .i64 ho, .int .i64 ad] 31)) B g gv vb vi m (restQ q) (j + 1) (res u 0) w' := by
      rw [HR.out]
      exact ⟨u, vb', vi', _, rfl, ho', hi, ⟨fun a => by rw [look_forgetAll]; simp only [clr, HS.out.look]; rfl, Nat.le_succ_of_le (Nat.le_trans (forgetAll_le _ _) HS.out.len)⟩, hk, hm⟩
    exact hh.alloc
  · rw [if_neg e0, if_neg e1, if_neg e2, if_neg e3, if_neg e4, if_neg e5]
    have h1 := H.out (.cells #[.int .i64 what, .int .i64 th, .int .i64 ho, .int .i64 ad] 31)
    have b0 : (what == 0) = false := beq_eq_false_iff_ne.2 e0
    have b1 : (what == 1) = false := beq_eq_false_iff_ne.2 e1
    have b2 : (what == 2) = false := beq_eq_false_iff_ne.2 e2
    have b3 : (what == 3) = false := beq_eq_false_iff_ne.2 e3
    have b4 : (what == 4) = false := beq_eq_false_iff_ne.2 e4
    have b5 : (what == 5) = false := beq_eq_false_iff_ne.2 e5
    have H1 := Lib.hid h1
    clear e0 e1 e2 e3 e4 e5 h1
    go_enter Try.func24, Try.ntmps24
    go_wp2
    go_ret2
    exact ⟨_, vb, vi, L, rfl, Own.nil _ _, H1.out, ⟨HS.out.look, Nat.le_succ_of_le HS.out.len⟩, (Kept.refl w _).alloc _, MovR.refl _ _ _⟩
theorem alike_any {w : World} {B B' g b g' gv m : Nat} {v vb vi : Value} {q : Q} {L : List Bi} (h : IsS w B g b v q) (h' : IsR w B' g' gv vb vi m q L) (hok : q.ok 0) (hl : q.ws.length < 1000000) :
    Calls Try.prog 25 #[.pointer (some ⟨g, 0, none⟩), .pointer (some ⟨g', 0, none⟩)] w (Tells w true) := by
  have HOK := Lib.hid hok
  clear hok
  go_enter Try.func25, Try.ntmps25
  go_wp2_with fail
  refine (waiting_yes h HOK.out hl).mono ?_
  rintro e w1 ⟨u1, rfl, o1, b1⟩
  have h1 := h.below b1
  have h1' := h'.below b1
  have s1 := b1.size
  clear h h'
  go_wp2_with fail
  refine (rwaiting_any h1' hl).mono ?_
  rintro e w2 ⟨u2, rfl, o2, b2⟩
  have h2 := h1.below b2
  have h2' := h1'.below b2
  have o12 := Row.below o1 b2
  have b12 := Lib.hid (b1.trans (b2.mono s1))
  have s2 := b12.out.size
  clear h1 h1' b1 b2 o1
  go_wp2_with fail
  refine (ints_any (Row.rd o12) (Row.rd o2)).mono ?_
  rintro e w3 ⟨rfl, b3⟩
  rw [show decide (addrs q.ws = addrs q.ws) = true from decide_eq_true rfl]
  have h3 := h2.below b3
  have h3' := h2'.below b3
  have b13 := Lib.hid (b12.out.trans (b3.mono s2))
  clear h2 h2' b3 o12 o2
  go_wp2_with fail
  refine (era_yes h3 HOK.out).mono ?_
  rintro e w4 ⟨rfl, rfl⟩
  go_wp2_with fail
  refine (rera_any h3').mono ?_
  rintro e w4 ⟨rfl, rfl⟩
  go_wp2
  go_ret
  exact ⟨rfl, b13.out⟩
/-- The two managers share no block. -/
def Disj (g b : Nat) (v : Value) (g' gv : Nat) (vb vi : Value) : Prop := ∀ k, foot g b v k → ¬ footR g' gv vb vi k
theorem Disj.left {w : World} {B g b g' gv m : Nat} {v v' vb vi : Value} {q : Q} {L : List Bi} (h : Disj g b v g' gv vb vi) (h' : IsR w B g' gv vb vi m q L) (hm : Moved w v v') : Disj g b v' g' gv vb vi := by
  rintro k (rfl | rfl | hk) hf
  · exact h k (.inl rfl) hf
  · exact h k (.inr (.inl rfl)) hf
  · rcases hm k hk with e | e
    · exact h k (.inr (.inr e)) hf
    · have := h'.foot_lt k hf; omega
theorem Disj.right {w : World} {B g b g' gv : Nat} {v vb vi vb' vi' : Value} {q : Q} (h : Disj g b v g' gv vb vi) (h' : IsS w B g b v q) (hm : MovR w vb vi vb' vi') : Disj g b v g' gv vb' vi' := fun k hk hf => by
  rcases hm.foot k hf with e | e
  · exact h k hk e
  · have := h'.foot_lt k hk; omega
set_option maxHeartbeats 2000000 in
theorem plays_walk {w : World} {n : Int} {u : Value} {ds : List Deed} (hd : RdD w u ds) :
    Calls Try.prog 7 #[.int .i64 n, u] w (Tells w true) := by
  obtain ⟨A, c, rfl, hc1, hc2⟩ := hd.shape
  have Hd := Lib.hid hd
  clear hd
  by_cases hl : ds.length ≤ 200
  · by_cases hn : 1 ≤ n ∧ n ≤ 4
    · obtain ⟨n0, n4⟩ := hn
      obtain ⟨m, rfl⟩ : ∃ m : Nat, n = m := ⟨n.toNat, by omega⟩
      have hm1 : 1 ≤ m := by omega
      have hm4 : m ≤ 4 := by omega
      go_enter Try.func7, Try.ntmps7
      go_wp2_with fail
      refine (new_yes n0 n4).mono ?_
      rintro e w1 ⟨rfl, h1, b1⟩
      have s1 := b1.size
      go_wp2_with fail
      refine (rnew_yes hm1 hm4).mono ?_
      rintro e w2 ⟨rfl, h2', b2⟩
      have h2 := h1.below b2
      have HD := Lib.hid (show Disj (w.heap.size + 1) w.heap.size (.slice none 0 0) (w1.heap.size + 1) w1.heap.size (.slice none 0 0) (.slice none 0 0) from fun k hk hf => by
        have e1 := h1.foot_lt k hk
        have e2 := h2'.foot_lo k hf
        omega)
      have B2 := Lib.hid (b1.trans (b2.mono s1))
      have s2 := B2.out.size
      have h2r : IsR w2 w.heap.size (w1.heap.size + 1) w1.heap.size (.slice none 0 0) (.slice none 0 0) m (q0 m) [] := ⟨by omega, by omega, h2'.nm, h2'.blk, h2'.vis, World.ownsRow_nil _ _ _ _, World.ownsRow_nil _ _ _ _⟩
      clear h1 b1 b2 h2'
      go_wp2_with fail
      refine (bound_yes n0 n4).mono ?_
      rintro e w3 ⟨rfl, rfl⟩
      go_wp2_with fail
      refine (rbound_yes n0 n4).mono ?_
      rintro e w3 ⟨rfl, rfl⟩
      go_wp2_with fail
      go_loopw [13] (fun i wr => ∃ (k : Nat) (v vb vi : Value) (q : Q) (L : List Bi), k ≤ ds.length ∧ i = .int .i64 k ∧ IsS wr w.heap.size (w.heap.size + 1) w.heap.size v q ∧ IsR wr w.heap.size (w1.heap.size + 1) w1.heap.size vb vi m q L ∧ Hid (Disj (w.heap.size + 1) w.heap.size v (w1.heap.size + 1) w1.heap.size vb vi) ∧ Hid (Good q k) ∧ Hid (Inv q) ∧ Hid (Sim q L k) ∧ Below w.heap.size w wr) (fun i _ => ds.length - (intOf i).toNat)
      case atStart => exact ⟨0, _, _, _, q0 m, [], Nat.zero_le _, rfl, h2, h2r, HD.out, good_q0 n4, inv_q0 n4, ⟨fun a => rfl, Nat.le_refl _⟩, B2.out⟩
      case round =>
        clear h2 h2r
        obtain ⟨k, v, vb, vi, q, L, hk, rfl, hi, hr, hdj, hgd, hinv, hsim, hbel⟩ := hrel
        by_cases hlt : k < ds.length
        · obtain ⟨b, off, rfl, hb, d0, d1, d2, d3⟩ := RdD.at_ (Hd.out.below hbel) hlt
          have hwd := Lib.hid (Hd.out.wf_at hlt)
          have hsz := hbel.size
          have HB := Lib.hid hbel
          have HOK := Lib.hid (show (stepQ q ds[k]).1.ok 0 from ⟨Int.le_refl 0, by rw [step_n, hr.nm]; omega⟩)
          have HGS := Lib.hid (good_step hgd.out hwd.out)
          have HIS := Lib.hid (inv_step hinv.out ds[k])
          clear hbel
          go_wp2_with fail
          refine (done_did hi hgd.out (by omega) hsz ds[k] hwd.out).mono ?_
          rintro e wa ⟨ua, v', rfl, oa, ia, ka, ma⟩
          have ba := HB.out.trans (ka.below hsz hi.foot_lo)
          have hra := hr.keep ka (fun i hf hs => hdj.out i hs hf)
          have HDA := Lib.hid (hdj.out.left hr ma)
          obtain ⟨b', off', hA', hb', d0', d1', d2', d3'⟩ := RdD.at_ (Hd.out.below ba) hlt
          injection hA' with hA'
          injection hA' with e1 e2
          subst e1 e2
          have BA := Lib.hid ba
          have sa := ba.size
          clear hi hr ka ma ba d0 d1 d2 d3
          go_wp2_with fail
          refine (told_did hra hm1 hm4 hinv.out hgd.out hsim.out (by omega) sa ds[k]).mono ?_
          rintro e wb ⟨ux, vb', vi', L', rfl, ox, ix, hs', kx, mx⟩
          have bb := BA.out.trans (kx.below sa hra.foot_lo)
          have iab := ia.keep kx (fun i hf hs => HDA.out i hf hs)
          have oab := Row.keep oa kx (hra.apart oa)
          have HDB := Lib.hid (HDA.out.right ia mx)
          have HSS := Lib.hid hs'
          have BB := Lib.hid bb
          have sb := bb.size
          have hee : ((stepQ q ds[k]).2.2 == (stepQ q ds[k]).2.2) = true := beq_iff_eq.2 rfl
          have hen : ((stepQ q ds[k]).2.2 != (stepQ q ds[k]).2.2) = false := by simp
          clear ia oa hra kx mx bb d0' d1' d2' d3' hs'
          go_wp2_with fail
          refine (ints_any (Row.rd oab) (Row.rd ox)).mono ?_
          rintro e wd ⟨rfl, bd⟩
          rw [show decide ((stepQ q ds[k]).2.1 = (stepQ q ds[k]).2.1) = true from decide_eq_true rfl]
          have j1 := iab.below bd
          have j2 := ix.below bd
          have BD := Lib.hid (BB.out.trans (bd.mono sb))
          have sd := BD.out.size
          clear iab ix bd oab ox
          go_wp2_with fail
          refine (alike_any j1 j2 HOK.out (by have := HGS.out.len; omega)).mono ?_
          rintro e we ⟨rfl, be⟩
          have J1 := Lib.hid (j1.below be)
          have J2 := Lib.hid (j2.below be)
          have BE := Lib.hid (BD.out.trans (be.mono sd))
          clear j1 j2 be
          go_wp2
          go_roundw
          case measure => simp [intOf]; omega
          case rel => exact ⟨k + 1, v', vb', vi', _, L', by omega, by go_num, J1.out, J2.out, HDB.out, HGS.out, HIS.out, HSS.out, BE.out⟩
        · have HB := Lib.hid hbel
          have hsz := hbel.size
          clear hbel hi hr
          go_wp2_with (go_at_call 10; refine (sane_any _).mono ?_; rintro e w6 ⟨rfl, b7⟩)
          go_ret
          exact ⟨rfl, HB.out.trans (b7.mono hsz)⟩
    · have Hn := Lib.hid hn
      clear hn
      by_cases hp : 0 < ds.length
      · go_enter Try.func7, Try.ntmps7
        go_wp2_with fail
        refine (new_no Hn.out).mono ?_
        rintro e w1 ⟨rfl, rfl⟩
        go_wp2_with fail
        refine (rnew_no Hn.out).mono ?_
        rintro e w1 ⟨rfl, rfl⟩
        go_wp2_with fail
        refine (bound_no Hn.out).mono ?_
        rintro e w1 ⟨rfl, rfl⟩
        go_wp2_with fail
        refine (rbound_no Hn.out).mono ?_
        rintro e w1 ⟨rfl, rfl⟩
        go_wp2_with fail
        refine wp_loop_rounds 1 ?_
        rw [rounds_succ]
        go_wp2_with fail
        refine (sane_any _).mono ?_
        rintro e w6 ⟨rfl, b7⟩
        go_wp2
        go_ret
        exact ⟨rfl, b7⟩
      · go_enter Try.func7, Try.ntmps7
        go_wp2_with fail
        refine (new_no Hn.out).mono ?_
        rintro e w1 ⟨rfl, rfl⟩
        go_wp2_with fail
        refine (rnew_no Hn.out).mono ?_
        rintro e w1 ⟨rfl, rfl⟩
        go_wp2_with fail
        refine (bound_no Hn.out).mono ?_
        rintro e w1 ⟨rfl, rfl⟩
        go_wp2_with fail
        refine (rbound_no Hn.out).mono ?_
        rintro e w1 ⟨rfl, rfl⟩
        go_wp2_with fail
        refine wp_loop_rounds 1 ?_
        rw [rounds_succ]
        go_wp2_with fail
        refine (sane_any _).mono ?_
        rintro e w6 ⟨rfl, b7⟩
        go_wp2
        go_ret
        exact ⟨rfl, b7⟩
  · go_enter Try.func7, Try.ntmps7
    go_wp2_with (go_at_call 10; refine (sane_any _).mono ?_; rintro e w6 ⟨rfl, b7⟩)
    go_ret
    exact ⟨rfl, b7⟩
end Go.Proofs.Ytiokifkppfegfaa
