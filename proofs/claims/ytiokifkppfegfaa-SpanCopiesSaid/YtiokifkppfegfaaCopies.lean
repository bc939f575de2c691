/-
  A copy of a manager goes on alike, and neither is changed by the other one's deeds: the walk of the law.
-/
import Derived.Test.YtiokifkppfegfaaLaws0
set_option linter.unusedVariables false
set_option linter.unusedSimpArgs false
namespace Go.Proofs.Ytiokifkppfegfaa
open Go.RowKit Mem Qm
set_option maxRecDepth 100000
/-- Two managers share no block. -/
def Apart (g b : Nat) (v : Value) (g' b' : Nat) (v' : Value) : Prop := ∀ k, foot g b v k → ¬ foot g' b' v' k
theorem Apart.symm {g b g' b' : Nat} {v v' : Value} (h : Apart g b v g' b' v') : Apart g' b' v' g b v := fun k h1 h2 => h k h2 h1
theorem Apart.moved {w : World} {B g b g' b' : Nat} {v v' u : Value} {q : Q} (h : Apart g b v g' b' v') (h' : IsS w B g' b' v' q) (hm : Moved w v u) : Apart g b u g' b' v' := by
  rintro k (rfl | rfl | hk) hf
  · exact h k (.inl rfl) hf
  · exact h k (.inr (.inl rfl)) hf
  · rcases hm k hk with e | e
    · exact h k (.inr (.inr e)) hf
    · have := h'.foot_lt k hf; omega
theorem Apart.fresh {w : World} {B g b g' b' : Nat} {v v' : Value} {q q' : Q} (h : IsS w B g b v q) (w' : World) (h' : IsS w' w.heap.size g' b' v' q') : Apart g b v g' b' v' := by
  intro k hf hf'
  have h1 := h.foot_lt k hf
  have h2 := h'.foot_lo k hf'
  omega
theorem IsS.lower {w : World} {B B' g b : Nat} {v : Value} {q : Q} (h : IsS w B g b v q) (hB : B' ≤ B) : IsS w B' g b v q := ⟨Nat.le_trans hB h.lo, Nat.le_trans hB h.lob, h.blk, h.map, Row.mono h.row hB⟩
set_option maxHeartbeats 2000000 in
theorem copies_walk {w : World} {n : Int} {u u2 : Value} {ds ms : List Deed} (hd : RdD w u ds) (hm : RdD w u2 ms) :
    Calls Try.prog 8 #[.int .i64 n, u, u2] w (Tells w true) := by
  obtain ⟨A, c, rfl, hc1, hc2⟩ := hd.shape
  obtain ⟨A', c', rfl, hc1', hc2'⟩ := hm.shape
  have Hd := Lib.hid hd
  have Hm := Lib.hid hm
  clear hd hm
  by_cases hl : ds.length ≤ 200
  · by_cases hl2 : ms.length ≤ 200
    · by_cases hn : 1 ≤ n ∧ n ≤ 4
      · obtain ⟨n0, n4⟩ := hn
        go_enter Try.func8, Try.ntmps8
        go_wp2_with fail
        refine (played_yes n0 n4 Hd.out (by omega)).mono ?_
        rintro e w1 ⟨g, p, v, rfl, h1, b1⟩
        have hN := run_n (q0 n) ds
        have hG := (run_good (good_q0 n4) ds Hd.out.wf).mono (show 0 + ds.length ≤ 200 by omega)
        obtain ⟨qa, hqa⟩ : ∃ qa, runQ (q0 n) ds = qa := ⟨_, rfl⟩
        rw [hqa] at h1 hN hG
        have hL := hG.len
        have HG := Lib.hid hG
        have HQA := Lib.hid hqa
        have hN' : qa.n = n := hN
        have HN := Lib.hid hN'
        have hok := Lib.hid (show qa.ok 0 from ⟨Int.le_refl 0, by rw [hN']; omega⟩)
        have s1 := b1.size
        clear hN hN' hqa hG
        go_wp2_with fail
        refine (copy_yes h1 hok.out (by omega)).mono ?_
        rintro e w2 ⟨g2, p2, v2, rfl, h2, b2⟩
        have h1' := h1.below b2
        have ap1 := Lib.hid (Apart.fresh h1 w2 h2)
        have b2' := Lib.hid (b1.trans (b2.mono s1))
        have s2 := b2.size
        have h2l : IsS w2 w.heap.size g2 p2 v2 qa := h2.lower s1
        clear h1 b1 b2 h2
        go_wp2_with fail
        refine (played_yes n0 n4 (Hd.out.below b2'.out) (by omega)).mono ?_
        rintro e w3 ⟨g3, p3, v3, rfl, h3, b3⟩
        rw [HQA.out] at h3
        have h1'' := h1'.below b3
        have h2'' := h2l.below b3
        have ap2 := Lib.hid (Apart.fresh h1' w3 h3)
        have ap3 := Lib.hid (Apart.fresh h2l w3 h3)
        have b3' := Lib.hid (b2'.out.trans (b3.mono (by omega)))
        have h3l : IsS w3 w.heap.size g3 p3 v3 qa := h3.lower (by omega)
        have s3 := b3.size
        clear h1' h2l b3 h3
        go_wp2_with fail
        refine (waiting_yes h1'' hok.out (by omega)).mono ?_
        rintro e w4 ⟨ub, rfl, ob, b4⟩
        have k1 := h1''.below b4
        have k2 := h2''.below b4
        have k3 := h3l.below b4
        have b4' := Lib.hid (b3'.out.trans (b4.mono (by omega)))
        have OB := Lib.hid (Row.mono ob (by omega : w.heap.size ≤ w3.heap.size))
        have s4 := b4.size
        clear h1'' h2'' h3l b4 ob
        go_wp2_with fail
        go_loopw [11] (fun i wr => ∃ (k : Nat) (vc vx : Value), k ≤ ms.length ∧ i = .int .i64 k ∧ IsS wr w.heap.size g p v qa ∧ IsS wr w.heap.size g2 p2 vc (runQ qa (ms.take k)) ∧ IsS wr w.heap.size g3 p3 vx (runQ qa (ms.take k)) ∧
          Hid (Apart g p v g2 p2 vc ∧ Apart g p v g3 p3 vx ∧ Apart g2 p2 vc g3 p3 vx) ∧ Own wr w.heap.size ub (addrs qa.ws) ∧ Below w.heap.size w wr) (fun i _ => ms.length - (intOf i).toNat)
        case atStart => exact ⟨0, v2, v3, Nat.zero_le _, rfl, k1, k2, k3, ⟨ap1.out, ap2.out, ap3.out⟩, OB.out, b4'.out⟩
        case round =>
          clear k1 k2 k3
          obtain ⟨k, vc, vx, hk, rfl, i1, i2, i3, hap, hob, hbel⟩ := hrel
          have HB := Lib.hid hbel
          have hsz := hbel.size
          have hgk := (run_good HG.out (ms.take k) (fun d hd => Hm.out.wf d (List.mem_of_mem_take hd))).mono (show 200 + (ms.take k).length ≤ 400 by simp; omega)
          have HGK := Lib.hid hgk
          have hq4 : (runQ qa (ms.take k)).n ≤ 4 := by rw [run_n, HN.out]; exact n4
          have hws : (runQ qa (ms.take k)).ws.length ≤ 400 := hgk.len
          have HQ4 := Lib.hid hq4
          have HWS := Lib.hid hws
          by_cases hlt : k < ms.length
          · obtain ⟨b, off, rfl, hb, d0, d1, d2, d3⟩ := RdD.at_ (Hm.out.below hbel) hlt
            have Hr := Lib.hid (runQ_snoc (q := qa) hlt)
            clear hbel hq4 hws hgk
            go_wp2_with fail
            refine (done_did i2 HGK.out (by omega) hsz ms[k] (Hm.out.wf_at hlt)).mono ?_
            rintro e wa ⟨ua, vc', rfl, oa, ia, ka, ma⟩
            have ba := HB.out.trans (ka.below hsz i2.foot_lo)
            have i1a := i1.keep ka (fun i hf => hap.out.1 i hf)
            have i3a := i3.keep ka (fun i hf => hap.out.2.2.symm i hf)
            have hoba := Own.keep hob i2 ka
            have hapa := Lib.hid (show Apart g p v g2 p2 vc' ∧ Apart g2 p2 vc' g3 p3 vx from ⟨(Apart.moved (hap.out.1.symm) i1 ma).symm, Apart.moved hap.out.2.2 i3 ma⟩)
            obtain ⟨b', off', hA', hb', d0', d1', d2', d3'⟩ := RdD.at_ (Hm.out.below ba) hlt
            injection hA' with hA'
            injection hA' with e1 e2
            subst e1 e2
            have BA := Lib.hid ba
            have sa := ba.size
            have ska := ka.size
            clear i1 i2 i3 hob ka ma ba d0 d1 d2 d3
            go_wp2_with fail
            refine (done_did i3a HGK.out (by omega) sa ms[k] (Hm.out.wf_at hlt)).mono ?_
            rintro e wb ⟨ux, vx', rfl, ox, ix, kx, mx⟩
            have bb := BA.out.trans (kx.below sa i3a.foot_lo)
            have i1b := i1a.keep kx (fun i hf => hap.out.2.1 i hf)
            have i2b := ia.keep kx (fun i hf => hapa.out.2 i hf)
            have hobb := Own.keep hoba i3a kx
            have oab := Own.keep oa i3a kx
            have hapb := Lib.hid (show Apart g p v g2 p2 vc' ∧ Apart g p v g3 p3 vx' ∧ Apart g2 p2 vc' g3 p3 vx' from ⟨hapa.out.1, (Apart.moved (hap.out.2.1.symm) i1a mx).symm, (Apart.moved (hapa.out.2.symm) ia mx).symm⟩)
            have BB := Lib.hid bb
            have sb := bb.size
            have hee : ((stepQ (runQ qa (ms.take k)) ms[k]).2.2 == (stepQ (runQ qa (ms.take k)) ms[k]).2.2) = true := beq_iff_eq.2 rfl
            have hen : ((stepQ (runQ qa (ms.take k)) ms[k]).2.2 != (stepQ (runQ qa (ms.take k)) ms[k]).2.2) = false := by simp
            clear i1a i3a ia hoba oa kx mx bb d0' d1' d2' d3'
            go_wp2_with fail
            refine (ints_any (Row.rd oab) (Row.rd ox)).mono ?_
            rintro e wd ⟨rfl, bd⟩
            rw [show decide ((stepQ (runQ qa (ms.take k)) ms[k]).2.1 = (stepQ (runQ qa (ms.take k)) ms[k]).2.1) = true from decide_eq_true rfl]
            have BD := Lib.hid bd
            have J1 := Lib.hid (i1b.below bd)
            have J2 := Lib.hid (i2b.below bd)
            have J3 := Lib.hid (ix.below bd)
            have JO := Lib.hid (Row.below hobb bd)
            clear i1b i2b ix hobb oab ox bd
            go_wp2
            go_roundw
            case measure => simp [intOf]; omega
            case rel => exact ⟨k + 1, vc', vx', by omega, by go_num, J1.out, by rw [Hr.out]; exact J2.out, by rw [Hr.out]; exact J3.out, hapb.out, JO.out, BB.out.trans (BD.out.mono sb)⟩
          · have hkn : k = ms.length := by omega
            have HK := Lib.hid (show ms.take k = ms by rw [hkn, List.take_length])
            rw [HK.out] at i2 i3
            have hok2 := Lib.hid (show (runQ qa ms).ok 0 from ⟨Int.le_refl 0, by rw [run_n, HN.out]; omega⟩)
            have hws2 : (runQ qa ms).ws.length ≤ 400 := by have := HWS.out; rwa [HK.out] at this
            clear hkn hq4 hws hbel hgk
            go_wp2_with fail
            refine (waiting_yes i1 hok.out (by omega)).mono ?_
            rintro e x1 ⟨y1, rfl, z1, t1⟩
            have i1 := i1.below t1
            have i2 := i2.below t1
            have i3 := i3.below t1
            have hob := Row.below hob t1
            have T1 := Lib.hid (HB.out.trans (t1.mono hsz))
            have s5 := T1.out.size
            clear t1
            go_wp2_with fail
            refine (ints_any (Row.rd z1) (Row.rd hob)).mono ?_
            rintro e x2 ⟨rfl, t2⟩
            rw [show decide (addrs qa.ws = addrs qa.ws) = true from decide_eq_true rfl]
            have i1 := i1.below t2
            have i2 := i2.below t2
            have i3 := i3.below t2
            have T2 := Lib.hid (T1.out.trans (t2.mono s5))
            have s6 := T2.out.size
            clear t2 z1 hob
            go_wp2_with fail
            refine (waiting_yes i2 hok2.out (by omega)).mono ?_
            rintro e x3 ⟨y3, rfl, z3, t3⟩
            have i1 := i1.below t3
            have i2 := i2.below t3
            have i3 := i3.below t3
            have T3 := Lib.hid (T2.out.trans (t3.mono s6))
            have s7 := T3.out.size
            clear t3
            go_wp2_with fail
            refine (waiting_yes i3 hok2.out (by omega)).mono ?_
            rintro e x4 ⟨y4, rfl, z4, t4⟩
            have i1 := i1.below t4
            have i2 := i2.below t4
            have i3 := i3.below t4
            have z3 := Row.below z3 t4
            have T4 := Lib.hid (T3.out.trans (t4.mono s7))
            have s8 := T4.out.size
            clear t4
            go_wp2_with fail
            refine (ints_any (Row.rd z3) (Row.rd z4)).mono ?_
            rintro e x5 ⟨rfl, t5⟩
            rw [show decide (addrs (runQ qa ms).ws = addrs (runQ qa ms).ws) = true from decide_eq_true rfl]
            have i1 := i1.below t5
            have i2 := i2.below t5
            have i3 := i3.below t5
            have T5 := Lib.hid (T4.out.trans (t5.mono s8))
            have s9 := T5.out.size
            clear t5 z3 z4
            go_wp2_with fail
            go_loopw [16] (fun i wr => ∃ (k : Nat) (vm : Value), k ≤ ms.length ∧ i = .int .i64 k ∧ IsS wr w.heap.size g p vm (runQ qa (ms.take k)) ∧ IsS wr w.heap.size g2 p2 vc (runQ qa ms) ∧ IsS wr w.heap.size g3 p3 vx (runQ qa ms) ∧
              Hid (Apart g p vm g2 p2 vc ∧ Apart g p vm g3 p3 vx) ∧ Below w.heap.size w wr) (fun i _ => ms.length - (intOf i).toNat)
            case atStart => exact ⟨0, v, Nat.zero_le _, rfl, i1, i2, i3, ⟨hap.out.1, hap.out.2.1⟩, T5.out⟩
            case round =>
              clear i1 i2 i3 hlt HK HWS HQ4 hok HGK
              obtain ⟨k, vm, hk, rfl, i1, i2, i3, hap2, hbel⟩ := hrel
              have HB2 := Lib.hid hbel
              have hsz2 := hbel.size
              have HGK := Lib.hid ((run_good HG.out (ms.take k) (fun d hd => Hm.out.wf d (List.mem_of_mem_take hd))).mono (show 200 + (ms.take k).length ≤ 400 by simp; omega))
              by_cases hlt : k < ms.length
              · obtain ⟨b, off, rfl, hb, d0, d1, d2, d3⟩ := RdD.at_ (Hm.out.below hbel) hlt
                have Hr := Lib.hid (runQ_snoc (q := qa) hlt)
                clear hbel
                go_wp2_with fail
                refine (done_did i1 HGK.out (by omega) hsz2 ms[k] (Hm.out.wf_at hlt)).mono ?_
                rintro e wa ⟨ua, vm', rfl, oa, ia, ka, ma⟩
                have BA := Lib.hid (HB2.out.trans (ka.below hsz2 i1.foot_lo))
                have J2 := Lib.hid (i2.keep ka (fun i hf => hap2.out.1.symm i hf))
                have J3 := Lib.hid (i3.keep ka (fun i hf => hap2.out.2.symm i hf))
                have JA := Lib.hid (show Apart g p vm' g2 p2 vc ∧ Apart g p vm' g3 p3 vx from ⟨Apart.moved hap2.out.1 i2 ma, Apart.moved hap2.out.2 i3 ma⟩)
                have J1 := Lib.hid ia
                clear i1 i2 i3 ia oa ka ma d0 d1 d2 d3
                go_wp2
                go_roundw
                case measure => simp [intOf]; omega
                case rel => exact ⟨k + 1, vm', by omega, by go_num, by rw [Hr.out]; exact J1.out, J2.out, J3.out, JA.out, BA.out⟩
              · have hkn : k = ms.length := by omega
                rw [hkn, List.take_length] at i1
                clear hkn hbel HGK
                go_wp2_with fail
                refine (waiting_yes i1 hok2.out (by omega)).mono ?_
                rintro e x1 ⟨y1, rfl, z1, t1⟩
                have i2 := i2.below t1
                have i3 := i3.below t1
                have T1 := Lib.hid (HB2.out.trans (t1.mono hsz2))
                have s5 := T1.out.size
                clear t1 i1
                go_wp2_with fail
                refine (waiting_yes i3 hok2.out (by omega)).mono ?_
                rintro e x2 ⟨y2, rfl, z2, t2⟩
                have i2 := i2.below t2
                have i3 := i3.below t2
                have z1 := Row.below z1 t2
                have T2 := Lib.hid (T1.out.trans (t2.mono s5))
                have s6 := T2.out.size
                clear t2
                go_wp2_with fail
                refine (ints_any (Row.rd z1) (Row.rd z2)).mono ?_
                rintro e x3 ⟨rfl, t3⟩
                rw [show decide (addrs (runQ qa ms).ws = addrs (runQ qa ms).ws) = true from decide_eq_true rfl]
                have i2 := i2.below t3
                have i3 := i3.below t3
                have T3 := Lib.hid (T2.out.trans (t3.mono s6))
                have s7 := T3.out.size
                clear t3 z1 z2
                go_wp2_with fail
                refine (waiting_yes i2 hok2.out (by omega)).mono ?_
                rintro e x4 ⟨y4, rfl, z4, t4⟩
                have i3 := i3.below t4
                have T4 := Lib.hid (T3.out.trans (t4.mono s7))
                have s8 := T4.out.size
                clear t4 i2
                go_wp2_with fail
                refine (waiting_yes i3 hok2.out (by omega)).mono ?_
                rintro e x5 ⟨y5, rfl, z5, t5⟩
                have z4 := Row.below z4 t5
                have T5 := Lib.hid (T4.out.trans (t5.mono s8))
                have s9 := T5.out.size
                clear t5 i3
                go_wp2_with fail
                refine (ints_any (Row.rd z4) (Row.rd z5)).mono ?_
                rintro e x6 ⟨rfl, t6⟩
                rw [show decide (addrs (runQ qa ms).ws = addrs (runQ qa ms).ws) = true from decide_eq_true rfl]
                have T6 := Lib.hid (T5.out.trans (t6.mono s9))
                have s10 := T6.out.size
                clear t6 z4 z5
                go_wp2_with fail
                refine (sane_any _).mono ?_
                rintro e x7 ⟨rfl, t7⟩
                have T7 := Lib.hid (T6.out.trans (t7.mono s10))
                clear t7
                go_wp2
                go_ret
                exact ⟨rfl, T7.out⟩
      · have Hn := Lib.hid hn
        clear hn
        go_enter Try.func8, Try.ntmps8
        go_wp2_with fail
        refine (played_no Hn.out Hd.out).mono ?_
        rintro e w1 ⟨rfl, rfl⟩
        go_wp2_with (go_at_call 10; refine (sane_any _).mono ?_; rintro e w6 ⟨rfl, b7⟩)
        go_ret
        exact ⟨rfl, b7⟩
    · go_enter Try.func8, Try.ntmps8
      go_wp2_with (go_at_call 10; refine (sane_any _).mono ?_; rintro e w6 ⟨rfl, b7⟩)
      go_ret
      exact ⟨rfl, b7⟩
  · go_enter Try.func8, Try.ntmps8
    go_wp2_with (go_at_call 10; refine (sane_any _).mono ?_; rintro e w6 ⟨rfl, b7⟩)
    go_ret
    exact ⟨rfl, b7⟩
end Go.Proofs.Ytiokifkppfegfaa
