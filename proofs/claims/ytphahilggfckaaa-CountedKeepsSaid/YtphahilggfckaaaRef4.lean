/-
  The document's manager, of the kind that counts: the walks of In, Out, Hold, Bears.
-/
import Derived.Test.YtphahilggfckaaaRef3
set_option linter.unusedVariables false
set_option linter.unusedSimpArgs false
namespace Go.Proofs.Ytphahilggfckaaa
open Go.RowKit Mem Qm
set_option maxRecDepth 100000

theorem kept_same {w : World} {g j : Nat} {t : TypeId} {cur : Array Value} {v : Value} (hg : w.heap[g]? = some (.cells cur t (0, 0))) (hv : cur[j]? = some v) : Kept w (w.setCell ⟨g, j, none⟩ v) (fun _ => False) :=
  ⟨rfl, rfl, rfl, by simp [World.setCell], fun k hk _ => by
    by_cases e : k = g
    · subst e
      rw [heap_setCell_same _ _ _ _ _ _ hg, hg]
      obtain ⟨hlt, hv⟩ := Array.getElem?_eq_some_iff.1 hv
      rw [← hv, Array.setIfInBounds, dif_pos hlt, Array.set_getElem_self]
    · exact Below.heap_setCell w ⟨g, j, none⟩ v k e⟩
def DidM (w : World) (B g : Nat) (mv : Value) (r : Q × List Int × Int) (e : Ending) (w' : World) : Prop := SweptM w B g mv r.2.1 r.1 (fun u => res u r.2.2) e w'
section
variable {w : World} {B g : Nat} {mv : Value} {q : Q} {bl : List Bool} {its : List It}
theorem DidM.same {e : Ending} {w' : World} {x : Int} (h : IsM w B g mv q bl its) (he : e = res (.slice none 0 0) x) (hb : Below w.heap.size w w') : DidM w B g mv (q, [], x) e w' :=
  ⟨_, mv, bl, its, he, Own.nil _ _, h.below hb, Kept.of_below hb _, fun _ h => .inl h⟩
theorem IsM.set_low (h : IsM w B g mv q bl its) {i : Nat} (hi : i < 8) : IsM (w.setCell ⟨g, 20 + i, none⟩ (.int .i64 0)) B g mv q bl its := by
  have kk : Kept w (w.setCell ⟨g, 20 + i, none⟩ (.int .i64 0)) (fun i => i = g) := (Kept.refl w (fun i => i = g)).setCell (p := ⟨g, 20 + i, none⟩) (.inl rfl) _
  refine ⟨h.lo, ?_, Row.keep h.row kk (fun i hi e => h.ne (e ▸ hi)), h.h12, h.b4, h.eqw, h.n1, h.n4, h.len⟩
  have := Blk.set h.blk (20 + i) (.int .i64 0)
  rwa [m_set_low h.h12 h.b4 hi] at this
theorem IsM.set_ins (h : IsM w B g mv q bl its) {i : Nat} (hi : i < 4) (x : Bool) : IsM (w.setCell ⟨g, 16 + i, none⟩ (.bool x)) B g mv q (bl.set i x) its := by
  have kk : Kept w (w.setCell ⟨g, 16 + i, none⟩ (.bool x)) (fun i => i = g) := (Kept.refl w (fun i => i = g)).setCell (p := ⟨g, 16 + i, none⟩) (.inl rfl) _
  refine ⟨h.lo, ?_, Row.keep h.row kk (fun i hi e => h.ne (e ▸ hi)), h.h12, by rw [List.length_set]; exact h.b4, h.eqw, h.n1, h.n4, h.len⟩
  have := Blk.set h.blk (16 + i) (.bool x)
  rwa [m_set_ins h.h12 h.b4 hi] at this
theorem h12_put (q : Q) {t k : Nat} (a : Int) (hi : t * 3 + k < q.hs.length) : h12 (q.put t k a) = (h12 q).set (t * 3 + k) a := by
  rw [h12, h12, List.set_append, if_pos hi]; rfl
theorem IsM.set_hold (h : IsM w B g mv q bl its) {t k : Nat} (ht : t < q.n) (hk : k < 3) (a : Int) : IsM (w.setCell ⟨g, 4 + (t * 3 + k), none⟩ (.int .i64 a)) B g mv (q.put t k a) bl its := by
  have kk : Kept w (w.setCell ⟨g, 4 + (t * 3 + k), none⟩ (.int .i64 a)) (fun i => i = g) := (Kept.refl w (fun i => i = g)).setCell (p := ⟨g, 4 + (t * 3 + k), none⟩) (.inl rfl) _
  have hlen := h.len
  have hn4 := h.n4
  have hp := h12_put q a (t := t) (k := k) (by omega)
  refine ⟨h.lo, ?_, Row.keep h.row kk (fun i hi e => h.ne (e ▸ hi)), by rw [hp, List.length_set]; exact h.h12, h.b4, h.eqw, h.n1, h.n4, by simp only [Q.put, List.length_set]; exact h.len⟩
  have := Blk.set h.blk (4 + (t * 3 + k)) (.int .i64 a)
  rwa [m_set_hold h.h12 (by omega) a (q.put t k a) rfl hp] at this
theorem keep_g (w : World) (g j : Nat) (mv v : Value) : Kept w (w.setCell ⟨g, j, none⟩ v) (footM g mv) := (Kept.refl w (footM g mv)).setCell (p := ⟨g, j, none⟩) (.inl (.inl rfl)) _
set_option maxHeartbeats 1000000 in
theorem rin_any (h : IsM w B g mv q bl its) (t : Int) :
    Calls Try.prog 35 #[.pointer (some ⟨g, 0, none⟩), .int .i64 t] w (DidM w B g mv (inQ q t)) := by
  by_cases ht : q.ok t
  · obtain ⟨t0, rfl⟩ : ∃ k : Nat, t = k := ⟨t.toNat, by have := ht.1; omega⟩
    have ht0 : t0 < 4 := by have := ht.2; have := h.n4; omega
    have ht1 : (t0 : Int) < 4 := by omega
    have HQ := Lib.hid (show inQ q (t0 : Int) = (q, [], 0) from if_pos ht)
    have Ht := Lib.hid ht
    have c1 := h.blk.cell 1 rfl
    obtain ⟨bx, e16⟩ : ∃ bx, w.cell? ⟨g, 16 + t0, none⟩ = some (.bool bx) := ⟨_, h.blk.cell (16 + t0) (m_ins h.h12 h.b4 ht0)⟩
    have f16 := h.blk.free (16 + t0)
    have I1 := Lib.hid (h.set_ins ht0 true)
    have K1 := Lib.hid (keep_g w g (16 + t0) mv (.bool true))
    have H := Lib.hid h
    clear ht h
    go_enter Try.func35, Try.ntmps35
    go_wp2_with fail
    refine (thread_yes H.out _ Ht.out).mono ?_
    rintro e w1 ⟨rfl, rfl⟩
    go_wp2_with fail
    generalize w.setCell ⟨g, 16 + t0, none⟩ (.bool true) = W1 at *
    have d3 := I1.out.blk.cell 3 rfl
    have e20 := I1.out.blk.cell (20 + t0) (m_low I1.out.h12 I1.out.b4 (by omega))
    have f20 := I1.out.blk.free (20 + t0)
    have I2 := Lib.hid (I1.out.set_low (i := t0) (by omega)).drew
    have K2 := Lib.hid ((K1.out.trans (keep_g W1 g (20 + t0) mv (.int .i64 0)) (fun _ _ h => h)).drew)
    clear c1 e16 f16
    go_region
    generalize World.drew _ = W2 at *
    clear d3 e20 f20
    have d3 := I2.out.blk.cell 3 rfl
    have e24 := I2.out.blk.cell (20 + (4 + t0)) (m_low I2.out.h12 I2.out.b4 (by omega))
    rw [← Nat.add_assoc] at e24
    have f24 := I2.out.blk.free (24 + t0)
    have I3 := Lib.hid (I2.out.set_low (i := 4 + t0) (by omega)).drew
    have K3 := Lib.hid ((K2.out.trans (keep_g W2 g (20 + (4 + t0)) mv (.int .i64 0)) (fun _ _ h => h)).drew)
    rw [← Nat.add_assoc] at I3 K3
    go_wp2
    go_region
    go_wp2
    go_ret2
    rw [HQ.out]
    exact ⟨_, mv, _, its, rfl, Own.nil _ _, I3.out, K3.out, fun _ h => .inl h⟩
  · have Ht := Lib.hid ht
    have HQ := Lib.hid (show inQ q t = (q, [], 1) from if_neg ht)
    have H := Lib.hid h
    clear ht h
    go_enter Try.func35, Try.ntmps35
    go_wp2_with fail
    refine (thread_no H.out _ Ht.out).mono ?_
    rintro e w1 ⟨rfl, rfl⟩
    go_wp2
    go_ret2
    rw [HQ.out]
    exact DidM.same H.out rfl (Below.refl _ _)
def ErrM (w : World) (n : Int) (e : Ending) (w' : World) : Prop := e = .returned (.int .i64 n) ∧ w = w'
theorem rbears_any (h : IsM w B g mv q bl its) (a : Int) :
    Calls Try.prog 38 #[.pointer (some ⟨g, 0, none⟩), .int .i64 a] w (ErrM w (bornQ q a)) := by
  have hok : q.ok 0 := ⟨Int.le_refl 0, by have := h.n1; omega⟩
  have c0 := h.blk.cell 0 rfl
  have c1 := h.blk.cell 1 rfl
  clear h
  by_cases ha : 0 < a
  · have HQ := Lib.hid (show bornQ q a = 0 from if_pos ⟨hok, ha⟩)
    clear hok
    go_enter Try.func38, Try.ntmps38
    go_wp2
    go_ret
    exact ⟨by rw [HQ.out]; rfl, rfl⟩
  · have HQ := Lib.hid (show bornQ q a = 1 from if_neg (fun x => ha x.2))
    clear hok
    go_enter Try.func38, Try.ntmps38
    go_wp2
    go_ret
    exact ⟨by rw [HQ.out]; rfl, rfl⟩
theorem nn_put {q : Q} (h : NN q) (t k : Nat) {a : Int} (ha : 0 ≤ a) : NN (q.put t k a) := nn_set h _ ha
set_option maxHeartbeats 2000000 in
theorem rout_any (h : IsM w B g mv q bl its) (hv : NN q) (hBw : B ≤ w.heap.size) (hl : its.length < 1000000) (t : Int) :
    Calls Try.prog 36 #[.pointer (some ⟨g, 0, none⟩), .int .i64 t] w (DidM w B g mv (outQ q t)) := by
  by_cases ht : q.ok t
  · obtain ⟨t0, rfl⟩ : ∃ k : Nat, t = k := ⟨t.toNat, by have := ht.1; omega⟩
    have htn : t0 < q.n := by have := ht.2; omega
    have ht0 : t0 < 4 := by have := h.n4; omega
    have ht1 : (t0 : Int) < 4 := by omega
    have HQ := Lib.hid (show outQ q (t0 : Int) = (Q.out q (t0 : Int), Q.outBack q (t0 : Int), 0) from if_pos ht)
    have Ht := Lib.hid ht
    obtain ⟨bx, e16⟩ : ∃ bx, w.cell? ⟨g, 16 + t0, none⟩ = some (.bool bx) := ⟨_, h.blk.cell (16 + t0) (m_ins h.h12 h.b4 ht0)⟩
    have f16 := h.blk.free (16 + t0)
    have i1 := h.set_ins ht0 false
    have a0 := i1.blk.cell (4 + (t0 * 3 + 0)) (m_hold i1.h12 (by omega))
    have b0 := i1.blk.free (4 + (t0 * 3 + 0))
    have i2 := i1.set_hold htn (k := 0) (by decide) 0
    have a1 := i2.blk.cell (4 + (t0 * 3 + 1)) (m_hold i2.h12 (by omega))
    have b1 := i2.blk.free (4 + (t0 * 3 + 1))
    have i3 := i2.set_hold (t := t0) htn (k := 1) (by decide) 0
    have a2 := i3.blk.cell (4 + (t0 * 3 + 2)) (m_hold i3.h12 (by omega))
    have b2 := i3.blk.free (4 + (t0 * 3 + 2))
    have i4 := i3.set_hold (t := t0) htn (k := 2) (by decide) 0
    have k4 := (((keep_g w g (16 + t0) mv (.bool false)).trans (keep_g _ g (4 + (t0 * 3 + 0)) mv (.int .i64 0)) (fun _ _ h => h)).trans (keep_g _ g (4 + (t0 * 3 + 1)) mv (.int .i64 0)) (fun _ _ h => h)).trans (keep_g _ g (4 + (t0 * 3 + 2)) mv (.int .i64 0)) (fun _ _ h => h)
    simp only [← Nat.add_assoc, Nat.add_zero] at a0 a1 a2 b0 b1 b2 i4 k4
    have I4 := Lib.hid (show IsM _ B g mv (outTo q t0 3) (bl.set t0 false) its from i4)
    have K4 := Lib.hid k4
    have H := Lib.hid h
    have HV := Lib.hid (show NN (outTo q t0 3) from nn_put (nn_put (nn_put hv t0 0 (Int.le_refl 0)) t0 1 (Int.le_refl 0)) t0 2 (Int.le_refl 0))
    clear ht h i1 i2 i3 i4 k4 hv
    go_enter Try.func36, Try.ntmps36
    go_wp2_with fail
    refine (thread_yes H.out _ Ht.out).mono ?_
    rintro e w1 ⟨rfl, rfl⟩
    go_wp2_with fail
    clear e16 f16 a0 a1 a2 b0 b1 b2
    generalize World.setCell _ _ _ = W4 at *
    obtain ⟨A, c, rfl, hc1, hc2⟩ := Row.shape H.out.row
    have hc3 : c ≤ 9223372036854775807 := by simpa [maxLen] using hc2
    clear hc2
    go_loopw [6] (fun i wr => ∃ k : Nat, k ≤ its.length ∧ i = .int .i64 k ∧ IsM wr B g (.slice A its.length c) (outTo q t0 3) (bl.set t0 false) its ∧ Kept w wr (footM g (.slice A its.length c))) (fun i _ => its.length - (intOf i).toNat)
    case atStart => exact ⟨0, Nat.zero_le _, rfl, I4.out, K4.out⟩
    case round =>
      obtain ⟨k, hk, rfl, hi, hk1⟩ := hrel
      have HI := Lib.hid hi
      have HK := Lib.hid hk1
      have c28 := hi.blk.cell 28 (m_items hi.h12 hi.b4)
      by_cases hlt : k < its.length
      · obtain ⟨gi, cap, hA, hgB, hgl, _, _, cur, hg, hcs, hct⟩ := Row.form hi.row (by omega)
        injection hA with hA hB1 hC1
        subst hA hC1
        have hx : (flatI its)[k * 8 + (4 + t0)]? = some (.bool false) := by
          rw [flatI_at its k hlt (4 + t0) (by omega)]
          rcases (show t0 = 0 ∨ t0 = 1 ∨ t0 = 2 ∨ t0 = 3 by omega) with rfl | rfl | rfl | rfl <;> rfl
        have hcur : cur[k * 8 + (4 + t0)]? = some (.bool false) := by
          rw [← hct, List.getElem?_take] at hx
          split at hx
          · simpa using hx
          · cases hx
        have d0 := cell_of_row wr gi (k * 8 + (4 + t0)) cur 78 _ hg
        rw [hcur] at d0
        have f0 := frozen_of_row wr gi (k * 8 + (4 + t0)) cur 78 hg
        have K5 := Lib.hid (kept_same hg hcur)
        rw [← Nat.add_assoc] at d0 f0 K5
        clear hx hcur hcs hct hg hi hk1 hgB
        go_wp2_with fail
        go_roundw
        case measure => simp [intOf]; omega
        case rel => exact ⟨k + 1, by omega, by go_num, HI.out.keep K5.out (fun _ _ => id), HK.out.trans K5.out (fun _ _ => False.elim)⟩
      · have c1 := hi.blk.cell 1 rfl
        have hsz := hk1.size
        clear hi hk1
        go_wp2_with fail
        refine ((rsweep_any HI.out HV.out (by omega) hl).mono fun _ _ hs => hs.after HK.out (fun _ h => .inl h)).mono ?_
        rintro e w5 ⟨u, mv', bl', its', rfl, h1', h2, h3, h4'⟩
        have HH := Lib.hid (show Own w5 w.heap.size u _ ∧ IsM w5 B g mv' _ bl' its' ∧ Kept w w5 (footM g (.slice A its.length c)) ∧ Moved w (.slice A its.length c) mv' from ⟨h1', h2, h3, h4'⟩)
        clear h1' h2 h3 h4'
        go_wp2
        go_ret2
        rw [HQ.out]
        exact ⟨u, mv', bl', its', rfl, HH.out⟩
  · have Ht := Lib.hid ht
    have HQ := Lib.hid (show outQ q t = (q, [], 1) from if_neg ht)
    have H := Lib.hid h
    clear ht h
    go_enter Try.func36, Try.ntmps36
    go_wp2_with fail
    refine (thread_no H.out _ Ht.out).mono ?_
    rintro e w1 ⟨rfl, rfl⟩
    go_wp2
    go_ret2
    rw [HQ.out]
    exact DidM.same H.out rfl (Below.refl _ _)
set_option maxHeartbeats 2000000 in
theorem rhold_any (h : IsM w B g mv q bl its) (hv : NN q) (hBw : B ≤ w.heap.size) (hl : its.length < 1000000) (t k a : Int) :
    Calls Try.prog 37 #[.pointer (some ⟨g, 0, none⟩), .int .i64 t, .int .i64 k, .int .i64 a] w (DidM w B g mv (holdQ q t k a)) := by
  by_cases ht : q.ok t
  · have Ht := Lib.hid ht
    by_cases hb : 0 ≤ k ∧ k < 3 ∧ 0 ≤ a
    · have HQ := Lib.hid (show holdQ q t k a = ((Q.held q t k a).loose, backs (Q.held q t k a) q.ws, 0) from if_pos ⟨ht, hb⟩)
      obtain ⟨k0, k3, a0⟩ := hb
      obtain ⟨t0, rfl⟩ : ∃ k : Nat, t = k := ⟨t.toNat, by have := ht.1; omega⟩
      obtain ⟨j, rfl⟩ : ∃ j : Nat, k = j := ⟨k.toNat, by omega⟩
      have htn : t0 < q.n := by have := ht.2; omega
      have ht0 : t0 < 4 := by have := h.n4; omega
      have ht1 : (t0 : Int) < 4 := by omega
      have hj3 : j < 3 := by omega
      have c1 := h.blk.cell 1 rfl
      have e0 := h.blk.cell (4 + (t0 * 3 + j)) (m_hold h.h12 (by omega))
      have f0 := h.blk.free (4 + (t0 * 3 + j))
      have i1 := h.set_hold htn hj3 a
      have k1 := keep_g w g (4 + (t0 * 3 + j)) mv (.int .i64 a)
      rw [← Nat.add_assoc] at e0 f0 i1 k1
      obtain ⟨bx, e16⟩ : ∃ bx, (w.setCell ⟨g, 4 + t0 * 3 + j, none⟩ (.int .i64 a)).cell? ⟨g, 16 + t0, none⟩ = some (.bool bx) := ⟨_, i1.blk.cell (16 + t0) (m_ins i1.h12 i1.b4 ht0)⟩
      have I1 := Lib.hid i1
      have K1 := Lib.hid k1
      have H := Lib.hid h
      have HV := Lib.hid (nn_put hv t0 j a0)
      clear ht h i1 k1 hv
      cases bx with
      | true =>
        go_enter Try.func37, Try.ntmps37
        go_wp2_with fail
        refine (thread_yes H.out _ Ht.out).mono ?_
        rintro e w1 ⟨rfl, rfl⟩
        go_wp2_with fail
        clear e16 c1 e0 f0
        generalize World.setCell _ _ _ = W1 at *
        have d3 := I1.out.blk.cell 3 rfl
        have e24 := I1.out.blk.cell (20 + (4 + t0)) (m_low I1.out.h12 I1.out.b4 (by omega))
        rw [← Nat.add_assoc] at e24
        have f24 := I1.out.blk.free (24 + t0)
        have I3 := Lib.hid (I1.out.set_low (i := 4 + t0) (by omega)).drew
        have K3 := Lib.hid ((K1.out.trans (keep_g W1 g (20 + (4 + t0)) mv (.int .i64 0)) (fun _ _ h => h)).drew)
        rw [← Nat.add_assoc] at I3 K3
        go_region
        generalize World.drew _ = W3 at *
        clear d3 e24 f24
        have c1 := I3.out.blk.cell 1 rfl
        have hsz := K3.out.size
        go_wp2_with fail
        refine ((rsweep_any I3.out HV.out (by omega) hl).mono fun _ _ hs => hs.after K3.out (fun _ h => .inl h)).mono ?_
        rintro e w5 ⟨u, mv', bl', its', rfl, h1', h2, h3, h4'⟩
        have HH := Lib.hid (show Own w5 w.heap.size u _ ∧ IsM w5 B g mv' _ bl' its' ∧ Kept w w5 (footM g mv) ∧ Moved w mv mv' from ⟨h1', h2, h3, h4'⟩)
        clear h1' h2 h3 h4'
        go_wp2
        go_ret2
        rw [HQ.out]
        exact ⟨u, mv', bl', its', rfl, HH.out⟩
      | false =>
        go_enter Try.func37, Try.ntmps37
        go_wp2_with fail
        refine (thread_yes H.out _ Ht.out).mono ?_
        rintro e w1 ⟨rfl, rfl⟩
        have c1' := I1.out.blk.cell 1 rfl
        have hsz := K1.out.size
        go_wp2_with fail
        refine ((rsweep_any I1.out HV.out (by omega) hl).mono fun _ _ hs => hs.after K1.out (fun _ h => .inl h)).mono ?_
        rintro e w5 ⟨u, mv', bl', its', rfl, h1', h2, h3, h4'⟩
        have HH := Lib.hid (show Own w5 w.heap.size u _ ∧ IsM w5 B g mv' _ bl' its' ∧ Kept w w5 (footM g mv) ∧ Moved w mv mv' from ⟨h1', h2, h3, h4'⟩)
        clear h1' h2 h3 h4'
        go_wp2
        go_ret2
        rw [HQ.out]
        exact ⟨u, mv', bl', its', rfl, HH.out⟩
    · have HQ := Lib.hid (show holdQ q t k a = (q, [], 1) from if_neg (fun x => hb x.2))
      have H := Lib.hid h
      clear ht h
      by_cases h0 : 0 ≤ k
      · by_cases h1 : k < 3
        · have h2 : ¬ 0 ≤ a := fun h2 => hb ⟨h0, h1, h2⟩
          clear hb
          go_enter Try.func37, Try.ntmps37
          go_wp2_with (go_at_call 47; refine (thread_yes H.out _ Ht.out).mono ?_; rintro e w' ⟨rfl, rfl⟩)
          go_ret2
          rw [HQ.out]
          exact DidM.same H.out rfl (Below.refl _ _)
        · clear hb
          go_enter Try.func37, Try.ntmps37
          go_wp2_with (go_at_call 47; refine (thread_yes H.out _ Ht.out).mono ?_; rintro e w' ⟨rfl, rfl⟩)
          go_ret2
          rw [HQ.out]
          exact DidM.same H.out rfl (Below.refl _ _)
      · clear hb
        go_enter Try.func37, Try.ntmps37
        go_wp2_with (go_at_call 47; refine (thread_yes H.out _ Ht.out).mono ?_; rintro e w' ⟨rfl, rfl⟩)
        go_ret2
        rw [HQ.out]
        exact DidM.same H.out rfl (Below.refl _ _)
  · have Ht := Lib.hid ht
    have HQ := Lib.hid (show holdQ q t k a = (q, [], 1) from if_neg (fun x => ht x.1))
    have H := Lib.hid h
    clear ht h
    go_enter Try.func37, Try.ntmps37
    go_wp2_with (go_at_call 47; refine (thread_no H.out _ Ht.out).mono ?_; rintro e w' ⟨rfl, rfl⟩)
    go_ret2
    rw [HQ.out]
    exact DidM.same H.out rfl (Below.refl _ _)
end
end Go.Proofs.Ytphahilggfckaaa
