/-
  The document's manager of eras: the walks of In, Out, Hold, Born, Retire.
-/
import Derived.Test.YtiokifkppfegfaaRef3
set_option linter.unusedVariables false
set_option linter.unusedSimpArgs false
namespace Go.Proofs.Ytiokifkppfegfaa
open Go.RowKit Mem Qm
set_option maxRecDepth 100000

/-- What is known of the births' list. -/
structure Sim (q : Q) (L : List Bi) (j : Nat) : Prop where
  look : ∀ a, look L a = q.bi a
  len : L.length ≤ j
def DidR (w : World) (B g gv : Nat) (vb vi : Value) (m : Nat) (r : Q × List Int × Int) (j : Nat) (e : Ending) (w' : World) : Prop :=
  ∃ u vb' vi' L', e = res u r.2.2 ∧ Own w' w.heap.size u r.2.1 ∧ IsR w' B g gv vb' vi' m r.1 L' ∧ Sim r.1 L' j ∧ Kept w w' (footR g gv vb vi) ∧ MovR w vb vi vb' vi'
theorem drew_isR {w : World} {B g gv m : Nat} {vb vi : Value} {q : Q} {L : List Bi} (h : IsR w B g gv vb vi m q L) : IsR w.drew B g gv vb vi m q L := ⟨h.lo, h.lov, h.nm, h.blk, h.vis, h.brow, h.irow⟩
theorem rput_is {w : World} {B g gv m : Nat} {vb vi : Value} {q : Q} {L : List Bi} (h : IsR w B g gv vb vi m q L) (hm4 : m ≤ 4) {k : Nat} (hk : k < m) (s : Sn) :
    IsR (six w gv (k * 6) (k * 6 + 1) (k * 6 + 2) (k * 6 + 3) (k * 6 + 4) (k * 6 + 5) s) B g gv vb vi m (q.put (k : Int) s) L ∧ Kept w (six w gv (k * 6) (k * 6 + 1) (k * 6 + 2) (k * 6 + 3) (k * 6 + 4) (k * 6 + 5) s) (footR g gv vb vi) := by
  have hk' := six_kept w gv (k * 6) (k * 6 + 1) (k * 6 + 2) (k * 6 + 3) (k * 6 + 4) (k * 6 + 5) s
  exact ⟨⟨h.lo, h.lov, h.nm, h.blk.keep hk' (fun e => h.ne_vis e.symm), Blk.of (six_blk h.vis _ _ _ _ _ _ s) (seenTo_put q hm4 hk s), Row.keep h.brow hk' (fun i hi e => h.ne_bv (e ▸ hi)), Row.keep h.irow hk' (fun i hi e => h.ne_iv (e ▸ hi))⟩, hk'.mono (fun i _ e => .inr (.inl e))⟩
section
variable {w : World} {B g gv m : Nat} {vb vi : Value} {q : Q} {L : List Bi}
theorem DidR.same {e : Ending} {w' : World} {x : Int} {j : Nat} (h : IsR w B g gv vb vi m q L) (hs : Sim q L j) (he : e = res (.slice none 0 0) x) (hw : Below w.heap.size w w') : DidR w B g gv vb vi m (q, [], x) j e w' :=
  ⟨_, vb, vi, L, he, Own.nil _ _, h.below hw, hs, Kept.of_below hw _, MovR.refl _ _ _⟩
set_option maxHeartbeats 1000000 in
theorem rin_any (h : IsR w B g gv vb vi m q L) (hm4 : m ≤ 4) {j : Nat} (hs : Sim q L j) (t : Int) :
    Calls Try.prog 34 #[.pointer (some ⟨g, 0, none⟩), .int .i64 t] w (DidR w B g gv vb vi m (inQ q t) j) := by
  by_cases ht : q.ok t
  · obtain ⟨k, rfl⟩ : ∃ k : Nat, t = k := ⟨t.toNat, by have := ht.1; omega⟩
    have hkm : k < m := by have h1 := ht.2; rw [h.nm] at h1; omega
    have ff : ∀ j, w.frozen? ⟨gv, j, none⟩ = false := fun j => h.vis.free j
    have r1 := h.blk.cell 1 rfl
    have r2 := h.blk.cell 2 rfl
    have hat := fun j (hj : j < 6) => (seenTo_at q hm4 hkm hj)
    have c0 := h.vis.cell (k * 6) (by have := hat 0 (by omega); rw [Nat.add_zero] at this; rw [this]; rfl)
    have c1 := h.vis.cell (k * 6 + 1) (by rw [hat 1 (by omega)]; rfl)
    have c2 := h.vis.cell (k * 6 + 2) (by rw [hat 2 (by omega)]; rfl)
    have c3 := h.vis.cell (k * 6 + 3) (by rw [hat 3 (by omega)]; rfl)
    have c4 := h.vis.cell (k * 6 + 4) (by rw [hat 4 (by omega)]; rfl)
    have c5 := h.vis.cell (k * 6 + 5) (by rw [hat 5 (by omega)]; rfl)
    have Ht := Lib.hid ht
    have HQ := Lib.hid (show inQ q (k : Int) = (q.in_ (k : Int), [], 0) from if_pos ht)
    have HS := Lib.hid hs
    obtain ⟨p1, p2⟩ := rput_is h hm4 hkm (Sn.in_ q.era)
    simp only [six, Sn.in_] at p1 p2
    have P1 := Lib.hid p1
    have P2 := Lib.hid p2
    clear ht hat hs p1 p2
    go_enter Try.func34, Try.ntmps34
    go_wp2_with (go_at_call 46; refine (isThread_yes h _ Ht.out).mono ?_; rintro e w' ⟨rfl, rfl⟩)
    go_region
    go_wp2
    go_ret2
    rw [HQ.out]
    exact ⟨_, vb, vi, L, rfl, Own.nil _ _, drew_isR P1.out, ⟨HS.out.look, HS.out.len⟩, P2.out.drew, MovR.refl _ _ _⟩
  · have Ht := Lib.hid ht
    have HQ := Lib.hid (show inQ q t = (q, [], 1) from if_neg ht)
    have HS := Lib.hid hs
    clear ht hs
    go_enter Try.func34, Try.ntmps34
    go_wp2_with (go_at_call 46; refine (isThread_no h _ Ht.out).mono ?_; rintro e w' ⟨rfl, rfl⟩)
    go_ret2
    rw [HQ.out]
    exact DidR.same h HS.out rfl (Below.refl _ _)
set_option maxHeartbeats 1000000 in
theorem rout_any (h : IsR w B g gv vb vi m q L) (hm4 : m ≤ 4) (hI : Inv q) {j : Nat} (hs : Sim q L j) (hj : j < 900000) (hBw : B ≤ w.heap.size) (hl : q.ws.length < 1000000) (t : Int) :
    Calls Try.prog 35 #[.pointer (some ⟨g, 0, none⟩), .int .i64 t] w (DidR w B g gv vb vi m (outQ q t) j) := by
  by_cases ht : q.ok t
  · obtain ⟨k, rfl⟩ : ∃ k : Nat, t = k := ⟨t.toNat, by have := ht.1; omega⟩
    have hkm : k < m := by have h1 := ht.2; rw [h.nm] at h1; omega
    have ff : ∀ j, w.frozen? ⟨gv, j, none⟩ = false := fun j => h.vis.free j
    have r1 := h.blk.cell 1 rfl
    have r2 := h.blk.cell 2 rfl
    have hat := fun j (hj : j < 6) => (seenTo_at q hm4 hkm hj)
    have c0 := h.vis.cell (k * 6) (by have := hat 0 (by omega); rw [Nat.add_zero] at this; rw [this]; rfl)
    have c1 := h.vis.cell (k * 6 + 1) (by rw [hat 1 (by omega)]; rfl)
    have c2 := h.vis.cell (k * 6 + 2) (by rw [hat 2 (by omega)]; rfl)
    have c3 := h.vis.cell (k * 6 + 3) (by rw [hat 3 (by omega)]; rfl)
    have c4 := h.vis.cell (k * 6 + 4) (by rw [hat 4 (by omega)]; rfl)
    have c5 := h.vis.cell (k * 6 + 5) (by rw [hat 5 (by omega)]; rfl)
    have Ht := Lib.hid ht
    have HQ := Lib.hid (show outQ q (k : Int) = (q.out (k : Int), q.outBack (k : Int), 0) from if_pos ht)
    have HS := Lib.hid hs
    have HO := Lib.hid (inv_put hI ht Sn.none).out
    obtain ⟨p1, p2⟩ := rput_is h hm4 hkm Sn.none
    simp only [six, Sn.none] at p1 p2
    have P1 := Lib.hid p1
    have P2 := Lib.hid p2
    clear ht hat hs p1 p2
    go_enter Try.func35, Try.ntmps35
    go_wp2_with fail
    refine (isThread_yes h _ Ht.out).mono ?_
    rintro e w1 ⟨rfl, rfl⟩
    clear h
    go_wp2_with fail
    refine ((rsweep_any P1.out hm4 HO.out (Nat.le_trans hBw P2.out.size) hl (by have := HS.out.len; omega)).mono fun _ _ hs => hs.after P2.out (MovR.refl _ _ _)).mono ?_
    rintro e w1 ⟨u, vb', vi', rfl, h1', h2, h3, h4'⟩
    have HH := Lib.hid (show Own w1 w.heap.size u _ ∧ IsR w1 B g gv vb' vi' m _ _ ∧ Kept w w1 (footR g gv vb vi) ∧ MovR w vb vi vb' vi' from ⟨h1', h2, h3, h4'⟩)
    clear h1' h2 h3 h4'
    go_wp2
    go_ret2
    rw [HQ.out]
    obtain ⟨h1', h2, h3, h4'⟩ := HH.out
    exact ⟨u, vb', vi', _, rfl, h1', h2, ⟨fun a => by rw [look_forgetAll]; simp only [clr, HS.out.look]; rfl, Nat.le_trans (forgetAll_le _ _) HS.out.len⟩, h3, h4'⟩
  · have Ht := Lib.hid ht
    have HQ := Lib.hid (show outQ q t = (q, [], 1) from if_neg ht)
    have HS := Lib.hid hs
    clear ht hs
    go_enter Try.func35, Try.ntmps35
    go_wp2_with (go_at_call 46; refine (isThread_no h _ Ht.out).mono ?_; rintro e w' ⟨rfl, rfl⟩)
    go_ret2
    rw [HQ.out]
    exact DidR.same h HS.out rfl (Below.refl _ _)
end
end Go.Proofs.Ytiokifkppfegfaa
