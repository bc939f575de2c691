/-
  The walks of set, loose.
-/
import Derived.Test.YtphahilggfckaaaWalks1
set_option linter.unusedVariables false
set_option linter.unusedSimpArgs false
namespace Go.Proofs.Ytphahilggfckaaa
open Go.RowKit Mem Qm
set_option maxRecDepth 100000

theorem put_c (q : Q) {t k : Nat} (a : Int) (hi : t * 3 + k < q.hs.length) (x : Int) (hx : x ≠ 0) :
    (q.put t k a).c x + (if nth q.hs (t * 3 + k) = x then 1 else 0) = q.c x + (if a = x then 1 else 0) := by
  have := cnt_set q.hs (t * 3 + k) a x hi
  simp only [Q.c, Q.put, if_neg hx]
  by_cases h1 : nth q.hs (t * 3 + k) = x <;> by_cases h2 : a = x <;> simp only [h1, h2, if_true, if_false] at this ⊢ <;> omega
theorem c_range (q : Q) (x : Int) : 0 ≤ q.c x ∧ q.c x ≤ q.hs.length := by
  unfold Q.c
  have := cnt_le q.hs x
  split <;> omega
theorem c_zero (q : Q) : q.c 0 = 0 := if_pos rfl
theorem c_old (q : Q) {i : Nat} (hi : i < q.hs.length) (h : nth q.hs i ≠ 0) : 0 < q.c (nth q.hs i) := by
  unfold Q.c
  rw [if_neg h]
  have := cnt_pos hi
  omega
/-- The counts behind a set, step by step. -/
def up1 (f : Int → Int) (a : Int) : Int → Int := if a = 0 then f else upd f a (f a + 1)
def dn1 (f : Int → Int) (o : Int) : Int → Int := if o = 0 then f else upd f o (f o - 1)
theorem up1_at (f : Int → Int) (a x : Int) : up1 f a x = if a ≠ 0 ∧ x = a then f x + 1 else f x := by
  unfold up1 upd
  by_cases h1 : a = 0
  · rw [if_pos h1, if_neg (fun h => h.1 h1)]
  · rw [if_neg h1]
    by_cases h2 : x = a
    · rw [if_pos h2, if_pos ⟨h1, h2⟩, h2]
    · rw [if_neg h2, if_neg (fun h => h2 h.2)]
theorem dn1_at (f : Int → Int) (a x : Int) : dn1 f a x = if a ≠ 0 ∧ x = a then f x - 1 else f x := by
  unfold dn1 upd
  by_cases h1 : a = 0
  · rw [if_pos h1, if_neg (fun h => h.1 h1)]
  · rw [if_neg h1]
    by_cases h2 : x = a
    · rw [if_pos h2, if_pos ⟨h1, h2⟩, h2]
    · rw [if_neg h2, if_neg (fun h => h2 h.2)]
theorem put_fun (q : Q) {t k : Nat} (a : Int) (hi : t * 3 + k < q.hs.length) : dn1 (up1 q.c a) (nth q.hs (t * 3 + k)) = (q.put t k a).c := by
  funext x
  rw [dn1_at, up1_at]
  by_cases hx : x = 0
  · subst hx
    rw [if_neg (fun h => h.1 h.2.symm), if_neg (fun h => h.1 h.2.symm), c_zero, c_zero]
  · have := put_c q a hi x hx
    have e1 : (nth q.hs (t * 3 + k) ≠ 0 ∧ x = nth q.hs (t * 3 + k)) ↔ nth q.hs (t * 3 + k) = x := ⟨fun h => h.2.symm, fun h => ⟨fun h0 => hx (h.symm.trans h0), h.symm⟩⟩
    have e2 : (a ≠ 0 ∧ x = a) ↔ a = x := ⟨fun h => h.2.symm, fun h => ⟨fun h0 => hx (h.symm.trans h0), h.symm⟩⟩
    simp only [e1, e2]
    by_cases h1 : nth q.hs (t * 3 + k) = x <;> by_cases h2 : a = x <;> simp only [h1, h2, if_true, if_false] at this ⊢ <;> omega
set_option maxHeartbeats 2000000 in
theorem set_any {w : World} {B g gh b N : Nat} {v : Value} {q : Q} (h : IsC w B g gh b N v q) (h4 : q.n ≤ 4) (hN : N < 900000) {t k : Nat} (ht : t < q.n) (hk : k < 3) (a : Int) (ha : Wf a) (hwf : ∀ x ∈ q.hs, Wf x) :
    Calls Try.prog 43 #[.pointer (some ⟨g, 0, none⟩), .int .i64 (t : Int), .int .i64 (k : Int), .int .i64 a] w fun e w' => e = .returned (.tuple #[]) ∧ IsC w' B g gh b (N + 2) v (q.put t k a) ∧ Kept w w' (fun i => i = gh ∨ i = b) := by
  have hi : t * 3 + k < q.hs.length := by rw [h.len]; omega
  have hlen := h.len
  have g0 := h.blk.cell 0 rfl
  have g1 := h.blk.cell 1 rfl
  have hc := h.hold.cell (t * 3 + k) ((List.getElem?_append_left (by rw [ints_length]; exact hi)).trans (ints_nth q.hs _ hi))
  have fc := h.hold.free (t * 3 + k)
  have hne : g ≠ gh := fun e => h.ne_h e.symm
  have hneb : (g == gh) = false := by simp [hne]
  have HFUN := Lib.hid (put_fun q a hi)
  have how := Lib.hid (hwf (nth q.hs (t * 3 + k)) (by rw [nth_at hi]; exact List.getElem_mem hi))
  have hca := c_range q a
  obtain ⟨W1, hW1⟩ : ∃ W1 : World, W1 = w.setCell ⟨gh, t * 3 + k, none⟩ (.int .i64 a) := ⟨_, rfl⟩
  have k1 : Kept w W1 (fun i => i = gh ∨ i = b) := by rw [hW1]; exact (Kept.refl w (fun i => i = gh ∨ i = b)).setCell (p := ⟨gh, t * 3 + k, none⟩) (.inl (.inl rfl)) _
  have k1' : Kept w W1 (fun i => i = gh) := by rw [hW1]; exact (Kept.refl w (fun i => i = gh)).setCell (p := ⟨gh, t * 3 + k, none⟩) (.inl rfl) _
  have HH1 := Lib.hid (show Blk W1 gh 30 (ints (q.hs.set (t * 3 + k) a) ++ q.rest) by rw [hW1, ints_set]; have h9 := h.hold.set (t * 3 + k) (.int .i64 a); rwa [List.set_append, if_pos (by rw [ints_length]; exact hi)] at h9)
  have HM1 := Lib.hid (h.map.keep k1' (fun e => h.ne_mh e))
  have hb1 := h.blk.keep k1' hne
  have b0 := hb1.cell 0 rfl
  have b1 := hb1.cell 1 rfl
  have HB1 := Lib.hid hb1
  have HK1 := Lib.hid k1
  have H := Lib.hid h
  have hgb : ¬ (g = b) := fun e => h.ne_m e.symm
  obtain ⟨old, hold⟩ : ∃ old, nth q.hs (t * 3 + k) = old := ⟨_, rfl⟩
  have HOP := Lib.hid (fun (h0 : old ≠ 0) => show 0 < q.c old by rw [← hold]; exact c_old q hi (by rw [hold]; exact h0))
  have hco := c_range q old
  rw [hold] at hc HFUN how
  -- what the end wants
  have HEND := Lib.hid (show ∀ (W : World) (M : Nat) (f : Int → Int), M ≤ N + 2 → MapI Try.prog W b M f → f = (q.put t k a).c → Kept W1 W (fun i => i = b) → IsC W B g gh b (N + 2) v (q.put t k a) ∧ Kept w W (fun i => i = gh ∨ i = b) from fun W M f hM hm hf kk =>
    ⟨⟨H.out.lo, H.out.loh, H.out.lob, HB1.out.keep kk hgb, HH1.out.keep kk (fun e => H.out.ne_mh e.symm), by rw [← hf]; exact hm.mono hM, Row.keep (Row.keep H.out.row k1' (fun i hi e => H.out.ne_vh (e ▸ hi))) kk (fun i hi e => H.out.ne_vm (e ▸ hi)), by simp only [Q.put, List.length_set]; exact H.out.len⟩, HK1.out.trans kk (fun i _ e => .inr e)⟩)
  clear h hwf k1 k1' hb1 hold
  subst hW1
  by_cases h0 : a = 0
  · have a0 : (a == 0) = true := beq_iff_eq.2 h0
    have a1 : (a != 0) = false := by simp [h0]
    have HU := Lib.hid (show up1 q.c a = q.c from if_pos h0)
    clear h0
    by_cases ho : old = 0
    · have o0 : (old == 0) = true := beq_iff_eq.2 ho
      have HD := Lib.hid (show q.c = (q.put t k a).c by rw [← HFUN.out, HU.out]; exact (if_pos ho).symm)
      clear ho
      go_enter Try.func43, Try.ntmps43
      go_wp2_with fail
      go_returns
      obtain ⟨e1, e2⟩ := HEND.out _ N q.c (by omega) HM1.out HD.out (Kept.refl _ _)
      exact ⟨rfl, e1, e2⟩
    · have o0 : (old == 0) = false := beq_eq_false_iff_ne.2 ho
      obtain ⟨co, hcoe⟩ : ∃ co, (q.c) old = co := ⟨_, rfl⟩
      have hco1 : 1 ≤ co ∧ co ≤ 14 := by
        have p1 := HOP.out ho
        rw [← hcoe]
        omega
      have l2 := MapI.look Try.underlying3 zero3 Try.underlying67 HM1.out how.out
      rw [hcoe] at l2
      obtain ⟨W3, hr3, hm3, hk3⟩ := MapI.store Try.underlying3 Try.underlying67 HM1.out (by omega) how.out (show Wf (co - 1) from wf_of (by omega) (by omega))
      have l3 := MapI.look Try.underlying3 zero3 Try.underlying67 hm3 how.out
      rw [show upd (q.c) old (co - 1) old = co - 1 from if_pos rfl] at l3
      have hD : dn1 (q.c) old = upd (q.c) old (co - 1) := by rw [← hcoe]; exact if_neg ho
      have HD := Lib.hid (show upd (q.c) old (co - 1) = (q.put t k a).c by rw [← HFUN.out, HU.out, hD])
      have d1 := (HB1.out.keep hk3 hgb).cell 1 rfl
      have HM3 := Lib.hid hm3
      have HK3 := Lib.hid hk3
      clear hm3 hk3 hD hcoe ho
      by_cases hz : co - 1 = 0
      · have z0 : (co - 1 == 0) = true := beq_iff_eq.2 hz
        have HD2 := Lib.hid (show upd (upd (q.c) old (co - 1)) old 0 = (q.put t k a).c by
          rw [← HD.out]
          funext x
          unfold upd
          by_cases hx : x = old
          · rw [if_pos hx, if_pos hx, hz]
          · rw [if_neg hx])
        clear hz
        go_enter Try.func43, Try.ntmps43
        go_wp2_with (refine wpList_map_del Try.underlying3 Try.underlying67 rfl (.tmp 55) (.tmp 56) rfl HM3.out old rfl rfl how.out ?_)
        intro W4 hm4 hk4
        have HM4 := Lib.hid hm4
        have HK4 := Lib.hid hk4
        clear hm4 hk4
        go_wp2_with fail
        go_returns
        obtain ⟨e1, e2⟩ := HEND.out W4 _ _ (by omega) HM4.out HD2.out ((HK3.out.trans HK4.out (fun _ _ e => e)))
        exact ⟨rfl, e1, e2⟩
      · have z0 : (co - 1 == 0) = false := beq_eq_false_iff_ne.2 hz
        clear hz
        go_enter Try.func43, Try.ntmps43
        go_wp2_with fail
        go_returns
        obtain ⟨e1, e2⟩ := HEND.out W3 _ _ (by omega) HM3.out HD.out (HK3.out)
        exact ⟨rfl, e1, e2⟩
  · have a0 : (a == 0) = false := beq_eq_false_iff_ne.2 h0
    have a1 : (a != 0) = true := by simp [h0]
    have HU := Lib.hid (show up1 q.c a = upd q.c a (q.c a + 1) from if_neg h0)
    have HA0 := Lib.hid h0
    have l1 := MapI.look Try.underlying3 zero3 Try.underlying67 HM1.out ha
    obtain ⟨W2, hr2, hm2, hk2⟩ := MapI.store Try.underlying3 Try.underlying67 HM1.out (by omega) ha (show Wf (q.c a + 1) from wf_of (by omega) (by omega))
    have e1' := (HB1.out.keep hk2 hgb).cell 1 rfl
    have HM2 := Lib.hid hm2
    have HK2 := Lib.hid hk2
    clear hm2 hk2 h0
    by_cases ho : old = 0
    · have o0 : (old == 0) = true := beq_iff_eq.2 ho
      have HD := Lib.hid (show upd q.c a (q.c a + 1) = (q.put t k a).c by rw [← HFUN.out, HU.out]; exact (if_pos ho).symm)
      clear ho
      go_enter Try.func43, Try.ntmps43
      go_wp2_with fail
      go_returns
      obtain ⟨e1, e2⟩ := HEND.out W2 _ _ (by omega) HM2.out HD.out HK2.out
      exact ⟨rfl, e1, e2⟩
    · have o0 : (old == 0) = false := beq_eq_false_iff_ne.2 ho
      obtain ⟨co, hcoe⟩ : ∃ co, (upd q.c a (q.c a + 1)) old = co := ⟨_, rfl⟩
      have hco1 : 1 ≤ co ∧ co ≤ 14 := by
        have p1 := HOP.out ho
        rw [← hcoe]
        unfold upd
        split <;> omega
      have l2 := MapI.look Try.underlying3 zero3 Try.underlying67 HM2.out how.out
      rw [hcoe] at l2
      obtain ⟨W3, hr3, hm3, hk3⟩ := MapI.store Try.underlying3 Try.underlying67 HM2.out (by omega) how.out (show Wf (co - 1) from wf_of (by omega) (by omega))
      have l3 := MapI.look Try.underlying3 zero3 Try.underlying67 hm3 how.out
      rw [show upd (upd q.c a (q.c a + 1)) old (co - 1) old = co - 1 from if_pos rfl] at l3
      have hD : dn1 (upd q.c a (q.c a + 1)) old = upd (upd q.c a (q.c a + 1)) old (co - 1) := by rw [← hcoe]; exact if_neg ho
      have HD := Lib.hid (show upd (upd q.c a (q.c a + 1)) old (co - 1) = (q.put t k a).c by rw [← HFUN.out, HU.out, hD])
      have d1 := ((HB1.out.keep HK2.out hgb).keep hk3 hgb).cell 1 rfl
      have HM3 := Lib.hid hm3
      have HK3 := Lib.hid hk3
      clear hm3 hk3 hD hcoe ho
      by_cases hz : co - 1 = 0
      · have z0 : (co - 1 == 0) = true := beq_iff_eq.2 hz
        have HD2 := Lib.hid (show upd (upd (upd q.c a (q.c a + 1)) old (co - 1)) old 0 = (q.put t k a).c by
          rw [← HD.out]
          funext x
          unfold upd
          by_cases hx : x = old
          · rw [if_pos hx, if_pos hx, hz]
          · rw [if_neg hx])
        clear hz
        go_enter Try.func43, Try.ntmps43
        go_wp2_with (refine wpList_map_del Try.underlying3 Try.underlying67 rfl (.tmp 55) (.tmp 56) rfl HM3.out old rfl rfl how.out ?_)
        intro W4 hm4 hk4
        have HM4 := Lib.hid hm4
        have HK4 := Lib.hid hk4
        clear hm4 hk4
        go_wp2_with fail
        go_returns
        obtain ⟨e1, e2⟩ := HEND.out W4 _ _ (by omega) HM4.out HD2.out (HK2.out.trans (HK3.out.trans HK4.out (fun _ _ e => e)) (fun _ _ e => e))
        exact ⟨rfl, e1, e2⟩
      · have z0 : (co - 1 == 0) = false := beq_eq_false_iff_ne.2 hz
        clear hz
        go_enter Try.func43, Try.ntmps43
        go_wp2_with fail
        go_returns
        obtain ⟨e1, e2⟩ := HEND.out W3 _ _ (by omega) HM3.out HD.out (HK2.out.trans HK3.out (fun _ _ e => e))
        exact ⟨rfl, e1, e2⟩
end Go.Proofs.Ytphahilggfckaaa
