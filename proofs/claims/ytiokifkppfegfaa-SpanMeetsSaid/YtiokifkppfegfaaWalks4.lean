/-
  The walks of the manager's loops: Waiting, sweep; Rest.
-/
import Derived.Test.YtiokifkppfegfaaWalks3
set_option linter.unusedVariables false
set_option linter.unusedSimpArgs false
namespace Go.Proofs.Ytiokifkppfegfaa
open Go.RowKit Mem Qm
set_option maxRecDepth 100000

theorem info3 : (Try.prog.info? 3).map (fun i => (i.zero, i.size, i.bytes)) = some (some (.int .i64 0), 1, 8) := by kernel_rfl
theorem info71 : (Try.prog.info? 71).map (fun i => (i.zero, i.size, i.bytes)) = some (some (.agg #[.int .i64 0, .int .i64 0, .int .i64 0]), 3, 24) := by kernel_rfl
/-- A new list of numbers. -/
def Gives (l : List Int) (w : World) (e : Ending) (w' : World) : Prop := ∃ u, e = .returned u ∧ Own w' w.heap.size u l ∧ Below w.heap.size w w'
/-- 'append(v, x)' of a number to a list of the call's own, behind its box. -/
theorem wpList_append_int {P : Program} {ops : Array Oper} {rest : List Oper} {o : Oper} {a : Act} {Q : Exit → Act → World → Prop} {w : World} (hgd : o.guard = none) (s x : Operand)
    (ho : o.op = .call { callee := .builtin .append, args := #[s, x], argTypes := #[32, 32] }) (ht : P.underlying 32 = some (.slice 3)) (hi : (P.info? 3).map (fun i => (i.zero, i.size, i.bytes)) = some (some (.int .i64 0), 1, 8))
    (B : Nat) (v : Value) (l : List Int) (y : Int) (N : Nat) (hs : a.eval s = v) (hown : Own w B v l) (hx : a.eval x = .slice (some ⟨N, 0, none⟩) 1 1) (hN : N = w.heap.size) (hB : B ≤ w.heap.size) (hl : l.length < 1000000)
    (h : ∀ v' w', Own w' B v' (l ++ [y]) → Kept w w' (fun k => v.ownBlock = some k) → (∀ k, v'.ownBlock = some k → v.ownBlock = some k ∨ w.heap.size ≤ k) → wpList P ops Q rest (a.put o.dst v') w') :
    wpList P ops Q (o :: rest) a (w.alloc (.cells #[.int .i64 y] 3)) := by
  subst hN
  obtain ⟨i0, hi0, hz0, hz1, hz2⟩ := info_parts hi
  refine wpList_append_own_at _ hgd s x 32 ho B 3 i0 (.int .i64 0) 1 8 ht hi0 hz0 hz1 hz2 rfl (by decide) v l.length (ints l) hs (World.ownsRow.alloc hown _) ⟨w.heap.size, 0, none⟩ 1 1 [.int .i64 y] hx rfl
    (fun j u hu => ?_) (by intro u hu; simp at hu; subst hu; rfl) (by simp only [maxLen]; omega) (by omega) (by simp; omega) ?_
  · match j, hu with
    | 0, hu => simp at hu; subst hu; simp [Addr.add]
  · intro v' w' hown' hg _ hat
    refine h v' w' (by simpa [Own, ints] using hown') ?_ ?_
    · exact ((Kept.refl w _).alloc _).grown hg (fun k hk => .inl hk)
    · intro k hk
      rcases hat with hat | hat
      · exact .inl (hat ▸ hk)
      · rw [hat] at hk; simp at hk; exact .inr (by omega)
/-- 'append(v, x)' of a life, behind its box. -/
theorem wpList_append_l {P : Program} {ops : Array Oper} {rest : List Oper} {o : Oper} {a : Act} {Q : Exit → Act → World → Prop} {w : World} (hgd : o.guard = none) (s x : Operand)
    (ho : o.op = .call { callee := .builtin .append, args := #[s, x], argTypes := #[63, 63] }) (ht : P.underlying 63 = some (.slice 71)) (hi : (P.info? 71).map (fun i => (i.zero, i.size, i.bytes)) = some (some (.agg #[.int .i64 0, .int .i64 0, .int .i64 0]), 3, 24))
    (B : Nat) (v : Value) (l : List Life) (y : Life) (N : Nat) (hs : a.eval s = v) (hown : Row w B 71 3 v l.length (flat l)) (hx : a.eval x = .slice (some ⟨N, 0, none⟩) 1 1) (hN : N = w.heap.size) (hB : B ≤ w.heap.size) (hl : l.length < 1000000)
    (h : ∀ v' w', Row w' B 71 3 v' (l ++ [y]).length (flat (l ++ [y])) → Kept w w' (fun k => v.ownBlock = some k) → (∀ k, v'.ownBlock = some k → v.ownBlock = some k ∨ w.heap.size ≤ k) → wpList P ops Q rest (a.put o.dst v') w') :
    wpList P ops Q (o :: rest) a (w.alloc (.cells #[.int .i64 y.a, .int .i64 y.b, .int .i64 y.e] 71)) := by
  subst hN
  obtain ⟨i0, hi0, hz0, hz1, hz2⟩ := info_parts hi
  refine wpList_append_own_at _ hgd s x 63 ho B 71 i0 _ 3 24 ht hi0 hz0 hz1 hz2 rfl (by decide) v l.length (flat l) hs (World.ownsRow.alloc hown _) ⟨w.heap.size, 0, none⟩ 1 1 (lCells y) hx rfl
    (fun j u hu => ?_) (by intro u hu; simp only [lCells, List.mem_cons, List.not_mem_nil, or_false] at hu; rcases hu with rfl | rfl | rfl <;> rfl) (by simp only [maxLen]; omega) (by omega) (by simp; omega) ?_
  · rw [show (⟨w.heap.size, 0, none⟩ : Addr).add j = ⟨w.heap.size, j, none⟩ by unfold Addr.add; split <;> simp_all]
    rw [World.cell?_alloc_new]
    simpa [lCells] using hu
  · intro v' w' hown' hg _ hat
    refine h v' w' (by simpa [flat] using hown') ?_ ?_
    · exact ((Kept.refl w _).alloc _).grown hg (fun k hk => .inl hk)
    · intro k hk
      rcases hat with hat | hat
      · exact .inl (hat ▸ hk)
      · rw [hat] at hk; simp at hk; exact .inr (by omega)
theorem wf_at {l : List Int} {j : Nat} (h : j < l.length) : l.take (j + 1) = l.take j ++ [l[j]] := by rw [List.take_add_one, List.getElem?_eq_getElem h]; rfl
set_option maxHeartbeats 400000 in
theorem waiting_yes {w : World} {B g b : Nat} {v : Value} {q : Q} (h : IsS w B g b v q) (ht : q.ok 0) (hl : q.ws.length < 1000000) :
    Calls Try.prog 14 #[.pointer (some ⟨g, 0, none⟩)] w (Gives (addrs q.ws) w) := by
  have H := Lib.hid ht
  clear ht
  have c27 := h.blk.cell 27 rfl
  obtain ⟨A, c, rfl, hc1, hc2⟩ := Row.shape h.row
  have hc3 : c ≤ 9223372036854775807 := by simpa [maxLen] using hc2
  clear hc2
  have hrd := Lib.hid (Row.rd h.row)
  go_enter Try.func14, Try.ntmps14
  go_wp2_with (go_at_call 31; refine (has_yes h _ H.out).mono ?_; rintro e w' ⟨rfl, rfl⟩)
  go_loopw [3, 14] (fun u i wr => ∃ k : Nat, k ≤ q.ws.length ∧ i = .int .i64 k ∧ Own wr w.heap.size u (addrs (q.ws.take k)) ∧ Below w.heap.size w wr) (fun _ i _ => q.ws.length - (intOf i).toNat)
  case atStart => exact ⟨0, Nat.zero_le _, rfl, Own.nil _ _, Below.refl _ _⟩
  case round =>
    obtain ⟨k, hk, rfl, hown, hbel⟩ := hrel
    by_cases hlt : k < q.ws.length
    · obtain ⟨bb, off, rfl, hb, hcell⟩ := Rd.elem (hrd.out.below hbel) hlt
      have hat := fun i hi => (hcell i hi).trans (flat_at q.ws k hlt i hi)
      have d0 := hat 0 (by decide)
      have d1 := hat 1 (by decide)
      have d2 := hat 2 (by decide)
      clear hcell hat
      simp only [lCells, List.getElem?_cons_zero, List.getElem?_cons_succ, Nat.add_zero] at d0 d1 d2
      have htk := addrs_snoc hlt
      have hlen : (addrs (q.ws.take k)).length < 1000000 := by simp [addrs]; omega
      have hsz := hbel.size
      have Htk := Lib.hid htk
      clear htk
      go_wp2_with (at_builtin; refine wpList_append_int rfl (.tmp 18) (.tmp 21) rfl Try.underlying32 info3 w.heap.size u3 (addrs (q.ws.take k)) _ _ rfl (World.ownsRow.alloc hown _) rfl ?c1 ?c2 hlen ?_)
      case c1 => simp
      case c2 => simp; omega
      intro v1 w1 ho1 hk1 hm1
      go_wp2
      go_roundw
      case measure => simp [intOf]; omega
      case rel => 
        refine ⟨k + 1, by omega, by go_num, by rw [Htk.out]; exact ho1, ?_⟩
        exact (hbel.alloc hsz _).trans (hk1.below (by simp; omega) (fun i hi => (Row.at_lt hown hi).1))
    · have hkn : k = q.ws.length := by omega
      have Hkn := Lib.hid hkn
      clear hkn
      go_wp2
      go_ret
      exact ⟨u3, rfl, by rw [Hkn.out, List.take_length] at hown; exact hown, hbel⟩
theorem waiting_no {w : World} {p : Value} (h : NoT w p 0) :
    Calls Try.prog 14 #[p] w fun e w' => e = .returned (.slice none 0 0) ∧ w = w' := by
  have H := Lib.hid h
  clear h
  go_enter Try.func14, Try.ntmps14
  go_wp2_with (go_at_call 31; refine (has_not H.out).mono ?_; rintro e w' ⟨rfl, rfl⟩)
  go_ret
  exact ⟨rfl, rfl⟩

/-- What a sweep, or a call that ends in one, leaves: the list that is given back, and the manager. -/
def Swept (w : World) (B g b : Nat) (v : Value) (l : List Int) (q : Q) (F : Value → Ending) (e : Ending) (w' : World) : Prop :=
  ∃ u v', e = F u ∧ Own w' w.heap.size u l ∧ IsS w' B g b v' q ∧ Kept w w' (foot g b v) ∧ Moved w v v'
theorem backs_snoc {q : Q} {ws : List Life} {k : Nat} (h : k < ws.length) : backs q (ws.take (k + 1)) = if q.met ws[k] then backs q (ws.take k) else backs q (ws.take k) ++ [ws[k].a] := by
  rw [take_snoc h, backs, List.filter_append, addrs, List.map_append]
  split
  · rename_i hn; simp [hn, backs, addrs]
  · rename_i hn; simp [hn, backs, addrs]
theorem lefts_snoc {q : Q} {ws : List Life} {k : Nat} (h : k < ws.length) : lefts q (ws.take (k + 1)) = if q.met ws[k] then lefts q (ws.take k) ++ [ws[k]] else lefts q (ws.take k) := by
  rw [take_snoc h, lefts, List.filter_append]
  split
  · rename_i hn; simp [hn, lefts]
  · rename_i hn; simp [hn, lefts]
theorem clr_nil (f : Int → Int) : clr f [] = f := by funext x; simp [clr]
theorem clr_snoc (f : Int → Int) (l : List Int) (a : Int) : upd (clr f l) a 0 = clr f (l ++ [a]) := by
  funext x
  simp only [upd, clr, List.mem_append, List.mem_singleton]
  by_cases h1 : x = a <;> by_cases h2 : x ∈ l <;> simp [h1, h2]
theorem backs_le (q : Q) (ws : List Life) : (backs q ws).length ≤ ws.length := by simp only [backs, addrs, List.length_map]; exact List.length_filter_le _ _
theorem lefts_le (q : Q) (ws : List Life) : (lefts q ws).length ≤ ws.length := List.length_filter_le _ _
set_option maxHeartbeats 1000000 in
theorem sweep_any {w : World} {B g b : Nat} {v : Value} {q : Q} (h : IsS w B g b v q) (hBw : B ≤ w.heap.size) (hl : q.ws.length < 1000000) (hwf : ∀ x ∈ q.ws, Wf x.a) :
    Calls Try.prog 32 #[.pointer (some ⟨g, 0, none⟩)] w (Swept w B g b v (backs q q.ws) q.swept .returned) := by
  have c27 := h.blk.cell 27 rfl
  have h0 := Lib.hid h
  have HWF := Lib.hid hwf
  obtain ⟨A, c, rfl, hc1, hc2⟩ := Row.shape h.row
  have hc3 : c ≤ 9223372036854775807 := by simpa [maxLen] using hc2
  clear hc2 h hwf
  go_enter Try.func32, Try.ntmps32
  go_wp2
  go_loopw [3, 4, 12] (fun u l i wr => ∃ k : Nat, k ≤ q.ws.length ∧ i = .int .i64 k ∧ Own wr w.heap.size u (backs q (q.ws.take k)) ∧ Row wr w.heap.size 71 3 l (lefts q (q.ws.take k)).length (flat (lefts q (q.ws.take k))) ∧
    IsS wr B g b (.slice A q.ws.length c) { q with bi := clr q.bi (backs q (q.ws.take k)) } ∧ Kept w wr (fun i => i = b)) (fun _ _ i _ => q.ws.length - (intOf i).toNat)
  case atStart => exact ⟨0, Nat.zero_le _, rfl, Own.nil _ _, World.ownsRow_nil _ _ _ _, by rw [show backs q (q.ws.take 0) = [] from rfl, clr_nil]; exact h0.out, Kept.refl _ _⟩
  case round =>
    obtain ⟨k, hk, rfl, hown, hrow, hi, hkp⟩ := hrel
    by_cases hlt : k < q.ws.length
    · obtain ⟨bb, off, rfl, hb, hcell⟩ := Rd.elem (Row.rd hi.row) hlt
      have hat := fun i hi => (hcell i hi).trans (flat_at q.ws k hlt i hi)
      have d0 := hat 0 (by decide)
      have d1 := hat 1 (by decide)
      have d2 := hat 2 (by decide)
      clear hcell hat
      simp only [lCells, List.getElem?_cons_zero, List.getElem?_cons_succ, Nat.add_zero] at d0 d1 d2
      have hxw := Lib.hid (HWF.out _ (List.getElem_mem hlt))
      have hbs := Lib.hid (backs_snoc (q := q) hlt)
      have hls := Lib.hid (lefts_snoc (q := q) hlt)
      have hbl := Lib.hid (backs_le q (q.ws.take k))
      have hll := Lib.hid (lefts_le q (q.ws.take k))
      obtain ⟨x, hx⟩ : ∃ x, q.ws[k] = x := ⟨_, rfl⟩
      rw [hx] at d0 d1 d2 hxw hbs hls
      have hsz := hkp.size
      have HKP := Lib.hid hkp
      clear hx hkp
      go_wp2_with fail
      have bA : Below wr.heap.size wr (wr.alloc (.cells #[.int .i64 x.a, .int .i64 x.b, .int .i64 x.e] 71)) := (Below.refl _ _).alloc (Nat.le_refl _) _
      have hX := Blk.new wr 71 [.int .i64 x.a, .int .i64 x.b, .int .i64 x.e]
      refine (meets_any (hi.below bA) x).mono ?_
      rintro e w2 ⟨rfl, b2⟩
      have b12 := bA.trans (b2.mono (by simp))
      have hX2 := hX.below b2
      have x0 := hX2.cell 0 rfl
      have x1 := hX2.cell 1 rfl
      have x2 := hX2.cell 2 rfl
      have hown2 := Row.below hown b12
      have hrow2 := Row.below hrow b12
      have hI2 := Lib.hid (hi.below b12)
      have B12 := Lib.hid b12
      have s2 := b12.size
      have HX := Lib.hid hX2
      have hXlt := hX2.lt
      clear hi hown hrow b2 b12 bA hX hX2 d0 d1 d2
      rw [show ({ q with bi := clr q.bi (backs q (q.ws.take k)) } : Q).met x = q.met x from rfl]
      cases hm : q.met x with
      | true =>
        have hbs2 := Lib.hid (show backs q (q.ws.take (k + 1)) = backs q (q.ws.take k) by rw [hbs.out, if_pos hm])
        have hls2 := Lib.hid (show lefts q (q.ws.take (k + 1)) = lefts q (q.ws.take k) ++ [x] by rw [hls.out, if_pos hm])
        clear hm
        go_wp2_with (at_builtin; refine wpList_append_l rfl (.tmp 19) (.tmp 21) rfl Try.underlying63 info71 w.heap.size u4 (lefts q (q.ws.take k)) _ _ rfl hrow2 rfl ?c1 (by omega) (by have := hll.out; simp at this; omega) ?_)
        case c1 => rfl
        intro v1 w3 hr3 hk3 hm3
        have hown3 := Lib.hid (Row.keep hown2 hk3 (fun i hi => fun e => Row.ne_row hown2 hrow2 (by decide) hi e))
        have hI3 := Lib.hid (hI2.out.keep hk3 (fun i hf hs => by
          rcases hf with rfl | rfl | hf
          · exact Row.ne_blk hrow2 hI2.out.blk (by decide) hs
          · exact hI2.out.map.ne_row hrow2 hs
          · have h1 := (Row.at_lt hrow2 hs).1
            have h2 := h0.out.foot_lt i (.inr (.inr hf))
            omega))
        have hK3 := Lib.hid ((HKP.out.then_below B12.out).trans hk3 (T := fun i => u4.ownBlock = some i) (fun i hi hs => absurd (Row.at_lt hrow2 hs).1 (by omega)))
        have hR3 := Lib.hid hr3
        clear hrow2 hown2 hk3 hm3 hr3 x0 x1 x2
        go_wp2
        go_roundw
        case measure => simp [intOf]; omega
        case rel => exact ⟨k + 1, by omega, by go_num, by rw [hbs2.out]; exact hown3.out, by rw [hls2.out]; simpa using hR3.out, by rw [hbs2.out]; exact hI3.out, hK3.out⟩
      | false =>
        have hbs2 := Lib.hid (show backs q (q.ws.take (k + 1)) = backs q (q.ws.take k) ++ [x.a] by rw [hbs.out, if_neg (by simp [hm])])
        have hls2 := Lib.hid (show lefts q (q.ws.take (k + 1)) = lefts q (q.ws.take k) by rw [hls.out, if_neg (by simp [hm])])
        clear hm
        go_wp2_with (at_builtin; refine wpList_append_int rfl (.tmp 23) (.tmp 26) rfl Try.underlying32 info3 w.heap.size u3 (backs q (q.ws.take k)) _ _ rfl hown2 rfl ?c1 (by omega) (by have := hbl.out; simp at this; omega) ?_)
        case c1 => rfl
        intro v1 w3 hr3 hk3 hm3
        have hrow3 := Row.keep hrow2 hk3 (fun i hi => fun e => Row.ne_row hrow2 hown2 (by decide) hi e)
        have hI3 := Lib.hid (hI2.out.keep hk3 (fun i hf hs => hI2.out.apart hown2 i hs hf))
        have hK3 := Lib.hid ((HKP.out.then_below B12.out).trans hk3 (T := fun i => u3.ownBlock = some i) (fun i hi hs => absurd (Row.at_lt hown2 hs).1 (by omega)))
        have hX3 := HX.out.keep hk3 (fun e => Row.ne_blk hown2 HX.out (by decide) e)
        have y0 := hX3.cell 0 rfl
        have e26 := hI3.out.blk.cell 26 rfl
        have hr3' := Lib.hid hr3
        have hrow3' := Lib.hid hrow3
        clear hrow2 hown2 hk3 hm3 hr3 hrow3 x0 x1 x2 hX3
        go_wp2_with fail
        go_region_law (refine step_delete Try.underlying3 Try.underlying62 rfl (.tmp 31) (.tmp 33) rfl (drew_map hI3.out.map) x.a (by simp [Act.eval, Act.put]) (by simp [Act.eval, Act.put]) hxw.out ?_; intro w4 hm4 hk4)
        all_goals
          have hm5 : MapI Try.prog w4 b q.nb (clr q.bi (backs q (q.ws.take (k + 1)))) := by rw [hbs2.out, ← clr_snoc]; exact hm4
          have J := drew_is hI3.out
          have hI4 := Lib.hid (show IsS w4 B g b (.slice (some ⟨bb, off, none⟩) q.ws.length c) { q with bi := clr q.bi (backs q (q.ws.take (k + 1))) } from
            ⟨J.lo, J.lob, Blk.of (J.blk.keep hk4 (fun e => J.ne_map e.symm)) rfl, hm5, Row.keep J.row hk4 (fun i hi e => J.map.ne_row J.row (e ▸ hi))⟩)
          have hO4 := Lib.hid (Row.keep (w := w3.drew) hr3'.out hk4 (fun i hi e => J.map.ne_row (w := w3.drew) hr3'.out (e ▸ hi)))
          have hR4 := Lib.hid (Row.keep (w := w3.drew) hrow3'.out hk4 (fun i hi e => J.map.ne_row (w := w3.drew) hrow3'.out (e ▸ hi)))
          have hK4 := Lib.hid (hK3.out.drew.trans hk4 (fun _ _ e => e))
          clear hm4 hm5 J hk4 y0 e26
          go_wp2
          go_roundw
          case measure => simp [intOf]; omega
          case rel => exact ⟨k + 1, by omega, by go_num, by rw [hbs2.out]; exact hO4.out, by rw [hls2.out]; exact hR4.out, hI4.out, hK4.out⟩
    · have hkn : k = q.ws.length := by omega
      rw [hkn, List.take_length] at hown hrow hi
      obtain ⟨A4, c4, rfl, _, _⟩ := Row.shape hrow
      have e27 := hi.blk.cell 27 rfl
      have f27 := hi.blk.free 27
      have HI := Lib.hid hi
      have HKP := Lib.hid hkp
      have HO := Lib.hid hown
      have HR := Lib.hid hrow
      clear hkn hi hkp hown hrow
      go_wp2
      go_ret
      have kk : Kept wr (wr.setCell ⟨g, 27, none⟩ (.slice A4 (lefts q q.ws).length c4)) (fun i => i = g) := (Kept.refl wr (fun i => i = g)).setCell (p := ⟨g, 27, none⟩) (.inl rfl) _
      refine ⟨u3, (.slice A4 (lefts q q.ws).length c4), rfl, Row.keep HO.out kk (fun i hi e => Row.ne_blk HO.out HI.out.blk (by decide) (e ▸ hi)), ?_, (HKP.out.mono (fun i _ e => .inr (.inl e))).trans (kk.mono (T := foot g b (.slice A q.ws.length c)) (fun i _ e => .inl e)) (fun _ _ e => e), fun i hi => .inr (Row.at_lt HR.out hi).1⟩
      exact ⟨HI.out.lo, HI.out.lob, Blk.of (HI.out.blk.set 27 (.slice A4 (lefts q q.ws).length c4)) rfl, HI.out.map.keep kk HI.out.ne_map, Row.mono (Row.keep HR.out kk (fun i hi e => Row.ne_blk HR.out HI.out.blk (by decide) (e ▸ hi))) hBw⟩
theorem rest_yes {w : World} {B g b : Nat} {v : Value} {q : Q} (h : IsS w B g b v q) (ht : q.ok 0) (hBw : B ≤ w.heap.size) (hl : q.ws.length < 1000000) (hwf : ∀ x ∈ q.ws, Wf x.a) :
    Calls Try.prog 27 #[.pointer (some ⟨g, 0, none⟩)] w (Swept w B g b v (backs q q.ws) q.swept .returned) := by
  have H := Lib.hid ht
  have HW := Lib.hid hwf
  clear ht hwf
  go_enter Try.func27, Try.ntmps27
  go_wp2_with fail
  refine (has_yes h _ H.out).mono ?_
  rintro e w1 ⟨rfl, rfl⟩
  go_wp2_with fail
  refine (sweep_any h hBw hl HW.out).mono ?_
  rintro e w1 ⟨u, v', rfl, h1, h2, h3, h4⟩
  have HH := Lib.hid (show Own w1 w.heap.size u (backs q q.ws) ∧ IsS w1 B g b v' q.swept ∧ Kept w w1 (foot g b v) ∧ Moved w v v' from ⟨h1, h2, h3, h4⟩)
  clear h1 h2 h3 h4
  go_wp2
  go_ret
  exact ⟨u, v', rfl, HH.out⟩
theorem rest_no {w : World} {p : Value} (h : NoT w p 0) :
    Calls Try.prog 27 #[p] w fun e w' => e = .returned (.slice none 0 0) ∧ w = w' := by
  have H := Lib.hid h
  clear h
  go_enter Try.func27, Try.ntmps27
  go_wp2_with (go_at_call 31; refine (has_not H.out).mono ?_; rintro e w' ⟨rfl, rfl⟩)
  go_ret
  exact ⟨rfl, rfl⟩
end Go.Proofs.Ytiokifkppfegfaa
