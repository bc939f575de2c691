/-
  The walks of Index, Contains, Clone of numbers; of loose.
-/
import Derived.Test.YtphahilggfckaaaWalks2
import Derived.WalkSpells
set_option linter.unusedVariables false
set_option linter.unusedSimpArgs false
namespace Go.Proofs.Ytphahilggfckaaa
open Go.RowKit Mem Qm
set_option maxRecDepth 100000

/-- Where a number is first in a list, from k on; -1: nowhere. -/
def idxFrom (x : Int) : Nat → List Int → Int
  | _, [] => -1
  | k, y :: t => if x = y then (k : Int) else idxFrom x (k + 1) t
theorem idxFrom_drop {l : List Int} {k : Nat} (x : Int) (h : k < l.length) : idxFrom x k (l.drop k) = if x = l[k] then (k : Int) else idxFrom x (k + 1) (l.drop (k + 1)) := by
  rw [List.drop_eq_getElem_cons h]; rfl
theorem idxFrom_has (x : Int) : ∀ (l : List Int) (k : Nat), decide (0 ≤ idxFrom x k l) = hasB l x
  | [], _ => rfl
  | y :: t, k => by
    have ih := idxFrom_has x t (k + 1)
    simp only [idxFrom, hasB, List.any_cons] at ih ⊢
    split
    · rename_i h; simp [h]
    · rename_i h; simp [h, ih]
set_option maxHeartbeats 400000 in
theorem index_any {w : World} {v : Value} {l : List Int} {x : Int} (h : Rd w v l.length 1 (ints l)) :
    Calls Try.prog 53 #[v, .int .i64 x] w fun e w' => e = .returned (.int .i64 (idxFrom x 0 l)) ∧ w = w' := by
  obtain ⟨A, c, rfl, hc1, hc2⟩ := h.shape
  have hrd := Lib.hid h
  clear h
  go_enter Try.func53, Try.ntmps53
  go_wp2
  go_loop [8] (fun i => ∃ k : Nat, k ≤ l.length ∧ i = .int .i64 k ∧ idxFrom x 0 l = idxFrom x k (l.drop k)) (fun i => l.length - (intOf i).toNat)
  case atStart => exact ⟨0, Nat.zero_le _, rfl, by rw [List.drop_zero]⟩
  case round =>
    obtain ⟨k, hk, rfl, hi⟩ := hrel
    have Hi := Lib.hid hi
    clear hi
    by_cases hlt : k < l.length
    · obtain ⟨b, off, rfl, hb, hcell⟩ := hrd.out.one hlt
      have d0 := hcell.trans (Qm.ints_at l k hlt)
      clear hcell
      have Hd := Lib.hid (idxFrom_drop x hlt)
      by_cases hx : x = l[k]
      · have hxb : (x == l[k]) = true := beq_iff_eq.2 hx
        have Hx := Lib.hid hx
        clear hx
        go_wp2
        go_ret
        exact ⟨by rw [Hi.out, Hd.out, if_pos Hx.out]; rfl, rfl⟩
      · have hxb : (x == l[k]) = false := beq_eq_false_iff_ne.2 hx
        have Hx := Lib.hid hx
        clear hx
        go_wp2
        go_round
        case measure => simp [intOf]; omega
        case rel => exact ⟨k + 1, by omega, by go_num, by rw [Hi.out, Hd.out, if_neg Hx.out]⟩
    · have hkn : k = l.length := by omega
      have Hkn := Lib.hid hkn
      clear hkn
      go_wp2
      go_ret
      exact ⟨by rw [Hi.out, Hkn.out, List.drop_length]; rfl, rfl⟩
theorem contains_any {w : World} {v : Value} {l : List Int} {x : Int} (h : Rd w v l.length 1 (ints l)) :
    Calls Try.prog 44 #[v, .int .i64 x] w fun e w' => e = .returned (.bool (hasB l x)) ∧ w = w' := by
  have hrd := Lib.hid h
  clear h
  have H := Lib.hid (idxFrom_has x l 0)
  go_enter Try.func44, Try.ntmps44
  go_wp2_with (go_at_call 53; refine (index_any hrd.out).mono ?_; rintro e w' ⟨rfl, rfl⟩)
  go_ret
  exact ⟨by rw [← H.out]; rfl, rfl⟩

/-- A new list of numbers. -/
def Gives (l : List Int) (w : World) (e : Ending) (w' : World) : Prop := ∃ u, e = .returned u ∧ Own w' w.heap.size u l ∧ Below w.heap.size w w'
/-- 'append(v, x)' of a number to a list of the call's own, behind its box. -/
theorem wpList_append_int {P : Program} {ops : Array Oper} {rest : List Oper} {o : Oper} {a : Act} {Q : Exit → Act → World → Prop} {w : World} (hgd : o.guard = none) (s x : Operand)
    (ho : o.op = .call { callee := .builtin .append, args := #[s, x], argTypes := #[42, 42] }) (ht : P.underlying 42 = some (.slice 3)) (hi : (P.info? 3).map (fun i => (i.zero, i.size, i.bytes)) = some (some (.int .i64 0), 1, 8))
    (B : Nat) (v : Value) (l : List Int) (y : Int) (N : Nat) (hs : a.eval s = v) (hown : Own w B v l) (hx : a.eval x = .slice (some ⟨N, 0, none⟩) 1 1) (hN : N = w.heap.size) (hB : B ≤ w.heap.size) (hl : l.length < 1000000)
    (h : ∀ v' w', Own w' B v' (l ++ [y]) → Kept w w' (fun k => v.ownBlock = some k) → (∀ k, v'.ownBlock = some k → v.ownBlock = some k ∨ w.heap.size ≤ k) → wpList P ops Q rest (a.put o.dst v') w') :
    wpList P ops Q (o :: rest) a (w.alloc (.cells #[.int .i64 y] 3)) := by
  subst hN
  obtain ⟨i0, hi0, hz0, hz1, hz2⟩ := info_parts hi
  refine wpList_append_own_at _ hgd s x 42 ho B 3 i0 (.int .i64 0) 1 8 ht hi0 hz0 hz1 hz2 rfl (by decide) v l.length (ints l) hs (World.ownsRow.alloc hown _) ⟨w.heap.size, 0, none⟩ 1 1 [.int .i64 y] hx rfl
    (fun j u hu => ?_) (by intro u hu; simp at hu; subst hu; rfl) (by simp only [maxLen]; omega) (by omega) (by simp; omega) ?_
  · match j, hu with
    | 0, hu => simp at hu; subst hu; simp [Addr.add]
  · intro v' w' hown' hg _ hat
    refine h v' w' (by simpa [Own, ints] using hown') ?_ ?_
    · exact ((Kept.refl w _).alloc _).grown hg (fun k hk => .inl hk)
    · intro k hk
      rcases hat with hat | hat
      · exact .inl (hat ▸ hk)
      · rw [hat] at hk; simp at hk; exact .inr (by omega)
abbrev RdI (w : World) (v : Value) (l : List Int) : Prop := Rd w v l.length 1 (ints l)
/-- A copy of a list of numbers. -/
theorem iclone_any {w : World} {B : Nat} {v : Value} {l : List Int} (h : Own w B v l) (hl : l.length < 1000000) :
    Calls Try.prog 41 #[v] w (Gives l w) := by
  rcases h.2 with ⟨rfl, hn⟩ | ⟨g, cap, cur, rfl, hb, hg, hc1, hc2, hc3, hc4⟩
  · obtain rfl := List.eq_nil_of_length_eq_zero hn
    have he := fun W0 : World => Lib.run_eql_slice_nil (P := Try.prog) W0 42 3 none 0 0 0 0 Try.underlying42
    go_enter Try.func41, Try.ntmps41
    go_wp2
    go_ret
    exact ⟨_, rfl, World.ownsRow_nil _ _ _ _, Below.refl _ _⟩
  · obtain ⟨i0, hi0, hz0, hz1, hz2⟩ := info_one info3
    obtain ⟨hlen, A', c', hv, _, _, hcell⟩ := Row.rd h
    have H := Lib.hid h
    clear h
    have he := fun W0 : World => Lib.run_eql_slice_nil (P := Try.prog) W0 42 3 (some ⟨g, 0, none⟩) l.length cap 0 0 Try.underlying42
    go_enter Try.func41, Try.ntmps41
    go_wp2_with (at_builtin; refine wpList_append_own_at _ rfl (.tmp 5) (.tmp 6) 42 rfl w.heap.size 3 i0 _ 1 8 Try.underlying42 hi0 hz0 hz1 hz2 rfl (by decide) (.slice (some ⟨w.heap.size, 0, none⟩) 0 0) 0 [] rfl ?c0 ⟨g, 0, none⟩ l.length cap (ints l) rfl (by simp [ints]) ?c1 ?c2 ?c3 ?c4 ?c5 ?_)
    case c0 => exact World.ownsRow_made w #[] 0 (Nat.le_refl _) (by simp [maxLen]) (by simp)
    case c1 =>
      intro j u hu
      have hj : j < (ints l).length := (List.getElem?_eq_some_iff.1 hu).1
      obtain ⟨b', off', hA, hlt, hc⟩ := hcell (by rw [ints_length] at hj; omega)
      injection hA with hA
      injection hA with hA1 hA2
      subst hA1 hA2
      rw [show (⟨g, 0, none⟩ : Addr).add j = ⟨g, 0 + j, none⟩ by unfold Addr.add; split <;> simp_all, World.cell?_alloc_past _ _ _ hlt]
      exact hc j u hu
    case c2 =>
      intro u hu
      simp only [ints, List.mem_map] at hu
      obtain ⟨x, _, rfl⟩ := hu
      rfl
    case c3 => simp only [maxLen]; omega
    case c4 => omega
    case c5 => simp
    intro v1 w1 hown hgr _ _
    have HO := Lib.hid (show Own w1 w.heap.size v1 l by simpa [Own, ints] using hown)
    have hbel : Below w.heap.size w w1 := ((Below.refl _ w).alloc (Nat.le_refl _) _).grown hgr (by simp) (fun k hk => by simp [Value.ownBlock] at hk; omega)
    clear hcell hgr hown
    go_wp2
    go_ret
    exact ⟨v1, rfl, HO.out, hbel⟩
/-- What a call leaves that ends in giving back. -/
def Loosed (w : World) (B g gh b N : Nat) (v : Value) (l : List Int) (q : Q) (F : Value → Ending) (e : Ending) (w' : World) : Prop :=
  ∃ u v', e = F u ∧ Own w' w.heap.size u l ∧ IsC w' B g gh b N v' q ∧ Kept w w' (foot g gh b v) ∧ Moved w v v'
set_option maxHeartbeats 1000000 in
theorem loose_any {w : World} {B g gh b N : Nat} {v : Value} {q : Q} (h : IsC w B g gh b N v q) (hBw : B ≤ w.heap.size) (hl : q.ws.length < 1000000) (hwf : ∀ x ∈ q.ws, Wf x) :
    Calls Try.prog 42 #[.pointer (some ⟨g, 0, none⟩)] w (Loosed w B g gh b N v (backs q q.ws) q.loose .returned) := by
  have c2 := h.blk.cell 2 rfl
  have H := Lib.hid h
  have HWF := Lib.hid hwf
  obtain ⟨A, c, rfl, hc1, hc2⟩ := Row.shape h.row
  have hc3 : c ≤ 9223372036854775807 := by simpa [maxLen] using hc2
  clear hc2 h hwf
  go_enter Try.func42, Try.ntmps42
  go_wp2
  go_loopw [3, 4, 12] (fun u l i wr => ∃ k : Nat, k ≤ q.ws.length ∧ i = .int .i64 k ∧ Own wr w.heap.size u (backs q (q.ws.take k)) ∧ Own wr w.heap.size l (lefts q (q.ws.take k)) ∧ Hid (∀ i, u.ownBlock = some i → l.ownBlock ≠ some i) ∧ Below w.heap.size w wr) (fun _ _ i _ => q.ws.length - (intOf i).toNat)
  case atStart => exact ⟨0, Nat.zero_le _, rfl, Own.nil _ _, Own.nil _ _, (fun i h => by cases h), Below.refl _ _⟩
  case round =>
    obtain ⟨k, hk, rfl, hou, hol, hap, hbel⟩ := hrel
    have hR := H.out.below hbel
    have hsz := hbel.size
    have HB := Lib.hid hbel
    have HU := Lib.hid hou
    have HL := Lib.hid hol
    by_cases hlt : k < q.ws.length
    · obtain ⟨bb, off, rfl, hb, hcell⟩ := (Row.rd hR.row).one hlt
      have d0 := hcell.trans (Qm.ints_at q.ws k hlt)
      have e1 := hR.blk.cell 1 rfl
      have hxw := HWF.out _ (List.getElem_mem hlt)
      have hbs := Lib.hid (backs_snoc (q := q) hlt)
      have hls := Lib.hid (lefts_snoc (q := q) hlt)
      have hbl := Lib.hid (backs_le q (q.ws.take k))
      have hll := Lib.hid (lefts_le q (q.ws.take k))
      obtain ⟨x, hx⟩ : ∃ x, q.ws[k] = x := ⟨_, rfl⟩
      rw [hx] at d0 hxw hbs hls
      have lk := MapI.look Try.underlying3 zero3 Try.underlying67 hR.map hxw
      clear hcell hx hou hol hbel hR hxw
      by_cases hz : q.c x = 0
      · have z0 : (q.c x == 0) = true := beq_iff_eq.2 hz
        have hbs2 := Lib.hid (show backs q (q.ws.take (k + 1)) = backs q (q.ws.take k) ++ [x] by rw [hbs.out, if_pos hz])
        have hls2 := Lib.hid (show lefts q (q.ws.take (k + 1)) = lefts q (q.ws.take k) by rw [hls.out, if_pos hz])
        clear hz
        go_wp2_with (at_builtin; refine wpList_append_int rfl (.tmp 23) (.tmp 25) rfl Try.underlying42 info3 w.heap.size u3 (backs q (q.ws.take k)) _ _ rfl HU.out rfl ?c1 hsz (by have := hbl.out; simp at this; omega) ?_)
        case c1 => rfl
        intro v1 w3 ho1 hk1 hm1
        have HU3 := Lib.hid (show Own w3 w.heap.size v1 (backs q (q.ws.take (k + 1))) by rw [hbs2.out]; exact ho1)
        have HL3 := Lib.hid (show Own w3 w.heap.size u4 (lefts q (q.ws.take (k + 1))) by rw [hls2.out]; exact Row.keep HL.out hk1 (fun i hi e => hap.out i e hi))
        have HA3 := Lib.hid (show ∀ i, v1.ownBlock = some i → u4.ownBlock ≠ some i from fun i hi e => by
          rcases hm1 i hi with h1 | h1
          · exact hap.out i h1 e
          · have := (Row.at_lt HL.out e).2; omega)
        have HB3 := Lib.hid (HB.out.trans (hk1.below hsz (fun i hi => (Row.at_lt HU.out hi).1)))
        clear ho1 hk1 hm1
        go_wp2
        go_roundw
        case measure => simp [intOf]; omega
        case rel => exact ⟨k + 1, by omega, by go_num, HU3.out, HL3.out, HA3.out, HB3.out⟩
      · have z0 : (q.c x == 0) = false := beq_eq_false_iff_ne.2 hz
        have hbs2 := Lib.hid (show backs q (q.ws.take (k + 1)) = backs q (q.ws.take k) by rw [hbs.out, if_neg hz])
        have hls2 := Lib.hid (show lefts q (q.ws.take (k + 1)) = lefts q (q.ws.take k) ++ [x] by rw [hls.out, if_neg hz])
        clear hz
        go_wp2_with (at_builtin; refine wpList_append_int rfl (.tmp 27) (.tmp 29) rfl Try.underlying42 info3 w.heap.size u4 (lefts q (q.ws.take k)) _ _ rfl HL.out rfl ?c1 hsz (by have := hll.out; simp at this; omega) ?_)
        case c1 => rfl
        intro v1 w3 ho1 hk1 hm1
        have HL3 := Lib.hid (show Own w3 w.heap.size v1 (lefts q (q.ws.take (k + 1))) by rw [hls2.out]; exact ho1)
        have HU3 := Lib.hid (show Own w3 w.heap.size u3 (backs q (q.ws.take (k + 1))) by rw [hbs2.out]; exact Row.keep HU.out hk1 (fun i hi e => hap.out i hi e))
        have HA3 := Lib.hid (show ∀ i, u3.ownBlock = some i → v1.ownBlock ≠ some i from fun i hi e => by
          rcases hm1 i e with h1 | h1
          · exact hap.out i hi h1
          · have := (Row.at_lt HU.out hi).2; omega)
        have HB3 := Lib.hid (HB.out.trans (hk1.below hsz (fun i hi => (Row.at_lt HL.out hi).1)))
        clear ho1 hk1 hm1
        go_wp2
        go_roundw
        case measure => simp [intOf]; omega
        case rel => exact ⟨k + 1, by omega, by go_num, HU3.out, HL3.out, HA3.out, HB3.out⟩
    · have hkn : k = q.ws.length := by omega
      rw [hkn, List.take_length] at hou hol
      obtain ⟨A4, c4, rfl, _, _⟩ := Row.shape hol
      have e2 := hR.blk.cell 2 rfl
      have f2 := hR.blk.free 2
      have HI := Lib.hid hR
      have HO := Lib.hid hou
      have HR := Lib.hid hol
      clear hkn hR hou hol hbel HU HL
      go_wp2
      go_ret
      have kk : Kept wr (wr.setCell ⟨g, 2, none⟩ (.slice A4 (lefts q q.ws).length c4)) (fun i => i = g) := (Kept.refl wr (fun i => i = g)).setCell (p := ⟨g, 2, none⟩) (.inl rfl) _
      refine ⟨u3, (.slice A4 (lefts q q.ws).length c4), rfl, Row.keep HO.out kk (fun i hi e => Row.ne_blk HO.out HI.out.blk (by decide) (e ▸ hi)), ⟨HI.out.lo, HI.out.loh, HI.out.lob, HI.out.blk.set 2 _, HI.out.hold.keep kk HI.out.ne_h, HI.out.map.keep kk HI.out.ne_m, Row.mono (Row.keep HR.out kk (fun i hi e => Row.ne_blk HR.out HI.out.blk (by decide) (e ▸ hi))) hBw, HI.out.len⟩, (Kept.of_below HB.out _).trans kk (fun i _ e => .inl e), fun i hi => .inr (Row.at_lt HR.out hi).1⟩
end Go.Proofs.Ytphahilggfckaaa
