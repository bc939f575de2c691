/-
  The walks of the manager's loops.
-/
import Derived.Test.YtdgkdfblgeobmaaWalks1
set_option linter.unusedVariables false
set_option linter.unusedSimpArgs false
namespace Go.Proofs.Ytdgkdfblgeobmaa
open Go.RowKit Mem Qm
set_option maxRecDepth 100000

theorem info3 : (Try.prog.info? 3).map (fun i => (i.zero, i.size, i.bytes)) = some (some (.int .i64 0), 1, 8) := by kernel_rfl
theorem info62 : (Try.prog.info? 62).map (fun i => (i.zero, i.size, i.bytes)) = some (some (.agg #[.int .i64 0, .bool false, .bool false, .bool false, .bool false]), 5, 16) := by kernel_rfl
/-- A new list of numbers. -/
def Gives (l : List Int) (w : World) (e : Ending) (w' : World) : Prop := ∃ u, e = .returned u ∧ Own w' w.heap.size u l ∧ Below w.heap.size w w'

/-- 'append(v, x)' of a number to a list of the call's own, behind its box. -/
theorem wpList_append_int {P : Program} {ops : Array Oper} {rest : List Oper} {o : Oper} {a : Act} {Q : Exit → Act → World → Prop} {w : World} (hgd : o.guard = none) (s x : Operand)
    (ho : o.op = .call { callee := .builtin .append, args := #[s, x], argTypes := #[28, 28] }) (ht : P.underlying 28 = some (.slice 3)) (hi : (P.info? 3).map (fun i => (i.zero, i.size, i.bytes)) = some (some (.int .i64 0), 1, 8))
    (B : Nat) (v : Value) (l : List Int) (y : Int) (N : Nat) (hs : a.eval s = v) (hown : Own w B v l) (hx : a.eval x = .slice (some ⟨N, 0, none⟩) 1 1) (hN : N = w.heap.size) (hB : B ≤ w.heap.size) (hl : l.length < 1000000)
    (h : ∀ v' w', Own w' B v' (l ++ [y]) → Kept w w' (fun k => v.ownBlock = some k) → (∀ k, v'.ownBlock = some k → v.ownBlock = some k ∨ w.heap.size ≤ k) → wpList P ops Q rest (a.put o.dst v') w') :
    wpList P ops Q (o :: rest) a (w.alloc (.cells #[.int .i64 y] 3)) := by
  subst hN
  obtain ⟨i0, hi0, hz0, hz1, hz2⟩ := info_parts hi
  refine wpList_append_own_at _ hgd s x 28 ho B 3 i0 (.int .i64 0) 1 8 ht hi0 hz0 hz1 hz2 rfl (by decide) v l.length (ints l) hs (World.ownsRow.alloc hown _) ⟨w.heap.size, 0, none⟩ 1 1 [.int .i64 y] hx rfl
    (fun j u hu => ?_) (by intro u hu; simp at hu; subst hu; rfl) (by simp only [maxLen]; omega) (by omega) (by simp; omega) ?_
  · match j, hu with
    | 0, hu => simp at hu; subst hu; simp [Addr.add]
  · intro v' w' hown' hg _ hat
    refine h v' w' (by simpa [Own, ints] using hown') ?_ ?_
    · exact ((Kept.refl w _).alloc _).grown hg (fun k hk => .inl hk)
    · intro k hk
      rcases hat with hat | hat
      · exact .inl (hat ▸ hk)
      · rw [hat] at hk; simp at hk; exact .inr (by omega)
theorem wf_at {l : List Int} {j : Nat} (h : j < l.length) : l.take (j + 1) = l.take j ++ [l[j]] := by rw [List.take_add_one, List.getElem?_eq_getElem h]; rfl

set_option maxHeartbeats 400000 in
theorem waiting_yes {w : World} {B g : Nat} {v : Value} {q : Q} (h : Is w B g v q) (ht : q.ok 0) (hl : q.ws.length < 1000000) :
    Calls Try.prog 13 #[.pointer (some ⟨g, 0, none⟩)] w (Gives (addrs q.ws) w) := by
  have H := Lib.hid ht
  clear ht
  have c5 := h.blk.cell 5 rfl
  obtain ⟨A, c, rfl, hc1, hc2⟩ := Row.shape h.row
  have hc3 : c ≤ 9223372036854775807 := by simpa [maxLen] using hc2
  clear hc2
  have hrd := Lib.hid (Row.rd h.row)
  go_enter Try.func13, Try.ntmps13
  go_wp2_with (go_at_call 31; refine (has_yes h _ H.out).mono ?_; rintro e w' ⟨rfl, rfl⟩)
  go_loopw [3, 14] (fun u i wr => ∃ k : Nat, k ≤ q.ws.length ∧ i = .int .i64 k ∧ Own wr w.heap.size u (addrs (q.ws.take k)) ∧ Below w.heap.size w wr) (fun _ i _ => q.ws.length - (intOf i).toNat)
  case atStart => exact ⟨0, Nat.zero_le _, rfl, Own.nil _ _, Below.refl _ _⟩
  case round =>
    obtain ⟨k, hk, rfl, hown, hbel⟩ := hrel
    by_cases hlt : k < q.ws.length
    · obtain ⟨b, off, rfl, hb, hcell⟩ := Rd.elem (hrd.out.below hbel) hlt
      have hat := fun i hi => (hcell i hi).trans (flat_at q.ws k hlt i hi)
      have d0 := hat 0 (by decide)
      have d1 := hat 1 (by decide)
      have d2 := hat 2 (by decide)
      have d3 := hat 3 (by decide)
      have d4 := hat 4 (by decide)
      clear hcell hat
      simp only [wCells, List.getElem?_cons_zero, List.getElem?_cons_succ, Nat.add_zero] at d0 d1 d2 d3 d4
      have htk := addrs_snoc hlt
      have hlen : (addrs (q.ws.take k)).length < 1000000 := by simp [addrs]; omega
      have hsz := hbel.size
      have Htk := Lib.hid htk
      clear htk
      go_wp2_with (at_builtin; refine wpList_append_int rfl (.tmp 18) (.tmp 21) rfl Try.underlying28 info3 w.heap.size u3 (addrs (q.ws.take k)) _ _ rfl (World.ownsRow.alloc hown _) rfl ?c1 ?c2 hlen ?_)
      case c1 => simp
      case c2 => simp; omega
      intro v1 w1 ho1 hk1 hm1
      go_wp2
      go_roundw
      case measure => simp [intOf]; omega
      case rel => 
        refine ⟨k + 1, by omega, by go_num, by rw [Htk.out]; exact ho1, ?_⟩
        exact (hbel.alloc hsz _).trans (hk1.below (by simp; omega) (fun i hi => (Row.at_lt hown hi).1))
    · have hkn : k = q.ws.length := by omega
      have Hkn := Lib.hid hkn
      clear hkn
      go_wp2
      go_ret
      exact ⟨u3, rfl, by rw [Hkn.out, List.take_length] at hown; exact hown, hbel⟩

/-- 'append(v, x)' of an element that waits, behind its box. -/
theorem wpList_append_w {P : Program} {ops : Array Oper} {rest : List Oper} {o : Oper} {a : Act} {Q : Exit → Act → World → Prop} {w : World} (hgd : o.guard = none) (s x : Operand)
    (ho : o.op = .call { callee := .builtin .append, args := #[s, x], argTypes := #[54, 54] }) (ht : P.underlying 54 = some (.slice 62)) (hi : (P.info? 62).map (fun i => (i.zero, i.size, i.bytes)) = some (some (.agg #[.int .i64 0, .bool false, .bool false, .bool false, .bool false]), 5, 16))
    (B : Nat) (v : Value) (l : List W) (y : W) (N : Nat) (hs : a.eval s = v) (hown : Row w B 62 5 v l.length (flat l)) (hx : a.eval x = .slice (some ⟨N, 0, none⟩) 1 1) (hN : N = w.heap.size) (hB : B ≤ w.heap.size) (hl : l.length < 1000000)
    (h : ∀ v' w', Row w' B 62 5 v' (l ++ [y]).length (flat (l ++ [y])) → Kept w w' (fun k => v.ownBlock = some k) → (∀ k, v'.ownBlock = some k → v.ownBlock = some k ∨ w.heap.size ≤ k) → wpList P ops Q rest (a.put o.dst v') w') :
    wpList P ops Q (o :: rest) a (w.alloc (.cells #[.int .i64 y.1, .bool y.2.a, .bool y.2.b, .bool y.2.c, .bool y.2.d] 62)) := by
  subst hN
  obtain ⟨i0, hi0, hz0, hz1, hz2⟩ := info_parts hi
  refine wpList_append_own_at _ hgd s x 54 ho B 62 i0 _ 5 16 ht hi0 hz0 hz1 hz2 rfl (by decide) v l.length (flat l) hs (World.ownsRow.alloc hown _) ⟨w.heap.size, 0, none⟩ 1 1 (wCells y) hx rfl
    (fun j u hu => ?_) (by intro u hu; simp only [wCells, List.mem_cons, List.not_mem_nil, or_false] at hu; rcases hu with rfl | rfl | rfl | rfl | rfl <;> rfl) (by simp only [maxLen]; omega) (by omega) (by simp; omega) ?_
  · rw [show (⟨w.heap.size, 0, none⟩ : Addr).add j = ⟨w.heap.size, j, none⟩ by unfold Addr.add; split <;> simp_all]
    rw [World.cell?_alloc_new]
    simpa [wCells] using hu
  · intro v' w' hown' hg _ hat
    refine h v' w' (by simpa [flat] using hown') ?_ ?_
    · exact ((Kept.refl w _).alloc _).grown hg (fun k hk => .inl hk)
    · intro k hk
      rcases hat with hat | hat
      · exact .inl (hat ▸ hk)
      · rw [hat] at hk; simp at hk; exact .inr (by omega)

/-- What a sweep, or a call that ends in one, leaves: the list that is given back, and the manager. -/
def Swept (w : World) (B g : Nat) (v : Value) (l : List Int) (q : Q) (F : Value → Ending) (e : Ending) (w' : World) : Prop :=
  ∃ u v', e = F u ∧ Own w' w.heap.size u l ∧ Is w' B g v' q ∧ Kept w w' (foot g v) ∧ Moved w v v'
theorem eq_crowd (x : Cr) (w : World) : (binOp .eql 53 (.agg #[.bool x.a, .bool x.b, .bool x.c, .bool x.d]) (.agg #[.bool false, .bool false, .bool false, .bool false])).run Try.prog w = .ok (.bool x.no) w := by
  obtain ⟨a, b, c, d⟩ := x
  cases a <;> cases b <;> cases c <;> cases d <;> kernel_rfl
theorem backs_snoc {ws : List W} {k : Nat} (h : k < ws.length) : backs (ws.take (k + 1)) = if ws[k].2.no then backs (ws.take k) ++ [ws[k].1] else backs (ws.take k) := by
  rw [take_snoc h, backs, List.filter_append, List.map_append]
  split
  · rename_i hn; simp [hn, backs]
  · rename_i hn; simp [hn, backs]
theorem lefts_snoc {ws : List W} {k : Nat} (h : k < ws.length) : lefts (ws.take (k + 1)) = if ws[k].2.no then lefts (ws.take k) else lefts (ws.take k) ++ [ws[k]] := by
  rw [take_snoc h, lefts, List.filter_append]
  split
  · rename_i hn; simp [hn, lefts]
  · rename_i hn; simp [hn, lefts]
theorem backs_le (ws : List W) : (backs ws).length ≤ ws.length := by simp only [backs, List.length_map]; exact List.length_filter_le _ _
theorem lefts_le (ws : List W) : (lefts ws).length ≤ ws.length := List.length_filter_le _ _

set_option maxHeartbeats 400000 in
theorem over_any {w : World} {B g : Nat} {v : Value} {q : Q} (h : Is w B g v q) (hBw : B ≤ w.heap.size) (hl : q.ws.length < 1000000) :
    Calls Try.prog 32 #[.pointer (some ⟨g, 0, none⟩)] w (Swept w B g v (backs q.ws) ⟨q.n, q.ins, lefts q.ws⟩ .returned) := by
  have c5 := h.blk.cell 5 rfl
  have f5 := h.blk.free 5
  have hblk := Lib.hid h.blk
  obtain ⟨A, c, rfl, hc1, hc2⟩ := Row.shape h.row
  have hc3 : c ≤ 9223372036854775807 := by simpa [maxLen] using hc2
  clear hc2
  have hrd := Lib.hid (Row.rd h.row)
  have hlt0 := h.blk.lt
  go_enter Try.func32, Try.ntmps32
  go_wp2
  go_loopw [3, 4, 12] (fun u l i wr => ∃ k : Nat, k ≤ q.ws.length ∧ i = .int .i64 k ∧ Own wr w.heap.size u (backs (q.ws.take k)) ∧ Row wr w.heap.size 62 5 l (lefts (q.ws.take k)).length (flat (lefts (q.ws.take k))) ∧ Below w.heap.size w wr) (fun _ _ i _ => q.ws.length - (intOf i).toNat)
  case atStart => exact ⟨0, Nat.zero_le _, rfl, Own.nil _ _, World.ownsRow_nil _ _ _ _, Below.refl _ _⟩
  case round =>
    obtain ⟨k, hk, rfl, hown, hrow, hbel⟩ := hrel
    by_cases hlt : k < q.ws.length
    · obtain ⟨b, off, rfl, hb, hcell⟩ := Rd.elem (hrd.out.below hbel) hlt
      have hat := fun i hi => (hcell i hi).trans (flat_at q.ws k hlt i hi)
      have d0 := hat 0 (by decide)
      have d1 := hat 1 (by decide)
      have d2 := hat 2 (by decide)
      have d3 := hat 3 (by decide)
      have d4 := hat 4 (by decide)
      clear hcell hat
      simp only [wCells, List.getElem?_cons_zero, List.getElem?_cons_succ, Nat.add_zero] at d0 d1 d2 d3 d4
      have Hbs := Lib.hid (backs_snoc hlt)
      have Hls := Lib.hid (lefts_snoc hlt)
      have hlen1 : (backs (q.ws.take k)).length < 1000000 := by have := backs_le (q.ws.take k); simp at this; omega
      have hlen2 : (lefts (q.ws.take k)).length < 1000000 := by have := lefts_le (q.ws.take k); simp at this; omega
      have hsz := hbel.size
      have heq := eq_crowd q.ws[k].2
      cases hn : q.ws[k].2.no with
      | true =>
        rw [hn] at heq
        have Hn := Lib.hid hn
        clear hn
        go_wp2_with (at_builtin; refine wpList_append_int rfl (.tmp 20) (.tmp 23) rfl Try.underlying28 info3 w.heap.size u3 (backs (q.ws.take k)) _ _ rfl (World.ownsRow.alloc hown _) rfl ?c1 ?c2 hlen1 ?_)
        case c1 => simp
        case c2 => simp; omega
        intro v1 w1 ho1 hk1 hm1
        go_wp2
        go_roundw
        case measure => simp [intOf]; omega
        case rel =>
          have hb1 := (hbel.alloc hsz (.cells #[.int .i64 q.ws[k].1, .bool q.ws[k].2.a, .bool q.ws[k].2.b, .bool q.ws[k].2.c, .bool q.ws[k].2.d] 62)).trans (hk1.below (by simp; omega) (fun i hi => (Row.at_lt hown hi).1))
          refine ⟨k + 1, by omega, by go_num, by rw [Hbs.out, if_pos Hn.out]; exact ho1, ?_, hb1⟩
          rw [Hls.out, if_pos Hn.out]
          exact Row.keep (World.ownsRow.alloc hrow _) hk1 (fun i hi e => Row.ne_row hrow hown (by decide) hi e)
      | false =>
        rw [hn] at heq
        have Hn := Lib.hid hn
        clear hn
        go_wp2_with (at_builtin; refine wpList_append_w rfl (.tmp 25) (.tmp 27) rfl Try.underlying54 info62 w.heap.size u4 (lefts (q.ws.take k)) q.ws[k] _ rfl (World.ownsRow.alloc hrow _) rfl ?c1 ?c2 hlen2 ?_)
        case c1 => simp
        case c2 => simp; omega
        intro v1 w1 ho1 hk1 hm1
        go_wp2
        go_roundw
        case measure => simp [intOf]; omega
        case rel =>
          have hb1 := (hbel.alloc hsz (.cells #[.int .i64 q.ws[k].1, .bool q.ws[k].2.a, .bool q.ws[k].2.b, .bool q.ws[k].2.c, .bool q.ws[k].2.d] 62)).trans (hk1.below (by simp; omega) (fun i hi => (Row.at_lt hrow hi).1))
          refine ⟨k + 1, by omega, by go_num, ?_, by rw [Hls.out, if_neg (by rw [Hn.out]; decide)]; simpa using ho1, hb1⟩
          rw [Hbs.out, if_neg (by rw [Hn.out]; decide)]
          exact Row.keep (World.ownsRow.alloc hown _) hk1 (fun i hi e => Row.ne_row hown hrow (by decide) hi e)
    · have hkn : k = q.ws.length := by omega
      have Hkn := Lib.hid hkn
      clear hkn
      have e5 := (hbel.cell (p := ⟨g, 5, none⟩) hlt0).trans c5
      have g5 := (hbel.frozen (p := ⟨g, 5, none⟩) hlt0).trans f5
      obtain ⟨A', c', rfl, hc1', hc2'⟩ := Row.shape hrow
      have hb := hblk.out.below hbel
      have hS : Kept wr (wr.setCell ⟨g, 5, none⟩ (.slice A' (lefts (q.ws.take k)).length c')) (fun i => i = g) := (Kept.refl wr (fun i => i = g)).setCell (p := ⟨g, 5, none⟩) (.inl rfl) _
      have hlo := h.lo
      clear h hlt0
      have Hrow := Lib.hid hrow
      have Hown := Lib.hid hown
      have Hbel := Lib.hid hbel
      have HB := Lib.hid hb
      have HS := Lib.hid hS
      clear hrow hown hbel hb hS
      go_wp2
      go_ret
      have e1 : q.ws.take k = q.ws := by rw [Hkn.out, List.take_length]
      have h1 := Hrow.out
      have h2 := Hown.out
      rw [e1] at h1 h2 HS ⊢
      refine ⟨u3, _, rfl, Row.keep h2 HS.out (fun i hi e => Row.ne_blk h2 HB.out (by decide) (e ▸ hi)), ⟨hlo, HB.out.set 5 _, Row.mono (Row.keep h1 HS.out (fun i hi e => Row.ne_blk h1 HB.out (by decide) (e ▸ hi))) hBw⟩,
        (Kept.of_below Hbel.out _).setCell (.inl (.inl rfl)) _, fun i hi => .inr (Row.at_lt h1 hi).1⟩
end Go.Proofs.Ytdgkdfblgeobmaa
