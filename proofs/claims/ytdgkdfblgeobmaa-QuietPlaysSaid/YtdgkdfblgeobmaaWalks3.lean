/-
  The walks of Index, Contains, For, Out, Retire, Clone and Copy.
-/
import Derived.Test.YtdgkdfblgeobmaaWalks2
import Derived.Deep.RegionLaw
set_option linter.unusedVariables false
set_option linter.unusedSimpArgs false
namespace Go.Proofs.Ytdgkdfblgeobmaa
open Go.RowKit Mem Qm
set_option maxRecDepth 100000

/-- Whether a number is in a list. -/
def hasB (l : List Int) (x : Int) : Bool := l.any fun y => decide (x = y)
/-- Where a number is first in a list, from k on; -1: nowhere. -/
def idxFrom (x : Int) : Nat → List Int → Int
  | _, [] => -1
  | k, y :: t => if x = y then (k : Int) else idxFrom x (k + 1) t
theorem idxFrom_drop {l : List Int} {k : Nat} (x : Int) (h : k < l.length) : idxFrom x k (l.drop k) = if x = l[k] then (k : Int) else idxFrom x (k + 1) (l.drop (k + 1)) := by
  rw [List.drop_eq_getElem_cons h]; rfl
theorem idxFrom_has (x : Int) : ∀ (l : List Int) (k : Nat), decide (0 ≤ idxFrom x k l) = hasB l x
  | [], _ => rfl
  | y :: t, k => by
    have ih := idxFrom_has x t (k + 1)
    simp only [idxFrom, hasB, List.any_cons] at ih ⊢
    split
    · rename_i h; simp [h]
    · rename_i h; simp [h, ih]
set_option maxHeartbeats 400000 in
theorem index_any {w : World} {v : Value} {l : List Int} {x : Int} (h : Rd w v l.length 1 (ints l)) :
    Calls Try.prog 43 #[v, .int .i64 x] w fun e w' => e = .returned (.int .i64 (idxFrom x 0 l)) ∧ w = w' := by
  obtain ⟨A, c, rfl, hc1, hc2⟩ := h.shape
  have hrd := Lib.hid h
  clear h
  go_enter Try.func43, Try.ntmps43
  go_wp2
  go_loop [8] (fun i => ∃ k : Nat, k ≤ l.length ∧ i = .int .i64 k ∧ idxFrom x 0 l = idxFrom x k (l.drop k)) (fun i => l.length - (intOf i).toNat)
  case atStart => exact ⟨0, Nat.zero_le _, rfl, by rw [List.drop_zero]⟩
  case round =>
    obtain ⟨k, hk, rfl, hi⟩ := hrel
    have Hi := Lib.hid hi
    clear hi
    by_cases hlt : k < l.length
    · obtain ⟨b, off, rfl, hb, hcell⟩ := hrd.out.one hlt
      have d0 := hcell.trans (Qm.ints_at l k hlt)
      clear hcell
      have Hd := Lib.hid (idxFrom_drop x hlt)
      by_cases hx : x = l[k]
      · have hxb : (x == l[k]) = true := beq_iff_eq.2 hx
        have Hx := Lib.hid hx
        clear hx
        go_wp2
        go_ret
        exact ⟨by rw [Hi.out, Hd.out, if_pos Hx.out]; rfl, rfl⟩
      · have hxb : (x == l[k]) = false := beq_eq_false_iff_ne.2 hx
        have Hx := Lib.hid hx
        clear hx
        go_wp2
        go_round
        case measure => simp [intOf]; omega
        case rel => exact ⟨k + 1, by omega, by go_num, by rw [Hi.out, Hd.out, if_neg Hx.out]⟩
    · have hkn : k = l.length := by omega
      have Hkn := Lib.hid hkn
      clear hkn
      go_wp2
      go_ret
      exact ⟨by rw [Hi.out, Hkn.out, List.drop_length]; rfl, rfl⟩
theorem contains_any {w : World} {v : Value} {l : List Int} {x : Int} (h : Rd w v l.length 1 (ints l)) :
    Calls Try.prog 33 #[v, .int .i64 x] w fun e w' => e = .returned (.bool (hasB l x)) ∧ w = w' := by
  have hrd := Lib.hid h
  clear h
  have H := Lib.hid (idxFrom_has x l 0)
  go_enter Try.func33, Try.ntmps33
  go_wp2_with (go_at_call 43; refine (index_any hrd.out).mono ?_; rintro e w' ⟨rfl, rfl⟩)
  go_ret
  exact ⟨by rw [← H.out]; rfl, rfl⟩

/-! Out -/
theorem cut_cells (t : Int) (x : W) : wCells (x.1, x.2.set t false) = [.int .i64 x.1, .bool (if t = 0 then false else x.2.a), .bool (if t = 1 then false else x.2.b), .bool (if t = 2 then false else x.2.c), .bool (if t = 3 then false else x.2.d)] := rfl
/-- One element turned. -/
theorem flat_set : ∀ (ws : List W) (k : Nat) (h : k < ws.length) (t : Int), 0 ≤ t → t < 4 →
    (flat ws).set (k * 5 + (t + 1).toNat) (.bool false) = flat (ws.set k (ws[k].1, ws[k].2.set t false))
  | x :: ws, 0, h, t, h0, h4 => by
    rcases (show t = 0 ∨ t = 1 ∨ t = 2 ∨ t = 3 by omega) with rfl | rfl | rfl | rfl <;> rfl
  | x :: ws, k + 1, h, t, h0, h4 => by
    have ih := flat_set ws k (by simpa using h) t h0 h4
    simp only [flat, List.flatMap_cons, List.set_cons_succ, List.getElem_cons_succ] at ih ⊢
    rw [← ih, List.set_append_right _ _ (by simp [wCells]; omega)]
    congr 2
    simp [wCells]; omega
/-- So many elements turned. -/
def cutTo (t : Int) (k : Nat) (ws : List W) : List W := cutBy t (ws.take k) ++ ws.drop k
theorem cutTo_length (t : Int) (k : Nat) (ws : List W) (h : k ≤ ws.length) : (cutTo t k ws).length = ws.length := by simp [cutTo, cutBy]; omega
theorem cutTo_at (t : Int) (k : Nat) (ws : List W) (h : k < ws.length) : (cutTo t k ws)[k]'(by rw [cutTo_length t k ws (by omega)]; exact h) = ws[k] := by
  simp only [cutTo]
  rw [List.getElem_append_right (by simp [cutBy]; omega)]
  simp [cutBy, Nat.min_eq_left (Nat.le_of_lt h)]
theorem cutTo_succ (t : Int) (k : Nat) (ws : List W) (h : k < ws.length) : cutTo t (k + 1) ws = (cutTo t k ws).set k (ws[k].1, ws[k].2.set t false) := by
  simp only [cutTo]
  rw [take_snoc h, List.drop_eq_getElem_cons h, List.set_append_right _ _ (by simp [cutBy]; omega)]
  rw [show k - (cutBy t (ws.take k)).length = 0 by simp [cutBy]; omega, List.set_cons_zero]
  simp only [cutBy, List.map_append, List.map_cons, List.map_nil, List.append_assoc, List.cons_append, List.nil_append]
theorem cutTo_all (t : Int) (ws : List W) : cutTo t ws.length ws = cutBy t ws := by simp [cutTo]

set_option maxHeartbeats 1000000 in
theorem out_yes {w : World} {B g : Nat} {v : Value} {q : Q} (h : Is w B g v q) (t : Int) (ht : q.ok t) (h4 : q.n ≤ 4) (hBw : B ≤ w.heap.size) (hl : q.ws.length < 1000000) :
    Calls Try.prog 17 #[.pointer (some ⟨g, 0, none⟩), .int .i64 t] w (Swept w B g v (q.outBack t) (q.out t) (fun u => res u 0)) := by
  obtain ⟨h0, h1⟩ := id ht
  have c1 := h.blk.cell 1 rfl
  have c2 := h.blk.cell 2 rfl
  have c3 := h.blk.cell 3 rfl
  have c4 := h.blk.cell 4 rfl
  have f1 := h.blk.free 1
  have f2 := h.blk.free 2
  have f3 := h.blk.free 3
  have f4 := h.blk.free 4
  have c5 := h.blk.cell 5 rfl
  have Hblk := Lib.hid h.blk
  have Hrow := Lib.hid h.row
  have hlo := h.lo
  obtain ⟨A, c, rfl, hc1, hc2⟩ := Row.shape h.row
  have hc3 : c ≤ 9223372036854775807 := by simpa [maxLen] using hc2
  clear hc2
  have Ht := Lib.hid ht
  have hglt := h.blk.lt
  clear ht
  obtain ⟨X, hX⟩ : ∃ X, q.ins.set t false = X := ⟨_, rfl⟩
  obtain ⟨D, hD⟩ : ∃ D : Nat → List W, (fun k => cutTo t k q.ws) = D := ⟨_, rfl⟩
  have D0 := Lib.hid (show D 0 = q.ws by rw [← hD]; simp [cutTo, cutBy])
  have DL := Lib.hid (show ∀ k, k ≤ q.ws.length → (D k).length = q.ws.length by intro k hk; rw [← hD]; exact cutTo_length t k _ hk)
  have DF := Lib.hid (show ∀ k, k < q.ws.length → flat (D (k + 1)) = (flat (D k)).set (k * 5 + (t + 1).toNat) (.bool false) by
    intro k hk
    rw [← hD]
    simp only
    rw [cutTo_succ t k q.ws hk, ← cutTo_at t k q.ws hk, ← flat_set _ k (by rw [cutTo_length t k _ (by omega)]; exact hk) t h0 (by omega)])
  have DE := Lib.hid (show D q.ws.length = cutBy t q.ws by rw [← hD]; exact cutTo_all t _)
  have HX := Lib.hid hX
  clear hX hD
  rcases (show t = 0 ∨ t = 1 ∨ t = 2 ∨ t = 3 by omega) with rfl | rfl | rfl | rfl
  all_goals
    go_enter Try.func17, Try.ntmps17
    go_wp2_with (go_at_call 31; refine (has_yes h _ Ht.out).mono ?_; rintro e w' ⟨rfl, rfl⟩)
    go_loopw [21] (fun i wr => ∃ k : Nat, k ≤ q.ws.length ∧ i = .int .i64 k ∧ wr.heap.size = w.heap.size ∧ Blk wr g 56 [.int .i64 q.n, .bool X.a, .bool X.b, .bool X.c, .bool X.d, .slice A q.ws.length c] ∧
      Row wr B 62 5 (.slice A q.ws.length c) q.ws.length (flat (D k)) ∧ Kept w wr (foot g (.slice A q.ws.length c))) (fun i _ => q.ws.length - (intOf i).toNat)
    case atStart =>
      refine ⟨0, Nat.zero_le _, rfl, by simp, by rw [← HX.out]; exact Hblk.out.set _ _, ?_, (Kept.refl w _).setCell (.inl (.inl rfl)) _⟩
      rw [D0.out]
      exact Row.keep Hrow.out ((Kept.refl w (fun i => i = g)).setCell (.inl rfl) _) (fun i hi e => Row.ne_blk Hrow.out Hblk.out (by decide) (e ▸ hi))
    case round =>
      obtain ⟨k, hk, rfl, hsz, hb, hr, hkp⟩ := hrel
      have e5 := hb.cell 5 rfl
      clear c1 c2 c3 c4 c5 f1 f2 f3 f4 h
      by_cases hlt : k < q.ws.length
      · obtain ⟨g', cap, hv, hg1, hg2, hg3, hg4, cur, hcur, _⟩ := Row.form hr (by omega)
        injection hv with hA hA1 hA2
        subst hA hA2
        have HF := Lib.hid (DF.out k hlt)
        have Hr := Lib.hid hr
        have HB := Lib.hid hb
        have HK := Lib.hid hkp
        have fz := Row.free hr
        obtain ⟨b', off', hv, hb', hcell⟩ := Rd.elem (Row.rd hr) hlt
        injection hv with hv
        injection hv with hv1 hv2
        subst hv1 hv2
        have hat := fun i hi => (hcell i hi).trans (flat_at (D k) k (by rw [DL.out k hk]; exact hlt) i hi)
        have d1 := hat 1 (by decide)
        have d2 := hat 2 (by decide)
        have d3 := hat 3 (by decide)
        have d4 := hat 4 (by decide)
        clear hcell hat hr hb hkp hcur
        simp only [wCells, List.getElem?_cons_zero, List.getElem?_cons_succ, Nat.zero_add] at d1 d2 d3 d4
        go_wp2
        refine ⟨⟨k + 1, by omega, by go_num, by simpa using hsz, HB.out.keep ((Kept.refl wr (fun i => i = g')).setCell (.inl rfl) _) (fun e => Row.ne_blk Hr.out HB.out (by decide) (by simp [Value.ownBlock, e])), by rw [HF.out]; exact (World.ownsRow.stored Hr.out _ _).1, by refine HK.out.setCell ?_ _; exact .inl (.inr rfl)⟩, by simp [intOf]; omega⟩
      · have hkn : k = q.ws.length := by omega
        rw [hkn, DE.out] at hr
        have HI := Lib.hid (show Is wr B g (.slice A q.ws.length c) ⟨q.n, X, cutBy _ q.ws⟩ from ⟨hlo, hb, by simpa [cutBy] using hr⟩)
        have HK := Lib.hid hkp
        have HS := Lib.hid hsz
        have hBr : B ≤ wr.heap.size := by omega
        clear hr hkn hb hkp hsz
        go_wp2_with (go_at_call 32; refine (over_any HI.out hBr (by simpa [cutBy] using hl)).mono ?_; rintro e w' ⟨u, v', rfl, ho, hi, hk2, hm⟩)
        go_ret2
        refine ⟨u, v', rfl, by rw [← HS.out]; exact ho, by simp only [Q.out, HX.out]; exact hi, HK.out.trans hk2 (fun i _ => id), fun i hi => ?_⟩
        rw [← HS.out]
        exact hm i hi
theorem out_no {w : World} {p : Value} {t : Int} (h : NoT w p t) :
    Calls Try.prog 17 #[p, .int .i64 t] w fun e w' => e = res (.slice none 0 0) 1 ∧ w = w' := by
  have H := Lib.hid h
  clear h
  go_enter Try.func17, Try.ntmps17
  go_wp2_with (go_at_call 31; refine (has_not H.out).mono ?_; rintro e w' ⟨rfl, rfl⟩)
  go_ret2
  exact ⟨rfl, rfl⟩
theorem waiting_no {w : World} {p : Value} (h : NoT w p 0) :
    Calls Try.prog 13 #[p] w fun e w' => e = .returned (.slice none 0 0) ∧ w = w' := by
  have H := Lib.hid h
  clear h
  go_enter Try.func13, Try.ntmps13
  go_wp2_with (go_at_call 31; refine (has_not H.out).mono ?_; rintro e w' ⟨rfl, rfl⟩)
  go_ret
  exact ⟨rfl, rfl⟩
theorem for_no {w : World} {p : Value} {a : Int} (h : NoT w p 0) :
    Calls Try.prog 15 #[p, .int .i64 a] w fun e w' => e = .returned (.slice none 0 0) ∧ w = w' := by
  have H := Lib.hid h
  clear h
  go_enter Try.func15, Try.ntmps15
  go_wp2_with (go_at_call 31; refine (has_not H.out).mono ?_; rintro e w' ⟨rfl, rfl⟩)
  go_ret
  exact ⟨rfl, rfl⟩
theorem copy_no {w : World} {p : Value} (h : NoT w p 0) :
    Calls Try.prog 27 #[p] w fun e w' => e = .returned (.pointer none) ∧ w = w' := by
  have H := Lib.hid h
  clear h
  go_enter Try.func27, Try.ntmps27
  go_wp2_with (go_at_call 31; refine (has_not H.out).mono ?_; rintro e w' ⟨rfl, rfl⟩)
  go_ret
  exact ⟨rfl, rfl⟩
theorem retire_no {w : World} {p : Value} {t a : Int} (h : NoT w p t) :
    Calls Try.prog 19 #[p, .int .i64 t, .int .i64 a] w fun e w' => e = res (.slice none 0 0) 1 ∧ w = w' := by
  have H := Lib.hid h
  clear h
  go_enter Try.func19, Try.ntmps19
  go_wp2_with (go_at_call 31; refine (has_not H.out).mono ?_; rintro e w' ⟨rfl, rfl⟩)
  go_ret2
  exact ⟨rfl, rfl⟩
theorem retire_bad {w : World} {B g : Nat} {v : Value} {q : Q} (h : Is w B g v q) (t a : Int) (ht : q.ok t) (ha : ¬ 0 < a) :
    Calls Try.prog 19 #[.pointer (some ⟨g, 0, none⟩), .int .i64 t, .int .i64 a] w fun e w' => e = res (.slice none 0 0) 1 ∧ w = w' := by
  have Ht := Lib.hid ht
  clear ht
  go_enter Try.func19, Try.ntmps19
  go_wp2_with (go_at_call 31; refine (has_yes h _ Ht.out).mono ?_; rintro e w' ⟨rfl, rfl⟩)
  go_ret2
  exact ⟨rfl, rfl⟩
theorem ok0 {q : Q} {t : Int} (h : q.ok t) : q.ok 0 := ⟨Int.le_refl 0, by have := h.1; have := h.2; omega⟩
theorem retire_dup {w : World} {B g : Nat} {v : Value} {q : Q} (h : Is w B g v q) (t a : Int) (ht : q.ok t) (ha : 0 < a) (hl : q.ws.length < 1000000) (hd : hasB (addrs q.ws) a = true) :
    Calls Try.prog 19 #[.pointer (some ⟨g, 0, none⟩), .int .i64 t, .int .i64 a] w fun e w' => e = res (.slice none 0 0) 6 ∧ Below w.heap.size w w' := by
  have Ht := Lib.hid ht
  have H0 := Lib.hid (ok0 ht)
  have Hd := Lib.hid hd
  clear ht hd
  go_enter Try.func19, Try.ntmps19
  go_wp2_with (first | (go_at_call 31; refine (has_yes h _ Ht.out).mono ?_; rintro e w' ⟨rfl, rfl⟩) | (go_at_call 13; refine (waiting_yes h H0.out hl).mono ?_; rintro e w1 ⟨u, rfl, ho, hb⟩) | (go_at_call 33; refine (contains_any (Row.rd ho)).mono ?_; rintro e w' ⟨rfl, rfl⟩; rw [Hd.out]))
  go_ret2
  exact ⟨rfl, by assumption⟩

/-- 'append(v, x)' of an element that waits, as a step of a region that draws. -/
theorem step_append_w {P : Program} {ops : Array Oper} {o : Oper} {a : Act} {w : World} {K : Act → World → Prop} {Q : Exit → Act → World → Prop} {E : Prop} (hgd : o.guard = none) (s x : Operand)
    (ho : o.op = .call { callee := .builtin .append, args := #[s, x], argTypes := #[54, 54] }) (ht : P.underlying 54 = some (.slice 62)) (hi : (P.info? 62).map (fun i => (i.zero, i.size, i.bytes)) = some (some (.agg #[.int .i64 0, .bool false, .bool false, .bool false, .bool false]), 5, 16))
    (B : Nat) (v : Value) (l : List W) (y : W) (N : Nat) (hs : a.eval s = v) (hown : Row w B 62 5 v l.length (flat l)) (hx : a.eval x = .slice (some ⟨N, 0, none⟩) 1 1) (hN : Blk w N 62 (wCells y)) (hB : B ≤ w.heap.size) (hl : l.length < 1000000)
    (h : ∀ v' w', Row w' B 62 5 v' (l ++ [y]).length (flat (l ++ [y])) → Kept w w' (fun k => v.ownBlock = some k) → (∀ k, v'.ownBlock = some k → v.ownBlock = some k ∨ w.heap.size ≤ k) → K (a.put o.dst v') w') :
    if Region.wanted o (yielded ops a.tmps) = true then Oper.wp P o a w K Q else E := by
  have hw : Region.wanted o (yielded ops a.tmps) = true := by simp [Region.wanted, hgd]
  rw [if_pos hw]
  obtain ⟨i0, hi0, hz0, hz1, hz2⟩ := info_parts hi
  obtain ⟨v', w', hr, h2, h3, h4, h5⟩ := run_append_own_at (P := P) w B 54 o.type 62 i0 _ 5 16 ht hi0 hz0 hz1 hz2 rfl (by decide) v l.length (flat l) hown ⟨N, 0, none⟩ 1 1 (wCells y) rfl
    (fun j u hu => by rw [show (⟨N, 0, none⟩ : Addr).add j = ⟨N, j, none⟩ by unfold Addr.add; split <;> simp_all]; exact hN.cell j hu)
    (by intro u hu; simp only [wCells, List.mem_cons, List.not_mem_nil, or_false] at hu; rcases hu with rfl | rfl | rfl | rfl | rfl <;> rfl) (by simp only [maxLen]; omega) (by omega) hB
  unfold Oper.wp execOp
  simp only [ho, resolve, invoke, builtin, Sem.run_bind, Sem.run_pure, Result.andThen_ok, List.map_toArray, List.map_cons, List.map_nil, hs, hx, hr]
  refine h v' w' (by simpa [flat] using h2) ((Kept.refl w _).grown h3 (fun k hk => .inl hk)) (fun k hk => ?_)
  rcases h5 with hat | hat
  · exact .inl (hat ▸ hk)
  · rw [hat] at hk; simp at hk; exact .inr (by omega)

/-- The element is appended and the manager's list is stored back. -/
theorem ret_step {w w1 w2 : World} {B g : Nat} {v v2 : Value} {q : Q} {y : W} {o : Obj} (h : Is w1 B g v q) (hb : Below w.heap.size w w1) (hr : Row w2 B 62 5 v2 (q.ws ++ [y]).length (flat (q.ws ++ [y]))) (hk : Kept (w1.drew.alloc o) w2 (fun k => v.ownBlock = some k))
    (hm : ∀ k, v2.ownBlock = some k → v.ownBlock = some k ∨ (w1.drew.alloc o).heap.size ≤ k) :
    Is (w2.setCell ⟨g, 5, none⟩ v2) B g v2 ⟨q.n, q.ins, q.ws ++ [y]⟩ ∧ Kept w (w2.setCell ⟨g, 5, none⟩ v2) (foot g v) ∧ Moved w v v2 := by
  have hb2 : Blk w2 g 56 _ := Blk.keep (Blk.alloc (w := w1.drew) h.blk o) hk (fun e => Row.ne_blk h.row h.blk (by decide) e)
  refine ⟨⟨h.lo, hb2.set 5 _, Row.keep hr ((Kept.refl w2 (fun i => i = g)).setCell (.inl rfl) _) (fun i hi e => Row.ne_blk hr hb2 (by decide) (e ▸ hi))⟩, ?_, fun k hk' => ?_⟩
  · have k1 : Kept w (w1.drew.alloc o) (foot g v) := (Kept.of_below hb _).drew.alloc o
    have k2 : Kept w w2 (foot g v) := k1.trans hk (fun i _ hi => .inr hi)
    refine k2.setCell ?_ _
    exact .inl (.inl rfl)
  · rcases hm k hk' with e | e
    · exact .inl e
    · refine .inr ?_
      have := hb.size
      simp at e
      omega
set_option maxHeartbeats 1000000 in
theorem retire_yes {w : World} {B g : Nat} {v : Value} {q : Q} (h : Is w B g v q) (t a : Int) (ht : q.ok t) (ha : 0 < a) (hBw : B ≤ w.heap.size) (hl : q.ws.length < 900000) (hd : hasB (addrs q.ws) a = false) :
    Calls Try.prog 19 #[.pointer (some ⟨g, 0, none⟩), .int .i64 t, .int .i64 a] w (Swept w B g v (q.retBack a) (q.ret a) (fun u => res u 0)) := by
  have Ht := Lib.hid ht
  have H0 := Lib.hid (ok0 ht)
  have Hd := Lib.hid hd
  clear ht hd
  go_enter Try.func19, Try.ntmps19
  go_wp2_with (go_at_call 31; refine (has_yes h _ Ht.out).mono ?_; rintro e w' ⟨rfl, rfl⟩)
  refine (waiting_yes h H0.out (by omega)).mono ?_
  rintro e w1 ⟨u, rfl, ho, hb⟩
  go_wp2_with fail
  refine (contains_any (Row.rd ho)).mono ?_
  rintro e w' ⟨rfl, rfl⟩
  rw [Hd.out]
  go_wp2_with fail
  have h' := h.below hb
  have c1 := h'.blk.cell 1 rfl
  have c2 := h'.blk.cell 2 rfl
  have c3 := h'.blk.cell 3 rfl
  have c4 := h'.blk.cell 4 rfl
  have c5 := h'.blk.cell 5 rfl
  have Hb := Lib.hid hb
  have hb1 := hb.size
  have hlt := h'.blk.lt
  clear h hb ho
  have hBs : B ≤ w1.heap.size := by have := hb1; omega
  go_region_law (refine step_append_w rfl (.tmp 24) (.tmp 31) rfl Try.underlying54 info62 B v q.ws (a, q.ins) w1.heap.size (by simp [Act.eval, Act.put]) (by exact World.ownsRow.alloc (w := w1.drew) h'.row _) (by simp [Act.eval, Act.put]) (by exact Blk.new w1.drew 62 _) (by simp; omega) (by omega) ?_; intro v2 w2 hr2 hk2 hm2; have e5 := Blk.cell (Blk.keep (Blk.alloc (w := w1.drew) h'.blk _) hk2 (fun e => Row.ne_blk h'.row h'.blk (by decide) e)) 5 rfl; have g5 := Blk.free (Blk.keep (Blk.alloc (w := w1.drew) h'.blk _) hk2 (fun e => Row.ne_blk h'.row h'.blk (by decide) e)) 5; obtain ⟨A2, cc2, rfl, _, _⟩ := Row.shape hr2)
  all_goals
    have hr3 : Row w2 B 62 5 (.slice A2 (q.ws.length + 1) cc2) (q.ws ++ [(a, q.ins)]).length (flat (q.ws ++ [(a, q.ins)])) := by simpa using hr2
    obtain ⟨hI, hK, hM⟩ := ret_step h' Hb.out hr3 hk2 (by simpa using hm2)
    have HI := Lib.hid hI
    have HK := Lib.hid hK
    have HM := Lib.hid hM
    have HS := hK.size
    have hB3 : B ≤ (w2.setCell ⟨g, 5, none⟩ (.slice A2 (q.ws.length + 1) cc2)).heap.size := by omega
    clear hI hK hM hr3 hr2 hk2 hm2 h' c1 c2 c3 c4 c5 e5 g5
    go_wp2_with (go_at_call 32; refine (over_any HI.out hB3 (by simp; omega)).mono ?_; rintro e w' ⟨u, v', rfl, ho, hi, hk4, hm4⟩)
    go_ret2
    refine ⟨u, v', rfl, Row.mono ho HS, hi, HK.out.trans hk4 (fun i hlt hf => ?_), fun i hi => ?_⟩
    · rcases hf with rfl | hf
      · exact .inl rfl
      · rcases HM.out i hf with e | e
        · exact .inr e
        · omega
    · rcases hm4 i hi with e | e
      · exact HM.out i e
      · exact .inr (by omega)
end Go.Proofs.Ytdgkdfblgeobmaa
