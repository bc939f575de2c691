/-
  The walks of Out and Retire.
-/
import Derived.Test.YtiokifkppfegfaaWalks4
set_option linter.unusedVariables false
set_option linter.unusedSimpArgs false
namespace Go.Proofs.Ytiokifkppfegfaa
open Go.RowKit Mem Qm
set_option maxRecDepth 100000

theorem ok0 {q : Q} {t : Int} (h : q.ok t) : q.ok 0 := ⟨Int.le_refl 0, by have h1 := h.1; have h2 := h.2; omega⟩
theorem Swept.after {w w1 : World} {B g b : Nat} {v : Value} {l : List Int} {q : Q} {F : Value → Ending} {e : Ending} {w' : World} (h : Swept w1 B g b v l q F e w') (hk : Kept w w1 (foot g b v)) : Swept w B g b v l q F e w' := by
  obtain ⟨u, v', he, ho, hi, hk2, hm⟩ := h
  exact ⟨u, v', he, Row.mono ho hk.size, hi, hk.trans hk2 (fun _ _ h => h), fun i hi => (hm i hi).imp id (fun h => Nat.le_trans hk.size h)⟩
theorem out_no {w : World} {p : Value} {t : Int} (h : NoT w p t) :
    Calls Try.prog 16 #[p, .int .i64 t] w fun e w' => e = res (.slice none 0 0) 1 ∧ w = w' := by
  have H := Lib.hid h
  clear h
  go_enter Try.func16, Try.ntmps16
  go_wp2_with (go_at_call 31; refine (has_not H.out).mono ?_; rintro e w' ⟨rfl, rfl⟩)
  go_ret2
  exact ⟨rfl, rfl⟩
set_option maxHeartbeats 1000000 in
theorem out_yes {w : World} {B g b : Nat} {v : Value} {q : Q} (h : IsS w B g b v q) (t : Int) (ht : q.ok t) (h4 : q.n ≤ 4) (hBw : B ≤ w.heap.size) (hl : q.ws.length < 1000000) (hwf : ∀ x ∈ q.ws, Wf x.a) :
    Calls Try.prog 16 #[.pointer (some ⟨g, 0, none⟩), .int .i64 t] w (Swept w B g b v (q.outBack t) (q.out t) (fun u => res u 0)) := by
  obtain ⟨h0, h1⟩ := id ht
  have ff : ∀ j, w.frozen? ⟨g, j, none⟩ = false := fun j => h.blk.free j
  have Ht := Lib.hid ht
  have HWF := Lib.hid hwf
  clear ht hwf
  by_cases ht0 : t = 0
  · subst ht0
    have d0 := h.blk.cell 2 rfl
    have d1 := h.blk.cell 3 rfl
    have d2 := h.blk.cell 4 rfl
    have d3 := h.blk.cell 5 rfl
    have d4 := h.blk.cell 6 rfl
    have d5 := h.blk.cell 7 rfl
    obtain ⟨p1, p2⟩ := put_is h (t := 0) (o := 2) (o1 := 3) (o2 := 4) (o3 := 5) (o4 := 6) (o5 := 7) Sn.none rfl
    simp only [six] at p1 p2
    have P1 := Lib.hid p1
    have P2 := Lib.hid p2
    clear p1 p2
    go_enter Try.func16, Try.ntmps16
    go_wp2_with fail
    refine (has_yes h _ Ht.out).mono ?_
    rintro e w1 ⟨rfl, rfl⟩
    clear h
    go_wp2_with fail
    refine ((sweep_any P1.out (Nat.le_trans hBw P2.out.size) hl HWF.out).mono fun _ _ hs => hs.after P2.out).mono ?_
    rintro e w1 ⟨u, v', rfl, h1', h2, h3, h4'⟩
    have HH := Lib.hid (show Own w1 w.heap.size u _ ∧ IsS w1 B g b v' _ ∧ Kept w w1 (foot g b v) ∧ Moved w v v' from ⟨h1', h2, h3, h4'⟩)
    clear h1' h2 h3 h4'
    go_wp2
    go_ret2
    exact ⟨u, v', rfl, HH.out⟩
  by_cases ht1 : t = 1
  · subst ht1
    have d0 := h.blk.cell 8 rfl
    have d1 := h.blk.cell 9 rfl
    have d2 := h.blk.cell 10 rfl
    have d3 := h.blk.cell 11 rfl
    have d4 := h.blk.cell 12 rfl
    have d5 := h.blk.cell 13 rfl
    obtain ⟨p1, p2⟩ := put_is h (t := 1) (o := 8) (o1 := 9) (o2 := 10) (o3 := 11) (o4 := 12) (o5 := 13) Sn.none rfl
    simp only [six] at p1 p2
    have P1 := Lib.hid p1
    have P2 := Lib.hid p2
    clear p1 p2
    go_enter Try.func16, Try.ntmps16
    go_wp2_with fail
    refine (has_yes h _ Ht.out).mono ?_
    rintro e w1 ⟨rfl, rfl⟩
    clear h
    go_wp2_with fail
    refine ((sweep_any P1.out (Nat.le_trans hBw P2.out.size) hl HWF.out).mono fun _ _ hs => hs.after P2.out).mono ?_
    rintro e w1 ⟨u, v', rfl, h1', h2, h3, h4'⟩
    have HH := Lib.hid (show Own w1 w.heap.size u _ ∧ IsS w1 B g b v' _ ∧ Kept w w1 (foot g b v) ∧ Moved w v v' from ⟨h1', h2, h3, h4'⟩)
    clear h1' h2 h3 h4'
    go_wp2
    go_ret2
    exact ⟨u, v', rfl, HH.out⟩
  by_cases ht2 : t = 2
  · subst ht2
    have d0 := h.blk.cell 14 rfl
    have d1 := h.blk.cell 15 rfl
    have d2 := h.blk.cell 16 rfl
    have d3 := h.blk.cell 17 rfl
    have d4 := h.blk.cell 18 rfl
    have d5 := h.blk.cell 19 rfl
    obtain ⟨p1, p2⟩ := put_is h (t := 2) (o := 14) (o1 := 15) (o2 := 16) (o3 := 17) (o4 := 18) (o5 := 19) Sn.none rfl
    simp only [six] at p1 p2
    have P1 := Lib.hid p1
    have P2 := Lib.hid p2
    clear p1 p2
    go_enter Try.func16, Try.ntmps16
    go_wp2_with fail
    refine (has_yes h _ Ht.out).mono ?_
    rintro e w1 ⟨rfl, rfl⟩
    clear h
    go_wp2_with fail
    refine ((sweep_any P1.out (Nat.le_trans hBw P2.out.size) hl HWF.out).mono fun _ _ hs => hs.after P2.out).mono ?_
    rintro e w1 ⟨u, v', rfl, h1', h2, h3, h4'⟩
    have HH := Lib.hid (show Own w1 w.heap.size u _ ∧ IsS w1 B g b v' _ ∧ Kept w w1 (foot g b v) ∧ Moved w v v' from ⟨h1', h2, h3, h4'⟩)
    clear h1' h2 h3 h4'
    go_wp2
    go_ret2
    exact ⟨u, v', rfl, HH.out⟩
  by_cases ht3 : t = 3
  · subst ht3
    have d0 := h.blk.cell 20 rfl
    have d1 := h.blk.cell 21 rfl
    have d2 := h.blk.cell 22 rfl
    have d3 := h.blk.cell 23 rfl
    have d4 := h.blk.cell 24 rfl
    have d5 := h.blk.cell 25 rfl
    obtain ⟨p1, p2⟩ := put_is h (t := 3) (o := 20) (o1 := 21) (o2 := 22) (o3 := 23) (o4 := 24) (o5 := 25) Sn.none rfl
    simp only [six] at p1 p2
    have P1 := Lib.hid p1
    have P2 := Lib.hid p2
    clear p1 p2
    go_enter Try.func16, Try.ntmps16
    go_wp2_with fail
    refine (has_yes h _ Ht.out).mono ?_
    rintro e w1 ⟨rfl, rfl⟩
    clear h
    go_wp2_with fail
    refine ((sweep_any P1.out (Nat.le_trans hBw P2.out.size) hl HWF.out).mono fun _ _ hs => hs.after P2.out).mono ?_
    rintro e w1 ⟨u, v', rfl, h1', h2, h3, h4'⟩
    have HH := Lib.hid (show Own w1 w.heap.size u _ ∧ IsS w1 B g b v' _ ∧ Kept w w1 (foot g b v) ∧ Moved w v v' from ⟨h1', h2, h3, h4'⟩)
    clear h1' h2 h3 h4'
    go_wp2
    go_ret2
    exact ⟨u, v', rfl, HH.out⟩
  omega

/-! Retire -/
theorem step_append_l {P : Program} {ops : Array Oper} {o : Oper} {a : Act} {w : World} {K : Act → World → Prop} {Q : Exit → Act → World → Prop} {E : Prop} (hgd : o.guard = none) (s x : Operand)
    (ho : o.op = .call { callee := .builtin .append, args := #[s, x], argTypes := #[63, 63] }) (ht : P.underlying 63 = some (.slice 71)) (hi : (P.info? 71).map (fun i => (i.zero, i.size, i.bytes)) = some (some (.agg #[.int .i64 0, .int .i64 0, .int .i64 0]), 3, 24))
    (B : Nat) (v : Value) (l : List Life) (y : Life) (N : Nat) (hs : a.eval s = v) (hown : Row w B 71 3 v l.length (flat l)) (hx : a.eval x = .slice (some ⟨N, 0, none⟩) 1 1) (hN : Blk w N 71 (lCells y)) (hB : B ≤ w.heap.size) (hl : l.length < 1000000)
    (h : ∀ v' w', Row w' B 71 3 v' (l ++ [y]).length (flat (l ++ [y])) → Kept w w' (fun k => v.ownBlock = some k) → (∀ k, v'.ownBlock = some k → v.ownBlock = some k ∨ w.heap.size ≤ k) → K (a.put o.dst v') w') :
    if Region.wanted o (yielded ops a.tmps) = true then Oper.wp P o a w K Q else E := by
  have hw : Region.wanted o (yielded ops a.tmps) = true := by simp [Region.wanted, hgd]
  rw [if_pos hw]
  obtain ⟨i0, hi0, hz0, hz1, hz2⟩ := info_parts hi
  obtain ⟨v', w', hr, h2, h3, h4, h5⟩ := run_append_own_at (P := P) w B 63 o.type 71 i0 _ 3 24 ht hi0 hz0 hz1 hz2 rfl (by decide) v l.length (flat l) hown ⟨N, 0, none⟩ 1 1 (lCells y) rfl
    (fun j u hu => by rw [show (⟨N, 0, none⟩ : Addr).add j = ⟨N, j, none⟩ by unfold Addr.add; split <;> simp_all]; exact hN.cell j hu)
    (by intro u hu; simp only [lCells, List.mem_cons, List.not_mem_nil, or_false] at hu; rcases hu with rfl | rfl | rfl <;> rfl) (by simp only [maxLen]; omega) (by omega) hB
  unfold Oper.wp execOp
  simp only [ho, resolve, invoke, builtin, Sem.run_bind, Sem.run_pure, Result.andThen_ok, List.map_toArray, List.map_cons, List.map_nil, hs, hx, hr]
  refine h v' w' (by simpa [flat] using h2) ((Kept.refl w _).grown h3 (fun k hk => .inl hk)) (fun k hk => ?_)
  rcases h5 with hat | hat
  · exact .inl (hat ▸ hk)
  · rw [hat] at hk; simp at hk; exact .inr (by omega)
/-- The element is appended and the manager's list is stored back. -/
theorem ret_step {w w1 w2 : World} {B g b : Nat} {v v2 : Value} {q : Q} {y : Life} {o : Obj} (h : IsS w1 B g b v q) (hb : Below w.heap.size w w1) (hr : Row w2 B 71 3 v2 (q.ws ++ [y]).length (flat (q.ws ++ [y]))) (hk : Kept (w1.drew.alloc o) w2 (fun k => v.ownBlock = some k))
    (hm : ∀ k, v2.ownBlock = some k → v.ownBlock = some k ∨ (w1.drew.alloc o).heap.size ≤ k) :
    IsS (w2.setCell ⟨g, 27, none⟩ v2) B g b v2 { q with ws := q.ws ++ [y] } ∧ Kept w (w2.setCell ⟨g, 27, none⟩ v2) (foot g b v) ∧ Moved w v v2 := by
  have bA : Below w1.drew.heap.size w1.drew (w1.drew.alloc o) := (Below.refl _ _).alloc (Nat.le_refl _) _
  have hb2 : Blk w2 g 65 _ := Blk.keep (Blk.alloc (w := w1.drew) h.blk o) hk (fun e => Row.ne_blk h.row h.blk (by decide) e)
  have hm2 : MapI Try.prog w2 b q.nb q.bi := ((drew_map h.map).below bA).keep hk (fun e => h.map.ne_row h.row e)
  have kk : Kept w2 (w2.setCell ⟨g, 27, none⟩ v2) (fun i => i = g) := (Kept.refl w2 (fun i => i = g)).setCell (p := ⟨g, 27, none⟩) (.inl rfl) _
  refine ⟨⟨h.lo, h.lob, Blk.of (hb2.set 27 _) rfl, hm2.keep kk (hm2.ne_blk hb2), Row.keep hr kk (fun i hi e => Row.ne_blk hr hb2 (by decide) (e ▸ hi))⟩, ?_, fun k hk' => ?_⟩
  · have k1 : Kept w (w1.drew.alloc o) (foot g b v) := (Kept.of_below hb _).drew.alloc o
    have k2 : Kept w w2 (foot g b v) := k1.trans hk (fun i _ hi => .inr (.inr hi))
    exact k2.trans kk (fun i _ e => .inl e)
  · rcases hm k hk' with e | e
    · exact .inl e
    · refine .inr ?_
      have := hb.size
      simp at e
      omega
theorem retire_no {w : World} {p : Value} {t a : Int} (h : NoT w p t) :
    Calls Try.prog 17 #[p, .int .i64 t, .int .i64 a] w fun e w' => e = res (.slice none 0 0) 1 ∧ w = w' := by
  have H := Lib.hid h
  clear h
  go_enter Try.func17, Try.ntmps17
  go_wp2_with (go_at_call 31; refine (has_not H.out).mono ?_; rintro e w' ⟨rfl, rfl⟩)
  go_ret2
  exact ⟨rfl, rfl⟩
theorem retire_bad {w : World} {B g b : Nat} {v : Value} {q : Q} (h : IsS w B g b v q) (t a : Int) (ht : q.ok t) (ha : ¬ 0 < a) :
    Calls Try.prog 17 #[.pointer (some ⟨g, 0, none⟩), .int .i64 t, .int .i64 a] w fun e w' => e = res (.slice none 0 0) 1 ∧ w = w' := by
  have Ht := Lib.hid ht
  clear ht
  go_enter Try.func17, Try.ntmps17
  go_wp2_with (go_at_call 31; refine (has_yes h _ Ht.out).mono ?_; rintro e w' ⟨rfl, rfl⟩)
  go_ret2
  exact ⟨rfl, rfl⟩
theorem retire_dup {w : World} {B g b : Nat} {v : Value} {q : Q} (h : IsS w B g b v q) (t a : Int) (ht : q.ok t) (ha : 0 < a) (hl : q.ws.length < 900000) (hd : hasB (addrs q.ws) a = true) :
    Calls Try.prog 17 #[.pointer (some ⟨g, 0, none⟩), .int .i64 t, .int .i64 a] w fun e w' => e = res (.slice none 0 0) 6 ∧ Below w.heap.size w w' := by
  have Ht := Lib.hid ht
  have H0 := Lib.hid (ok0 ht)
  have Hd := Lib.hid hd
  clear ht hd
  go_enter Try.func17, Try.ntmps17
  go_wp2_with (go_at_call 31; refine (has_yes h _ Ht.out).mono ?_; rintro e w' ⟨rfl, rfl⟩)
  refine (waiting_yes h H0.out (by omega)).mono ?_
  rintro e w1 ⟨u, rfl, ho, hb⟩
  go_wp2_with fail
  refine (contains_any (Row.rd ho)).mono ?_
  rintro e w' ⟨rfl, rfl⟩
  rw [Hd.out]
  go_wp2
  go_ret2
  exact ⟨rfl, hb⟩
set_option maxHeartbeats 1000000 in
theorem retire_yes {w : World} {B g b : Nat} {v : Value} {q : Q} (h : IsS w B g b v q) (t a : Int) (ht : q.ok t) (ha : 0 < a) (haw : Wf a) (hBw : B ≤ w.heap.size) (hl : q.ws.length < 900000) (hwf : ∀ x ∈ q.ws, Wf x.a) (hd : hasB (addrs q.ws) a = false) :
    Calls Try.prog 17 #[.pointer (some ⟨g, 0, none⟩), .int .i64 t, .int .i64 a] w (Swept w B g b v (backs (q.add a) (q.add a).ws) (q.add a).swept (fun u => res u 0)) := by
  have Ht := Lib.hid ht
  have H0 := Lib.hid (ok0 ht)
  have Hd := Lib.hid hd
  have HWF := Lib.hid (show ∀ x ∈ (q.add a).ws, Wf x.a from fun x hx => by
    rcases List.mem_append.1 hx with h | h
    · exact hwf x h
    · rw [List.mem_singleton.1 h]; exact haw)
  clear ht hd hwf
  go_enter Try.func17, Try.ntmps17
  go_wp2_with (go_at_call 31; refine (has_yes h _ Ht.out).mono ?_; rintro e w' ⟨rfl, rfl⟩)
  refine (waiting_yes h H0.out (by omega)).mono ?_
  rintro e w1 ⟨u, rfl, ho, hb⟩
  go_wp2_with fail
  refine (contains_any (Row.rd ho)).mono ?_
  rintro e w' ⟨rfl, rfl⟩
  rw [Hd.out]
  go_wp2_with fail
  have h' := h.below hb
  have c0 := h'.blk.cell 0 rfl
  have c26 := h'.blk.cell 26 rfl
  have c27 := h'.blk.cell 27 rfl
  have l0 := MapI.look Try.underlying3 zero3 Try.underlying62 h'.map haw
  have l1 := MapI.look Try.underlying3 zero3 Try.underlying62 (drew_map h'.map) haw
  have Hb := Lib.hid hb
  have hb1 := hb.size
  have hlt := h'.blk.lt
  clear h hb ho
  have hBs : B ≤ w1.heap.size := by have := hb1; omega
  go_region_law (refine step_append_l rfl (.tmp 24) (.tmp 37) rfl Try.underlying63 info71 B v q.ws ⟨a, q.bi a, q.era⟩ w1.heap.size (by simp [Act.eval, Act.put]) (by exact World.ownsRow.alloc (w := w1.drew) h'.row _) (by simp [Act.eval, Act.put]) (by exact Blk.new w1.drew 71 _) (by simp; omega) (by omega) ?_; intro v2 w2 hr2 hk2 hm2; have e27 := Blk.cell (Blk.keep (Blk.alloc (w := w1.drew) h'.blk _) hk2 (fun e => Row.ne_blk h'.row h'.blk (by decide) e)) 27 rfl; have g27 := Blk.free (Blk.keep (Blk.alloc (w := w1.drew) h'.blk _) hk2 (fun e => Row.ne_blk h'.row h'.blk (by decide) e)) 27; obtain ⟨A2, cc2, rfl, _, _⟩ := Row.shape hr2)
  all_goals
    have hr3 : Row w2 B 71 3 (.slice A2 (q.ws.length + 1) cc2) (q.ws ++ [(⟨a, q.bi a, q.era⟩ : Life)]).length (flat (q.ws ++ [(⟨a, q.bi a, q.era⟩ : Life)])) := by simpa using hr2
    obtain ⟨hI, hK, hM⟩ := ret_step h' Hb.out hr3 hk2 (by simpa using hm2)
    have HI := Lib.hid (show IsS (w2.setCell ⟨g, 27, none⟩ (.slice A2 (q.ws.length + 1) cc2)) B g b (.slice A2 (q.ws.length + 1) cc2) (q.add a) from hI)
    have HK := Lib.hid hK
    have HM := Lib.hid hM
    have HS := hK.size
    have hB3 : B ≤ (w2.setCell ⟨g, 27, none⟩ (.slice A2 (q.ws.length + 1) cc2)).heap.size := by omega
    clear hI hK hM hr3 hr2 hk2 hm2 h' c0 c26 c27 l0 l1 e27 g27
    go_wp2_with (go_at_call 32; refine (sweep_any HI.out hB3 (by simp [Q.add]; omega) HWF.out).mono ?_; rintro e w' ⟨u, v', rfl, ho, hi, hk4, hm4⟩)
    go_ret2
    refine ⟨u, v', rfl, Row.mono ho HS, hi, HK.out.trans hk4 (fun i hlt hf => ?_), fun i hi => ?_⟩
    · rcases hf with rfl | rfl | hf
      · exact .inl rfl
      · exact .inr (.inl rfl)
      · rcases HM.out i hf with e | e
        · exact .inr (.inr e)
        · omega
    · rcases hm4 i hi with e | e
      · exact HM.out i e
      · exact .inr (by omega)
end Go.Proofs.Ytiokifkppfegfaa
