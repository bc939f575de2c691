/-
  The walk of New.
-/
import Derived.Test.YtkddckfgdiemkaaGreatCW47
set_option linter.unusedVariables false
set_option linter.unusedSimpArgs false
namespace Go.Proofs.YtkddckfgdiemkaaGreat
open Go.RowKit Go.Shelf Mem
set_option maxRecDepth 100000
attribute [local go_sem] Oper.semAt_some

theorem thrs_snoc (x : Thr) (r : Value) : ∀ (l : List Thr) (s : List Value), l.length = s.length → thrs (l ++ [x]) (s ++ [r]) = thrs l s ++ thrC x r
  | [], [], _ => by simp [thrs]
  | [], _ :: _, h => by simp at h
  | _ :: _, [], h => by simp at h
  | a :: l, b :: s, h => by
    have ih := thrs_snoc x r l s (by simpa using h)
    simp only [List.cons_append, thrs, ih, List.append_assoc]
abbrev nilV : Value := .slice none 0 0
/-- (7) One thread more. -/
theorem IsV.addThr {w w' : World} {B g : Nat} {q : List (List Ev)} {m : VM} {z : MV} (h : IsV w B g q m z) {u : Value} {x : Thr} (hx : x.read = []) (hk : Kept w w' (fun k => z.tv.ownBlock = some k)) (hu : Row w' B 80 11 u (m.thr.length + 1) (thrs m.thr z.rs ++ thrC x nilV)) (hn : ∀ k, u.ownBlock = some k → z.tv.ownBlock = some k ∨ w.heap.size ≤ k) :
    IsV (w'.setCell ⟨g, 5, none⟩ u) B g q { m with thr := m.thr ++ [x] } { z with tv := u, rs := z.rs ++ [nilV] } ∧ Kept w (w'.setCell ⟨g, 5, none⟩ u) (foot g z) := by
  have hkg : Kept w (w'.setCell ⟨g, 5, none⟩ u) (fun k => k = g ∨ z.tv.ownBlock = some k) := (hk.mono (fun k _ hs => .inr hs)).setCell (p := ⟨g, 5, none⟩) (.inl (.inl rfl)) u
  have hkf := hkg.mono (T := foot g z) (fun k _ hs => hs.elim (fun e => .inl e) (fun e => .inr (.inr (.inl e))))
  have hmg : z.tv.ownBlock ≠ some g := Row.ne_blk h.th h.blk (by decide)
  have off : ∀ {t y n : Nat} {v : Value} {xs : List Value}, Row w B t y v n xs → t ≠ 62 → t ≠ 80 → Row (w'.setCell ⟨g, 5, none⟩ u) B t y v n xs := fun hr h1 h2 => Row.keep hr hkg (fun k hk2 hs => hs.elim (fun e => Row.ne_blk hr h.blk h1 (e ▸ hk2)) (fun e => Row.ne_row hr h.th h2 hk2 e))
  have hug : ∀ k, u.ownBlock = some k → k ≠ g := fun k hk2 e => by
    rcases hn k hk2 with h1 | h1
    · exact hmg (e ▸ h1)
    · have := h.blk.lt; omega
  have hrow : ∀ i, ({ z with tv := u, rs := z.rs ++ [nilV] } : MV).row i = if i < 3 + z.rs.length then z.row i else if i = 3 + z.rs.length then nilV else default := fun i => by
    unfold MV.row
    by_cases h3 : i < 3
    · rw [if_pos h3, if_pos (by omega), if_pos h3]; rfl
    · rw [if_neg h3]
      show (z.rs ++ [nilV]).getD (i - 3) default = _
      rw [List.getD_eq_getElem?_getD, List.getElem?_append]
      by_cases h4 : i < 3 + z.rs.length
      · rw [if_pos (by omega), if_pos h4, if_neg h3, List.getD_eq_getElem?_getD]
      · rw [if_neg (by omega), if_neg h4]
        by_cases h5 : i = 3 + z.rs.length
        · rw [if_pos h5, h5, show 3 + z.rs.length - 3 - z.rs.length = 0 by omega]; rfl
        · rw [if_neg h5, List.getElem?_eq_none (by simp; omega)]; rfl
  refine ⟨⟨h.blk_at hk (fun e => hmg e) 5 u, h.gB, h.p_keep hkf, off h.ms (by decide) (by decide), h.n3, fun k hk3 => off (h.ln k hk3) (by decide) (by decide), ?_, ?_, fun j hj => ?_, fun i j hij hj k hk2 => ?_⟩, hkf⟩
  · show (z.rs ++ [nilV]).length = (m.thr ++ [x]).length
    rw [List.length_append, List.length_append, h.rl]; rfl
  · show Row _ B 80 11 u (m.thr ++ [x]).length (thrs (m.thr ++ [x]) (z.rs ++ [nilV]))
    rw [thrs_snoc x nilV _ _ h.rl.symm, List.length_append]
    exact Row.keep hu ((Kept.refl w' (fun k => k = g)).setCell (p := ⟨g, 5, none⟩) (.inl rfl) u) (fun k hk2 e => hug k hk2 e)
  · have hj : j < m.thr.length + 1 := by simpa using hj
    show Own _ B ((z.rs ++ [nilV]).getD j default) (((m.thr ++ [x]).getD j default).read)
    rw [List.getD_eq_getElem?_getD, List.getD_eq_getElem?_getD, List.getElem?_append, List.getElem?_append, h.rl]
    by_cases hjl : j < m.thr.length
    · rw [if_pos hjl, if_pos hjl]
      have := off (h.rd j hjl) (by decide) (by decide)
      rw [List.getD_eq_getElem?_getD] at this
      unfold VM.th at this
      rw [List.getD_eq_getElem?_getD] at this
      exact this
    · have e : j = m.thr.length := by omega
      rw [if_neg hjl, if_neg hjl, e, Nat.sub_self]
      show Own _ B nilV x.read
      rw [hx]; exact Own.nil _ _
  · have hj : j < 3 + (z.rs.length + 1) := by simpa using hj
    rw [hrow] at hk2 ⊢
    have hi : i < 3 + z.rs.length := by omega
    rw [if_pos hi] at hk2
    by_cases hjl : j < 3 + z.rs.length
    · rw [if_pos hjl]; exact h.apart hi hjl (by omega) hk2
    · rw [if_neg hjl, if_pos (by omega)]
      intro h6; cases h6
def thr0 : Thr := ⟨V3.nil, V3.nil, V3.nil, [], 0⟩
def msgA (k : Nat) : Msg := ⟨0, V3.nil.put k (k : Int), false⟩
def vmA (k : Nat) : VM := ⟨(List.range k).map msgA, [if 0 < k then [0] else [], if 1 < k then [1] else [], if 2 < k then [2] else []], [], V3.nil⟩
theorem vmA_end : vmA 3 = vm0 0 := rfl
theorem vmA_msgs (k : Nat) : (vmA (k + 1)).msgs = (vmA k).msgs ++ [msgA k] := by simp [vmA, List.range_succ]
theorem vmA_line {k : Nat} (hk : k < 3) : (vmA (k + 1)).line = (vmA k).line.set k [(k : Int)] := by
  rcases (by omega : k = 0 ∨ k = 1 ∨ k = 2) with rfl | rfl | rfl <;> rfl
theorem vmA_step {k : Nat} (hk : k < 3) : vmA (k + 1) = { ({ vmA k with msgs := (vmA k).msgs ++ [msgA k] } : VM) with line := (vmA k).line.set k [(k : Int)] } := by
  rw [← vmA_msgs, ← vmA_line hk]; rfl
theorem vm0_step (k : Nat) : vm0 (k + 1) = { vm0 k with thr := (vm0 k).thr ++ [thr0] } := by
  show (⟨_, _, List.replicate (k + 1) _, _⟩ : VM) = ⟨_, _, List.replicate k _ ++ [_], _⟩
  rw [List.replicate_succ']; rfl
theorem vm0_len (k : Nat) : (vm0 k).thr.length = k := by simp [vm0]
theorem info80 : (Tryz.prog.info? 80).map (fun i => (i.zero, i.size, i.bytes)) = some (some (.agg #[.int .i64 0, .int .i64 0, .int .i64 0, .int .i64 0, .int .i64 0, .int .i64 0, .int .i64 0, .int .i64 0, .int .i64 0, .slice none 0 0, .int .i64 0]), 11, 104) := by kernel_rfl
theorem thrC_one (x : Thr) : ∀ u ∈ thrC x nilV, u.oneCell' = true := by
  intro u hu
  simp only [thrC, List.mem_cons, List.not_mem_nil, or_false] at hu
  rcases hu with h | h | h | h | h | h | h | h | h | h | h <;> (rw [h]; rfl)
def NewT (w : World) (q : List (List Ev)) (e : Ending) (w' : World) : Prop := ∃ g z, e = two (.pointer (some ⟨g, 0, none⟩)) (.int .i64 0) ∧ IsV w' w.heap.size g q (vm0 q.length) z ∧ Below w.heap.size w w'
def MadeM (w : World) (q : List (List Ev)) (qb : Nat) (pv p : Value) (wx : World) : Prop := ∃ g z, p = .pointer (some ⟨g, 0, none⟩) ∧ IsV wx w.heap.size g q (vmA 0) z ∧ Below w.heap.size w wx ∧ Blk wx qb 24 [pv]
theorem isV_start {w W : World} {q : List (List Ev)} {pv : Value} (hp : OwnP W w.heap.size pv q) (hs : w.heap.size ≤ W.heap.size) :
    IsV (W.alloc (.cells #[pv, nilV, nilV, nilV, nilV, nilV, .int .i64 (-1), .int .i64 (-1), .int .i64 (-1)] 62)) w.heap.size W.heap.size q (vmA 0) ⟨pv, nilV, nilV, nilV, nilV, nilV, []⟩ := by
  refine ⟨Blk.new W 62 [pv, nilV, nilV, nilV, nilV, nilV, .int .i64 (-1), .int .i64 (-1), .int .i64 (-1)], hs, hp.below ((Below.refl _ W).alloc (Nat.le_refl _) _), World.ownsRow_nil _ _ _ _, rfl, fun k hk => ?_, rfl, World.ownsRow_nil _ _ _ _, fun t ht => by simp [vmA] at ht, fun i j hij hj k hk => ?_⟩
  · rcases (by omega : k = 0 ∨ k = 1 ∨ k = 2) with rfl | rfl | rfl <;> exact Own.nil _ _
  · have hi : i < 3 := by simp at hj; omega
    have e : (⟨pv, nilV, nilV, nilV, nilV, nilV, []⟩ : MV).row i = nilV := by rcases (by omega : i = 0 ∨ i = 1 ∨ i = 2) with rfl | rfl | rfl <;> rfl
    rw [e] at hk; cases hk
set_option maxHeartbeats 8000000 in
theorem vnew_any {w : World} {tv : Value} {ps : List (List Ev)} (hr : RdP w tv ps) (hv : Valid ps) :
    Calls Tryz.prog 13 #[.agg #[tv]] w (NewT w (expP ps)) := by
  obtain ⟨w0, hw0⟩ : ∃ w0, w.alloc (.cells #[tv] 24) = w0 := ⟨_, rfl⟩
  have b0 : Below w.heap.size w w0 := by rw [← hw0]; exact (Below.refl _ w).alloc (Nat.le_refl _) _
  have X := show Blk w0 w.heap.size 24 [tv] by rw [← hw0]; exact Blk.new w 24 _
  have x0 := X.cell 0 rfl
  have HE := Lib.hid (expand_any (hr.below b0) hv)
  have hq3 : (expP ps).length ≤ 3 := by rw [expP_len]; exact hv.n
  have HW0 := Lib.hid hw0
  have B0 := Lib.hid b0
  clear hr hv hw0 b0 X
  go_enter Tryz.func13, Tryz.ntmps13
  go_upto_region 1 with fail
  rw [HW0.out]
  go_upto_region 4 with (go_at_call 28; refine HE.out.mono ?_; rintro e1 w1 ⟨v1, rfl, ho1, hb1⟩; have hv1 : ∃ A1 c1, v1 = .slice A1 (expP ps).length c1 := (by obtain ⟨us, r1, _⟩ := ho1; obtain ⟨A2, c2, h, _⟩ := (Row.rd r1).shape; exact ⟨A2, c2, h⟩); obtain ⟨A1, c1, rfl⟩ := hv1)
  obtain ⟨q, hq⟩ : ∃ q, expP ps = q := ⟨_, rfl⟩
  rw [hq] at ho1 hq3 ⊢
  obtain ⟨w2, hw2⟩ : ∃ x, w1.alloc (.cells #[.slice A1 q.length c1] 24) = x := ⟨_, rfl⟩
  rw [hw2]
  have b12 : Below w1.heap.size w1 w2 := by rw [← hw2]; exact (Below.refl _ w1).alloc (Nat.le_refl _) _
  have X2 := show Blk w2 w1.heap.size 24 [.slice A1 q.length c1] by rw [← hw2]; exact Blk.new w1 24 _
  obtain ⟨qb, hqb⟩ : ∃ x, w1.heap.size = x := ⟨_, rfl⟩
  rw [hqb] at X2 ⊢
  have q0 := X2.cell 0 rfl
  have B2 := Lib.hid (B0.out.trans ((hb1.trans (b12.mono hb1.size)).mono B0.out.size))
  have OP := Lib.hid ((ho1.below b12).mono B0.out.size)
  have HX2 := Lib.hid X2
  have HQ := Lib.hid hq
  clear hw2 b12 X2 hqb hb1 ho1 hq x0
  go_cut [6] from 17 to 21 (fun p wx => MadeM w q qb (.slice A1 q.length c1) p wx)
  case first =>
    go_region_with (go_at_call 29; refine none_any.mono ?_; rintro e3 w3 ⟨rfl, hb3⟩; have hb4 : Below w2.heap.size w2 w3 := (Below.refl _ w2).drew.trans hb3; have q3 := (HX2.out.below hb4).cell 0 rfl)
    all_goals
      have HB4 := Lib.hid hb4
      clear hb3 hb4 q3
      go_wp2_with fail
      go_meet
      have hww : w.heap.size ≤ w3.heap.size := Nat.le_trans B2.out.size HB4.out.size
      first
        | exact ⟨w3.heap.size, _, rfl, isV_start (OP.out.below HB4.out) hww, (B2.out.trans (HB4.out.mono B2.out.size)).alloc hww _, (HX2.out.below HB4.out).alloc _⟩
        | exact ⟨w3.heap.size, _, rfl, (isV_start (OP.out.below HB4.out) hww).below ((Below.refl _ _).drew), ((B2.out.trans (HB4.out.mono B2.out.size)).alloc hww _).drew, ((HX2.out.below HB4.out).alloc _)⟩
  case rest =>
    obtain ⟨g, zz, rfl, i0, b0, x0⟩ := hcut
    have I0 := Lib.hid i0
    have BB := Lib.hid b0
    have XX := Lib.hid x0
    clear i0 b0 x0 q0
    go_wp2
    go_loopw [22] (fun i wr => ∃ (k : Nat) (z : MV), k ≤ 3 ∧ i = .int .i64 k ∧ IsV wr w.heap.size g q (vmA k) z ∧ Below w.heap.size w wr ∧ Blk wr qb 24 [.slice A1 q.length c1]) (fun i _ => 3 - (intOf i).toNat)
    case atStart => exact ⟨0, zz, by decide, rfl, I0.out, BB.out, XX.out⟩
    case round =>
      obtain ⟨k, z, hk, rfl, hi, hb, hx⟩ := hrel
      by_cases hlt : k < 3
      · have hlt' : (k : Int) < 3 := by omega
        have k0 : (0 : Int) ≤ (k : Int) := by omega
        have HI := Lib.hid hi
        have HB := Lib.hid hb
        have HXX := Lib.hid hx
        clear hi hb hx
        go_upto_region 9 with (go_at_call 29; refine none_any.mono ?_; rintro e4 w4 ⟨rfl, hb4⟩)
        obtain ⟨w5, hw5⟩ : ∃ x, w4.alloc (.cells #[.int .i64 V3.nil.a, .int .i64 V3.nil.b, .int .i64 V3.nil.c] 60) = x := ⟨_, rfl⟩
        rw [hw5]
        have b45 : Below w4.heap.size w4 w5 := by rw [← hw5]; exact (Below.refl _ w4).alloc (Nat.le_refl _) _
        have XO := show Blk w5 w4.heap.size 60 (v3L V3.nil) by rw [← hw5]; exact Blk.new w4 60 _
        have b5 : Below wr.heap.size wr w5 := hb4.trans (b45.mono hb4.size)
        obtain ⟨ob, hob⟩ : ∃ x, w4.heap.size = x := ⟨_, rfl⟩
        have hwo : w.heap.size ≤ ob := by rw [← hob]; exact Nat.le_trans HB.out.size hb4.size
        rw [hob] at XO ⊢
        have ck : w5.cell? ⟨ob, k, none⟩ = some (.int .i64 (-1)) := by rcases (by omega : k = 0 ∨ k = 1 ∨ k = 2) with rfl | rfl | rfl; exact XO.cell 0 rfl; exact XO.cell 1 rfl; exact XO.cell 2 rfl
        have fk := XO.free k
        have i5 := HI.out.below b5
        have I6 : Hid (IsV (w5.setCell ⟨ob, k, none⟩ (.int .i64 (k : Int))) w.heap.size g q (vmA k) z) := Lib.hid (i5.setBox XO (by decide) _)
        have B6 : Hid (Below w.heap.size w (w5.setCell ⟨ob, k, none⟩ (.int .i64 (k : Int)))) := Lib.hid ((HB.out.trans (b5.mono HB.out.size)).setCell (p := ⟨ob, k, none⟩) hwo _)
        have x6 := XO.set k (.int .i64 (k : Int))
        have X6 : Hid (Blk (w5.setCell ⟨ob, k, none⟩ (.int .i64 (k : Int))) ob 60 (v3L (msgA k).view)) := Lib.hid (by rcases (by omega : k = 0 ∨ k = 1 ∨ k = 2) with rfl | rfl | rfl <;> exact x6)
        have hqo : qb ≠ ob := fun e => by have e2 := ((HXX.out.below b5).type (e ▸ XO)).1; exact absurd e2 (by decide)
        have XQ6 : Hid (Blk (w5.setCell ⟨ob, k, none⟩ (.int .i64 (k : Int))) qb 24 [.slice A1 q.length c1]) := Lib.hid ((HXX.out.below b5).off hqo)
        clear hw5 b45 XO b5 hob i5 x6 hqo hb4
        go_upto_region 10 with fail
        obtain ⟨w6, hw6⟩ : ∃ x, w5.setCell ⟨ob, k, none⟩ (.int .i64 (k : Int)) = x := ⟨_, rfl⟩
        rw [hw6] at I6 B6 X6 XQ6 ⊢
        obtain ⟨Am, cm, hzm, hcm1, hcm2⟩ := (Row.rd I6.out.ms).shape
        have q1 := I6.out.cells.2.1
        have hrow := I6.out.ms
        have hmg : z.mv.ownBlock ≠ some g := Row.ne_blk hrow I6.out.blk (by decide)
        have hgl := I6.out.blk.lt
        have hgf := I6.out.blk.free 1
        rw [hzm] at q1 hrow hmg
        obtain ⟨M, hM⟩ : ∃ x, (vmA k).msgs.length = x := ⟨_, rfl⟩
        have hMk : M ≤ 3 := by rw [← hM]; simp [vmA]; omega
        rw [hM] at q1 hrow hmg
        have HZM := Lib.hid hzm
        have HROW := Lib.hid hrow
        have HMM := Lib.hid hM
        have HKK : Hid (∀ W', Kept w6 W' (fun j => (Value.slice Am M cm).ownBlock = some j) → W'.cell? ⟨g, 1, none⟩ = some (.slice Am M cm) ∧ W'.frozen? ⟨g, 1, none⟩ = false) := Lib.hid (fun W' hW => ⟨(Kept.at_ hW hgl hmg 1).1.trans q1, (Kept.at_ hW hgl hmg 1).2.trans hgf⟩)
        have v0 := X6.out.cell 0 rfl
        have v1 := X6.out.cell 1 rfl
        have v2 := X6.out.cell 2 rfl
        have hol := X6.out.lt
        obtain ⟨va, hva⟩ : ∃ x, (msgA k).view.a = x := ⟨_, rfl⟩
        obtain ⟨vb, hvb⟩ : ∃ x, (msgA k).view.b = x := ⟨_, rfl⟩
        obtain ⟨vc, hvc⟩ : ∃ x, (msgA k).view.c = x := ⟨_, rfl⟩
        rw [hva] at v0
        rw [hvb] at v1
        rw [hvc] at v2
        have HMC : Hid (([.int .i64 0, .int .i64 va, .int .i64 vb, .int .i64 vc, .bool false] : List Value) = msgC (msgA k)) := Lib.hid (by rw [← hva, ← hvb, ← hvc]; rfl)
        have hB6 : w.heap.size ≤ w6.heap.size := B6.out.size
        clear hw6 hzm hrow hmg hgf hM hva hvb hvc hcm1 ck fk
        go_cut [] from 29 to 39 (fun wx => AtV w6 w.heap.size g q { vmA k with msgs := (vmA k).msgs ++ [msgA k] } z wx)
        case first =>
          go_region_law (first
            | (refine step_app rfl (.tmp 33) (.tmp 36) rfl Tryz.underlying56 info78 rfl (by decide) (by decide) w.heap.size (.slice Am M cm) M (msgs (vmA k).msgs) w6.heap.size [.int .i64 0, .int .i64 va, .int .i64 vb, .int .i64 vc, .bool false] (by simp [Act.eval, Act.put]) (World.ownsRow.alloc HROW.out _) (by simp [Act.eval, Act.put]) (Blk.new w6 78 _) rfl (by rw [HMC.out]; exact msgC_one _) (by simp; omega) (by omega) ?_; intro v7 w7 hrow7 hk7 hat7; have hk8 : Kept w6 w7 (fun j => (Value.slice Am M cm).ownBlock = some j) := (by first | exact ((Kept.refl w6 _).alloc _).trans hk7 (fun _ _ h => h) | exact (((Kept.refl w6 _).alloc _).drew).trans hk7 (fun _ _ h => h)); obtain ⟨cc6, ff6⟩ := HKK.out w7 hk8; obtain ⟨A7, c7, rfl, hc71, hc72⟩ := (Row.rd hrow7).shape))
          all_goals
            have hst := I6.out.setMsgs (w' := w7) (u := .slice A7 (M + 1) c7) (x := (vmA k).msgs ++ [msgA k]) (by rw [HZM.out, HMM.out]; exact hk8) (by rw [List.length_append, HMM.out, msgs_snoc, ← HMC.out]; exact hrow7) (fun j hj => by rw [HZM.out, HMM.out]; exact (hat7 j hj).imp id (fun h => by simp at h; omega))
            have HST := Lib.hid hst
            clear hst hrow7 hk7 hat7 hk8 cc6 ff6
            go_wp2_with fail
            go_meet
            exact ⟨_, HST.out.1, HST.out.2, rfl⟩
        case rest =>
          have XQ7 := hcut.box I6.out XQ6.out (by decide)
          obtain ⟨z7, i7, d7, _⟩ := hcut
          have ck := i7.cells.2.2.2.2.2.2 k hlt
          have fk := i7.blk.free (2 + k)
          have hgl7 := i7.blk.lt
          have hst := i7.setLine (w' := wc.alloc (.cells #[.int .i64 (k : Int)] 3)) hlt (u := .slice (some ⟨wc.heap.size, 0, none⟩) 1 1) (x := [(k : Int)]) (Kept.of_below ((Below.refl _ wc).alloc (Nat.le_refl _) _) _) (row_of_blk (n := 1) (k := 1) (Nat.le_trans i7.gB (Nat.le_of_lt hgl7)) (Blk.new wc 3 [.int .i64 (k : Int)]) rfl (by decide)) (fun j hj => .inr (by simp [Value.ownBlock] at hj; omega))
          rw [World.setCell_alloc_past _ g _ _ hgl7] at hst
          have HST := Lib.hid hst
          have B7 := Lib.hid (B6.out.trans (d7.kept.below hB6 (fun j hj => (I6.out.foot_lt hj).1)))
          have XQ8 := Lib.hid XQ7
          have hgq : qb ≠ g := fun e => by have e2 := (XQ7.type (e ▸ i7.blk)).1; exact absurd e2 (by decide)
          have hBw : w.heap.size ≤ wc.heap.size := Nat.le_trans B6.out.size d7.kept.size
          have hgB := i7.gB
          clear hst XQ7 i7 d7 q1 v0 v1 v2 hol
          go_wp2
          go_roundw
          case measure => simp [intOf]; all_goals omega
          case rel => exact ⟨k + 1, _, by omega, by go_num, by { rw [vmA_step hlt]; exact HST.out.1 }, (B7.out.setCell (p := ⟨g, 2 + k, none⟩) hgB _).alloc (by rw [World.size_setCell]; exact hBw) _, (XQ8.out.off hgq).alloc _⟩
      · have hin : k = 3 := by omega
        subst hin
        rw [vmA_end] at hi
        have q0 := hx.cell 0 rfl
        have HI := Lib.hid hi
        have HB := Lib.hid hb
        obtain ⟨N, hN⟩ : ∃ N, q.length = N := ⟨_, rfl⟩
        rw [hN] at q0 hq3 ⊢
        have HN := Lib.hid hN
        clear hi hb hx hN hlt
        rw [show ((3 : Nat) : Int) = 3 from rfl]
        go_wp2
        clear q0
        go_loopw [51] (fun i wr2 => ∃ (j : Nat) (zj : MV), j ≤ N ∧ i = .int .i64 j ∧ IsV wr2 w.heap.size g q (vm0 j) zj ∧ Below w.heap.size w wr2) (fun i _ => N - (intOf i).toNat)
        case atStart => exact ⟨0, z, Nat.zero_le _, rfl, HI.out, HB.out⟩
        case round =>
          clear HI HB
          obtain ⟨j, zj, hj, rfl, hi, hb⟩ := hrel
          by_cases hlt : j < N
          · have hlt' : (j : Int) < (N : Int) := by omega
            have j0 : (0 : Int) ≤ (j : Int) := by omega
            obtain ⟨At, ct, hzt, hct1, hct2⟩ := (Row.rd hi.th).shape
            have q5 := hi.cells.2.2.1
            have hrow := hi.th
            have hmg : zj.tv.ownBlock ≠ some g := Row.ne_blk hrow hi.blk (by decide)
            have hgl := hi.blk.lt
            have hgf := hi.blk.free 5
            rw [hzt] at q5 hrow hmg
            rw [vm0_len] at q5 hrow hmg hzt
            have HROW := Lib.hid hrow
            have HZT := Lib.hid hzt
            have HI := Lib.hid hi
            have HB := Lib.hid hb
            have HC5 : Hid (∀ W', Below wr.heap.size wr W' → W'.cell? ⟨g, 5, none⟩ = some (.slice At j ct)) := Lib.hid (fun W' hW => (hW.cell (p := ⟨g, 5, none⟩) hgl).trans q5)
            have HKK : Hid (∀ W', Kept wr W' (fun i => (Value.slice At j ct).ownBlock = some i) → W'.cell? ⟨g, 5, none⟩ = some (.slice At j ct) ∧ W'.frozen? ⟨g, 5, none⟩ = false) := Lib.hid (fun W' hW => ⟨(Kept.at_ hW hgl hmg 5).1.trans q5, (Kept.at_ hW hgl hmg 5).2.trans hgf⟩)
            have hBw : w.heap.size ≤ wr.heap.size := hb.size
            clear hzt hi hb hrow hmg hgf hct1
            go_upto_region 15 with fail
            go_region_law (first
              | (go_simp; go_at_call 29; refine none_any.mono ?_; rintro e1 w1 ⟨rfl, hbx⟩; have hb1 : Below wr.heap.size wr w1 := (by first | exact ((Below.refl _ wr).drewN _).trans hbx | exact (Below.refl _ wr).drew.trans hbx | exact hbx | exact hb1.trans (hbx.mono hb1.size) | exact hb1.drew.trans (hbx.mono hb1.size) | exact (hb1.drewN _).trans (hbx.mono hb1.size)); have g5 := HC5.out w1 hb1; have g6 : g < w1.heap.size := Nat.lt_of_lt_of_le hgl hb1.size)
              | (refine step_app rfl (.tmp 57) (.tmp 62) rfl Tryz.underlying58 info80 rfl (by decide) (by decide) w.heap.size (.slice At j ct) j (thrs (vm0 j).thr zj.rs) w1.heap.size (thrC thr0 nilV) (by simp [Act.eval, Act.put]) (World.ownsRow.alloc (by first | exact Row.below HROW.out hb1 | exact Row.below HROW.out hb1.drew | exact Row.below HROW.out (hb1.drewN _)) _) (by simp [Act.eval, Act.put]) (by first | exact Blk.new w1 80 _ | exact Blk.new (w1.drewN _) 80 _ | exact Blk.new w1.drew 80 _) rfl (thrC_one _) (by have := hb1.size; simp; omega) (by omega) ?_; intro v7 w7 hrow7 hk7 hat7; have hk8 : Kept wr w7 (fun i => (Value.slice At j ct).ownBlock = some i) := (by first | exact ((Kept.of_below hb1 _).alloc _).trans hk7 (fun _ _ h => h) | exact (((Kept.of_below hb1 _).alloc _).drew).trans hk7 (fun _ _ h => h) | exact ((Kept.of_below hb1.drew _).alloc _).trans hk7 (fun _ _ h => h)); have hat8 : ∀ i, v7.ownBlock = some i → (Value.slice At j ct).ownBlock = some i ∨ wr.heap.size ≤ i := (fun i hi => (hat7 i hi).imp id (fun h => by have := hb1.size; simp at h; omega)); obtain ⟨cc6, ff6⟩ := HKK.out w7 hk8; obtain ⟨A7, c7, rfl, hc71, hc72⟩ := (Row.rd hrow7).shape))
            all_goals
              have hst := HI.out.addThr (w' := w7) (x := thr0) (u := .slice A7 (j + 1) c7) rfl (by rw [HZT.out]; exact hk8) (by rw [vm0_len]; exact hrow7) (fun i hi => by rw [HZT.out]; exact hat8 i hi)
              have HST := Lib.hid hst
              clear hst hrow7 hk7 hat7 hat8 hk8 cc6 ff6 hb1 hbx g5 g6
              go_wp2
              go_roundw
              case measure => simp [intOf]; all_goals omega
              case rel => exact ⟨j + 1, _, by omega, by go_num, by { rw [vm0_step]; exact HST.out.1 }, HB.out.trans (HST.out.2.below hBw (fun i hi => (HI.out.foot_lt hi).1))⟩
          · have hin : j = N := by omega
            subst hin
            have HI := Lib.hid hi
            have HB := Lib.hid hb
            clear hi hb
            go_wp2
            go_ret2
            exact ⟨g, zj, rfl, by { first | (rw [HQ.out, HN.out]; exact HI.out) | (rw [HN.out]; exact HI.out) }, HB.out⟩
end Go.Proofs.YtkddckfgdiemkaaGreat
