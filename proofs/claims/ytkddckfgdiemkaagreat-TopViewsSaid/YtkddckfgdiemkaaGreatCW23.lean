/-
  The walks of fails, Fails, Outcome.
-/
import Derived.Test.YtkddckfgdiemkaaGreatCW22
set_option linter.unusedVariables false
set_option linter.unusedSimpArgs false
namespace Go.Proofs.YtkddckfgdiemkaaGreat
open Go.RowKit Go.Shelf Mem
set_option maxRecDepth 100000
attribute [local go_sem] Oper.semAt_some

theorem fails_any {w : World} {B : Nat} {pv fv dv ov sv : Value} {es : List Ev} {x : Ex} (hr : RdE w pv es) (hx : OwnX w B (.agg #[fv, dv, ov, sv]) x) (he : WfE es) (hkd : ∀ i : Nat, i < es.length → 0 ≤ (ev es (i : Int)).kind ∧ (ev es (i : Int)).kind ≤ 5)
    (hm : x ∈ execsF es (fenF es)) : Calls Tryz.prog 25 #[pv, .agg #[fv, dv, ov, sv]] w (TellsI w 0) := by
  obtain ⟨m1, m2, m3, m4, m5, m6⟩ := execs_mem hm
  obtain ⟨hw, hwr⟩ := execs_wf he hm
  have hok := fit_ok he m1 m2 m3 m4 m5
  obtain ⟨A, c, rfl, hc1, hc2⟩ := hr.shape
  obtain ⟨w0, hw0⟩ : ∃ w0, w.alloc (.cells #[fv, dv, ov, sv] 35) = w0 := ⟨_, rfl⟩
  have b0 : Below w.heap.size w w0 := by rw [← hw0]; exact (Below.refl _ w).alloc (Nat.le_refl _) _
  have X35 : Blk w0 w.heap.size 35 [fv, dv, ov, sv] := by rw [← hw0]; exact Blk.new w 35 _
  have k0 := X35.cell 0 rfl
  have k1 := X35.cell 1 rfl
  have k2 := X35.cell 2 rfl
  have k3 := X35.cell 3 rfl
  have hlo : ∀ k, k < 3 → (x.ord.getD k []).length ≤ 1000 := fun k hk => by
    have h1 := (ord_getD m2 hk).length_eq
    have h2 := pickTo_le (isWr x.dn (k : Int) es) es.length
    have h3 := he.n
    unfold writersF at h1
    omega
  have hlf : x.fen.length ≤ 1000 := by have := (fen_in m5).2; have := he.n; omega
  have HF := Lib.hid (fit_any (hr.below b0) (hx.below b0) he hw hwr hok hkd hlo hlf)
  have hC4 : ∀ W, Below w0.heap.size w0 W → W.cell? ⟨w.heap.size, 0, none⟩ = some fv ∧ W.cell? ⟨w.heap.size, 1, none⟩ = some dv ∧ W.cell? ⟨w.heap.size, 2, none⟩ = some ov ∧ W.cell? ⟨w.heap.size, 3, none⟩ = some sv := fun W h =>
    ⟨(X35.below h).cell 0 rfl, (X35.below h).cell 1 rfl, (X35.below h).cell 2 rfl, (X35.below h).cell 3 rfl⟩
  have C4 := Lib.hid hC4
  have HB := Lib.hid (fun W (h : Below w0.heap.size w0 W) => (by have := broken_any ((hr.below b0).below h) ((OwnX.rd hx).below b0 |>.below h) he hw; rw [m6] at this; exact this : Calls Tryz.prog 42 #[.slice A es.length c, .agg #[fv, dv, ov, sv]] W (TellsI W 0)))
  have B0 := Lib.hid b0
  have HW0 := Lib.hid hw0
  clear hr hx he hkd hm m1 m2 m3 m4 m5 m6 hw hwr hok hlo hlf b0 hw0 hC4 X35
  go_enter Tryz.func25, Tryz.ntmps25
  go_upto_region 1 with fail
  rw [HW0.out]
  go_wp2_with (first | (go_at_call 46; refine HF.out.mono ?_; rintro e1 w1 ⟨rfl, hb1⟩; obtain ⟨q0, q1, q2, q3⟩ := C4.out w1 hb1) | (go_at_call 42; refine (HB.out w1 hb1).mono ?_; rintro e2 w2 ⟨rfl, hb2⟩))
  go_ret
  exact ⟨rfl, B0.out.trans ((hb1.trans (hb2.mono hb1.size)).mono B0.out.size)⟩
/-- What is asked of the events' maker. -/
abbrev OfAt (tv : Value) (es : List Ev) (w : World) : Prop := ∀ W, Below w.heap.size w W → Calls Tryz.prog 21 #[.agg #[tv]] W fun e W' => ∃ pv, e = .returned (.tuple #[pv, .int .i64 0]) ∧ RdE W' pv es ∧ (∀ g, pv.ownBlock = some g → W.heap.size ≤ g ∧ g < W'.heap.size) ∧ Below W.heap.size W W'
theorem fails2_any {w : World} {B : Nat} {tv fv dv ov sv : Value} {es : List Ev} {x : Ex} (hx : OwnX w B (.agg #[fv, dv, ov, sv]) x) (he : WfE es) (hkd : ∀ i : Nat, i < es.length → 0 ≤ (ev es (i : Int)).kind ∧ (ev es (i : Int)).kind ≤ 5)
    (hm : x ∈ execsF es (fenF es)) (hof : OfAt tv es w) : Calls Tryz.prog 8 #[.agg #[tv], .agg #[fv, dv, ov, sv]] w (fun e w' => e = two (.int .i64 0) (.int .i64 0) ∧ Below w.heap.size w w') := by
  obtain ⟨w0, hw0⟩ : ∃ w0, (w.alloc (.cells #[tv] 24)).alloc (.cells #[fv, dv, ov, sv] 35) = w0 := ⟨_, rfl⟩
  have b0 : Below w.heap.size w w0 := by rw [← hw0]; exact ((Below.refl _ w).alloc (Nat.le_refl _) _).alloc (by simp) _
  have X24 : Blk w0 w.heap.size 24 [tv] := by rw [← hw0]; exact (Blk.new w 24 [tv]).alloc _
  have X35 : Blk w0 (w.heap.size + 1) 35 [fv, dv, ov, sv] := by rw [← hw0]; exact blk_at_new 35 [fv, dv, ov, sv] (by simp)
  have k0 := X24.cell 0 rfl
  have HO := Lib.hid (hof w0 b0)
  have C4 := Lib.hid (fun W (h : Below w0.heap.size w0 W) => (⟨(X35.below h).cell 0 rfl, (X35.below h).cell 1 rfl, (X35.below h).cell 2 rfl, (X35.below h).cell 3 rfl⟩ : W.cell? ⟨w.heap.size + 1, 0, none⟩ = some fv ∧ W.cell? ⟨w.heap.size + 1, 1, none⟩ = some dv ∧ W.cell? ⟨w.heap.size + 1, 2, none⟩ = some ov ∧ W.cell? ⟨w.heap.size + 1, 3, none⟩ = some sv))
  have HF := Lib.hid (fun W pv (h : Below w0.heap.size w0 W) (hr : RdE W pv es) => fails_any hr ((hx.below b0).below h) he hkd hm)
  have B0 := Lib.hid b0
  have HW0 := Lib.hid hw0
  clear hx he hkd hm hof b0 hw0 X24 X35
  go_enter Tryz.func8, Tryz.ntmps8
  go_upto_region 1 with fail
  rw [HW0.out]
  go_wp2_with (first | (go_at_call 21; refine HO.out.mono ?_; rintro e1 w1 ⟨pv, rfl, hr1, hp1, hb1⟩; obtain ⟨Ap, cp, rfl, hcp1, hcp2⟩ := hr1.shape; obtain ⟨q0, q1, q2, q3⟩ := C4.out w1 hb1) | (go_at_call 25; refine (HF.out w1 _ hb1 hr1).mono ?_; rintro e2 w2 ⟨rfl, hb2⟩))
  go_ret2
  exact ⟨rfl, B0.out.trans ((hb1.trans (hb2.mono hb1.size)).mono B0.out.size)⟩
theorem outcome2_any {w : World} {B : Nat} {tv fv dv ov sv : Value} {es : List Ev} {x : Ex} (hx : OwnX w B (.agg #[fv, dv, ov, sv]) x) (he : WfE es) (hkd : ∀ i : Nat, i < es.length → 0 ≤ (ev es (i : Int)).kind ∧ (ev es (i : Int)).kind ≤ 5)
    (hm : x ∈ execsF es (fenF es)) (hof : OfAt tv es w) : Calls Tryz.prog 9 #[.agg #[tv], .agg #[fv, dv, ov, sv]] w (fun e w' => ∃ u, e = two u (.int .i64 0) ∧ Own w' w.heap.size u (outcomeF es x) ∧ Below w.heap.size w w') := by
  obtain ⟨hw, hwr⟩ := execs_wf he hm
  obtain ⟨w0, hw0⟩ : ∃ w0, (w.alloc (.cells #[tv] 24)).alloc (.cells #[fv, dv, ov, sv] 35) = w0 := ⟨_, rfl⟩
  have b0 : Below w.heap.size w w0 := by rw [← hw0]; exact ((Below.refl _ w).alloc (Nat.le_refl _) _).alloc (by simp) _
  have X24 : Blk w0 w.heap.size 24 [tv] := by rw [← hw0]; exact (Blk.new w 24 [tv]).alloc _
  have X35 : Blk w0 (w.heap.size + 1) 35 [fv, dv, ov, sv] := by rw [← hw0]; exact blk_at_new 35 [fv, dv, ov, sv] (by simp)
  have k0 := X24.cell 0 rfl
  have HO := Lib.hid (hof w0 b0)
  have C4 := Lib.hid (fun W (h : Below w0.heap.size w0 W) => (⟨(X35.below h).cell 0 rfl, (X35.below h).cell 1 rfl, (X35.below h).cell 2 rfl, (X35.below h).cell 3 rfl⟩ : W.cell? ⟨w.heap.size + 1, 0, none⟩ = some fv ∧ W.cell? ⟨w.heap.size + 1, 1, none⟩ = some dv ∧ W.cell? ⟨w.heap.size + 1, 2, none⟩ = some ov ∧ W.cell? ⟨w.heap.size + 1, 3, none⟩ = some sv))
  have HF := Lib.hid (fun W pv (h : Below w0.heap.size w0 W) (hr : RdE W pv es) => fails_any hr ((hx.below b0).below h) he hkd hm)
  have HT := Lib.hid (fun W pv (h : Below w0.heap.size w0 W) (hr : RdE W pv es) => outcome_any hr ((OwnX.rd hx).below b0 |>.below h) he.n hw hwr)
  have B0 := Lib.hid b0
  have HW0 := Lib.hid hw0
  clear hx he hkd hm hof b0 hw0 X24 X35 hw hwr
  go_enter Tryz.func9, Tryz.ntmps9
  go_upto_region 1 with fail
  rw [HW0.out]
  go_wp2_with (first | (go_at_call 21; refine HO.out.mono ?_; rintro e1 w1 ⟨pv, rfl, hr1, hp1, hb1⟩; obtain ⟨Ap, cp, rfl, hcp1, hcp2⟩ := hr1.shape; obtain ⟨q0, q1, q2, q3⟩ := C4.out w1 hb1) | (go_at_call 25; refine (HF.out w1 _ hb1 hr1).mono ?_; rintro e2 w2 ⟨rfl, hb2⟩; obtain ⟨q0, q1, q2, q3⟩ := C4.out w2 (hb1.trans (hb2.mono hb1.size))) | (go_at_call 24; refine (HT.out w2 _ (hb1.trans (hb2.mono hb1.size)) (hr1.below hb2)).mono ?_; rintro e3 w3 ⟨u3, rfl, hown3, hb3⟩; obtain ⟨A3, c3, rfl, hc31, hc32⟩ := (Row.rd hown3).shape))
  go_ret2
  exact ⟨_, rfl, Row.mono hown3 (by have := B0.out.size; have := hb1.size; have := hb2.size; omega), B0.out.trans (((hb1.trans (hb2.mono hb1.size)).trans (hb3.mono (by have := hb1.size; have := hb2.size; omega))).mono B0.out.size)⟩
end Go.Proofs.YtkddckfgdiemkaaGreat
/-
  Programs as they come in: operations; may, isOp, isAccess of the document; order, access, digit, fits, May.
-/
set_option linter.unusedVariables false
set_option linter.unusedSimpArgs false
namespace Go.Proofs.YtkddckfgdiemkaaGreat
open Go.RowKit Go.Shelf Mem
set_option maxRecDepth 100000
attribute [local go_sem] Oper.semAt_some

def opCells (e : Ev) : List Value := [.int .i64 e.kind, .int .i64 e.loc, .int .i64 e.v, .int .i64 e.w, .int .i64 e.ord]
def ops (l : List Ev) : List Value := l.flatMap opCells
abbrev opV (e : Ev) : Value := .agg #[.int .i64 e.kind, .int .i64 e.loc, .int .i64 e.v, .int .i64 e.w, .int .i64 e.ord]
theorem ops_length : ∀ l : List Ev, (ops l).length = l.length * 5
  | [] => rfl
  | x :: t => by have ih := ops_length t; simp only [ops, List.flatMap_cons, List.length_append, List.length_cons] at ih ⊢; rw [ih]; simp [opCells]; omega
theorem ops_at : ∀ (ds : List Ev) (j : Nat) (h : j < ds.length) (i : Nat), i < 5 → (ops ds)[j * 5 + i]? = (opCells ds[j])[i]?
  | x :: t, 0, _, i, hi => by
    simp only [ops, List.flatMap_cons, List.getElem_cons_zero, Nat.zero_mul, Nat.zero_add]
    rw [List.getElem?_append_left (by simp [opCells]; omega)]
  | x :: t, j + 1, h, i, hi => by
    have ih := ops_at t j (by simpa using h) i hi
    simp only [ops, List.flatMap_cons, List.getElem_cons_succ] at ih ⊢
    rw [List.getElem?_append_right (by simp [opCells]; omega), ← ih]
    congr 1
    simp [opCells]; omega
/-- Operations that lie somewhere; a thread. -/
abbrev RdO (w : World) (v : Value) (l : List Ev) : Prop := Rd w v l.length 5 (ops l)
theorem RdO.at_ {w : World} {A : Option Addr} {c n : Nat} {l : List Ev} (h : Rd w (.slice A n c) n 5 (ops l)) (hn : l.length = n) {k : Nat} (hk : k < n) : ∃ b off, A = some ⟨b, off, none⟩ ∧ b < w.heap.size ∧
    w.cell? ⟨b, off + k * 5, none⟩ = some (.int .i64 (ev l k).kind) ∧ w.cell? ⟨b, off + k * 5 + 1, none⟩ = some (.int .i64 (ev l k).loc) ∧ w.cell? ⟨b, off + k * 5 + 2, none⟩ = some (.int .i64 (ev l k).v) ∧
    w.cell? ⟨b, off + k * 5 + 3, none⟩ = some (.int .i64 (ev l k).w) ∧ w.cell? ⟨b, off + k * 5 + 4, none⟩ = some (.int .i64 (ev l k).ord) := by
  subst hn
  obtain ⟨b, off, hA, hb, hc⟩ := Rd.elem h hk
  have hat := fun i hi => (hc i hi).trans (ops_at l k hk i hi)
  rw [ev_at l hk]
  exact ⟨b, off, hA, hb, hat 0 (by decide), hat 1 (by decide), hat 2 (by decide), hat 3 (by decide), hat 4 (by decide)⟩
/-- A program: its threads. -/
def RdP (w : World) (v : Value) (ps : List (List Ev)) : Prop := ∃ us, Rd w v ps.length 1 us ∧ us.length = ps.length ∧ ∀ k u, us[k]? = some u → RdO w u (ps.getD k [])
theorem RdP.below {w w' : World} {v : Value} {ps : List (List Ev)} (h : RdP w v ps) (k : Below w.heap.size w w') : RdP w' v ps := by
  obtain ⟨us, h1, h2, h3⟩ := h
  exact ⟨us, Rd.below h1 k, h2, fun j u hu => Rd.below (h3 j u hu) k⟩
theorem RdP.shape {w : World} {v : Value} {ps : List (List Ev)} (h : RdP w v ps) : ∃ A c, v = .slice A ps.length c ∧ ps.length ≤ c ∧ c ≤ 9223372036854775807 := by
  obtain ⟨us, h1, _⟩ := h; exact h1.shape
theorem RdP.at_ {w : World} {A : Option Addr} {c n : Nat} {ps : List (List Ev)} (h : RdP w (.slice A n c) ps) (hn : ps.length = n) {k : Nat} (hk : k < n) :
    ∃ b off A1 c1, A = some ⟨b, off, none⟩ ∧ b < w.heap.size ∧ w.cell? ⟨b, off + k, none⟩ = some (.slice A1 (ps.getD k []).length c1) ∧ Rd w (.slice A1 (ps.getD k []).length c1) (ps.getD k []).length 5 (ops (ps.getD k [])) ∧ (ps.getD k []).length ≤ c1 ∧ c1 ≤ 9223372036854775807 := by
  subst hn
  obtain ⟨us, h1, h2, h3⟩ := h
  obtain ⟨b, off, hA, hb, hc⟩ := h1.one hk
  have hu : us[k]? = some (us[k]'(by omega)) := List.getElem?_eq_getElem _
  have hr := h3 k _ hu
  obtain ⟨A1, c1, he, h4, h5⟩ := hr.shape
  rw [hu, he] at hc
  rw [he] at hr
  exact ⟨b, off, A1, c1, hA, hb, hc, hr, h4, h5⟩
/-- What an operation may be. -/
structure MayOk (k o : Int) : Prop where
  ho : 0 ≤ o ∧ o ≤ 4
  hk : 0 ≤ k ∧ k ≤ 5
  hl : k = 0 → o = 0 ∨ o = 1 ∨ o = 4
  hs : k = 1 → o = 0 ∨ o = 2 ∨ o = 4
  hf : k = 5 → o ≠ 0
structure OkOp (e : Ev) : Prop where
  m : MayOk e.kind e.ord
  l : 0 ≤ e.loc ∧ e.loc < 3
  k0 : e.kind = 0 → e.v = 0 ∧ e.w = 0
  k1 : e.kind = 1 → (0 ≤ e.v ∧ e.v ≤ 9) ∧ e.w = 0
  k2 : e.kind = 2 → (-9 ≤ e.v ∧ e.v ≤ 9) ∧ e.w = 0
  k3 : e.kind = 3 ∨ e.kind = 4 → (0 ≤ e.v ∧ e.v ≤ 9) ∧ (0 ≤ e.w ∧ e.w ≤ 9)
  k5 : e.kind = 5 → e.loc = 0 ∧ e.v = 0 ∧ e.w = 0
/-- Whether it is so. -/
noncomputable def dec (P : Prop) : Bool := @decide P (Classical.propDecidable P)
theorem dec_true {P : Prop} (h : P) : dec P = true := @decide_eq_true P (Classical.propDecidable P) h
theorem dec_false {P : Prop} (h : ¬ P) : dec P = false := @decide_eq_false P (Classical.propDecidable P) h
theorem of_dec {P : Prop} (h : dec P = true) : P := @of_decide_eq_true P (Classical.propDecidable P) h
theorem tells_true {w w' : World} {P : Prop} (h : P) (b : Below w.heap.size w w') : Tells w (dec P) (.returned (.bool true)) w' := ⟨by rw [dec_true h], b⟩
theorem tells_false {w w' : World} {P : Prop} (h : ¬ P) (b : Below w.heap.size w w') : Tells w (dec P) (.returned (.bool false)) w' := ⟨by rw [dec_false h], b⟩
set_option maxHeartbeats 4000000 in
theorem may3_any {w : World} {k o : Int} : Calls Tryz.prog 47 #[.int .i64 k, .int .i64 o] w (Tells w (dec (MayOk k o))) := by
  rcases (by omega : o < 0 ∨ o > 4 ∨ o = 0 ∨ o = 1 ∨ o = 2 ∨ o = 3 ∨ o = 4) with h | h | rfl | rfl | rfl | rfl | rfl
  · go_enter Tryz.func47, Tryz.ntmps47
    go_wp2
    go_ret
    exact tells_false (fun hm => by have := hm.ho; omega) (Below.refl _ _)
  · have h' : ¬ o < 0 := by omega
    go_enter Tryz.func47, Tryz.ntmps47
    go_wp2
    go_ret
    exact tells_false (fun hm => by have := hm.ho; omega) (Below.refl _ _)
  all_goals
    rcases (by omega : k < 0 ∨ k > 5 ∨ k = 0 ∨ k = 1 ∨ k = 2 ∨ k = 3 ∨ k = 4 ∨ k = 5) with h | h | rfl | rfl | rfl | rfl | rfl | rfl
    · have h0 : k ≠ 0 := by omega
      have h1 : k ≠ 1 := by omega
      have h5 : k ≠ 5 := by omega
      have h2 : ¬ k ≥ 2 := by omega
      go_enter Tryz.func47, Tryz.ntmps47
      go_wp2
      go_ret
      exact tells_false (fun hm => by have := hm.hk; omega) (Below.refl _ _)
    · have h0 : k ≠ 0 := by omega
      have h1 : k ≠ 1 := by omega
      have h5 : k ≠ 5 := by omega
      have h2 : k ≥ 2 := by omega
      have h4 : ¬ k ≤ 4 := by omega
      go_enter Tryz.func47, Tryz.ntmps47
      go_wp2
      go_ret
      exact tells_false (fun hm => by have := hm.hk; omega) (Below.refl _ _)
    all_goals
      go_enter Tryz.func47, Tryz.ntmps47
      go_wp2
      go_ret
      first
        | exact tells_true ⟨by omega, by omega, by omega, by omega, by omega⟩ (Below.refl _ _)
        | exact tells_false (fun hm => by have := hm.hl; have := hm.hs; have := hm.hf; omega) (Below.refl _ _)
/-- An access, whatever else it is. -/
def Accessed (e : Ev) : Prop := 0 ≤ e.kind ∧ e.kind < 5
theorem isAccess_any {w : World} {e : Ev} : Calls Tryz.prog 27 #[opV e] w (Tells w (dec (Accessed e))) := by
  obtain ⟨k, l, v, x, o, t⟩ := e
  rcases (by omega : k < 0 ∨ (0 ≤ k ∧ k < 5) ∨ 5 ≤ k) with h | ⟨h, h2⟩ | h
  · have h1 : ¬ k ≥ 0 := by omega
    go_enter Tryz.func27, Tryz.ntmps27
    go_wp2
    go_ret
    exact tells_false (fun hm => by unfold Accessed at hm; simp only at hm; omega) ((Below.refl _ w).alloc (Nat.le_refl _) _)
  · have h1 : k ≥ 0 := h
    go_enter Tryz.func27, Tryz.ntmps27
    go_wp2
    go_ret
    exact tells_true ⟨h, h2⟩ ((Below.refl _ w).alloc (Nat.le_refl _) _)
  · have h1 : k ≥ 0 := by omega
    have h2 : ¬ k < 5 := by omega
    go_enter Tryz.func27, Tryz.ntmps27
    go_wp2
    go_ret
    exact tells_false (fun hm => by unfold Accessed at hm; simp only at hm; omega) ((Below.refl _ w).alloc (Nat.le_refl _) _)
theorem access_any {w : World} {e : Ev} (h : 0 ≤ e.kind ∧ e.kind ≤ 5) : Calls Tryz.prog 51 #[opV e] w (Tells w (!decide (e.kind = 5))) := by
  obtain ⟨k, l, v, x, o, t⟩ := e
  simp only at h
  rcases (by omega : k = 0 ∨ k = 1 ∨ k = 2 ∨ k = 3 ∨ k = 4 ∨ k = 5) with rfl | rfl | rfl | rfl | rfl | rfl
  all_goals
    go_enter Tryz.func51, Tryz.ntmps51
    go_wp2
    go_ret
    exact ⟨rfl, (Below.refl _ w).alloc (Nat.le_refl _) _⟩
end Go.Proofs.YtkddckfgdiemkaaGreat
