/-
  The walks of executions (the maker) and Witness.
-/
import Derived.Test.YtkddckfgdiemkaaGreatCW17
set_option linter.unusedVariables false
set_option linter.unusedSimpArgs false
namespace Go.Proofs.YtkddckfgdiemkaaGreat
open Go.RowKit Go.Shelf Mem
set_option maxRecDepth 100000
attribute [local go_sem] Oper.semAt_some

def fenF (es : List Ev) : List Int := pickTo (fun x => isStrong (ev es x)) es.length
theorem executions_any {w : World} {pv : Value} {es : List Ev} (hr : RdE w pv es) (hn : es.length ≤ 31) :
    Calls Tryz.prog 22 #[pv] w fun e w' => ∃ fc fv, e = .returned (.func (.func 36) #[] #[.pointer (some ⟨w.heap.size, 0, none⟩), .pointer (some ⟨fc, 0, none⟩)]) ∧
      Blk w' w.heap.size 65 [pv] ∧ Blk w' fc 28 [fv] ∧ Own w' w.heap.size fv (fenF es) ∧ w.heap.size < fc ∧ (∀ g, fv.ownBlock = some g → w.heap.size ≤ g) ∧ Below w.heap.size w w' := by
  obtain ⟨A, c, rfl, hc1, hc2⟩ := hr.shape
  obtain ⟨w0, hw0⟩ : ∃ w0, w.alloc (.cells #[.slice A es.length c] 65) = w0 := ⟨_, rfl⟩
  have b0 : Below w.heap.size w w0 := by rw [← hw0]; exact (Below.refl _ w).alloc (Nat.le_refl _) _
  have X0 := Lib.hid (show Blk w0 w.heap.size 65 [.slice A es.length c] by rw [← hw0]; exact Blk.new w 65 _)
  have R0 := Lib.hid (hr.below b0)
  have c0 := X0.out.cell 0 rfl
  have hwl : w.heap.size < w0.heap.size := X0.out.lt
  have HB0 := Lib.hid b0
  have HW0 := Lib.hid hw0
  have hpk : Hid (Calls Tryz.prog 33 #[.slice A es.length c, .func (.func 34) #[] #[.pointer (some ⟨w.heap.size, 0, none⟩)]] w0 (Made (fenF es) w0)) := Lib.hid
    (pick_strong1 (q := fun x => isStrong (ev es x)) R0.out (fun k hk W1 hb => strong1_any ((X0.out.below hb).cell 0 rfl) (R0.out.below hb) ⟨by omega, by omega⟩) (by omega))
  clear hr b0 hw0
  go_enter Tryz.func22, Tryz.ntmps22
  go_upto_region 1 with fail
  rw [HW0.out]
  go_wp2_with (go_at_call 33; refine hpk.out.mono ?_; rintro e w1 ⟨fv, rfl, hown, hb1⟩; obtain ⟨Af, cf, rfl, hcf1, hcf2⟩ := (Row.rd hown).shape)
  go_ret
  refine ⟨w1.heap.size, _, rfl, (X0.out.below hb1).alloc _, Blk.new w1 28 _, World.ownsRow.alloc (Row.mono hown HB0.out.size) _, Nat.lt_of_lt_of_le hwl hb1.size, fun g hg => Nat.le_trans HB0.out.size (Row.at_lt hown hg).1, (HB0.out.trans (hb1.mono HB0.out.size)).alloc (Nat.le_trans HB0.out.size hb1.size) _⟩
theorem results_cell_cell {fn : Func} {p q : Tmp} (h : fn.results = #[.cell p 35, .cell q 29]) (tmps : Array Value) (w : World) (g g2 : Nat) (a b c d : Value) (k : Int)
    (hp : tmps.getD p undef = .pointer (some ⟨g, 0, none⟩)) (hg : Blk w g 35 [a, b, c, d]) (hq : tmps.getD q undef = .pointer (some ⟨g2, 0, none⟩)) (hc : w.cell? ⟨g2, 0, none⟩ = some (.int .i64 k)) :
    (results fn tmps).run Tryz.prog w = .ok (.tuple #[.agg #[a, b, c, d], .int .i64 k]) w := by
  have hp' : tmps[p]?.getD undef = .pointer (some ⟨g, 0, none⟩) := by simpa using hp
  have hq' : tmps[q]?.getD undef = .pointer (some ⟨g2, 0, none⟩) := by simpa using hq
  have h1 : (loadVar 35 ⟨g, 0, none⟩).run Tryz.prog w = .ok (.agg #[a, b, c, d]) w := run_loadVar_row w g 35 35 #[a, b, c, d] (0, 0) _ hg Tryz.underlying35 rfl (by kernel_rfl)
  have h2 : (loadVar 29 ⟨g2, 0, none⟩).run Tryz.prog w = .ok (.int .i64 k) w := by
    simp [go_sem, hc, Tryz.underlying29, loadVar]
  simp [results, h, hp', hq', asAddr, h1, h2]
theorem execs_mem {es : List Ev} {fen : List Int} {x : Ex} (h : x ∈ execsF es fen) : x.dn ∈ donesF es ∧ x.ord ∈ ordersW es x.dn 3 ∧ x.fr ∈ fromsW es x.dn x.ord es.length [] ∧ possibleF es ⟨x.fr, x.dn, x.ord, []⟩ = true ∧ x.fen ∈ mergesW (thOf es) fen.length [] fen ∧ brokenF es x = 0 := by
  simp only [execsF, F1, F2, F3, List.mem_flatMap] at h
  obtain ⟨d, hd, o, ho, f, hf, h⟩ := h
  split at h
  · rename_i hp
    simp only [List.mem_flatMap, F4] at h
    obtain ⟨s, hs, h⟩ := h
    split at h
    · rename_i hb
      simp only [List.mem_singleton] at h
      subst h
      exact ⟨hd, ho, hf, hp, hs, hb⟩
    · cases h
  · cases h
theorem fen_in {es : List Ev} {s : List Int} (h : s ∈ mergesW (thOf es) (fenF es).length [] (fenF es)) : (∀ w ∈ s, In es w) ∧ s.length ≤ es.length := by
  have hp := mergesW_len _ h
  exact ⟨fun w hw => ⟨(pickTo_mem (hp.mem_iff.1 hw)).1, (pickTo_mem (hp.mem_iff.1 hw)).2.1⟩, by rw [hp.length_eq]; exact pickTo_le _ _⟩
theorem execs_wf {es : List Ev} {x : Ex} (he : WfE es) (h : x ∈ execsF es (fenF es)) : WfX es x ∧ WfR es x := by
  obtain ⟨h1, h2, h3, _, h5, _⟩ := execs_mem h
  have hf := fen_in h5
  have hn := he.n
  exact ⟨wfX he h1 h2 h3 hf.1 (by omega), wfR he h2 h3⟩
theorem Row.cells {w w' : World} {B : Nat} {e : TypeId} {z n : Nat} {v : Value} {xs : List Value} (h : Row w B e z v n xs) (k : CellsStay w w') : Row w' B e z v n xs := by
  refine ⟨h.1, ?_⟩
  rcases h.2 with hn | ⟨g, cap, cur, rfl, hb, hg, rest⟩
  · exact .inl hn
  · exact .inr ⟨g, cap, cur, rfl, hb, k _ _ _ _ hg, rest⟩
theorem OwnX.cells {w w' : World} {B : Nat} {v : Value} {x : Ex} (h : OwnX w B v x) (k : CellsStay w w') : OwnX w' B v x := by
  obtain ⟨fv, dv, ov, sv, rfl, h1, h2, ⟨us, h3, h4, h5⟩, h6⟩ := h
  exact ⟨fv, dv, ov, sv, rfl, Row.cells h1 k, Row.cells h2 k, ⟨us, Row.cells h3 k, h4, fun j u hu => Row.cells (h5 j u hu) k⟩, Row.cells h6 k⟩
theorem OwnX.rd {w : World} {B : Nat} {fv dv ov sv : Value} {x : Ex} (h : OwnX w B (.agg #[fv, dv, ov, sv]) x) : RdX w fv dv ov sv x := by
  obtain ⟨fv', dv', ov', sv', e, h1, h2, h3, h4⟩ := h
  cases e
  exact ⟨Row.rd h1, Row.rd h2, h3.rd2 (S := fun _ => False) (fun _ _ _ h => h), Row.rd h4⟩
theorem loop_cells {w w' : World} {l : Nat} {r : Loop} (hr : w.heap[l]? = some (.loop r)) (k : Kept w w' (fun k => k = l)) : CellsStay w w' := fun g cs t p hg =>
  (k.block g (Array.getElem?_eq_some_iff.1 hg).1 (fun e => by subst e; rw [hr] at hg; cases hg)).trans hg
/-- What Witness hands back: an execution that has the outcome. -/
def Wit (es : List Ev) (out : List Int) (w : World) (e : Ending) (w' : World) : Prop := ∃ fv dv ov sv x, e = .returned (.tuple #[.agg #[fv, dv, ov, sv], .int .i64 0]) ∧ x ∈ execsF es (fenF es) ∧ outcomeF es x = out ∧ OwnX w' w.heap.size (.agg #[fv, dv, ov, sv]) x ∧ Below w.heap.size w w'
theorem set4_kept {W : World} {g : Nat} (a b c d : Value) : Kept W ((((W.setCell ⟨g, 0, none⟩ a).setCell ⟨g, 1, none⟩ b).setCell ⟨g, 2, none⟩ c).setCell ⟨g, 3, none⟩ d) (fun k => k = g) :=
  ((((Kept.refl W (fun k => k = g)).setCell (p := ⟨g, 0, none⟩) (.inl rfl) a).setCell (p := ⟨g, 1, none⟩) (.inl rfl) b).setCell (p := ⟨g, 2, none⟩) (.inl rfl) c).setCell (p := ⟨g, 3, none⟩) (.inl rfl) d
theorem set1_kept {W : World} {g : Nat} (a : Value) : Kept W (W.setCell ⟨g, 0, none⟩ a) (fun k => k = g) := (Kept.refl W (fun k => k = g)).setCell (p := ⟨g, 0, none⟩) (.inl rfl) a
theorem set5_kept {W : World} {g h : Nat} (a b c d e : Value) : Kept W (((((W.setCell ⟨g, 0, none⟩ a).setCell ⟨g, 1, none⟩ b).setCell ⟨g, 2, none⟩ c).setCell ⟨g, 3, none⟩ d).setCell ⟨h, 0, none⟩ e) (fun k => k = g ∨ k = h) :=
  ((set4_kept a b c d).mono (fun _ _ e => .inl e)).trans (set1_kept e) (fun _ _ e => .inr e)
set_option maxHeartbeats 1000000 in
theorem witness_any {w : World} {tv uv : Value} {es : List Ev} {out : List Int} {y : Ex} (hu : RdI w uv out) (hub : ∀ g, uv.ownBlock = some g → g < w.heap.size) (he : WfE es) (hy : y ∈ execsF es (fenF es)) (hyo : outcomeF es y = out)
    (hof : ∀ W, Below w.heap.size w W → Calls Tryz.prog 21 #[.agg #[tv]] W fun e W' => ∃ pv, e = .returned (.tuple #[pv, .int .i64 0]) ∧ RdE W' pv es ∧ (∀ g, pv.ownBlock = some g → W.heap.size ≤ g ∧ g < W'.heap.size) ∧ Below W.heap.size W W') :
    Calls Tryz.prog 7 #[.agg #[tv], uv] w (Wit es out w) := by
  obtain ⟨Au, cu, rfl, hcu1, hcu2⟩ := hu.shape
  refine (callsIn_wide (n := 9)).1 ?_
  refine callsIn_of_wp_marks Tryz.func7 rfl trivial ?_ rfl
  simp only [Tryz.ntmps7, List.size_toArray, List.length_cons, List.length_nil, Nat.reduceAdd, Nat.reduceSub, Array.replicate_succ, Array.replicate_zero, List.push_toArray, List.append_toArray, List.nil_append, List.cons_append]
  obtain ⟨w0, hw0⟩ : ∃ w0, (((w.alloc (.cells #[tv] 24)).alloc (.cells #[.slice Au out.length cu] 28)).alloc (.cells #[.slice none 0 0, .slice none 0 0, .slice none 0 0, .slice none 0 0] 35)).alloc (.cells #[.int .i64 0] 29) = w0 := ⟨_, rfl⟩
  have b0 : Below w.heap.size w w0 := by rw [← hw0]; exact ((((Below.refl _ w).alloc (Nat.le_refl _) _).alloc (by simp) _).alloc (by simp; omega) _).alloc (by simp; omega) _
  have hsz : w0.heap.size = w.heap.size + 4 := by rw [← hw0]; simp
  have X24 := Lib.hid (show Blk w0 w.heap.size 24 [tv] by rw [← hw0]; exact (((Blk.new w 24 [tv]).alloc _).alloc _).alloc _)
  have X28 := Lib.hid (show Blk w0 (w.heap.size + 1) 28 [.slice Au out.length cu] by rw [← hw0]; exact ((blk_at_new 28 [.slice Au out.length cu] (by simp)).alloc _).alloc _)
  have X35 := Lib.hid (show Blk w0 (w.heap.size + 1 + 1) 35 [.slice none 0 0, .slice none 0 0, .slice none 0 0, .slice none 0 0] by rw [← hw0]; exact (blk_at_new 35 [.slice none 0 0, .slice none 0 0, .slice none 0 0, .slice none 0 0] (by simp)).alloc _)
  have X29 := Lib.hid (show Blk w0 (w.heap.size + 1 + 1 + 1) 29 [.int .i64 0] by rw [← hw0]; exact blk_at_new 29 [.int .i64 0] (by simp))
  have HW0 := Lib.hid hw0
  have B0 := Lib.hid b0
  have U0 := Lib.hid (Rd.below hu b0)
  have HSZ := Lib.hid hsz
  have HUB := Lib.hid hub
  have HE := Lib.hid he
  have HY := Lib.hid (And.intro hy hyo)
  have HOF := Lib.hid (hof w0 b0)
  have l0 := X24.out.cell 0 rfl
  have hwl : w.heap.size < w0.heap.size := by omega
  have hn := he.n
  clear hu he hy hyo hof hw0 b0 hsz hub
  gi_upto_region 1 with fail
  rw [HW0.out]
  gi_wp2_with (first | (refine ⟨trivial, ?_⟩; gi_at_call 21; refine (callsIn_wide.2 HOF.out).mono ?_; rintro e1 w1 ⟨pv, rfl, hp1, hpb, hb1⟩; obtain ⟨Ap, cp, rfl, hcp1, hcp2⟩ := hp1.shape; have HP1 := Lib.hid hp1; have HB1 := Lib.hid hb1; have HPB := Lib.hid hpb; clear hp1 hb1 hpb) | (refine ⟨trivial, ?_⟩; gi_at_call 22; refine (callsIn_wide.2 (executions_any (HP1.out.below ((Below.refl _ w1).alloc (Nat.le_refl _) _)) hn)).mono ?_; rintro e3 w3 ⟨fc, fv, rfl, hP3, hF3, hfv3, hfc3, hfb3, hb3⟩))
  simp only [World.size_alloc] at hP3 hfv3 hfc3 hfb3 hb3
  have ba1 : Below w1.heap.size w1 (w1.alloc (.cells #[.slice Ap es.length cp] 65)) := (Below.refl _ w1).alloc (Nat.le_refl _) _
  have hb13 : Below w1.heap.size w1 w3 := ba1.trans (hb3.mono (by omega))
  have hb03 : Below w0.heap.size w0 w3 := HB1.out.trans (hb13.mono HB1.out.size)
  have hw13 : w1.heap.size ≤ w3.heap.size := hb13.size
  have hw01 : w0.heap.size ≤ w1.heap.size := HB1.out.size
  have hsz0 := HSZ.out
  have p3 : Blk w3 w1.heap.size 65 [.slice Ap es.length cp] := ((Blk.new w1 65 [.slice Ap es.length cp]).below (by rw [World.size_alloc]; exact hb3))
  have n3 : ∀ k, w1.heap.size ≤ k → ¬ (k = w.heap.size + 1 + 1 ∨ k = w.heap.size + 1 + 1 + 1) := fun k hk h => by omega
  have npv : ∀ g, (Value.slice Ap es.length cp).ownBlock = some g → ¬ (g = w.heap.size + 1 + 1 ∨ g = w.heap.size + 1 + 1 + 1) := fun g hg h => by have := (HPB.out g hg).1; omega
  have nlv : ∀ g, (Value.slice Ap es.length cp).ownBlock = some g → g < w3.heap.size := fun g hg => by have := (HPB.out g hg).2; omega
  have HG := Lib.hid (execs_gives (w := w3) (S0 := fun k => k = w.heap.size + 1 + 1 ∨ k = w.heap.size + 1 + 1 + 1) hP3 (HP1.out.below hb13) hF3 (Row.rd hfv3) (n3 _ (by omega)) (n3 _ (by omega)) npv (fun g hg => n3 _ (by have := hfb3 g hg; omega)) nlv (fun g hg => (Row.at_lt hfv3 hg).2) HE.out
    (fun x hx => ⟨(pickTo_mem hx).1, (pickTo_mem hx).2.1⟩) (by have := pickTo_le (fun x => isStrong (ev es x)) es.length; simp only [fenF]; omega))
  have Y35 := Lib.hid (X35.out.below hb03)
  have Y29 := Lib.hid (X29.out.below hb03)
  have Y28 := Lib.hid (X28.out.below hb03)
  have U3 := Lib.hid (Rd.below U0.out hb03)
  have HP3 := Lib.hid (HP1.out.below hb13)
  have HQ3 := Lib.hid p3
  have HB03 := Lib.hid hb03
  have HNPV := Lib.hid npv
  have hUb : Hid (∀ W1, Kept w3 W1 (fun k => k = w.heap.size + 1 + 1 ∨ k = w.heap.size + 1 + 1 + 1) → RdI W1 (.slice Au out.length cu) out) := Lib.hid (fun W1 k1 => Rd.keep U3.out k1 (fun g hg hs => by have := HUB.out g hg; rcases hs with h | h <;> omega))
  clear hP3 hF3 hfv3 hfc3 hfb3 hb3 ba1 hb13 hb03 p3 n3 npv nlv l0
  refine wpIn_range (gf := 36) (lb := #[.pointer (some ⟨w1.heap.size + 1, 0, none⟩), .pointer (some ⟨fc, 0, none⟩)]) (S0 := fun k => k = w.heap.size + 1 + 1 ∨ k = w.heap.size + 1 + 1 + 1)
    (I := fun (pre : List Ex) Wc => (∀ x ∈ pre, outcomeF es x ≠ out) ∧ Kept w3 Wc (fun k => k = w.heap.size + 1 + 1 ∨ k = w.heap.size + 1 + 1 + 1) ∧ Blk Wc (w.heap.size + 1 + 1) 35 [.slice none 0 0, .slice none 0 0, .slice none 0 0, .slice none 0 0] ∧ Blk Wc (w.heap.size + 1 + 1 + 1) 29 [.int .i64 0])
    (Ix := fun c _ Wc => c = .ret ∧ Kept w3 Wc (fun k => k = w.heap.size + 1 + 1 ∨ k = w.heap.size + 1 + 1 + 1) ∧ Blk Wc (w.heap.size + 1 + 1 + 1) 29 [.int .i64 0] ∧ ∃ x fv dv ov sv, x ∈ execsF es (fenF es) ∧ outcomeF es x = out ∧ Blk Wc (w.heap.size + 1 + 1) 35 [fv, dv, ov, sv] ∧ OwnX Wc w.heap.size (.agg #[fv, dv, ov, sv]) x)
    rfl (enters_of Tryz.func36 (by kernel_rfl) rfl) HG.out (fun k hk => by rcases hk with h | h <;> omega)
    ?abI ?abX (fun Wc vs x hv => by obtain ⟨v, rfl, _⟩ := hv; rfl) ⟨by simp, Kept.refl _ _, Y35.out, Y29.out⟩ ?round ?done ?stop
  case abI =>
    exact fun s A C hj hb => ⟨hj.1, abide_kept (β := Unit) () _ _ hj.2.1 hb, (hb.block _ Y35.out.lt).trans hj.2.2.1, (hb.block _ Y29.out.lt).trans hj.2.2.2⟩
  case abX =>
    rintro cc s A C ⟨h1, h2, h3, x, fv, dv, ov, sv, hx, ho, h4, hX⟩ hb hcs
    exact ⟨h1, abide_kept (β := Unit) () _ _ h2 hb, (hb.block _ Y29.out.lt).trans h3, x, fv, dv, ov, sv, hx, ho, (hb.block _ Y35.out.lt).trans h4, hX.cells hcs⟩
  case done =>
    rintro D Wc hD ⟨hj, _⟩ hdef
    exact absurd HY.out.2 (hj y HY.out.1)
  case stop =>
    rintro D c pre Wc hD hpre ⟨rfl, hk, h5, x, fv, dv, ov, sv, hx, ho, h4, hX⟩ hdef
    have hcs : CellsStay Wc (Wc.putObj D (.deferred none)) := putObj_cells hdef (fun _ _ _ h => by cases h)
    have h4' : Blk (Wc.putObj D (.deferred none)) (w.heap.size + 1 + 1) 35 [fv, dv, ov, sv] := hcs _ _ _ _ h4
    have h5' : Blk (Wc.putObj D (.deferred none)) (w.heap.size + 1 + 1 + 1) 29 [.int .i64 0] := hcs _ _ _ _ h5
    have hbf : Below w.heap.size w (Wc.putObj D (.deferred none)) := (B0.out.trans (HB03.out.mono (by omega))).trans ((hk.below (by omega) (fun k hs => by rcases hs with h | h <;> omega)).trans (putObj_below (by omega)))
    gi_wp2
    refine ⟨by simp, .inl ⟨_, _, rfl, run_takeDeferred hdef, ?_⟩⟩
    exact ⟨_, results_cell_cell rfl _ _ (w.heap.size + 1 + 1) (w.heap.size + 1 + 1 + 1) fv dv ov sv 0 rfl h4' rfl (h5'.cell 0 rfl), fv, dv, ov, sv, x, rfl, hx, ho, hX.cells hcs, hbf⟩
  case round =>
    rintro l₁ pre x vs W1 hl1 hloop1 ⟨hj1, hk1, h35, h29⟩ hpre1 ⟨v, rfl, hv⟩
    obtain ⟨fv, dv, ov, sv, rfl, hx1, hx2, hx3, hx4⟩ := id hv
    obtain ⟨Ax, cx, rfl, _, _⟩ := (Row.rd hx1).shape
    obtain ⟨Ay, cy, rfl, _, _⟩ := (Row.rd hx2).shape
    obtain ⟨Az, cz, rfl, _, _⟩ := hx3.shape
    obtain ⟨Aq, cq, rfl, _, _⟩ := (Row.rd hx4).shape
    have hxm : x ∈ execsF es (fenF es) := hpre1.subset (List.mem_append_right _ (List.mem_singleton.2 rfl))
    gi_wp2
    refine ⟨(Kept.refl W1 _).alloc _, fun W₂ hk2 hsz2 hloop2 => ?_⟩
    obtain ⟨r1, hr1⟩ := hloop1
    have hl1lt : l₁ < W1.heap.size := (Array.getElem?_eq_some_iff.1 hr1).1
    have hw31 : w3.heap.size ≤ W1.heap.size := hk1.size
    have ba : Below W1.heap.size W1 (W1.alloc (.cells #[.slice Ax x.fr.length cx, .slice Ay x.dn.length cy, .slice Az x.ord.length cz, .slice Aq x.fen.length cq] 35)) := (Below.refl _ W1).alloc (Nat.le_refl _) _
    have hra : (W1.alloc (.cells #[.slice Ax x.fr.length cx, .slice Ay x.dn.length cy, .slice Az x.ord.length cz, .slice Aq x.fen.length cq] 35)).heap[l₁]? = some (.loop r1) := (Below.heap_alloc W1 _ l₁ hl1lt).trans hr1
    have hk32 : Kept w3 W₂ (fun k => k = w.heap.size + 1 + 1 ∨ k = w.heap.size + 1 + 1 + 1) := (hk1.alloc _).trans hk2 (fun i hi e => absurd hi (by omega))
    have E2 : Blk W₂ W1.heap.size 35 [.slice Ax x.fr.length cx, .slice Ay x.dn.length cy, .slice Az x.ord.length cz, .slice Aq x.fen.length cq] := (Blk.new W1 35 [.slice Ax x.fr.length cx, .slice Ay x.dn.length cy, .slice Az x.ord.length cz, .slice Aq x.fen.length cq]).keep hk2 (by omega)
    have X2 := Lib.hid ((hv.below ba).cells (loop_cells hra hk2))
    have p2 := (HQ3.out.keep hk32 (fun h => by rcases h with h | h <;> omega)).cell 0 rfl
    have O2 : Blk W₂ (w.heap.size + 1) 28 [.slice Au out.length cu] := Y28.out.keep hk32 (fun h => by rcases h with h | h <;> omega)
    have o2 := O2.cell 0 rfl
    have U2 := Lib.hid (hUb.out W₂ hk32)
    have RE2 := Lib.hid (HP3.out.keep hk32 HNPV.out)
    have A2 : Blk W₂ (w.heap.size + 1 + 1) 35 [.slice none 0 0, .slice none 0 0, .slice none 0 0, .slice none 0 0] := (h35.alloc _).keep hk2 (by have := Y35.out.lt; omega)
    have B2 : Blk W₂ (w.heap.size + 1 + 1 + 1) 29 [.int .i64 0] := (h29.alloc _).keep hk2 (by have := Y29.out.lt; omega)
    have e20 := E2.cell 0 rfl
    have e21 := E2.cell 1 rfl
    have e22 := E2.cell 2 rfl
    have e23 := E2.cell 3 rfl
    have HWF := Lib.hid (execs_wf HE.out hxm)
    have HXM := Lib.hid hxm
    have HO2 := Lib.hid O2
    have HE2 := Lib.hid E2
    have HA2 := Lib.hid A2
    have HB2 := Lib.hid B2
    have HK32 := Lib.hid hk32
    have HJ1 := Lib.hid hj1
    have hmix : Tryz.prog.follows Departure.mixedOrders = true := by kernel_rfl
    clear hk1 h35 h29 hpre1 hv hx1 hx2 hx3 hx4 hxm hk2 hsz2 hloop2 hr1 ba hra hk32 E2 O2 A2 B2 hj1
    cases hde : decide (outcomeF es x = out) with
    | false =>
      have HDE := Lib.hid hde
      clear hde
      gi_upto_region 6 with fail
      gi_region_with_o (first | (refine ⟨trivial, ?_⟩; gi_at_call 24; refine (CallsIn.inRound l₁ (callsIn_wide.2 (outcome_any (RE2.out.below ((Below.refl _ W₂).drew)) (X2.out.below ((Below.refl _ W₂).drew)).rd (by omega) HWF.out.1 HWF.out.2))).mono ?_; rintro e6 W6 ⟨u6, rfl, hown6, hb6⟩; obtain ⟨A6, c6, rfl, hc61, hc62⟩ := (Row.rd hown6).shape; have b26 : Below W₂.heap.size W₂ W6 := ((Below.refl _ W₂).drew).trans hb6; have o6 := (HO2.out.below b26).cell 0 rfl) | (refine ⟨trivial, ?_⟩; gi_at_call 23; refine (CallsIn.inRound l₁ (callsIn_wide.2 (equal_any (Row.rd hown6) (Rd.below U2.out b26)))).mono ?_; rintro e7 W7 ⟨rfl, hb7⟩; rw [HDE.out]))
      all_goals gi_wp2
      all_goals refine ⟨⟨?_, HK32.out.then_below (b26.trans (hb7.mono b26.size)), HA2.out.below (b26.trans (hb7.mono b26.size)), HB2.out.below (b26.trans (hb7.mono b26.size))⟩, Kept.of_below (b26.trans (hb7.mono b26.size)) _⟩
      all_goals intro z hz
      all_goals rcases List.mem_append.1 hz with h | h
      all_goals first
        | exact HJ1.out z h
        | (rw [List.mem_singleton] at h; subst h; exact of_decide_eq_false HDE.out)
    | true =>
      have HDE := Lib.hid hde
      clear hde
      gi_upto_region 6 with fail
      gi_region_with_o (first | (refine ⟨trivial, ?_⟩; gi_at_call 24; refine (CallsIn.inRound l₁ (callsIn_wide.2 (outcome_any (RE2.out.below ((Below.refl _ W₂).drew)) (X2.out.below ((Below.refl _ W₂).drew)).rd (by omega) HWF.out.1 HWF.out.2))).mono ?_; rintro e6 W6 ⟨u6, rfl, hown6, hb6⟩; obtain ⟨A6, c6, rfl, hc61, hc62⟩ := (Row.rd hown6).shape; have b26 : Below W₂.heap.size W₂ W6 := ((Below.refl _ W₂).drew).trans hb6; have o6 := (HO2.out.below b26).cell 0 rfl) | (refine ⟨trivial, ?_⟩; gi_at_call 23; refine (CallsIn.inRound l₁ (callsIn_wide.2 (equal_any (Row.rd hown6) (Rd.below U2.out b26)))).mono ?_; rintro e7 W7 ⟨rfl, hb7⟩; rw [HDE.out]))
      all_goals have b27 : Below W₂.heap.size W₂ W7 := b26.trans (hb7.mono b26.size)
      all_goals have E7 := HE2.out.below b27
      all_goals have e70 := E7.cell 0 rfl
      all_goals have e71 := E7.cell 1 rfl
      all_goals have e72 := E7.cell 2 rfl
      all_goals have e73 := E7.cell 3 rfl
      all_goals have A7 := HA2.out.below b27
      all_goals have a70 := A7.free 0
      all_goals have a71 := A7.free 1
      all_goals have a72 := A7.free 2
      all_goals have a73 := A7.free 3
      all_goals have a74 := A7.cell 0 rfl
      all_goals have a75 := A7.cell 1 rfl
      all_goals have a76 := A7.cell 2 rfl
      all_goals have a77 := A7.cell 3 rfl
      all_goals have B7 := HB2.out.below b27
      all_goals have b70 := B7.free 0
      all_goals have b74 := B7.cell 0 rfl
      all_goals have HB27 := Lib.hid b27
      all_goals have HA7 := Lib.hid A7
      all_goals have HB7 := Lib.hid B7
      all_goals clear b27 A7 B7 E7
      all_goals gi_wp2
      all_goals refine ⟨⟨rfl, HK32.out.trans ((Kept.of_below HB27.out (fun k => k = w.heap.size + 1 + 1 ∨ k = w.heap.size + 1 + 1 + 1)).trans (set5_kept _ _ _ _ _) (fun _ _ h => h)) (fun _ _ h => h), (HB7.out.keep (set4_kept _ _ _ _) (by omega)).set 0 _, x, _, _, _, _, HXM.out, of_decide_eq_true HDE.out, ((((HA7.out.set 0 _).set 1 _).set 2 _).set 3 _).keep (set1_kept _) (by omega), (((X2.out.below HB27.out).keep (set5_kept _ _ _ _ _) (fun g hg h => by rcases h with h | h <;> omega)).mono (by omega))⟩, (Kept.of_below HB27.out _).trans (set5_kept _ _ _ _ _) (fun _ _ h => h)⟩
end Go.Proofs.YtkddckfgdiemkaaGreat
