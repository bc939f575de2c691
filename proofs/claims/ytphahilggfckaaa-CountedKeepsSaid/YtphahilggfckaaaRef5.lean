/-
  The document's manager, of the kind that counts: the walks of Retire, of the laws' helper told.
-/
import Derived.Test.YtphahilggfckaaaRef4
import Derived.Deep.RegionLaw
import Derived.Deep.RegionHeld3
import Derived.Deep.CutRange
set_option linter.unusedVariables false
set_option linter.unusedSimpArgs false
namespace Go.Proofs.Ytphahilggfckaaa
open Go.RowKit Mem Qm
set_option maxRecDepth 100000

section
variable {w : World} {B g : Nat} {mv : Value} {q : Q} {bl : List Bool} {its : List It}
theorem ritem_step {w2 w3 : World} {v3 : Value} {x : It} {o : Obj} (h : IsM w2 B g mv q bl its) (hr : Row w3 B 78 8 v3 (its ++ [x]).length (flatI (its ++ [x]))) (hk : Kept (w2.drew.alloc o) w3 (fun k => mv.ownBlock = some k))
    (hm : ∀ k, v3.ownBlock = some k → mv.ownBlock = some k ∨ (w2.drew.alloc o).heap.size ≤ k) :
    IsM (w3.setCell ⟨g, 28, none⟩ v3) B g v3 (q.add x.1) bl (its ++ [x]) ∧ Kept w2 (w3.setCell ⟨g, 28, none⟩ v3) (footM g mv) ∧ Moved w2 mv v3 := by
  have bA : Below w2.drew.heap.size w2.drew (w2.drew.alloc o) := (Below.refl _ _).alloc (Nat.le_refl _) _
  have hA : IsM (w2.drew.alloc o) B g mv q bl its := h.drew.below bA
  have hb : Blk w3 g 37 _ := Blk.keep hA.blk hk (fun e => hA.ne e)
  have kk : Kept w3 (w3.setCell ⟨g, 28, none⟩ v3) (fun i => i = g) := (Kept.refl w3 (fun i => i = g)).setCell (p := ⟨g, 28, none⟩) (.inl rfl) _
  refine ⟨⟨h.lo, ?_, Row.keep hr kk (fun i hi e => Row.ne_blk hr hb (by decide) (e ▸ hi)), h.h12, h.b4, ?_, h.n1, h.n4, h.len⟩, ?_, fun k hk' => ?_⟩
  · have := Blk.set hb 28 v3
    rw [m_set_items h.h12 h.b4] at this
    exact this
  · simp only [adI, List.map_append, List.map_cons, List.map_nil, Q.add]
    have := h.eqw
    simp only [adI] at this
    rw [this]
  · have k1 : Kept w2 (w2.drew.alloc o) (footM g mv) := (Kept.refl w2 _).drew.alloc o
    exact (k1.trans hk (fun i _ hi => .inr hi)).trans kk (fun i _ e => .inl e)
  · rcases hm k hk' with e | e
    · exact .inl e
    · refine .inr ?_
      simp at e
      omega
def BoxI (w : World) (x : It) (s : Value) (wx : World) : Prop := s = .pointer (some ⟨w.heap.size, 0, none⟩) ∧ Blk wx w.heap.size 78 (iCells x) ∧ Below w.heap.size w wx
theorem boxI_new (w : World) (x : It) : BoxI w x (.pointer (some ⟨w.heap.size, 0, none⟩)) (w.alloc (.cells (iCells x).toArray 78)).drew := by
  have h : Blk (w.alloc (.cells (iCells x).toArray 78)) w.heap.size 78 (iCells x) := Blk.new w 78 (iCells x)
  exact ⟨rfl, h, ((Below.refl _ _).alloc (Nat.le_refl _) _).drew⟩
set_option maxHeartbeats 2000000 in
theorem rretire_any (h : IsM w B g mv q bl its) (hv : NN q) (hBw : B ≤ w.heap.size) (hl : its.length < 900000) (t a : Int) :
    Calls Try.prog 39 #[.pointer (some ⟨g, 0, none⟩), .int .i64 t, .int .i64 a] w (DidM w B g mv (retQ q t a)) := by
  by_cases ht : q.ok t ∧ 0 < a
  · have HT := Lib.hid ht.1
    have ha := ht.2
    have HQ := Lib.hid (show retQ q t a = if hasB q.ws a = true then (q, [], 6) else ((q.add a).loose, backs (q.add a) (q.add a).ws, 0) from if_pos ht)
    have H := Lib.hid h
    have HV := Lib.hid hv
    clear ht h hv
    cases hw : hasB q.ws a with
    | true =>
      rw [hw, if_pos rfl] at HQ
      have HW := Lib.hid hw
      clear hw
      go_enter Try.func39, Try.ntmps39
      go_wp2_with fail
      refine (thread_yes H.out _ HT.out).mono ?_
      rintro e w1 ⟨rfl, rfl⟩
      go_wp2_with fail
      refine (rwaits_any H.out (by omega) a).mono ?_
      rintro e w1 ⟨rfl, rfl⟩
      rw [HW.out]
      go_wp2
      go_ret2
      rw [HQ.out]
      exact DidM.same H.out rfl (Below.refl _ _)
    | false =>
      rw [hw, if_neg (by decide)] at HQ
      have HW := Lib.hid hw
      clear hw
      go_enter Try.func39, Try.ntmps39
      go_wp2_with fail
      refine (thread_yes H.out _ HT.out).mono ?_
      rintro e w1 ⟨rfl, rfl⟩
      go_wp2_with fail
      refine (rwaits_any H.out (by omega) a).mono ?_
      rintro e w1 ⟨rfl, rfl⟩
      rw [HW.out]
      have c3 := H.out.blk.cell 3 rfl
      have HZ := Lib.hid (show IsM ((w.alloc (.cells #[.int .i64 0, .int .i64 0, .int .i64 0, .int .i64 0, .bool false, .bool false, .bool false, .bool false] 78)).drew) B g mv q bl its from (H.out.below ((Below.refl _ _).alloc (Nat.le_refl _) _)).drew)
      have hgl := H.out.blk.lt
      have hne : g ≠ w.heap.size := by omega
      go_upto_region 5 with fail
      go_cut [8] from 22 to 31 (fun s8 wx => BoxI w (a, t) s8 wx)
      case first =>
        go_region_held3 (fun w' => w'.cell? ⟨g, 3, none⟩ = some (.int .i64 0))
          (go_keep)
          (first | (go_at_call 51; (first | refine (rbirth_any H.out.drew _).mono ?_ | refine (rbirth_any HZ.out _).mono ?_); rintro e w' ⟨rfl, rfl⟩))
        all_goals
          go_wp2_with fail
          go_meet
          case rel => exact boxI_new w (a, t)
      case rest =>
      obtain ⟨rfl, hX, hB⟩ := hcut
      obtain ⟨A, c, rfl, hc1, hc2⟩ := Row.shape H.out.row
      have hc3 : c ≤ 9223372036854775807 := by simpa [maxLen] using hc2
      have H1 := Lib.hid (H.out.below hB)
      have HX := Lib.hid hX
      have HB := Lib.hid hB
      have hsz := hB.size
      have c1 := H1.out.blk.cell 1 rfl
      have c28 := H1.out.blk.cell 28 (m_items H1.out.h12 H1.out.b4)
      have x0 := hX.cell 0 rfl
      have x1 := hX.cell 1 rfl
      have x2 := hX.cell 2 rfl
      have x3 := hX.cell 3 rfl
      have x4 := hX.cell 4 rfl
      have x5 := hX.cell 5 rfl
      have x6 := hX.cell 6 rfl
      have x7 := hX.cell 7 rfl
      have hg1 := H1.out.blk.lt
      clear hc2 hX hB c3 hgl hne
      go_wp2_with fail
      go_region_law (refine step_app rfl (.tmp 46) (.tmp 48) rfl Try.underlying34 info78 rfl (by decide) (by decide) B (.slice A its.length c) _ _ wc.heap.size (iCells (a, t)) (by simp [Act.eval, Act.put]) (by exact World.ownsRow.alloc (w := wc.drew) H1.out.row _) (by simp [Act.eval, Act.put]) (by exact Blk.new wc.drew 78 _) rfl (iCells_one _) (by simp; omega) (by omega) ?_; intro v3 w3 hr3 hk3 hm3; have e4 := Blk.cell (Blk.keep (Blk.alloc (w := wc.drew) H1.out.blk _) hk3 (fun e => H1.out.ne e)) 28 (m_items H1.out.h12 H1.out.b4); have g4 := Blk.free (Blk.keep (Blk.alloc (w := wc.drew) H1.out.blk _) hk3 (fun e => H1.out.ne e)) 28; obtain ⟨A3, cc3, rfl, _, _⟩ := Row.shape hr3)
      all_goals
        have hr4 : Row w3 B 78 8 (.slice A3 (its.length + 1) cc3) (its ++ [((a, t) : It)]).length (flatI (its ++ [((a, t) : It)])) := by rw [flatI_app]; simpa [flatI] using hr3
        obtain ⟨i4, k4, m4⟩ := ritem_step H1.out hr4 hk3 hm3
        have I4 := Lib.hid i4
        have K4 := Lib.hid ((Kept.of_below HB.out (footM g (.slice A its.length c))).trans k4 (fun _ _ h => h))
        have M4 := Lib.hid (show Moved w (.slice A its.length c) (.slice A3 (its.length + 1) cc3) from fun i hi => (m4 i hi).imp id (fun h => Nat.le_trans hsz h))
        have s5 := K4.out.size
        have c1' := I4.out.blk.cell 1 rfl
        clear hr3 hk3 hm3 hr4 i4 k4 m4 x0 x1 x2 x3 x4 x5 x6 x7 c28 e4 g4 c1
        go_wp2_with fail
        refine ((rsweep_any I4.out HV.out (by omega) (by simp; omega)).mono fun _ _ hs => hs.after K4.out M4.out).mono ?_
        rintro e w5 ⟨u, mv', bl', its', rfl, h1', h2, h3, h4'⟩
        have HH := Lib.hid (show Own w5 w.heap.size u _ ∧ IsM w5 B g mv' _ bl' its' ∧ Kept w w5 (footM g (.slice A its.length c)) ∧ Moved w (.slice A its.length c) mv' from ⟨h1', h2, h3, h4'⟩)
        clear h1' h2 h3 h4'
        go_wp2
        go_ret2
        rw [HQ.out]
        exact ⟨u, mv', bl', its', rfl, HH.out⟩
  · have HQ := Lib.hid (show retQ q t a = (q, [], 1) from if_neg ht)
    have H := Lib.hid h
    by_cases hk : q.ok t
    · have ha : ¬ 0 < a := fun h => ht ⟨hk, h⟩
      have Ht := Lib.hid hk
      clear ht hk h
      go_enter Try.func39, Try.ntmps39
      go_wp2_with (go_at_call 47; refine (thread_yes H.out _ Ht.out).mono ?_; rintro e w' ⟨rfl, rfl⟩)
      go_ret2
      rw [HQ.out]
      exact DidM.same H.out rfl (Below.refl _ _)
    · have Ht := Lib.hid hk
      clear ht hk h
      go_enter Try.func39, Try.ntmps39
      go_wp2_with (go_at_call 47; refine (thread_no H.out _ Ht.out).mono ?_; rintro e w' ⟨rfl, rfl⟩)
      go_ret2
      rw [HQ.out]
      exact DidM.same H.out rfl (Below.refl _ _)
end
end Go.Proofs.Ytphahilggfckaaa
