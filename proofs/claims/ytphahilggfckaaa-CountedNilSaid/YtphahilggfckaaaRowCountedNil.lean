/-
  What a nil manager, and a zero one, tells. Condition: none beside the row's own (every input that can be read).
-/
import Derived.Test.YtphahilggfckaaaRows
import Derived.Test.YtphahilggfckaaaNil
import Derived.Test.YtphahilggfckaaaOpen
import Derived.WalkKit
import Derived.ProofKit
import Derived.OpenShut
import Derived.ShutString
import Derived.ChangeOld
import Derived.Below
import Derived.SizedLaws
import Derived.Lib.SmallJoins
set_option linter.unusedVariables false
set_option linter.unusedSimpArgs false
namespace Go.Proofs.Ytphahilggfckaaa.countedNil
open Go.ChangeShapes Go.WideShapes Go.ChangeAt Go.RowKit Go.Proofs.Ytphahilggfckaaa.Mem Go.Proofs.Ytphahilggfckaaa.Qm
theorem own : ownKnob Try.prog.godebug = none := by kernel_rfl
theorem laidOut : laidOutB Try.prog = true := by kernel_rfl
set_option maxRecDepth 100000 in
theorem lifted (os : Os) (started : os.Started) (H : Type) (enc : TypeId × Value → H) :
    ReturnsInHanded {} Try.checked os 10 .any (Rows.countedNilSpec.pre6 enc Try.prog Try.f10 Rows.countedNilRow.domain false) (Rows.countedNilSpec.post enc Try.prog Try.f10 false true false false) := by
  refine returnsInHanded_of_change_sized (C := Try.checked) own started (by kernel_rfl) Try.func10
    (ChangeSpec.witness6 (enc := enc) (C := Try.checked) false ⟨#[], #[.agg #[.int .i64 0, .int .i64 0, .int .i64 0, .int .i64 0]], []⟩ 8 (by kernel_rfl) (by kernel_rfl) (by kernel_rfl) (by kernel_rfl)) ?_
  intro W base args ds gs before hval0 hW hcnd hsz0 _
  have hval : ∀ (j : Nat) t v, Try.f10.params[j]? = some t → args[j]? = some v → Value.okWide Try.prog W .any base t v := hval0
  have hW' := hW
  obtain ⟨p, q, hA0, hV, rfl, hfz, hnd⟩ := hW
  have hA : DataW.TrodAll enc Try.prog W 0 (fun _ => true) true Try.f10.params.toList args.toList ds p := hA0
  rw [Try.params10] at hA hval
  obtain ⟨v0, vs0, d0, ds0, p0, q0, hargs, rfl, rfl, h0, r0⟩ := trodAll_cons hA
  obtain ⟨rfl, rfl, rfl⟩ := trodAll_nil r0
  obtain rfl : args = #[v0] := by cases args; simp_all
  obtain ⟨rfl, rfl⟩ := trodVars_none hV
  have k0 := h0
  have lt0 : ∀ x ∈ p0, x.block < W.heap.size := by obtain ⟨m, hm⟩ := k0; exact DataW.trod_lt m _ _ _ hm
  obtain ⟨c0, c1, c2, c3, e0, e1, e2, e3, m, rfl, hd2, _, hy0, hy1, hy2, hy3⟩ := Go.Joins.open_agg4 Try.underlying41 (by kernel_rfl) (show Try.prog.cellsOf 41 = 4 by kernel_rfl) (hval 0 41 v0 rfl rfl) h0
  obtain ⟨x0_0, q0_0, _, _⟩ := DataW.trod_int Try.underlying3 hy0
  obtain ⟨x0_1, q0_1, _, _⟩ := DataW.trod_int Try.underlying3 hy1
  obtain ⟨x0_2, q0_2, _, _⟩ := DataW.trod_int Try.underlying3 hy2
  obtain ⟨x0_3, q0_3, _, _⟩ := DataW.trod_int Try.underlying3 hy3
  simp only [List.cons.injEq, and_true] at q0_0 q0_1 q0_2 q0_3
  subst q0_0 q0_1 q0_2 q0_3
  clear hA0 hval0 hsz0
  refine (nil_walk (d := ⟨x0_0, x0_1, x0_2, x0_3⟩)).mono fun e W' ⟨he, bel⟩ => ?_
  subst he
  exact ⟨_, rfl, _, _, _, [], _, [], hW', trodAll_mk1 (shut_bool Try.underlying4 _), (trodAll_cons_mk (Below.trod laidOut (by kernel_rfl) (of_decide_eq_true (by kernel_rfl)) k0 bel lt0) trodAll_mk0), rfl, bel.frame _, fun h => by cases h⟩
theorem over : Rows.countedNilRow.holds Try.pinned (OpenSpec.ofChange Rows.countedNilSpec) :=
  OpenClaim.holds_of_wide 10 Try.f10 rfl rfl rfl rfl rfl rfl rfl ⟨rfl, rfl, rfl, rfl, rfl⟩ rfl rfl rfl rfl rfl (by kernel_rfl) Try.func10 (by kernel_rfl)
    (of_decide_eq_true (by kernel_rfl)) (by unfold Func.isWrapper; first | (rw [if_pos (by decide +kernel)]; kernel_rfl) | (rw [if_neg (by decide +kernel)]; exact ⟨rfl, rfl⟩))
    (fun os started H enc _ => lifted os started H enc)
theorem proved : Rows.CountedNilSaid := over
end Go.Proofs.Ytphahilggfckaaa.countedNil
namespace Go.Proofs.Ytphahilggfckaaa
/-- The row, under a short name, for the claim. -/
theorem countedNil_holds : Rows.CountedNilSaid := countedNil.proved
#print axioms countedNil_holds
end Go.Proofs.Ytphahilggfckaaa
