/- FnExactEngineNew: for every input that can be read the law returns true and leaves the input as it was. No condition. -/
import Derived.Test.YtkigfigdoaoboaaRows
import Derived.Test.YtkigfigdoaoboaaB21
import Derived.Test.YtkigfigdoaoboaaA8
import Derived.Test.YtkigfigdoaoboaaA9
import Derived.WalkKit
import Derived.ProofKit
import Derived.OpenShut
import Derived.ShutString
import Derived.ChangeOld
import Derived.Below
import Derived.SizedLaws
import Derived.RowKit
import Derived.RowKit3
import Derived.KernelRfl
namespace Go.Proofs.Ytkigfigdoaoboaa.fnExactEngineNew
open Go.ChangeShapes Go.WideShapes Go.ChangeAt Go.RowKit Go.Proofs.Ytkigfigdoaoboaa.IM
set_option linter.unusedVariables false
theorem own : ownKnob Try.prog.godebug = none := by kernel_rfl
theorem laidOut : laidOutB Try.prog = true := by kernel_rfl
set_option maxRecDepth 100000 in
theorem lifted (os : Os) (started : os.Started) (H : Type) (enc : TypeId × Value → H) :
    ReturnsInHanded {} Try.checked os 12 .any (Rows.fnExactEngineNewSpec.pre6 enc Try.prog Try.f12 Rows.fnExactEngineNewRow.domain false) (Rows.fnExactEngineNewSpec.post enc Try.prog Try.f12 false true false false) := by
  refine returnsInHanded_of_change_sized (C := Try.checked) own started (by kernel_rfl) Try.func12
    (ChangeSpec.witness6 (enc := enc) (C := Try.checked) false ⟨#[], #[], []⟩ 12 (by kernel_rfl) (by kernel_rfl) (by kernel_rfl) (by kernel_rfl)) ?_
  intro W base args ds gs before hval0 hW hcnd hsz0 _
  have hsz : (DataW.weightsEach Try.prog (Try.f12.params.toList ++ Rows.fnExactEngineNewSpec.plain.varTypes Try.prog) (ds ++ gs)).all (· ≤ reachBytes) = true := hsz0
  have hval : ∀ (j : Nat) t v, Try.f12.params[j]? = some t → args[j]? = some v → Value.okWide Try.prog W .any base t v := hval0
  have hW' := hW
  obtain ⟨p, q, hA0, hV, rfl, hfz, hnd⟩ := hW
  have hA : DataW.TrodAll enc Try.prog W 0 (fun _ => true) true Try.f12.params.toList args.toList ds p := hA0
  rw [Try.params12] at hA hval hsz
  obtain ⟨hnil, rfl, rfl⟩ := trodAll_nil hA
  obtain rfl : args = #[] := by cases args; simp_all
  obtain ⟨rfl, rfl⟩ := trodVars_none hV
  have hlaw : PCall Try.prog 12 [] fun _ _ r => r = .lit (.bool true) := (IM.lawEngineNew   )
  refine (law_calls hlaw rfl fun i d hi => ?_).mono fun e W' ⟨he, bel⟩ => ?_
  · exact absurd hi (by simp)
  subst he
  exact ⟨_, rfl, _, _, _, [], _, [], hW', trodAll_mk1 (shut_bool Try.underlying4 _), trodAll_mk0, rfl, bel.frame _, fun h => by cases h⟩
theorem closed : (restFacts Try.checked.prog 12 Try.f12 Rows.fnExactEngineNewSpec Rows.fnExactEngineNewRow).1 = true := by kernel_rfl
theorem over : Rows.fnExactEngineNewRow.holds Try.pinned (OpenSpec.ofChange Rows.fnExactEngineNewSpec) :=
  OpenClaim.holds_of_wide 12 Try.f12 rfl rfl rfl rfl rfl rfl rfl ⟨rfl, rfl, rfl, rfl, rfl⟩ rfl rfl rfl rfl rfl (by kernel_rfl) Try.func12 (joined_of (P := Try.checked.prog) _ head_cut head_ll head_lr head_ld (by kernel_rfl) (by kernel_rfl) closed)
    (of_decide_eq_true (by kernel_rfl)) (by unfold Func.isWrapper; first | (rw [if_pos (by decide +kernel)]; kernel_rfl) | (rw [if_neg (by decide +kernel)]; exact ⟨rfl, rfl⟩))
    (fun os started H enc _ => lifted os started H enc)
theorem proved : Rows.FnExactEngineNewSaid := over
end Go.Proofs.Ytkigfigdoaoboaa.fnExactEngineNew
namespace Go.Proofs.Ytkigfigdoaoboaa
/-- The row, under a short name, for the claim. -/
theorem fnExactEngineNew_holds : Rows.FnExactEngineNewSaid := fnExactEngineNew.proved
end Go.Proofs.Ytkigfigdoaoboaa
