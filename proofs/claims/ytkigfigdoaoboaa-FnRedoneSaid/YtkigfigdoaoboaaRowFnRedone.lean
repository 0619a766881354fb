/- FnRedone: for every input that can be read the law returns true and leaves the input as it was. No condition. -/
import Derived.Test.YtkigfigdoaoboaaRows
import Derived.Test.YtkigfigdoaoboaaB33
import Derived.Test.YtkigfigdoaoboaaA8
import Derived.Test.YtkigfigdoaoboaaA9
import Derived.WalkKit
import Derived.ProofKit
import Derived.OpenShut
import Derived.ShutString
import Derived.ChangeOld
import Derived.Below
import Derived.SizedLaws
import Derived.RowKit
import Derived.RowKit3
import Derived.KernelRfl
namespace Go.Proofs.Ytkigfigdoaoboaa.fnRedone
open Go.ChangeShapes Go.WideShapes Go.ChangeAt Go.RowKit Go.Proofs.Ytkigfigdoaoboaa.IM
set_option linter.unusedVariables false
theorem own : ownKnob Try.prog.godebug = none := by kernel_rfl
theorem laidOut : laidOutB Try.prog = true := by kernel_rfl
set_option maxRecDepth 100000 in
theorem lifted (os : Os) (started : os.Started) (H : Type) (enc : TypeId × Value → H) :
    ReturnsInHanded {} Try.checked os 9 .any (Rows.fnRedoneSpec.pre6 enc Try.prog Try.f9 Rows.fnRedoneRow.domain false) (Rows.fnRedoneSpec.post enc Try.prog Try.f9 false true false false) := by
  refine returnsInHanded_of_change_sized (C := Try.checked) own started (by kernel_rfl) Try.func9
    (ChangeSpec.witness6 (enc := enc) (C := Try.checked) false ⟨#[], #[.slice none 0 0], []⟩ 12 (by kernel_rfl) (by kernel_rfl) (by kernel_rfl) (by kernel_rfl)) ?_
  intro W base args ds gs before hval0 hW hcnd hsz0 _
  have hsz : (DataW.weightsEach Try.prog (Try.f9.params.toList ++ Rows.fnRedoneSpec.plain.varTypes Try.prog) (ds ++ gs)).all (· ≤ reachBytes) = true := hsz0
  have hval : ∀ (j : Nat) t v, Try.f9.params[j]? = some t → args[j]? = some v → Value.okWide Try.prog W .any base t v := hval0
  have hW' := hW
  obtain ⟨p, q, hA0, hV, rfl, hfz, hnd⟩ := hW
  have hA : DataW.TrodAll enc Try.prog W 0 (fun _ => true) true Try.f9.params.toList args.toList ds p := hA0
  rw [Try.params9] at hA hval hsz
  obtain ⟨v0, vs0, d0, ds0, p0, q0, hargs, rfl, rfl, h0, r0⟩ := trodAll_cons hA
  obtain ⟨rfl, rfl, rfl⟩ := trodAll_nil r0
  obtain rfl : args = #[v0] := by cases args; simp_all
  obtain ⟨rfl, rfl⟩ := trodVars_none hV
  have hv0 := hval 0 22 v0 rfl rfl
  have k0 := h0
  have lt0 : ∀ x ∈ p0, x.block < W.heap.size := by obtain ⟨m, hm⟩ := k0; exact DataW.trod_lt m _ _ _ hm
  obtain ⟨m0, hm0⟩ := h0
  have hw0 : ∀ n ∈ d0.weights Try.prog 22, n ≤ reachBytes := fun n hn => by
    have := List.all_eq_true.1 hsz n (DataW.weights_mem_each (j := 0) (t := 22) (d := d0) rfl rfl n hn)
    simpa using this
  obtain ⟨e0, a0, rep0, s0⟩ := opens_22 W m0 _ _ hm0 hw0
  obtain ⟨ad0, len0, cap0, rfl⟩ := okWide_slice Try.underlying22 hv0
  have vr0 : VRep (oenv W) e0 (.slice ad0 len0 cap0) := vrep_of_rep rep0 (.inr ⟨s0.isNode, rfl⟩)
  have hlaw : PCall Try.prog 9 [e0] fun _ _ r => r = .lit (.bool true) := (IM.lawRedone e0 a0 s0)
  refine (law_calls hlaw rfl fun i d hi => ?_).mono fun e W' ⟨he, bel⟩ => ?_
  · match i, hi with
    | 0, hi => obtain rfl := Option.some.inj hi; exact vr0
  subst he
  exact ⟨_, rfl, _, _, _, [], _, [], hW', trodAll_mk1 (shut_bool Try.underlying4 _), (trodAll_cons_mk (Below.trod laidOut (by kernel_rfl) (of_decide_eq_true (by kernel_rfl)) k0 bel lt0) trodAll_mk0), rfl, bel.frame _, fun h => by cases h⟩
theorem closed : (restFacts Try.checked.prog 9 Try.f9 Rows.fnRedoneSpec Rows.fnRedoneRow).1 = true := by kernel_rfl
theorem over : Rows.fnRedoneRow.holds Try.pinned (OpenSpec.ofChange Rows.fnRedoneSpec) :=
  OpenClaim.holds_of_wide 9 Try.f9 rfl rfl rfl rfl rfl rfl rfl ⟨rfl, rfl, rfl, rfl, rfl⟩ rfl rfl rfl rfl rfl (by kernel_rfl) Try.func9 (joined_of (P := Try.checked.prog) _ head_cut head_ll head_lr head_ld (by kernel_rfl) (by kernel_rfl) closed)
    (of_decide_eq_true (by kernel_rfl)) (by unfold Func.isWrapper; first | (rw [if_pos (by decide +kernel)]; kernel_rfl) | (rw [if_neg (by decide +kernel)]; exact ⟨rfl, rfl⟩))
    (fun os started H enc _ => lifted os started H enc)
theorem proved : Rows.FnRedoneSaid := over
end Go.Proofs.Ytkigfigdoaoboaa.fnRedone
namespace Go.Proofs.Ytkigfigdoaoboaa
/-- The row, under a short name, for the claim. -/
theorem fnRedone_holds : Rows.FnRedoneSaid := fnRedone.proved
end Go.Proofs.Ytkigfigdoaoboaa
