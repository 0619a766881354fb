/- FnExactBring: for every input that can be read the law returns true and leaves the input as it was. No condition. -/
import Derived.Test.YtkigfigdoaoboaaRows
import Derived.Test.YtkigfigdoaoboaaB20
import Derived.Test.YtkigfigdoaoboaaA8
import Derived.Test.YtkigfigdoaoboaaA9
import Derived.WalkKit
import Derived.ProofKit
import Derived.OpenShut
import Derived.ShutString
import Derived.ChangeOld
import Derived.Below
import Derived.SizedLaws
import Derived.RowKit
import Derived.RowKit3
import Derived.KernelRfl
namespace Go.Proofs.Ytkigfigdoaoboaa.fnExactBring
open Go.ChangeShapes Go.WideShapes Go.ChangeAt Go.RowKit Go.Proofs.Ytkigfigdoaoboaa.IM
set_option linter.unusedVariables false
theorem own : ownKnob Try.prog.godebug = none := by kernel_rfl
theorem laidOut : laidOutB Try.prog = true := by kernel_rfl
set_option maxRecDepth 100000 in
theorem lifted (os : Os) (started : os.Started) (H : Type) (enc : TypeId × Value → H) :
    ReturnsInHanded {} Try.checked os 13 .any (Rows.fnExactBringSpec.pre6 enc Try.prog Try.f13 Rows.fnExactBringRow.domain false) (Rows.fnExactBringSpec.post enc Try.prog Try.f13 false true false false) := by
  refine returnsInHanded_of_change_sized (C := Try.checked) own started (by kernel_rfl) Try.func13
    (ChangeSpec.witness6 (enc := enc) (C := Try.checked) false ⟨#[], #[.agg #[.slice none 0 0, .int .i64 0], .int .i64 0, .agg #[.int .i64 0, .bool false, .int .i64 0, .slice none 0 0, .slice none 0 0, .bool false, .int .i64 0, .slice none 0 0, .slice none 0 0, .bool false, .int .i64 0, .slice none 0 0, .slice none 0 0, .bool false, .int .i64 0, .slice none 0 0, .slice none 0 0]], []⟩ 12 (by kernel_rfl) (by kernel_rfl) (by kernel_rfl) (by kernel_rfl)) ?_
  intro W base args ds gs before hval0 hW hcnd hsz0 _
  have hsz : (DataW.weightsEach Try.prog (Try.f13.params.toList ++ Rows.fnExactBringSpec.plain.varTypes Try.prog) (ds ++ gs)).all (· ≤ reachBytes) = true := hsz0
  have hval : ∀ (j : Nat) t v, Try.f13.params[j]? = some t → args[j]? = some v → Value.okWide Try.prog W .any base t v := hval0
  have hW' := hW
  obtain ⟨p, q, hA0, hV, rfl, hfz, hnd⟩ := hW
  have hA : DataW.TrodAll enc Try.prog W 0 (fun _ => true) true Try.f13.params.toList args.toList ds p := hA0
  rw [Try.params13] at hA hval hsz
  obtain ⟨v0, vs0, d0, ds0, p0, q0, hargs, rfl, rfl, h0, r0⟩ := trodAll_cons hA
  obtain ⟨v1, vs1, d1, ds1, p1, q1, rfl, rfl, rfl, h1, r1⟩ := trodAll_cons r0
  obtain ⟨v2, vs2, d2, ds2, p2, q2, rfl, rfl, rfl, h2, r2⟩ := trodAll_cons r1
  obtain ⟨rfl, rfl, rfl⟩ := trodAll_nil r2
  obtain rfl : args = #[v0, v1, v2] := by cases args; simp_all
  obtain ⟨rfl, rfl⟩ := trodVars_none hV
  have hv0 := hval 0 113 v0 rfl rfl
  have k0 := h0
  have lt0 : ∀ x ∈ p0, x.block < W.heap.size := by obtain ⟨m, hm⟩ := k0; exact DataW.trod_lt m _ _ _ hm
  obtain ⟨m0, hm0⟩ := h0
  have hw0 : ∀ n ∈ d0.weights Try.prog 113, n ≤ reachBytes := fun n hn => by
    have := List.all_eq_true.1 hsz n (DataW.weights_mem_each (j := 0) (t := 113) (d := d0) rfl rfl n hn)
    simpa using this
  have hv1 := hval 1 3 v1 rfl rfl
  have k1 := h1
  have lt1 : ∀ x ∈ p1, x.block < W.heap.size := by obtain ⟨m, hm⟩ := k1; exact DataW.trod_lt m _ _ _ hm
  obtain ⟨m1, hm1⟩ := h1
  have hw1 : ∀ n ∈ d1.weights Try.prog 3, n ≤ reachBytes := fun n hn => by
    have := List.all_eq_true.1 hsz n (DataW.weights_mem_each (j := 1) (t := 3) (d := d1) rfl rfl n hn)
    simpa using this
  have hv2 := hval 2 93 v2 rfl rfl
  have k2 := h2
  have lt2 : ∀ x ∈ p2, x.block < W.heap.size := by obtain ⟨m, hm⟩ := k2; exact DataW.trod_lt m _ _ _ hm
  obtain ⟨m2, hm2⟩ := h2
  have hw2 : ∀ n ∈ d2.weights Try.prog 93, n ≤ reachBytes := fun n hn => by
    have := List.all_eq_true.1 hsz n (DataW.weights_mem_each (j := 2) (t := 93) (d := d2) rfl rfl n hn)
    simpa using this
  obtain ⟨e0, a0, rep0, s0⟩ := opens_113 W m0 _ _ hm0 hw0
  obtain ⟨cs0, rfl⟩ := okWide_agg is_113 hv0
  have vr0 : VRep (oenv W) e0 (.agg cs0) := vrep_of_rep rep0 (.inl ⟨(shp_pool _ _ s0).2.1, cs0, rfl⟩)
  obtain ⟨n1, rfl, _, _, _⟩ := open_int Try.underlying3 hv1 k1
  have vr1 : VRep (oenv W) (.lit (.int .i64 n1)) (.int .i64 n1) := ⟨trivial, rfl⟩
  obtain ⟨e2, a2, rep2, s2⟩ := opens_93 W m2 _ _ hm2 hw2
  obtain ⟨cs2, rfl⟩ := okWide_agg is_93 hv2
  have vr2 : VRep (oenv W) e2 (.agg cs2) := vrep_of_rep rep2 (.inl ⟨(shp_page _ _ s2).2.1, cs2, rfl⟩)
  have hlaw : PCall Try.prog 13 [e0, (.lit (.int .i64 n1)), e2] fun _ _ r => r = .lit (.bool true) := (IM.lawBring e0 e2 a0 n1 a2 s0 s2)
  refine (law_calls hlaw rfl fun i d hi => ?_).mono fun e W' ⟨he, bel⟩ => ?_
  · match i, hi with
    | 0, hi => obtain rfl := Option.some.inj hi; exact vr0
    | 1, hi => obtain rfl := Option.some.inj hi; exact vr1
    | 2, hi => obtain rfl := Option.some.inj hi; exact vr2
  subst he
  exact ⟨_, rfl, _, _, _, [], _, [], hW', trodAll_mk1 (shut_bool Try.underlying4 _), (trodAll_cons_mk (Below.trod laidOut (by kernel_rfl) (of_decide_eq_true (by kernel_rfl)) k0 bel lt0) (trodAll_cons_mk (Below.trod laidOut (by kernel_rfl) (of_decide_eq_true (by kernel_rfl)) k1 bel lt1) (trodAll_cons_mk (Below.trod laidOut (by kernel_rfl) (of_decide_eq_true (by kernel_rfl)) k2 bel lt2) trodAll_mk0))), rfl, bel.frame _, fun h => by cases h⟩
theorem closed : (restFacts Try.checked.prog 13 Try.f13 Rows.fnExactBringSpec Rows.fnExactBringRow).1 = true := by kernel_rfl
theorem over : Rows.fnExactBringRow.holds Try.pinned (OpenSpec.ofChange Rows.fnExactBringSpec) :=
  OpenClaim.holds_of_wide 13 Try.f13 rfl rfl rfl rfl rfl rfl rfl ⟨rfl, rfl, rfl, rfl, rfl⟩ rfl rfl rfl rfl rfl (by kernel_rfl) Try.func13 (joined_of (P := Try.checked.prog) _ head_cut head_ll head_lr head_ld (by kernel_rfl) (by kernel_rfl) closed)
    (of_decide_eq_true (by kernel_rfl)) (by unfold Func.isWrapper; first | (rw [if_pos (by decide +kernel)]; kernel_rfl) | (rw [if_neg (by decide +kernel)]; exact ⟨rfl, rfl⟩))
    (fun os started H enc _ => lifted os started H enc)
theorem proved : Rows.FnExactBringSaid := over
end Go.Proofs.Ytkigfigdoaoboaa.fnExactBring
namespace Go.Proofs.Ytkigfigdoaoboaa
/-- The row, under a short name, for the claim. -/
theorem fnExactBring_holds : Rows.FnExactBringSaid := fnExactBring.proved
end Go.Proofs.Ytkigfigdoaoboaa
