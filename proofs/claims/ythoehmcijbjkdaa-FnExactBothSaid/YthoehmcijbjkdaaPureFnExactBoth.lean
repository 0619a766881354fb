/- The pure side of FnExactBoth: for all two 64-bit numbers the law answers true. No condition. -/
import Derived.Test.YthoehmcijbjkdaaPFnExactBothx1
namespace Go.Proofs.Ythoehmcijbjkdaa.Pure
open Go.RowKit Go.Proofs.Ythoehmcijbjkdaa.PFnExactBoth Go.Proofs.YthoehmcijbjkdaaW.PrintWords Go.Proofs.YthoehmcijbjkdaaW.PrintLast

theorem l9Mode_some (a : Int) : spec_l9Mode.f a = some (decide (1 ≤ a ∧ a ≤ 4)) := by
  unfold spec_l9Mode.f spec_l1In.f
  by_cases h : a ≥ 1 <;> by_cases g : a ≤ 4 <;> simp [h, g] <;> omega

theorem isMode_same (a : Int) : impl_isMode.f a = spec_l9Mode.f a := rfl

theorem both_some (a b : Int) : ∃ r, spec_Both.f 3 a b = some r ∧ impl_Both.f 3 a b = some r := by
  unfold spec_Both.f impl_Both.f
  simp only [isMode_same, l9Mode_some, Option.bind_some]
  simp only [spec_Both.j0, spec_Both.j1, impl_Both.j0, impl_Both.j1]
  repeat' split
  all_goals exact ⟨_, rfl, rfl⟩

theorem FnExactBoth : laws_FnExactBoth.Pure := by
  intro a b _ _
  obtain ⟨r, h1, h2⟩ := both_some a b
  refine ⟨3, ?_⟩
  unfold laws_FnExactBoth.f
  rw [h1, h2]
  simp

end Go.Proofs.Ythoehmcijbjkdaa.Pure
