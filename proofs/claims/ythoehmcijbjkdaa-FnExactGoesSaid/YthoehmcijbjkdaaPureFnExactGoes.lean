/- The pure side of FnExactGoes: for all two 64-bit numbers the law answers true. No condition. -/
import Derived.Test.YthoehmcijbjkdaaPFnExactGoesx1
namespace Go.Proofs.Ythoehmcijbjkdaa.Pure
open Go.RowKit Go.Proofs.Ythoehmcijbjkdaa.PFnExactGoes Go.Proofs.YthoehmcijbjkdaaW.PrintWords Go.Proofs.YthoehmcijbjkdaaW.PrintLast

theorem l9Mode_some (a : Int) : spec_l9Mode.f a = some (decide (1 ≤ a ∧ a ≤ 4)) := by
  unfold spec_l9Mode.f spec_l1In.f
  by_cases h : a ≥ 1 <;> by_cases g : a ≤ 4 <;> simp [h, g] <;> omega

theorem goes_same (a b : Int) : impl_Goes.f a b = spec_Goes.f a b := rfl

theorem goes_some (a b : Int) : ∃ r, spec_Goes.f a b = some r := by
  unfold spec_Goes.f
  rw [l9Mode_some, l9Mode_some]
  simp only [Option.bind_some]
  repeat' split
  all_goals exact ⟨_, rfl⟩

theorem FnExactGoes : laws_FnExactGoes.Pure := by
  intro a b _ _
  obtain ⟨r, hr⟩ := goes_some a b
  unfold laws_FnExactGoes.f
  rw [goes_same, hr]
  simp

end Go.Proofs.Ythoehmcijbjkdaa.Pure
