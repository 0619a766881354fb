/- Several of my texts in one module (merge.py, shake.py). -/
import Derived.Test.YtncinhlaabdlaaaGreatGtB59
import Derived.Test.YtncinhlaabdlaaaGreatGtB54
import Derived.Test.YtncinhlaabdlaaaGreatGtA4
section
namespace Go.Proofs.YtncinhlaabdlaaaGreat.IM
open Go Go.Proofs
set_option linter.unusedVariables false
set_option linter.unusedSimpArgs false
set_option maxHeartbeats 2000000
set_option maxRecDepth 20000
theorem cpZ_tl : (D.node engK cpZ).tl = [] := rfl
theorem cpZ_wh : (D.node engK cpZ).whole := fun i hi => by
  have hi' : i < 7 := hi
  match i, hi' with
  | 0, _ =>
    intro j hj k hk
    have hk' : k < 2 := hk
    match k, hk' with
    | 0, _ => trivial
    | 1, _ => exact fun a ha => whole_zSlot
  | 1, _ => exact wh_zPool
  | 2, _ => exact wh_zPool
  | 3, _ => trivial
  | 4, _ => trivial
  | 5, _ => trivial
  | 6, _ => trivial
theorem carry_cpZ (d E : D) : Carry d E (.node engK cpZ) (.node engK cpZ) := .apart _ (tags_of_tl (whole_data cpZ_wh) fun t ht => by rw [cpZ_tl] at ht; simp at ht)
theorem code0_ok' {x : Md.Engine} {told : Bool} (h : codeOf x told = 0) : engineOk x = true ∧ x.log.recs.length ≤ 3800 ∧ told = true ∧ x.down = false := by
  unfold codeOf at h
  by_cases h1 : (!engineOk x || x.down || !told) = true
  · rw [if_pos h1] at h; cases h
  · rw [if_neg h1] at h
    by_cases h2 : (3800 : Int) < x.log.recs.length
    · rw [if_pos h2] at h; cases h
    · simp only [Bool.or_eq_true, Bool.not_eq_true', not_or, Bool.not_eq_false] at h1
      exact ⟨h1.1.1, by omega, h1.2, by simpa using h1.1.2⟩
end Go.Proofs.YtncinhlaabdlaaaGreat.IM
end
