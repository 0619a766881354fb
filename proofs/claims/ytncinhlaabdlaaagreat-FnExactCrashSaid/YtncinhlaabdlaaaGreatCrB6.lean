/- Several of my texts in one module (merge.py, shake.py). -/
import Derived.Test.YtncinhlaabdlaaaGreatCrB5
import Derived.Test.YtncinhlaabdlaaaGreatCrA6
section
namespace Go.Proofs.YtncinhlaabdlaaaGreat.IM
open Go Go.Proofs
set_option linter.unusedVariables false
set_option linter.unusedSimpArgs false
set_option maxHeartbeats 2000000
set_option maxRecDepth 20000
inductive One (A : D → Prop) : D → Prop
  | mk {r : D} (h : A r) : One A r
  | no {r : D} (h : False) : One A r
theorem One.out {A : D → Prop} {r : D} (h : One A r) : A r := by
  cases h with
  | mk h => exact h
  | no h => exact h.elim
end Go.Proofs.YtncinhlaabdlaaaGreat.IM
end
