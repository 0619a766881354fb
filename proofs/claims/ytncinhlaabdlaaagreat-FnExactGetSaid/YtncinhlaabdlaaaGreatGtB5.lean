/- Several of my texts in one module (merge.py, shake.py). -/
import Derived.Test.YtncinhlaabdlaaaGreatGtA6
section
namespace Go.Proofs.YtncinhlaabdlaaaGreat.IM
open Go Go.Proofs
set_option linter.unusedVariables false
set_option linter.unusedSimpArgs false
set_option maxHeartbeats 2000000
set_option maxRecDepth 20000
theorem IsLive.data {d : D} {x : Md.Live} (h : IsLive d x) : d.data := whole_data h.wh
theorem IsRec.data {d : D} {x : Md.Rec} (h : IsRec d x) : d.data := by
  obtain ⟨f, rfl, _, h0, h1, h2, h3, h4, h5, h6, h7, h8⟩ := h
  intro i hi
  have hi' : i < 9 := hi
  match i, hi' with
  | 0, _ => exact IsInt.data h0
  | 1, _ => exact IsInt.data h1
  | 2, _ => exact IsInt.data h2
  | 3, _ => exact IsInt.data h3
  | 4, _ => exact IsInt.data h4
  | 5, _ => exact h5.data
  | 6, _ => exact h6.data
  | 7, _ => exact IsInt.data h7
  | 8, _ => exact IsL.data (fun _ _ h => IsLive.data h) h8
end Go.Proofs.YtncinhlaabdlaaaGreat.IM
end
