/- Several of my texts in one module (merge.py, shake.py). -/
import Derived.Test.YtncinhlaabdlaaaGreatGtB5
import Derived.Test.YtncinhlaabdlaaaGreatGtA6
section
namespace Go.Proofs.YtncinhlaabdlaaaGreat.IM
open Go Go.Proofs
set_option linter.unusedVariables false
set_option linter.unusedSimpArgs false
set_option maxHeartbeats 2000000
set_option maxRecDepth 20000
inductive One (A : D → Prop) : D → Prop
  | mk {r : D} (h : A r) : One A r
  | no {r : D} (h : False) : One A r
theorem One.out {A : D → Prop} {r : D} (h : One A r) : A r := by
  cases h with
  | mk h => exact h
  | no h => exact h.elim
def zObjD : D := .node (.agg [1, 1, 1]) (nthD [.lit (.int .i64 0), .nil, .nil])
def zSlotD : D := .node (.agg [1, 3]) (nthD [.lit (.bool false), zObjD])
theorem isObj_z : IsObj zObjD Md.zObj := ⟨_, rfl, stN (by simp only [stillL_nil, stillL_cons, still_lit, still_nil, still_any, still_nodeN, still_nodeC, and_self]), rfl, .inl ⟨rfl, rfl⟩, .inl ⟨rfl, rfl⟩⟩
theorem still_zObj : zObjD.still := (shp_obj _ _ isObj_z).2.2.2
theorem isSlot_z : IsSlot zSlotD Md.zSlot := ⟨_, rfl, stN (by simp only [stillL_nil, stillL_cons, still_lit, still_zObj, and_self]), rfl, isObj_z⟩
theorem still_zSlot : zSlotD.still := (shp_slot _ _ isSlot_z).2.2.2
theorem whole_zObj : zObjD.whole := fun i hi => by
  have hi' : i < 3 := hi
  match i, hi' with
  | 0, _ => trivial
  | 1, _ => trivial
  | 2, _ => trivial
theorem whole_zSlot : zSlotD.whole := fun i hi => by
  have hi' : i < 2 := hi
  match i, hi' with
  | 0, _ => trivial
  | 1, _ => exact whole_zObj
end Go.Proofs.YtncinhlaabdlaaaGreat.IM
end
