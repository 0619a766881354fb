/- Several of my texts in one module (merge.py). -/
import Derived.Test.YtkigfigdoaoboaaA4
import Derived.Test.YtkigfigdoaoboaaA3
import Derived.Test.YtkigfigdoaoboaaA5
import Derived.Test.YtkigfigdoaoboaaB7
section
/- Contracts of the laws' functions over grants and locks. Printed by grants.py. -/
namespace Go.Proofs.Ytkigfigdoaoboaa.IM
open Go Go.Proofs
set_option linter.unusedVariables false
set_option linter.unusedSimpArgs false
set_option maxHeartbeats 2000000
set_option maxRecDepth 20000

end Go.Proofs.Ytkigfigdoaoboaa.IM
end

section
/- Contracts: locks. -/
namespace Go.Proofs.Ytkigfigdoaoboaa.IM
open Go Go.Proofs
set_option linter.unusedVariables false
set_option linter.unusedSimpArgs false
set_option maxHeartbeats 2000000
set_option maxRecDepth 20000

theorem given_clash {x : Md.Locks} {i k : Nat} (hi : i < x.given.length) (hk : k < i) (h : Md.clash (x.given[k]'(by omega)) x.given[i] = true) : Md.locksOk x = false := Md.locksOk_no fun q => by
  have := (q.2.2.1 i hi hi).2 k hk
  rw [this] at h; cases h
theorem given_bad {x : Md.Locks} {i : Nat} (hi : i < x.given.length) (h : Md.grantOk x.given[i] = false) : Md.locksOk x = false := Md.locksOk_no fun q => by
  have := (q.2.2.1 i hi hi).1
  rw [this] at h; cases h
theorem waits_bad {x : Md.Locks} {i : Nat} (hi : i < x.waits.length) (h : Md.grantOk x.waits[i] = false) : Md.locksOk x = false := Md.locksOk_no fun q => by
  have := (q.2.2.2 i hi hi).1
  rw [this] at h; cases h
theorem waits_same {x : Md.Locks} {i k : Nat} (hi : i < x.waits.length) (hk : k < i) (h : (x.waits[k]'(by omega)).tx = x.waits[i].tx) : Md.locksOk x = false := Md.locksOk_no fun q => (q.2.2.2 i hi hi).2 k hk h
theorem any_take_clash {xs : List Md.Grant} {i : Nat} (hi : i < xs.length) (g : Md.Grant) : ((xs.take i).any fun y => Md.clash y g) = true ↔ ∃ k, ∃ (hk : k < i), Md.clash (xs[k]'(by omega)) g = true := by
  rw [List.any_eq_true]
  constructor
  · rintro ⟨y, hy, hc⟩
    obtain ⟨k, hk, rfl⟩ := List.getElem_of_mem hy
    rw [List.length_take] at hk
    rw [List.getElem_take] at hc
    exact ⟨k, by omega, hc⟩
  · rintro ⟨k, hk, hc⟩
    refine ⟨xs[k], ?_, hc⟩
    rw [List.mem_iff_getElem]
    exact ⟨k, by rw [List.length_take]; omega, by rw [List.getElem_take]⟩
end Go.Proofs.Ytkigfigdoaoboaa.IM
end

section
/- The law of LocksOk. -/
namespace Go.Proofs.Ytkigfigdoaoboaa.IM
open Go Go.Proofs
set_option linter.unusedVariables false
set_option linter.unusedSimpArgs false
set_option maxHeartbeats 2000000
set_option maxRecDepth 20000

end Go.Proofs.Ytkigfigdoaoboaa.IM
end
