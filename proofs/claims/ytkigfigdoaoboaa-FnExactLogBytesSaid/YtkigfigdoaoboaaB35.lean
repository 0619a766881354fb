/- Several of my texts in one module (merge.py). -/
import Derived.Tactics2
import Derived.WalkKit
import Derived.KernelRfl
import Derived.Laws.Append
import Derived.Laws.AppendOwn
import Derived.Test.YtkigfigdoaoboaaProg
section
/- How slices.Grow runs on nothing. -/
namespace Go.Proofs.Ytkigfigdoaoboaa.IM
open Go Go.Proofs Go.RowKit

set_option maxRecDepth 100000 in
set_option maxHeartbeats 2000000 in
theorem grow_calls (n : Nat) (h0 : 0 < n) (h1 : n ≤ 16777216) (w : World) (ad : Option Addr) : Calls Try.prog 177 #[.slice ad 0 0, .int .i64 n] w fun e w' => ∃ (c : Nat) (C : Array Value) (T : TypeId), e = .returned (.slice (some ⟨w.heap.size, 0, none⟩) 0 c) ∧ C.size = c ∧ w' = (w.alloc (.cells C T)).drew := by
  refine calls_of_wp Try.func177 rfl ?_
  simp only [Try.ntmps177, List.size_toArray, List.length_cons, List.length_nil, Nat.reduceAdd, Nat.reduceSub, Array.replicate_succ, Array.replicate_zero, List.push_toArray, List.append_toArray, List.nil_append, List.cons_append]
  cases ad
  all_goals go_wp2
  all_goals (try (first
    | (exfalso; rename_i _ hbad _; exact absurd (show (281474976710656 : Int) < (n : Int) * ((1 : Nat) : Int) from hbad) (by omega))
    | (exfalso; rename_i hbad _ _ _; exact absurd (show 281474976710656 < Builtin.nextslicecap n 0 * 1 from hbad) (by have := growslice_fits (need := n) (old := 0) (bytes := 1) h0 (by omega); omega))
    | (exfalso; rename_i hbad _ _; exact absurd (show 281474976710656 < Builtin.nextslicecap n 0 * 1 from hbad) (by have := growslice_fits (need := n) (old := 0) (bytes := 1) h0 (by omega); omega))))
  all_goals (try (apply_assumption; simp only [Array.empty_append]; go_wp2))
  all_goals (try (first
    | (exfalso; rename_i _ hbad _; exact absurd (show (281474976710656 : Int) < (n : Int) * ((1 : Nat) : Int) from hbad) (by omega))
    | (exfalso; rename_i hbad _ _ _; exact absurd (show 281474976710656 < Builtin.nextslicecap n 0 * 1 from hbad) (by have := growslice_fits (need := n) (old := 0) (bytes := 1) h0 (by omega); omega))
    | (exfalso; rename_i hbad _ _; exact absurd (show 281474976710656 < Builtin.nextslicecap n 0 * 1 from hbad) (by have := growslice_fits (need := n) (old := 0) (bytes := 1) h0 (by omega); omega))))
  all_goals
    have hge : ∀ (T : TypeId) x, n ≤ (Question.appendCap n 0 T).cut x := fun T x => by simp [Question.cut]
    first
      | refine ⟨rfl, _, results_tmp rfl _ _ _, _, rfl, _, ?_, _, rfl⟩
      | refine ⟨rfl, _, results_tmp rfl _ _ _, _, _, _, rfl, ?_, rfl⟩
      | trace_state
    simp only [Array.size_append, size_zeroCells, List.size_toArray, List.length_cons, List.length_nil, Nat.mul_one, Nat.reduceAdd]
    exact Nat.add_sub_cancel' (hge _ _)
end Go.Proofs.Ytkigfigdoaoboaa.IM
end
