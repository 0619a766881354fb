/- Contracts of the program's small functions. -/
import Derived.Test.YtjaddgkhlmallaaTy
import Derived.Test.YtjaddgkhlmallaaIm22
namespace Go.Proofs.Ytjaddgkhlmallaa.IM
open Go Go.Proofs
set_option linter.unusedVariables false
set_option linter.unusedSimpArgs false
set_option maxHeartbeats 2000000
set_option maxRecDepth 20000

theorem in_p (a b c : Int) : PCall Try.prog 143 [.lit (.int .i64 a), .lit (.int .i64 b), .lit (.int .i64 c)] fun _ _ r => r = .lit (.bool (Md.inB a b c)) := by
  refine pcall_intro_v Try.func143 rfl (by decide) rfl (by decide) (by rw [Try.ntmps143]; simp) fun w0 M n0 => ivc_sound ?_; simp -dsimp only [Try.f143, go_sem, Nat.reduceLT, Nat.reduceEqDiff, Nat.reduceAdd, Nat.reduceMul, Nat.reduceBEq, beq_self_eq_true, Nat.reduceLeDiff, Nat.le_refl]
  refine ⟨fun h1 => ?_, fun h1 => ?_⟩
  · simp [Md.inB, h1]
  · simp [Md.inB, h1]

end Go.Proofs.Ytjaddgkhlmallaa.IM
