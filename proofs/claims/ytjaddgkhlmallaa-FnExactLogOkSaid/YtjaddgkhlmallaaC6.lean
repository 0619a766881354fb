/- Contracts: records. -/
import Derived.Test.YtjaddgkhlmallaaC5
namespace Go.Proofs.Ytjaddgkhlmallaa.IM
open Go Go.Proofs
set_option linter.unusedVariables false
set_option linter.unusedSimpArgs false
set_option maxHeartbeats 2000000
set_option maxRecDepth 20000

theorem sameInts_p (d d' : D) (xs ys : List Int) (h : IsL 1 IsInt d xs) (h' : IsL 1 IsInt d' ys) : PCall Try.prog 246 [d, d'] fun _ _ r => r = .lit (.bool (decide (xs = ys))) := by
  refine pcall_intro_v Try.func246 rfl (by decide) rfl (by decide) (by rw [Try.ntmps246]; simp) fun w0 M n0 => ivc_sound ?_; simp -dsimp only [Try.f246, go_sem, Nat.reduceLT, Nat.reduceEqDiff, Nat.reduceAdd, Nat.reduceMul, Nat.reduceBEq, beq_self_eq_true, Nat.reduceLeDiff, Nat.le_refl, h.lenT, h'.lenT]
  refine ⟨fun hb => ?_, fun hb => ?_⟩
  · have : ¬ xs = ys := by rintro rfl; simp at hb
    simp [this]
  have hl : xs.length = ys.length := by simp at hb; omega
  refine iwp_forK xs.length [0, 1] (fun i s => s 5 = .lit (.int .i64 i) ∧ ∀ j (_ : j < i) (h1 : j < xs.length) (h2 : j < ys.length), xs[j] = ys[j]) 0 (Nat.zero_le _) ⟨by simp -dsimp only [go_sem, Nat.reduceLT, Nat.reduceEqDiff, Nat.reduceAdd, Nat.reduceMul, Nat.reduceBEq, beq_self_eq_true, Nat.reduceLeDiff, Nat.le_refl]; rfl, fun j h => absurd h (by omega)⟩ ?_
  rintro i n' s hi hn hk ⟨h5, hall⟩
  refine ivc_sound ?_
  by_cases hlt : i < xs.length
  · have hlt' : i < ys.length := by omega
    obtain ⟨t, zb, fi, rfl, hst, hf⟩ := h.sl hlt
    obtain ⟨t', zb', fi', rfl, hst', hf'⟩ := h'.sl hlt'
    have hfi : fi i = _ := hf i hlt
    have hfi' : fi' i = _ := hf' i hlt'
    have hw := i64_succ (i := i) (by have := h.short; omega)
    simp -dsimp only [go_sem, Nat.reduceLT, Nat.reduceEqDiff, Nat.reduceAdd, Nat.reduceMul, Nat.reduceBEq, beq_self_eq_true, Nat.reduceLeDiff, Nat.le_refl] at hk
    simp -dsimp only [go_sem, Nat.reduceLT, Nat.reduceEqDiff, Nat.reduceAdd, Nat.reduceMul, Nat.reduceBEq, beq_self_eq_true, Nat.reduceLeDiff, Nat.le_refl, hk, h5, hlt, hw]
    refine iwp_plan [(0, true), (1, true), (2, true), (3, true), (4, true), (5, true), (6, true), (7, true), (8, true)] [] rfl (by decide +kernel) (by decide) ?_
    simp -dsimp only [go_sem, Nat.reduceLT, Nat.reduceEqDiff, Nat.reduceAdd, Nat.reduceMul, Nat.reduceBEq, beq_self_eq_true, Nat.reduceLeDiff, Nat.le_refl, hk, h5, hlt, hlt', hw, hfi, hfi']
    refine ⟨fun hb2 => ?_, fun hb2 => into_k (by omega) (by simp -dsimp only [go_sem, Nat.reduceLT, Nat.reduceEqDiff, Nat.reduceAdd, Nat.reduceMul, Nat.reduceBEq, beq_self_eq_true, Nat.reduceLeDiff, Nat.le_refl, hk]) ⟨by simp -dsimp only [go_sem, Nat.reduceLT, Nat.reduceEqDiff, Nat.reduceAdd, Nat.reduceMul, Nat.reduceBEq, beq_self_eq_true, Nat.reduceLeDiff, Nat.le_refl], fun j h1 h2 h3 => ?_⟩⟩
    · have : ¬ xs = ys := by rintro rfl; simp at hb2
      simp [this]
    · rcases Nat.lt_or_ge j i with h4 | h4
      · exact hall j h4 h2 h3
      · obtain rfl : j = i := by omega
        simpa using hb2
  · simp -dsimp only [go_sem, Nat.reduceLT, Nat.reduceEqDiff, Nat.reduceAdd, Nat.reduceMul, Nat.reduceBEq, beq_self_eq_true, Nat.reduceLeDiff, Nat.le_refl] at hk
    simp -dsimp only [go_sem, Nat.reduceLT, Nat.reduceEqDiff, Nat.reduceAdd, Nat.reduceMul, Nat.reduceBEq, beq_self_eq_true, Nat.reduceLeDiff, Nat.le_refl, hk, h5, hlt, h.lenT]
    have : xs = ys := List.ext_getElem hl fun j h1 h2 => hall j (by omega) h1 h2
    simp [this]
def sameO (x y : Md.Obj) : Bool := x.kind == y.kind && decide (x.ints = y.ints) && decide (x.refs = y.refs)
def sameS (x y : Md.Slot) : Bool := x.has == y.has && sameO x.o y.o
theorem sameObj_p (d d' : D) (x y : Md.Obj) (h : IsObj d x) (h' : IsObj d' y) : PCall Try.prog 194 [d, d'] fun _ _ r => r = .lit (.bool (sameO x y)) := by
  obtain ⟨f, rfl, hst, k0, k1, k2⟩ := h
  obtain ⟨f', rfl, hst', l0, l1, l2⟩ := h'
  have k0 : f 0 = _ := k0
  have l0 : f' 0 = _ := l0
  refine pcall_intro_v Try.func194 rfl (by decide) rfl (by decide) (by rw [Try.ntmps194]; simp) fun w0 M n0 => ivc_sound ?_; simp -dsimp only [Try.f194, go_sem, Nat.reduceLT, Nat.reduceEqDiff, Nat.reduceAdd, Nat.reduceMul, Nat.reduceBEq, beq_self_eq_true, Nat.reduceLeDiff, Nat.le_refl, k0, l0, k1.size, k1.isNode, k1.plain, l1.size, l1.isNode, l1.plain, k2.size, k2.isNode, k2.plain, l2.size, l2.isNode, l2.plain]
  intro g1 b1 hb1 g2 b2 hb2
  refine ⟨fun hb => ?_, ?_⟩
  rotate_left
  · first | (simp [sameO, *]; done) | (simp_all [sameO]; done) | (simp_all [sameO]; omega)
  refine xcall_v (sameInts_p _ _ _ _ k1 l1) (by simp -dsimp only [go_sem, Nat.reduceLT, Nat.reduceEqDiff, Nat.reduceAdd, Nat.reduceMul, Nat.reduceBEq, beq_self_eq_true, Nat.reduceLeDiff, Nat.le_refl, rl_still, k1.still, l1.still]) (fun _ => trivial) fun n1 hn1 => ?_
  simp -dsimp only [go_sem, Nat.reduceLT, Nat.reduceEqDiff, Nat.reduceAdd, Nat.reduceMul, Nat.reduceBEq, beq_self_eq_true, Nat.reduceLeDiff, Nat.le_refl, k0, l0, k1.size, k1.isNode, k1.plain, l1.size, l1.isNode, l1.plain, k2.size, k2.isNode, k2.plain, l2.size, l2.isNode, l2.plain]
  refine ⟨fun hb2 => ?_, ?_⟩
  rotate_left
  · first | (simp [sameO, *]; done) | (simp_all [sameO]; done) | (simp_all [sameO]; omega)
  refine xcall_v (sameInts_p _ _ _ _ k2 l2) (by simp -dsimp only [go_sem, Nat.reduceLT, Nat.reduceEqDiff, Nat.reduceAdd, Nat.reduceMul, Nat.reduceBEq, beq_self_eq_true, Nat.reduceLeDiff, Nat.le_refl, rl_still, k2.still, l2.still]) (fun _ => trivial) fun n2 hn2 => ?_
  simp -dsimp only [go_sem, Nat.reduceLT, Nat.reduceEqDiff, Nat.reduceAdd, Nat.reduceMul, Nat.reduceBEq, beq_self_eq_true, Nat.reduceLeDiff, Nat.le_refl, k0, l0, k1.size, k1.isNode, k1.plain, l1.size, l1.isNode, l1.plain, k2.size, k2.isNode, k2.plain, l2.size, l2.isNode, l2.plain]
  first | (simp [sameO, *]; done) | (simp_all [sameO]; done) | (simp_all [sameO]; omega)
theorem sameSlot_p (d d' : D) (x y : Md.Slot) (h : IsSlot d x) (h' : IsSlot d' y) : PCall Try.prog 234 [d, d'] fun _ _ r => r = .lit (.bool (sameS x y)) := by
  obtain ⟨f, rfl, hst, k0, k1⟩ := h
  obtain ⟨f', rfl, hst', l0, l1⟩ := h'
  have k0 : f 0 = _ := k0
  have l0 : f' 0 = _ := l0
  have q := shp_obj _ _ k1
  have q' := shp_obj _ _ l1
  refine pcall_intro_v Try.func234 rfl (by decide) rfl (by decide) (by rw [Try.ntmps234]; simp) fun w0 M n0 => ivc_sound ?_; simp -dsimp only [Try.f234, go_sem, Nat.reduceLT, Nat.reduceEqDiff, Nat.reduceAdd, Nat.reduceMul, Nat.reduceBEq, beq_self_eq_true, Nat.reduceLeDiff, Nat.le_refl, k0, l0, q.1, q.2.1, q'.1, q'.2.1]
  intro g1 b1 hb1 g2 b2 hb2
  refine ⟨fun hb => ?_, ?_⟩
  rotate_left
  · first | (simp [sameS, *]; done) | (simp_all [sameS]; done) | (simp_all [sameS]; omega)
  refine xcall_v (sameObj_p _ _ _ _ k1 l1) (by simp -dsimp only [go_sem, Nat.reduceLT, Nat.reduceEqDiff, Nat.reduceAdd, Nat.reduceMul, Nat.reduceBEq, beq_self_eq_true, Nat.reduceLeDiff, Nat.le_refl, rl_still, q.2.2.2, q'.2.2.2]) (fun _ => trivial) fun n1 hn1 => ?_
  simp -dsimp only [go_sem, Nat.reduceLT, Nat.reduceEqDiff, Nat.reduceAdd, Nat.reduceMul, Nat.reduceBEq, beq_self_eq_true, Nat.reduceLeDiff, Nat.le_refl, k0, l0]
  first | (simp [sameS, *]; done) | (simp_all [sameS]; done) | (simp_all [sameS]; omega)
theorem noSlot_p (d : D) (s : Md.Slot) (h : IsSlot d s) : PCall Try.prog 170 [d] fun _ _ r => r = .lit (.bool (Md.noSlot s)) := by
  obtain ⟨f, rfl, hst, h0, h1⟩ := h
  have h0 : f 0 = _ := h0
  have q := shp_obj _ _ h1
  refine pcall_intro_v Try.func170 rfl (by decide) rfl (by decide) (by rw [Try.ntmps170]; simp) fun w0 M n0 => ivc_sound ?_; simp -dsimp only [Try.f170, go_sem, Nat.reduceLT, Nat.reduceEqDiff, Nat.reduceAdd, Nat.reduceMul, Nat.reduceBEq, beq_self_eq_true, Nat.reduceLeDiff, Nat.le_refl, h0, q.1, q.2.1]
  intro g1 b1 hb1
  refine ⟨fun hb => ?_, ?_⟩
  rotate_left
  · first | (simp [Md.noSlot, *]; done) | (simp_all [Md.noSlot]; done) | (simp_all [Md.noSlot]; omega)
  refine xcall_v (noObj_p _ _ h1) (by simp -dsimp only [go_sem, Nat.reduceLT, Nat.reduceEqDiff, Nat.reduceAdd, Nat.reduceMul, Nat.reduceBEq, beq_self_eq_true, Nat.reduceLeDiff, Nat.le_refl, rl_still, q.2.2.2]) (fun _ => trivial) fun n1 hn1 => ?_
  simp -dsimp only [go_sem, Nat.reduceLT, Nat.reduceEqDiff, Nat.reduceAdd, Nat.reduceMul, Nat.reduceBEq, beq_self_eq_true, Nat.reduceLeDiff, Nat.le_refl]
  first | (simp [Md.noSlot, *]; done) | (simp_all [Md.noSlot]; done) | (simp_all [Md.noSlot]; omega)
theorem isTx_p (n : Int) : PCall Try.prog 172 [.lit (.int .i64 n)] fun _ _ r => r = .lit (.bool (Md.inB n 1 1000)) := by
  refine pcall_intro_v Try.func172 rfl (by decide) rfl (by decide) (by rw [Try.ntmps172]; simp) fun w0 M n0 => ivc_sound ?_; simp -dsimp only [Try.f172, go_sem, Nat.reduceLT, Nat.reduceEqDiff, Nat.reduceAdd, Nat.reduceMul, Nat.reduceBEq, beq_self_eq_true, Nat.reduceLeDiff, Nat.le_refl]
  refine xcall_v (in_p _ _ _) (by simp -dsimp only [go_sem, Nat.reduceLT, Nat.reduceEqDiff, Nat.reduceAdd, Nat.reduceMul, Nat.reduceBEq, beq_self_eq_true, Nat.reduceLeDiff, Nat.le_refl]; rfl) (fun _ => trivial) fun n1 hn1 => ?_
  simp -dsimp only [go_sem, Nat.reduceLT, Nat.reduceEqDiff, Nat.reduceAdd, Nat.reduceMul, Nat.reduceBEq, beq_self_eq_true, Nat.reduceLeDiff, Nat.le_refl]
theorem isOid_p (n : Int) : PCall Try.prog 173 [.lit (.int .i64 n)] fun _ _ r => r = .lit (.bool (Md.inB n 1 31)) := by
  refine pcall_intro_v Try.func173 rfl (by decide) rfl (by decide) (by rw [Try.ntmps173]; simp) fun w0 M n0 => ivc_sound ?_; simp -dsimp only [Try.f173, go_sem, Nat.reduceLT, Nat.reduceEqDiff, Nat.reduceAdd, Nat.reduceMul, Nat.reduceBEq, beq_self_eq_true, Nat.reduceLeDiff, Nat.le_refl]
  refine xcall_v (in_p _ _ _) (by simp -dsimp only [go_sem, Nat.reduceLT, Nat.reduceEqDiff, Nat.reduceAdd, Nat.reduceMul, Nat.reduceBEq, beq_self_eq_true, Nat.reduceLeDiff, Nat.le_refl]; rfl) (fun _ => trivial) fun n1 hn1 => ?_
  simp -dsimp only [go_sem, Nat.reduceLT, Nat.reduceEqDiff, Nat.reduceAdd, Nat.reduceMul, Nat.reduceBEq, beq_self_eq_true, Nat.reduceLeDiff, Nat.le_refl]
end Go.Proofs.Ytjaddgkhlmallaa.IM
