/- Contracts: records, the spec's side. -/
import Derived.Test.YtjaddgkhlmallaaC6
namespace Go.Proofs.Ytjaddgkhlmallaa.IM
open Go Go.Proofs
set_option linter.unusedVariables false
set_option linter.unusedSimpArgs false
set_option maxHeartbeats 2000000
set_option maxRecDepth 20000

def zeroR (r : Md.Rec) (b1 b2 b3 b4 b5 : Bool) : Bool :=
  (b1 || (r.tx == 0 && r.prev == 0)) && (b2 || (r.oid == 0 && sameS r.after Md.zSlot)) && (b3 || sameS r.before Md.zSlot) && (b4 || r.next == 0) && (b5 || (r.txs.length : Int) == 0)

theorem isSlot_zero : IsSlot (.node (.agg [1, 3]) (nthD [.lit (.bool false), .node (.agg [1, 1, 1]) (nthD [.lit (.int .i64 0), .nil, .nil])])) Md.zSlot :=
  ⟨_, rfl, stN (by simp only [stillL_nil, stillL_cons, still_lit, still_nil, still_any, still_nodeN, still_nodeC, and_self]), rfl, _, rfl, stN (by simp only [stillL_nil, stillL_cons, still_lit, still_nil, still_any, still_nodeN, still_nodeC, and_self]), rfl, .inl ⟨rfl, rfl⟩, .inl ⟨rfl, rfl⟩⟩
theorem l4Zero_c (d : D) (r : Md.Rec) (h : IsRec d r) : PCall Try.prog 167 [d, .lit (.bool false), .lit (.bool false), .lit (.bool false), .lit (.bool false), .lit (.bool true)] fun _ _ x => x = .lit (.bool (zeroR r false false false false true)) := by
  obtain ⟨f, rfl, hst, k0, k1, k2, k3, k4, k5, k6, k7, k8⟩ := h
  have k0 : f 0 = _ := k0
  have k1 : f 1 = _ := k1
  have k2 : f 2 = _ := k2
  have k3 : f 3 = _ := k3
  have k4 : f 4 = _ := k4
  have k7 : f 7 = _ := k7
  have q5 := shp_slot _ _ k5
  have q6 := shp_slot _ _ k6
  refine pcall_intro_v Try.func167 rfl (by decide) rfl (by decide) (by rw [Try.ntmps167]; simp) fun w0 M n0 => ivc_sound ?_; simp -dsimp only [Try.f167, go_sem, Nat.reduceLT, Nat.reduceEqDiff, Nat.reduceAdd, Nat.reduceMul, Nat.reduceBEq, beq_self_eq_true, Nat.reduceLeDiff, Nat.le_refl, k0, k1, k2, k3, k4, k7, q5.1, q5.2.1, q6.1, q6.2.1, k8.size, k8.isNode, k8.plain, k8.lenT]
  intro g1 b1 hb1 g2 b2 hb2
  refine ⟨fun t1 => ?_, ?_⟩
  rotate_left
  · first | (simp [zeroR, *]; done) | (simp_all [zeroR]; done) | (simp_all [zeroR]; omega)
  refine ⟨fun t2 => ?_, ?_⟩
  rotate_left
  · first | (simp [zeroR, *]; done) | (simp_all [zeroR]; done) | (simp_all [zeroR]; omega)
  refine ⟨fun t3 => ?_, ?_⟩
  rotate_left
  · first | (simp [zeroR, *]; done) | (simp_all [zeroR]; done) | (simp_all [zeroR]; omega)
  refine xcall_v (sameSlot_p _ _ _ _ k6 isSlot_zero) (by simp -dsimp only [go_sem, Nat.reduceLT, Nat.reduceEqDiff, Nat.reduceAdd, Nat.reduceMul, Nat.reduceBEq, beq_self_eq_true, Nat.reduceLeDiff, Nat.le_refl, rl_still, q6.2.2.2, isSlot_zero.still]) (fun _ => trivial) fun n1 hn1 => ?_
  simp -dsimp only [go_sem, Nat.reduceLT, Nat.reduceEqDiff, Nat.reduceAdd, Nat.reduceMul, Nat.reduceBEq, beq_self_eq_true, Nat.reduceLeDiff, Nat.le_refl, k0, k1, k2, k3, k4, k7, q5.1, q5.2.1, q6.1, q6.2.1, k8.size, k8.isNode, k8.plain, k8.lenT]
  refine ⟨fun t4 => ?_, ?_⟩
  rotate_left
  · first | (simp [zeroR, *]; done) | (simp_all [zeroR]; done) | (simp_all [zeroR]; omega)
  refine xcall_v (sameSlot_p _ _ _ _ k5 isSlot_zero) (by simp -dsimp only [go_sem, Nat.reduceLT, Nat.reduceEqDiff, Nat.reduceAdd, Nat.reduceMul, Nat.reduceBEq, beq_self_eq_true, Nat.reduceLeDiff, Nat.le_refl, rl_still, q5.2.2.2, isSlot_zero.still]) (fun _ => trivial) fun n2 hn2 => ?_
  simp -dsimp only [go_sem, Nat.reduceLT, Nat.reduceEqDiff, Nat.reduceAdd, Nat.reduceMul, Nat.reduceBEq, beq_self_eq_true, Nat.reduceLeDiff, Nat.le_refl, k0, k1, k2, k3, k4, k7, q5.1, q5.2.1, q6.1, q6.2.1, k8.size, k8.isNode, k8.plain, k8.lenT]
  refine ⟨fun t5 => ?_, ?_⟩
  rotate_left
  · first | (simp [zeroR, *]; done) | (simp_all [zeroR]; done) | (simp_all [zeroR]; omega)
  first | (simp [zeroR, *]; done) | (simp_all [zeroR]; done) | (simp_all [zeroR]; omega)
theorem l4Zero_s (d : D) (r : Md.Rec) (h : IsRec d r) : PCall Try.prog 167 [d, .lit (.bool true), .lit (.bool true), .lit (.bool true), .lit (.bool false), .lit (.bool false)] fun _ _ x => x = .lit (.bool (zeroR r true true true false false)) := by
  obtain ⟨f, rfl, hst, k0, k1, k2, k3, k4, k5, k6, k7, k8⟩ := h
  have k0 : f 0 = _ := k0
  have k1 : f 1 = _ := k1
  have k2 : f 2 = _ := k2
  have k3 : f 3 = _ := k3
  have k4 : f 4 = _ := k4
  have k7 : f 7 = _ := k7
  have q5 := shp_slot _ _ k5
  have q6 := shp_slot _ _ k6
  refine pcall_intro_v Try.func167 rfl (by decide) rfl (by decide) (by rw [Try.ntmps167]; simp) fun w0 M n0 => ivc_sound ?_; simp -dsimp only [Try.f167, go_sem, Nat.reduceLT, Nat.reduceEqDiff, Nat.reduceAdd, Nat.reduceMul, Nat.reduceBEq, beq_self_eq_true, Nat.reduceLeDiff, Nat.le_refl, k0, k1, k2, k3, k4, k7, q5.1, q5.2.1, q6.1, q6.2.1, k8.size, k8.isNode, k8.plain, k8.lenT]
  intros
  refine ⟨fun t1 => ?_, fun t1 => ?_⟩
  · first | (simp [zeroR, *]; done) | (simp_all [zeroR]; done) | (simp_all [zeroR]; omega)
  · first | (simp [zeroR, *]; done) | (simp_all [zeroR]; done) | (simp_all [zeroR]; omega)
theorem l4Zero_b (d : D) (r : Md.Rec) (h : IsRec d r) : PCall Try.prog 167 [d, .lit (.bool true), .lit (.bool true), .lit (.bool false), .lit (.bool true), .lit (.bool false)] fun _ _ x => x = .lit (.bool (zeroR r true true false true false)) := by
  obtain ⟨f, rfl, hst, k0, k1, k2, k3, k4, k5, k6, k7, k8⟩ := h
  have k0 : f 0 = _ := k0
  have k1 : f 1 = _ := k1
  have k2 : f 2 = _ := k2
  have k3 : f 3 = _ := k3
  have k4 : f 4 = _ := k4
  have k7 : f 7 = _ := k7
  have q5 := shp_slot _ _ k5
  have q6 := shp_slot _ _ k6
  refine pcall_intro_v Try.func167 rfl (by decide) rfl (by decide) (by rw [Try.ntmps167]; simp) fun w0 M n0 => ivc_sound ?_; simp -dsimp only [Try.f167, go_sem, Nat.reduceLT, Nat.reduceEqDiff, Nat.reduceAdd, Nat.reduceMul, Nat.reduceBEq, beq_self_eq_true, Nat.reduceLeDiff, Nat.le_refl, k0, k1, k2, k3, k4, k7, q5.1, q5.2.1, q6.1, q6.2.1, k8.size, k8.isNode, k8.plain, k8.lenT]
  intro g1 b1 hb1 g2 b2 hb2
  refine xcall_v (sameSlot_p _ _ _ _ k5 isSlot_zero) (by simp -dsimp only [go_sem, Nat.reduceLT, Nat.reduceEqDiff, Nat.reduceAdd, Nat.reduceMul, Nat.reduceBEq, beq_self_eq_true, Nat.reduceLeDiff, Nat.le_refl, rl_still, q5.2.2.2, isSlot_zero.still]) (fun _ => trivial) fun n2 hn2 => ?_
  simp -dsimp only [go_sem, Nat.reduceLT, Nat.reduceEqDiff, Nat.reduceAdd, Nat.reduceMul, Nat.reduceBEq, beq_self_eq_true, Nat.reduceLeDiff, Nat.le_refl, k0, k1, k2, k3, k4, k7, q5.1, q5.2.1, q6.1, q6.2.1, k8.size, k8.isNode, k8.plain, k8.lenT]
  refine ⟨fun t5 => ?_, ?_⟩
  rotate_left
  · first | (simp [zeroR, *]; done) | (simp_all [zeroR]; done) | (simp_all [zeroR]; omega)
  first | (simp [zeroR, *]; done) | (simp_all [zeroR]; done) | (simp_all [zeroR]; omega)
theorem l4Zero_o (d : D) (r : Md.Rec) (h : IsRec d r) : PCall Try.prog 167 [d, .lit (.bool true), .lit (.bool false), .lit (.bool false), .lit (.bool false), .lit (.bool false)] fun _ _ x => x = .lit (.bool (zeroR r true false false false false)) := by
  obtain ⟨f, rfl, hst, k0, k1, k2, k3, k4, k5, k6, k7, k8⟩ := h
  have k0 : f 0 = _ := k0
  have k1 : f 1 = _ := k1
  have k2 : f 2 = _ := k2
  have k3 : f 3 = _ := k3
  have k4 : f 4 = _ := k4
  have k7 : f 7 = _ := k7
  have q5 := shp_slot _ _ k5
  have q6 := shp_slot _ _ k6
  refine pcall_intro_v Try.func167 rfl (by decide) rfl (by decide) (by rw [Try.ntmps167]; simp) fun w0 M n0 => ivc_sound ?_; simp -dsimp only [Try.f167, go_sem, Nat.reduceLT, Nat.reduceEqDiff, Nat.reduceAdd, Nat.reduceMul, Nat.reduceBEq, beq_self_eq_true, Nat.reduceLeDiff, Nat.le_refl, k0, k1, k2, k3, k4, k7, q5.1, q5.2.1, q6.1, q6.2.1, k8.size, k8.isNode, k8.plain, k8.lenT]
  intro g1 b1 hb1 g2 b2 hb2
  refine ⟨fun t3 => ?_, ?_⟩
  rotate_left
  · first | (simp [zeroR, *]; done) | (simp_all [zeroR]; done) | (simp_all [zeroR]; omega)
  refine xcall_v (sameSlot_p _ _ _ _ k6 isSlot_zero) (by simp -dsimp only [go_sem, Nat.reduceLT, Nat.reduceEqDiff, Nat.reduceAdd, Nat.reduceMul, Nat.reduceBEq, beq_self_eq_true, Nat.reduceLeDiff, Nat.le_refl, rl_still, q6.2.2.2, isSlot_zero.still]) (fun _ => trivial) fun n1 hn1 => ?_
  simp -dsimp only [go_sem, Nat.reduceLT, Nat.reduceEqDiff, Nat.reduceAdd, Nat.reduceMul, Nat.reduceBEq, beq_self_eq_true, Nat.reduceLeDiff, Nat.le_refl, k0, k1, k2, k3, k4, k7, q5.1, q5.2.1, q6.1, q6.2.1, k8.size, k8.isNode, k8.plain, k8.lenT]
  refine ⟨fun t4 => ?_, ?_⟩
  rotate_left
  · first | (simp [zeroR, *]; done) | (simp_all [zeroR]; done) | (simp_all [zeroR]; omega)
  refine xcall_v (sameSlot_p _ _ _ _ k5 isSlot_zero) (by simp -dsimp only [go_sem, Nat.reduceLT, Nat.reduceEqDiff, Nat.reduceAdd, Nat.reduceMul, Nat.reduceBEq, beq_self_eq_true, Nat.reduceLeDiff, Nat.le_refl, rl_still, q5.2.2.2, isSlot_zero.still]) (fun _ => trivial) fun n2 hn2 => ?_
  simp -dsimp only [go_sem, Nat.reduceLT, Nat.reduceEqDiff, Nat.reduceAdd, Nat.reduceMul, Nat.reduceBEq, beq_self_eq_true, Nat.reduceLeDiff, Nat.le_refl, k0, k1, k2, k3, k4, k7, q5.1, q5.2.1, q6.1, q6.2.1, k8.size, k8.isNode, k8.plain, k8.lenT]
  refine ⟨fun t5 => ?_, ?_⟩
  rotate_left
  · first | (simp [zeroR, *]; done) | (simp_all [zeroR]; done) | (simp_all [zeroR]; omega)
  refine ⟨fun t6 => ?_, ?_⟩
  rotate_left
  · first | (simp [zeroR, *]; done) | (simp_all [zeroR]; done) | (simp_all [zeroR]; omega)
  first | (simp [zeroR, *]; done) | (simp_all [zeroR]; done) | (simp_all [zeroR]; omega)
end Go.Proofs.Ytjaddgkhlmallaa.IM
