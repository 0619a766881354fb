/- The laws over functions that only read: they answer true. Printed by laws_rd.py. -/
import Derived.Test.YtjaddgkhlmallaaD3
import Derived.Test.YtjaddgkhlmallaaC11
namespace Go.Proofs.Ytjaddgkhlmallaa.IM
open Go Go.Proofs
set_option linter.unusedVariables false
set_option linter.unusedSimpArgs false
set_option maxHeartbeats 2000000
set_option maxRecDepth 20000

theorem lawRecOk (d : D) (x : Md.Rec)  (h : IsRec d x) : PCall Try.prog 9 [d] fun _ _ r => r = .lit (.bool true) := by
  have q := shp_rec _ _ h
  have e1 := q.1
  have e2 := q.2.1
  have e3 := q.2.2.1
  have e4 := q.2.2.2
  refine pcall_intro_v Try.func9 rfl (by decide) rfl (by decide) (by rw [Try.ntmps9]; simp) fun w0 M n0 => ivc_sound ?_; simp -dsimp only [Try.f9, go_sem, Nat.reduceLT, Nat.reduceEqDiff, Nat.reduceAdd, Nat.reduceMul, Nat.reduceBEq, beq_self_eq_true, Nat.reduceLeDiff, Nat.le_refl, e1, e2, e3]
  intro g1 b1 hb1
  refine xcall_v (szRec_p _ _ h 1048576 (by decide) (by decide)) (by simp -dsimp only [go_sem, Nat.reduceLT, Nat.reduceEqDiff, Nat.reduceAdd, Nat.reduceMul, Nat.reduceBEq, beq_self_eq_true, Nat.reduceLeDiff, Nat.le_refl, rl_still, e4]) (fun _ => trivial) fun n1 hn1 => ?_
  simp -dsimp only [go_sem, Nat.reduceLT, Nat.reduceEqDiff, Nat.reduceAdd, Nat.reduceMul, Nat.reduceBEq, beq_self_eq_true, Nat.reduceLeDiff, Nat.le_refl]
  intro hb
  have hs : Md.szRec x ≤ 1048576 := by
    have := Md.szR_le _ _ hb
    omega
  simp -dsimp only [go_sem, Nat.reduceLT, Nat.reduceEqDiff, Nat.reduceAdd, Nat.reduceMul, Nat.reduceBEq, beq_self_eq_true, Nat.reduceLeDiff, Nat.le_refl, e1, e2, e3]
  refine xcall_p (toRec_p _ _ h hs) (by simp -dsimp only [go_sem, Nat.reduceLT, Nat.reduceEqDiff, Nat.reduceAdd, Nat.reduceMul, Nat.reduceBEq, beq_self_eq_true, Nat.reduceLeDiff, Nat.le_refl, rl_still, e4]) fun m0 m1 r hm0 hm1 hr => ?_
  have hr1 := hr.1
  have ho1 := hr.2.tags
  have p := shp_rec _ _ hr1
  have p1 := p.1
  have p2 := p.2.1
  have p3 := p.2.2.1
  have p4 := p.2.2.2
  refine ⟨ho1, ?_⟩
  simp -dsimp only [go_sem, Nat.reduceLT, Nat.reduceEqDiff, Nat.reduceAdd, Nat.reduceMul, Nat.reduceBEq, beq_self_eq_true, Nat.reduceLeDiff, Nat.le_refl, e1, e2, e3, p1, p2, p3]
  refine xcall_v (specRecOk_p _ _ hr1) (by simp -dsimp only [go_sem, Nat.reduceLT, Nat.reduceEqDiff, Nat.reduceAdd, Nat.reduceMul, Nat.reduceBEq, beq_self_eq_true, Nat.reduceLeDiff, Nat.le_refl, rl_still, e4, p4]) (fun _ => trivial) fun n2 hn2 => ?_
  simp -dsimp only [go_sem, Nat.reduceLT, Nat.reduceEqDiff, Nat.reduceAdd, Nat.reduceMul, Nat.reduceBEq, beq_self_eq_true, Nat.reduceLeDiff, Nat.le_refl, e1, e2, e3, p1, p2, p3]
  refine xcall_p (toRec_p _ _ h hs) (by simp -dsimp only [go_sem, Nat.reduceLT, Nat.reduceEqDiff, Nat.reduceAdd, Nat.reduceMul, Nat.reduceBEq, beq_self_eq_true, Nat.reduceLeDiff, Nat.le_refl, rl_still, e4]) fun m2 m3 u hm2 hm3 hu => ?_
  have hu1 := hu.1
  have ho2 := hu.2.tags
  have t := shp_rec _ _ hu1
  have t1 := t.1
  have t2 := t.2.1
  have t3 := t.2.2.1
  have t4 := t.2.2.2
  refine ⟨ho2, ?_⟩
  simp -dsimp only [go_sem, Nat.reduceLT, Nat.reduceEqDiff, Nat.reduceAdd, Nat.reduceMul, Nat.reduceBEq, beq_self_eq_true, Nat.reduceLeDiff, Nat.le_refl, e1, e2, e3, t1, t2, t3]
  intro g2 b2 hb2
  refine xcall_v (recOk_p _ _ hu1) (by simp -dsimp only [go_sem, Nat.reduceLT, Nat.reduceEqDiff, Nat.reduceAdd, Nat.reduceMul, Nat.reduceBEq, beq_self_eq_true, Nat.reduceLeDiff, Nat.le_refl, rl_still, e4, t4]) (fun _ => trivial) fun n3 hn3 => ?_
  simp -dsimp only [go_sem, Nat.reduceLT, Nat.reduceEqDiff, Nat.reduceAdd, Nat.reduceMul, Nat.reduceBEq, beq_self_eq_true, Nat.reduceLeDiff, Nat.le_refl, e1, e2, e3, t1, t2, t3, bne_self_eq_false, Bool.not_true, Bool.not_false, Bool.false_eq_true, Bool.true_eq_false, false_imp_iff, true_and, and_true, forall_const, reduceCtorEq]
  refine iwp_plan [(0, true), (1, true), (2, false), (3, false), (4, true)] [1, 5] rfl (by decide +kernel) (by decide) ?_
  simp -dsimp only [go_sem, Nat.reduceLT, Nat.reduceEqDiff, Nat.reduceAdd, Nat.reduceMul, Nat.reduceBEq, beq_self_eq_true, Nat.reduceLeDiff, Nat.le_refl, e1, e2, e3, t1, t2, t3]
  refine xcall_p (toRec_p _ _ h hs) (by simp -dsimp only [go_sem, Nat.reduceLT, Nat.reduceEqDiff, Nat.reduceAdd, Nat.reduceMul, Nat.reduceBEq, beq_self_eq_true, Nat.reduceLeDiff, Nat.le_refl, rl_still, e4]) fun m4 m5 v hm4 hm5 hv => ?_
  have hv1 := hv.1
  have ho3 := hv.2.tags
  have w := shp_rec _ _ hv1
  have w1 := w.1
  have w2 := w.2.1
  have w3 := w.2.2.1
  have w4 := w.2.2.2
  refine ⟨ho3, ?_⟩
  simp -dsimp only [go_sem, Nat.reduceLT, Nat.reduceEqDiff, Nat.reduceAdd, Nat.reduceMul, Nat.reduceBEq, beq_self_eq_true, Nat.reduceLeDiff, Nat.le_refl, e1, e2, e3, t1, t2, t3, w1, w2, w3]
  refine xcall_v (eqRec_p _ _ _ hu1 hv1) (by simp -dsimp only [go_sem, Nat.reduceLT, Nat.reduceEqDiff, Nat.reduceAdd, Nat.reduceMul, Nat.reduceBEq, beq_self_eq_true, Nat.reduceLeDiff, Nat.le_refl, rl_still, e4, t4, w4]) (fun _ => trivial) fun n4 hn4 => ?_
  simp -dsimp only [go_sem, Nat.reduceLT, Nat.reduceEqDiff, Nat.reduceAdd, Nat.reduceMul, Nat.reduceBEq, beq_self_eq_true, Nat.reduceLeDiff, Nat.le_refl, bne_self_eq_false, Bool.not_true, Bool.not_false, Bool.false_eq_true, Bool.true_eq_false, false_imp_iff, true_and, and_true, forall_const, reduceCtorEq]
theorem lawLogOk (d : D) (x : Md.Log)  (h : IsLog d x) : PCall Try.prog 16 [d] fun _ _ r => r = .lit (.bool true) := by
  have q := shp_log _ _ h
  have e1 := q.1
  have e2 := q.2.1
  have e3 := q.2.2.1
  have e4 := q.2.2.2
  refine pcall_intro_v Try.func16 rfl (by decide) rfl (by decide) (by rw [Try.ntmps16]; simp) fun w0 M n0 => ivc_sound ?_; simp -dsimp only [Try.f16, go_sem, Nat.reduceLT, Nat.reduceEqDiff, Nat.reduceAdd, Nat.reduceMul, Nat.reduceBEq, beq_self_eq_true, Nat.reduceLeDiff, Nat.le_refl, e1, e2, e3]
  intro g1 b1 hb1
  refine xcall_v (szLog_p _ _ h 1048576 (by decide) (by decide)) (by simp -dsimp only [go_sem, Nat.reduceLT, Nat.reduceEqDiff, Nat.reduceAdd, Nat.reduceMul, Nat.reduceBEq, beq_self_eq_true, Nat.reduceLeDiff, Nat.le_refl, rl_still, e4]) (fun _ => trivial) fun n1 hn1 => ?_
  simp -dsimp only [go_sem, Nat.reduceLT, Nat.reduceEqDiff, Nat.reduceAdd, Nat.reduceMul, Nat.reduceBEq, beq_self_eq_true, Nat.reduceLeDiff, Nat.le_refl]
  intro hb
  have hs : Md.szLog x ≤ 1048576 := by
    have := Md.szR_le _ _ hb
    omega
  simp -dsimp only [go_sem, Nat.reduceLT, Nat.reduceEqDiff, Nat.reduceAdd, Nat.reduceMul, Nat.reduceBEq, beq_self_eq_true, Nat.reduceLeDiff, Nat.le_refl, e1, e2, e3]
  refine xcall_p (toLog_p _ _ h hs) (by simp -dsimp only [go_sem, Nat.reduceLT, Nat.reduceEqDiff, Nat.reduceAdd, Nat.reduceMul, Nat.reduceBEq, beq_self_eq_true, Nat.reduceLeDiff, Nat.le_refl, rl_still, e4]) fun m0 m1 r hm0 hm1 hr => ?_
  have hr1 := hr.1
  have ho1 := hr.2.tags
  have p := shp_log _ _ hr1
  have p1 := p.1
  have p2 := p.2.1
  have p3 := p.2.2.1
  have p4 := p.2.2.2
  refine ⟨ho1, ?_⟩
  simp -dsimp only [go_sem, Nat.reduceLT, Nat.reduceEqDiff, Nat.reduceAdd, Nat.reduceMul, Nat.reduceBEq, beq_self_eq_true, Nat.reduceLeDiff, Nat.le_refl, e1, e2, e3, p1, p2, p3]
  refine xcall_v (specLogOk_p _ _ hr1) (by simp -dsimp only [go_sem, Nat.reduceLT, Nat.reduceEqDiff, Nat.reduceAdd, Nat.reduceMul, Nat.reduceBEq, beq_self_eq_true, Nat.reduceLeDiff, Nat.le_refl, rl_still, e4, p4]) (fun _ => trivial) fun n2 hn2 => ?_
  simp -dsimp only [go_sem, Nat.reduceLT, Nat.reduceEqDiff, Nat.reduceAdd, Nat.reduceMul, Nat.reduceBEq, beq_self_eq_true, Nat.reduceLeDiff, Nat.le_refl, e1, e2, e3, p1, p2, p3]
  refine xcall_p (toLog_p _ _ h hs) (by simp -dsimp only [go_sem, Nat.reduceLT, Nat.reduceEqDiff, Nat.reduceAdd, Nat.reduceMul, Nat.reduceBEq, beq_self_eq_true, Nat.reduceLeDiff, Nat.le_refl, rl_still, e4]) fun m2 m3 u hm2 hm3 hu => ?_
  have hu1 := hu.1
  have ho2 := hu.2.tags
  have t := shp_log _ _ hu1
  have t1 := t.1
  have t2 := t.2.1
  have t3 := t.2.2.1
  have t4 := t.2.2.2
  refine ⟨ho2, ?_⟩
  simp -dsimp only [go_sem, Nat.reduceLT, Nat.reduceEqDiff, Nat.reduceAdd, Nat.reduceMul, Nat.reduceBEq, beq_self_eq_true, Nat.reduceLeDiff, Nat.le_refl, e1, e2, e3, t1, t2, t3]
  intro g2 b2 hb2
  refine xcall_v (logOk_p _ _ hu1) (by simp -dsimp only [go_sem, Nat.reduceLT, Nat.reduceEqDiff, Nat.reduceAdd, Nat.reduceMul, Nat.reduceBEq, beq_self_eq_true, Nat.reduceLeDiff, Nat.le_refl, rl_still, e4, t4]) (fun _ => trivial) fun n3 hn3 => ?_
  simp -dsimp only [go_sem, Nat.reduceLT, Nat.reduceEqDiff, Nat.reduceAdd, Nat.reduceMul, Nat.reduceBEq, beq_self_eq_true, Nat.reduceLeDiff, Nat.le_refl, e1, e2, e3, t1, t2, t3, bne_self_eq_false, Bool.not_true, Bool.not_false, Bool.false_eq_true, Bool.true_eq_false, false_imp_iff, true_and, and_true, forall_const, reduceCtorEq]
  refine iwp_plan [(0, true), (1, true), (2, false), (3, false), (4, true)] [1, 5] rfl (by decide +kernel) (by decide) ?_
  simp -dsimp only [go_sem, Nat.reduceLT, Nat.reduceEqDiff, Nat.reduceAdd, Nat.reduceMul, Nat.reduceBEq, beq_self_eq_true, Nat.reduceLeDiff, Nat.le_refl, e1, e2, e3, t1, t2, t3]
  refine xcall_p (toLog_p _ _ h hs) (by simp -dsimp only [go_sem, Nat.reduceLT, Nat.reduceEqDiff, Nat.reduceAdd, Nat.reduceMul, Nat.reduceBEq, beq_self_eq_true, Nat.reduceLeDiff, Nat.le_refl, rl_still, e4]) fun m4 m5 v hm4 hm5 hv => ?_
  have hv1 := hv.1
  have ho3 := hv.2.tags
  have w := shp_log _ _ hv1
  have w1 := w.1
  have w2 := w.2.1
  have w3 := w.2.2.1
  have w4 := w.2.2.2
  refine ⟨ho3, ?_⟩
  simp -dsimp only [go_sem, Nat.reduceLT, Nat.reduceEqDiff, Nat.reduceAdd, Nat.reduceMul, Nat.reduceBEq, beq_self_eq_true, Nat.reduceLeDiff, Nat.le_refl, e1, e2, e3, t1, t2, t3, w1, w2, w3]
  refine xcall_v (eqLog_p _ _ _ hu1 hv1) (by simp -dsimp only [go_sem, Nat.reduceLT, Nat.reduceEqDiff, Nat.reduceAdd, Nat.reduceMul, Nat.reduceBEq, beq_self_eq_true, Nat.reduceLeDiff, Nat.le_refl, rl_still, e4, t4, w4]) (fun _ => trivial) fun n4 hn4 => ?_
  simp -dsimp only [go_sem, Nat.reduceLT, Nat.reduceEqDiff, Nat.reduceAdd, Nat.reduceMul, Nat.reduceBEq, beq_self_eq_true, Nat.reduceLeDiff, Nat.le_refl, bne_self_eq_false, Bool.not_true, Bool.not_false, Bool.false_eq_true, Bool.true_eq_false, false_imp_iff, true_and, and_true, forall_const, reduceCtorEq]
end Go.Proofs.Ytjaddgkhlmallaa.IM
