/- Several of my texts in one module (merge.py). -/
import Derived.Test.YtkigfigdoaoboaaGreatA4
import Derived.Test.YtkigfigdoaoboaaGreatB44
section
/- The law of EngineOk. Printed by laws7.py. -/
namespace Go.Proofs.YtkigfigdoaoboaaGreat.IM
open Go Go.Proofs
set_option linter.unusedVariables false
set_option linter.unusedSimpArgs false
set_option maxHeartbeats 2000000
set_option maxRecDepth 20000
theorem lawEngineOk (d : D) (x : Md.Engine)  (h : IsEngine d x) : PCall Tryz.prog 5 [d] fun _ _ r => r = .lit (.bool true) := by
  have q := shp_engine _ _ h
  have e1 := q.1
  have e2 := q.2.1
  have e3 := q.2.2.1
  have e4 := q.2.2.2
  refine pcall_intro_v Tryz.func5 rfl (by decide) rfl (by decide) (by rw [Tryz.ntmps5]; simp) fun w0 M n0 => ivc_sound ?_; simp -dsimp only [Tryz.f5, go_sem, e1, e2, e3]
  intro g1 b1 hb1
  refine xcall_v (szEngine_p _ _ h 1048576 (by decide) (by decide)) (by simp -dsimp only [go_sem, rl_still, e4]) (fun _ => trivial) fun n1 hn1 => ?_
  simp -dsimp only [go_sem]
  intro hb
  have hs : Md.szEngine x ≤ 1048576 := by
    have := Md.szR_le _ _ hb
    omega
  simp -dsimp only [go_sem, e1, e2, e3]
  refine xcall_p (toEngine_p _ _ h hs) (by simp -dsimp only [go_sem, rl_still, e4]) fun m0 m1 r hm0 hm1 hr => ?_
  have hr1 := hr.1
  have ho1 := hr.2.tags
  have p := shp_engine _ _ hr1
  have p1 := p.1
  have p2 := p.2.1
  have p3 := p.2.2.1
  have p4 := p.2.2.2
  refine ⟨ho1, ?_⟩
  simp -dsimp only [go_sem, e1, e2, e3, p1, p2, p3]
  refine xcall_v (specEngineOk_p _ _ hr1 hs) (by simp -dsimp only [go_sem, rl_still, e4, p4]) (fun _ => trivial) fun n2 hn2 => ?_
  simp -dsimp only [go_sem, e1, e2, e3, p1, p2, p3]
  refine xcall_p (toEngine_p _ _ h hs) (by simp -dsimp only [go_sem, rl_still, e4]) fun m2 m3 u hm2 hm3 hu => ?_
  have hu1 := hu.1
  have ho2 := hu.2.tags
  have t := shp_engine _ _ hu1
  have t1 := t.1
  have t2 := t.2.1
  have t3 := t.2.2.1
  have t4 := t.2.2.2
  refine ⟨ho2, ?_⟩
  simp -dsimp only [go_sem, e1, e2, e3, t1, t2, t3]
  intro g2 b2 hb2
  refine xcall_v (engineOk_p _ _ hu1 hs hu1.data) (by simp -dsimp only [go_sem, rl_still, e4, t4]) (fun _ => trivial) fun n3 hn3 => ?_
  simp -dsimp only [go_sem, e1, e2, e3, t1, t2, t3, bne_self_eq_false, Bool.not_true, Bool.not_false, Bool.false_eq_true, Bool.true_eq_false, false_imp_iff, true_and, and_true, forall_const, reduceCtorEq]
  refine iwp_plan [(0, true), (1, true), (2, false), (3, false), (4, true)] [1, 5] rfl (by decide +kernel) (by decide) [] (by decide +kernel) ?_
  simp -dsimp only [go_sem, e1, e2, e3, t1, t2, t3]
  refine xcall_p (toEngine_p _ _ h hs) (by simp -dsimp only [go_sem, rl_still, e4]) fun m4 m5 v hm4 hm5 hv => ?_
  have hv1 := hv.1
  have ho3 := hv.2.tags
  have w := shp_engine _ _ hv1
  have w1 := w.1
  have w2 := w.2.1
  have w3 := w.2.2.1
  have w4 := w.2.2.2
  refine ⟨ho3, ?_⟩
  simp -dsimp only [go_sem, e1, e2, e3, t1, t2, t3, w1, w2, w3]
  refine xcall_v (eqEngine_p _ _ _ hu1 hv1) (by simp -dsimp only [go_sem, rl_still, e4, t4, w4]) (fun _ => trivial) fun n4 hn4 => ?_
  simp -dsimp only [go_sem, bne_self_eq_false, Bool.not_true, Bool.not_false, Bool.false_eq_true, Bool.true_eq_false, false_imp_iff, true_and, and_true, forall_const, reduceCtorEq]
end Go.Proofs.YtkigfigdoaoboaaGreat.IM
end
