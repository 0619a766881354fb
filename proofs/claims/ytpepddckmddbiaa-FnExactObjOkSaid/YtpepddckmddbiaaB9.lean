/- Several of my texts in one module (merge.py). -/
import Derived.Test.YtpepddckmddbiaaA5
import Derived.Test.YtpepddckmddbiaaA4
import Derived.Test.YtpepddckmddbiaaA6
section
/- Contracts: rows of numbers are equal; the program's SameObj. -/
namespace Go.Proofs.Ytpepddckmddbiaa.IM
open Go Go.Proofs
set_option linter.unusedVariables false
set_option linter.unusedSimpArgs false
set_option maxHeartbeats 2000000
set_option maxRecDepth 20000

theorem equalInts_p (d d' : D) (xs ys : List Int) (h : IsL 1 IsInt d xs) (h' : IsL 1 IsInt d' ys) : PCall Try.prog 153 [d, d'] fun _ _ r => r = .lit (.bool (decide (xs = ys))) := by
  refine pcall_intro_v Try.func153 rfl (by decide) rfl (by decide) (by rw [Try.ntmps153]; simp) fun w0 M n0 => ivc_sound ?_; simp -dsimp only [Try.f153, go_sem, Nat.reduceLT, Nat.reduceEqDiff, Nat.reduceAdd, Nat.reduceMul, Nat.reduceBEq, beq_self_eq_true, Nat.reduceLeDiff, Nat.le_refl, Int.reduceEq, reduceCtorEq, h.lenT, h'.lenT]
  refine ⟨fun hb => ?_, fun hb => ?_⟩
  · have : ¬ xs = ys := by rintro rfl; simp at hb
    simp [this]
  have hl : xs.length = ys.length := by simp at hb; omega
  refine iwp_forK xs.length [0, 1, 12] (fun i s => s 13 = .lit (.int .i64 i) ∧ ∀ j (_ : j < i) (h1 : j < xs.length) (h2 : j < ys.length), xs[j] = ys[j]) 0 (Nat.zero_le _) ⟨by simp -dsimp only [go_sem, Nat.reduceLT, Nat.reduceEqDiff, Nat.reduceAdd, Nat.reduceMul, Nat.reduceBEq, beq_self_eq_true, Nat.reduceLeDiff, Nat.le_refl, Int.reduceEq, reduceCtorEq]; rfl, fun j h => absurd h (by omega)⟩ ?_
  rintro i n' s hi hn hk ⟨h5, hall⟩
  refine ivc_sound ?_
  by_cases hlt : i < xs.length
  · have hlt' : i < ys.length := by omega
    obtain ⟨t, zb, fi, rfl, hst, hf⟩ := h.sl hlt
    obtain ⟨t', zb', fi', rfl, hst', hf'⟩ := h'.sl hlt'
    have hfi : fi i = _ := hf i hlt
    have hfi' : fi' i = _ := hf' i hlt'
    have hw := i64_succ (i := i) (by have := h.short; omega)
    simp -dsimp only [go_sem, Nat.reduceLT, Nat.reduceEqDiff, Nat.reduceAdd, Nat.reduceMul, Nat.reduceBEq, beq_self_eq_true, Nat.reduceLeDiff, Nat.le_refl, Int.reduceEq, reduceCtorEq] at hk
    simp -dsimp only [go_sem, Nat.reduceLT, Nat.reduceEqDiff, Nat.reduceAdd, Nat.reduceMul, Nat.reduceBEq, beq_self_eq_true, Nat.reduceLeDiff, Nat.le_refl, Int.reduceEq, reduceCtorEq, hk, h5, hlt, hw]
    refine iwp_plan [(0, true), (1, true), (2, true), (3, true), (4, true), (5, true), (6, true), (7, true), (8, true)] [] rfl (by decide +kernel) (by decide) [] (by decide +kernel) ?_
    simp -dsimp only [go_sem, Nat.reduceLT, Nat.reduceEqDiff, Nat.reduceAdd, Nat.reduceMul, Nat.reduceBEq, beq_self_eq_true, Nat.reduceLeDiff, Nat.le_refl, Int.reduceEq, reduceCtorEq, hk, h5, hlt, hlt', hw, hfi, hfi']
    refine ⟨fun hb2 => ?_, fun hb2 => into_k (by omega) (by simp -dsimp only [go_sem, Nat.reduceLT, Nat.reduceEqDiff, Nat.reduceAdd, Nat.reduceMul, Nat.reduceBEq, beq_self_eq_true, Nat.reduceLeDiff, Nat.le_refl, Int.reduceEq, reduceCtorEq, hk]) ⟨by simp -dsimp only [go_sem, Nat.reduceLT, Nat.reduceEqDiff, Nat.reduceAdd, Nat.reduceMul, Nat.reduceBEq, beq_self_eq_true, Nat.reduceLeDiff, Nat.le_refl, Int.reduceEq, reduceCtorEq], fun j h1 h2 h3 => ?_⟩⟩
    · have : ¬ xs = ys := by rintro rfl; simp at hb2
      simp [this]
    · rcases Nat.lt_or_ge j i with h4 | h4
      · exact hall j h4 h2 h3
      · obtain rfl : j = i := by omega
        simpa using hb2
  · simp -dsimp only [go_sem, Nat.reduceLT, Nat.reduceEqDiff, Nat.reduceAdd, Nat.reduceMul, Nat.reduceBEq, beq_self_eq_true, Nat.reduceLeDiff, Nat.le_refl, Int.reduceEq, reduceCtorEq] at hk
    simp -dsimp only [go_sem, Nat.reduceLT, Nat.reduceEqDiff, Nat.reduceAdd, Nat.reduceMul, Nat.reduceBEq, beq_self_eq_true, Nat.reduceLeDiff, Nat.le_refl, Int.reduceEq, reduceCtorEq, hk, h5, hlt, h.lenT]
    have : xs = ys := List.ext_getElem hl fun j h1 h2 => hall j (by omega) h1 h2
    simp [this]
theorem implSameObj_p (d d' : D) (x y : Md.Obj) (h : IsObj d x) (h' : IsObj d' y) : PCall Try.prog 50 [d, d'] fun _ _ r => r = .lit (.bool (sameO x y)) := by
  obtain ⟨f, rfl, hst, k0, k1, k2⟩ := h
  obtain ⟨f', rfl, hst', l0, l1, l2⟩ := h'
  have k0 : f 0 = _ := k0
  have l0 : f' 0 = _ := l0
  refine pcall_intro_v Try.func50 rfl (by decide) rfl (by decide) (by rw [Try.ntmps50]; simp) fun w0 M n0 => ivc_sound ?_; simp -dsimp only [Try.f50, go_sem, Nat.reduceLT, Nat.reduceEqDiff, Nat.reduceAdd, Nat.reduceMul, Nat.reduceBEq, beq_self_eq_true, Nat.reduceLeDiff, Nat.le_refl, Int.reduceEq, reduceCtorEq, k0, l0, k1.size, k1.isNode, k1.plain, l1.size, l1.isNode, l1.plain, k2.size, k2.isNode, k2.plain, l2.size, l2.isNode, l2.plain]
  intro g1 b1 hb1 g2 b2 hb2
  refine ⟨fun hb => ?_, ?_⟩
  rotate_left
  · first | (simp [sameO, *]; done) | (simp_all [sameO]; done) | (simp_all [sameO]; omega)
  refine xcall_v (equalInts_p _ _ _ _ k1 l1) (by simp -dsimp only [go_sem, Nat.reduceLT, Nat.reduceEqDiff, Nat.reduceAdd, Nat.reduceMul, Nat.reduceBEq, beq_self_eq_true, Nat.reduceLeDiff, Nat.le_refl, Int.reduceEq, reduceCtorEq, rl_still, k1.still, l1.still]) (fun _ => trivial) fun n1 hn1 => ?_
  simp -dsimp only [go_sem, Nat.reduceLT, Nat.reduceEqDiff, Nat.reduceAdd, Nat.reduceMul, Nat.reduceBEq, beq_self_eq_true, Nat.reduceLeDiff, Nat.le_refl, Int.reduceEq, reduceCtorEq, k0, l0, k1.size, k1.isNode, k1.plain, l1.size, l1.isNode, l1.plain, k2.size, k2.isNode, k2.plain, l2.size, l2.isNode, l2.plain]
  refine ⟨fun hb2 => ?_, ?_⟩
  rotate_left
  · first | (simp [sameO, *]; done) | (simp_all [sameO]; done) | (simp_all [sameO]; omega)
  refine xcall_v (equalInts_p _ _ _ _ k2 l2) (by simp -dsimp only [go_sem, Nat.reduceLT, Nat.reduceEqDiff, Nat.reduceAdd, Nat.reduceMul, Nat.reduceBEq, beq_self_eq_true, Nat.reduceLeDiff, Nat.le_refl, Int.reduceEq, reduceCtorEq, rl_still, k2.still, l2.still]) (fun _ => trivial) fun n2 hn2 => ?_
  simp -dsimp only [go_sem, Nat.reduceLT, Nat.reduceEqDiff, Nat.reduceAdd, Nat.reduceMul, Nat.reduceBEq, beq_self_eq_true, Nat.reduceLeDiff, Nat.le_refl, Int.reduceEq, reduceCtorEq, k0, l0, k1.size, k1.isNode, k1.plain, l1.size, l1.isNode, l1.plain, k2.size, k2.isNode, k2.plain, l2.size, l2.isNode, l2.plain]
  first | (simp [sameO, *]; done) | (simp_all [sameO]; done) | (simp_all [sameO]; omega)
end Go.Proofs.Ytpepddckmddbiaa.IM
end

section
/- The laws of ObjOk and SameObj. -/
namespace Go.Proofs.Ytpepddckmddbiaa.IM
open Go Go.Proofs
set_option linter.unusedVariables false
set_option linter.unusedSimpArgs false
set_option maxHeartbeats 2000000
set_option maxRecDepth 20000

theorem lawObjOk (d : D) (x : Md.Obj)  (h : IsObj d x) : PCall Try.prog 8 [d] fun _ _ r => r = .lit (.bool true) := by
  have q := shp_obj _ _ h
  have e1 := q.1
  have e2 := q.2.1
  have e3 := q.2.2.1
  have e4 := q.2.2.2
  refine pcall_intro_v Try.func8 rfl (by decide) rfl (by decide) (by rw [Try.ntmps8]; simp) fun w0 M n0 => ivc_sound ?_; simp -dsimp only [Try.f8, go_sem, Nat.reduceLT, Nat.reduceEqDiff, Nat.reduceAdd, Nat.reduceMul, Nat.reduceBEq, beq_self_eq_true, Nat.reduceLeDiff, Nat.le_refl, Int.reduceEq, reduceCtorEq, e1, e2, e3]
  intro g1 b1 hb1
  refine xcall_v (szObj_p _ _ h 1048576 (by decide) (by decide)) (by simp -dsimp only [go_sem, Nat.reduceLT, Nat.reduceEqDiff, Nat.reduceAdd, Nat.reduceMul, Nat.reduceBEq, beq_self_eq_true, Nat.reduceLeDiff, Nat.le_refl, Int.reduceEq, reduceCtorEq, rl_still, e4]) (fun _ => trivial) fun n1 hn1 => ?_
  simp -dsimp only [go_sem, Nat.reduceLT, Nat.reduceEqDiff, Nat.reduceAdd, Nat.reduceMul, Nat.reduceBEq, beq_self_eq_true, Nat.reduceLeDiff, Nat.le_refl, Int.reduceEq, reduceCtorEq]
  intro hb
  have hs : Md.szObj x ≤ 1048576 := by
    have := Md.szR_le _ _ hb
    omega
  simp -dsimp only [go_sem, Nat.reduceLT, Nat.reduceEqDiff, Nat.reduceAdd, Nat.reduceMul, Nat.reduceBEq, beq_self_eq_true, Nat.reduceLeDiff, Nat.le_refl, Int.reduceEq, reduceCtorEq, e1, e2, e3]
  refine xcall_p (toObj_p _ _ h hs) (by simp -dsimp only [go_sem, Nat.reduceLT, Nat.reduceEqDiff, Nat.reduceAdd, Nat.reduceMul, Nat.reduceBEq, beq_self_eq_true, Nat.reduceLeDiff, Nat.le_refl, Int.reduceEq, reduceCtorEq, rl_still, e4]) fun m0 m1 r hm0 hm1 hr => ?_
  have hr1 := hr.1
  have ho1 := hr.2.tags
  have p := shp_obj _ _ hr1
  have p1 := p.1
  have p2 := p.2.1
  have p3 := p.2.2.1
  have p4 := p.2.2.2
  refine ⟨ho1, ?_⟩
  simp -dsimp only [go_sem, Nat.reduceLT, Nat.reduceEqDiff, Nat.reduceAdd, Nat.reduceMul, Nat.reduceBEq, beq_self_eq_true, Nat.reduceLeDiff, Nat.le_refl, Int.reduceEq, reduceCtorEq, e1, e2, e3, p1, p2, p3]
  refine xcall_v (l1ObjOk_p _ _ hr1) (by simp -dsimp only [go_sem, Nat.reduceLT, Nat.reduceEqDiff, Nat.reduceAdd, Nat.reduceMul, Nat.reduceBEq, beq_self_eq_true, Nat.reduceLeDiff, Nat.le_refl, Int.reduceEq, reduceCtorEq, rl_still, e4, p4]) (fun _ => trivial) fun n2 hn2 => ?_
  simp -dsimp only [go_sem, Nat.reduceLT, Nat.reduceEqDiff, Nat.reduceAdd, Nat.reduceMul, Nat.reduceBEq, beq_self_eq_true, Nat.reduceLeDiff, Nat.le_refl, Int.reduceEq, reduceCtorEq, e1, e2, e3, p1, p2, p3]
  refine xcall_p (toObj_p _ _ h hs) (by simp -dsimp only [go_sem, Nat.reduceLT, Nat.reduceEqDiff, Nat.reduceAdd, Nat.reduceMul, Nat.reduceBEq, beq_self_eq_true, Nat.reduceLeDiff, Nat.le_refl, Int.reduceEq, reduceCtorEq, rl_still, e4]) fun m2 m3 u hm2 hm3 hu => ?_
  have hu1 := hu.1
  have ho2 := hu.2.tags
  have t := shp_obj _ _ hu1
  have t1 := t.1
  have t2 := t.2.1
  have t3 := t.2.2.1
  have t4 := t.2.2.2
  refine ⟨ho2, ?_⟩
  simp -dsimp only [go_sem, Nat.reduceLT, Nat.reduceEqDiff, Nat.reduceAdd, Nat.reduceMul, Nat.reduceBEq, beq_self_eq_true, Nat.reduceLeDiff, Nat.le_refl, Int.reduceEq, reduceCtorEq, e1, e2, e3, t1, t2, t3]
  intro g2 b2 hb2
  refine xcall_v (objOk_p _ _ hu1) (by simp -dsimp only [go_sem, Nat.reduceLT, Nat.reduceEqDiff, Nat.reduceAdd, Nat.reduceMul, Nat.reduceBEq, beq_self_eq_true, Nat.reduceLeDiff, Nat.le_refl, Int.reduceEq, reduceCtorEq, rl_still, e4, t4]) (fun _ => trivial) fun n3 hn3 => ?_
  simp -dsimp only [go_sem, Nat.reduceLT, Nat.reduceEqDiff, Nat.reduceAdd, Nat.reduceMul, Nat.reduceBEq, beq_self_eq_true, Nat.reduceLeDiff, Nat.le_refl, Int.reduceEq, reduceCtorEq, e1, e2, e3, t1, t2, t3, bne_self_eq_false, Bool.not_true, Bool.not_false, Bool.false_eq_true, Bool.true_eq_false, false_imp_iff, true_and, and_true, forall_const, reduceCtorEq]
  refine iwp_plan [(0, true), (1, true), (2, false), (3, false), (4, true)] [1, 5] rfl (by decide +kernel) (by decide) [] (by decide +kernel) ?_
  simp -dsimp only [go_sem, Nat.reduceLT, Nat.reduceEqDiff, Nat.reduceAdd, Nat.reduceMul, Nat.reduceBEq, beq_self_eq_true, Nat.reduceLeDiff, Nat.le_refl, Int.reduceEq, reduceCtorEq, e1, e2, e3, t1, t2, t3]
  refine xcall_p (toObj_p _ _ h hs) (by simp -dsimp only [go_sem, Nat.reduceLT, Nat.reduceEqDiff, Nat.reduceAdd, Nat.reduceMul, Nat.reduceBEq, beq_self_eq_true, Nat.reduceLeDiff, Nat.le_refl, Int.reduceEq, reduceCtorEq, rl_still, e4]) fun m4 m5 v hm4 hm5 hv => ?_
  have hv1 := hv.1
  have ho3 := hv.2.tags
  have w := shp_obj _ _ hv1
  have w1 := w.1
  have w2 := w.2.1
  have w3 := w.2.2.1
  have w4 := w.2.2.2
  refine ⟨ho3, ?_⟩
  simp -dsimp only [go_sem, Nat.reduceLT, Nat.reduceEqDiff, Nat.reduceAdd, Nat.reduceMul, Nat.reduceBEq, beq_self_eq_true, Nat.reduceLeDiff, Nat.le_refl, Int.reduceEq, reduceCtorEq, e1, e2, e3, t1, t2, t3, w1, w2, w3]
  refine xcall_v (eqObj_p _ _ _ hu1 hv1) (by simp -dsimp only [go_sem, Nat.reduceLT, Nat.reduceEqDiff, Nat.reduceAdd, Nat.reduceMul, Nat.reduceBEq, beq_self_eq_true, Nat.reduceLeDiff, Nat.le_refl, Int.reduceEq, reduceCtorEq, rl_still, e4, t4, w4]) (fun _ => trivial) fun n4 hn4 => ?_
  simp -dsimp only [go_sem, Nat.reduceLT, Nat.reduceEqDiff, Nat.reduceAdd, Nat.reduceMul, Nat.reduceBEq, beq_self_eq_true, Nat.reduceLeDiff, Nat.le_refl, Int.reduceEq, reduceCtorEq, bne_self_eq_false, Bool.not_true, Bool.not_false, Bool.false_eq_true, Bool.true_eq_false, false_imp_iff, true_and, and_true, forall_const, reduceCtorEq]
theorem lawSameObj (d dS : D) (x y0 : Md.Obj) (h : IsObj d x) (hS : IsObj dS y0) : PCall Try.prog 6 [d, dS] fun _ _ r => r = .lit (.bool true) := by
  have e := shp_obj _ _ h
  have e1 := e.1
  have e2 := e.2.1
  have e3 := e.2.2.1
  have e4 := e.2.2.2
  have c := shp_obj _ _ hS
  have c1 := c.1
  have c2 := c.2.1
  have c3 := c.2.2.1
  have c4 := c.2.2.2
  refine pcall_intro_v Try.func6 rfl (by decide) rfl (by decide) (by rw [Try.ntmps6]; simp) fun w0 M n0 => ivc_sound ?_; simp -dsimp only [Try.f6, go_sem, Nat.reduceLT, Nat.reduceEqDiff, Nat.reduceAdd, Nat.reduceMul, Nat.reduceBEq, beq_self_eq_true, Nat.reduceLeDiff, Nat.le_refl, Int.reduceEq, reduceCtorEq, e1, e2, e3, c1, c2, c3]
  intro g1 b1 hb1 g2 b2 hb2
  refine xcall_v (szObj_p _ _ h 1048576 (by decide) (by decide)) (by simp -dsimp only [go_sem, Nat.reduceLT, Nat.reduceEqDiff, Nat.reduceAdd, Nat.reduceMul, Nat.reduceBEq, beq_self_eq_true, Nat.reduceLeDiff, Nat.le_refl, Int.reduceEq, reduceCtorEq, rl_still, e4]) (fun _ => trivial) fun n1 hn1 => ?_
  simp -dsimp only [go_sem, Nat.reduceLT, Nat.reduceEqDiff, Nat.reduceAdd, Nat.reduceMul, Nat.reduceBEq, beq_self_eq_true, Nat.reduceLeDiff, Nat.le_refl, Int.reduceEq, reduceCtorEq]
  intro hb
  have hs : Md.szObj x ≤ 1048576 := by
    have := Md.szR_le _ _ hb
    omega
  obtain ⟨l0, l1⟩ := Md.szR_rg _ _ (by decide) (by decide) hb
  simp -dsimp only [go_sem, Nat.reduceLT, Nat.reduceEqDiff, Nat.reduceAdd, Nat.reduceMul, Nat.reduceBEq, beq_self_eq_true, Nat.reduceLeDiff, Nat.le_refl, Int.reduceEq, reduceCtorEq, e1, e2, e3, c1, c2, c3]
  refine xcall_v (szObj_p _ _ hS _ l0 l1) (by simp -dsimp only [go_sem, Nat.reduceLT, Nat.reduceEqDiff, Nat.reduceAdd, Nat.reduceMul, Nat.reduceBEq, beq_self_eq_true, Nat.reduceLeDiff, Nat.le_refl, Int.reduceEq, reduceCtorEq, rl_still, c4]) (fun _ => trivial) fun n2 hn2 => ?_
  simp -dsimp only [go_sem, Nat.reduceLT, Nat.reduceEqDiff, Nat.reduceAdd, Nat.reduceMul, Nat.reduceBEq, beq_self_eq_true, Nat.reduceLeDiff, Nat.le_refl, Int.reduceEq, reduceCtorEq]
  intro hb2'
  have hs2 : Md.szObj y0 ≤ 1048576 := by
    have := Md.szR_le _ _ hb2'
    omega
  refine iwp_plan [(0, true), (2, true), (1, false), (3, false), (4, false), (5, true)] [2, 3] rfl (by decide +kernel) (by decide) [] (by decide +kernel) ?_
  simp -dsimp only [go_sem, Nat.reduceLT, Nat.reduceEqDiff, Nat.reduceAdd, Nat.reduceMul, Nat.reduceBEq, beq_self_eq_true, Nat.reduceLeDiff, Nat.le_refl, Int.reduceEq, reduceCtorEq, e1, e2, e3, c1, c2, c3]
  refine xcall_p (toObj_p _ _ h hs) (by simp -dsimp only [go_sem, Nat.reduceLT, Nat.reduceEqDiff, Nat.reduceAdd, Nat.reduceMul, Nat.reduceBEq, beq_self_eq_true, Nat.reduceLeDiff, Nat.le_refl, Int.reduceEq, reduceCtorEq, rl_still, e4]) fun rlo rhi r hrlo hrhi hr => ?_
  have ro := hr.2
  have ri := hr.1
  have rp := shp_obj _ _ ri
  have rp1 := rp.1
  have rp2 := rp.2.1
  have rp3 := rp.2.2.1
  have rp4 := rp.2.2.2
  refine ⟨ro.tags, ?_⟩
  simp -dsimp only [go_sem, Nat.reduceLT, Nat.reduceEqDiff, Nat.reduceAdd, Nat.reduceMul, Nat.reduceBEq, beq_self_eq_true, Nat.reduceLeDiff, Nat.le_refl, Int.reduceEq, reduceCtorEq, e1, e2, e3, c1, c2, c3, rp1, rp2, rp3]
  refine xcall_p (toObj_p _ _ hS hs2) (by simp -dsimp only [go_sem, Nat.reduceLT, Nat.reduceEqDiff, Nat.reduceAdd, Nat.reduceMul, Nat.reduceBEq, beq_self_eq_true, Nat.reduceLeDiff, Nat.le_refl, Int.reduceEq, reduceCtorEq, rl_still, c4]) fun ulo uhi u hulo huhi hu => ?_
  have uo := hu.2
  have ui := hu.1
  have up := shp_obj _ _ ui
  have up1 := up.1
  have up2 := up.2.1
  have up3 := up.2.2.1
  have up4 := up.2.2.2
  refine ⟨uo.tags, ?_⟩
  simp -dsimp only [go_sem, Nat.reduceLT, Nat.reduceEqDiff, Nat.reduceAdd, Nat.reduceMul, Nat.reduceBEq, beq_self_eq_true, Nat.reduceLeDiff, Nat.le_refl, Int.reduceEq, reduceCtorEq, e1, e2, e3, c1, c2, c3, rp1, rp2, rp3, up1, up2, up3]
  refine xcall_v (sameObj_p _ _ _ _ ri ui) (by simp -dsimp only [go_sem, Nat.reduceLT, Nat.reduceEqDiff, Nat.reduceAdd, Nat.reduceMul, Nat.reduceBEq, beq_self_eq_true, Nat.reduceLeDiff, Nat.le_refl, Int.reduceEq, reduceCtorEq, rl_still, rp4, up4]) (fun _ => trivial) fun n4 hn4 => ?_
  simp -dsimp only [go_sem, Nat.reduceLT, Nat.reduceEqDiff, Nat.reduceAdd, Nat.reduceMul, Nat.reduceBEq, beq_self_eq_true, Nat.reduceLeDiff, Nat.le_refl, Int.reduceEq, reduceCtorEq, e1, e2, e3, c1, c2, c3]
  refine xcall_p (toObj_p _ _ h hs) (by simp -dsimp only [go_sem, Nat.reduceLT, Nat.reduceEqDiff, Nat.reduceAdd, Nat.reduceMul, Nat.reduceBEq, beq_self_eq_true, Nat.reduceLeDiff, Nat.le_refl, Int.reduceEq, reduceCtorEq, rl_still, e4]) fun xlo xhi x hxlo hxhi hx => ?_
  have xo := hx.2
  have xi := hx.1
  have xp := shp_obj _ _ xi
  have xp1 := xp.1
  have xp2 := xp.2.1
  have xp3 := xp.2.2.1
  have xp4 := xp.2.2.2
  refine ⟨xo.tags, ?_⟩
  simp -dsimp only [go_sem, Nat.reduceLT, Nat.reduceEqDiff, Nat.reduceAdd, Nat.reduceMul, Nat.reduceBEq, beq_self_eq_true, Nat.reduceLeDiff, Nat.le_refl, Int.reduceEq, reduceCtorEq, e1, e2, e3, c1, c2, c3, xp1, xp2, xp3]
  intro g7 b7 hb7
  refine xcall_p (toObj_p _ _ hS hs2) (by simp -dsimp only [go_sem, Nat.reduceLT, Nat.reduceEqDiff, Nat.reduceAdd, Nat.reduceMul, Nat.reduceBEq, beq_self_eq_true, Nat.reduceLeDiff, Nat.le_refl, Int.reduceEq, reduceCtorEq, rl_still, c4]) fun ylo yhi y hylo hyhi hy => ?_
  have yo := hy.2
  have yi := hy.1
  have yp := shp_obj _ _ yi
  have yp1 := yp.1
  have yp2 := yp.2.1
  have yp3 := yp.2.2.1
  have yp4 := yp.2.2.2
  refine ⟨yo.tags, ?_⟩
  simp -dsimp only [go_sem, Nat.reduceLT, Nat.reduceEqDiff, Nat.reduceAdd, Nat.reduceMul, Nat.reduceBEq, beq_self_eq_true, Nat.reduceLeDiff, Nat.le_refl, Int.reduceEq, reduceCtorEq, e1, e2, e3, c1, c2, c3, xp1, xp2, xp3, yp1, yp2, yp3]
  intro g8 b8 hb8
  refine xcall_v (implSameObj_p _ _ _ _ xi yi) (by simp -dsimp only [go_sem, Nat.reduceLT, Nat.reduceEqDiff, Nat.reduceAdd, Nat.reduceMul, Nat.reduceBEq, beq_self_eq_true, Nat.reduceLeDiff, Nat.le_refl, Int.reduceEq, reduceCtorEq, rl_still, xp4, yp4]) (fun _ => trivial) fun n4 hn4 => ?_
  simp -dsimp only [go_sem, Nat.reduceLT, Nat.reduceEqDiff, Nat.reduceAdd, Nat.reduceMul, Nat.reduceBEq, beq_self_eq_true, Nat.reduceLeDiff, Nat.le_refl, Int.reduceEq, reduceCtorEq, e1, e2, e3, c1, c2, c3, xp1, xp2, xp3, yp1, yp2, yp3, bne_self_eq_false, Bool.not_true, Bool.not_false, Bool.false_eq_true, Bool.true_eq_false, false_imp_iff, true_and, and_true, forall_const, reduceCtorEq]
  refine iwp_plan [(0, true), (1, true), (2, false), (3, false), (4, true)] [2, 7] rfl (by decide +kernel) (by decide) [] (by decide +kernel) ?_
  simp -dsimp only [go_sem, Nat.reduceLT, Nat.reduceEqDiff, Nat.reduceAdd, Nat.reduceMul, Nat.reduceBEq, beq_self_eq_true, Nat.reduceLeDiff, Nat.le_refl, Int.reduceEq, reduceCtorEq, e1, e2, e3, c1, c2, c3, xp1, xp2, xp3, yp1, yp2, yp3]
  refine xcall_p (toObj_p _ _ h hs) (by simp -dsimp only [go_sem, Nat.reduceLT, Nat.reduceEqDiff, Nat.reduceAdd, Nat.reduceMul, Nat.reduceBEq, beq_self_eq_true, Nat.reduceLeDiff, Nat.le_refl, Int.reduceEq, reduceCtorEq, rl_still, e4]) fun zlo zhi z hzlo hzhi hz => ?_
  have zo := hz.2
  have zi := hz.1
  have zp := shp_obj _ _ zi
  have zp1 := zp.1
  have zp2 := zp.2.1
  have zp3 := zp.2.2.1
  have zp4 := zp.2.2.2
  refine ⟨zo.tags, ?_⟩
  simp -dsimp only [go_sem, Nat.reduceLT, Nat.reduceEqDiff, Nat.reduceAdd, Nat.reduceMul, Nat.reduceBEq, beq_self_eq_true, Nat.reduceLeDiff, Nat.le_refl, Int.reduceEq, reduceCtorEq, e1, e2, e3, c1, c2, c3, xp1, xp2, xp3, yp1, yp2, yp3, zp1, zp2, zp3]
  refine xcall_v (eqObj_p _ _ _ xi zi) (by simp -dsimp only [go_sem, Nat.reduceLT, Nat.reduceEqDiff, Nat.reduceAdd, Nat.reduceMul, Nat.reduceBEq, beq_self_eq_true, Nat.reduceLeDiff, Nat.le_refl, Int.reduceEq, reduceCtorEq, rl_still, xp4, zp4]) (fun _ => trivial) fun n4 hn4 => ?_
  simp -dsimp only [go_sem, Nat.reduceLT, Nat.reduceEqDiff, Nat.reduceAdd, Nat.reduceMul, Nat.reduceBEq, beq_self_eq_true, Nat.reduceLeDiff, Nat.le_refl, Int.reduceEq, reduceCtorEq, e1, e2, e3, c1, c2, c3, xp1, xp2, xp3, yp1, yp2, yp3, zp1, zp2, zp3, bne_self_eq_false, Bool.not_true, Bool.not_false, Bool.false_eq_true, Bool.true_eq_false, false_imp_iff, true_and, and_true, forall_const, reduceCtorEq]
  refine iwp_plan [(0, true), (1, true), (2, false), (3, false), (4, true)] [3, 8] rfl (by decide +kernel) (by decide) [] (by decide +kernel) ?_
  simp -dsimp only [go_sem, Nat.reduceLT, Nat.reduceEqDiff, Nat.reduceAdd, Nat.reduceMul, Nat.reduceBEq, beq_self_eq_true, Nat.reduceLeDiff, Nat.le_refl, Int.reduceEq, reduceCtorEq, e1, e2, e3, c1, c2, c3, xp1, xp2, xp3, yp1, yp2, yp3]
  refine xcall_p (toObj_p _ _ hS hs2) (by simp -dsimp only [go_sem, Nat.reduceLT, Nat.reduceEqDiff, Nat.reduceAdd, Nat.reduceMul, Nat.reduceBEq, beq_self_eq_true, Nat.reduceLeDiff, Nat.le_refl, Int.reduceEq, reduceCtorEq, rl_still, c4]) fun wlo whi w hwlo hwhi hw => ?_
  have wo := hw.2
  have wi := hw.1
  have wp := shp_obj _ _ wi
  have wp1 := wp.1
  have wp2 := wp.2.1
  have wp3 := wp.2.2.1
  have wp4 := wp.2.2.2
  refine ⟨wo.tags, ?_⟩
  simp -dsimp only [go_sem, Nat.reduceLT, Nat.reduceEqDiff, Nat.reduceAdd, Nat.reduceMul, Nat.reduceBEq, beq_self_eq_true, Nat.reduceLeDiff, Nat.le_refl, Int.reduceEq, reduceCtorEq, e1, e2, e3, c1, c2, c3, xp1, xp2, xp3, yp1, yp2, yp3, wp1, wp2, wp3]
  refine xcall_v (eqObj_p _ _ _ yi wi) (by simp -dsimp only [go_sem, Nat.reduceLT, Nat.reduceEqDiff, Nat.reduceAdd, Nat.reduceMul, Nat.reduceBEq, beq_self_eq_true, Nat.reduceLeDiff, Nat.le_refl, Int.reduceEq, reduceCtorEq, rl_still, yp4, wp4]) (fun _ => trivial) fun n4 hn4 => ?_
  simp -dsimp only [go_sem, Nat.reduceLT, Nat.reduceEqDiff, Nat.reduceAdd, Nat.reduceMul, Nat.reduceBEq, beq_self_eq_true, Nat.reduceLeDiff, Nat.le_refl, Int.reduceEq, reduceCtorEq, e1, e2, e3, c1, c2, c3, xp1, xp2, xp3, yp1, yp2, yp3, wp1, wp2, wp3, bne_self_eq_false, Bool.not_true, Bool.not_false, Bool.false_eq_true, Bool.true_eq_false, false_imp_iff, true_and, and_true, forall_const, reduceCtorEq]
end Go.Proofs.Ytpepddckmddbiaa.IM
end
