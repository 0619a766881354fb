/- Contracts of the laws' functions that compare: values of one content are equal. Printed by laws_eq.py. -/
import Derived.Test.YtjaddgkhlmallaaD2
import Derived.Test.YtjaddgkhlmallaaIm23
namespace Go.Proofs.Ytjaddgkhlmallaa.IM
open Go Go.Proofs
set_option linter.unusedVariables false
set_option linter.unusedSimpArgs false
set_option maxHeartbeats 2000000
set_option maxRecDepth 20000

theorem eqIntS_p (d d' : D) (xs : List Int) (h : IsL 1 IsInt d xs) (h' : IsL 1 IsInt d' xs) : PCall Try.prog 80 [d, d'] fun _ _ r => r = .lit (.bool true) := by
  refine pcall_intro_v Try.func80 rfl (by decide) rfl (by decide) (by rw [Try.ntmps80]; simp) fun w0 M n0 => ivc_sound ?_; simp -dsimp only [Try.f80, go_sem, Nat.reduceLT, Nat.reduceEqDiff, Nat.reduceAdd, Nat.reduceMul, Nat.reduceBEq, beq_self_eq_true, Nat.reduceLeDiff, Nat.le_refl, h.lenT, h'.lenT, bne_self_eq_false, Bool.not_true, Bool.not_false, Bool.false_eq_true, Bool.true_eq_false, false_imp_iff, true_and, and_true, forall_const, reduceCtorEq]
  refine iwp_forK xs.length [0, 1] (fun i s => s 5 = .lit (.int .i64 i)) 0 (Nat.zero_le _) (by simp -dsimp only [go_sem, Nat.reduceLT, Nat.reduceEqDiff, Nat.reduceAdd, Nat.reduceMul, Nat.reduceBEq, beq_self_eq_true, Nat.reduceLeDiff, Nat.le_refl]; rfl) ?_
  rintro i n' s hi hn hk h5
  refine ivc_sound ?_
  by_cases hlt : i < xs.length
  · obtain ⟨t, zb, fi, rfl, hst, hf⟩ := h.sl hlt
    obtain ⟨t', zb', fi', rfl, hst', hf'⟩ := h'.sl hlt
    have hfi : fi i = _ := hf i hlt
    have hfi' : fi' i = _ := hf' i hlt
    have hw := i64_succ (i := i) (by have := h.short; omega)
    simp -dsimp only [go_sem, Nat.reduceLT, Nat.reduceEqDiff, Nat.reduceAdd, Nat.reduceMul, Nat.reduceBEq, beq_self_eq_true, Nat.reduceLeDiff, Nat.le_refl] at hk
    simp -dsimp only [go_sem, Nat.reduceLT, Nat.reduceEqDiff, Nat.reduceAdd, Nat.reduceMul, Nat.reduceBEq, beq_self_eq_true, Nat.reduceLeDiff, Nat.le_refl, hk, h5, hlt, hw]
    refine iwp_plan [(0, true), (1, true), (2, true), (3, true), (4, true), (5, true), (6, true), (7, true), (8, true)] [] rfl (by decide +kernel) (by decide) ?_
    simp -dsimp only [go_sem, Nat.reduceLT, Nat.reduceEqDiff, Nat.reduceAdd, Nat.reduceMul, Nat.reduceBEq, beq_self_eq_true, Nat.reduceLeDiff, Nat.le_refl, hk, h5, hlt, hw, hfi, hfi', bne_self_eq_false, Bool.not_true, Bool.not_false, Bool.false_eq_true, Bool.true_eq_false, false_imp_iff, true_and, and_true, forall_const, reduceCtorEq]
    exact into_k (by omega) (by simp -dsimp only [go_sem, Nat.reduceLT, Nat.reduceEqDiff, Nat.reduceAdd, Nat.reduceMul, Nat.reduceBEq, beq_self_eq_true, Nat.reduceLeDiff, Nat.le_refl, hk]) (by simp -dsimp only [go_sem, Nat.reduceLT, Nat.reduceEqDiff, Nat.reduceAdd, Nat.reduceMul, Nat.reduceBEq, beq_self_eq_true, Nat.reduceLeDiff, Nat.le_refl])
  · simp -dsimp only [go_sem, Nat.reduceLT, Nat.reduceEqDiff, Nat.reduceAdd, Nat.reduceMul, Nat.reduceBEq, beq_self_eq_true, Nat.reduceLeDiff, Nat.le_refl] at hk
    simp -dsimp only [go_sem, Nat.reduceLT, Nat.reduceEqDiff, Nat.reduceAdd, Nat.reduceMul, Nat.reduceBEq, beq_self_eq_true, Nat.reduceLeDiff, Nat.le_refl, hk, h5, hlt, h.lenT]
theorem eqByteS_p (d d' : D) (xs : List Int) (h : IsL 1 IsByte d xs) (h' : IsL 1 IsByte d' xs) : PCall Try.prog 44 [d, d'] fun _ _ r => r = .lit (.bool true) := by
  refine pcall_intro_v Try.func44 rfl (by decide) rfl (by decide) (by rw [Try.ntmps44]; simp) fun w0 M n0 => ivc_sound ?_; simp -dsimp only [Try.f44, go_sem, Nat.reduceLT, Nat.reduceEqDiff, Nat.reduceAdd, Nat.reduceMul, Nat.reduceBEq, beq_self_eq_true, Nat.reduceLeDiff, Nat.le_refl, h.lenT, h'.lenT, bne_self_eq_false, Bool.not_true, Bool.not_false, Bool.false_eq_true, Bool.true_eq_false, false_imp_iff, true_and, and_true, forall_const, reduceCtorEq]
  refine iwp_forK xs.length [0, 1] (fun i s => s 5 = .lit (.int .i64 i)) 0 (Nat.zero_le _) (by simp -dsimp only [go_sem, Nat.reduceLT, Nat.reduceEqDiff, Nat.reduceAdd, Nat.reduceMul, Nat.reduceBEq, beq_self_eq_true, Nat.reduceLeDiff, Nat.le_refl]; rfl) ?_
  rintro i n' s hi hn hk h5
  refine ivc_sound ?_
  by_cases hlt : i < xs.length
  · obtain ⟨t, zb, fi, rfl, hst, hf⟩ := h.sl hlt
    obtain ⟨t', zb', fi', rfl, hst', hf'⟩ := h'.sl hlt
    have hfi : fi i = _ := hf i hlt
    have hfi' : fi' i = _ := hf' i hlt
    have hw := i64_succ (i := i) (by have := h.short; omega)
    simp -dsimp only [go_sem, Nat.reduceLT, Nat.reduceEqDiff, Nat.reduceAdd, Nat.reduceMul, Nat.reduceBEq, beq_self_eq_true, Nat.reduceLeDiff, Nat.le_refl] at hk
    simp -dsimp only [go_sem, Nat.reduceLT, Nat.reduceEqDiff, Nat.reduceAdd, Nat.reduceMul, Nat.reduceBEq, beq_self_eq_true, Nat.reduceLeDiff, Nat.le_refl, hk, h5, hlt, hw]
    refine iwp_plan [(0, true), (1, true), (2, true), (3, true), (4, true), (5, true), (6, true), (7, true), (8, true)] [] rfl (by decide +kernel) (by decide) ?_
    simp -dsimp only [go_sem, Nat.reduceLT, Nat.reduceEqDiff, Nat.reduceAdd, Nat.reduceMul, Nat.reduceBEq, beq_self_eq_true, Nat.reduceLeDiff, Nat.le_refl, hk, h5, hlt, hw, hfi, hfi', bne_self_eq_false, Bool.not_true, Bool.not_false, Bool.false_eq_true, Bool.true_eq_false, false_imp_iff, true_and, and_true, forall_const, reduceCtorEq]
    exact into_k (by omega) (by simp -dsimp only [go_sem, Nat.reduceLT, Nat.reduceEqDiff, Nat.reduceAdd, Nat.reduceMul, Nat.reduceBEq, beq_self_eq_true, Nat.reduceLeDiff, Nat.le_refl, hk]) (by simp -dsimp only [go_sem, Nat.reduceLT, Nat.reduceEqDiff, Nat.reduceAdd, Nat.reduceMul, Nat.reduceBEq, beq_self_eq_true, Nat.reduceLeDiff, Nat.le_refl])
  · simp -dsimp only [go_sem, Nat.reduceLT, Nat.reduceEqDiff, Nat.reduceAdd, Nat.reduceMul, Nat.reduceBEq, beq_self_eq_true, Nat.reduceLeDiff, Nat.le_refl] at hk
    simp -dsimp only [go_sem, Nat.reduceLT, Nat.reduceEqDiff, Nat.reduceAdd, Nat.reduceMul, Nat.reduceBEq, beq_self_eq_true, Nat.reduceLeDiff, Nat.le_refl, hk, h5, hlt, h.lenT]
theorem eqObj_p (d d' : D) (x : Md.Obj) (h : IsObj d x) (h' : IsObj d' x) : PCall Try.prog 45 [d, d'] fun _ _ r => r = .lit (.bool true) := by
  obtain ⟨f, rfl, hst, k0, k1, k2⟩ := h
  obtain ⟨f', rfl, hst', l0, l1, l2⟩ := h'
  have k0 : f 0 = _ := k0
  have l0 : f' 0 = _ := l0
  refine pcall_intro_v Try.func45 rfl (by decide) rfl (by decide) (by rw [Try.ntmps45]; simp) fun w0 M n0 => ivc_sound ?_; simp -dsimp only [Try.f45, go_sem, Nat.reduceLT, Nat.reduceEqDiff, Nat.reduceAdd, Nat.reduceMul, Nat.reduceBEq, beq_self_eq_true, Nat.reduceLeDiff, Nat.le_refl, k0, l0, k1.size, k1.isNode, k1.plain, l1.size, l1.isNode, l1.plain, k2.size, k2.isNode, k2.plain, l2.size, l2.isNode, l2.plain, bne_self_eq_false, Bool.not_true, Bool.not_false, Bool.false_eq_true, Bool.true_eq_false, false_imp_iff, true_and, and_true, forall_const, reduceCtorEq]
  intro g1 b1 hb1 g2 b2 hb2
  refine xcall_v (eqIntS_p _ _ _ k1 l1) (by simp -dsimp only [go_sem, Nat.reduceLT, Nat.reduceEqDiff, Nat.reduceAdd, Nat.reduceMul, Nat.reduceBEq, beq_self_eq_true, Nat.reduceLeDiff, Nat.le_refl, rl_still, k1.still, l1.still]) (fun _ => trivial) fun m1 hm1 => ?_
  simp -dsimp only [go_sem, Nat.reduceLT, Nat.reduceEqDiff, Nat.reduceAdd, Nat.reduceMul, Nat.reduceBEq, beq_self_eq_true, Nat.reduceLeDiff, Nat.le_refl, k0, l0, k1.size, k1.isNode, k1.plain, l1.size, l1.isNode, l1.plain, k2.size, k2.isNode, k2.plain, l2.size, l2.isNode, l2.plain, bne_self_eq_false, Bool.not_true, Bool.not_false, Bool.false_eq_true, Bool.true_eq_false, false_imp_iff, true_and, and_true, forall_const, reduceCtorEq]
  refine xcall_v (eqIntS_p _ _ _ k2 l2) (by simp -dsimp only [go_sem, Nat.reduceLT, Nat.reduceEqDiff, Nat.reduceAdd, Nat.reduceMul, Nat.reduceBEq, beq_self_eq_true, Nat.reduceLeDiff, Nat.le_refl, rl_still, k2.still, l2.still]) (fun _ => trivial) fun m2 hm2 => ?_
  simp -dsimp only [go_sem, Nat.reduceLT, Nat.reduceEqDiff, Nat.reduceAdd, Nat.reduceMul, Nat.reduceBEq, beq_self_eq_true, Nat.reduceLeDiff, Nat.le_refl, k0, l0, k1.size, k1.isNode, k1.plain, l1.size, l1.isNode, l1.plain, k2.size, k2.isNode, k2.plain, l2.size, l2.isNode, l2.plain, bne_self_eq_false, Bool.not_true, Bool.not_false, Bool.false_eq_true, Bool.true_eq_false, false_imp_iff, true_and, and_true, forall_const, reduceCtorEq]
theorem eqSlot_p (d d' : D) (x : Md.Slot) (h : IsSlot d x) (h' : IsSlot d' x) : PCall Try.prog 60 [d, d'] fun _ _ r => r = .lit (.bool true) := by
  obtain ⟨f, rfl, hst, k0, k1⟩ := h
  obtain ⟨f', rfl, hst', l0, l1⟩ := h'
  have k0 : f 0 = _ := k0
  have l0 : f' 0 = _ := l0
  have qk1 := shp_obj _ _ k1
  have xk1 := qk1.1
  have yk1 := qk1.2.1
  have wk1 := qk1.2.2.2
  have ql1 := shp_obj _ _ l1
  have xl1 := ql1.1
  have yl1 := ql1.2.1
  have wl1 := ql1.2.2.2
  refine pcall_intro_v Try.func60 rfl (by decide) rfl (by decide) (by rw [Try.ntmps60]; simp) fun w0 M n0 => ivc_sound ?_; simp -dsimp only [Try.f60, go_sem, Nat.reduceLT, Nat.reduceEqDiff, Nat.reduceAdd, Nat.reduceMul, Nat.reduceBEq, beq_self_eq_true, Nat.reduceLeDiff, Nat.le_refl, k0, l0, xk1, yk1, xl1, yl1, bne_self_eq_false, Bool.not_true, Bool.not_false, Bool.false_eq_true, Bool.true_eq_false, false_imp_iff, true_and, and_true, forall_const, reduceCtorEq]
  intro g1 b1 hb1 g2 b2 hb2
  refine xcall_v (eqObj_p _ _ _ k1 l1) (by simp -dsimp only [go_sem, Nat.reduceLT, Nat.reduceEqDiff, Nat.reduceAdd, Nat.reduceMul, Nat.reduceBEq, beq_self_eq_true, Nat.reduceLeDiff, Nat.le_refl, rl_still, wk1, wl1]) (fun _ => trivial) fun m1 hm1 => ?_
  simp -dsimp only [go_sem, Nat.reduceLT, Nat.reduceEqDiff, Nat.reduceAdd, Nat.reduceMul, Nat.reduceBEq, beq_self_eq_true, Nat.reduceLeDiff, Nat.le_refl, k0, l0, xk1, yk1, xl1, yl1, bne_self_eq_false, Bool.not_true, Bool.not_false, Bool.false_eq_true, Bool.true_eq_false, false_imp_iff, true_and, and_true, forall_const, reduceCtorEq]
theorem eqSlotS_p (d d' : D) (xs : List Md.Slot) (h : IsL 4 IsSlot d xs) (h' : IsL 4 IsSlot d' xs) : PCall Try.prog 102 [d, d'] fun _ _ r => r = .lit (.bool true) := by
  refine pcall_intro_v Try.func102 rfl (by decide) rfl (by decide) (by rw [Try.ntmps102]; simp) fun w0 M n0 => ivc_sound ?_; simp -dsimp only [Try.f102, go_sem, Nat.reduceLT, Nat.reduceEqDiff, Nat.reduceAdd, Nat.reduceMul, Nat.reduceBEq, beq_self_eq_true, Nat.reduceLeDiff, Nat.le_refl, h.lenT, h'.lenT, bne_self_eq_false, Bool.not_true, Bool.not_false, Bool.false_eq_true, Bool.true_eq_false, false_imp_iff, true_and, and_true, forall_const, reduceCtorEq]
  refine iwp_forK xs.length [0, 1] (fun i s => s 5 = .lit (.int .i64 i)) 0 (Nat.zero_le _) (by simp -dsimp only [go_sem, Nat.reduceLT, Nat.reduceEqDiff, Nat.reduceAdd, Nat.reduceMul, Nat.reduceBEq, beq_self_eq_true, Nat.reduceLeDiff, Nat.le_refl]; rfl) ?_
  rintro i n' s hi hn hk h5
  refine ivc_sound ?_
  by_cases hlt : i < xs.length
  · obtain ⟨t, zb, fi, rfl, hst, hf⟩ := h.sl hlt
    obtain ⟨t', zb', fi', rfl, hst', hf'⟩ := h'.sl hlt
    have hfi := hf i hlt
    have hfi' := hf' i hlt
    have q := shp_slot _ _ hfi
    have e1 := q.1
    have e2 := q.2.1
    have e4 := q.2.2.2
    have q' := shp_slot _ _ hfi'
    have k1 := q'.1
    have k2 := q'.2.1
    have k4 := q'.2.2.2
    have hw := i64_succ (i := i) (by have := h.short; omega)
    simp -dsimp only [go_sem, Nat.reduceLT, Nat.reduceEqDiff, Nat.reduceAdd, Nat.reduceMul, Nat.reduceBEq, beq_self_eq_true, Nat.reduceLeDiff, Nat.le_refl] at hk
    simp -dsimp only [go_sem, Nat.reduceLT, Nat.reduceEqDiff, Nat.reduceAdd, Nat.reduceMul, Nat.reduceBEq, beq_self_eq_true, Nat.reduceLeDiff, Nat.le_refl, hk, h5, hlt, hw]
    refine iwp_plan [(0, true), (1, true), (2, true), (3, true), (4, true), (5, true), (6, true), (7, true), (8, false), (9, true)] [] rfl (by decide +kernel) (by decide) ?_
    simp -dsimp only [go_sem, Nat.reduceLT, Nat.reduceEqDiff, Nat.reduceAdd, Nat.reduceMul, Nat.reduceBEq, beq_self_eq_true, Nat.reduceLeDiff, Nat.le_refl, hk, h5, hlt, hw, e1, e2, k1, k2, bne_self_eq_false, Bool.not_true, Bool.not_false, Bool.false_eq_true, Bool.true_eq_false, false_imp_iff, true_and, and_true, forall_const, reduceCtorEq]
    refine xcall_v (eqSlot_p _ _ _ hfi hfi') (by simp -dsimp only [go_sem, Nat.reduceLT, Nat.reduceEqDiff, Nat.reduceAdd, Nat.reduceMul, Nat.reduceBEq, beq_self_eq_true, Nat.reduceLeDiff, Nat.le_refl, rl_still, e4, k4]) (fun _ => trivial) fun n1 hn1 => ?_
    simp -dsimp only [go_sem, Nat.reduceLT, Nat.reduceEqDiff, Nat.reduceAdd, Nat.reduceMul, Nat.reduceBEq, beq_self_eq_true, Nat.reduceLeDiff, Nat.le_refl, hk, h5, hlt, hw, bne_self_eq_false, Bool.not_true, Bool.not_false, Bool.false_eq_true, Bool.true_eq_false, false_imp_iff, true_and, and_true, forall_const, reduceCtorEq]
    exact into_k (by omega) (by simp -dsimp only [go_sem, Nat.reduceLT, Nat.reduceEqDiff, Nat.reduceAdd, Nat.reduceMul, Nat.reduceBEq, beq_self_eq_true, Nat.reduceLeDiff, Nat.le_refl, hk]) (by simp -dsimp only [go_sem, Nat.reduceLT, Nat.reduceEqDiff, Nat.reduceAdd, Nat.reduceMul, Nat.reduceBEq, beq_self_eq_true, Nat.reduceLeDiff, Nat.le_refl])
  · simp -dsimp only [go_sem, Nat.reduceLT, Nat.reduceEqDiff, Nat.reduceAdd, Nat.reduceMul, Nat.reduceBEq, beq_self_eq_true, Nat.reduceLeDiff, Nat.le_refl] at hk
    simp -dsimp only [go_sem, Nat.reduceLT, Nat.reduceEqDiff, Nat.reduceAdd, Nat.reduceMul, Nat.reduceBEq, beq_self_eq_true, Nat.reduceLeDiff, Nat.le_refl, hk, h5, hlt, h.lenT]
theorem eqSlotA4_p (d d' : D) (xs : List Md.Slot) (h : IsA 4 4 IsSlot d xs) (h' : IsA 4 4 IsSlot d' xs) : PCall Try.prog 140 [d, d'] fun _ _ r => r = .lit (.bool true) := by
  obtain ⟨hl, fi, rfl, hst, hf⟩ := h
  obtain ⟨hl', fi', rfl, hst', hf'⟩ := h'
  refine pcall_intro_v Try.func140 rfl (by decide) rfl (by decide) (by rw [Try.ntmps140]; simp) fun w0 M n0 => ivc_sound ?_; simp -dsimp only [Try.f140, go_sem, Nat.reduceLT, Nat.reduceEqDiff, Nat.reduceAdd, Nat.reduceMul, Nat.reduceBEq, beq_self_eq_true, Nat.reduceLeDiff, Nat.le_refl, bne_self_eq_false, Bool.not_true, Bool.not_false, Bool.false_eq_true, Bool.true_eq_false, false_imp_iff, true_and, and_true, forall_const, reduceCtorEq]
  intro g1 b1 hb1 g2 b2 hb2
  refine iwp_forK 4 [2, 3] (fun i s => s 5 = .lit (.int .i64 i)) 0 (Nat.zero_le _) (by simp -dsimp only [go_sem, Nat.reduceLT, Nat.reduceEqDiff, Nat.reduceAdd, Nat.reduceMul, Nat.reduceBEq, beq_self_eq_true, Nat.reduceLeDiff, Nat.le_refl]; rfl) ?_
  rintro i n' s hi hn hk h5
  refine ivc_sound ?_
  simp -dsimp only [go_sem, Nat.reduceLT, Nat.reduceEqDiff, Nat.reduceAdd, Nat.reduceMul, Nat.reduceBEq, beq_self_eq_true, Nat.reduceLeDiff, Nat.le_refl] at hk
  by_cases hlt : i < 4
  · have hc : (i : Int) < 4 := by omega
    have hlt' : i < xs.length := by omega
    have hfi := hf i hlt'
    have hfi' := hf' i hlt'
    have q := shp_slot _ _ hfi
    have e1 := q.1
    have e2 := q.2.1
    have e4 := q.2.2.2
    have q' := shp_slot _ _ hfi'
    have k1 := q'.1
    have k2 := q'.2.1
    have k4 := q'.2.2.2
    have hw := i64_succ (i := i) (by omega)
    simp -dsimp only [go_sem, Nat.reduceLT, Nat.reduceEqDiff, Nat.reduceAdd, Nat.reduceMul, Nat.reduceBEq, beq_self_eq_true, Nat.reduceLeDiff, Nat.le_refl, hk, h5, hlt, hc, hw]
    refine iwp_plan [(0, true), (1, true), (2, true), (3, true), (4, true), (5, true), (6, false), (7, true)] [2, 3] rfl (by decide +kernel) (by decide) ?_
    simp -dsimp only [go_sem, Nat.reduceLT, Nat.reduceEqDiff, Nat.reduceAdd, Nat.reduceMul, Nat.reduceBEq, beq_self_eq_true, Nat.reduceLeDiff, Nat.le_refl, hk, h5, hlt, hc, hw, e1, e2, k1, k2, bne_self_eq_false, Bool.not_true, Bool.not_false, Bool.false_eq_true, Bool.true_eq_false, false_imp_iff, true_and, and_true, forall_const, reduceCtorEq]
    refine xcall_v (eqSlot_p _ _ _ hfi hfi') (by simp -dsimp only [go_sem, Nat.reduceLT, Nat.reduceEqDiff, Nat.reduceAdd, Nat.reduceMul, Nat.reduceBEq, beq_self_eq_true, Nat.reduceLeDiff, Nat.le_refl, rl_still, e4, k4]) (fun _ => trivial) fun n1 hn1 => ?_
    simp -dsimp only [go_sem, Nat.reduceLT, Nat.reduceEqDiff, Nat.reduceAdd, Nat.reduceMul, Nat.reduceBEq, beq_self_eq_true, Nat.reduceLeDiff, Nat.le_refl, hk, h5, hlt, hc, hw, bne_self_eq_false, Bool.not_true, Bool.not_false, Bool.false_eq_true, Bool.true_eq_false, false_imp_iff, true_and, and_true, forall_const, reduceCtorEq]
    exact into_k (by omega) (by simp -dsimp only [go_sem, Nat.reduceLT, Nat.reduceEqDiff, Nat.reduceAdd, Nat.reduceMul, Nat.reduceBEq, beq_self_eq_true, Nat.reduceLeDiff, Nat.le_refl, hk]) (by simp -dsimp only [go_sem, Nat.reduceLT, Nat.reduceEqDiff, Nat.reduceAdd, Nat.reduceMul, Nat.reduceBEq, beq_self_eq_true, Nat.reduceLeDiff, Nat.le_refl])
  · have hc : ¬ (i : Int) < 4 := by omega
    simp -dsimp only [go_sem, Nat.reduceLT, Nat.reduceEqDiff, Nat.reduceAdd, Nat.reduceMul, Nat.reduceBEq, beq_self_eq_true, Nat.reduceLeDiff, Nat.le_refl, hk, h5, hlt, hc]
theorem eqPage_p (d d' : D) (x : Md.Page) (h : IsPage d x) (h' : IsPage d' x) : PCall Try.prog 37 [d, d'] fun _ _ r => r = .lit (.bool true) := by
  obtain ⟨f, rfl, hst, k0, k1⟩ := h
  obtain ⟨f', rfl, hst', l0, l1⟩ := h'
  have k0 : f 0 = _ := k0
  have l0 : f' 0 = _ := l0
  refine pcall_intro_v Try.func37 rfl (by decide) rfl (by decide) (by rw [Try.ntmps37]; simp) fun w0 M n0 => ivc_sound ?_; simp -dsimp only [Try.f37, go_sem, Nat.reduceLT, Nat.reduceEqDiff, Nat.reduceAdd, Nat.reduceMul, Nat.reduceBEq, beq_self_eq_true, Nat.reduceLeDiff, Nat.le_refl, k0, l0, k1.size, k1.isNode, k1.plain, l1.size, l1.isNode, l1.plain, bne_self_eq_false, Bool.not_true, Bool.not_false, Bool.false_eq_true, Bool.true_eq_false, false_imp_iff, true_and, and_true, forall_const, reduceCtorEq]
  intro g1 b1 hb1 g2 b2 hb2
  refine xcall_v (eqSlotA4_p _ _ _ k1 l1) (by simp -dsimp only [go_sem, Nat.reduceLT, Nat.reduceEqDiff, Nat.reduceAdd, Nat.reduceMul, Nat.reduceBEq, beq_self_eq_true, Nat.reduceLeDiff, Nat.le_refl, rl_still, k1.still, l1.still]) (fun _ => trivial) fun m1 hm1 => ?_
  simp -dsimp only [go_sem, Nat.reduceLT, Nat.reduceEqDiff, Nat.reduceAdd, Nat.reduceMul, Nat.reduceBEq, beq_self_eq_true, Nat.reduceLeDiff, Nat.le_refl, k0, l0, k1.size, k1.isNode, k1.plain, l1.size, l1.isNode, l1.plain, bne_self_eq_false, Bool.not_true, Bool.not_false, Bool.false_eq_true, Bool.true_eq_false, false_imp_iff, true_and, and_true, forall_const, reduceCtorEq]
theorem eqLive_p (d d' : D) (x : Md.Live) (h : IsLive d x) (h' : IsLive d' x) : PCall Try.prog 236 [d, d'] fun _ _ r => r = .lit (.bool true) := by
  obtain ⟨f, rfl, hst, k0, k1, k2⟩ := h
  obtain ⟨f', rfl, hst', l0, l1, l2⟩ := h'
  have k0 : f 0 = _ := k0
  have l0 : f' 0 = _ := l0
  have k1 : f 1 = _ := k1
  have l1 : f' 1 = _ := l1
  have k2 : f 2 = _ := k2
  have l2 : f' 2 = _ := l2
  refine pcall_intro_v Try.func236 rfl (by decide) rfl (by decide) (by rw [Try.ntmps236]; simp) fun w0 M n0 => ivc_sound ?_; simp -dsimp only [Try.f236, go_sem, Nat.reduceLT, Nat.reduceEqDiff, Nat.reduceAdd, Nat.reduceMul, Nat.reduceBEq, beq_self_eq_true, Nat.reduceLeDiff, Nat.le_refl, k0, l0, k1, l1, k2, l2, bne_self_eq_false, Bool.not_true, Bool.not_false, Bool.false_eq_true, Bool.true_eq_false, false_imp_iff, true_and, and_true, forall_const, reduceCtorEq]
theorem eqLiveS_p (d d' : D) (xs : List Md.Live) (h : IsL 3 IsLive d xs) (h' : IsL 3 IsLive d' xs) : PCall Try.prog 174 [d, d'] fun _ _ r => r = .lit (.bool true) := by
  refine pcall_intro_v Try.func174 rfl (by decide) rfl (by decide) (by rw [Try.ntmps174]; simp) fun w0 M n0 => ivc_sound ?_; simp -dsimp only [Try.f174, go_sem, Nat.reduceLT, Nat.reduceEqDiff, Nat.reduceAdd, Nat.reduceMul, Nat.reduceBEq, beq_self_eq_true, Nat.reduceLeDiff, Nat.le_refl, h.lenT, h'.lenT, bne_self_eq_false, Bool.not_true, Bool.not_false, Bool.false_eq_true, Bool.true_eq_false, false_imp_iff, true_and, and_true, forall_const, reduceCtorEq]
  refine iwp_forK xs.length [0, 1] (fun i s => s 5 = .lit (.int .i64 i)) 0 (Nat.zero_le _) (by simp -dsimp only [go_sem, Nat.reduceLT, Nat.reduceEqDiff, Nat.reduceAdd, Nat.reduceMul, Nat.reduceBEq, beq_self_eq_true, Nat.reduceLeDiff, Nat.le_refl]; rfl) ?_
  rintro i n' s hi hn hk h5
  refine ivc_sound ?_
  by_cases hlt : i < xs.length
  · obtain ⟨t, zb, fi, rfl, hst, hf⟩ := h.sl hlt
    obtain ⟨t', zb', fi', rfl, hst', hf'⟩ := h'.sl hlt
    have hfi := hf i hlt
    have hfi' := hf' i hlt
    have q := shp_live _ _ hfi
    have e1 := q.1
    have e2 := q.2.1
    have e4 := q.2.2.2
    have q' := shp_live _ _ hfi'
    have k1 := q'.1
    have k2 := q'.2.1
    have k4 := q'.2.2.2
    have hw := i64_succ (i := i) (by have := h.short; omega)
    simp -dsimp only [go_sem, Nat.reduceLT, Nat.reduceEqDiff, Nat.reduceAdd, Nat.reduceMul, Nat.reduceBEq, beq_self_eq_true, Nat.reduceLeDiff, Nat.le_refl] at hk
    simp -dsimp only [go_sem, Nat.reduceLT, Nat.reduceEqDiff, Nat.reduceAdd, Nat.reduceMul, Nat.reduceBEq, beq_self_eq_true, Nat.reduceLeDiff, Nat.le_refl, hk, h5, hlt, hw]
    refine iwp_plan [(0, true), (1, true), (2, true), (3, true), (4, true), (5, true), (6, true), (7, true), (8, false), (9, true)] [] rfl (by decide +kernel) (by decide) ?_
    simp -dsimp only [go_sem, Nat.reduceLT, Nat.reduceEqDiff, Nat.reduceAdd, Nat.reduceMul, Nat.reduceBEq, beq_self_eq_true, Nat.reduceLeDiff, Nat.le_refl, hk, h5, hlt, hw, e1, e2, k1, k2, bne_self_eq_false, Bool.not_true, Bool.not_false, Bool.false_eq_true, Bool.true_eq_false, false_imp_iff, true_and, and_true, forall_const, reduceCtorEq]
    refine xcall_v (eqLive_p _ _ _ hfi hfi') (by simp -dsimp only [go_sem, Nat.reduceLT, Nat.reduceEqDiff, Nat.reduceAdd, Nat.reduceMul, Nat.reduceBEq, beq_self_eq_true, Nat.reduceLeDiff, Nat.le_refl, rl_still, e4, k4]) (fun _ => trivial) fun n1 hn1 => ?_
    simp -dsimp only [go_sem, Nat.reduceLT, Nat.reduceEqDiff, Nat.reduceAdd, Nat.reduceMul, Nat.reduceBEq, beq_self_eq_true, Nat.reduceLeDiff, Nat.le_refl, hk, h5, hlt, hw, bne_self_eq_false, Bool.not_true, Bool.not_false, Bool.false_eq_true, Bool.true_eq_false, false_imp_iff, true_and, and_true, forall_const, reduceCtorEq]
    exact into_k (by omega) (by simp -dsimp only [go_sem, Nat.reduceLT, Nat.reduceEqDiff, Nat.reduceAdd, Nat.reduceMul, Nat.reduceBEq, beq_self_eq_true, Nat.reduceLeDiff, Nat.le_refl, hk]) (by simp -dsimp only [go_sem, Nat.reduceLT, Nat.reduceEqDiff, Nat.reduceAdd, Nat.reduceMul, Nat.reduceBEq, beq_self_eq_true, Nat.reduceLeDiff, Nat.le_refl])
  · simp -dsimp only [go_sem, Nat.reduceLT, Nat.reduceEqDiff, Nat.reduceAdd, Nat.reduceMul, Nat.reduceBEq, beq_self_eq_true, Nat.reduceLeDiff, Nat.le_refl] at hk
    simp -dsimp only [go_sem, Nat.reduceLT, Nat.reduceEqDiff, Nat.reduceAdd, Nat.reduceMul, Nat.reduceBEq, beq_self_eq_true, Nat.reduceLeDiff, Nat.le_refl, hk, h5, hlt, h.lenT]
theorem eqRec_p (d d' : D) (x : Md.Rec) (h : IsRec d x) (h' : IsRec d' x) : PCall Try.prog 68 [d, d'] fun _ _ r => r = .lit (.bool true) := by
  obtain ⟨f, rfl, hst, k0, k1, k2, k3, k4, k5, k6, k7, k8⟩ := h
  obtain ⟨f', rfl, hst', l0, l1, l2, l3, l4, l5, l6, l7, l8⟩ := h'
  have k0 : f 0 = _ := k0
  have l0 : f' 0 = _ := l0
  have k1 : f 1 = _ := k1
  have l1 : f' 1 = _ := l1
  have k2 : f 2 = _ := k2
  have l2 : f' 2 = _ := l2
  have k3 : f 3 = _ := k3
  have l3 : f' 3 = _ := l3
  have k4 : f 4 = _ := k4
  have l4 : f' 4 = _ := l4
  have qk5 := shp_slot _ _ k5
  have xk5 := qk5.1
  have yk5 := qk5.2.1
  have wk5 := qk5.2.2.2
  have ql5 := shp_slot _ _ l5
  have xl5 := ql5.1
  have yl5 := ql5.2.1
  have wl5 := ql5.2.2.2
  have qk6 := shp_slot _ _ k6
  have xk6 := qk6.1
  have yk6 := qk6.2.1
  have wk6 := qk6.2.2.2
  have ql6 := shp_slot _ _ l6
  have xl6 := ql6.1
  have yl6 := ql6.2.1
  have wl6 := ql6.2.2.2
  have k7 : f 7 = _ := k7
  have l7 : f' 7 = _ := l7
  refine pcall_intro_v Try.func68 rfl (by decide) rfl (by decide) (by rw [Try.ntmps68]; simp) fun w0 M n0 => ivc_sound ?_; simp -dsimp only [Try.f68, go_sem, Nat.reduceLT, Nat.reduceEqDiff, Nat.reduceAdd, Nat.reduceMul, Nat.reduceBEq, beq_self_eq_true, Nat.reduceLeDiff, Nat.le_refl, k0, l0, k1, l1, k2, l2, k3, l3, k4, l4, xk5, yk5, xl5, yl5, xk6, yk6, xl6, yl6, k7, l7, k8.size, k8.isNode, k8.plain, l8.size, l8.isNode, l8.plain, bne_self_eq_false, Bool.not_true, Bool.not_false, Bool.false_eq_true, Bool.true_eq_false, false_imp_iff, true_and, and_true, forall_const, reduceCtorEq]
  intro g1 b1 hb1 g2 b2 hb2
  refine xcall_v (eqSlot_p _ _ _ k5 l5) (by simp -dsimp only [go_sem, Nat.reduceLT, Nat.reduceEqDiff, Nat.reduceAdd, Nat.reduceMul, Nat.reduceBEq, beq_self_eq_true, Nat.reduceLeDiff, Nat.le_refl, rl_still, wk5, wl5]) (fun _ => trivial) fun m5 hm5 => ?_
  simp -dsimp only [go_sem, Nat.reduceLT, Nat.reduceEqDiff, Nat.reduceAdd, Nat.reduceMul, Nat.reduceBEq, beq_self_eq_true, Nat.reduceLeDiff, Nat.le_refl, k0, l0, k1, l1, k2, l2, k3, l3, k4, l4, xk5, yk5, xl5, yl5, xk6, yk6, xl6, yl6, k7, l7, k8.size, k8.isNode, k8.plain, l8.size, l8.isNode, l8.plain, bne_self_eq_false, Bool.not_true, Bool.not_false, Bool.false_eq_true, Bool.true_eq_false, false_imp_iff, true_and, and_true, forall_const, reduceCtorEq]
  refine xcall_v (eqSlot_p _ _ _ k6 l6) (by simp -dsimp only [go_sem, Nat.reduceLT, Nat.reduceEqDiff, Nat.reduceAdd, Nat.reduceMul, Nat.reduceBEq, beq_self_eq_true, Nat.reduceLeDiff, Nat.le_refl, rl_still, wk6, wl6]) (fun _ => trivial) fun m6 hm6 => ?_
  simp -dsimp only [go_sem, Nat.reduceLT, Nat.reduceEqDiff, Nat.reduceAdd, Nat.reduceMul, Nat.reduceBEq, beq_self_eq_true, Nat.reduceLeDiff, Nat.le_refl, k0, l0, k1, l1, k2, l2, k3, l3, k4, l4, xk5, yk5, xl5, yl5, xk6, yk6, xl6, yl6, k7, l7, k8.size, k8.isNode, k8.plain, l8.size, l8.isNode, l8.plain, bne_self_eq_false, Bool.not_true, Bool.not_false, Bool.false_eq_true, Bool.true_eq_false, false_imp_iff, true_and, and_true, forall_const, reduceCtorEq]
  refine xcall_v (eqLiveS_p _ _ _ k8 l8) (by simp -dsimp only [go_sem, Nat.reduceLT, Nat.reduceEqDiff, Nat.reduceAdd, Nat.reduceMul, Nat.reduceBEq, beq_self_eq_true, Nat.reduceLeDiff, Nat.le_refl, rl_still, k8.still, l8.still]) (fun _ => trivial) fun m8 hm8 => ?_
  simp -dsimp only [go_sem, Nat.reduceLT, Nat.reduceEqDiff, Nat.reduceAdd, Nat.reduceMul, Nat.reduceBEq, beq_self_eq_true, Nat.reduceLeDiff, Nat.le_refl, k0, l0, k1, l1, k2, l2, k3, l3, k4, l4, xk5, yk5, xl5, yl5, xk6, yk6, xl6, yl6, k7, l7, k8.size, k8.isNode, k8.plain, l8.size, l8.isNode, l8.plain, bne_self_eq_false, Bool.not_true, Bool.not_false, Bool.false_eq_true, Bool.true_eq_false, false_imp_iff, true_and, and_true, forall_const, reduceCtorEq]
theorem eqRecS_p (d d' : D) (xs : List Md.Rec) (h : IsL 15 IsRec d xs) (h' : IsL 15 IsRec d' xs) : PCall Try.prog 185 [d, d'] fun _ _ r => r = .lit (.bool true) := by
  refine pcall_intro_v Try.func185 rfl (by decide) rfl (by decide) (by rw [Try.ntmps185]; simp) fun w0 M n0 => ivc_sound ?_; simp -dsimp only [Try.f185, go_sem, Nat.reduceLT, Nat.reduceEqDiff, Nat.reduceAdd, Nat.reduceMul, Nat.reduceBEq, beq_self_eq_true, Nat.reduceLeDiff, Nat.le_refl, h.lenT, h'.lenT, bne_self_eq_false, Bool.not_true, Bool.not_false, Bool.false_eq_true, Bool.true_eq_false, false_imp_iff, true_and, and_true, forall_const, reduceCtorEq]
  refine iwp_forK xs.length [0, 1] (fun i s => s 5 = .lit (.int .i64 i)) 0 (Nat.zero_le _) (by simp -dsimp only [go_sem, Nat.reduceLT, Nat.reduceEqDiff, Nat.reduceAdd, Nat.reduceMul, Nat.reduceBEq, beq_self_eq_true, Nat.reduceLeDiff, Nat.le_refl]; rfl) ?_
  rintro i n' s hi hn hk h5
  refine ivc_sound ?_
  by_cases hlt : i < xs.length
  · obtain ⟨t, zb, fi, rfl, hst, hf⟩ := h.sl hlt
    obtain ⟨t', zb', fi', rfl, hst', hf'⟩ := h'.sl hlt
    have hfi := hf i hlt
    have hfi' := hf' i hlt
    have q := shp_rec _ _ hfi
    have e1 := q.1
    have e2 := q.2.1
    have e4 := q.2.2.2
    have q' := shp_rec _ _ hfi'
    have k1 := q'.1
    have k2 := q'.2.1
    have k4 := q'.2.2.2
    have hw := i64_succ (i := i) (by have := h.short; omega)
    simp -dsimp only [go_sem, Nat.reduceLT, Nat.reduceEqDiff, Nat.reduceAdd, Nat.reduceMul, Nat.reduceBEq, beq_self_eq_true, Nat.reduceLeDiff, Nat.le_refl] at hk
    simp -dsimp only [go_sem, Nat.reduceLT, Nat.reduceEqDiff, Nat.reduceAdd, Nat.reduceMul, Nat.reduceBEq, beq_self_eq_true, Nat.reduceLeDiff, Nat.le_refl, hk, h5, hlt, hw]
    refine iwp_plan [(0, true), (1, true), (2, true), (3, true), (4, true), (5, true), (6, true), (7, true), (8, false), (9, true)] [] rfl (by decide +kernel) (by decide) ?_
    simp -dsimp only [go_sem, Nat.reduceLT, Nat.reduceEqDiff, Nat.reduceAdd, Nat.reduceMul, Nat.reduceBEq, beq_self_eq_true, Nat.reduceLeDiff, Nat.le_refl, hk, h5, hlt, hw, e1, e2, k1, k2, bne_self_eq_false, Bool.not_true, Bool.not_false, Bool.false_eq_true, Bool.true_eq_false, false_imp_iff, true_and, and_true, forall_const, reduceCtorEq]
    refine xcall_v (eqRec_p _ _ _ hfi hfi') (by simp -dsimp only [go_sem, Nat.reduceLT, Nat.reduceEqDiff, Nat.reduceAdd, Nat.reduceMul, Nat.reduceBEq, beq_self_eq_true, Nat.reduceLeDiff, Nat.le_refl, rl_still, e4, k4]) (fun _ => trivial) fun n1 hn1 => ?_
    simp -dsimp only [go_sem, Nat.reduceLT, Nat.reduceEqDiff, Nat.reduceAdd, Nat.reduceMul, Nat.reduceBEq, beq_self_eq_true, Nat.reduceLeDiff, Nat.le_refl, hk, h5, hlt, hw, bne_self_eq_false, Bool.not_true, Bool.not_false, Bool.false_eq_true, Bool.true_eq_false, false_imp_iff, true_and, and_true, forall_const, reduceCtorEq]
    exact into_k (by omega) (by simp -dsimp only [go_sem, Nat.reduceLT, Nat.reduceEqDiff, Nat.reduceAdd, Nat.reduceMul, Nat.reduceBEq, beq_self_eq_true, Nat.reduceLeDiff, Nat.le_refl, hk]) (by simp -dsimp only [go_sem, Nat.reduceLT, Nat.reduceEqDiff, Nat.reduceAdd, Nat.reduceMul, Nat.reduceBEq, beq_self_eq_true, Nat.reduceLeDiff, Nat.le_refl])
  · simp -dsimp only [go_sem, Nat.reduceLT, Nat.reduceEqDiff, Nat.reduceAdd, Nat.reduceMul, Nat.reduceBEq, beq_self_eq_true, Nat.reduceLeDiff, Nat.le_refl] at hk
    simp -dsimp only [go_sem, Nat.reduceLT, Nat.reduceEqDiff, Nat.reduceAdd, Nat.reduceMul, Nat.reduceBEq, beq_self_eq_true, Nat.reduceLeDiff, Nat.le_refl, hk, h5, hlt, h.lenT]
theorem eqLog_p (d d' : D) (x : Md.Log) (h : IsLog d x) (h' : IsLog d' x) : PCall Try.prog 81 [d, d'] fun _ _ r => r = .lit (.bool true) := by
  obtain ⟨f, rfl, hst, k0, k1⟩ := h
  obtain ⟨f', rfl, hst', l0, l1⟩ := h'
  have k1 : f 1 = _ := k1
  have l1 : f' 1 = _ := l1
  refine pcall_intro_v Try.func81 rfl (by decide) rfl (by decide) (by rw [Try.ntmps81]; simp) fun w0 M n0 => ivc_sound ?_; simp -dsimp only [Try.f81, go_sem, Nat.reduceLT, Nat.reduceEqDiff, Nat.reduceAdd, Nat.reduceMul, Nat.reduceBEq, beq_self_eq_true, Nat.reduceLeDiff, Nat.le_refl, k0.size, k0.isNode, k0.plain, l0.size, l0.isNode, l0.plain, k1, l1, bne_self_eq_false, Bool.not_true, Bool.not_false, Bool.false_eq_true, Bool.true_eq_false, false_imp_iff, true_and, and_true, forall_const, reduceCtorEq]
  intro g1 b1 hb1 g2 b2 hb2
  refine xcall_v (eqRecS_p _ _ _ k0 l0) (by simp -dsimp only [go_sem, Nat.reduceLT, Nat.reduceEqDiff, Nat.reduceAdd, Nat.reduceMul, Nat.reduceBEq, beq_self_eq_true, Nat.reduceLeDiff, Nat.le_refl, rl_still, k0.still, l0.still]) (fun _ => trivial) fun m0 hm0 => ?_
  simp -dsimp only [go_sem, Nat.reduceLT, Nat.reduceEqDiff, Nat.reduceAdd, Nat.reduceMul, Nat.reduceBEq, beq_self_eq_true, Nat.reduceLeDiff, Nat.le_refl, k0.size, k0.isNode, k0.plain, l0.size, l0.isNode, l0.plain, k1, l1, bne_self_eq_false, Bool.not_true, Bool.not_false, Bool.false_eq_true, Bool.true_eq_false, false_imp_iff, true_and, and_true, forall_const, reduceCtorEq]
theorem eqSeat_p (d d' : D) (x : Md.Seat) (h : IsSeat d x) (h' : IsSeat d' x) : PCall Try.prog 122 [d, d'] fun _ _ r => r = .lit (.bool true) := by
  obtain ⟨f, rfl, hst, k0, k1, k2, k3⟩ := h
  obtain ⟨f', rfl, hst', l0, l1, l2, l3⟩ := h'
  have k0 : f 0 = _ := k0
  have l0 : f' 0 = _ := l0
  have qk1 := shp_page _ _ k1
  have xk1 := qk1.1
  have yk1 := qk1.2.1
  have wk1 := qk1.2.2.2
  have ql1 := shp_page _ _ l1
  have xl1 := ql1.1
  have yl1 := ql1.2.1
  have wl1 := ql1.2.2.2
  have k2 : f 2 = _ := k2
  have l2 : f' 2 = _ := l2
  have k3 : f 3 = _ := k3
  have l3 : f' 3 = _ := l3
  refine pcall_intro_v Try.func122 rfl (by decide) rfl (by decide) (by rw [Try.ntmps122]; simp) fun w0 M n0 => ivc_sound ?_; simp -dsimp only [Try.f122, go_sem, Nat.reduceLT, Nat.reduceEqDiff, Nat.reduceAdd, Nat.reduceMul, Nat.reduceBEq, beq_self_eq_true, Nat.reduceLeDiff, Nat.le_refl, k0, l0, xk1, yk1, xl1, yl1, k2, l2, k3, l3, bne_self_eq_false, Bool.not_true, Bool.not_false, Bool.false_eq_true, Bool.true_eq_false, false_imp_iff, true_and, and_true, forall_const, reduceCtorEq]
  intro g1 b1 hb1 g2 b2 hb2
  refine xcall_v (eqPage_p _ _ _ k1 l1) (by simp -dsimp only [go_sem, Nat.reduceLT, Nat.reduceEqDiff, Nat.reduceAdd, Nat.reduceMul, Nat.reduceBEq, beq_self_eq_true, Nat.reduceLeDiff, Nat.le_refl, rl_still, wk1, wl1]) (fun _ => trivial) fun m1 hm1 => ?_
  simp -dsimp only [go_sem, Nat.reduceLT, Nat.reduceEqDiff, Nat.reduceAdd, Nat.reduceMul, Nat.reduceBEq, beq_self_eq_true, Nat.reduceLeDiff, Nat.le_refl, k0, l0, xk1, yk1, xl1, yl1, k2, l2, k3, l3, bne_self_eq_false, Bool.not_true, Bool.not_false, Bool.false_eq_true, Bool.true_eq_false, false_imp_iff, true_and, and_true, forall_const, reduceCtorEq]
theorem eqSeatS_p (d d' : D) (xs : List Md.Seat) (h : IsL 20 IsSeat d xs) (h' : IsL 20 IsSeat d' xs) : PCall Try.prog 159 [d, d'] fun _ _ r => r = .lit (.bool true) := by
  refine pcall_intro_v Try.func159 rfl (by decide) rfl (by decide) (by rw [Try.ntmps159]; simp) fun w0 M n0 => ivc_sound ?_; simp -dsimp only [Try.f159, go_sem, Nat.reduceLT, Nat.reduceEqDiff, Nat.reduceAdd, Nat.reduceMul, Nat.reduceBEq, beq_self_eq_true, Nat.reduceLeDiff, Nat.le_refl, h.lenT, h'.lenT, bne_self_eq_false, Bool.not_true, Bool.not_false, Bool.false_eq_true, Bool.true_eq_false, false_imp_iff, true_and, and_true, forall_const, reduceCtorEq]
  refine iwp_forK xs.length [0, 1] (fun i s => s 5 = .lit (.int .i64 i)) 0 (Nat.zero_le _) (by simp -dsimp only [go_sem, Nat.reduceLT, Nat.reduceEqDiff, Nat.reduceAdd, Nat.reduceMul, Nat.reduceBEq, beq_self_eq_true, Nat.reduceLeDiff, Nat.le_refl]; rfl) ?_
  rintro i n' s hi hn hk h5
  refine ivc_sound ?_
  by_cases hlt : i < xs.length
  · obtain ⟨t, zb, fi, rfl, hst, hf⟩ := h.sl hlt
    obtain ⟨t', zb', fi', rfl, hst', hf'⟩ := h'.sl hlt
    have hfi := hf i hlt
    have hfi' := hf' i hlt
    have q := shp_seat _ _ hfi
    have e1 := q.1
    have e2 := q.2.1
    have e4 := q.2.2.2
    have q' := shp_seat _ _ hfi'
    have k1 := q'.1
    have k2 := q'.2.1
    have k4 := q'.2.2.2
    have hw := i64_succ (i := i) (by have := h.short; omega)
    simp -dsimp only [go_sem, Nat.reduceLT, Nat.reduceEqDiff, Nat.reduceAdd, Nat.reduceMul, Nat.reduceBEq, beq_self_eq_true, Nat.reduceLeDiff, Nat.le_refl] at hk
    simp -dsimp only [go_sem, Nat.reduceLT, Nat.reduceEqDiff, Nat.reduceAdd, Nat.reduceMul, Nat.reduceBEq, beq_self_eq_true, Nat.reduceLeDiff, Nat.le_refl, hk, h5, hlt, hw]
    refine iwp_plan [(0, true), (1, true), (2, true), (3, true), (4, true), (5, true), (6, true), (7, true), (8, false), (9, true)] [] rfl (by decide +kernel) (by decide) ?_
    simp -dsimp only [go_sem, Nat.reduceLT, Nat.reduceEqDiff, Nat.reduceAdd, Nat.reduceMul, Nat.reduceBEq, beq_self_eq_true, Nat.reduceLeDiff, Nat.le_refl, hk, h5, hlt, hw, e1, e2, k1, k2, bne_self_eq_false, Bool.not_true, Bool.not_false, Bool.false_eq_true, Bool.true_eq_false, false_imp_iff, true_and, and_true, forall_const, reduceCtorEq]
    refine xcall_v (eqSeat_p _ _ _ hfi hfi') (by simp -dsimp only [go_sem, Nat.reduceLT, Nat.reduceEqDiff, Nat.reduceAdd, Nat.reduceMul, Nat.reduceBEq, beq_self_eq_true, Nat.reduceLeDiff, Nat.le_refl, rl_still, e4, k4]) (fun _ => trivial) fun n1 hn1 => ?_
    simp -dsimp only [go_sem, Nat.reduceLT, Nat.reduceEqDiff, Nat.reduceAdd, Nat.reduceMul, Nat.reduceBEq, beq_self_eq_true, Nat.reduceLeDiff, Nat.le_refl, hk, h5, hlt, hw, bne_self_eq_false, Bool.not_true, Bool.not_false, Bool.false_eq_true, Bool.true_eq_false, false_imp_iff, true_and, and_true, forall_const, reduceCtorEq]
    exact into_k (by omega) (by simp -dsimp only [go_sem, Nat.reduceLT, Nat.reduceEqDiff, Nat.reduceAdd, Nat.reduceMul, Nat.reduceBEq, beq_self_eq_true, Nat.reduceLeDiff, Nat.le_refl, hk]) (by simp -dsimp only [go_sem, Nat.reduceLT, Nat.reduceEqDiff, Nat.reduceAdd, Nat.reduceMul, Nat.reduceBEq, beq_self_eq_true, Nat.reduceLeDiff, Nat.le_refl])
  · simp -dsimp only [go_sem, Nat.reduceLT, Nat.reduceEqDiff, Nat.reduceAdd, Nat.reduceMul, Nat.reduceBEq, beq_self_eq_true, Nat.reduceLeDiff, Nat.le_refl] at hk
    simp -dsimp only [go_sem, Nat.reduceLT, Nat.reduceEqDiff, Nat.reduceAdd, Nat.reduceMul, Nat.reduceBEq, beq_self_eq_true, Nat.reduceLeDiff, Nat.le_refl, hk, h5, hlt, h.lenT]
theorem eqPool_p (d d' : D) (x : Md.Pool) (h : IsPool d x) (h' : IsPool d' x) : PCall Try.prog 53 [d, d'] fun _ _ r => r = .lit (.bool true) := by
  obtain ⟨f, rfl, hst, k0, k1⟩ := h
  obtain ⟨f', rfl, hst', l0, l1⟩ := h'
  have k1 : f 1 = _ := k1
  have l1 : f' 1 = _ := l1
  refine pcall_intro_v Try.func53 rfl (by decide) rfl (by decide) (by rw [Try.ntmps53]; simp) fun w0 M n0 => ivc_sound ?_; simp -dsimp only [Try.f53, go_sem, Nat.reduceLT, Nat.reduceEqDiff, Nat.reduceAdd, Nat.reduceMul, Nat.reduceBEq, beq_self_eq_true, Nat.reduceLeDiff, Nat.le_refl, k0.size, k0.isNode, k0.plain, l0.size, l0.isNode, l0.plain, k1, l1, bne_self_eq_false, Bool.not_true, Bool.not_false, Bool.false_eq_true, Bool.true_eq_false, false_imp_iff, true_and, and_true, forall_const, reduceCtorEq]
  intro g1 b1 hb1 g2 b2 hb2
  refine xcall_v (eqSeatS_p _ _ _ k0 l0) (by simp -dsimp only [go_sem, Nat.reduceLT, Nat.reduceEqDiff, Nat.reduceAdd, Nat.reduceMul, Nat.reduceBEq, beq_self_eq_true, Nat.reduceLeDiff, Nat.le_refl, rl_still, k0.still, l0.still]) (fun _ => trivial) fun m0 hm0 => ?_
  simp -dsimp only [go_sem, Nat.reduceLT, Nat.reduceEqDiff, Nat.reduceAdd, Nat.reduceMul, Nat.reduceBEq, beq_self_eq_true, Nat.reduceLeDiff, Nat.le_refl, k0.size, k0.isNode, k0.plain, l0.size, l0.isNode, l0.plain, k1, l1, bne_self_eq_false, Bool.not_true, Bool.not_false, Bool.false_eq_true, Bool.true_eq_false, false_imp_iff, true_and, and_true, forall_const, reduceCtorEq]
theorem eqHold_p (d d' : D) (x : Md.Hold) (h : IsHold d x) (h' : IsHold d' x) : PCall Try.prog 253 [d, d'] fun _ _ r => r = .lit (.bool true) := by
  obtain ⟨f, rfl, hst, k0, k1⟩ := h
  obtain ⟨f', rfl, hst', l0, l1⟩ := h'
  have k0 : f 0 = _ := k0
  have l0 : f' 0 = _ := l0
  have k1 : f 1 = _ := k1
  have l1 : f' 1 = _ := l1
  refine pcall_intro_v Try.func253 rfl (by decide) rfl (by decide) (by rw [Try.ntmps253]; simp) fun w0 M n0 => ivc_sound ?_; simp -dsimp only [Try.f253, go_sem, Nat.reduceLT, Nat.reduceEqDiff, Nat.reduceAdd, Nat.reduceMul, Nat.reduceBEq, beq_self_eq_true, Nat.reduceLeDiff, Nat.le_refl, k0, l0, k1, l1, bne_self_eq_false, Bool.not_true, Bool.not_false, Bool.false_eq_true, Bool.true_eq_false, false_imp_iff, true_and, and_true, forall_const, reduceCtorEq]
theorem eqHoldS_p (d d' : D) (xs : List Md.Hold) (h : IsL 2 IsHold d xs) (h' : IsL 2 IsHold d' xs) : PCall Try.prog 209 [d, d'] fun _ _ r => r = .lit (.bool true) := by
  refine pcall_intro_v Try.func209 rfl (by decide) rfl (by decide) (by rw [Try.ntmps209]; simp) fun w0 M n0 => ivc_sound ?_; simp -dsimp only [Try.f209, go_sem, Nat.reduceLT, Nat.reduceEqDiff, Nat.reduceAdd, Nat.reduceMul, Nat.reduceBEq, beq_self_eq_true, Nat.reduceLeDiff, Nat.le_refl, h.lenT, h'.lenT, bne_self_eq_false, Bool.not_true, Bool.not_false, Bool.false_eq_true, Bool.true_eq_false, false_imp_iff, true_and, and_true, forall_const, reduceCtorEq]
  refine iwp_forK xs.length [0, 1] (fun i s => s 5 = .lit (.int .i64 i)) 0 (Nat.zero_le _) (by simp -dsimp only [go_sem, Nat.reduceLT, Nat.reduceEqDiff, Nat.reduceAdd, Nat.reduceMul, Nat.reduceBEq, beq_self_eq_true, Nat.reduceLeDiff, Nat.le_refl]; rfl) ?_
  rintro i n' s hi hn hk h5
  refine ivc_sound ?_
  by_cases hlt : i < xs.length
  · obtain ⟨t, zb, fi, rfl, hst, hf⟩ := h.sl hlt
    obtain ⟨t', zb', fi', rfl, hst', hf'⟩ := h'.sl hlt
    have hfi := hf i hlt
    have hfi' := hf' i hlt
    have q := shp_hold _ _ hfi
    have e1 := q.1
    have e2 := q.2.1
    have e4 := q.2.2.2
    have q' := shp_hold _ _ hfi'
    have k1 := q'.1
    have k2 := q'.2.1
    have k4 := q'.2.2.2
    have hw := i64_succ (i := i) (by have := h.short; omega)
    simp -dsimp only [go_sem, Nat.reduceLT, Nat.reduceEqDiff, Nat.reduceAdd, Nat.reduceMul, Nat.reduceBEq, beq_self_eq_true, Nat.reduceLeDiff, Nat.le_refl] at hk
    simp -dsimp only [go_sem, Nat.reduceLT, Nat.reduceEqDiff, Nat.reduceAdd, Nat.reduceMul, Nat.reduceBEq, beq_self_eq_true, Nat.reduceLeDiff, Nat.le_refl, hk, h5, hlt, hw]
    refine iwp_plan [(0, true), (1, true), (2, true), (3, true), (4, true), (5, true), (6, true), (7, true), (8, false), (9, true)] [] rfl (by decide +kernel) (by decide) ?_
    simp -dsimp only [go_sem, Nat.reduceLT, Nat.reduceEqDiff, Nat.reduceAdd, Nat.reduceMul, Nat.reduceBEq, beq_self_eq_true, Nat.reduceLeDiff, Nat.le_refl, hk, h5, hlt, hw, e1, e2, k1, k2, bne_self_eq_false, Bool.not_true, Bool.not_false, Bool.false_eq_true, Bool.true_eq_false, false_imp_iff, true_and, and_true, forall_const, reduceCtorEq]
    refine xcall_v (eqHold_p _ _ _ hfi hfi') (by simp -dsimp only [go_sem, Nat.reduceLT, Nat.reduceEqDiff, Nat.reduceAdd, Nat.reduceMul, Nat.reduceBEq, beq_self_eq_true, Nat.reduceLeDiff, Nat.le_refl, rl_still, e4, k4]) (fun _ => trivial) fun n1 hn1 => ?_
    simp -dsimp only [go_sem, Nat.reduceLT, Nat.reduceEqDiff, Nat.reduceAdd, Nat.reduceMul, Nat.reduceBEq, beq_self_eq_true, Nat.reduceLeDiff, Nat.le_refl, hk, h5, hlt, hw, bne_self_eq_false, Bool.not_true, Bool.not_false, Bool.false_eq_true, Bool.true_eq_false, false_imp_iff, true_and, and_true, forall_const, reduceCtorEq]
    exact into_k (by omega) (by simp -dsimp only [go_sem, Nat.reduceLT, Nat.reduceEqDiff, Nat.reduceAdd, Nat.reduceMul, Nat.reduceBEq, beq_self_eq_true, Nat.reduceLeDiff, Nat.le_refl, hk]) (by simp -dsimp only [go_sem, Nat.reduceLT, Nat.reduceEqDiff, Nat.reduceAdd, Nat.reduceMul, Nat.reduceBEq, beq_self_eq_true, Nat.reduceLeDiff, Nat.le_refl])
  · simp -dsimp only [go_sem, Nat.reduceLT, Nat.reduceEqDiff, Nat.reduceAdd, Nat.reduceMul, Nat.reduceBEq, beq_self_eq_true, Nat.reduceLeDiff, Nat.le_refl] at hk
    simp -dsimp only [go_sem, Nat.reduceLT, Nat.reduceEqDiff, Nat.reduceAdd, Nat.reduceMul, Nat.reduceBEq, beq_self_eq_true, Nat.reduceLeDiff, Nat.le_refl, hk, h5, hlt, h.lenT]
theorem eqPageA8_p (d d' : D) (xs : List Md.Page) (h : IsA 8 17 IsPage d xs) (h' : IsA 8 17 IsPage d' xs) : PCall Try.prog 208 [d, d'] fun _ _ r => r = .lit (.bool true) := by
  obtain ⟨hl, fi, rfl, hst, hf⟩ := h
  obtain ⟨hl', fi', rfl, hst', hf'⟩ := h'
  refine pcall_intro_v Try.func208 rfl (by decide) rfl (by decide) (by rw [Try.ntmps208]; simp) fun w0 M n0 => ivc_sound ?_; simp -dsimp only [Try.f208, go_sem, Nat.reduceLT, Nat.reduceEqDiff, Nat.reduceAdd, Nat.reduceMul, Nat.reduceBEq, beq_self_eq_true, Nat.reduceLeDiff, Nat.le_refl, bne_self_eq_false, Bool.not_true, Bool.not_false, Bool.false_eq_true, Bool.true_eq_false, false_imp_iff, true_and, and_true, forall_const, reduceCtorEq]
  intro g1 b1 hb1 g2 b2 hb2
  refine iwp_forK 8 [2, 3] (fun i s => s 5 = .lit (.int .i64 i)) 0 (Nat.zero_le _) (by simp -dsimp only [go_sem, Nat.reduceLT, Nat.reduceEqDiff, Nat.reduceAdd, Nat.reduceMul, Nat.reduceBEq, beq_self_eq_true, Nat.reduceLeDiff, Nat.le_refl]; rfl) ?_
  rintro i n' s hi hn hk h5
  refine ivc_sound ?_
  simp -dsimp only [go_sem, Nat.reduceLT, Nat.reduceEqDiff, Nat.reduceAdd, Nat.reduceMul, Nat.reduceBEq, beq_self_eq_true, Nat.reduceLeDiff, Nat.le_refl] at hk
  by_cases hlt : i < 8
  · have hc : (i : Int) < 8 := by omega
    have hlt' : i < xs.length := by omega
    have hfi := hf i hlt'
    have hfi' := hf' i hlt'
    have q := shp_page _ _ hfi
    have e1 := q.1
    have e2 := q.2.1
    have e4 := q.2.2.2
    have q' := shp_page _ _ hfi'
    have k1 := q'.1
    have k2 := q'.2.1
    have k4 := q'.2.2.2
    have hw := i64_succ (i := i) (by omega)
    simp -dsimp only [go_sem, Nat.reduceLT, Nat.reduceEqDiff, Nat.reduceAdd, Nat.reduceMul, Nat.reduceBEq, beq_self_eq_true, Nat.reduceLeDiff, Nat.le_refl, hk, h5, hlt, hc, hw]
    refine iwp_plan [(0, true), (1, true), (2, true), (3, true), (4, true), (5, true), (6, false), (7, true)] [2, 3] rfl (by decide +kernel) (by decide) ?_
    simp -dsimp only [go_sem, Nat.reduceLT, Nat.reduceEqDiff, Nat.reduceAdd, Nat.reduceMul, Nat.reduceBEq, beq_self_eq_true, Nat.reduceLeDiff, Nat.le_refl, hk, h5, hlt, hc, hw, e1, e2, k1, k2, bne_self_eq_false, Bool.not_true, Bool.not_false, Bool.false_eq_true, Bool.true_eq_false, false_imp_iff, true_and, and_true, forall_const, reduceCtorEq]
    refine xcall_v (eqPage_p _ _ _ hfi hfi') (by simp -dsimp only [go_sem, Nat.reduceLT, Nat.reduceEqDiff, Nat.reduceAdd, Nat.reduceMul, Nat.reduceBEq, beq_self_eq_true, Nat.reduceLeDiff, Nat.le_refl, rl_still, e4, k4]) (fun _ => trivial) fun n1 hn1 => ?_
    simp -dsimp only [go_sem, Nat.reduceLT, Nat.reduceEqDiff, Nat.reduceAdd, Nat.reduceMul, Nat.reduceBEq, beq_self_eq_true, Nat.reduceLeDiff, Nat.le_refl, hk, h5, hlt, hc, hw, bne_self_eq_false, Bool.not_true, Bool.not_false, Bool.false_eq_true, Bool.true_eq_false, false_imp_iff, true_and, and_true, forall_const, reduceCtorEq]
    exact into_k (by omega) (by simp -dsimp only [go_sem, Nat.reduceLT, Nat.reduceEqDiff, Nat.reduceAdd, Nat.reduceMul, Nat.reduceBEq, beq_self_eq_true, Nat.reduceLeDiff, Nat.le_refl, hk]) (by simp -dsimp only [go_sem, Nat.reduceLT, Nat.reduceEqDiff, Nat.reduceAdd, Nat.reduceMul, Nat.reduceBEq, beq_self_eq_true, Nat.reduceLeDiff, Nat.le_refl])
  · have hc : ¬ (i : Int) < 8 := by omega
    simp -dsimp only [go_sem, Nat.reduceLT, Nat.reduceEqDiff, Nat.reduceAdd, Nat.reduceMul, Nat.reduceBEq, beq_self_eq_true, Nat.reduceLeDiff, Nat.le_refl, hk, h5, hlt, hc]
theorem eqEngine_p (d d' : D) (x : Md.Engine) (h : IsEngine d x) (h' : IsEngine d' x) : PCall Try.prog 119 [d, d'] fun _ _ r => r = .lit (.bool true) := by
  obtain ⟨f, rfl, hst, k0, k1, k2, k3, k4, k5, k6⟩ := h
  obtain ⟨f', rfl, hst', l0, l1, l2, l3, l4, l5, l6⟩ := h'
  have qk1 := shp_pool _ _ k1
  have xk1 := qk1.1
  have yk1 := qk1.2.1
  have wk1 := qk1.2.2.2
  have ql1 := shp_pool _ _ l1
  have xl1 := ql1.1
  have yl1 := ql1.2.1
  have wl1 := ql1.2.2.2
  have qk2 := shp_log _ _ k2
  have xk2 := qk2.1
  have yk2 := qk2.2.1
  have wk2 := qk2.2.2.2
  have ql2 := shp_log _ _ l2
  have xl2 := ql2.1
  have yl2 := ql2.2.1
  have wl2 := ql2.2.2.2
  have k5 : f 5 = _ := k5
  have l5 : f' 5 = _ := l5
  have k6 : f 6 = _ := k6
  have l6 : f' 6 = _ := l6
  refine pcall_intro_v Try.func119 rfl (by decide) rfl (by decide) (by rw [Try.ntmps119]; simp) fun w0 M n0 => ivc_sound ?_; simp -dsimp only [Try.f119, go_sem, Nat.reduceLT, Nat.reduceEqDiff, Nat.reduceAdd, Nat.reduceMul, Nat.reduceBEq, beq_self_eq_true, Nat.reduceLeDiff, Nat.le_refl, k0.size, k0.isNode, k0.plain, l0.size, l0.isNode, l0.plain, xk1, yk1, xl1, yl1, xk2, yk2, xl2, yl2, k3.size, k3.isNode, k3.plain, l3.size, l3.isNode, l3.plain, k4.size, k4.isNode, k4.plain, l4.size, l4.isNode, l4.plain, k5, l5, k6, l6, bne_self_eq_false, Bool.not_true, Bool.not_false, Bool.false_eq_true, Bool.true_eq_false, false_imp_iff, true_and, and_true, forall_const, reduceCtorEq]
  intro g1 b1 hb1 g2 b2 hb2
  refine xcall_v (eqPageA8_p _ _ _ k0 l0) (by simp -dsimp only [go_sem, Nat.reduceLT, Nat.reduceEqDiff, Nat.reduceAdd, Nat.reduceMul, Nat.reduceBEq, beq_self_eq_true, Nat.reduceLeDiff, Nat.le_refl, rl_still, k0.still, l0.still]) (fun _ => trivial) fun m0 hm0 => ?_
  simp -dsimp only [go_sem, Nat.reduceLT, Nat.reduceEqDiff, Nat.reduceAdd, Nat.reduceMul, Nat.reduceBEq, beq_self_eq_true, Nat.reduceLeDiff, Nat.le_refl, k0.size, k0.isNode, k0.plain, l0.size, l0.isNode, l0.plain, xk1, yk1, xl1, yl1, xk2, yk2, xl2, yl2, k3.size, k3.isNode, k3.plain, l3.size, l3.isNode, l3.plain, k4.size, k4.isNode, k4.plain, l4.size, l4.isNode, l4.plain, k5, l5, k6, l6, bne_self_eq_false, Bool.not_true, Bool.not_false, Bool.false_eq_true, Bool.true_eq_false, false_imp_iff, true_and, and_true, forall_const, reduceCtorEq]
  refine xcall_v (eqPool_p _ _ _ k1 l1) (by simp -dsimp only [go_sem, Nat.reduceLT, Nat.reduceEqDiff, Nat.reduceAdd, Nat.reduceMul, Nat.reduceBEq, beq_self_eq_true, Nat.reduceLeDiff, Nat.le_refl, rl_still, wk1, wl1]) (fun _ => trivial) fun m1 hm1 => ?_
  simp -dsimp only [go_sem, Nat.reduceLT, Nat.reduceEqDiff, Nat.reduceAdd, Nat.reduceMul, Nat.reduceBEq, beq_self_eq_true, Nat.reduceLeDiff, Nat.le_refl, k0.size, k0.isNode, k0.plain, l0.size, l0.isNode, l0.plain, xk1, yk1, xl1, yl1, xk2, yk2, xl2, yl2, k3.size, k3.isNode, k3.plain, l3.size, l3.isNode, l3.plain, k4.size, k4.isNode, k4.plain, l4.size, l4.isNode, l4.plain, k5, l5, k6, l6, bne_self_eq_false, Bool.not_true, Bool.not_false, Bool.false_eq_true, Bool.true_eq_false, false_imp_iff, true_and, and_true, forall_const, reduceCtorEq]
  refine xcall_v (eqLog_p _ _ _ k2 l2) (by simp -dsimp only [go_sem, Nat.reduceLT, Nat.reduceEqDiff, Nat.reduceAdd, Nat.reduceMul, Nat.reduceBEq, beq_self_eq_true, Nat.reduceLeDiff, Nat.le_refl, rl_still, wk2, wl2]) (fun _ => trivial) fun m2 hm2 => ?_
  simp -dsimp only [go_sem, Nat.reduceLT, Nat.reduceEqDiff, Nat.reduceAdd, Nat.reduceMul, Nat.reduceBEq, beq_self_eq_true, Nat.reduceLeDiff, Nat.le_refl, k0.size, k0.isNode, k0.plain, l0.size, l0.isNode, l0.plain, xk1, yk1, xl1, yl1, xk2, yk2, xl2, yl2, k3.size, k3.isNode, k3.plain, l3.size, l3.isNode, l3.plain, k4.size, k4.isNode, k4.plain, l4.size, l4.isNode, l4.plain, k5, l5, k6, l6, bne_self_eq_false, Bool.not_true, Bool.not_false, Bool.false_eq_true, Bool.true_eq_false, false_imp_iff, true_and, and_true, forall_const, reduceCtorEq]
  refine xcall_v (eqLiveS_p _ _ _ k3 l3) (by simp -dsimp only [go_sem, Nat.reduceLT, Nat.reduceEqDiff, Nat.reduceAdd, Nat.reduceMul, Nat.reduceBEq, beq_self_eq_true, Nat.reduceLeDiff, Nat.le_refl, rl_still, k3.still, l3.still]) (fun _ => trivial) fun m3 hm3 => ?_
  simp -dsimp only [go_sem, Nat.reduceLT, Nat.reduceEqDiff, Nat.reduceAdd, Nat.reduceMul, Nat.reduceBEq, beq_self_eq_true, Nat.reduceLeDiff, Nat.le_refl, k0.size, k0.isNode, k0.plain, l0.size, l0.isNode, l0.plain, xk1, yk1, xl1, yl1, xk2, yk2, xl2, yl2, k3.size, k3.isNode, k3.plain, l3.size, l3.isNode, l3.plain, k4.size, k4.isNode, k4.plain, l4.size, l4.isNode, l4.plain, k5, l5, k6, l6, bne_self_eq_false, Bool.not_true, Bool.not_false, Bool.false_eq_true, Bool.true_eq_false, false_imp_iff, true_and, and_true, forall_const, reduceCtorEq]
  refine xcall_v (eqHoldS_p _ _ _ k4 l4) (by simp -dsimp only [go_sem, Nat.reduceLT, Nat.reduceEqDiff, Nat.reduceAdd, Nat.reduceMul, Nat.reduceBEq, beq_self_eq_true, Nat.reduceLeDiff, Nat.le_refl, rl_still, k4.still, l4.still]) (fun _ => trivial) fun m4 hm4 => ?_
  simp -dsimp only [go_sem, Nat.reduceLT, Nat.reduceEqDiff, Nat.reduceAdd, Nat.reduceMul, Nat.reduceBEq, beq_self_eq_true, Nat.reduceLeDiff, Nat.le_refl, k0.size, k0.isNode, k0.plain, l0.size, l0.isNode, l0.plain, xk1, yk1, xl1, yl1, xk2, yk2, xl2, yl2, k3.size, k3.isNode, k3.plain, l3.size, l3.isNode, l3.plain, k4.size, k4.isNode, k4.plain, l4.size, l4.isNode, l4.plain, k5, l5, k6, l6, bne_self_eq_false, Bool.not_true, Bool.not_false, Bool.false_eq_true, Bool.true_eq_false, false_imp_iff, true_and, and_true, forall_const, reduceCtorEq]
end Go.Proofs.Ytjaddgkhlmallaa.IM
