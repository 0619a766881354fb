/- Contracts: records. -/
import Derived.Test.YtjaddgkhlmallaaC8
namespace Go.Proofs.Ytjaddgkhlmallaa.IM
open Go Go.Proofs
set_option linter.unusedVariables false
set_option linter.unusedSimpArgs false
set_option maxHeartbeats 2000000
set_option maxRecDepth 20000

theorem sameS_z (s : Md.Slot) : sameS s Md.zSlot = Md.noSlot s := by
  have e : ∀ l : List Int, (decide (l = [])) = ((l.length : Int) == 0) := fun l => by
    cases l with
    | nil => rfl
    | cons x l =>
      have : ¬ ((x :: l).length : Int) = 0 := by simp only [List.length_cons]; omega
      rw [show (((x :: l).length : Int) == 0) = false by simpa using this]
      simp
  have h0 : (s.has == false) = !s.has := by cases s.has <;> rfl
  show ((s.has == false) && ((s.o.kind == 0) && decide (s.o.ints = []) && decide (s.o.refs = []))) = _
  rw [e, e, h0]
  rfl
theorem inB_iff (n lo hi : Int) : Md.inB n lo hi = true ↔ lo ≤ n ∧ n ≤ hi := by simp [Md.inB]
theorem slotOk_no {s : Md.Slot} (h : Md.noSlot s = true) : Md.slotOk s = true := by
  simp only [Md.noSlot, Bool.and_eq_true, Bool.not_eq_true'] at h
  simp [Md.slotOk, h.1, h.2]

theorem specRecOk_p (d : D) (r : Md.Rec) (h : IsRec d r) : PCall Try.prog 65 [d] fun _ _ x => x = .lit (.bool (Md.recOk r)) := by
  have hr := h
  have hq := shp_rec _ _ h
  obtain ⟨f, rfl, hst, k0, k1, k2, k3, k4, k5, k6, k7, k8⟩ := h
  have k0 : f 0 = _ := k0
  have k1 : f 1 = _ := k1
  have k2 : f 2 = _ := k2
  have k3 : f 3 = _ := k3
  have k4 : f 4 = _ := k4
  have k7 : f 7 = _ := k7
  have q5 := shp_slot _ _ k5
  have q6 := shp_slot _ _ k6
  refine pcall_intro_v Try.func65 rfl (by decide) rfl (by decide) (by rw [Try.ntmps65]; simp) fun w0 M n0 => ivc_sound ?_; simp -dsimp only [Try.f65, go_sem, Nat.reduceLT, Nat.reduceEqDiff, Nat.reduceAdd, Nat.reduceMul, Nat.reduceBEq, beq_self_eq_true, Nat.reduceLeDiff, Nat.le_refl, k0, k1, k2, k3, k4, k7, q5.1, q5.2.1, q6.1, q6.2.1, k8.size, k8.isNode, k8.plain, k8.lenT]
  intro g1 b1 hb1
  refine xcall_v (l1In_p _ _ _) (by simp -dsimp only [go_sem, Nat.reduceLT, Nat.reduceEqDiff, Nat.reduceAdd, Nat.reduceMul, Nat.reduceBEq, beq_self_eq_true, Nat.reduceLeDiff, Nat.le_refl, k0]; rfl) (fun _ => trivial) fun _ _ => ?_
  simp -dsimp only [go_sem, Nat.reduceLT, Nat.reduceEqDiff, Nat.reduceAdd, Nat.reduceMul, Nat.reduceBEq, beq_self_eq_true, Nat.reduceLeDiff, Nat.le_refl, k0, k1, k2, k3, k4, k7, q5.1, q5.2.1, q6.1, q6.2.1, k8.size, k8.isNode, k8.plain, k8.lenT]
  refine ⟨fun hA => ?_, fun hA => ?_⟩
  rotate_left
  · first | (simp [Md.recOk, *]; done) | (simp_all [Md.recOk]; done) | (simp_all [Md.recOk]; omega)
  have hA : 1 ≤ r.lsn ∧ r.lsn ≤ 1000000 := by simpa [Md.inB] using hA
  have hsub : IntKind.i64.wrap (r.lsn - 1) = r.lsn - 1 := by rw [IntKind.wrap_i64]; omega
  repeat' (first
    | (refine xcall_v (l3Slot_p _ _ k5) ?_ (fun _ => trivial) (fun _ _ => ?_); (focus (simp -dsimp only [go_sem, Nat.reduceLT, Nat.reduceEqDiff, Nat.reduceAdd, Nat.reduceMul, Nat.reduceBEq, beq_self_eq_true, Nat.reduceLeDiff, Nat.le_refl, rl_still, q5.2.2.2, k0, k1, k2, k3, k4, k7, q5.1, q5.2.1, q6.1, q6.2.1, k8.size, k8.isNode, k8.plain, k8.lenT, hsub]; first | done | rfl)); simp -dsimp only [go_sem, Nat.reduceLT, Nat.reduceEqDiff, Nat.reduceAdd, Nat.reduceMul, Nat.reduceBEq, beq_self_eq_true, Nat.reduceLeDiff, Nat.le_refl, k0, k1, k2, k3, k4, k7, q5.1, q5.2.1, q6.1, q6.2.1, k8.size, k8.isNode, k8.plain, k8.lenT, hsub])
    | (refine xcall_v (l3Slot_p _ _ k6) ?_ (fun _ => trivial) (fun _ _ => ?_); (focus (simp -dsimp only [go_sem, Nat.reduceLT, Nat.reduceEqDiff, Nat.reduceAdd, Nat.reduceMul, Nat.reduceBEq, beq_self_eq_true, Nat.reduceLeDiff, Nat.le_refl, rl_still, q6.2.2.2, k0, k1, k2, k3, k4, k7, q5.1, q5.2.1, q6.1, q6.2.1, k8.size, k8.isNode, k8.plain, k8.lenT, hsub]; first | done | rfl)); simp -dsimp only [go_sem, Nat.reduceLT, Nat.reduceEqDiff, Nat.reduceAdd, Nat.reduceMul, Nat.reduceBEq, beq_self_eq_true, Nat.reduceLeDiff, Nat.le_refl, k0, k1, k2, k3, k4, k7, q5.1, q5.2.1, q6.1, q6.2.1, k8.size, k8.isNode, k8.plain, k8.lenT, hsub])
    | (refine xcall_v (l4Lives_p _ _ hr hA.1 hA.2) ?_ (fun _ => trivial) (fun _ _ => ?_); (focus (simp -dsimp only [go_sem, Nat.reduceLT, Nat.reduceEqDiff, Nat.reduceAdd, Nat.reduceMul, Nat.reduceBEq, beq_self_eq_true, Nat.reduceLeDiff, Nat.le_refl, rl_still, hq.2.2.2, k0, k1, k2, k3, k4, k7, q5.1, q5.2.1, q6.1, q6.2.1, k8.size, k8.isNode, k8.plain, k8.lenT, hsub]; first | done | rfl)); simp -dsimp only [go_sem, Nat.reduceLT, Nat.reduceEqDiff, Nat.reduceAdd, Nat.reduceMul, Nat.reduceBEq, beq_self_eq_true, Nat.reduceLeDiff, Nat.le_refl, k0, k1, k2, k3, k4, k7, q5.1, q5.2.1, q6.1, q6.2.1, k8.size, k8.isNode, k8.plain, k8.lenT, hsub])
    | (refine xcall_v (l4Zero_c _ _ hr) ?_ (fun _ => trivial) (fun _ _ => ?_); (focus (simp -dsimp only [go_sem, Nat.reduceLT, Nat.reduceEqDiff, Nat.reduceAdd, Nat.reduceMul, Nat.reduceBEq, beq_self_eq_true, Nat.reduceLeDiff, Nat.le_refl, rl_still, hq.2.2.2, k0, k1, k2, k3, k4, k7, q5.1, q5.2.1, q6.1, q6.2.1, k8.size, k8.isNode, k8.plain, k8.lenT, hsub]; first | done | rfl)); simp -dsimp only [go_sem, Nat.reduceLT, Nat.reduceEqDiff, Nat.reduceAdd, Nat.reduceMul, Nat.reduceBEq, beq_self_eq_true, Nat.reduceLeDiff, Nat.le_refl, k0, k1, k2, k3, k4, k7, q5.1, q5.2.1, q6.1, q6.2.1, k8.size, k8.isNode, k8.plain, k8.lenT, hsub])
    | (refine xcall_v (l4Zero_s _ _ hr) ?_ (fun _ => trivial) (fun _ _ => ?_); (focus (simp -dsimp only [go_sem, Nat.reduceLT, Nat.reduceEqDiff, Nat.reduceAdd, Nat.reduceMul, Nat.reduceBEq, beq_self_eq_true, Nat.reduceLeDiff, Nat.le_refl, rl_still, hq.2.2.2, k0, k1, k2, k3, k4, k7, q5.1, q5.2.1, q6.1, q6.2.1, k8.size, k8.isNode, k8.plain, k8.lenT, hsub]; first | done | rfl)); simp -dsimp only [go_sem, Nat.reduceLT, Nat.reduceEqDiff, Nat.reduceAdd, Nat.reduceMul, Nat.reduceBEq, beq_self_eq_true, Nat.reduceLeDiff, Nat.le_refl, k0, k1, k2, k3, k4, k7, q5.1, q5.2.1, q6.1, q6.2.1, k8.size, k8.isNode, k8.plain, k8.lenT, hsub])
    | (refine xcall_v (l4Zero_b _ _ hr) ?_ (fun _ => trivial) (fun _ _ => ?_); (focus (simp -dsimp only [go_sem, Nat.reduceLT, Nat.reduceEqDiff, Nat.reduceAdd, Nat.reduceMul, Nat.reduceBEq, beq_self_eq_true, Nat.reduceLeDiff, Nat.le_refl, rl_still, hq.2.2.2, k0, k1, k2, k3, k4, k7, q5.1, q5.2.1, q6.1, q6.2.1, k8.size, k8.isNode, k8.plain, k8.lenT, hsub]; first | done | rfl)); simp -dsimp only [go_sem, Nat.reduceLT, Nat.reduceEqDiff, Nat.reduceAdd, Nat.reduceMul, Nat.reduceBEq, beq_self_eq_true, Nat.reduceLeDiff, Nat.le_refl, k0, k1, k2, k3, k4, k7, q5.1, q5.2.1, q6.1, q6.2.1, k8.size, k8.isNode, k8.plain, k8.lenT, hsub])
    | (refine xcall_v (l4Zero_o _ _ hr) ?_ (fun _ => trivial) (fun _ _ => ?_); (focus (simp -dsimp only [go_sem, Nat.reduceLT, Nat.reduceEqDiff, Nat.reduceAdd, Nat.reduceMul, Nat.reduceBEq, beq_self_eq_true, Nat.reduceLeDiff, Nat.le_refl, rl_still, hq.2.2.2, k0, k1, k2, k3, k4, k7, q5.1, q5.2.1, q6.1, q6.2.1, k8.size, k8.isNode, k8.plain, k8.lenT, hsub]; first | done | rfl)); simp -dsimp only [go_sem, Nat.reduceLT, Nat.reduceEqDiff, Nat.reduceAdd, Nat.reduceMul, Nat.reduceBEq, beq_self_eq_true, Nat.reduceLeDiff, Nat.le_refl, k0, k1, k2, k3, k4, k7, q5.1, q5.2.1, q6.1, q6.2.1, k8.size, k8.isNode, k8.plain, k8.lenT, hsub])
    | (refine xcall_v (l1In_p r.tx 1 1000) ?_ (fun _ => trivial) (fun _ _ => ?_); (focus (simp -dsimp only [go_sem, Nat.reduceLT, Nat.reduceEqDiff, Nat.reduceAdd, Nat.reduceMul, Nat.reduceBEq, beq_self_eq_true, Nat.reduceLeDiff, Nat.le_refl, rl_still, k0, k1, k2, k3, k4, k7, q5.1, q5.2.1, q6.1, q6.2.1, k8.size, k8.isNode, k8.plain, k8.lenT, hsub]; first | done | rfl)); simp -dsimp only [go_sem, Nat.reduceLT, Nat.reduceEqDiff, Nat.reduceAdd, Nat.reduceMul, Nat.reduceBEq, beq_self_eq_true, Nat.reduceLeDiff, Nat.le_refl, k0, k1, k2, k3, k4, k7, q5.1, q5.2.1, q6.1, q6.2.1, k8.size, k8.isNode, k8.plain, k8.lenT, hsub])
    | (refine xcall_v (l1In_p r.prev 0 (r.lsn - 1)) ?_ (fun _ => trivial) (fun _ _ => ?_); (focus (simp -dsimp only [go_sem, Nat.reduceLT, Nat.reduceEqDiff, Nat.reduceAdd, Nat.reduceMul, Nat.reduceBEq, beq_self_eq_true, Nat.reduceLeDiff, Nat.le_refl, rl_still, k0, k1, k2, k3, k4, k7, q5.1, q5.2.1, q6.1, q6.2.1, k8.size, k8.isNode, k8.plain, k8.lenT, hsub]; first | done | rfl)); simp -dsimp only [go_sem, Nat.reduceLT, Nat.reduceEqDiff, Nat.reduceAdd, Nat.reduceMul, Nat.reduceBEq, beq_self_eq_true, Nat.reduceLeDiff, Nat.le_refl, k0, k1, k2, k3, k4, k7, q5.1, q5.2.1, q6.1, q6.2.1, k8.size, k8.isNode, k8.plain, k8.lenT, hsub])
    | (refine xcall_v (l1In_p r.oid 1 31) ?_ (fun _ => trivial) (fun _ _ => ?_); (focus (simp -dsimp only [go_sem, Nat.reduceLT, Nat.reduceEqDiff, Nat.reduceAdd, Nat.reduceMul, Nat.reduceBEq, beq_self_eq_true, Nat.reduceLeDiff, Nat.le_refl, rl_still, k0, k1, k2, k3, k4, k7, q5.1, q5.2.1, q6.1, q6.2.1, k8.size, k8.isNode, k8.plain, k8.lenT, hsub]; first | done | rfl)); simp -dsimp only [go_sem, Nat.reduceLT, Nat.reduceEqDiff, Nat.reduceAdd, Nat.reduceMul, Nat.reduceBEq, beq_self_eq_true, Nat.reduceLeDiff, Nat.le_refl, k0, k1, k2, k3, k4, k7, q5.1, q5.2.1, q6.1, q6.2.1, k8.size, k8.isNode, k8.plain, k8.lenT, hsub])
    | (refine xcall_v (l1In_p r.next 0 (r.lsn - 1)) ?_ (fun _ => trivial) (fun _ _ => ?_); (focus (simp -dsimp only [go_sem, Nat.reduceLT, Nat.reduceEqDiff, Nat.reduceAdd, Nat.reduceMul, Nat.reduceBEq, beq_self_eq_true, Nat.reduceLeDiff, Nat.le_refl, rl_still, k0, k1, k2, k3, k4, k7, q5.1, q5.2.1, q6.1, q6.2.1, k8.size, k8.isNode, k8.plain, k8.lenT, hsub]; first | done | rfl)); simp -dsimp only [go_sem, Nat.reduceLT, Nat.reduceEqDiff, Nat.reduceAdd, Nat.reduceMul, Nat.reduceBEq, beq_self_eq_true, Nat.reduceLeDiff, Nat.le_refl, k0, k1, k2, k3, k4, k7, q5.1, q5.2.1, q6.1, q6.2.1, k8.size, k8.isNode, k8.plain, k8.lenT, hsub])
    | refine ⟨?_, ?_⟩ | with_reducible intro _)
  all_goals
    have hA' := (inB_iff r.lsn 1 1000000).2 hA
    have no1 := @slotOk_no r.before
    have no2 := @slotOk_no r.after
    have nz : ((r.txs.length : Int) == 0) = r.txs.isEmpty := by cases r.txs with
      | nil => rfl
      | cons x l =>
        have : ¬ ((x :: l).length : Int) = 0 := by simp only [List.length_cons]; omega
        rw [show (((x :: l).length : Int) == 0) = false by simpa using this]; rfl
    simp only [zeroR, sameS_z, nz] at *
    unfold Md.recOk
    generalize Md.noSlot r.before = z1 at *
    generalize Md.noSlot r.after = z2 at *
    generalize Md.slotOk r.before = s1 at *
    generalize Md.slotOk r.after = s2 at *
    generalize Md.livesOk r.txs r.lsn = l1 at *
    generalize r.txs.isEmpty = l2 at *
    generalize Md.inB r.lsn 1 1000000 = i1 at *
    generalize Md.inB r.tx 1 1000 = i2 at *
    generalize Md.inB r.prev 0 (r.lsn - 1) = i3 at *
    generalize Md.inB r.oid 1 31 = i4 at *
    generalize Md.inB r.next 0 (r.lsn - 1) = i5 at *
    clear hq hr q5 q6 k5 k6 k8
    grind
end Go.Proofs.Ytjaddgkhlmallaa.IM
