/- Contracts of the laws' functions that copy what comes in. Printed by laws_to.py. -/
import Derived.Test.YtjaddgkhlmallaaD1
namespace Go.Proofs.Ytjaddgkhlmallaa.IM
open Go Go.Proofs
set_option linter.unusedVariables false
set_option linter.unusedSimpArgs false
set_option maxHeartbeats 2000000
set_option maxRecDepth 20000

theorem toIntS_p (d : D) (xs : List Int) (h : IsL 1 IsInt d xs) (hs : xs.length ≤ 1048576) : PCall Try.prog 151 [d] fun n0 n1 r => IsL 1 IsInt r xs ∧ Own n0 n1 r := by
  refine pcall_intro Try.func151 rfl (by decide) rfl (by decide) (by rw [Try.ntmps151]; simp) fun w0 M n0 hW => ivc_sound ?_; simp -dsimp only [Try.f151, go_sem, Nat.reduceLT, Nat.reduceEqDiff, Nat.reduceAdd, Nat.reduceMul, Nat.reduceBEq, beq_self_eq_true, Nat.reduceLeDiff, Nat.le_refl, h.lenT]
  refine ⟨by omega, by omega, fun g b hb => ?_⟩
  refine iwp_forR xs.length [0, 2, 3] (fun i n' s R => s 4 = .lit (.int .i64 i) ∧ ∃ f, R = upd (fun _ => none) 7 (some (g, b, .node (.arr xs.length 1) f)) ∧ Fill IsInt 1 n0 n' xs xs.length i f) 0 (Nat.zero_le _)
    ⟨by simp -dsimp only [go_sem, Nat.reduceLT, Nat.reduceEqDiff, Nat.reduceAdd, Nat.reduceMul, Nat.reduceBEq, beq_self_eq_true, Nat.reduceLeDiff, Nat.le_refl]; rfl, _, rfl, Fill.start (fun _ => trivial) fun _ _ => ⟨trivial, rfl⟩⟩ ?_
  rintro i n' s R hi hn hk ⟨h4, f, rfl, hf⟩
  refine ivc_sound ?_
  simp -dsimp only [go_sem, Nat.reduceLT, Nat.reduceEqDiff, Nat.reduceAdd, Nat.reduceMul, Nat.reduceBEq, beq_self_eq_true, Nat.reduceLeDiff, Nat.le_refl] at hk
  by_cases hlt : i < xs.length
  · obtain ⟨t, zb, fi, rfl, hst', hf'⟩ := h.sl hlt
    have hfi : fi i = _ := hf' i hlt
    have hw := i64_succ (i := i) (by omega)
    have q1 := (hf.sh i hlt).1
    have q2 := (hf.sh i hlt).2
    simp -dsimp only [go_sem, Nat.reduceLT, Nat.reduceEqDiff, Nat.reduceAdd, Nat.reduceMul, Nat.reduceBEq, beq_self_eq_true, Nat.reduceLeDiff, Nat.le_refl, hk, h4, hlt, hfi, hw, q1, q2]
    exact into_r (by omega) (by simp -dsimp only [go_sem, Nat.reduceLT, Nat.reduceEqDiff, Nat.reduceAdd, Nat.reduceMul, Nat.reduceBEq, beq_self_eq_true, Nat.reduceLeDiff, Nat.le_refl, hk]) ⟨by simp -dsimp only [go_sem, Nat.reduceLT, Nat.reduceEqDiff, Nat.reduceAdd, Nat.reduceMul, Nat.reduceBEq, beq_self_eq_true, Nat.reduceLeDiff, Nat.le_refl], _, rfl, hf.step shp_int hlt rfl (own_lit n' n' _) (by omega) (by omega) (by omega) (by omega)⟩
  · simp -dsimp only [go_sem, Nat.reduceLT, Nat.reduceEqDiff, Nat.reduceAdd, Nat.reduceMul, Nat.reduceBEq, beq_self_eq_true, Nat.reduceLeDiff, Nat.le_refl, hk, h4, hlt, h.lenT]
    intro n1 hn1 hfc
    rw [rls_still hf.st]
    exact hf.isL hlt (by omega) hb hfc.here.1 hn1 hfc.here.2
theorem toObj_p (d : D) (x : Md.Obj) (h : IsObj d x) (hs : Md.szObj x ≤ 1048576) : PCall Try.prog 42 [d] fun n0 n1 r => IsObj r x ∧ Own n0 n1 r := by
  obtain ⟨f, rfl, hst, k0, k1, k2⟩ := h
  have k0 : f 0 = _ := k0
  unfold Md.szObj at hs
  refine pcall_intro Try.func42 rfl (by decide) rfl (by decide) (by rw [Try.ntmps42]; simp) fun w0 M n0 hW => ivc_sound ?_; simp -dsimp only [Try.f42, go_sem, Nat.reduceLT, Nat.reduceEqDiff, Nat.reduceAdd, Nat.reduceMul, Nat.reduceBEq, beq_self_eq_true, Nat.reduceLeDiff, Nat.le_refl, k0, k1.size, k1.isNode, k1.plain, k1.still, k2.size, k2.isNode, k2.plain, k2.still]
  intro g1 b1 hb1 g2 b2 hb2 g3 b3 hb3
  refine xcall_p (toIntS_p _ _ k1 (by omega)) (by simp -dsimp only [go_sem, Nat.reduceLT, Nat.reduceEqDiff, Nat.reduceAdd, Nat.reduceMul, Nat.reduceBEq, beq_self_eq_true, Nat.reduceLeDiff, Nat.le_refl, rl_still, k0, k1.size, k1.isNode, k1.plain, k1.still, k2.size, k2.isNode, k2.plain, k2.still]) fun m0 p0 r0 hm0 hp0 hr0 => ?_
  have ho0 := hr0.2
  have hq0 := hr0.1
  have v0 := hq0.still
  refine ⟨ho0.tags, ?_⟩
  simp -dsimp only [go_sem, Nat.reduceLT, Nat.reduceEqDiff, Nat.reduceAdd, Nat.reduceMul, Nat.reduceBEq, beq_self_eq_true, Nat.reduceLeDiff, Nat.le_refl, k0, k1.size, k1.isNode, k1.plain, k1.still, k2.size, k2.isNode, k2.plain, k2.still, hq0.size, hq0.isNode, hq0.plain]
  refine xcall_p (toIntS_p _ _ k2 (by omega)) (by simp -dsimp only [go_sem, Nat.reduceLT, Nat.reduceEqDiff, Nat.reduceAdd, Nat.reduceMul, Nat.reduceBEq, beq_self_eq_true, Nat.reduceLeDiff, Nat.le_refl, rl_still, k0, k1.size, k1.isNode, k1.plain, k1.still, k2.size, k2.isNode, k2.plain, k2.still]) fun m1 p1 r1 hm1 hp1 hr1 => ?_
  have ho1 := hr1.2
  have hq1 := hr1.1
  have v1 := hq1.still
  refine ⟨ho1.tags, ?_⟩
  simp -dsimp only [go_sem, Nat.reduceLT, Nat.reduceEqDiff, Nat.reduceAdd, Nat.reduceMul, Nat.reduceBEq, beq_self_eq_true, Nat.reduceLeDiff, Nat.le_refl, k0, k1.size, k1.isNode, k1.plain, k1.still, k2.size, k2.isNode, k2.plain, k2.still, hq0.size, hq0.isNode, hq0.plain, hq1.size, hq1.isNode, hq1.plain]
  intro n1 hn1 hfc
  refine fin_node (Q := fun r => IsObj r x ∧ Own n0 n1 r) (still_upd (still_upd (still_upd (stN (by simp only [stillL_nil, stillL_cons, still_lit, still_nil, still_any, still_nodeN, still_nodeC, and_self])) trivial) v0) v1) fun hst => ?_
  refine ⟨⟨_, rfl, hst, by simp -dsimp only [go_sem, Nat.reduceLT, Nat.reduceEqDiff, Nat.reduceAdd, Nat.reduceMul, Nat.reduceBEq, beq_self_eq_true, Nat.reduceLeDiff, Nat.le_refl, IsInt, IsBool, IsByte], by simp -dsimp only [go_sem, Nat.reduceLT, Nat.reduceEqDiff, Nat.reduceAdd, Nat.reduceMul, Nat.reduceBEq, beq_self_eq_true, Nat.reduceLeDiff, Nat.le_refl]; exact hq0, by simp -dsimp only [go_sem, Nat.reduceLT, Nat.reduceEqDiff, Nat.reduceAdd, Nat.reduceMul, Nat.reduceBEq, beq_self_eq_true, Nat.reduceLeDiff, Nat.le_refl]; exact hq1⟩, own_node ?_⟩
  exact OwnN.mono (hi := p1) (ownN_snoc_own (mid := p0) (hi := p1) (ownN_snoc_own (mid := n0) (hi := p0) (ownN_snoc_lit (ownN_zero n0 n0 _) (by simp -dsimp only [go_sem, Nat.reduceLT, Nat.reduceEqDiff, Nat.reduceAdd, Nat.reduceMul, Nat.reduceBEq, beq_self_eq_true, Nat.reduceLeDiff, Nat.le_refl]; rfl)) (by simp -dsimp only [go_sem, Nat.reduceLT, Nat.reduceEqDiff, Nat.reduceAdd, Nat.reduceMul, Nat.reduceBEq, beq_self_eq_true, Nat.reduceLeDiff, Nat.le_refl]; exact ho0) (by omega) (by omega) (by omega) (by omega)) (by simp -dsimp only [go_sem, Nat.reduceLT, Nat.reduceEqDiff, Nat.reduceAdd, Nat.reduceMul, Nat.reduceBEq, beq_self_eq_true, Nat.reduceLeDiff, Nat.le_refl]; exact ho1) (by omega) (by omega) (by omega) (by omega)) (Nat.le_refl _) (by omega)
theorem toSlot_p (d : D) (x : Md.Slot) (h : IsSlot d x) (hs : Md.szSlot x ≤ 1048576) : PCall Try.prog 58 [d] fun n0 n1 r => IsSlot r x ∧ Own n0 n1 r := by
  obtain ⟨f, rfl, hst, k0, k1⟩ := h
  have k0 : f 0 = _ := k0
  obtain ⟨sa1, sb1, sc1, sd1⟩ := shp_obj _ _ k1
  unfold Md.szSlot at hs
  refine pcall_intro Try.func58 rfl (by decide) rfl (by decide) (by rw [Try.ntmps58]; simp) fun w0 M n0 hW => ivc_sound ?_; simp -dsimp only [Try.f58, go_sem, Nat.reduceLT, Nat.reduceEqDiff, Nat.reduceAdd, Nat.reduceMul, Nat.reduceBEq, beq_self_eq_true, Nat.reduceLeDiff, Nat.le_refl, k0, sa1, sb1, sd1]
  intro g1 b1 hb1 g2 b2 hb2 g3 b3 hb3
  refine xcall_p (toObj_p _ _ k1 (by omega)) (by simp -dsimp only [go_sem, Nat.reduceLT, Nat.reduceEqDiff, Nat.reduceAdd, Nat.reduceMul, Nat.reduceBEq, beq_self_eq_true, Nat.reduceLeDiff, Nat.le_refl, rl_still, k0, sa1, sb1, sd1]) fun m0 p0 r0 hm0 hp0 hr0 => ?_
  have ho0 := hr0.2
  have hq0 := hr0.1
  have q0 := shp_obj _ _ hq0
  have x0 := q0.1
  have y0 := q0.2.1
  have z0 := q0.2.2.1
  have v0 := q0.2.2.2
  refine ⟨ho0.tags, ?_⟩
  simp -dsimp only [go_sem, Nat.reduceLT, Nat.reduceEqDiff, Nat.reduceAdd, Nat.reduceMul, Nat.reduceBEq, beq_self_eq_true, Nat.reduceLeDiff, Nat.le_refl, k0, sa1, sb1, sd1, x0, y0, z0]
  intro n1 hn1 hfc
  refine fin_node (Q := fun r => IsSlot r x ∧ Own n0 n1 r) (still_upd (still_upd (stN (by simp only [stillL_nil, stillL_cons, still_lit, still_nil, still_any, still_nodeN, still_nodeC, and_self])) trivial) v0) fun hst => ?_
  refine ⟨⟨_, rfl, hst, by simp -dsimp only [go_sem, Nat.reduceLT, Nat.reduceEqDiff, Nat.reduceAdd, Nat.reduceMul, Nat.reduceBEq, beq_self_eq_true, Nat.reduceLeDiff, Nat.le_refl, IsInt, IsBool, IsByte], by simp -dsimp only [go_sem, Nat.reduceLT, Nat.reduceEqDiff, Nat.reduceAdd, Nat.reduceMul, Nat.reduceBEq, beq_self_eq_true, Nat.reduceLeDiff, Nat.le_refl]; exact hq0⟩, own_node ?_⟩
  exact OwnN.mono (hi := p0) (ownN_snoc_own (mid := n0) (hi := p0) (ownN_snoc_lit (ownN_zero n0 n0 _) (by simp -dsimp only [go_sem, Nat.reduceLT, Nat.reduceEqDiff, Nat.reduceAdd, Nat.reduceMul, Nat.reduceBEq, beq_self_eq_true, Nat.reduceLeDiff, Nat.le_refl]; rfl)) (by simp -dsimp only [go_sem, Nat.reduceLT, Nat.reduceEqDiff, Nat.reduceAdd, Nat.reduceMul, Nat.reduceBEq, beq_self_eq_true, Nat.reduceLeDiff, Nat.le_refl]; exact ho0) (by omega) (by omega) (by omega) (by omega)) (Nat.le_refl _) (by omega)
theorem toSlotA4_p (d : D) (xs : List Md.Slot) (h : IsA 4 4 IsSlot d xs) (hs : Md.sumBy Md.szSlot xs ≤ 1048576) : PCall Try.prog 137 [d] fun n0 n1 r => IsA 4 4 IsSlot r xs ∧ Own n0 n1 r := by
  obtain ⟨hl, fi, rfl, hst, hf'⟩ := h
  refine pcall_intro Try.func137 rfl (by decide) rfl (by decide) (by rw [Try.ntmps137]; simp) fun w0 M n0 hW => ivc_sound ?_; simp -dsimp only [Try.f137, go_sem, Nat.reduceLT, Nat.reduceEqDiff, Nat.reduceAdd, Nat.reduceMul, Nat.reduceBEq, beq_self_eq_true, Nat.reduceLeDiff, Nat.le_refl]
  intro g1 b1 hb1 g2 b2 hb2 g3 b3 hb3
  refine iwp_forR 4 [1, 2, 3] (fun i n' s R => s 4 = .lit (.int .i64 i) ∧ ∃ f, R = upd (upd (upd (fun _ => none) 1 (some (g1, b1, .node (.arr 4 4) fi))) 2 (some (g2, b2, zd Try.prog 35))) 3 (some (g3, b3, .node (.arr 4 4) f)) ∧ Fill IsSlot 4 n0 n' xs 4 i f) 0 (Nat.zero_le _)
    ⟨by simp -dsimp only [go_sem, Nat.reduceLT, Nat.reduceEqDiff, Nat.reduceAdd, Nat.reduceMul, Nat.reduceBEq, beq_self_eq_true, Nat.reduceLeDiff, Nat.le_refl]; rfl, _, by simp -dsimp only [go_sem, Nat.reduceLT, Nat.reduceEqDiff, Nat.reduceAdd, Nat.reduceMul, Nat.reduceBEq, beq_self_eq_true, Nat.reduceLeDiff, Nat.le_refl]; rfl, Fill.start (fun j => by simp only [stillL_nil, stillL_cons, still_lit, still_nil, still_any, still_nodeN, still_nodeC, and_self]) fun _ _ => ⟨by trivial, by rfl⟩⟩ ?_
  rintro i n' s R hi hn hk ⟨h4, f, rfl, hf⟩
  refine ivc_sound ?_
  simp -dsimp only [go_sem, Nat.reduceLT, Nat.reduceEqDiff, Nat.reduceAdd, Nat.reduceMul, Nat.reduceBEq, beq_self_eq_true, Nat.reduceLeDiff, Nat.le_refl] at hk
  by_cases hlt : i < 4
  · have hc : (i : Int) < 4 := by omega
    have hlt' : i < xs.length := by omega
    have hfi := hf' i hlt'
    have eq := shp_slot _ _ hfi
    have e1 := eq.1
    have e2 := eq.2.1
    have e4 := eq.2.2.2
    have hw := i64_succ (i := i) (by omega)
    have q1 := (hf.sh i hlt).1
    have q2 := (hf.sh i hlt).2
    simp -dsimp only [go_sem, Nat.reduceLT, Nat.reduceEqDiff, Nat.reduceAdd, Nat.reduceMul, Nat.reduceBEq, beq_self_eq_true, Nat.reduceLeDiff, Nat.le_refl, hk, h4, hlt, hc, hw, q1, q2, e1, e2]
    refine xcall_p (toSlot_p _ _ hfi (by have := Md.sumBy_mem Md.szSlot xs _ (List.getElem_mem hlt'); omega)) (by simp -dsimp only [go_sem, Nat.reduceLT, Nat.reduceEqDiff, Nat.reduceAdd, Nat.reduceMul, Nat.reduceBEq, beq_self_eq_true, Nat.reduceLeDiff, Nat.le_refl, rl_still, e4]) fun m0 m1 r hm0 hm1 hr => ?_
    have hr1 := hr.1
    have hr2 := hr.2
    have rq := shp_slot _ _ hr1
    have r1 := rq.1
    have r2 := rq.2.1
    have r3 := rq.2.2.1
    refine ⟨hr2.tags, ?_⟩
    simp -dsimp only [go_sem, Nat.reduceLT, Nat.reduceEqDiff, Nat.reduceAdd, Nat.reduceMul, Nat.reduceBEq, beq_self_eq_true, Nat.reduceLeDiff, Nat.le_refl, hk, h4, hlt, hc, hw, q1, q2, r1, r2, r3, e1, e2]
    exact into_r (by omega) (by simp -dsimp only [go_sem, Nat.reduceLT, Nat.reduceEqDiff, Nat.reduceAdd, Nat.reduceMul, Nat.reduceBEq, beq_self_eq_true, Nat.reduceLeDiff, Nat.le_refl, hk]) ⟨by simp -dsimp only [go_sem, Nat.reduceLT, Nat.reduceEqDiff, Nat.reduceAdd, Nat.reduceMul, Nat.reduceBEq, beq_self_eq_true, Nat.reduceLeDiff, Nat.le_refl], _, by simp -dsimp only [go_sem, Nat.reduceLT, Nat.reduceEqDiff, Nat.reduceAdd, Nat.reduceMul, Nat.reduceBEq, beq_self_eq_true, Nat.reduceLeDiff, Nat.le_refl], hf.step shp_slot hlt' hr1 hr2 (by omega) (by omega) (by omega) (by omega)⟩
  · have hc : ¬ (i : Int) < 4 := by omega
    simp -dsimp only [go_sem, Nat.reduceLT, Nat.reduceEqDiff, Nat.reduceAdd, Nat.reduceMul, Nat.reduceBEq, beq_self_eq_true, Nat.reduceLeDiff, Nat.le_refl, hk, h4, hlt, hc]
    intro n1 hn1 hfc
    rw [rlnode_still hf.st]
    have := hf.isA hl hlt
    exact ⟨this.1, this.2.mono (Nat.le_refl _) (by omega)⟩
theorem toPage_p (d : D) (x : Md.Page) (h : IsPage d x) (hs : Md.szPage x ≤ 1048576) : PCall Try.prog 35 [d] fun n0 n1 r => IsPage r x ∧ Own n0 n1 r := by
  obtain ⟨f, rfl, hst, k0, k1⟩ := h
  have k0 : f 0 = _ := k0
  unfold Md.szPage at hs
  refine pcall_intro Try.func35 rfl (by decide) rfl (by decide) (by rw [Try.ntmps35]; simp) fun w0 M n0 hW => ivc_sound ?_; simp -dsimp only [Try.f35, go_sem, Nat.reduceLT, Nat.reduceEqDiff, Nat.reduceAdd, Nat.reduceMul, Nat.reduceBEq, beq_self_eq_true, Nat.reduceLeDiff, Nat.le_refl, k0, k1.size, k1.isNode, k1.plain, k1.still]
  intro g1 b1 hb1 g2 b2 hb2 g3 b3 hb3
  refine xcall_p (toSlotA4_p _ _ k1 (by omega)) (by simp -dsimp only [go_sem, Nat.reduceLT, Nat.reduceEqDiff, Nat.reduceAdd, Nat.reduceMul, Nat.reduceBEq, beq_self_eq_true, Nat.reduceLeDiff, Nat.le_refl, rl_still, k0, k1.size, k1.isNode, k1.plain, k1.still]) fun m0 p0 r0 hm0 hp0 hr0 => ?_
  have ho0 := hr0.2
  have hq0 := hr0.1
  have v0 := hq0.still
  refine ⟨ho0.tags, ?_⟩
  simp -dsimp only [go_sem, Nat.reduceLT, Nat.reduceEqDiff, Nat.reduceAdd, Nat.reduceMul, Nat.reduceBEq, beq_self_eq_true, Nat.reduceLeDiff, Nat.le_refl, k0, k1.size, k1.isNode, k1.plain, k1.still, hq0.size, hq0.isNode, hq0.plain]
  intro n1 hn1 hfc
  refine fin_node (Q := fun r => IsPage r x ∧ Own n0 n1 r) (still_upd (still_upd (stN (by simp only [stillL_nil, stillL_cons, still_lit, still_nil, still_any, still_nodeN, still_nodeC, and_self])) trivial) v0) fun hst => ?_
  refine ⟨⟨_, rfl, hst, by simp -dsimp only [go_sem, Nat.reduceLT, Nat.reduceEqDiff, Nat.reduceAdd, Nat.reduceMul, Nat.reduceBEq, beq_self_eq_true, Nat.reduceLeDiff, Nat.le_refl, IsInt, IsBool, IsByte], by simp -dsimp only [go_sem, Nat.reduceLT, Nat.reduceEqDiff, Nat.reduceAdd, Nat.reduceMul, Nat.reduceBEq, beq_self_eq_true, Nat.reduceLeDiff, Nat.le_refl]; exact hq0⟩, own_node ?_⟩
  exact OwnN.mono (hi := p0) (ownN_snoc_own (mid := n0) (hi := p0) (ownN_snoc_lit (ownN_zero n0 n0 _) (by simp -dsimp only [go_sem, Nat.reduceLT, Nat.reduceEqDiff, Nat.reduceAdd, Nat.reduceMul, Nat.reduceBEq, beq_self_eq_true, Nat.reduceLeDiff, Nat.le_refl]; rfl)) (by simp -dsimp only [go_sem, Nat.reduceLT, Nat.reduceEqDiff, Nat.reduceAdd, Nat.reduceMul, Nat.reduceBEq, beq_self_eq_true, Nat.reduceLeDiff, Nat.le_refl]; exact ho0) (by omega) (by omega) (by omega) (by omega)) (Nat.le_refl _) (by omega)
theorem toLive_p (d : D) (x : Md.Live) (h : IsLive d x) : PCall Try.prog 235 [d] fun n0 n1 r => IsLive r x ∧ Own n0 n1 r := by
  obtain ⟨f, rfl, hst, k0, k1, k2⟩ := h
  have k0 : f 0 = _ := k0
  have k1 : f 1 = _ := k1
  have k2 : f 2 = _ := k2
  refine pcall_intro Try.func235 rfl (by decide) rfl (by decide) (by rw [Try.ntmps235]; simp) fun w0 M n0 hW => ivc_sound ?_; simp -dsimp only [Try.f235, go_sem, Nat.reduceLT, Nat.reduceEqDiff, Nat.reduceAdd, Nat.reduceMul, Nat.reduceBEq, beq_self_eq_true, Nat.reduceLeDiff, Nat.le_refl, k0, k1, k2]
  intro g1 b1 hb1 g2 b2 hb2 g3 b3 hb3
  intro n1 hn1 hfc
  refine fin_node (Q := fun r => IsLive r x ∧ Own n0 n1 r) (still_upd (still_upd (still_upd (stN (by simp only [stillL_nil, stillL_cons, still_lit, still_nil, still_any, still_nodeN, still_nodeC, and_self])) trivial) trivial) trivial) fun hst => ?_
  refine ⟨⟨_, rfl, hst, by simp -dsimp only [go_sem, Nat.reduceLT, Nat.reduceEqDiff, Nat.reduceAdd, Nat.reduceMul, Nat.reduceBEq, beq_self_eq_true, Nat.reduceLeDiff, Nat.le_refl, IsInt, IsBool, IsByte], by simp -dsimp only [go_sem, Nat.reduceLT, Nat.reduceEqDiff, Nat.reduceAdd, Nat.reduceMul, Nat.reduceBEq, beq_self_eq_true, Nat.reduceLeDiff, Nat.le_refl, IsInt, IsBool, IsByte], by simp -dsimp only [go_sem, Nat.reduceLT, Nat.reduceEqDiff, Nat.reduceAdd, Nat.reduceMul, Nat.reduceBEq, beq_self_eq_true, Nat.reduceLeDiff, Nat.le_refl, IsInt, IsBool, IsByte]⟩, own_node ?_⟩
  exact OwnN.mono (hi := n0) (ownN_snoc_lit (ownN_snoc_lit (ownN_snoc_lit (ownN_zero n0 n0 _) (by simp -dsimp only [go_sem, Nat.reduceLT, Nat.reduceEqDiff, Nat.reduceAdd, Nat.reduceMul, Nat.reduceBEq, beq_self_eq_true, Nat.reduceLeDiff, Nat.le_refl]; rfl)) (by simp -dsimp only [go_sem, Nat.reduceLT, Nat.reduceEqDiff, Nat.reduceAdd, Nat.reduceMul, Nat.reduceBEq, beq_self_eq_true, Nat.reduceLeDiff, Nat.le_refl]; rfl)) (by simp -dsimp only [go_sem, Nat.reduceLT, Nat.reduceEqDiff, Nat.reduceAdd, Nat.reduceMul, Nat.reduceBEq, beq_self_eq_true, Nat.reduceLeDiff, Nat.le_refl]; rfl)) (Nat.le_refl _) (by omega)
theorem toLiveS_p (d : D) (xs : List Md.Live) (h : IsL 3 IsLive d xs) (hs : xs.length ≤ 1048576) : PCall Try.prog 169 [d] fun n0 n1 r => IsL 3 IsLive r xs ∧ Own n0 n1 r := by
  have hs' : xs.length ≤ 1048576 := by omega
  refine pcall_intro Try.func169 rfl (by decide) rfl (by decide) (by rw [Try.ntmps169]; simp) fun w0 M n0 hW => ivc_sound ?_; simp -dsimp only [Try.f169, go_sem, Nat.reduceLT, Nat.reduceEqDiff, Nat.reduceAdd, Nat.reduceMul, Nat.reduceBEq, beq_self_eq_true, Nat.reduceLeDiff, Nat.le_refl, h.lenT]
  refine ⟨by omega, by omega, fun g b hb => ?_⟩
  refine iwp_forR xs.length [0, 2, 3] (fun i n' s R => s 4 = .lit (.int .i64 i) ∧ ∃ f, R = upd (fun _ => none) 7 (some (g, b, .node (.arr xs.length 3) f)) ∧ Fill IsLive 3 n0 n' xs xs.length i f) 0 (Nat.zero_le _)
    ⟨by simp -dsimp only [go_sem, Nat.reduceLT, Nat.reduceEqDiff, Nat.reduceAdd, Nat.reduceMul, Nat.reduceBEq, beq_self_eq_true, Nat.reduceLeDiff, Nat.le_refl]; rfl, _, rfl, Fill.start (fun j => by simp only [stillL_nil, stillL_cons, still_lit, still_nil, still_any, still_nodeN, still_nodeC, and_self]) fun _ _ => ⟨trivial, rfl⟩⟩ ?_
  rintro i n' s R hi hn hk ⟨h4, f, rfl, hf⟩
  refine ivc_sound ?_
  simp -dsimp only [go_sem, Nat.reduceLT, Nat.reduceEqDiff, Nat.reduceAdd, Nat.reduceMul, Nat.reduceBEq, beq_self_eq_true, Nat.reduceLeDiff, Nat.le_refl] at hk
  by_cases hlt : i < xs.length
  · obtain ⟨t, zb, fi, rfl, hst', hf'⟩ := h.sl hlt
    have hfi := hf' i hlt
    have eq := shp_live _ _ hfi
    have e1 := eq.1
    have e2 := eq.2.1
    have e4 := eq.2.2.2
    have hw := i64_succ (i := i) (by omega)
    have q1 := (hf.sh i hlt).1
    have q2 := (hf.sh i hlt).2
    simp -dsimp only [go_sem, Nat.reduceLT, Nat.reduceEqDiff, Nat.reduceAdd, Nat.reduceMul, Nat.reduceBEq, beq_self_eq_true, Nat.reduceLeDiff, Nat.le_refl, hk, h4, hlt, hw, q1, q2, e1, e2]
    refine xcall_p (toLive_p _ _ hfi) (by simp -dsimp only [go_sem, Nat.reduceLT, Nat.reduceEqDiff, Nat.reduceAdd, Nat.reduceMul, Nat.reduceBEq, beq_self_eq_true, Nat.reduceLeDiff, Nat.le_refl, rl_still, e4]) fun m0 m1 r hm0 hm1 hr => ?_
    have hr1 := hr.1
    have hr2 := hr.2
    have rq := shp_live _ _ hr1
    have r1 := rq.1
    have r2 := rq.2.1
    have r3 := rq.2.2.1
    refine ⟨hr2.tags, ?_⟩
    simp -dsimp only [go_sem, Nat.reduceLT, Nat.reduceEqDiff, Nat.reduceAdd, Nat.reduceMul, Nat.reduceBEq, beq_self_eq_true, Nat.reduceLeDiff, Nat.le_refl, hk, h4, hlt, hw, q1, q2, r1, r2, r3, e1, e2]
    exact into_r (by omega) (by simp -dsimp only [go_sem, Nat.reduceLT, Nat.reduceEqDiff, Nat.reduceAdd, Nat.reduceMul, Nat.reduceBEq, beq_self_eq_true, Nat.reduceLeDiff, Nat.le_refl, hk]) ⟨by simp -dsimp only [go_sem, Nat.reduceLT, Nat.reduceEqDiff, Nat.reduceAdd, Nat.reduceMul, Nat.reduceBEq, beq_self_eq_true, Nat.reduceLeDiff, Nat.le_refl], _, rfl, hf.step shp_live hlt hr1 hr2 (by omega) (by omega) (by omega) (by omega)⟩
  · simp -dsimp only [go_sem, Nat.reduceLT, Nat.reduceEqDiff, Nat.reduceAdd, Nat.reduceMul, Nat.reduceBEq, beq_self_eq_true, Nat.reduceLeDiff, Nat.le_refl, hk, h4, hlt, h.lenT]
    intro n1 hn1 hfc
    rw [rls_still hf.st]
    exact hf.isL hlt (by omega) hb hfc.here.1 hn1 hfc.here.2
theorem toRec_p (d : D) (x : Md.Rec) (h : IsRec d x) (hs : Md.szRec x ≤ 1048576) : PCall Try.prog 66 [d] fun n0 n1 r => IsRec r x ∧ Own n0 n1 r := by
  obtain ⟨f, rfl, hst, k0, k1, k2, k3, k4, k5, k6, k7, k8⟩ := h
  have k0 : f 0 = _ := k0
  have k1 : f 1 = _ := k1
  have k2 : f 2 = _ := k2
  have k3 : f 3 = _ := k3
  have k4 : f 4 = _ := k4
  obtain ⟨sa5, sb5, sc5, sd5⟩ := shp_slot _ _ k5
  obtain ⟨sa6, sb6, sc6, sd6⟩ := shp_slot _ _ k6
  have k7 : f 7 = _ := k7
  unfold Md.szRec at hs
  refine pcall_intro Try.func66 rfl (by decide) rfl (by decide) (by rw [Try.ntmps66]; simp) fun w0 M n0 hW => ivc_sound ?_; simp -dsimp only [Try.f66, go_sem, Nat.reduceLT, Nat.reduceEqDiff, Nat.reduceAdd, Nat.reduceMul, Nat.reduceBEq, beq_self_eq_true, Nat.reduceLeDiff, Nat.le_refl, k0, k1, k2, k3, k4, sa5, sb5, sd5, sa6, sb6, sd6, k7, k8.size, k8.isNode, k8.plain, k8.still]
  intro g1 b1 hb1 g2 b2 hb2 g3 b3 hb3
  refine xcall_p (toSlot_p _ _ k5 (by omega)) (by simp -dsimp only [go_sem, Nat.reduceLT, Nat.reduceEqDiff, Nat.reduceAdd, Nat.reduceMul, Nat.reduceBEq, beq_self_eq_true, Nat.reduceLeDiff, Nat.le_refl, rl_still, k0, k1, k2, k3, k4, sa5, sb5, sd5, sa6, sb6, sd6, k7, k8.size, k8.isNode, k8.plain, k8.still]) fun m0 p0 r0 hm0 hp0 hr0 => ?_
  have ho0 := hr0.2
  have hq0 := hr0.1
  have q0 := shp_slot _ _ hq0
  have x0 := q0.1
  have y0 := q0.2.1
  have z0 := q0.2.2.1
  have v0 := q0.2.2.2
  refine ⟨ho0.tags, ?_⟩
  simp -dsimp only [go_sem, Nat.reduceLT, Nat.reduceEqDiff, Nat.reduceAdd, Nat.reduceMul, Nat.reduceBEq, beq_self_eq_true, Nat.reduceLeDiff, Nat.le_refl, k0, k1, k2, k3, k4, sa5, sb5, sd5, sa6, sb6, sd6, k7, k8.size, k8.isNode, k8.plain, k8.still, x0, y0, z0]
  refine xcall_p (toSlot_p _ _ k6 (by omega)) (by simp -dsimp only [go_sem, Nat.reduceLT, Nat.reduceEqDiff, Nat.reduceAdd, Nat.reduceMul, Nat.reduceBEq, beq_self_eq_true, Nat.reduceLeDiff, Nat.le_refl, rl_still, k0, k1, k2, k3, k4, sa5, sb5, sd5, sa6, sb6, sd6, k7, k8.size, k8.isNode, k8.plain, k8.still]) fun m1 p1 r1 hm1 hp1 hr1 => ?_
  have ho1 := hr1.2
  have hq1 := hr1.1
  have q1 := shp_slot _ _ hq1
  have x1 := q1.1
  have y1 := q1.2.1
  have z1 := q1.2.2.1
  have v1 := q1.2.2.2
  refine ⟨ho1.tags, ?_⟩
  simp -dsimp only [go_sem, Nat.reduceLT, Nat.reduceEqDiff, Nat.reduceAdd, Nat.reduceMul, Nat.reduceBEq, beq_self_eq_true, Nat.reduceLeDiff, Nat.le_refl, k0, k1, k2, k3, k4, sa5, sb5, sd5, sa6, sb6, sd6, k7, k8.size, k8.isNode, k8.plain, k8.still, x0, y0, z0, x1, y1, z1]
  refine xcall_p (toLiveS_p _ _ k8 (by omega)) (by simp -dsimp only [go_sem, Nat.reduceLT, Nat.reduceEqDiff, Nat.reduceAdd, Nat.reduceMul, Nat.reduceBEq, beq_self_eq_true, Nat.reduceLeDiff, Nat.le_refl, rl_still, k0, k1, k2, k3, k4, sa5, sb5, sd5, sa6, sb6, sd6, k7, k8.size, k8.isNode, k8.plain, k8.still]) fun m2 p2 r2 hm2 hp2 hr2 => ?_
  have ho2 := hr2.2
  have hq2 := hr2.1
  have v2 := hq2.still
  refine ⟨ho2.tags, ?_⟩
  simp -dsimp only [go_sem, Nat.reduceLT, Nat.reduceEqDiff, Nat.reduceAdd, Nat.reduceMul, Nat.reduceBEq, beq_self_eq_true, Nat.reduceLeDiff, Nat.le_refl, k0, k1, k2, k3, k4, sa5, sb5, sd5, sa6, sb6, sd6, k7, k8.size, k8.isNode, k8.plain, k8.still, x0, y0, z0, x1, y1, z1, hq2.size, hq2.isNode, hq2.plain]
  intro n1 hn1 hfc
  refine fin_node (Q := fun r => IsRec r x ∧ Own n0 n1 r) (still_upd (still_upd (still_upd (still_upd (still_upd (still_upd (still_upd (still_upd (still_upd (stN (by simp only [stillL_nil, stillL_cons, still_lit, still_nil, still_any, still_nodeN, still_nodeC, and_self])) trivial) trivial) trivial) trivial) trivial) v0) v1) trivial) v2) fun hst => ?_
  refine ⟨⟨_, rfl, hst, by simp -dsimp only [go_sem, Nat.reduceLT, Nat.reduceEqDiff, Nat.reduceAdd, Nat.reduceMul, Nat.reduceBEq, beq_self_eq_true, Nat.reduceLeDiff, Nat.le_refl, IsInt, IsBool, IsByte], by simp -dsimp only [go_sem, Nat.reduceLT, Nat.reduceEqDiff, Nat.reduceAdd, Nat.reduceMul, Nat.reduceBEq, beq_self_eq_true, Nat.reduceLeDiff, Nat.le_refl, IsInt, IsBool, IsByte], by simp -dsimp only [go_sem, Nat.reduceLT, Nat.reduceEqDiff, Nat.reduceAdd, Nat.reduceMul, Nat.reduceBEq, beq_self_eq_true, Nat.reduceLeDiff, Nat.le_refl, IsInt, IsBool, IsByte], by simp -dsimp only [go_sem, Nat.reduceLT, Nat.reduceEqDiff, Nat.reduceAdd, Nat.reduceMul, Nat.reduceBEq, beq_self_eq_true, Nat.reduceLeDiff, Nat.le_refl, IsInt, IsBool, IsByte], by simp -dsimp only [go_sem, Nat.reduceLT, Nat.reduceEqDiff, Nat.reduceAdd, Nat.reduceMul, Nat.reduceBEq, beq_self_eq_true, Nat.reduceLeDiff, Nat.le_refl, IsInt, IsBool, IsByte], by simp -dsimp only [go_sem, Nat.reduceLT, Nat.reduceEqDiff, Nat.reduceAdd, Nat.reduceMul, Nat.reduceBEq, beq_self_eq_true, Nat.reduceLeDiff, Nat.le_refl]; exact hq0, by simp -dsimp only [go_sem, Nat.reduceLT, Nat.reduceEqDiff, Nat.reduceAdd, Nat.reduceMul, Nat.reduceBEq, beq_self_eq_true, Nat.reduceLeDiff, Nat.le_refl]; exact hq1, by simp -dsimp only [go_sem, Nat.reduceLT, Nat.reduceEqDiff, Nat.reduceAdd, Nat.reduceMul, Nat.reduceBEq, beq_self_eq_true, Nat.reduceLeDiff, Nat.le_refl, IsInt, IsBool, IsByte], by simp -dsimp only [go_sem, Nat.reduceLT, Nat.reduceEqDiff, Nat.reduceAdd, Nat.reduceMul, Nat.reduceBEq, beq_self_eq_true, Nat.reduceLeDiff, Nat.le_refl]; exact hq2⟩, own_node ?_⟩
  exact OwnN.mono (hi := p2) (ownN_snoc_own (mid := p1) (hi := p2) (ownN_snoc_lit (ownN_snoc_own (mid := p0) (hi := p1) (ownN_snoc_own (mid := n0) (hi := p0) (ownN_snoc_lit (ownN_snoc_lit (ownN_snoc_lit (ownN_snoc_lit (ownN_snoc_lit (ownN_zero n0 n0 _) (by simp -dsimp only [go_sem, Nat.reduceLT, Nat.reduceEqDiff, Nat.reduceAdd, Nat.reduceMul, Nat.reduceBEq, beq_self_eq_true, Nat.reduceLeDiff, Nat.le_refl]; rfl)) (by simp -dsimp only [go_sem, Nat.reduceLT, Nat.reduceEqDiff, Nat.reduceAdd, Nat.reduceMul, Nat.reduceBEq, beq_self_eq_true, Nat.reduceLeDiff, Nat.le_refl]; rfl)) (by simp -dsimp only [go_sem, Nat.reduceLT, Nat.reduceEqDiff, Nat.reduceAdd, Nat.reduceMul, Nat.reduceBEq, beq_self_eq_true, Nat.reduceLeDiff, Nat.le_refl]; rfl)) (by simp -dsimp only [go_sem, Nat.reduceLT, Nat.reduceEqDiff, Nat.reduceAdd, Nat.reduceMul, Nat.reduceBEq, beq_self_eq_true, Nat.reduceLeDiff, Nat.le_refl]; rfl)) (by simp -dsimp only [go_sem, Nat.reduceLT, Nat.reduceEqDiff, Nat.reduceAdd, Nat.reduceMul, Nat.reduceBEq, beq_self_eq_true, Nat.reduceLeDiff, Nat.le_refl]; rfl)) (by simp -dsimp only [go_sem, Nat.reduceLT, Nat.reduceEqDiff, Nat.reduceAdd, Nat.reduceMul, Nat.reduceBEq, beq_self_eq_true, Nat.reduceLeDiff, Nat.le_refl]; exact ho0) (by omega) (by omega) (by omega) (by omega)) (by simp -dsimp only [go_sem, Nat.reduceLT, Nat.reduceEqDiff, Nat.reduceAdd, Nat.reduceMul, Nat.reduceBEq, beq_self_eq_true, Nat.reduceLeDiff, Nat.le_refl]; exact ho1) (by omega) (by omega) (by omega) (by omega)) (by simp -dsimp only [go_sem, Nat.reduceLT, Nat.reduceEqDiff, Nat.reduceAdd, Nat.reduceMul, Nat.reduceBEq, beq_self_eq_true, Nat.reduceLeDiff, Nat.le_refl]; rfl)) (by simp -dsimp only [go_sem, Nat.reduceLT, Nat.reduceEqDiff, Nat.reduceAdd, Nat.reduceMul, Nat.reduceBEq, beq_self_eq_true, Nat.reduceLeDiff, Nat.le_refl]; exact ho2) (by omega) (by omega) (by omega) (by omega)) (Nat.le_refl _) (by omega)
theorem toRecS_p (d : D) (xs : List Md.Rec) (h : IsL 15 IsRec d xs) (hs : Md.szRecs xs ≤ 1048576) : PCall Try.prog 183 [d] fun n0 n1 r => IsL 15 IsRec r xs ∧ Own n0 n1 r := by
  have hs' : xs.length ≤ 1048576 := by unfold Md.szRecs at hs; omega
  refine pcall_intro Try.func183 rfl (by decide) rfl (by decide) (by rw [Try.ntmps183]; simp) fun w0 M n0 hW => ivc_sound ?_; simp -dsimp only [Try.f183, go_sem, Nat.reduceLT, Nat.reduceEqDiff, Nat.reduceAdd, Nat.reduceMul, Nat.reduceBEq, beq_self_eq_true, Nat.reduceLeDiff, Nat.le_refl, h.lenT]
  refine ⟨by omega, by omega, fun g b hb => ?_⟩
  refine iwp_forR xs.length [0, 2, 3] (fun i n' s R => s 4 = .lit (.int .i64 i) ∧ ∃ f, R = upd (fun _ => none) 7 (some (g, b, .node (.arr xs.length 15) f)) ∧ Fill IsRec 15 n0 n' xs xs.length i f) 0 (Nat.zero_le _)
    ⟨by simp -dsimp only [go_sem, Nat.reduceLT, Nat.reduceEqDiff, Nat.reduceAdd, Nat.reduceMul, Nat.reduceBEq, beq_self_eq_true, Nat.reduceLeDiff, Nat.le_refl]; rfl, _, rfl, Fill.start (fun j => by simp only [stillL_nil, stillL_cons, still_lit, still_nil, still_any, still_nodeN, still_nodeC, and_self]) fun _ _ => ⟨trivial, rfl⟩⟩ ?_
  rintro i n' s R hi hn hk ⟨h4, f, rfl, hf⟩
  refine ivc_sound ?_
  simp -dsimp only [go_sem, Nat.reduceLT, Nat.reduceEqDiff, Nat.reduceAdd, Nat.reduceMul, Nat.reduceBEq, beq_self_eq_true, Nat.reduceLeDiff, Nat.le_refl] at hk
  by_cases hlt : i < xs.length
  · obtain ⟨t, zb, fi, rfl, hst', hf'⟩ := h.sl hlt
    have hfi := hf' i hlt
    have eq := shp_rec _ _ hfi
    have e1 := eq.1
    have e2 := eq.2.1
    have e4 := eq.2.2.2
    have hw := i64_succ (i := i) (by omega)
    have q1 := (hf.sh i hlt).1
    have q2 := (hf.sh i hlt).2
    simp -dsimp only [go_sem, Nat.reduceLT, Nat.reduceEqDiff, Nat.reduceAdd, Nat.reduceMul, Nat.reduceBEq, beq_self_eq_true, Nat.reduceLeDiff, Nat.le_refl, hk, h4, hlt, hw, q1, q2, e1, e2]
    refine xcall_p (toRec_p _ _ hfi (by have := Md.sumBy_mem Md.szRec xs _ (List.getElem_mem hlt); unfold Md.szRecs at hs; omega)) (by simp -dsimp only [go_sem, Nat.reduceLT, Nat.reduceEqDiff, Nat.reduceAdd, Nat.reduceMul, Nat.reduceBEq, beq_self_eq_true, Nat.reduceLeDiff, Nat.le_refl, rl_still, e4]) fun m0 m1 r hm0 hm1 hr => ?_
    have hr1 := hr.1
    have hr2 := hr.2
    have rq := shp_rec _ _ hr1
    have r1 := rq.1
    have r2 := rq.2.1
    have r3 := rq.2.2.1
    refine ⟨hr2.tags, ?_⟩
    simp -dsimp only [go_sem, Nat.reduceLT, Nat.reduceEqDiff, Nat.reduceAdd, Nat.reduceMul, Nat.reduceBEq, beq_self_eq_true, Nat.reduceLeDiff, Nat.le_refl, hk, h4, hlt, hw, q1, q2, r1, r2, r3, e1, e2]
    exact into_r (by omega) (by simp -dsimp only [go_sem, Nat.reduceLT, Nat.reduceEqDiff, Nat.reduceAdd, Nat.reduceMul, Nat.reduceBEq, beq_self_eq_true, Nat.reduceLeDiff, Nat.le_refl, hk]) ⟨by simp -dsimp only [go_sem, Nat.reduceLT, Nat.reduceEqDiff, Nat.reduceAdd, Nat.reduceMul, Nat.reduceBEq, beq_self_eq_true, Nat.reduceLeDiff, Nat.le_refl], _, rfl, hf.step shp_rec hlt hr1 hr2 (by omega) (by omega) (by omega) (by omega)⟩
  · simp -dsimp only [go_sem, Nat.reduceLT, Nat.reduceEqDiff, Nat.reduceAdd, Nat.reduceMul, Nat.reduceBEq, beq_self_eq_true, Nat.reduceLeDiff, Nat.le_refl, hk, h4, hlt, h.lenT]
    intro n1 hn1 hfc
    rw [rls_still hf.st]
    exact hf.isL hlt (by omega) hb hfc.here.1 hn1 hfc.here.2
theorem toLog_p (d : D) (x : Md.Log) (h : IsLog d x) (hs : Md.szLog x ≤ 1048576) : PCall Try.prog 78 [d] fun n0 n1 r => IsLog r x ∧ Own n0 n1 r := by
  obtain ⟨f, rfl, hst, k0, k1⟩ := h
  have k1 : f 1 = _ := k1
  unfold Md.szLog at hs
  refine pcall_intro Try.func78 rfl (by decide) rfl (by decide) (by rw [Try.ntmps78]; simp) fun w0 M n0 hW => ivc_sound ?_; simp -dsimp only [Try.f78, go_sem, Nat.reduceLT, Nat.reduceEqDiff, Nat.reduceAdd, Nat.reduceMul, Nat.reduceBEq, beq_self_eq_true, Nat.reduceLeDiff, Nat.le_refl, k0.size, k0.isNode, k0.plain, k0.still, k1]
  intro g1 b1 hb1 g2 b2 hb2 g3 b3 hb3
  refine xcall_p (toRecS_p _ _ k0 (by omega)) (by simp -dsimp only [go_sem, Nat.reduceLT, Nat.reduceEqDiff, Nat.reduceAdd, Nat.reduceMul, Nat.reduceBEq, beq_self_eq_true, Nat.reduceLeDiff, Nat.le_refl, rl_still, k0.size, k0.isNode, k0.plain, k0.still, k1]) fun m0 p0 r0 hm0 hp0 hr0 => ?_
  have ho0 := hr0.2
  have hq0 := hr0.1
  have v0 := hq0.still
  refine ⟨ho0.tags, ?_⟩
  simp -dsimp only [go_sem, Nat.reduceLT, Nat.reduceEqDiff, Nat.reduceAdd, Nat.reduceMul, Nat.reduceBEq, beq_self_eq_true, Nat.reduceLeDiff, Nat.le_refl, k0.size, k0.isNode, k0.plain, k0.still, k1, hq0.size, hq0.isNode, hq0.plain]
  intro n1 hn1 hfc
  refine fin_node (Q := fun r => IsLog r x ∧ Own n0 n1 r) (still_upd (still_upd (stN (by simp only [stillL_nil, stillL_cons, still_lit, still_nil, still_any, still_nodeN, still_nodeC, and_self])) v0) trivial) fun hst => ?_
  refine ⟨⟨_, rfl, hst, by simp -dsimp only [go_sem, Nat.reduceLT, Nat.reduceEqDiff, Nat.reduceAdd, Nat.reduceMul, Nat.reduceBEq, beq_self_eq_true, Nat.reduceLeDiff, Nat.le_refl]; exact hq0, by simp -dsimp only [go_sem, Nat.reduceLT, Nat.reduceEqDiff, Nat.reduceAdd, Nat.reduceMul, Nat.reduceBEq, beq_self_eq_true, Nat.reduceLeDiff, Nat.le_refl, IsInt, IsBool, IsByte]⟩, own_node ?_⟩
  exact OwnN.mono (hi := p0) (ownN_snoc_lit (ownN_snoc_own (mid := n0) (hi := p0) (ownN_zero n0 n0 _) (by simp -dsimp only [go_sem, Nat.reduceLT, Nat.reduceEqDiff, Nat.reduceAdd, Nat.reduceMul, Nat.reduceBEq, beq_self_eq_true, Nat.reduceLeDiff, Nat.le_refl]; exact ho0) (by omega) (by omega) (by omega) (by omega)) (by simp -dsimp only [go_sem, Nat.reduceLT, Nat.reduceEqDiff, Nat.reduceAdd, Nat.reduceMul, Nat.reduceBEq, beq_self_eq_true, Nat.reduceLeDiff, Nat.le_refl]; rfl)) (Nat.le_refl _) (by omega)
theorem toSeat_p (d : D) (x : Md.Seat) (h : IsSeat d x) (hs : Md.szSeat x ≤ 1048576) : PCall Try.prog 231 [d] fun n0 n1 r => IsSeat r x ∧ Own n0 n1 r := by
  obtain ⟨f, rfl, hst, k0, k1, k2, k3⟩ := h
  have k0 : f 0 = _ := k0
  obtain ⟨sa1, sb1, sc1, sd1⟩ := shp_page _ _ k1
  have k2 : f 2 = _ := k2
  have k3 : f 3 = _ := k3
  unfold Md.szSeat at hs
  refine pcall_intro Try.func231 rfl (by decide) rfl (by decide) (by rw [Try.ntmps231]; simp) fun w0 M n0 hW => ivc_sound ?_; simp -dsimp only [Try.f231, go_sem, Nat.reduceLT, Nat.reduceEqDiff, Nat.reduceAdd, Nat.reduceMul, Nat.reduceBEq, beq_self_eq_true, Nat.reduceLeDiff, Nat.le_refl, k0, sa1, sb1, sd1, k2, k3]
  intro g1 b1 hb1 g2 b2 hb2 g3 b3 hb3
  refine xcall_p (toPage_p _ _ k1 (by omega)) (by simp -dsimp only [go_sem, Nat.reduceLT, Nat.reduceEqDiff, Nat.reduceAdd, Nat.reduceMul, Nat.reduceBEq, beq_self_eq_true, Nat.reduceLeDiff, Nat.le_refl, rl_still, k0, sa1, sb1, sd1, k2, k3]) fun m0 p0 r0 hm0 hp0 hr0 => ?_
  have ho0 := hr0.2
  have hq0 := hr0.1
  have q0 := shp_page _ _ hq0
  have x0 := q0.1
  have y0 := q0.2.1
  have z0 := q0.2.2.1
  have v0 := q0.2.2.2
  refine ⟨ho0.tags, ?_⟩
  simp -dsimp only [go_sem, Nat.reduceLT, Nat.reduceEqDiff, Nat.reduceAdd, Nat.reduceMul, Nat.reduceBEq, beq_self_eq_true, Nat.reduceLeDiff, Nat.le_refl, k0, sa1, sb1, sd1, k2, k3, x0, y0, z0]
  intro n1 hn1 hfc
  refine fin_node (Q := fun r => IsSeat r x ∧ Own n0 n1 r) (still_upd (still_upd (still_upd (still_upd (stN (by simp only [stillL_nil, stillL_cons, still_lit, still_nil, still_any, still_nodeN, still_nodeC, and_self])) trivial) v0) trivial) trivial) fun hst => ?_
  refine ⟨⟨_, rfl, hst, by simp -dsimp only [go_sem, Nat.reduceLT, Nat.reduceEqDiff, Nat.reduceAdd, Nat.reduceMul, Nat.reduceBEq, beq_self_eq_true, Nat.reduceLeDiff, Nat.le_refl, IsInt, IsBool, IsByte], by simp -dsimp only [go_sem, Nat.reduceLT, Nat.reduceEqDiff, Nat.reduceAdd, Nat.reduceMul, Nat.reduceBEq, beq_self_eq_true, Nat.reduceLeDiff, Nat.le_refl]; exact hq0, by simp -dsimp only [go_sem, Nat.reduceLT, Nat.reduceEqDiff, Nat.reduceAdd, Nat.reduceMul, Nat.reduceBEq, beq_self_eq_true, Nat.reduceLeDiff, Nat.le_refl, IsInt, IsBool, IsByte], by simp -dsimp only [go_sem, Nat.reduceLT, Nat.reduceEqDiff, Nat.reduceAdd, Nat.reduceMul, Nat.reduceBEq, beq_self_eq_true, Nat.reduceLeDiff, Nat.le_refl, IsInt, IsBool, IsByte]⟩, own_node ?_⟩
  exact OwnN.mono (hi := p0) (ownN_snoc_lit (ownN_snoc_lit (ownN_snoc_own (mid := n0) (hi := p0) (ownN_snoc_lit (ownN_zero n0 n0 _) (by simp -dsimp only [go_sem, Nat.reduceLT, Nat.reduceEqDiff, Nat.reduceAdd, Nat.reduceMul, Nat.reduceBEq, beq_self_eq_true, Nat.reduceLeDiff, Nat.le_refl]; rfl)) (by simp -dsimp only [go_sem, Nat.reduceLT, Nat.reduceEqDiff, Nat.reduceAdd, Nat.reduceMul, Nat.reduceBEq, beq_self_eq_true, Nat.reduceLeDiff, Nat.le_refl]; exact ho0) (by omega) (by omega) (by omega) (by omega)) (by simp -dsimp only [go_sem, Nat.reduceLT, Nat.reduceEqDiff, Nat.reduceAdd, Nat.reduceMul, Nat.reduceBEq, beq_self_eq_true, Nat.reduceLeDiff, Nat.le_refl]; rfl)) (by simp -dsimp only [go_sem, Nat.reduceLT, Nat.reduceEqDiff, Nat.reduceAdd, Nat.reduceMul, Nat.reduceBEq, beq_self_eq_true, Nat.reduceLeDiff, Nat.le_refl]; rfl)) (Nat.le_refl _) (by omega)
theorem toSeatS_p (d : D) (xs : List Md.Seat) (h : IsL 20 IsSeat d xs) (hs : Md.szSeats xs ≤ 1048576) : PCall Try.prog 156 [d] fun n0 n1 r => IsL 20 IsSeat r xs ∧ Own n0 n1 r := by
  have hs' : xs.length ≤ 1048576 := by unfold Md.szSeats at hs; omega
  refine pcall_intro Try.func156 rfl (by decide) rfl (by decide) (by rw [Try.ntmps156]; simp) fun w0 M n0 hW => ivc_sound ?_; simp -dsimp only [Try.f156, go_sem, Nat.reduceLT, Nat.reduceEqDiff, Nat.reduceAdd, Nat.reduceMul, Nat.reduceBEq, beq_self_eq_true, Nat.reduceLeDiff, Nat.le_refl, h.lenT]
  refine ⟨by omega, by omega, fun g b hb => ?_⟩
  refine iwp_forR xs.length [0, 2, 3] (fun i n' s R => s 4 = .lit (.int .i64 i) ∧ ∃ f, R = upd (fun _ => none) 7 (some (g, b, .node (.arr xs.length 20) f)) ∧ Fill IsSeat 20 n0 n' xs xs.length i f) 0 (Nat.zero_le _)
    ⟨by simp -dsimp only [go_sem, Nat.reduceLT, Nat.reduceEqDiff, Nat.reduceAdd, Nat.reduceMul, Nat.reduceBEq, beq_self_eq_true, Nat.reduceLeDiff, Nat.le_refl]; rfl, _, rfl, Fill.start (fun j => by simp only [stillL_nil, stillL_cons, still_lit, still_nil, still_any, still_nodeN, still_nodeC, and_self]) fun _ _ => ⟨trivial, rfl⟩⟩ ?_
  rintro i n' s R hi hn hk ⟨h4, f, rfl, hf⟩
  refine ivc_sound ?_
  simp -dsimp only [go_sem, Nat.reduceLT, Nat.reduceEqDiff, Nat.reduceAdd, Nat.reduceMul, Nat.reduceBEq, beq_self_eq_true, Nat.reduceLeDiff, Nat.le_refl] at hk
  by_cases hlt : i < xs.length
  · obtain ⟨t, zb, fi, rfl, hst', hf'⟩ := h.sl hlt
    have hfi := hf' i hlt
    have eq := shp_seat _ _ hfi
    have e1 := eq.1
    have e2 := eq.2.1
    have e4 := eq.2.2.2
    have hw := i64_succ (i := i) (by omega)
    have q1 := (hf.sh i hlt).1
    have q2 := (hf.sh i hlt).2
    simp -dsimp only [go_sem, Nat.reduceLT, Nat.reduceEqDiff, Nat.reduceAdd, Nat.reduceMul, Nat.reduceBEq, beq_self_eq_true, Nat.reduceLeDiff, Nat.le_refl, hk, h4, hlt, hw, q1, q2, e1, e2]
    refine xcall_p (toSeat_p _ _ hfi (by have := Md.sumBy_mem Md.szSeat xs _ (List.getElem_mem hlt); unfold Md.szSeats at hs; omega)) (by simp -dsimp only [go_sem, Nat.reduceLT, Nat.reduceEqDiff, Nat.reduceAdd, Nat.reduceMul, Nat.reduceBEq, beq_self_eq_true, Nat.reduceLeDiff, Nat.le_refl, rl_still, e4]) fun m0 m1 r hm0 hm1 hr => ?_
    have hr1 := hr.1
    have hr2 := hr.2
    have rq := shp_seat _ _ hr1
    have r1 := rq.1
    have r2 := rq.2.1
    have r3 := rq.2.2.1
    refine ⟨hr2.tags, ?_⟩
    simp -dsimp only [go_sem, Nat.reduceLT, Nat.reduceEqDiff, Nat.reduceAdd, Nat.reduceMul, Nat.reduceBEq, beq_self_eq_true, Nat.reduceLeDiff, Nat.le_refl, hk, h4, hlt, hw, q1, q2, r1, r2, r3, e1, e2]
    exact into_r (by omega) (by simp -dsimp only [go_sem, Nat.reduceLT, Nat.reduceEqDiff, Nat.reduceAdd, Nat.reduceMul, Nat.reduceBEq, beq_self_eq_true, Nat.reduceLeDiff, Nat.le_refl, hk]) ⟨by simp -dsimp only [go_sem, Nat.reduceLT, Nat.reduceEqDiff, Nat.reduceAdd, Nat.reduceMul, Nat.reduceBEq, beq_self_eq_true, Nat.reduceLeDiff, Nat.le_refl], _, rfl, hf.step shp_seat hlt hr1 hr2 (by omega) (by omega) (by omega) (by omega)⟩
  · simp -dsimp only [go_sem, Nat.reduceLT, Nat.reduceEqDiff, Nat.reduceAdd, Nat.reduceMul, Nat.reduceBEq, beq_self_eq_true, Nat.reduceLeDiff, Nat.le_refl, hk, h4, hlt, h.lenT]
    intro n1 hn1 hfc
    rw [rls_still hf.st]
    exact hf.isL hlt (by omega) hb hfc.here.1 hn1 hfc.here.2
theorem toPool_p (d : D) (x : Md.Pool) (h : IsPool d x) (hs : Md.szPool x ≤ 1048576) : PCall Try.prog 51 [d] fun n0 n1 r => IsPool r x ∧ Own n0 n1 r := by
  obtain ⟨f, rfl, hst, k0, k1⟩ := h
  have k1 : f 1 = _ := k1
  unfold Md.szPool at hs
  refine pcall_intro Try.func51 rfl (by decide) rfl (by decide) (by rw [Try.ntmps51]; simp) fun w0 M n0 hW => ivc_sound ?_; simp -dsimp only [Try.f51, go_sem, Nat.reduceLT, Nat.reduceEqDiff, Nat.reduceAdd, Nat.reduceMul, Nat.reduceBEq, beq_self_eq_true, Nat.reduceLeDiff, Nat.le_refl, k0.size, k0.isNode, k0.plain, k0.still, k1]
  intro g1 b1 hb1 g2 b2 hb2 g3 b3 hb3
  refine xcall_p (toSeatS_p _ _ k0 (by omega)) (by simp -dsimp only [go_sem, Nat.reduceLT, Nat.reduceEqDiff, Nat.reduceAdd, Nat.reduceMul, Nat.reduceBEq, beq_self_eq_true, Nat.reduceLeDiff, Nat.le_refl, rl_still, k0.size, k0.isNode, k0.plain, k0.still, k1]) fun m0 p0 r0 hm0 hp0 hr0 => ?_
  have ho0 := hr0.2
  have hq0 := hr0.1
  have v0 := hq0.still
  refine ⟨ho0.tags, ?_⟩
  simp -dsimp only [go_sem, Nat.reduceLT, Nat.reduceEqDiff, Nat.reduceAdd, Nat.reduceMul, Nat.reduceBEq, beq_self_eq_true, Nat.reduceLeDiff, Nat.le_refl, k0.size, k0.isNode, k0.plain, k0.still, k1, hq0.size, hq0.isNode, hq0.plain]
  intro n1 hn1 hfc
  refine fin_node (Q := fun r => IsPool r x ∧ Own n0 n1 r) (still_upd (still_upd (stN (by simp only [stillL_nil, stillL_cons, still_lit, still_nil, still_any, still_nodeN, still_nodeC, and_self])) v0) trivial) fun hst => ?_
  refine ⟨⟨_, rfl, hst, by simp -dsimp only [go_sem, Nat.reduceLT, Nat.reduceEqDiff, Nat.reduceAdd, Nat.reduceMul, Nat.reduceBEq, beq_self_eq_true, Nat.reduceLeDiff, Nat.le_refl]; exact hq0, by simp -dsimp only [go_sem, Nat.reduceLT, Nat.reduceEqDiff, Nat.reduceAdd, Nat.reduceMul, Nat.reduceBEq, beq_self_eq_true, Nat.reduceLeDiff, Nat.le_refl, IsInt, IsBool, IsByte]⟩, own_node ?_⟩
  exact OwnN.mono (hi := p0) (ownN_snoc_lit (ownN_snoc_own (mid := n0) (hi := p0) (ownN_zero n0 n0 _) (by simp -dsimp only [go_sem, Nat.reduceLT, Nat.reduceEqDiff, Nat.reduceAdd, Nat.reduceMul, Nat.reduceBEq, beq_self_eq_true, Nat.reduceLeDiff, Nat.le_refl]; exact ho0) (by omega) (by omega) (by omega) (by omega)) (by simp -dsimp only [go_sem, Nat.reduceLT, Nat.reduceEqDiff, Nat.reduceAdd, Nat.reduceMul, Nat.reduceBEq, beq_self_eq_true, Nat.reduceLeDiff, Nat.le_refl]; rfl)) (Nat.le_refl _) (by omega)
end Go.Proofs.Ytjaddgkhlmallaa.IM
