/- Contracts of the laws' functions that count what comes in. Printed by laws_sz.py. -/
import Derived.Test.YtjaddgkhlmallaaC3
namespace Go.Proofs.Ytjaddgkhlmallaa.IM
open Go Go.Proofs
set_option linter.unusedVariables false
set_option linter.unusedSimpArgs false
set_option maxHeartbeats 2000000
set_option maxRecDepth 20000

theorem wrap_sub {a : Int} {n : Nat} (h0 : 0 ≤ a) (h1 : a ≤ 1048576) (h : n < 140737488355328) : IntKind.i64.wrap (a - n) = a - n := by
  rw [IntKind.wrap_i64]; omega
theorem szR_len {a : Int} {n : Nat} : (if a - n < 0 then -1 else a - n) = Md.szR n a := by
  unfold Md.szR; split <;> split <;> omega

theorem szIntS_p (d : D) (xs : List Int) (h : IsL 1 IsInt d xs) (left : Int) (h0 : 0 ≤ left) (h1 : left ≤ 1048576) : PCall Try.prog 147 [d, .lit (.int .i64 left)] fun _ _ r => r = .lit (.int .i64 (Md.szR xs.length left)) := by
  have hw := wrap_sub h0 h1 h.short
  refine pcall_intro_v Try.func147 rfl (by decide) rfl (by decide) (by rw [Try.ntmps147]; simp) fun w0 M n0 => ivc_sound ?_; simp -dsimp only [Try.f147, go_sem, Nat.reduceLT, Nat.reduceEqDiff, Nat.reduceAdd, Nat.reduceMul, Nat.reduceBEq, beq_self_eq_true, Nat.reduceLeDiff, Nat.le_refl, h.lenT, hw]
  rw [← szR_len]
  repeat' (first | refine ⟨?_, ?_⟩ | with_reducible intro _)
  · rename_i hc; rw [if_pos hc]
  · rename_i hc; rw [if_neg hc]
theorem szLiveS_p (d : D) (xs : List Md.Live) (h : IsL 3 IsLive d xs) (left : Int) (h0 : 0 ≤ left) (h1 : left ≤ 1048576) : PCall Try.prog 166 [d, .lit (.int .i64 left)] fun _ _ r => r = .lit (.int .i64 (Md.szR xs.length left)) := by
  have hw := wrap_sub h0 h1 h.short
  refine pcall_intro_v Try.func166 rfl (by decide) rfl (by decide) (by rw [Try.ntmps166]; simp) fun w0 M n0 => ivc_sound ?_; simp -dsimp only [Try.f166, go_sem, Nat.reduceLT, Nat.reduceEqDiff, Nat.reduceAdd, Nat.reduceMul, Nat.reduceBEq, beq_self_eq_true, Nat.reduceLeDiff, Nat.le_refl, h.lenT, hw]
  rw [← szR_len]
  repeat' (first | refine ⟨?_, ?_⟩ | with_reducible intro _)
  · rename_i hc; rw [if_pos hc]
  · rename_i hc; rw [if_neg hc]
theorem sz_neg (n m : Nat) (left : Int) (h : n ≤ m) (h' : Md.szR n left < 0) : Md.szR m left = -1 := by
  unfold Md.szR at *
  split at h'
  · omega
  · rw [if_neg (by omega)]

theorem szObj_p (d : D) (x : Md.Obj) (h : IsObj d x) (left : Int) (h0 : 0 ≤ left) (h1 : left ≤ 1048576) : PCall Try.prog 40 [d, .lit (.int .i64 left)] fun _ _ r => r = .lit (.int .i64 (Md.szR (Md.szObj x) left)) := by
  obtain ⟨f, rfl, hst, k0, k1, k2⟩ := h
  refine pcall_intro_v Try.func40 rfl (by decide) rfl (by decide) (by rw [Try.ntmps40]; simp) fun w0 M n0 => ivc_sound ?_; simp -dsimp only [Try.f40, go_sem, Nat.reduceLT, Nat.reduceEqDiff, Nat.reduceAdd, Nat.reduceMul, Nat.reduceBEq, beq_self_eq_true, Nat.reduceLeDiff, Nat.le_refl, k1.size, k1.isNode, k1.still, k2.size, k2.isNode, k2.still]
  repeat' (first | refine ⟨?_, ?_⟩ | with_reducible intro _)
  refine xcall_v (szIntS_p _ _ k1 _ h0 h1) (by simp -dsimp only [go_sem, Nat.reduceLT, Nat.reduceEqDiff, Nat.reduceAdd, Nat.reduceMul, Nat.reduceBEq, beq_self_eq_true, Nat.reduceLeDiff, Nat.le_refl, rl_still, k1.size, k1.isNode, k1.still, k2.size, k2.isNode, k2.still]) (fun _ => trivial) fun n0 hn0 => ?_
  simp -dsimp only [go_sem, Nat.reduceLT, Nat.reduceEqDiff, Nat.reduceAdd, Nat.reduceMul, Nat.reduceBEq, beq_self_eq_true, Nat.reduceLeDiff, Nat.le_refl, k1.size, k1.isNode, k1.still, k2.size, k2.isNode, k2.still]
  refine ⟨fun g0 => ?_, fun g0 => ?_⟩
  · exact (sz_neg (x.ints.length) (Md.szObj x) _ (by unfold Md.szObj; omega) g0).symm
  have G0 := g0
  obtain ⟨p0, q0⟩ := Md.szR_rg _ _ h0 h1 g0
  refine xcall_v (szIntS_p _ _ k2 _ p0 q0) (by simp -dsimp only [go_sem, Nat.reduceLT, Nat.reduceEqDiff, Nat.reduceAdd, Nat.reduceMul, Nat.reduceBEq, beq_self_eq_true, Nat.reduceLeDiff, Nat.le_refl, rl_still, k1.size, k1.isNode, k1.still, k2.size, k2.isNode, k2.still]) (fun _ => trivial) fun n1 hn1 => ?_
  simp -dsimp only [go_sem, Nat.reduceLT, Nat.reduceEqDiff, Nat.reduceAdd, Nat.reduceMul, Nat.reduceBEq, beq_self_eq_true, Nat.reduceLeDiff, Nat.le_refl, k1.size, k1.isNode, k1.still, k2.size, k2.isNode, k2.still]
  refine ⟨fun g1 => ?_, fun g1 => ?_⟩
  · exact (sz_neg (x.ints.length + x.refs.length) (Md.szObj x) _ (by unfold Md.szObj; omega) (by rw [Md.szR_add2 _ _ _ h0 G0] at g1; exact g1)).symm
  have G1 : ¬ Md.szR (x.ints.length + x.refs.length) left < 0 := by rw [Md.szR_add2 _ _ _ h0 G0] at g1; exact g1
  obtain ⟨p1, q1⟩ := Md.szR_rg _ _ p0 q0 g1
  rw [Md.szR_add2 _ _ _ h0 G0]; rfl
theorem szSlot_p (d : D) (x : Md.Slot) (h : IsSlot d x) (left : Int) (h0 : 0 ≤ left) (h1 : left ≤ 1048576) : PCall Try.prog 56 [d, .lit (.int .i64 left)] fun _ _ r => r = .lit (.int .i64 (Md.szR (Md.szSlot x) left)) := by
  obtain ⟨f, rfl, hst, k0, k1⟩ := h
  obtain ⟨a0, b0, c0, s0⟩ := shp_obj _ _ k1
  refine pcall_intro_v Try.func56 rfl (by decide) rfl (by decide) (by rw [Try.ntmps56]; simp) fun w0 M n0 => ivc_sound ?_; simp -dsimp only [Try.f56, go_sem, Nat.reduceLT, Nat.reduceEqDiff, Nat.reduceAdd, Nat.reduceMul, Nat.reduceBEq, beq_self_eq_true, Nat.reduceLeDiff, Nat.le_refl, a0, b0, s0]
  repeat' (first | refine ⟨?_, ?_⟩ | with_reducible intro _)
  refine xcall_v (szObj_p _ _ k1 _ h0 h1) (by simp -dsimp only [go_sem, Nat.reduceLT, Nat.reduceEqDiff, Nat.reduceAdd, Nat.reduceMul, Nat.reduceBEq, beq_self_eq_true, Nat.reduceLeDiff, Nat.le_refl, rl_still, a0, b0, s0]) (fun _ => trivial) fun n0 hn0 => ?_
  simp -dsimp only [go_sem, Nat.reduceLT, Nat.reduceEqDiff, Nat.reduceAdd, Nat.reduceMul, Nat.reduceBEq, beq_self_eq_true, Nat.reduceLeDiff, Nat.le_refl, a0, b0, s0]
  refine ⟨fun g0 => ?_, fun g0 => ?_⟩
  · exact (sz_neg (Md.szObj x.o) (Md.szSlot x) _ (by unfold Md.szSlot; omega) g0).symm
  have G0 := g0
  obtain ⟨p0, q0⟩ := Md.szR_rg _ _ h0 h1 g0
  rfl
theorem szSlotA4_p (d : D) (xs : List Md.Slot) (h : IsA 4 4 IsSlot d xs) (left : Int) (h0 : 0 ≤ left) (h1 : left ≤ 1048576) : PCall Try.prog 136 [d, .lit (.int .i64 left)] fun _ _ r => r = .lit (.int .i64 (Md.szR (Md.sumBy Md.szSlot xs) left)) := by
  obtain ⟨hl, f, rfl, hst, hf⟩ := h
  refine pcall_intro_v Try.func136 rfl (by decide) rfl (by decide) (by rw [Try.ntmps136]; simp) fun w0 M n0 => ivc_sound ?_; simp -dsimp only [Try.f136, go_sem, Nat.reduceLT, Nat.reduceEqDiff, Nat.reduceAdd, Nat.reduceMul, Nat.reduceBEq, beq_self_eq_true, Nat.reduceLeDiff, Nat.le_refl]
  repeat' (first | refine ⟨?_, ?_⟩ | with_reducible intro _)
  refine iwp_forK 4 [2] (fun i s => s 5 = .lit (.int .i64 i) ∧ s 1 = .lit (.int .i64 (Md.szR (Md.sumBy Md.szSlot (xs.take i)) left)) ∧ ¬ Md.szR (Md.sumBy Md.szSlot (xs.take i)) left < 0) 0 (Nat.zero_le _)
    ⟨by simp -dsimp only [go_sem, Nat.reduceLT, Nat.reduceEqDiff, Nat.reduceAdd, Nat.reduceMul, Nat.reduceBEq, beq_self_eq_true, Nat.reduceLeDiff, Nat.le_refl]; rfl, by simp -dsimp only [go_sem, Nat.reduceLT, Nat.reduceEqDiff, Nat.reduceAdd, Nat.reduceMul, Nat.reduceBEq, beq_self_eq_true, Nat.reduceLeDiff, Nat.le_refl]; exact (Md.szR_zero _ h0).symm, by rw [show Md.szR (Md.sumBy Md.szSlot (xs.take 0)) left = left from Md.szR_zero _ h0]; omega⟩ ?_
  rintro i n' s hi hn hk ⟨h5, h6, h7⟩
  refine ivc_sound ?_
  simp -dsimp only [go_sem, Nat.reduceLT, Nat.reduceEqDiff, Nat.reduceAdd, Nat.reduceMul, Nat.reduceBEq, beq_self_eq_true, Nat.reduceLeDiff, Nat.le_refl] at hk
  obtain ⟨p0, q0⟩ := Md.szR_rg _ _ h0 h1 h7
  by_cases hlt : i < 4
  · have hfi := hf i (by omega)
    obtain ⟨e1, e2, e3, e4⟩ := shp_slot _ _ hfi
    have hw := i64_succ (i := i) (by omega)
    have ht := Md.sumBy_take Md.szSlot xs i (by omega)
    have hc : (i : Int) < 4 := by omega
    simp -dsimp only [go_sem, Nat.reduceLT, Nat.reduceEqDiff, Nat.reduceAdd, Nat.reduceMul, Nat.reduceBEq, beq_self_eq_true, Nat.reduceLeDiff, Nat.le_refl, hk, h5, h6, hc, hlt, e1, e2, hw]
    refine xcall_v (szSlot_p _ _ hfi _ p0 q0) (by simp -dsimp only [go_sem, Nat.reduceLT, Nat.reduceEqDiff, Nat.reduceAdd, Nat.reduceMul, Nat.reduceBEq, beq_self_eq_true, Nat.reduceLeDiff, Nat.le_refl, rl_still, e4, hk, h6]) (fun _ => trivial) fun n1 hn1 => ?_
    simp -dsimp only [go_sem, Nat.reduceLT, Nat.reduceEqDiff, Nat.reduceAdd, Nat.reduceMul, Nat.reduceBEq, beq_self_eq_true, Nat.reduceLeDiff, Nat.le_refl, hk, h5, h6, hc, hlt, hw]
    refine ⟨fun g0 => ?_, fun g0 => into_k (by omega) (by simp -dsimp only [go_sem, Nat.reduceLT, Nat.reduceEqDiff, Nat.reduceAdd, Nat.reduceMul, Nat.reduceBEq, beq_self_eq_true, Nat.reduceLeDiff, Nat.le_refl, hk]) ⟨by simp -dsimp only [go_sem, Nat.reduceLT, Nat.reduceEqDiff, Nat.reduceAdd, Nat.reduceMul, Nat.reduceBEq, beq_self_eq_true, Nat.reduceLeDiff, Nat.le_refl], by simp -dsimp only [go_sem, Nat.reduceLT, Nat.reduceEqDiff, Nat.reduceAdd, Nat.reduceMul, Nat.reduceBEq, beq_self_eq_true, Nat.reduceLeDiff, Nat.le_refl]; rw [ht, Md.szR_add2 _ _ _ h0 h7], by rw [ht, ← Md.szR_add2 _ _ _ h0 h7]; exact g0⟩⟩
    refine (sz_neg _ _ _ (?_ : Md.sumBy Md.szSlot (xs.take i) + Md.szSlot xs[i] ≤ _) (by rw [← Md.szR_add2 _ _ _ h0 h7]; exact g0)).symm
    rw [← ht]; exact Md.sumBy_le Md.szSlot xs (i + 1)
  · have hc : ¬ (i : Int) < 4 := by omega
    simp -dsimp only [go_sem, Nat.reduceLT, Nat.reduceEqDiff, Nat.reduceAdd, Nat.reduceMul, Nat.reduceBEq, beq_self_eq_true, Nat.reduceLeDiff, Nat.le_refl, hk, h5, h6, hc, hlt]
    rw [Md.sumBy_all Md.szSlot xs i (by omega)]
theorem szPage_p (d : D) (x : Md.Page) (h : IsPage d x) (left : Int) (h0 : 0 ≤ left) (h1 : left ≤ 1048576) : PCall Try.prog 33 [d, .lit (.int .i64 left)] fun _ _ r => r = .lit (.int .i64 (Md.szR (Md.szPage x) left)) := by
  obtain ⟨f, rfl, hst, k0, k1⟩ := h
  refine pcall_intro_v Try.func33 rfl (by decide) rfl (by decide) (by rw [Try.ntmps33]; simp) fun w0 M n0 => ivc_sound ?_; simp -dsimp only [Try.f33, go_sem, Nat.reduceLT, Nat.reduceEqDiff, Nat.reduceAdd, Nat.reduceMul, Nat.reduceBEq, beq_self_eq_true, Nat.reduceLeDiff, Nat.le_refl, k1.size, k1.isNode, k1.still]
  repeat' (first | refine ⟨?_, ?_⟩ | with_reducible intro _)
  refine xcall_v (szSlotA4_p _ _ k1 _ h0 h1) (by simp -dsimp only [go_sem, Nat.reduceLT, Nat.reduceEqDiff, Nat.reduceAdd, Nat.reduceMul, Nat.reduceBEq, beq_self_eq_true, Nat.reduceLeDiff, Nat.le_refl, rl_still, k1.size, k1.isNode, k1.still]) (fun _ => trivial) fun n0 hn0 => ?_
  simp -dsimp only [go_sem, Nat.reduceLT, Nat.reduceEqDiff, Nat.reduceAdd, Nat.reduceMul, Nat.reduceBEq, beq_self_eq_true, Nat.reduceLeDiff, Nat.le_refl, k1.size, k1.isNode, k1.still]
  refine ⟨fun g0 => ?_, fun g0 => ?_⟩
  · exact (sz_neg (Md.sumBy Md.szSlot x.slots) (Md.szPage x) _ (by unfold Md.szPage; omega) g0).symm
  have G0 := g0
  obtain ⟨p0, q0⟩ := Md.szR_rg _ _ h0 h1 g0
  rfl
theorem szRec_p (d : D) (x : Md.Rec) (h : IsRec d x) (left : Int) (h0 : 0 ≤ left) (h1 : left ≤ 1048576) : PCall Try.prog 64 [d, .lit (.int .i64 left)] fun _ _ r => r = .lit (.int .i64 (Md.szR (Md.szRec x) left)) := by
  obtain ⟨f, rfl, hst, k0, k1, k2, k3, k4, k5, k6, k7, k8⟩ := h
  obtain ⟨a0, b0, c0, s0⟩ := shp_slot _ _ k5
  obtain ⟨a1, b1, c1, s1⟩ := shp_slot _ _ k6
  refine pcall_intro_v Try.func64 rfl (by decide) rfl (by decide) (by rw [Try.ntmps64]; simp) fun w0 M n0 => ivc_sound ?_; simp -dsimp only [Try.f64, go_sem, Nat.reduceLT, Nat.reduceEqDiff, Nat.reduceAdd, Nat.reduceMul, Nat.reduceBEq, beq_self_eq_true, Nat.reduceLeDiff, Nat.le_refl, a0, b0, s0, a1, b1, s1, k8.size, k8.isNode, k8.still]
  repeat' (first | refine ⟨?_, ?_⟩ | with_reducible intro _)
  refine xcall_v (szSlot_p _ _ k5 _ h0 h1) (by simp -dsimp only [go_sem, Nat.reduceLT, Nat.reduceEqDiff, Nat.reduceAdd, Nat.reduceMul, Nat.reduceBEq, beq_self_eq_true, Nat.reduceLeDiff, Nat.le_refl, rl_still, a0, b0, s0, a1, b1, s1, k8.size, k8.isNode, k8.still]) (fun _ => trivial) fun n0 hn0 => ?_
  simp -dsimp only [go_sem, Nat.reduceLT, Nat.reduceEqDiff, Nat.reduceAdd, Nat.reduceMul, Nat.reduceBEq, beq_self_eq_true, Nat.reduceLeDiff, Nat.le_refl, a0, b0, s0, a1, b1, s1, k8.size, k8.isNode, k8.still]
  refine ⟨fun g0 => ?_, fun g0 => ?_⟩
  · exact (sz_neg (Md.szSlot x.before) (Md.szRec x) _ (by unfold Md.szRec; omega) g0).symm
  have G0 := g0
  obtain ⟨p0, q0⟩ := Md.szR_rg _ _ h0 h1 g0
  refine xcall_v (szSlot_p _ _ k6 _ p0 q0) (by simp -dsimp only [go_sem, Nat.reduceLT, Nat.reduceEqDiff, Nat.reduceAdd, Nat.reduceMul, Nat.reduceBEq, beq_self_eq_true, Nat.reduceLeDiff, Nat.le_refl, rl_still, a0, b0, s0, a1, b1, s1, k8.size, k8.isNode, k8.still]) (fun _ => trivial) fun n1 hn1 => ?_
  simp -dsimp only [go_sem, Nat.reduceLT, Nat.reduceEqDiff, Nat.reduceAdd, Nat.reduceMul, Nat.reduceBEq, beq_self_eq_true, Nat.reduceLeDiff, Nat.le_refl, a0, b0, s0, a1, b1, s1, k8.size, k8.isNode, k8.still]
  refine ⟨fun g1 => ?_, fun g1 => ?_⟩
  · exact (sz_neg (Md.szSlot x.before + Md.szSlot x.after) (Md.szRec x) _ (by unfold Md.szRec; omega) (by rw [Md.szR_add2 _ _ _ h0 G0] at g1; exact g1)).symm
  have G1 : ¬ Md.szR (Md.szSlot x.before + Md.szSlot x.after) left < 0 := by rw [Md.szR_add2 _ _ _ h0 G0] at g1; exact g1
  obtain ⟨p1, q1⟩ := Md.szR_rg _ _ p0 q0 g1
  refine xcall_v (szLiveS_p _ _ k8 _ p1 q1) (by simp -dsimp only [go_sem, Nat.reduceLT, Nat.reduceEqDiff, Nat.reduceAdd, Nat.reduceMul, Nat.reduceBEq, beq_self_eq_true, Nat.reduceLeDiff, Nat.le_refl, rl_still, a0, b0, s0, a1, b1, s1, k8.size, k8.isNode, k8.still]) (fun _ => trivial) fun n2 hn2 => ?_
  simp -dsimp only [go_sem, Nat.reduceLT, Nat.reduceEqDiff, Nat.reduceAdd, Nat.reduceMul, Nat.reduceBEq, beq_self_eq_true, Nat.reduceLeDiff, Nat.le_refl, a0, b0, s0, a1, b1, s1, k8.size, k8.isNode, k8.still]
  refine ⟨fun g2 => ?_, fun g2 => ?_⟩
  · exact (sz_neg (Md.szSlot x.before + Md.szSlot x.after + x.txs.length) (Md.szRec x) _ (by unfold Md.szRec; omega) (by rw [Md.szR_add2 _ _ _ h0 G0, Md.szR_add2 _ _ _ h0 G1] at g2; exact g2)).symm
  have G2 : ¬ Md.szR (Md.szSlot x.before + Md.szSlot x.after + x.txs.length) left < 0 := by rw [Md.szR_add2 _ _ _ h0 G0, Md.szR_add2 _ _ _ h0 G1] at g2; exact g2
  obtain ⟨p2, q2⟩ := Md.szR_rg _ _ p1 q1 g2
  rw [Md.szR_add2 _ _ _ h0 G0, Md.szR_add2 _ _ _ h0 G1]; rfl
theorem szRecS_p (d : D) (xs : List Md.Rec) (h : IsL 15 IsRec d xs) (left : Int) (h0 : 0 ≤ left) (h1 : left ≤ 1048576) : PCall Try.prog 182 [d, .lit (.int .i64 left)] fun _ _ r => r = .lit (.int .i64 (Md.szR (Md.szRecs xs) left)) := by
  have hw0 := wrap_sub h0 h1 h.short
  refine pcall_intro_v Try.func182 rfl (by decide) rfl (by decide) (by rw [Try.ntmps182]; simp) fun w0 M n0 => ivc_sound ?_; simp -dsimp only [Try.f182, go_sem, Nat.reduceLT, Nat.reduceEqDiff, Nat.reduceAdd, Nat.reduceMul, Nat.reduceBEq, beq_self_eq_true, Nat.reduceLeDiff, Nat.le_refl, h.lenT, hw0]
  refine ⟨fun g0 => ?_, fun g0 => ?_⟩
  · unfold Md.szR Md.szRecs; rw [if_neg (by omega)]
  have e0 : left - (xs.length : Int) = Md.szR xs.length left := by unfold Md.szR; rw [if_pos (by omega)]
  rw [e0] at g0
  simp -dsimp only [go_sem, Nat.reduceLT, Nat.reduceEqDiff, Nat.reduceAdd, Nat.reduceMul, Nat.reduceBEq, beq_self_eq_true, Nat.reduceLeDiff, Nat.le_refl, e0]
  refine iwp_forK xs.length [0] (fun i s => s 5 = .lit (.int .i64 i) ∧ s 1 = .lit (.int .i64 (Md.szR (xs.length + Md.sumBy Md.szRec (xs.take i)) left)) ∧ ¬ Md.szR (xs.length + Md.sumBy Md.szRec (xs.take i)) left < 0) 0 (Nat.zero_le _)
    ⟨by simp -dsimp only [go_sem, Nat.reduceLT, Nat.reduceEqDiff, Nat.reduceAdd, Nat.reduceMul, Nat.reduceBEq, beq_self_eq_true, Nat.reduceLeDiff, Nat.le_refl]; rfl, by simp -dsimp only [go_sem, Nat.reduceLT, Nat.reduceEqDiff, Nat.reduceAdd, Nat.reduceMul, Nat.reduceBEq, beq_self_eq_true, Nat.reduceLeDiff, Nat.le_refl]; rfl, g0⟩ ?_
  rintro i n' s hi hn hk ⟨h5, h6, h7⟩
  refine ivc_sound ?_
  simp -dsimp only [go_sem, Nat.reduceLT, Nat.reduceEqDiff, Nat.reduceAdd, Nat.reduceMul, Nat.reduceBEq, beq_self_eq_true, Nat.reduceLeDiff, Nat.le_refl] at hk
  obtain ⟨p0, q0⟩ := Md.szR_rg _ _ h0 h1 h7
  by_cases hlt : i < xs.length
  · obtain ⟨t, zb, fi, rfl, hst, hf⟩ := h.sl hlt
    have hfi := hf i hlt
    obtain ⟨e1, e2, e3, e4⟩ := shp_rec _ _ hfi
    have hw := i64_succ (i := i) (by have := h.short; omega)
    have ht := Md.sumBy_take Md.szRec xs i (by omega)
    simp -dsimp only [go_sem, Nat.reduceLT, Nat.reduceEqDiff, Nat.reduceAdd, Nat.reduceMul, Nat.reduceBEq, beq_self_eq_true, Nat.reduceLeDiff, Nat.le_refl, hk, h5, h6, hlt, e1, e2, hw]
    refine xcall_v (szRec_p _ _ hfi _ p0 q0) (by simp -dsimp only [go_sem, Nat.reduceLT, Nat.reduceEqDiff, Nat.reduceAdd, Nat.reduceMul, Nat.reduceBEq, beq_self_eq_true, Nat.reduceLeDiff, Nat.le_refl, rl_still, e4, hk, h6]) (fun _ => trivial) fun n1 hn1 => ?_
    simp -dsimp only [go_sem, Nat.reduceLT, Nat.reduceEqDiff, Nat.reduceAdd, Nat.reduceMul, Nat.reduceBEq, beq_self_eq_true, Nat.reduceLeDiff, Nat.le_refl, hk, h5, h6, hlt, hw]
    refine ⟨fun g0 => ?_, fun g0 => into_k (by omega) (by simp -dsimp only [go_sem, Nat.reduceLT, Nat.reduceEqDiff, Nat.reduceAdd, Nat.reduceMul, Nat.reduceBEq, beq_self_eq_true, Nat.reduceLeDiff, Nat.le_refl, hk]) ⟨by simp -dsimp only [go_sem, Nat.reduceLT, Nat.reduceEqDiff, Nat.reduceAdd, Nat.reduceMul, Nat.reduceBEq, beq_self_eq_true, Nat.reduceLeDiff, Nat.le_refl], by simp -dsimp only [go_sem, Nat.reduceLT, Nat.reduceEqDiff, Nat.reduceAdd, Nat.reduceMul, Nat.reduceBEq, beq_self_eq_true, Nat.reduceLeDiff, Nat.le_refl]; rw [ht, Md.szR_add2 _ _ _ h0 h7, Nat.add_assoc], by rw [ht, ← Nat.add_assoc, ← Md.szR_add2 _ _ _ h0 h7]; exact g0⟩⟩
    refine (sz_neg _ _ _ (?_ : xs.length + Md.sumBy Md.szRec (xs.take i) + Md.szRec xs[i] ≤ _) (by rw [← Md.szR_add2 _ _ _ h0 h7]; exact g0)).symm
    have := Md.sumBy_le Md.szRec xs (i + 1)
    unfold Md.szRecs; omega
  · simp -dsimp only [go_sem, Nat.reduceLT, Nat.reduceEqDiff, Nat.reduceAdd, Nat.reduceMul, Nat.reduceBEq, beq_self_eq_true, Nat.reduceLeDiff, Nat.le_refl, hk, h5, h6, hlt, h.lenT]
    rw [Md.sumBy_all Md.szRec xs i (by omega)]; rfl
theorem szLog_p (d : D) (x : Md.Log) (h : IsLog d x) (left : Int) (h0 : 0 ≤ left) (h1 : left ≤ 1048576) : PCall Try.prog 76 [d, .lit (.int .i64 left)] fun _ _ r => r = .lit (.int .i64 (Md.szR (Md.szLog x) left)) := by
  obtain ⟨f, rfl, hst, k0, k1⟩ := h
  refine pcall_intro_v Try.func76 rfl (by decide) rfl (by decide) (by rw [Try.ntmps76]; simp) fun w0 M n0 => ivc_sound ?_; simp -dsimp only [Try.f76, go_sem, Nat.reduceLT, Nat.reduceEqDiff, Nat.reduceAdd, Nat.reduceMul, Nat.reduceBEq, beq_self_eq_true, Nat.reduceLeDiff, Nat.le_refl, k0.size, k0.isNode, k0.still]
  repeat' (first | refine ⟨?_, ?_⟩ | with_reducible intro _)
  refine xcall_v (szRecS_p _ _ k0 _ h0 h1) (by simp -dsimp only [go_sem, Nat.reduceLT, Nat.reduceEqDiff, Nat.reduceAdd, Nat.reduceMul, Nat.reduceBEq, beq_self_eq_true, Nat.reduceLeDiff, Nat.le_refl, rl_still, k0.size, k0.isNode, k0.still]) (fun _ => trivial) fun n0 hn0 => ?_
  simp -dsimp only [go_sem, Nat.reduceLT, Nat.reduceEqDiff, Nat.reduceAdd, Nat.reduceMul, Nat.reduceBEq, beq_self_eq_true, Nat.reduceLeDiff, Nat.le_refl, k0.size, k0.isNode, k0.still]
  refine ⟨fun g0 => ?_, fun g0 => ?_⟩
  · exact (sz_neg (Md.szRecs x.recs) (Md.szLog x) _ (by unfold Md.szLog; omega) g0).symm
  have G0 := g0
  obtain ⟨p0, q0⟩ := Md.szR_rg _ _ h0 h1 g0
  rfl
theorem szSeat_p (d : D) (x : Md.Seat) (h : IsSeat d x) (left : Int) (h0 : 0 ≤ left) (h1 : left ≤ 1048576) : PCall Try.prog 230 [d, .lit (.int .i64 left)] fun _ _ r => r = .lit (.int .i64 (Md.szR (Md.szSeat x) left)) := by
  obtain ⟨f, rfl, hst, k0, k1, k2, k3⟩ := h
  obtain ⟨a0, b0, c0, s0⟩ := shp_page _ _ k1
  refine pcall_intro_v Try.func230 rfl (by decide) rfl (by decide) (by rw [Try.ntmps230]; simp) fun w0 M n0 => ivc_sound ?_; simp -dsimp only [Try.f230, go_sem, Nat.reduceLT, Nat.reduceEqDiff, Nat.reduceAdd, Nat.reduceMul, Nat.reduceBEq, beq_self_eq_true, Nat.reduceLeDiff, Nat.le_refl, a0, b0, s0]
  repeat' (first | refine ⟨?_, ?_⟩ | with_reducible intro _)
  refine xcall_v (szPage_p _ _ k1 _ h0 h1) (by simp -dsimp only [go_sem, Nat.reduceLT, Nat.reduceEqDiff, Nat.reduceAdd, Nat.reduceMul, Nat.reduceBEq, beq_self_eq_true, Nat.reduceLeDiff, Nat.le_refl, rl_still, a0, b0, s0]) (fun _ => trivial) fun n0 hn0 => ?_
  simp -dsimp only [go_sem, Nat.reduceLT, Nat.reduceEqDiff, Nat.reduceAdd, Nat.reduceMul, Nat.reduceBEq, beq_self_eq_true, Nat.reduceLeDiff, Nat.le_refl, a0, b0, s0]
  refine ⟨fun g0 => ?_, fun g0 => ?_⟩
  · exact (sz_neg (Md.szPage x.p) (Md.szSeat x) _ (by unfold Md.szSeat; omega) g0).symm
  have G0 := g0
  obtain ⟨p0, q0⟩ := Md.szR_rg _ _ h0 h1 g0
  rfl
theorem szSeatS_p (d : D) (xs : List Md.Seat) (h : IsL 20 IsSeat d xs) (left : Int) (h0 : 0 ≤ left) (h1 : left ≤ 1048576) : PCall Try.prog 155 [d, .lit (.int .i64 left)] fun _ _ r => r = .lit (.int .i64 (Md.szR (Md.szSeats xs) left)) := by
  have hw0 := wrap_sub h0 h1 h.short
  refine pcall_intro_v Try.func155 rfl (by decide) rfl (by decide) (by rw [Try.ntmps155]; simp) fun w0 M n0 => ivc_sound ?_; simp -dsimp only [Try.f155, go_sem, Nat.reduceLT, Nat.reduceEqDiff, Nat.reduceAdd, Nat.reduceMul, Nat.reduceBEq, beq_self_eq_true, Nat.reduceLeDiff, Nat.le_refl, h.lenT, hw0]
  refine ⟨fun g0 => ?_, fun g0 => ?_⟩
  · unfold Md.szR Md.szSeats; rw [if_neg (by omega)]
  have e0 : left - (xs.length : Int) = Md.szR xs.length left := by unfold Md.szR; rw [if_pos (by omega)]
  rw [e0] at g0
  simp -dsimp only [go_sem, Nat.reduceLT, Nat.reduceEqDiff, Nat.reduceAdd, Nat.reduceMul, Nat.reduceBEq, beq_self_eq_true, Nat.reduceLeDiff, Nat.le_refl, e0]
  refine iwp_forK xs.length [0] (fun i s => s 5 = .lit (.int .i64 i) ∧ s 1 = .lit (.int .i64 (Md.szR (xs.length + Md.sumBy Md.szSeat (xs.take i)) left)) ∧ ¬ Md.szR (xs.length + Md.sumBy Md.szSeat (xs.take i)) left < 0) 0 (Nat.zero_le _)
    ⟨by simp -dsimp only [go_sem, Nat.reduceLT, Nat.reduceEqDiff, Nat.reduceAdd, Nat.reduceMul, Nat.reduceBEq, beq_self_eq_true, Nat.reduceLeDiff, Nat.le_refl]; rfl, by simp -dsimp only [go_sem, Nat.reduceLT, Nat.reduceEqDiff, Nat.reduceAdd, Nat.reduceMul, Nat.reduceBEq, beq_self_eq_true, Nat.reduceLeDiff, Nat.le_refl]; rfl, g0⟩ ?_
  rintro i n' s hi hn hk ⟨h5, h6, h7⟩
  refine ivc_sound ?_
  simp -dsimp only [go_sem, Nat.reduceLT, Nat.reduceEqDiff, Nat.reduceAdd, Nat.reduceMul, Nat.reduceBEq, beq_self_eq_true, Nat.reduceLeDiff, Nat.le_refl] at hk
  obtain ⟨p0, q0⟩ := Md.szR_rg _ _ h0 h1 h7
  by_cases hlt : i < xs.length
  · obtain ⟨t, zb, fi, rfl, hst, hf⟩ := h.sl hlt
    have hfi := hf i hlt
    obtain ⟨e1, e2, e3, e4⟩ := shp_seat _ _ hfi
    have hw := i64_succ (i := i) (by have := h.short; omega)
    have ht := Md.sumBy_take Md.szSeat xs i (by omega)
    simp -dsimp only [go_sem, Nat.reduceLT, Nat.reduceEqDiff, Nat.reduceAdd, Nat.reduceMul, Nat.reduceBEq, beq_self_eq_true, Nat.reduceLeDiff, Nat.le_refl, hk, h5, h6, hlt, e1, e2, hw]
    refine xcall_v (szSeat_p _ _ hfi _ p0 q0) (by simp -dsimp only [go_sem, Nat.reduceLT, Nat.reduceEqDiff, Nat.reduceAdd, Nat.reduceMul, Nat.reduceBEq, beq_self_eq_true, Nat.reduceLeDiff, Nat.le_refl, rl_still, e4, hk, h6]) (fun _ => trivial) fun n1 hn1 => ?_
    simp -dsimp only [go_sem, Nat.reduceLT, Nat.reduceEqDiff, Nat.reduceAdd, Nat.reduceMul, Nat.reduceBEq, beq_self_eq_true, Nat.reduceLeDiff, Nat.le_refl, hk, h5, h6, hlt, hw]
    refine ⟨fun g0 => ?_, fun g0 => into_k (by omega) (by simp -dsimp only [go_sem, Nat.reduceLT, Nat.reduceEqDiff, Nat.reduceAdd, Nat.reduceMul, Nat.reduceBEq, beq_self_eq_true, Nat.reduceLeDiff, Nat.le_refl, hk]) ⟨by simp -dsimp only [go_sem, Nat.reduceLT, Nat.reduceEqDiff, Nat.reduceAdd, Nat.reduceMul, Nat.reduceBEq, beq_self_eq_true, Nat.reduceLeDiff, Nat.le_refl], by simp -dsimp only [go_sem, Nat.reduceLT, Nat.reduceEqDiff, Nat.reduceAdd, Nat.reduceMul, Nat.reduceBEq, beq_self_eq_true, Nat.reduceLeDiff, Nat.le_refl]; rw [ht, Md.szR_add2 _ _ _ h0 h7, Nat.add_assoc], by rw [ht, ← Nat.add_assoc, ← Md.szR_add2 _ _ _ h0 h7]; exact g0⟩⟩
    refine (sz_neg _ _ _ (?_ : xs.length + Md.sumBy Md.szSeat (xs.take i) + Md.szSeat xs[i] ≤ _) (by rw [← Md.szR_add2 _ _ _ h0 h7]; exact g0)).symm
    have := Md.sumBy_le Md.szSeat xs (i + 1)
    unfold Md.szSeats; omega
  · simp -dsimp only [go_sem, Nat.reduceLT, Nat.reduceEqDiff, Nat.reduceAdd, Nat.reduceMul, Nat.reduceBEq, beq_self_eq_true, Nat.reduceLeDiff, Nat.le_refl, hk, h5, h6, hlt, h.lenT]
    rw [Md.sumBy_all Md.szSeat xs i (by omega)]; rfl
theorem szPool_p (d : D) (x : Md.Pool) (h : IsPool d x) (left : Int) (h0 : 0 ≤ left) (h1 : left ≤ 1048576) : PCall Try.prog 49 [d, .lit (.int .i64 left)] fun _ _ r => r = .lit (.int .i64 (Md.szR (Md.szPool x) left)) := by
  obtain ⟨f, rfl, hst, k0, k1⟩ := h
  refine pcall_intro_v Try.func49 rfl (by decide) rfl (by decide) (by rw [Try.ntmps49]; simp) fun w0 M n0 => ivc_sound ?_; simp -dsimp only [Try.f49, go_sem, Nat.reduceLT, Nat.reduceEqDiff, Nat.reduceAdd, Nat.reduceMul, Nat.reduceBEq, beq_self_eq_true, Nat.reduceLeDiff, Nat.le_refl, k0.size, k0.isNode, k0.still]
  repeat' (first | refine ⟨?_, ?_⟩ | with_reducible intro _)
  refine xcall_v (szSeatS_p _ _ k0 _ h0 h1) (by simp -dsimp only [go_sem, Nat.reduceLT, Nat.reduceEqDiff, Nat.reduceAdd, Nat.reduceMul, Nat.reduceBEq, beq_self_eq_true, Nat.reduceLeDiff, Nat.le_refl, rl_still, k0.size, k0.isNode, k0.still]) (fun _ => trivial) fun n0 hn0 => ?_
  simp -dsimp only [go_sem, Nat.reduceLT, Nat.reduceEqDiff, Nat.reduceAdd, Nat.reduceMul, Nat.reduceBEq, beq_self_eq_true, Nat.reduceLeDiff, Nat.le_refl, k0.size, k0.isNode, k0.still]
  refine ⟨fun g0 => ?_, fun g0 => ?_⟩
  · exact (sz_neg (Md.szSeats x.seats) (Md.szPool x) _ (by unfold Md.szPool; omega) g0).symm
  have G0 := g0
  obtain ⟨p0, q0⟩ := Md.szR_rg _ _ h0 h1 g0
  rfl
end Go.Proofs.Ytjaddgkhlmallaa.IM
