/- Contracts: records. -/
import Derived.Test.YtjaddgkhlmallaaC7
namespace Go.Proofs.Ytjaddgkhlmallaa.IM
open Go Go.Proofs
set_option linter.unusedVariables false
set_option linter.unusedSimpArgs false
set_option maxHeartbeats 2000000
set_option maxRecDepth 20000

theorem asc_iff : ∀ (l : List Md.Live), Md.ascending l = true ↔ ∀ j (h : j + 1 < l.length), (l[j]'(by omega)).tx < l[j + 1].tx
  | [] => by simp [Md.ascending]
  | [x] => by simp [Md.ascending]
  | x :: y :: l => by
    simp only [Md.ascending, Bool.and_eq_true, decide_eq_true_eq, asc_iff (y :: l)]
    constructor
    · rintro ⟨h1, h2⟩ j hj
      cases j with
      | zero => exact h1
      | succ j => exact h2 j (by simpa using hj)
    · intro h
      exact ⟨h 0 (by simp), fun j hj => h (j + 1) (by simpa using hj)⟩
def liveIn (lsn : Int) (x : Md.Live) : Bool := Md.inB x.tx 1 1000 && Md.inB x.last 1 (lsn - 1)
def AscTo (l : List Md.Live) (i : Nat) : Prop := ∀ j (h : j + 1 < l.length), j + 1 < i → (l[j]'(by omega)).tx < l[j + 1].tx
theorem AscTo.zero (l : List Md.Live) : AscTo l 0 := fun j _ h => absurd h (by omega)
theorem AscTo.succ {l : List Md.Live} {i : Nat} (h : AscTo l i) (hi : i < l.length) (hn : 0 < i → (l[i - 1]'(by omega)).tx < l[i].tx) : AscTo l (i + 1) := by
  intro j hj hji
  rcases Nat.lt_or_ge (j + 1) i with h1 | h1
  · exact h j hj h1
  · obtain rfl : i = j + 1 := by omega
    exact hn (by omega)
theorem livesOk_end {l : List Md.Live} {lsn : Int} {i : Nat} (hall : Md.AllB (liveIn lsn) l i true) (hasc : AscTo l i) (hi : ¬ i < l.length) : Md.livesOk l lsn = decide (l.length ≤ 20) := by
  have h1 : l.all (liveIn lsn) = true := hall.all hi
  have h2 : Md.ascending l = true := (asc_iff l).2 fun j hj => hasc j hj (by omega)
  unfold liveIn at h1
  simp [Md.livesOk, h1, h2]
theorem livesOk_bad {l : List Md.Live} {lsn : Int} {i : Nat} (hi : i < l.length) (h : liveIn lsn l[i] = false) : Md.livesOk l lsn = false := by
  have h1 : l.all (liveIn lsn) = false := Md.not_all hi h
  unfold liveIn at h1
  simp [Md.livesOk, h1]
theorem livesOk_desc {l : List Md.Live} {lsn : Int} {i : Nat} (hi : i < l.length) (h0 : 0 < i) (h : l[i].tx ≤ (l[i - 1]'(by omega)).tx) : Md.livesOk l lsn = false := by
  have h1 : ¬ Md.ascending l = true := fun ha => by
    have := (asc_iff l).1 ha (i - 1) (by omega)
    have e : i - 1 + 1 = i := by omega
    simp only [e] at this
    omega
  simp [Md.livesOk, h1]

theorem l4Lives_p (d : D) (r : Md.Rec) (h : IsRec d r) (hl1 : 1 ≤ r.lsn) (hl2 : r.lsn ≤ 1000000) : PCall Try.prog 168 [d] fun _ _ x => x = .lit (.bool (Md.livesOk r.txs r.lsn)) := by
  obtain ⟨f, rfl, hst, k0, k1, k2, k3, k4, k5, k6, k7, k8⟩ := h
  have k0 : f 0 = _ := k0
  have hsub : IntKind.i64.wrap (r.lsn - 1) = r.lsn - 1 := by rw [IntKind.wrap_i64]; omega
  refine pcall_intro_v Try.func168 rfl (by decide) rfl (by decide) (by rw [Try.ntmps168]; simp) fun w0 M n0 => ivc_sound ?_; simp -dsimp only [Try.f168, go_sem, Nat.reduceLT, Nat.reduceEqDiff, Nat.reduceAdd, Nat.reduceMul, Nat.reduceBEq, beq_self_eq_true, Nat.reduceLeDiff, Nat.le_refl, k0, k8.size, k8.isNode, k8.plain, k8.lenT]
  intro g1 b1 hb1
  refine iwp_forK r.txs.length [1] (fun i s => s 3 = .lit (.int .i64 i) ∧ Md.AllB (liveIn r.lsn) r.txs i true ∧ AscTo r.txs i) 0 (Nat.zero_le _) ⟨by simp -dsimp only [go_sem, Nat.reduceLT, Nat.reduceEqDiff, Nat.reduceAdd, Nat.reduceMul, Nat.reduceBEq, beq_self_eq_true, Nat.reduceLeDiff, Nat.le_refl]; rfl, Md.allB_zero _ _ _, AscTo.zero _⟩ ?_
  rintro i n' s hi hn hk ⟨h3, hall, hasc⟩
  refine ivc_sound ?_
  simp -dsimp only [go_sem, Nat.reduceLT, Nat.reduceEqDiff, Nat.reduceAdd, Nat.reduceMul, Nat.reduceBEq, beq_self_eq_true, Nat.reduceLeDiff, Nat.le_refl] at hk
  by_cases hlt : i < r.txs.length
  · obtain ⟨t, zb, fi, hfe, hst', hf'⟩ := k8.sl hlt
    obtain ⟨k, hkk, hks, l0, l1, l2⟩ := hf' i hlt
    have l0 : k 0 = _ := l0
    have l1 : k 1 = _ := l1
    have hw := i64_succ (i := i) (by have := k8.short; omega)
    have hl0 := k8.lenT
    rw [hfe] at hl0
    simp -dsimp only [go_sem, Nat.reduceLT, Nat.reduceEqDiff, Nat.reduceAdd, Nat.reduceMul, Nat.reduceBEq, beq_self_eq_true, Nat.reduceLeDiff, Nat.le_refl, hk, h3, hlt, hw, hfe, hl0, hkk, l0, l1]
    refine iwp_plan [(0, true), (1, true), (2, true), (3, true), (4, true), (5, true), (6, false), (7, true), (8, true), (9, true), (10, true), (11, true), (12, true), (13, true), (14, true), (15, true), (16, true), (17, true), (18, false), (19, true), (20, true), (21, true), (22, true), (23, true), (24, true), (25, true), (26, true), (27, true), (28, true), (29, true), (30, true), (31, true), (32, true), (33, true), (34, true), (35, true), (36, true), (37, true), (38, true), (39, true), (40, true)] [1] rfl (by decide +kernel) (by decide) ?_
    simp -dsimp only [go_sem, Nat.reduceLT, Nat.reduceEqDiff, Nat.reduceAdd, Nat.reduceMul, Nat.reduceBEq, beq_self_eq_true, Nat.reduceLeDiff, Nat.le_refl, hk, h3, hlt, hw, hfe, hl0, hkk, l0, l1]
    refine xcall_v (l1In_p _ _ _) (by simp -dsimp only [go_sem, Nat.reduceLT, Nat.reduceEqDiff, Nat.reduceAdd, Nat.reduceMul, Nat.reduceBEq, beq_self_eq_true, Nat.reduceLeDiff, Nat.le_refl, hk, h3, hlt, hw, hfe, hkk, l0]; rfl) (fun _ => trivial) fun n2 hn2 => ?_
    simp -dsimp only [go_sem, Nat.reduceLT, Nat.reduceEqDiff, Nat.reduceAdd, Nat.reduceMul, Nat.reduceBEq, beq_self_eq_true, Nat.reduceLeDiff, Nat.le_refl, hk, h3, hlt, hw, hfe, hl0, hkk, k0, l0, l1, hsub]
    have hbad : liveIn r.lsn r.txs[i] = false → Md.livesOk r.txs r.lsn = false := livesOk_bad hlt
    refine ⟨fun hb2 => ?_, fun hb2 => by rw [hbad (by simp [liveIn, show Md.inB r.txs[i].tx 1 1000 = false by simpa using hb2])]⟩
    refine xcall_v (l1In_p _ _ _) (by simp -dsimp only [go_sem, Nat.reduceLT, Nat.reduceEqDiff, Nat.reduceAdd, Nat.reduceMul, Nat.reduceBEq, beq_self_eq_true, Nat.reduceLeDiff, Nat.le_refl, hk, h3, hlt, hfe, hkk, k0, l0, l1, hsub]; rfl) (fun _ => trivial) fun n3 hn3 => ?_
    by_cases h0 : 0 < i
    · have hw2 : IntKind.i64.wrap ((i : Int) - 1) = ((i - 1 : Nat) : Int) := by rw [IntKind.wrap_i64]; have := k8.short; omega
      have hlt2 : i - 1 < r.txs.length := by omega
      have h0' : (0 : Int) < (i : Int) := by omega
      obtain ⟨kp, hkp, hksp, p0, p1, p2⟩ := hf' (i - 1) hlt2
      have p0 : kp 0 = _ := p0
      simp -dsimp only [go_sem, Nat.reduceLT, Nat.reduceEqDiff, Nat.reduceAdd, Nat.reduceMul, Nat.reduceBEq, beq_self_eq_true, Nat.reduceLeDiff, Nat.le_refl, hk, h3, hlt, hw, hfe, hl0, hkk, k0, l0, l1, hsub, h0, h0', hw2, hlt2, hkp, p0, decide_true]
      refine ⟨fun hb3 => ?_, fun hb3 => by rw [hbad (by simp [liveIn, show Md.inB r.txs[i].last 1 (r.lsn - 1) = false by simpa using hb3])]⟩
      refine ⟨fun hb4 => ?_, fun hb4 => ?_⟩
      · rw [livesOk_desc hlt h0 (by simpa using hb4)]
      · refine into_k (by omega) (by simp -dsimp only [go_sem, Nat.reduceLT, Nat.reduceEqDiff, Nat.reduceAdd, Nat.reduceMul, Nat.reduceBEq, beq_self_eq_true, Nat.reduceLeDiff, Nat.le_refl, hk]) ⟨by simp -dsimp only [go_sem, Nat.reduceLT, Nat.reduceEqDiff, Nat.reduceAdd, Nat.reduceMul, Nat.reduceBEq, beq_self_eq_true, Nat.reduceLeDiff, Nat.le_refl], hall.succ hlt ?_, hasc.succ hlt fun _ => by simpa using hb4⟩
        have a1 : Md.inB r.txs[i].tx 1 1000 = true := by simpa using hb2
        have a2 : Md.inB r.txs[i].last 1 (r.lsn - 1) = true := by simpa using hb3
        simp [liveIn, a1, a2]
    · have h0' : ¬ (0 : Int) < (i : Int) := by omega
      simp -dsimp only [go_sem, Nat.reduceLT, Nat.reduceEqDiff, Nat.reduceAdd, Nat.reduceMul, Nat.reduceBEq, beq_self_eq_true, Nat.reduceLeDiff, Nat.le_refl, hk, h3, hlt, hw, hfe, hl0, hkk, k0, l0, l1, hsub, h0, h0', decide_false]
      refine ⟨fun hb3 => ?_, fun hb3 => by rw [hbad (by simp [liveIn, show Md.inB r.txs[i].last 1 (r.lsn - 1) = false by simpa using hb3])]⟩
      refine into_k (by omega) (by simp -dsimp only [go_sem, Nat.reduceLT, Nat.reduceEqDiff, Nat.reduceAdd, Nat.reduceMul, Nat.reduceBEq, beq_self_eq_true, Nat.reduceLeDiff, Nat.le_refl, hk]) ⟨by simp -dsimp only [go_sem, Nat.reduceLT, Nat.reduceEqDiff, Nat.reduceAdd, Nat.reduceMul, Nat.reduceBEq, beq_self_eq_true, Nat.reduceLeDiff, Nat.le_refl], hall.succ hlt ?_, hasc.succ hlt fun h => absurd h h0⟩
      have a1 : Md.inB r.txs[i].tx 1 1000 = true := by simpa using hb2
      have a2 : Md.inB r.txs[i].last 1 (r.lsn - 1) = true := by simpa using hb3
      simp [liveIn, a1, a2]
  · simp -dsimp only [go_sem, Nat.reduceLT, Nat.reduceEqDiff, Nat.reduceAdd, Nat.reduceMul, Nat.reduceBEq, beq_self_eq_true, Nat.reduceLeDiff, Nat.le_refl, hk, h3, hlt, k8.size, k8.isNode, k8.plain, k8.lenT]
    rw [livesOk_end hall hasc hlt]
    exact decide_eq_decide.2 (by omega)
theorem livesOk_p (d : D) (xs : List Md.Live) (lsn : Int) (h : IsL 3 IsLive d xs) (hl1 : 1 ≤ lsn) (hl2 : lsn ≤ 1000000) : PCall Try.prog 171 [d, .lit (.int .i64 lsn)] fun _ _ x => x = .lit (.bool (Md.livesOk xs lsn)) := by
  have hsub : IntKind.i64.wrap (lsn - 1) = lsn - 1 := by rw [IntKind.wrap_i64]; omega
  refine pcall_intro_v Try.func171 rfl (by decide) rfl (by decide) (by rw [Try.ntmps171]; simp) fun w0 M n0 => ivc_sound ?_; simp -dsimp only [Try.f171, go_sem, Nat.reduceLT, Nat.reduceEqDiff, Nat.reduceAdd, Nat.reduceMul, Nat.reduceBEq, beq_self_eq_true, Nat.reduceLeDiff, Nat.le_refl, h.size, h.isNode, h.plain, h.lenT]
  refine iwp_forK xs.length [0, 1, 7, 8] (fun i s => s 9 = .lit (.int .i64 i) ∧ Md.AllB (liveIn lsn) xs i true ∧ AscTo xs i) 0 (Nat.zero_le _) ⟨by simp -dsimp only [go_sem, Nat.reduceLT, Nat.reduceEqDiff, Nat.reduceAdd, Nat.reduceMul, Nat.reduceBEq, beq_self_eq_true, Nat.reduceLeDiff, Nat.le_refl]; rfl, Md.allB_zero _ _ _, AscTo.zero _⟩ ?_
  rintro i n' s hi hn hk ⟨h9, hall, hasc⟩
  refine ivc_sound ?_
  simp -dsimp only [go_sem, Nat.reduceLT, Nat.reduceEqDiff, Nat.reduceAdd, Nat.reduceMul, Nat.reduceBEq, beq_self_eq_true, Nat.reduceLeDiff, Nat.le_refl] at hk
  by_cases hlt : i < xs.length
  · obtain ⟨t, zb, fi, hfe, hst', hf'⟩ := h.sl hlt
    obtain ⟨k, hkk, hks, l0, l1, l2⟩ := hf' i hlt
    have l0 : k 0 = _ := l0
    have l1 : k 1 = _ := l1
    have hw := i64_succ (i := i) (by have := h.short; omega)
    have hl0 := h.lenT
    rw [hfe] at hl0
    simp -dsimp only [go_sem, Nat.reduceLT, Nat.reduceEqDiff, Nat.reduceAdd, Nat.reduceMul, Nat.reduceBEq, beq_self_eq_true, Nat.reduceLeDiff, Nat.le_refl, hk, h9, hlt, hw, hfe, hl0, hkk, l0, l1]
    intro g2 b2 hb2
    refine iwp_plan [(0, true), (1, true), (2, false), (3, true), (4, true), (5, true), (6, true), (7, true), (8, true), (9, false), (10, true), (11, true), (12, true), (13, true), (14, true), (15, true), (16, true), (17, true), (18, true), (19, true), (20, true), (21, true), (22, true), (23, true), (24, true), (25, true), (26, true)] [6] rfl (by decide +kernel) (by decide) ?_
    simp -dsimp only [go_sem, Nat.reduceLT, Nat.reduceEqDiff, Nat.reduceAdd, Nat.reduceMul, Nat.reduceBEq, beq_self_eq_true, Nat.reduceLeDiff, Nat.le_refl, hk, h9, hlt, hw, hfe, hl0, hkk, l0, l1]
    refine xcall_v (isTx_p _) (by simp -dsimp only [go_sem, Nat.reduceLT, Nat.reduceEqDiff, Nat.reduceAdd, Nat.reduceMul, Nat.reduceBEq, beq_self_eq_true, Nat.reduceLeDiff, Nat.le_refl, hk, h9, hlt, hw, hfe, hkk, l0]; rfl) (fun _ => trivial) fun n2 hn2 => ?_
    simp -dsimp only [go_sem, Nat.reduceLT, Nat.reduceEqDiff, Nat.reduceAdd, Nat.reduceMul, Nat.reduceBEq, beq_self_eq_true, Nat.reduceLeDiff, Nat.le_refl, hk, h9, hlt, hw, hfe, hl0, hkk, l0, l1, hsub]
    have hbad : liveIn lsn xs[i] = false → Md.livesOk xs lsn = false := livesOk_bad hlt
    refine ⟨fun hb2 => ?_, fun hb2 => by rw [hbad (by simp [liveIn, show Md.inB xs[i].tx 1 1000 = false by simpa using hb2])]⟩
    refine xcall_v (in_p _ _ _) (by simp -dsimp only [go_sem, Nat.reduceLT, Nat.reduceEqDiff, Nat.reduceAdd, Nat.reduceMul, Nat.reduceBEq, beq_self_eq_true, Nat.reduceLeDiff, Nat.le_refl, hk, h9, hlt, hfe, hkk, l0, l1, hsub]; rfl) (fun _ => trivial) fun n3 hn3 => ?_
    by_cases h0 : 0 < i
    · have hw2 : IntKind.i64.wrap ((i : Int) - 1) = ((i - 1 : Nat) : Int) := by rw [IntKind.wrap_i64]; have := h.short; omega
      have hlt2 : i - 1 < xs.length := by omega
      have h0' : (0 : Int) < (i : Int) := by omega
      obtain ⟨kp, hkp, hksp, p0, p1, p2⟩ := hf' (i - 1) hlt2
      have p0 : kp 0 = _ := p0
      simp -dsimp only [go_sem, Nat.reduceLT, Nat.reduceEqDiff, Nat.reduceAdd, Nat.reduceMul, Nat.reduceBEq, beq_self_eq_true, Nat.reduceLeDiff, Nat.le_refl, hk, h9, hlt, hw, hfe, hl0, hkk, l0, l1, hsub, h0, h0', hw2, hlt2, hkp, p0, decide_true]
      refine ⟨fun hb3 => ?_, fun hb3 => by rw [hbad (by simp [liveIn, show Md.inB xs[i].last 1 (lsn - 1) = false by simpa using hb3])]⟩
      refine ⟨fun hb4 => ?_, fun hb4 => ?_⟩
      · rw [livesOk_desc hlt h0 (by simpa using hb4)]
      · refine into_k1 rfl (by omega) (by simp -dsimp only [go_sem, Nat.reduceLT, Nat.reduceEqDiff, Nat.reduceAdd, Nat.reduceMul, Nat.reduceBEq, beq_self_eq_true, Nat.reduceLeDiff, Nat.le_refl, hk, hfe]) ⟨by simp -dsimp only [go_sem, Nat.reduceLT, Nat.reduceEqDiff, Nat.reduceAdd, Nat.reduceMul, Nat.reduceBEq, beq_self_eq_true, Nat.reduceLeDiff, Nat.le_refl], hall.succ hlt ?_, hasc.succ hlt fun _ => by simpa using hb4⟩
        have a1 : Md.inB xs[i].tx 1 1000 = true := by simpa using hb2
        have a2 : Md.inB xs[i].last 1 (lsn - 1) = true := by simpa using hb3
        simp [liveIn, a1, a2]
    · have h0' : ¬ (0 : Int) < (i : Int) := by omega
      simp -dsimp only [go_sem, Nat.reduceLT, Nat.reduceEqDiff, Nat.reduceAdd, Nat.reduceMul, Nat.reduceBEq, beq_self_eq_true, Nat.reduceLeDiff, Nat.le_refl, hk, h9, hlt, hw, hfe, hl0, hkk, l0, l1, hsub, h0, h0', decide_false]
      refine ⟨fun hb3 => ?_, fun hb3 => by rw [hbad (by simp [liveIn, show Md.inB xs[i].last 1 (lsn - 1) = false by simpa using hb3])]⟩
      refine into_k1 rfl (by omega) (by simp -dsimp only [go_sem, Nat.reduceLT, Nat.reduceEqDiff, Nat.reduceAdd, Nat.reduceMul, Nat.reduceBEq, beq_self_eq_true, Nat.reduceLeDiff, Nat.le_refl, hk, hfe]) ⟨by simp -dsimp only [go_sem, Nat.reduceLT, Nat.reduceEqDiff, Nat.reduceAdd, Nat.reduceMul, Nat.reduceBEq, beq_self_eq_true, Nat.reduceLeDiff, Nat.le_refl], hall.succ hlt ?_, hasc.succ hlt fun h => absurd h h0⟩
      have a1 : Md.inB xs[i].tx 1 1000 = true := by simpa using hb2
      have a2 : Md.inB xs[i].last 1 (lsn - 1) = true := by simpa using hb3
      simp [liveIn, a1, a2]
  · simp -dsimp only [go_sem, Nat.reduceLT, Nat.reduceEqDiff, Nat.reduceAdd, Nat.reduceMul, Nat.reduceBEq, beq_self_eq_true, Nat.reduceLeDiff, Nat.le_refl, hk, h9, hlt, h.size, h.isNode, h.plain, h.lenT]
    rw [livesOk_end hall hasc hlt]
    exact decide_eq_decide.2 (by omega)
end Go.Proofs.Ytjaddgkhlmallaa.IM
