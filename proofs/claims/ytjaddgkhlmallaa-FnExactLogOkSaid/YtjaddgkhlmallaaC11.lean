/- Contracts: logs that are right. -/
import Derived.Test.YtjaddgkhlmallaaC10
namespace Go.Proofs.Ytjaddgkhlmallaa.IM
open Go Go.Proofs
set_option linter.unusedVariables false
set_option linter.unusedSimpArgs false
set_option maxHeartbeats 2000000
set_option maxRecDepth 20000

def recAt (x : Md.Rec × Nat) : Bool := x.1.lsn == (x.2 : Int) + 1 && Md.recOk x.1
def RecsTo (xs : List Md.Rec) (i : Nat) : Prop := ∀ j (_ : j < i) (h : j < xs.length), recAt (xs[j], j) = true
theorem RecsTo.zero (xs : List Md.Rec) : RecsTo xs 0 := fun j h => absurd h (by omega)
theorem RecsTo.succ {xs : List Md.Rec} {i : Nat} (h : RecsTo xs i) (hi : i < xs.length) (hp : recAt (xs[i], i) = true) : RecsTo xs (i + 1) := by
  intro j hj hj'
  by_cases h1 : j < i
  · exact h j h1 hj'
  · obtain rfl : j = i := by omega
    exact hp
theorem recs_end {xs : List Md.Rec} {i : Nat} (h : RecsTo xs i) (hi : ¬ i < xs.length) : xs.zipIdx.all recAt = true := by
  rw [List.all_eq_true]
  intro x hx
  obtain ⟨j, hj, rfl⟩ := List.getElem_of_mem hx
  have hj' : j < xs.length := by simpa using hj
  simp only [List.getElem_zipIdx, Nat.zero_add]
  exact h j (by omega) hj'
theorem recs_bad {xs : List Md.Rec} {i : Nat} (hi : i < xs.length) (hp : recAt (xs[i], i) = false) : xs.zipIdx.all recAt = false := by
  rw [List.all_eq_false]
  refine ⟨(xs[i], i), ?_, by simp [hp]⟩
  have : (xs.zipIdx)[i]'(by simpa using hi) = (xs[i], i) := by simp
  rw [← this]; exact List.getElem_mem _
theorem logOk_eq (l : Md.Log) : Md.logOk l = (l.recs.zipIdx.all recAt && decide (l.recs.length ≤ 4000) && Md.inB l.sure 0 l.recs.length) := rfl

theorem specLogOk_p (d : D) (l : Md.Log) (h : IsLog d l) : PCall Try.prog 98 [d] fun _ _ x => x = .lit (.bool (Md.logOk l)) := by
  obtain ⟨f, rfl, hst, h0, h1⟩ := h
  have h1 : f 1 = _ := h1
  refine pcall_intro_v Try.func98 rfl (by decide) rfl (by decide) (by rw [Try.ntmps98]; simp) fun w0 M n0 => ivc_sound ?_; simp -dsimp only [Try.f98, go_sem, Nat.reduceLT, Nat.reduceEqDiff, Nat.reduceAdd, Nat.reduceMul, Nat.reduceBEq, beq_self_eq_true, Nat.reduceLeDiff, Nat.le_refl, h0.size, h0.isNode, h0.plain, h0.lenT, h1]
  intro g1 b1 hb1
  refine ⟨fun hb => ?_, ?_⟩
  rotate_left
  · intro hb
    have : ¬ l.recs.length ≤ 4000 := by first | omega | (simp at hb; omega)
    simp [logOk_eq, this]
  refine xcall_v (l1In_p l.sure 0 l.recs.length) (by simp -dsimp only [go_sem, Nat.reduceLT, Nat.reduceEqDiff, Nat.reduceAdd, Nat.reduceMul, Nat.reduceBEq, beq_self_eq_true, Nat.reduceLeDiff, Nat.le_refl, h1, h0.size, h0.isNode, h0.plain, h0.lenT]) (fun _ => trivial) fun n1 hn1 => ?_
  simp -dsimp only [go_sem, Nat.reduceLT, Nat.reduceEqDiff, Nat.reduceAdd, Nat.reduceMul, Nat.reduceBEq, beq_self_eq_true, Nat.reduceLeDiff, Nat.le_refl, h0.size, h0.isNode, h0.plain, h0.lenT, h1]
  refine ⟨?_, fun hb1 => ?_⟩
  · intro hb1
    simp [logOk_eq, show Md.inB l.sure 0 l.recs.length = false by simpa using hb1]
  refine iwp_forK l.recs.length [1] (fun i s => s 3 = .lit (.int .i64 i) ∧ RecsTo l.recs i) 0 (Nat.zero_le _) ⟨by simp -dsimp only [go_sem, Nat.reduceLT, Nat.reduceEqDiff, Nat.reduceAdd, Nat.reduceMul, Nat.reduceBEq, beq_self_eq_true, Nat.reduceLeDiff, Nat.le_refl]; rfl, RecsTo.zero _⟩ ?_
  rintro i n' s hi hn hk ⟨h3, hall⟩
  refine ivc_sound ?_
  simp -dsimp only [go_sem, Nat.reduceLT, Nat.reduceEqDiff, Nat.reduceAdd, Nat.reduceMul, Nat.reduceBEq, beq_self_eq_true, Nat.reduceLeDiff, Nat.le_refl] at hk
  by_cases hlt : i < l.recs.length
  · obtain ⟨t, zb, fi, hfe, hst', hf'⟩ := h0.sl hlt
    have hri := hf' i hlt
    have qr := shp_rec _ _ hri
    obtain ⟨k, hkk, hks, k0, k1, k2, k3, k4, k5, k6, k7, k8⟩ := hf' i hlt
    have k0 : k 0 = _ := k0
    have hw := i64_succ (i := i) (by have := h0.short; omega)
    have hl0 := h0.lenT
    rw [hfe] at hl0
    simp -dsimp only [go_sem, Nat.reduceLT, Nat.reduceEqDiff, Nat.reduceAdd, Nat.reduceMul, Nat.reduceBEq, beq_self_eq_true, Nat.reduceLeDiff, Nat.le_refl, hk, h3, hlt, hw, hfe, hl0, hkk, k0]
    refine ⟨fun hb2 => ?_, ?_⟩
    rotate_left
    · intro hb2
      have : recAt (l.recs[i], i) = false := by
        have : ¬ l.recs[i].lsn = (i : Int) + 1 := by simpa using hb2
        simp [recAt, this]
      simp [logOk_eq, recs_bad hlt this]
    rw [← hkk]
    refine xcall_v (specRecOk_p _ _ hri) (by simp -dsimp only [go_sem, Nat.reduceLT, Nat.reduceEqDiff, Nat.reduceAdd, Nat.reduceMul, Nat.reduceBEq, beq_self_eq_true, Nat.reduceLeDiff, Nat.le_refl, rl_still, qr.2.2.2]) (fun _ => trivial) fun n3 hn3 => ?_
    simp -dsimp only [go_sem, Nat.reduceLT, Nat.reduceEqDiff, Nat.reduceAdd, Nat.reduceMul, Nat.reduceBEq, beq_self_eq_true, Nat.reduceLeDiff, Nat.le_refl, hk, h3, hlt, hw, hfe, hl0, hkk, k0]
    refine ⟨fun hb3 => ?_, fun hb3 => into_k (by omega) (by simp -dsimp only [go_sem, Nat.reduceLT, Nat.reduceEqDiff, Nat.reduceAdd, Nat.reduceMul, Nat.reduceBEq, beq_self_eq_true, Nat.reduceLeDiff, Nat.le_refl, hk]) ⟨by simp -dsimp only [go_sem, Nat.reduceLT, Nat.reduceEqDiff, Nat.reduceAdd, Nat.reduceMul, Nat.reduceBEq, beq_self_eq_true, Nat.reduceLeDiff, Nat.le_refl], hall.succ hlt ?_⟩⟩
    · have : recAt (l.recs[i], i) = false := by simp [recAt, show Md.recOk l.recs[i] = false by simpa using hb3]
      simp [logOk_eq, recs_bad hlt this]
    · have a1 : l.recs[i].lsn = (i : Int) + 1 := by simpa using hb2
      have a2 : Md.recOk l.recs[i] = true := by simpa using hb3
      simp [recAt, a1, a2]
  · simp -dsimp only [go_sem, Nat.reduceLT, Nat.reduceEqDiff, Nat.reduceAdd, Nat.reduceMul, Nat.reduceBEq, beq_self_eq_true, Nat.reduceLeDiff, Nat.le_refl, hk, h3, hlt, h0.size, h0.isNode, h0.plain, h0.lenT]
    have e1 := recs_end hall hlt
    have e2 : l.recs.length ≤ 4000 := by first | omega | (simp at hb; omega)
    have e3 : Md.inB l.sure 0 l.recs.length = true := by simpa using hb1
    simp [logOk_eq, e1, e2, e3]
theorem logOk_p (d : D) (l : Md.Log) (h : IsLog d l) : PCall Try.prog 99 [d] fun _ _ x => x = .lit (.bool (Md.logOk l)) := by
  obtain ⟨f, rfl, hst, h0, h1⟩ := h
  have h1 : f 1 = _ := h1
  refine pcall_intro_v Try.func99 rfl (by decide) rfl (by decide) (by rw [Try.ntmps99]; simp) fun w0 M n0 => ivc_sound ?_; simp -dsimp only [Try.f99, go_sem, Nat.reduceLT, Nat.reduceEqDiff, Nat.reduceAdd, Nat.reduceMul, Nat.reduceBEq, beq_self_eq_true, Nat.reduceLeDiff, Nat.le_refl, h0.size, h0.isNode, h0.plain, h0.lenT, h1]
  intro g1 b1 hb1
  refine iwp_forK l.recs.length [1, 6, 7] (fun i s => s 8 = .lit (.int .i64 i) ∧ RecsTo l.recs i) 0 (Nat.zero_le _) ⟨by simp -dsimp only [go_sem, Nat.reduceLT, Nat.reduceEqDiff, Nat.reduceAdd, Nat.reduceMul, Nat.reduceBEq, beq_self_eq_true, Nat.reduceLeDiff, Nat.le_refl]; rfl, RecsTo.zero _⟩ ?_
  rintro i n' s hi hn hk ⟨h8, hall⟩
  refine ivc_sound ?_
  simp -dsimp only [go_sem, Nat.reduceLT, Nat.reduceEqDiff, Nat.reduceAdd, Nat.reduceMul, Nat.reduceBEq, beq_self_eq_true, Nat.reduceLeDiff, Nat.le_refl] at hk
  by_cases hlt : i < l.recs.length
  · obtain ⟨t, zb, fi, hfe, hst', hf'⟩ := h0.sl hlt
    have hri := hf' i hlt
    have qr := shp_rec _ _ hri
    obtain ⟨k, hkk, hks, k0, k1, k2, k3, k4, k5, k6, k7, k8⟩ := hf' i hlt
    have k0 : k 0 = _ := k0
    have hw := i64_succ (i := i) (by have := h0.short; omega)
    have hl0 := h0.lenT
    rw [hfe] at hl0
    simp -dsimp only [go_sem, Nat.reduceLT, Nat.reduceEqDiff, Nat.reduceAdd, Nat.reduceMul, Nat.reduceBEq, beq_self_eq_true, Nat.reduceLeDiff, Nat.le_refl, hk, h8, hlt, hw, hfe, hl0, hkk, k0]
    intro g2 b2 hb2
    refine ⟨fun hb2 => ?_, ?_⟩
    rotate_left
    · intro hb2
      have : recAt (l.recs[i], i) = false := by
        have : ¬ l.recs[i].lsn = (i : Int) + 1 := by simpa using hb2
        simp [recAt, this]
      simp [logOk_eq, recs_bad hlt this]
    refine xcall_v (recOk_p _ _ hri) (by simp -dsimp only [go_sem, Nat.reduceLT, Nat.reduceEqDiff, Nat.reduceAdd, Nat.reduceMul, Nat.reduceBEq, beq_self_eq_true, Nat.reduceLeDiff, Nat.le_refl, hkk, rl_still]; rw [rl_still (by rw [← hkk]; exact qr.2.2.2)]) (fun _ => trivial) fun n3 hn3 => ?_
    simp -dsimp only [go_sem, Nat.reduceLT, Nat.reduceEqDiff, Nat.reduceAdd, Nat.reduceMul, Nat.reduceBEq, beq_self_eq_true, Nat.reduceLeDiff, Nat.le_refl, hk, h8, hlt, hw, hfe, hl0, hkk, k0]
    refine ⟨fun hb3 => ?_, fun hb3 => into_k1 rfl (by omega) (by simp -dsimp only [go_sem, Nat.reduceLT, Nat.reduceEqDiff, Nat.reduceAdd, Nat.reduceMul, Nat.reduceBEq, beq_self_eq_true, Nat.reduceLeDiff, Nat.le_refl, hk, hfe]) ⟨by simp -dsimp only [go_sem, Nat.reduceLT, Nat.reduceEqDiff, Nat.reduceAdd, Nat.reduceMul, Nat.reduceBEq, beq_self_eq_true, Nat.reduceLeDiff, Nat.le_refl], hall.succ hlt ?_⟩⟩
    · have : recAt (l.recs[i], i) = false := by simp [recAt, show Md.recOk l.recs[i] = false by simpa using hb3]
      simp [logOk_eq, recs_bad hlt this]
    · have a1 : l.recs[i].lsn = (i : Int) + 1 := by simpa using hb2
      have a2 : Md.recOk l.recs[i] = true := by simpa using hb3
      simp [recAt, a1, a2]
  · simp -dsimp only [go_sem, Nat.reduceLT, Nat.reduceEqDiff, Nat.reduceAdd, Nat.reduceMul, Nat.reduceBEq, beq_self_eq_true, Nat.reduceLeDiff, Nat.le_refl, hk, h8, hlt, h0.size, h0.isNode, h0.plain, h0.lenT, h1]
    have e1 := recs_end hall hlt
    refine ⟨fun hb3 => ?_, ?_⟩
    rotate_left
    · intro hb3
      have : ¬ l.recs.length ≤ 4000 := by first | omega | (simp at hb3; omega)
      simp [logOk_eq, this]
    refine xcall_v (in_p l.sure 0 l.recs.length) (by simp -dsimp only [go_sem, Nat.reduceLT, Nat.reduceEqDiff, Nat.reduceAdd, Nat.reduceMul, Nat.reduceBEq, beq_self_eq_true, Nat.reduceLeDiff, Nat.le_refl, h1, h0.size, h0.isNode, h0.plain, h0.lenT]) (fun _ => trivial) fun n3 hn3 => ?_
    simp -dsimp only [go_sem, Nat.reduceLT, Nat.reduceEqDiff, Nat.reduceAdd, Nat.reduceMul, Nat.reduceBEq, beq_self_eq_true, Nat.reduceLeDiff, Nat.le_refl, h1]
    have e2 : l.recs.length ≤ 4000 := by first | omega | (simp at hb3; omega)
    simp [logOk_eq, e1, e2]
end Go.Proofs.Ytjaddgkhlmallaa.IM
