/- Contracts of the instances of slices.IndexFunc and slices.ContainsFunc: a predicate that only reads is asked of the elements. Printed by slices.py. -/
import Derived.Test.YtjaddgkhlmallaaC1
namespace Go.Proofs.Ytjaddgkhlmallaa.IM
open Go Go.Proofs
set_option linter.unusedVariables false
set_option linter.unusedSimpArgs false
set_option maxHeartbeats 2000000
set_option maxRecDepth 20000

theorem indexFunc_int {α : Type} {R : D → α → Prop} (hR : Shp R 1 false) (xs : List α) (d : D) (h : IsL 1 R d xs) (fid m : Nat) (cs : Nat → D) (pr : α → Bool) (hcs : ∀ i, (cs i).still)
    (hp : ∀ x ∈ xs, ∀ dx, R dx x → PCall Try.prog fid (dx :: (List.range m).map cs) fun _ _ r => r = .lit (.bool (pr x))) :
    PCall Try.prog 260 [d, .fn fid m cs] fun _ _ r => r = .lit (.int .i64 (Md.idx pr xs)) := by
  have hlen := h.lenT
  refine pcall_intro_v Try.func260 rfl (by decide) rfl (by decide) (by rw [Try.ntmps260]; simp) fun w0 M n0 => ivc_sound ?_; simp -dsimp only [Try.f260, go_sem, Nat.reduceLT, Nat.reduceEqDiff, Nat.reduceAdd, Nat.reduceMul, Nat.reduceBEq, beq_self_eq_true, Nat.reduceLeDiff, Nat.le_refl, hlen]
  refine iwp_forK xs.length [0, 1, 7] (fun i s => s 8 = .lit (.int .i64 i) ∧ ∀ j (hj : j < i) (hj' : j < xs.length), pr xs[j] = false) 0 (Nat.zero_le _) ⟨by simp -dsimp only [go_sem, Nat.reduceLT, Nat.reduceEqDiff, Nat.reduceAdd, Nat.reduceMul, Nat.reduceBEq, beq_self_eq_true, Nat.reduceLeDiff, Nat.le_refl]; rfl, fun j hj => absurd hj (by omega)⟩ ?_
  rintro i n' s hi hn hk ⟨h8, hall⟩
  refine ivc_sound ?_
  by_cases hlt : i < xs.length
  · obtain ⟨t, zb, f, rfl, hst, hf⟩ := h.sl hlt
    have hfi := hf i hlt
    obtain ⟨e1, e2, e3, e4⟩ := hR _ _ hfi
    have hw := i64_succ (i := i) (by have := h.short; omega)
    simp -dsimp only [go_sem, Nat.reduceLT, Nat.reduceEqDiff, Nat.reduceAdd, Nat.reduceMul, Nat.reduceBEq, beq_self_eq_true, Nat.reduceLeDiff, Nat.le_refl] at hk
    simp -dsimp only [go_sem, Nat.reduceLT, Nat.reduceEqDiff, Nat.reduceAdd, Nat.reduceMul, Nat.reduceBEq, beq_self_eq_true, Nat.reduceLeDiff, Nat.le_refl, hk, h8, hlt, e1, e2, e3, hw]
    refine xcall_v (hp _ (List.getElem_mem hlt) (f i) hfi) (by simp -dsimp only [go_sem, Nat.reduceLT, Nat.reduceEqDiff, Nat.reduceAdd, Nat.reduceMul, Nat.reduceBEq, beq_self_eq_true, Nat.reduceLeDiff, Nat.le_refl, hk, rl_still, hcs, e4]) (fun _ => trivial) fun n1 hn1 => ?_
    simp -dsimp only [go_sem, Nat.reduceLT, Nat.reduceEqDiff, Nat.reduceAdd, Nat.reduceMul, Nat.reduceBEq, beq_self_eq_true, Nat.reduceLeDiff, Nat.le_refl, hk, h8, hlt, hw]
    refine ⟨fun h1 => ?_, fun h1 => into_k (by omega) (by simp -dsimp only [go_sem, Nat.reduceLT, Nat.reduceEqDiff, Nat.reduceAdd, Nat.reduceMul, Nat.reduceBEq, beq_self_eq_true, Nat.reduceLeDiff, Nat.le_refl, hk]) ⟨by simp -dsimp only [go_sem, Nat.reduceLT, Nat.reduceEqDiff, Nat.reduceAdd, Nat.reduceMul, Nat.reduceBEq, beq_self_eq_true, Nat.reduceLeDiff, Nat.le_refl], fun j hj hj' => ?_⟩⟩
    · rw [Md.idx_at hlt h1 hall]
    · rcases Nat.lt_or_ge j i with h2 | h2
      · exact hall j h2 hj'
      · obtain rfl : j = i := by omega
        exact h1
  · simp -dsimp only [go_sem, Nat.reduceLT, Nat.reduceEqDiff, Nat.reduceAdd, Nat.reduceMul, Nat.reduceBEq, beq_self_eq_true, Nat.reduceLeDiff, Nat.le_refl] at hk
    simp -dsimp only [go_sem, Nat.reduceLT, Nat.reduceEqDiff, Nat.reduceAdd, Nat.reduceMul, Nat.reduceBEq, beq_self_eq_true, Nat.reduceLeDiff, Nat.le_refl, hk, h8, hlt]
    rw [Md.idx_none fun j hj => hall j (by omega) hj]
theorem containsFunc_int {α : Type} {R : D → α → Prop} (hR : Shp R 1 false) (xs : List α) (d : D) (h : IsL 1 R d xs) (fid m : Nat) (cs : Nat → D) (pr : α → Bool) (hcs : ∀ i, (cs i).still)
    (hp : ∀ x ∈ xs, ∀ dx, R dx x → PCall Try.prog fid (dx :: (List.range m).map cs) fun _ _ r => r = .lit (.bool (pr x))) :
    PCall Try.prog 227 [d, .fn fid m cs] fun _ _ r => r = .lit (.bool (xs.any pr)) := by
  have hst := h.still
  refine pcall_intro_v Try.func227 rfl (by decide) rfl (by decide) (by rw [Try.ntmps227]; simp) fun w0 M n0 => ivc_sound ?_; simp -dsimp only [Try.f227, go_sem, Nat.reduceLT, Nat.reduceEqDiff, Nat.reduceAdd, Nat.reduceMul, Nat.reduceBEq, beq_self_eq_true, Nat.reduceLeDiff, Nat.le_refl]
  refine xcall_v (indexFunc_int hR xs d h fid m cs pr hcs hp) (by simp -dsimp only [go_sem, Nat.reduceLT, Nat.reduceEqDiff, Nat.reduceAdd, Nat.reduceMul, Nat.reduceBEq, beq_self_eq_true, Nat.reduceLeDiff, Nat.le_refl, rl_fn, rl_still, hst, hcs]) (fun _ => trivial) fun n1 hn1 => ?_
  simp -dsimp only [go_sem, Nat.reduceLT, Nat.reduceEqDiff, Nat.reduceAdd, Nat.reduceMul, Nat.reduceBEq, beq_self_eq_true, Nat.reduceLeDiff, Nat.le_refl, Md.idx_any]
theorem indexFunc_Slot {α : Type} {R : D → α → Prop} (hR : Shp R 4 true) (xs : List α) (d : D) (h : IsL 4 R d xs) (fid m : Nat) (cs : Nat → D) (pr : α → Bool) (hcs : ∀ i, (cs i).still)
    (hp : ∀ x ∈ xs, ∀ dx, R dx x → PCall Try.prog fid (dx :: (List.range m).map cs) fun _ _ r => r = .lit (.bool (pr x))) :
    PCall Try.prog 138 [d, .fn fid m cs] fun _ _ r => r = .lit (.int .i64 (Md.idx pr xs)) := by
  have hlen := h.lenT
  refine pcall_intro_v Try.func138 rfl (by decide) rfl (by decide) (by rw [Try.ntmps138]; simp) fun w0 M n0 => ivc_sound ?_; simp -dsimp only [Try.f138, go_sem, Nat.reduceLT, Nat.reduceEqDiff, Nat.reduceAdd, Nat.reduceMul, Nat.reduceBEq, beq_self_eq_true, Nat.reduceLeDiff, Nat.le_refl, hlen]
  refine iwp_forK xs.length [0, 1, 7] (fun i s => s 8 = .lit (.int .i64 i) ∧ ∀ j (hj : j < i) (hj' : j < xs.length), pr xs[j] = false) 0 (Nat.zero_le _) ⟨by simp -dsimp only [go_sem, Nat.reduceLT, Nat.reduceEqDiff, Nat.reduceAdd, Nat.reduceMul, Nat.reduceBEq, beq_self_eq_true, Nat.reduceLeDiff, Nat.le_refl]; rfl, fun j hj => absurd hj (by omega)⟩ ?_
  rintro i n' s hi hn hk ⟨h8, hall⟩
  refine ivc_sound ?_
  by_cases hlt : i < xs.length
  · obtain ⟨t, zb, f, rfl, hst, hf⟩ := h.sl hlt
    have hfi := hf i hlt
    obtain ⟨e1, e2, e3, e4⟩ := hR _ _ hfi
    have hw := i64_succ (i := i) (by have := h.short; omega)
    simp -dsimp only [go_sem, Nat.reduceLT, Nat.reduceEqDiff, Nat.reduceAdd, Nat.reduceMul, Nat.reduceBEq, beq_self_eq_true, Nat.reduceLeDiff, Nat.le_refl] at hk
    simp -dsimp only [go_sem, Nat.reduceLT, Nat.reduceEqDiff, Nat.reduceAdd, Nat.reduceMul, Nat.reduceBEq, beq_self_eq_true, Nat.reduceLeDiff, Nat.le_refl, hk, h8, hlt, e1, e2, e3, hw]
    refine xcall_v (hp _ (List.getElem_mem hlt) (f i) hfi) (by simp -dsimp only [go_sem, Nat.reduceLT, Nat.reduceEqDiff, Nat.reduceAdd, Nat.reduceMul, Nat.reduceBEq, beq_self_eq_true, Nat.reduceLeDiff, Nat.le_refl, hk, rl_still, hcs, e4]) (fun _ => trivial) fun n1 hn1 => ?_
    simp -dsimp only [go_sem, Nat.reduceLT, Nat.reduceEqDiff, Nat.reduceAdd, Nat.reduceMul, Nat.reduceBEq, beq_self_eq_true, Nat.reduceLeDiff, Nat.le_refl, hk, h8, hlt, hw]
    refine ⟨fun h1 => ?_, fun h1 => into_k (by omega) (by simp -dsimp only [go_sem, Nat.reduceLT, Nat.reduceEqDiff, Nat.reduceAdd, Nat.reduceMul, Nat.reduceBEq, beq_self_eq_true, Nat.reduceLeDiff, Nat.le_refl, hk]) ⟨by simp -dsimp only [go_sem, Nat.reduceLT, Nat.reduceEqDiff, Nat.reduceAdd, Nat.reduceMul, Nat.reduceBEq, beq_self_eq_true, Nat.reduceLeDiff, Nat.le_refl], fun j hj hj' => ?_⟩⟩
    · rw [Md.idx_at hlt h1 hall]
    · rcases Nat.lt_or_ge j i with h2 | h2
      · exact hall j h2 hj'
      · obtain rfl : j = i := by omega
        exact h1
  · simp -dsimp only [go_sem, Nat.reduceLT, Nat.reduceEqDiff, Nat.reduceAdd, Nat.reduceMul, Nat.reduceBEq, beq_self_eq_true, Nat.reduceLeDiff, Nat.le_refl] at hk
    simp -dsimp only [go_sem, Nat.reduceLT, Nat.reduceEqDiff, Nat.reduceAdd, Nat.reduceMul, Nat.reduceBEq, beq_self_eq_true, Nat.reduceLeDiff, Nat.le_refl, hk, h8, hlt]
    rw [Md.idx_none fun j hj => hall j (by omega) hj]
theorem containsFunc_Slot {α : Type} {R : D → α → Prop} (hR : Shp R 4 true) (xs : List α) (d : D) (h : IsL 4 R d xs) (fid m : Nat) (cs : Nat → D) (pr : α → Bool) (hcs : ∀ i, (cs i).still)
    (hp : ∀ x ∈ xs, ∀ dx, R dx x → PCall Try.prog fid (dx :: (List.range m).map cs) fun _ _ r => r = .lit (.bool (pr x))) :
    PCall Try.prog 144 [d, .fn fid m cs] fun _ _ r => r = .lit (.bool (xs.any pr)) := by
  have hst := h.still
  refine pcall_intro_v Try.func144 rfl (by decide) rfl (by decide) (by rw [Try.ntmps144]; simp) fun w0 M n0 => ivc_sound ?_; simp -dsimp only [Try.f144, go_sem, Nat.reduceLT, Nat.reduceEqDiff, Nat.reduceAdd, Nat.reduceMul, Nat.reduceBEq, beq_self_eq_true, Nat.reduceLeDiff, Nat.le_refl]
  refine xcall_v (indexFunc_Slot hR xs d h fid m cs pr hcs hp) (by simp -dsimp only [go_sem, Nat.reduceLT, Nat.reduceEqDiff, Nat.reduceAdd, Nat.reduceMul, Nat.reduceBEq, beq_self_eq_true, Nat.reduceLeDiff, Nat.le_refl, rl_fn, rl_still, hst, hcs]) (fun _ => trivial) fun n1 hn1 => ?_
  simp -dsimp only [go_sem, Nat.reduceLT, Nat.reduceEqDiff, Nat.reduceAdd, Nat.reduceMul, Nat.reduceBEq, beq_self_eq_true, Nat.reduceLeDiff, Nat.le_refl, Md.idx_any]
theorem indexFunc_Seat {α : Type} {R : D → α → Prop} (hR : Shp R 20 true) (xs : List α) (d : D) (h : IsL 20 R d xs) (fid m : Nat) (cs : Nat → D) (pr : α → Bool) (hcs : ∀ i, (cs i).still)
    (hp : ∀ x ∈ xs, ∀ dx, R dx x → PCall Try.prog fid (dx :: (List.range m).map cs) fun _ _ r => r = .lit (.bool (pr x))) :
    PCall Try.prog 157 [d, .fn fid m cs] fun _ _ r => r = .lit (.int .i64 (Md.idx pr xs)) := by
  have hlen := h.lenT
  refine pcall_intro_v Try.func157 rfl (by decide) rfl (by decide) (by rw [Try.ntmps157]; simp) fun w0 M n0 => ivc_sound ?_; simp -dsimp only [Try.f157, go_sem, Nat.reduceLT, Nat.reduceEqDiff, Nat.reduceAdd, Nat.reduceMul, Nat.reduceBEq, beq_self_eq_true, Nat.reduceLeDiff, Nat.le_refl, hlen]
  refine iwp_forK xs.length [0, 1, 7] (fun i s => s 8 = .lit (.int .i64 i) ∧ ∀ j (hj : j < i) (hj' : j < xs.length), pr xs[j] = false) 0 (Nat.zero_le _) ⟨by simp -dsimp only [go_sem, Nat.reduceLT, Nat.reduceEqDiff, Nat.reduceAdd, Nat.reduceMul, Nat.reduceBEq, beq_self_eq_true, Nat.reduceLeDiff, Nat.le_refl]; rfl, fun j hj => absurd hj (by omega)⟩ ?_
  rintro i n' s hi hn hk ⟨h8, hall⟩
  refine ivc_sound ?_
  by_cases hlt : i < xs.length
  · obtain ⟨t, zb, f, rfl, hst, hf⟩ := h.sl hlt
    have hfi := hf i hlt
    obtain ⟨e1, e2, e3, e4⟩ := hR _ _ hfi
    have hw := i64_succ (i := i) (by have := h.short; omega)
    simp -dsimp only [go_sem, Nat.reduceLT, Nat.reduceEqDiff, Nat.reduceAdd, Nat.reduceMul, Nat.reduceBEq, beq_self_eq_true, Nat.reduceLeDiff, Nat.le_refl] at hk
    simp -dsimp only [go_sem, Nat.reduceLT, Nat.reduceEqDiff, Nat.reduceAdd, Nat.reduceMul, Nat.reduceBEq, beq_self_eq_true, Nat.reduceLeDiff, Nat.le_refl, hk, h8, hlt, e1, e2, e3, hw]
    refine xcall_v (hp _ (List.getElem_mem hlt) (f i) hfi) (by simp -dsimp only [go_sem, Nat.reduceLT, Nat.reduceEqDiff, Nat.reduceAdd, Nat.reduceMul, Nat.reduceBEq, beq_self_eq_true, Nat.reduceLeDiff, Nat.le_refl, hk, rl_still, hcs, e4]) (fun _ => trivial) fun n1 hn1 => ?_
    simp -dsimp only [go_sem, Nat.reduceLT, Nat.reduceEqDiff, Nat.reduceAdd, Nat.reduceMul, Nat.reduceBEq, beq_self_eq_true, Nat.reduceLeDiff, Nat.le_refl, hk, h8, hlt, hw]
    refine ⟨fun h1 => ?_, fun h1 => into_k (by omega) (by simp -dsimp only [go_sem, Nat.reduceLT, Nat.reduceEqDiff, Nat.reduceAdd, Nat.reduceMul, Nat.reduceBEq, beq_self_eq_true, Nat.reduceLeDiff, Nat.le_refl, hk]) ⟨by simp -dsimp only [go_sem, Nat.reduceLT, Nat.reduceEqDiff, Nat.reduceAdd, Nat.reduceMul, Nat.reduceBEq, beq_self_eq_true, Nat.reduceLeDiff, Nat.le_refl], fun j hj hj' => ?_⟩⟩
    · rw [Md.idx_at hlt h1 hall]
    · rcases Nat.lt_or_ge j i with h2 | h2
      · exact hall j h2 hj'
      · obtain rfl : j = i := by omega
        exact h1
  · simp -dsimp only [go_sem, Nat.reduceLT, Nat.reduceEqDiff, Nat.reduceAdd, Nat.reduceMul, Nat.reduceBEq, beq_self_eq_true, Nat.reduceLeDiff, Nat.le_refl] at hk
    simp -dsimp only [go_sem, Nat.reduceLT, Nat.reduceEqDiff, Nat.reduceAdd, Nat.reduceMul, Nat.reduceBEq, beq_self_eq_true, Nat.reduceLeDiff, Nat.le_refl, hk, h8, hlt]
    rw [Md.idx_none fun j hj => hall j (by omega) hj]
theorem indexFunc_Live {α : Type} {R : D → α → Prop} (hR : Shp R 3 true) (xs : List α) (d : D) (h : IsL 3 R d xs) (fid m : Nat) (cs : Nat → D) (pr : α → Bool) (hcs : ∀ i, (cs i).still)
    (hp : ∀ x ∈ xs, ∀ dx, R dx x → PCall Try.prog fid (dx :: (List.range m).map cs) fun _ _ r => r = .lit (.bool (pr x))) :
    PCall Try.prog 258 [d, .fn fid m cs] fun _ _ r => r = .lit (.int .i64 (Md.idx pr xs)) := by
  have hlen := h.lenT
  refine pcall_intro_v Try.func258 rfl (by decide) rfl (by decide) (by rw [Try.ntmps258]; simp) fun w0 M n0 => ivc_sound ?_; simp -dsimp only [Try.f258, go_sem, Nat.reduceLT, Nat.reduceEqDiff, Nat.reduceAdd, Nat.reduceMul, Nat.reduceBEq, beq_self_eq_true, Nat.reduceLeDiff, Nat.le_refl, hlen]
  refine iwp_forK xs.length [0, 1, 7] (fun i s => s 8 = .lit (.int .i64 i) ∧ ∀ j (hj : j < i) (hj' : j < xs.length), pr xs[j] = false) 0 (Nat.zero_le _) ⟨by simp -dsimp only [go_sem, Nat.reduceLT, Nat.reduceEqDiff, Nat.reduceAdd, Nat.reduceMul, Nat.reduceBEq, beq_self_eq_true, Nat.reduceLeDiff, Nat.le_refl]; rfl, fun j hj => absurd hj (by omega)⟩ ?_
  rintro i n' s hi hn hk ⟨h8, hall⟩
  refine ivc_sound ?_
  by_cases hlt : i < xs.length
  · obtain ⟨t, zb, f, rfl, hst, hf⟩ := h.sl hlt
    have hfi := hf i hlt
    obtain ⟨e1, e2, e3, e4⟩ := hR _ _ hfi
    have hw := i64_succ (i := i) (by have := h.short; omega)
    simp -dsimp only [go_sem, Nat.reduceLT, Nat.reduceEqDiff, Nat.reduceAdd, Nat.reduceMul, Nat.reduceBEq, beq_self_eq_true, Nat.reduceLeDiff, Nat.le_refl] at hk
    simp -dsimp only [go_sem, Nat.reduceLT, Nat.reduceEqDiff, Nat.reduceAdd, Nat.reduceMul, Nat.reduceBEq, beq_self_eq_true, Nat.reduceLeDiff, Nat.le_refl, hk, h8, hlt, e1, e2, e3, hw]
    refine xcall_v (hp _ (List.getElem_mem hlt) (f i) hfi) (by simp -dsimp only [go_sem, Nat.reduceLT, Nat.reduceEqDiff, Nat.reduceAdd, Nat.reduceMul, Nat.reduceBEq, beq_self_eq_true, Nat.reduceLeDiff, Nat.le_refl, hk, rl_still, hcs, e4]) (fun _ => trivial) fun n1 hn1 => ?_
    simp -dsimp only [go_sem, Nat.reduceLT, Nat.reduceEqDiff, Nat.reduceAdd, Nat.reduceMul, Nat.reduceBEq, beq_self_eq_true, Nat.reduceLeDiff, Nat.le_refl, hk, h8, hlt, hw]
    refine ⟨fun h1 => ?_, fun h1 => into_k (by omega) (by simp -dsimp only [go_sem, Nat.reduceLT, Nat.reduceEqDiff, Nat.reduceAdd, Nat.reduceMul, Nat.reduceBEq, beq_self_eq_true, Nat.reduceLeDiff, Nat.le_refl, hk]) ⟨by simp -dsimp only [go_sem, Nat.reduceLT, Nat.reduceEqDiff, Nat.reduceAdd, Nat.reduceMul, Nat.reduceBEq, beq_self_eq_true, Nat.reduceLeDiff, Nat.le_refl], fun j hj hj' => ?_⟩⟩
    · rw [Md.idx_at hlt h1 hall]
    · rcases Nat.lt_or_ge j i with h2 | h2
      · exact hall j h2 hj'
      · obtain rfl : j = i := by omega
        exact h1
  · simp -dsimp only [go_sem, Nat.reduceLT, Nat.reduceEqDiff, Nat.reduceAdd, Nat.reduceMul, Nat.reduceBEq, beq_self_eq_true, Nat.reduceLeDiff, Nat.le_refl] at hk
    simp -dsimp only [go_sem, Nat.reduceLT, Nat.reduceEqDiff, Nat.reduceAdd, Nat.reduceMul, Nat.reduceBEq, beq_self_eq_true, Nat.reduceLeDiff, Nat.le_refl, hk, h8, hlt]
    rw [Md.idx_none fun j hj => hall j (by omega) hj]
end Go.Proofs.Ytjaddgkhlmallaa.IM
