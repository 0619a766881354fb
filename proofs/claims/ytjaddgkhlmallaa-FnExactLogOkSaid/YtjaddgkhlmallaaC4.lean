/- Contracts: pages, free slots, seats. -/
import Derived.Test.YtjaddgkhlmallaaC3
import Derived.Test.YtjaddgkhlmallaaIm23
namespace Go.Proofs.Ytjaddgkhlmallaa.IM
open Go Go.Proofs
set_option linter.unusedVariables false
set_option linter.unusedSimpArgs false
set_option maxHeartbeats 2000000
set_option maxRecDepth 20000

theorem specPageOk_p (d : D) (p : Md.Page) (h : IsPage d p) : PCall Try.prog 38 [d] fun _ _ r => r = .lit (.bool (Md.pageOk p)) := by
  obtain ⟨f, rfl, hst, h0, hl, g, hg, hgs, h1⟩ := h
  have h0 : f 0 = _ := h0
  refine pcall_intro_v Try.func38 rfl (by decide) rfl (by decide) (by rw [Try.ntmps38]; simp) fun w0 M n0 => ivc_sound ?_; simp -dsimp only [Try.f38, go_sem, Nat.reduceLT, Nat.reduceEqDiff, Nat.reduceAdd, Nat.reduceMul, Nat.reduceBEq, beq_self_eq_true, Nat.reduceLeDiff, Nat.le_refl, h0, hg]
  intro g1 b1 hb1
  refine iwp_forK 4 [1] (fun i s => s 3 = .lit (.int .i64 i) ∧ Md.AllB Md.slotOk p.slots i true) 0 (Nat.zero_le _) ⟨by simp -dsimp only [go_sem, Nat.reduceLT, Nat.reduceEqDiff, Nat.reduceAdd, Nat.reduceMul, Nat.reduceBEq, beq_self_eq_true, Nat.reduceLeDiff, Nat.le_refl]; rfl, Md.allB_zero _ _ _⟩ ?_
  rintro i n' s hi hn hk ⟨h3, hall⟩
  refine ivc_sound ?_
  simp -dsimp only [go_sem, Nat.reduceLT, Nat.reduceEqDiff, Nat.reduceAdd, Nat.reduceMul, Nat.reduceBEq, beq_self_eq_true, Nat.reduceLeDiff, Nat.le_refl] at hk
  by_cases hlt : i < 4
  · have hc : (i : Int) < 4 := by omega
    have hlt' : i < p.slots.length := by omega
    have hfi := h1 i hlt'
    have q := shp_slot _ _ hfi
    have e1 := q.1
    have e2 := q.2.1
    have e3 := q.2.2.1
    have e4 := q.2.2.2
    have hw := i64_succ (i := i) (by omega)
    simp -dsimp only [go_sem, Nat.reduceLT, Nat.reduceEqDiff, Nat.reduceAdd, Nat.reduceMul, Nat.reduceBEq, beq_self_eq_true, Nat.reduceLeDiff, Nat.le_refl, hk, h3, hlt, hc, hw, hg, e1, e2, e3]
    refine xcall_v (l3Slot_p _ _ hfi) (by simp -dsimp only [go_sem, Nat.reduceLT, Nat.reduceEqDiff, Nat.reduceAdd, Nat.reduceMul, Nat.reduceBEq, beq_self_eq_true, Nat.reduceLeDiff, Nat.le_refl, rl_still, e4]) (fun _ => trivial) fun n1 hn1 => ?_
    simp -dsimp only [go_sem, Nat.reduceLT, Nat.reduceEqDiff, Nat.reduceAdd, Nat.reduceMul, Nat.reduceBEq, beq_self_eq_true, Nat.reduceLeDiff, Nat.le_refl, hk, h3, hlt, hc, hw]
    refine ⟨fun hb => ?_, fun hb => into_k (by omega) (by simp -dsimp only [go_sem, Nat.reduceLT, Nat.reduceEqDiff, Nat.reduceAdd, Nat.reduceMul, Nat.reduceBEq, beq_self_eq_true, Nat.reduceLeDiff, Nat.le_refl, hk]) ⟨by simp -dsimp only [go_sem, Nat.reduceLT, Nat.reduceEqDiff, Nat.reduceAdd, Nat.reduceMul, Nat.reduceBEq, beq_self_eq_true, Nat.reduceLeDiff, Nat.le_refl], hall.succ hlt' (by simpa using hb)⟩⟩
    have : Md.slotsOk p.slots = false := Md.not_all hlt' (by simpa using hb)
    simp [Md.pageOk, this]
  · have hc : ¬ (i : Int) < 4 := by omega
    simp -dsimp only [go_sem, Nat.reduceLT, Nat.reduceEqDiff, Nat.reduceAdd, Nat.reduceMul, Nat.reduceBEq, beq_self_eq_true, Nat.reduceLeDiff, Nat.le_refl, hk, h3, hlt, hc, h0]
    refine xcall_v (l1In_p _ _ _) (by simp -dsimp only [go_sem, Nat.reduceLT, Nat.reduceEqDiff, Nat.reduceAdd, Nat.reduceMul, Nat.reduceBEq, beq_self_eq_true, Nat.reduceLeDiff, Nat.le_refl, h0]; rfl) (fun _ => trivial) fun n1 hn1 => ?_
    simp -dsimp only [go_sem, Nat.reduceLT, Nat.reduceEqDiff, Nat.reduceAdd, Nat.reduceMul, Nat.reduceBEq, beq_self_eq_true, Nat.reduceLeDiff, Nat.le_refl, h0]
    have : Md.slotsOk p.slots = true := hall.all (by omega)
    simp [Md.pageOk, this]
theorem specFreeSlot_p (d : D) (p : Md.Page) (h : IsPage d p) : PCall Try.prog 34 [d] fun _ _ r => r = .lit (.int .i64 (Md.freeSlot p)) := by
  obtain ⟨f, rfl, hst, h0, hl, g, hg, hgs, h1⟩ := h
  refine pcall_intro_v Try.func34 rfl (by decide) rfl (by decide) (by rw [Try.ntmps34]; simp) fun w0 M n0 => ivc_sound ?_; simp -dsimp only [Try.f34, go_sem, Nat.reduceLT, Nat.reduceEqDiff, Nat.reduceAdd, Nat.reduceMul, Nat.reduceBEq, beq_self_eq_true, Nat.reduceLeDiff, Nat.le_refl, hg]
  intro g1 b1 hb1
  refine iwp_forK 4 [1] (fun i s => s 3 = .lit (.int .i64 i) ∧ ∀ j (hj : j < i) (hj' : j < p.slots.length), (!p.slots[j].has) = false) 0 (Nat.zero_le _) ⟨by simp -dsimp only [go_sem, Nat.reduceLT, Nat.reduceEqDiff, Nat.reduceAdd, Nat.reduceMul, Nat.reduceBEq, beq_self_eq_true, Nat.reduceLeDiff, Nat.le_refl]; rfl, fun j hj => absurd hj (by omega)⟩ ?_
  rintro i n' s hi hn hk ⟨h3, hall⟩
  refine ivc_sound ?_
  simp -dsimp only [go_sem, Nat.reduceLT, Nat.reduceEqDiff, Nat.reduceAdd, Nat.reduceMul, Nat.reduceBEq, beq_self_eq_true, Nat.reduceLeDiff, Nat.le_refl] at hk
  by_cases hlt : i < 4
  · have hc : (i : Int) < 4 := by omega
    have hlt' : i < p.slots.length := by omega
    obtain ⟨k, hkk, hks, k0, k1⟩ := h1 i hlt'
    have k0 : k 0 = _ := k0
    have hw := i64_succ (i := i) (by omega)
    simp -dsimp only [go_sem, Nat.reduceLT, Nat.reduceEqDiff, Nat.reduceAdd, Nat.reduceMul, Nat.reduceBEq, beq_self_eq_true, Nat.reduceLeDiff, Nat.le_refl, hk, h3, hlt, hc, hw, hg, hkk, k0]
    refine ⟨fun hb => ?_, fun hb => into_k (by omega) (by simp -dsimp only [go_sem, Nat.reduceLT, Nat.reduceEqDiff, Nat.reduceAdd, Nat.reduceMul, Nat.reduceBEq, beq_self_eq_true, Nat.reduceLeDiff, Nat.le_refl, hk]) ⟨by simp -dsimp only [go_sem, Nat.reduceLT, Nat.reduceEqDiff, Nat.reduceAdd, Nat.reduceMul, Nat.reduceBEq, beq_self_eq_true, Nat.reduceLeDiff, Nat.le_refl], fun j hj hj' => ?_⟩⟩
    · rw [show Md.freeSlot p = (i : Int) from Md.idx_at hlt' hb hall]
    · rcases Nat.lt_or_ge j i with h2 | h2
      · exact hall j h2 hj'
      · obtain rfl : j = i := by omega
        exact hb
  · have hc : ¬ (i : Int) < 4 := by omega
    simp -dsimp only [go_sem, Nat.reduceLT, Nat.reduceEqDiff, Nat.reduceAdd, Nat.reduceMul, Nat.reduceBEq, beq_self_eq_true, Nat.reduceLeDiff, Nat.le_refl, hk, h3, hlt, hc]
    rw [show Md.freeSlot p = -1 from Md.idx_none fun j hj => hall j (by omega) hj]
theorem freeSlot1_p (d : D) (s : Md.Slot) (h : IsSlot d s) : PCall Try.prog 139 [d] fun _ _ r => r = .lit (.bool (!s.has)) := by
  obtain ⟨k, hkk, hks, k0, k1⟩ := h
  have k0 : k 0 = _ := k0
  refine pcall_intro_v Try.func139 rfl (by decide) rfl (by decide) (by rw [Try.ntmps139]; simp) fun w0 M n0 => ivc_sound ?_; simp -dsimp only [Try.f139, go_sem, Nat.reduceLT, Nat.reduceEqDiff, Nat.reduceAdd, Nat.reduceMul, Nat.reduceBEq, beq_self_eq_true, Nat.reduceLeDiff, Nat.le_refl, hkk, k0]
  repeat' (first | refine ⟨?_, ?_⟩ | with_reducible intro _)
theorem freeSlot_p (d : D) (p : Md.Page) (h : IsPage d p) : PCall Try.prog 36 [d] fun _ _ r => r = .lit (.int .i64 (Md.freeSlot p)) := by
  obtain ⟨f, rfl, hst, h0, hl, g, hg, hgs, h1⟩ := h
  refine pcall_intro_v Try.func36 rfl (by decide) rfl (by decide) (by rw [Try.ntmps36]; simp) fun w0 M n0 => ivc_sound ?_; simp -dsimp only [Try.f36, go_sem, Nat.reduceLT, Nat.reduceEqDiff, Nat.reduceAdd, Nat.reduceMul, Nat.reduceBEq, beq_self_eq_true, Nat.reduceLeDiff, Nat.le_refl, hg]
  repeat' (first | refine ⟨?_, ?_⟩ | with_reducible intro _)
  have hs : ∀ b, IsL 4 IsSlot (.sl b false 4 4 g) p.slots := fun b => .inr ⟨b, false, g, by rw [hl], hgs, by omega, h1⟩
  refine xcall_v (indexFunc_Slot shp_slot p.slots _ (hs _) 139 0 (fun _ => .any) (fun s => !s.has) (fun _ => trivial) fun x _ dx hx => freeSlot1_p dx x hx)
    (by simp -dsimp only [go_sem, Nat.reduceLT, Nat.reduceEqDiff, Nat.reduceAdd, Nat.reduceMul, Nat.reduceBEq, beq_self_eq_true, Nat.reduceLeDiff, Nat.le_refl, rl_fn, hg, rl_still, hgs]; rfl) (fun _ => trivial) fun n2 hn2 => ?_
  simp -dsimp only [go_sem, Nat.reduceLT, Nat.reduceEqDiff, Nat.reduceAdd, Nat.reduceMul, Nat.reduceBEq, beq_self_eq_true, Nat.reduceLeDiff, Nat.le_refl]
  rfl
theorem specSeated_p (d : D) (p : Md.Pool) (no : Int) (h : IsPool d p) : PCall Try.prog 50 [d, .lit (.int .i64 no)] fun _ _ r => r = .lit (.int .i64 (Md.seated p no)) := by
  obtain ⟨f, rfl, hst, h0, h1⟩ := h
  refine pcall_intro_v Try.func50 rfl (by decide) rfl (by decide) (by rw [Try.ntmps50]; simp) fun w0 M n0 => ivc_sound ?_; simp -dsimp only [Try.f50, go_sem, Nat.reduceLT, Nat.reduceEqDiff, Nat.reduceAdd, Nat.reduceMul, Nat.reduceBEq, beq_self_eq_true, Nat.reduceLeDiff, Nat.le_refl, h0.size, h0.isNode, h0.plain, h0.lenT]
  intro g1 b1 hb1
  refine iwp_forK p.seats.length [1, 2] (fun i s => s 5 = .lit (.int .i64 i) ∧ ∀ j (hj : j < i) (hj' : j < p.seats.length), (p.seats[j].no == no) = false) 0 (Nat.zero_le _) ⟨by simp -dsimp only [go_sem, Nat.reduceLT, Nat.reduceEqDiff, Nat.reduceAdd, Nat.reduceMul, Nat.reduceBEq, beq_self_eq_true, Nat.reduceLeDiff, Nat.le_refl]; rfl, fun j hj => absurd hj (by omega)⟩ ?_
  rintro i n' s hi hn hk ⟨h3, hall⟩
  refine ivc_sound ?_
  simp -dsimp only [go_sem, Nat.reduceLT, Nat.reduceEqDiff, Nat.reduceAdd, Nat.reduceMul, Nat.reduceBEq, beq_self_eq_true, Nat.reduceLeDiff, Nat.le_refl] at hk
  by_cases hlt : i < p.seats.length
  · obtain ⟨t, zb, fi, hfe, hst', hf'⟩ := h0.sl hlt
    obtain ⟨k, hkk, hks, k0, k1, k2, k3⟩ := hf' i hlt
    have k0 : k 0 = _ := k0
    have hw := i64_succ (i := i) (by have := h0.short; omega)
    have hl0 := h0.lenT
    rw [hfe] at hl0
    simp -dsimp only [go_sem, Nat.reduceLT, Nat.reduceEqDiff, Nat.reduceAdd, Nat.reduceMul, Nat.reduceBEq, beq_self_eq_true, Nat.reduceLeDiff, Nat.le_refl, hk, h3, hlt, hw, hfe, hl0, hkk, k0]
    refine ⟨fun hb => ?_, fun hb => into_k (by omega) (by simp -dsimp only [go_sem, Nat.reduceLT, Nat.reduceEqDiff, Nat.reduceAdd, Nat.reduceMul, Nat.reduceBEq, beq_self_eq_true, Nat.reduceLeDiff, Nat.le_refl, hk]) ⟨by simp -dsimp only [go_sem, Nat.reduceLT, Nat.reduceEqDiff, Nat.reduceAdd, Nat.reduceMul, Nat.reduceBEq, beq_self_eq_true, Nat.reduceLeDiff, Nat.le_refl], fun j hj hj' => ?_⟩⟩
    · rw [show Md.seated p no = (i : Int) from Md.idx_at hlt hb hall]
    · rcases Nat.lt_or_ge j i with h2 | h2
      · exact hall j h2 hj'
      · obtain rfl : j = i := by omega
        exact hb
  · simp -dsimp only [go_sem, Nat.reduceLT, Nat.reduceEqDiff, Nat.reduceAdd, Nat.reduceMul, Nat.reduceBEq, beq_self_eq_true, Nat.reduceLeDiff, Nat.le_refl, hk, h3, hlt, h0.size, h0.isNode, h0.plain, h0.lenT]
    rw [show Md.seated p no = -1 from Md.idx_none fun j hj => hall j (by omega) hj]
theorem seated1_p (d : D) (s : Md.Seat) (no : Int) (h : IsSeat d s) : PCall Try.prog 158 [d, .cptr (.lit (.int .i64 no))] fun _ _ r => r = .lit (.bool (s.no == no)) := by
  obtain ⟨k, hkk, hks, k0, k1, k2, k3⟩ := h
  have k0 : k 0 = _ := k0
  refine pcall_intro_v Try.func158 rfl (by decide) rfl (by decide) (by rw [Try.ntmps158]; simp) fun w0 M n0 => ivc_sound ?_; simp -dsimp only [Try.f158, go_sem, Nat.reduceLT, Nat.reduceEqDiff, Nat.reduceAdd, Nat.reduceMul, Nat.reduceBEq, beq_self_eq_true, Nat.reduceLeDiff, Nat.le_refl, hkk, k0]
  repeat' (first | refine ⟨?_, ?_⟩ | with_reducible intro _)
theorem seated_p (d : D) (p : Md.Pool) (no : Int) (h : IsPool d p) : PCall Try.prog 52 [d, .lit (.int .i64 no)] fun _ _ r => r = .lit (.int .i64 (Md.seated p no)) := by
  obtain ⟨f, rfl, hst, h0, h1⟩ := h
  refine pcall_intro_v Try.func52 rfl (by decide) rfl (by decide) (by rw [Try.ntmps52]; simp) fun w0 M n0 => ivc_sound ?_; simp -dsimp only [Try.f52, go_sem, Nat.reduceLT, Nat.reduceEqDiff, Nat.reduceAdd, Nat.reduceMul, Nat.reduceBEq, beq_self_eq_true, Nat.reduceLeDiff, Nat.le_refl, h0.size, h0.isNode, h0.plain]
  intro g1 b1 hb1 g2 b2 hb2
  refine xcall_v (indexFunc_Seat shp_seat p.seats _ h0 158 1 (capD (.cptr (.lit (.int .i64 no)))) (fun s => s.no == no) (still_cap trivial) fun x _ dx hx => seated1_p dx x no hx)
    (by simp -dsimp only [go_sem, Nat.reduceLT, Nat.reduceEqDiff, Nat.reduceAdd, Nat.reduceMul, Nat.reduceBEq, beq_self_eq_true, Nat.reduceLeDiff, Nat.le_refl, rl_cap, rl_still, h0.still]) (fun _ => trivial) fun n2 hn2 => ?_
  simp -dsimp only [go_sem, Nat.reduceLT, Nat.reduceEqDiff, Nat.reduceAdd, Nat.reduceMul, Nat.reduceBEq, beq_self_eq_true, Nat.reduceLeDiff, Nat.le_refl]
  rfl
end Go.Proofs.Ytjaddgkhlmallaa.IM
