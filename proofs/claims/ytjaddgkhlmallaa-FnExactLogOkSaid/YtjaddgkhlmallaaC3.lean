/- Contracts of what is asked of objects, slots and pages. -/
import Derived.Test.YtjaddgkhlmallaaC2
namespace Go.Proofs.Ytjaddgkhlmallaa.IM
open Go Go.Proofs
set_option linter.unusedVariables false
set_option linter.unusedSimpArgs false
set_option maxHeartbeats 2000000
set_option maxRecDepth 20000

theorem l1In_p (a b c : Int) : PCall Try.prog 142 [.lit (.int .i64 a), .lit (.int .i64 b), .lit (.int .i64 c)] fun _ _ r => r = .lit (.bool (Md.inB a b c)) := by
  refine pcall_intro_v Try.func142 rfl (by decide) rfl (by decide) (by rw [Try.ntmps142]; simp) fun w0 M n0 => ivc_sound ?_; simp -dsimp only [Try.f142, go_sem, Nat.reduceLT, Nat.reduceEqDiff, Nat.reduceAdd, Nat.reduceMul, Nat.reduceBEq, beq_self_eq_true, Nat.reduceLeDiff, Nat.le_refl]
  refine ⟨fun h1 => ?_, fun h1 => ?_⟩
  · simp [Md.inB, h1]
  · simp [Md.inB, h1]

theorem objOk1_p (a : Int) : PCall Try.prog 228 [.lit (.int .i64 a)] fun _ _ r => r = .lit (.bool (!Md.inB a (-1000000) 1000000)) := by
  refine pcall_intro_v Try.func228 rfl (by decide) rfl (by decide) (by rw [Try.ntmps228]; simp) fun w0 M n0 => ivc_sound ?_; simp -dsimp only [Try.f228, go_sem, Nat.reduceLT, Nat.reduceEqDiff, Nat.reduceAdd, Nat.reduceMul, Nat.reduceBEq, beq_self_eq_true, Nat.reduceLeDiff, Nat.le_refl]
  refine xcall_v (in_p _ _ _) (by simp -dsimp only [go_sem, Nat.reduceLT, Nat.reduceEqDiff, Nat.reduceAdd, Nat.reduceMul, Nat.reduceBEq, beq_self_eq_true, Nat.reduceLeDiff, Nat.le_refl]; rfl) (fun _ => trivial) fun n1 hn1 => ?_
  simp -dsimp only [go_sem, Nat.reduceLT, Nat.reduceEqDiff, Nat.reduceAdd, Nat.reduceMul, Nat.reduceBEq, beq_self_eq_true, Nat.reduceLeDiff, Nat.le_refl]

theorem objOk2_p (a : Int) : PCall Try.prog 229 [.lit (.int .i64 a)] fun _ _ r => r = .lit (.bool (!Md.inB a 0 31)) := by
  refine pcall_intro_v Try.func229 rfl (by decide) rfl (by decide) (by rw [Try.ntmps229]; simp) fun w0 M n0 => ivc_sound ?_; simp -dsimp only [Try.f229, go_sem, Nat.reduceLT, Nat.reduceEqDiff, Nat.reduceAdd, Nat.reduceMul, Nat.reduceBEq, beq_self_eq_true, Nat.reduceLeDiff, Nat.le_refl]
  refine xcall_v (in_p _ _ _) (by simp -dsimp only [go_sem, Nat.reduceLT, Nat.reduceEqDiff, Nat.reduceAdd, Nat.reduceMul, Nat.reduceBEq, beq_self_eq_true, Nat.reduceLeDiff, Nat.le_refl]; rfl) (fun _ => trivial) fun n1 hn1 => ?_
  simp -dsimp only [go_sem, Nat.reduceLT, Nat.reduceEqDiff, Nat.reduceAdd, Nat.reduceMul, Nat.reduceBEq, beq_self_eq_true, Nat.reduceLeDiff, Nat.le_refl]

theorem gt5 (n : Nat) : (5 < (n : Int)) = ¬ n ≤ 5 := by apply propext; omega

theorem objOk_p (d : D) (o : Md.Obj) (h : IsObj d o) : PCall Try.prog 152 [d] fun _ _ r => r = .lit (.bool (Md.objOk o)) := by
  obtain ⟨f, rfl, hst, h0, h1, h2⟩ := h
  have h0 : f 0 = _ := h0
  refine pcall_intro_v Try.func152 rfl (by decide) rfl (by decide) (by rw [Try.ntmps152]; simp) fun w0 M n0 => ivc_sound ?_; simp -dsimp only [Try.f152, go_sem, Nat.reduceLT, Nat.reduceEqDiff, Nat.reduceAdd, Nat.reduceMul, Nat.reduceBEq, beq_self_eq_true, Nat.reduceLeDiff, Nat.le_refl, h0, h1.size, h1.isNode, h1.lenT, h2.size, h2.isNode, h2.lenT]
  intro g b hb
  refine xcall_v (in_p _ _ _) (by simp -dsimp only [go_sem, Nat.reduceLT, Nat.reduceEqDiff, Nat.reduceAdd, Nat.reduceMul, Nat.reduceBEq, beq_self_eq_true, Nat.reduceLeDiff, Nat.le_refl, h0]; rfl) (fun _ => trivial) fun n1 hn1 => ?_
  simp -dsimp only [go_sem, Nat.reduceLT, Nat.reduceEqDiff, Nat.reduceAdd, Nat.reduceMul, Nat.reduceBEq, beq_self_eq_true, Nat.reduceLeDiff, Nat.le_refl, h1.size, h1.isNode, h1.lenT, h2.size, h2.isNode, h2.lenT, gt5]
  repeat' (first | refine ⟨?_, ?_⟩ | with_reducible intro _)
  · first | (simp [Md.objOk, *]; done) | (simp_all [Md.objOk]; done) | (simp_all [Md.objOk]; omega)
  · refine xcall_v (containsFunc_int shp_int o.ints (f 1) h1 228 0 (fun _ => .any) (fun n => !Md.inB n (-1000000) 1000000) (fun _ => trivial) fun x _ dx hx => by rw [hx]; exact objOk1_p x) (by simp -dsimp only [go_sem, Nat.reduceLT, Nat.reduceEqDiff, Nat.reduceAdd, Nat.reduceMul, Nat.reduceBEq, beq_self_eq_true, Nat.reduceLeDiff, Nat.le_refl, h0, rl_fn, rl_still, h1.still]) (fun _ => trivial) fun n2 hn2 => ?_
    simp -dsimp only [go_sem, Nat.reduceLT, Nat.reduceEqDiff, Nat.reduceAdd, Nat.reduceMul, Nat.reduceBEq, beq_self_eq_true, Nat.reduceLeDiff, Nat.le_refl, h1.size, h1.isNode, h1.lenT, h2.size, h2.isNode, h2.lenT, h2.plain, Md.any_ints]
    refine ⟨fun h3 => ?_, fun h3 => ?_⟩
    · refine xcall_v (containsFunc_int shp_int o.refs (f 2) h2 229 0 (fun _ => .any) (fun n => !Md.inB n 0 31) (fun _ => trivial) fun x _ dx hx => by rw [hx]; exact objOk2_p x) (by simp -dsimp only [go_sem, Nat.reduceLT, Nat.reduceEqDiff, Nat.reduceAdd, Nat.reduceMul, Nat.reduceBEq, beq_self_eq_true, Nat.reduceLeDiff, Nat.le_refl, h0, rl_fn, rl_still, h2.still]) (fun _ => trivial) fun n2 hn2 => ?_
      simp -dsimp only [go_sem, Nat.reduceLT, Nat.reduceEqDiff, Nat.reduceAdd, Nat.reduceMul, Nat.reduceBEq, beq_self_eq_true, Nat.reduceLeDiff, Nat.le_refl, Md.any_refs]
      first | (simp [Md.objOk, *]; done) | (simp_all [Md.objOk]; done) | (simp_all [Md.objOk]; omega)
    · first | (simp [Md.objOk, *]; done) | (simp_all [Md.objOk]; done) | (simp_all [Md.objOk]; omega)
  · first | (simp [Md.objOk, *]; done) | (simp_all [Md.objOk]; done) | (simp_all [Md.objOk]; omega)
  · first | (simp [Md.objOk, *]; done) | (simp_all [Md.objOk]; done) | (simp_all [Md.objOk]; omega)

theorem l1ObjOk_p (d : D) (o : Md.Obj) (h : IsObj d o) : PCall Try.prog 148 [d] fun _ _ r => r = .lit (.bool (Md.objOk o)) := by
  obtain ⟨f, rfl, hst, h0, h1, h2⟩ := h
  have h0 : f 0 = _ := h0
  refine pcall_intro_v Try.func148 rfl (by decide) rfl (by decide) (by rw [Try.ntmps148]; simp) fun w0 M n0 => ivc_sound ?_; simp -dsimp only [Try.f148, go_sem, Nat.reduceLT, Nat.reduceEqDiff, Nat.reduceAdd, Nat.reduceMul, Nat.reduceBEq, beq_self_eq_true, Nat.reduceLeDiff, Nat.le_refl, h0, h1.size, h1.isNode, h1.lenT, h2.size, h2.isNode, h2.lenT]
  intro g b hb
  refine xcall_v (l1In_p _ _ _) (by simp -dsimp only [go_sem, Nat.reduceLT, Nat.reduceEqDiff, Nat.reduceAdd, Nat.reduceMul, Nat.reduceBEq, beq_self_eq_true, Nat.reduceLeDiff, Nat.le_refl, h0]; rfl) (fun _ => trivial) fun n1 hn1 => ?_
  simp -dsimp only [go_sem, Nat.reduceLT, Nat.reduceEqDiff, Nat.reduceAdd, Nat.reduceMul, Nat.reduceBEq, beq_self_eq_true, Nat.reduceLeDiff, Nat.le_refl, h1.size, h1.isNode, h1.lenT, h2.size, h2.isNode, h2.lenT, gt5]
  repeat' (first | refine ⟨?_, ?_⟩ | with_reducible intro _)
  · first | (simp [Md.objOk, *]; done) | (simp_all [Md.objOk]; done) | (simp_all [Md.objOk]; omega)
  · refine iwp_forK o.ints.length [1] (fun i s => s 3 = .lit (.int .i64 i) ∧ Md.AllB (Md.inB · (-1000000) 1000000) o.ints i true) 0 (Nat.zero_le _) ⟨by simp -dsimp only [go_sem, Nat.reduceLT, Nat.reduceEqDiff, Nat.reduceAdd, Nat.reduceMul, Nat.reduceBEq, beq_self_eq_true, Nat.reduceLeDiff, Nat.le_refl]; rfl, Md.allB_zero _ _ _⟩ ?_
    rintro i n' s hi hn hk ⟨h3, hall⟩
    refine ivc_sound ?_
    simp -dsimp only [go_sem, Nat.reduceLT, Nat.reduceEqDiff, Nat.reduceAdd, Nat.reduceMul, Nat.reduceBEq, beq_self_eq_true, Nat.reduceLeDiff, Nat.le_refl] at hk
    by_cases hlt : i < o.ints.length
    · obtain ⟨t, zb, fi, hd, hst, hf⟩ := h1.sl hlt
      have hfi : fi i = _ := hf i hlt
      have hw := i64_succ (i := i) (by have := h1.short; omega)
      simp -dsimp only [go_sem, Nat.reduceLT, Nat.reduceEqDiff, Nat.reduceAdd, Nat.reduceMul, Nat.reduceBEq, beq_self_eq_true, Nat.reduceLeDiff, Nat.le_refl, hk, h3, hlt, h1.size, h1.isNode, h1.lenT, hd, hfi, hw]
      refine xcall_v (l1In_p _ _ _) (by simp -dsimp only [go_sem, Nat.reduceLT, Nat.reduceEqDiff, Nat.reduceAdd, Nat.reduceMul, Nat.reduceBEq, beq_self_eq_true, Nat.reduceLeDiff, Nat.le_refl]; rfl) (fun _ => trivial) fun n1 hn1 => ?_
      simp -dsimp only [go_sem, Nat.reduceLT, Nat.reduceEqDiff, Nat.reduceAdd, Nat.reduceMul, Nat.reduceBEq, beq_self_eq_true, Nat.reduceLeDiff, Nat.le_refl, hk, h3, hw]
      refine ⟨fun hb => ?_, fun hb => into_k (by omega) (by simp -dsimp only [go_sem, Nat.reduceLT, Nat.reduceEqDiff, Nat.reduceAdd, Nat.reduceMul, Nat.reduceBEq, beq_self_eq_true, Nat.reduceLeDiff, Nat.le_refl, hk]) ⟨by simp -dsimp only [go_sem, Nat.reduceLT, Nat.reduceEqDiff, Nat.reduceAdd, Nat.reduceMul, Nat.reduceBEq, beq_self_eq_true, Nat.reduceLeDiff, Nat.le_refl], hall.succ hlt (by simpa using hb)⟩⟩
      have := Md.not_all (p := (Md.inB · (-1000000) 1000000)) hlt (by simpa using hb)
      simp [Md.objOk, Md.intsOk, this]
    · have hio : Md.intsOk o.ints = true := hall.all hlt
      simp -dsimp only [go_sem, Nat.reduceLT, Nat.reduceEqDiff, Nat.reduceAdd, Nat.reduceMul, Nat.reduceBEq, beq_self_eq_true, Nat.reduceLeDiff, Nat.le_refl, hk, h3, hlt, h1.size, h1.isNode, h1.lenT]
      refine iwp_forK o.refs.length [1] (fun i s => s 4 = .lit (.int .i64 i) ∧ Md.AllB (Md.inB · 0 31) o.refs i true) 0 (Nat.zero_le _) ⟨by simp -dsimp only [go_sem, Nat.reduceLT, Nat.reduceEqDiff, Nat.reduceAdd, Nat.reduceMul, Nat.reduceBEq, beq_self_eq_true, Nat.reduceLeDiff, Nat.le_refl]; rfl, Md.allB_zero _ _ _⟩ ?_
      rintro i n' s' hi hn hk' ⟨h4, hall⟩
      refine ivc_sound ?_
      simp -dsimp only [go_sem, Nat.reduceLT, Nat.reduceEqDiff, Nat.reduceAdd, Nat.reduceMul, Nat.reduceBEq, beq_self_eq_true, Nat.reduceLeDiff, Nat.le_refl, hk] at hk'
      by_cases hlt : i < o.refs.length
      · obtain ⟨t, zb, fi, hd, hst, hf⟩ := h2.sl hlt
        have hfi : fi i = _ := hf i hlt
        have hw := i64_succ (i := i) (by have := h2.short; omega)
        simp -dsimp only [go_sem, Nat.reduceLT, Nat.reduceEqDiff, Nat.reduceAdd, Nat.reduceMul, Nat.reduceBEq, beq_self_eq_true, Nat.reduceLeDiff, Nat.le_refl, hk', h4, hlt, h2.size, h2.isNode, h2.lenT, hd, hfi, hw]
        refine xcall_v (l1In_p _ _ _) (by simp -dsimp only [go_sem, Nat.reduceLT, Nat.reduceEqDiff, Nat.reduceAdd, Nat.reduceMul, Nat.reduceBEq, beq_self_eq_true, Nat.reduceLeDiff, Nat.le_refl]; rfl) (fun _ => trivial) fun n1 hn1 => ?_
        simp -dsimp only [go_sem, Nat.reduceLT, Nat.reduceEqDiff, Nat.reduceAdd, Nat.reduceMul, Nat.reduceBEq, beq_self_eq_true, Nat.reduceLeDiff, Nat.le_refl, hk', h4, hw]
        refine ⟨fun hb => ?_, fun hb => into_k (by omega) (by simp -dsimp only [go_sem, Nat.reduceLT, Nat.reduceEqDiff, Nat.reduceAdd, Nat.reduceMul, Nat.reduceBEq, beq_self_eq_true, Nat.reduceLeDiff, Nat.le_refl, hk', hk]) ⟨by simp -dsimp only [go_sem, Nat.reduceLT, Nat.reduceEqDiff, Nat.reduceAdd, Nat.reduceMul, Nat.reduceBEq, beq_self_eq_true, Nat.reduceLeDiff, Nat.le_refl], hall.succ hlt (by simpa using hb)⟩⟩
        have := Md.not_all (p := (Md.inB · 0 31)) hlt (by simpa using hb)
        simp [Md.objOk, Md.refsOk, this]
      · have hro : Md.refsOk o.refs = true := hall.all hlt
        simp -dsimp only [go_sem, Nat.reduceLT, Nat.reduceEqDiff, Nat.reduceAdd, Nat.reduceMul, Nat.reduceBEq, beq_self_eq_true, Nat.reduceLeDiff, Nat.le_refl, hk', h4, hlt, h2.size, h2.isNode, h2.lenT]
        first | (simp [Md.objOk, *]; done) | (simp_all [Md.objOk]; done) | (simp_all [Md.objOk]; omega)
  · first | (simp [Md.objOk, *]; done) | (simp_all [Md.objOk]; done) | (simp_all [Md.objOk]; omega)
  · first | (simp [Md.objOk, *]; done) | (simp_all [Md.objOk]; done) | (simp_all [Md.objOk]; omega)

theorem noObj_p (d : D) (o : Md.Obj) (h : IsObj d o) : PCall Try.prog 226 [d] fun _ _ r => r = .lit (.bool (Md.noObj o)) := by
  obtain ⟨f, rfl, hst, h0, h1, h2⟩ := h
  have h0 : f 0 = _ := h0
  refine pcall_intro_v Try.func226 rfl (by decide) rfl (by decide) (by rw [Try.ntmps226]; simp) fun w0 M n0 => ivc_sound ?_; simp -dsimp only [Try.f226, go_sem, Nat.reduceLT, Nat.reduceEqDiff, Nat.reduceAdd, Nat.reduceMul, Nat.reduceBEq, beq_self_eq_true, Nat.reduceLeDiff, Nat.le_refl, h0, h1.size, h1.isNode, h1.lenT, h2.size, h2.isNode, h2.lenT]
  repeat' (first | refine ⟨?_, ?_⟩ | with_reducible intro _)
  all_goals first | (simp [Md.noObj, *]; done) | (simp_all [Md.noObj]; done) | (simp_all [Md.noObj]; omega)
theorem slotOk_p (d : D) (s : Md.Slot) (h : IsSlot d s) : PCall Try.prog 146 [d] fun _ _ r => r = .lit (.bool (Md.slotOk s)) := by
  obtain ⟨f, rfl, hst, h0, h1⟩ := h
  have h0 : f 0 = _ := h0
  obtain ⟨e1, e2, e3, e4⟩ := shp_obj _ _ h1
  refine pcall_intro_v Try.func146 rfl (by decide) rfl (by decide) (by rw [Try.ntmps146]; simp) fun w0 M n0 => ivc_sound ?_; simp -dsimp only [Try.f146, go_sem, Nat.reduceLT, Nat.reduceEqDiff, Nat.reduceAdd, Nat.reduceMul, Nat.reduceBEq, beq_self_eq_true, Nat.reduceLeDiff, Nat.le_refl, h0, e1, e2]
  repeat' (first | refine ⟨?_, ?_⟩ | with_reducible intro _)
  · refine xcall_v (objOk_p _ _ h1) (by simp -dsimp only [go_sem, Nat.reduceLT, Nat.reduceEqDiff, Nat.reduceAdd, Nat.reduceMul, Nat.reduceBEq, beq_self_eq_true, Nat.reduceLeDiff, Nat.le_refl, rl_still, e4]) (fun _ => trivial) fun n1 hn1 => ?_
    simp -dsimp only [go_sem, Nat.reduceLT, Nat.reduceEqDiff, Nat.reduceAdd, Nat.reduceMul, Nat.reduceBEq, beq_self_eq_true, Nat.reduceLeDiff, Nat.le_refl]
    first | (simp [Md.slotOk, *]; done) | (simp_all [Md.slotOk]; done) | (simp_all [Md.slotOk]; omega)
  · refine xcall_v (noObj_p _ _ h1) (by simp -dsimp only [go_sem, Nat.reduceLT, Nat.reduceEqDiff, Nat.reduceAdd, Nat.reduceMul, Nat.reduceBEq, beq_self_eq_true, Nat.reduceLeDiff, Nat.le_refl, rl_still, e4]) (fun _ => trivial) fun n1 hn1 => ?_
    simp -dsimp only [go_sem, Nat.reduceLT, Nat.reduceEqDiff, Nat.reduceAdd, Nat.reduceMul, Nat.reduceBEq, beq_self_eq_true, Nat.reduceLeDiff, Nat.le_refl]
    first | (simp [Md.slotOk, *]; done) | (simp_all [Md.slotOk]; done) | (simp_all [Md.slotOk]; omega)
theorem pageOk1_p (d : D) (s : Md.Slot) (h : IsSlot d s) : PCall Try.prog 145 [d] fun _ _ r => r = .lit (.bool (!Md.slotOk s)) := by
  obtain ⟨e1, e2, e3, e4⟩ := shp_slot _ _ h
  refine pcall_intro_v Try.func145 rfl (by decide) rfl (by decide) (by rw [Try.ntmps145]; simp) fun w0 M n0 => ivc_sound ?_; simp -dsimp only [Try.f145, go_sem, Nat.reduceLT, Nat.reduceEqDiff, Nat.reduceAdd, Nat.reduceMul, Nat.reduceBEq, beq_self_eq_true, Nat.reduceLeDiff, Nat.le_refl, e1, e2, e3]
  repeat' (first | refine ⟨?_, ?_⟩ | with_reducible intro _)
  refine xcall_v (slotOk_p _ _ h) (by simp -dsimp only [go_sem, Nat.reduceLT, Nat.reduceEqDiff, Nat.reduceAdd, Nat.reduceMul, Nat.reduceBEq, beq_self_eq_true, Nat.reduceLeDiff, Nat.le_refl, rl_still, e4]) (fun _ => trivial) fun n1 hn1 => ?_
  simp -dsimp only [go_sem, Nat.reduceLT, Nat.reduceEqDiff, Nat.reduceAdd, Nat.reduceMul, Nat.reduceBEq, beq_self_eq_true, Nat.reduceLeDiff, Nat.le_refl]
theorem pageOk_p (d : D) (p : Md.Page) (h : IsPage d p) : PCall Try.prog 39 [d] fun _ _ r => r = .lit (.bool (Md.pageOk p)) := by
  obtain ⟨f, rfl, hst, h0, hl, g, hg, hgs, h1⟩ := h
  have h0 : f 0 = _ := h0
  refine pcall_intro_v Try.func39 rfl (by decide) rfl (by decide) (by rw [Try.ntmps39]; simp) fun w0 M n0 => ivc_sound ?_; simp -dsimp only [Try.f39, go_sem, Nat.reduceLT, Nat.reduceEqDiff, Nat.reduceAdd, Nat.reduceMul, Nat.reduceBEq, beq_self_eq_true, Nat.reduceLeDiff, Nat.le_refl, h0]
  repeat' (first | refine ⟨?_, ?_⟩ | with_reducible intro _)
  refine xcall_v (in_p _ _ _) (by simp -dsimp only [go_sem, Nat.reduceLT, Nat.reduceEqDiff, Nat.reduceAdd, Nat.reduceMul, Nat.reduceBEq, beq_self_eq_true, Nat.reduceLeDiff, Nat.le_refl, h0]; rfl) (fun _ => trivial) fun n1 hn1 => ?_
  simp -dsimp only [go_sem, Nat.reduceLT, Nat.reduceEqDiff, Nat.reduceAdd, Nat.reduceMul, Nat.reduceBEq, beq_self_eq_true, Nat.reduceLeDiff, Nat.le_refl, hg]
  repeat' (first | refine ⟨?_, ?_⟩ | with_reducible intro _)
  · have hs : ∀ b, IsL 4 IsSlot (.sl b false 4 4 g) p.slots := fun b => .inr ⟨b, false, g, by rw [hl], hgs, by omega, h1⟩
    refine xcall_v (containsFunc_Slot shp_slot p.slots _ (hs _) 145 0 (fun _ => .any) (fun s => !Md.slotOk s) (fun _ => trivial) fun x _ dx hx => pageOk1_p dx x hx)
      (by simp -dsimp only [go_sem, Nat.reduceLT, Nat.reduceEqDiff, Nat.reduceAdd, Nat.reduceMul, Nat.reduceBEq, beq_self_eq_true, Nat.reduceLeDiff, Nat.le_refl, rl_fn, hg, rl_still, hgs]; rfl) (fun _ => trivial) fun n2 hn2 => ?_
    simp -dsimp only [go_sem, Nat.reduceLT, Nat.reduceEqDiff, Nat.reduceAdd, Nat.reduceMul, Nat.reduceBEq, beq_self_eq_true, Nat.reduceLeDiff, Nat.le_refl, Md.any_slots]
    first | (simp [Md.pageOk, *]; done) | (simp_all [Md.pageOk]; done) | (simp_all [Md.pageOk]; omega)
  · first | (simp [Md.pageOk, *]; done) | (simp_all [Md.pageOk]; done) | (simp_all [Md.pageOk]; omega)
theorem l3Slot_p (d : D) (s : Md.Slot) (h : IsSlot d s) : PCall Try.prog 141 [d] fun _ _ r => r = .lit (.bool (Md.slotOk s)) := by
  obtain ⟨f, rfl, hst, h0, h1⟩ := h
  have h0 : f 0 = _ := h0
  obtain ⟨e1, e2, e3, e4⟩ := shp_obj _ _ h1
  have h1' := h1
  obtain ⟨k, hk, hks, k0, k1, k2⟩ := h1'
  have k0 : k 0 = _ := k0
  refine pcall_intro_v Try.func141 rfl (by decide) rfl (by decide) (by rw [Try.ntmps141]; simp) fun w0 M n0 => ivc_sound ?_; simp -dsimp only [Try.f141, go_sem, Nat.reduceLT, Nat.reduceEqDiff, Nat.reduceAdd, Nat.reduceMul, Nat.reduceBEq, beq_self_eq_true, Nat.reduceLeDiff, Nat.le_refl, h0, hk, k0, k1.size, k1.isNode, k1.lenT, k2.size, k2.isNode, k2.lenT]
  repeat' (first | refine ⟨?_, ?_⟩ | with_reducible intro _)
  · refine xcall_v (l1ObjOk_p _ _ h1) (by simp -dsimp only [go_sem, Nat.reduceLT, Nat.reduceEqDiff, Nat.reduceAdd, Nat.reduceMul, Nat.reduceBEq, beq_self_eq_true, Nat.reduceLeDiff, Nat.le_refl, rl_still, e4, ← hk]) (fun _ => trivial) fun n1 hn1 => ?_
    simp -dsimp only [go_sem, Nat.reduceLT, Nat.reduceEqDiff, Nat.reduceAdd, Nat.reduceMul, Nat.reduceBEq, beq_self_eq_true, Nat.reduceLeDiff, Nat.le_refl]
    first | (simp [Md.slotOk, *]; done) | (simp_all [Md.slotOk]; done) | (simp_all [Md.slotOk]; omega)
  · all_goals first | (simp [Md.slotOk, Md.noObj, *]; done) | (simp_all [Md.slotOk, Md.noObj]; done) | (simp_all [Md.slotOk, Md.noObj]; omega)
  · all_goals first | (simp [Md.slotOk, Md.noObj, *]; done) | (simp_all [Md.slotOk, Md.noObj]; done) | (simp_all [Md.slotOk, Md.noObj]; omega)
  · all_goals first | (simp [Md.slotOk, Md.noObj, *]; done) | (simp_all [Md.slotOk, Md.noObj]; done) | (simp_all [Md.slotOk, Md.noObj]; omega)
end Go.Proofs.Ytjaddgkhlmallaa.IM
