/- Several of my texts in one module (merge.py). -/
import Derived.Test.YtpepddckmddbiaaA4
import Derived.Test.YtpepddckmddbiaaA3
import Derived.Test.YtpepddckmddbiaaA5
import Derived.Test.YtpepddckmddbiaaB7
section
/- Contracts of the laws' functions over grants and locks. Printed by grants.py. -/
namespace Go.Proofs.Ytpepddckmddbiaa.IM
open Go Go.Proofs
set_option linter.unusedVariables false
set_option linter.unusedSimpArgs false
set_option maxHeartbeats 2000000
set_option maxRecDepth 20000

theorem szGrantS_p (d : D) (xs : List Md.Grant) (h : IsL 3 IsGrant d xs) (left : Int) (h0 : 0 ≤ left) (h1 : left ≤ 1048576) : PCall Try.prog 167 [d, .lit (.int .i64 left)] fun _ _ r => r = .lit (.int .i64 (Md.szR xs.length left)) := by
  have hw := wrap_sub h0 h1 h.short
  refine pcall_intro_v Try.func167 rfl (by decide) rfl (by decide) (by rw [Try.ntmps167]; simp) fun w0 M n0 => ivc_sound ?_; simp -dsimp only [Try.f167, go_sem, h.lenT, hw]
  rw [← szR_len]
  repeat' (first | refine ⟨?_, ?_⟩ | with_reducible intro _)
  · rename_i hc; rw [if_pos hc]
  · rename_i hc; rw [if_neg hc]
theorem szLocks_p (d : D) (x : Md.Locks) (h : IsLocks d x) (left : Int) (h0 : 0 ≤ left) (h1 : left ≤ 1048576) : PCall Try.prog 61 [d, .lit (.int .i64 left)] fun _ _ r => r = .lit (.int .i64 (Md.szR (Md.szLocks x) left)) := by
  obtain ⟨f, rfl, hst, k0, k1⟩ := h
  refine pcall_intro_v Try.func61 rfl (by decide) rfl (by decide) (by rw [Try.ntmps61]; simp) fun w0 M n0 => ivc_sound ?_; simp -dsimp only [Try.f61, go_sem, k0.size, k0.isNode, k0.still, k1.size, k1.isNode, k1.still]
  repeat' (first | refine ⟨?_, ?_⟩ | with_reducible intro _)
  refine xcall_v (szGrantS_p _ _ k0 _ h0 h1) (by simp -dsimp only [go_sem, rl_still, k0.size, k0.isNode, k0.still, k1.size, k1.isNode, k1.still]) (fun _ => trivial) fun n0 hn0 => ?_
  simp -dsimp only [go_sem, k0.size, k0.isNode, k0.still, k1.size, k1.isNode, k1.still]
  refine ⟨fun g0 => ?_, fun g0 => ?_⟩
  · exact (sz_neg (x.given.length) (Md.szLocks x) _ (by unfold Md.szLocks; omega) g0).symm
  have G0 := g0
  obtain ⟨p0, q0⟩ := Md.szR_rg _ _ h0 h1 g0
  refine xcall_v (szGrantS_p _ _ k1 _ p0 q0) (by simp -dsimp only [go_sem, rl_still, k0.size, k0.isNode, k0.still, k1.size, k1.isNode, k1.still]) (fun _ => trivial) fun n1 hn1 => ?_
  simp -dsimp only [go_sem, k0.size, k0.isNode, k0.still, k1.size, k1.isNode, k1.still]
  refine ⟨fun g1 => ?_, fun g1 => ?_⟩
  · exact (sz_neg (x.given.length + x.waits.length) (Md.szLocks x) _ (by unfold Md.szLocks; omega) (by rw [Md.szR_add2 _ _ _ h0 G0] at g1; exact g1)).symm
  have G1 : ¬ Md.szR (x.given.length + x.waits.length) left < 0 := by rw [Md.szR_add2 _ _ _ h0 G0] at g1; exact g1
  obtain ⟨p1, q1⟩ := Md.szR_rg _ _ p0 q0 g1
  rw [Md.szR_add2 _ _ _ h0 G0]; rfl
theorem toGrant_p (d : D) (x : Md.Grant) (h : IsGrant d x) : PCall Try.prog 251 [d] fun n0 n1 r => IsGrant r x ∧ Own n0 n1 r := by
  obtain ⟨f, rfl, hst, k0, k1, k2⟩ := h
  have k0 : f 0 = _ := k0
  have k1 : f 1 = _ := k1
  have k2 : f 2 = _ := k2
  refine pcall_intro Try.func251 rfl (by decide) rfl (by decide) (by rw [Try.ntmps251]; simp) fun w0 M n0 hW => ivc_sound ?_; simp -dsimp only [Try.f251, go_sem, k0, k1, k2]
  intro g1 b1 hb1 g2 b2 hb2 g3 b3 hb3
  intro n1 hn1 hfc
  refine fin_node (Q := fun r => IsGrant r x ∧ Own n0 n1 r) (still_upd (still_upd (still_upd (stN (by simp only [stillL_nil, stillL_cons, still_lit, still_nil, still_any, still_nodeN, still_nodeC, and_self])) trivial) trivial) trivial) fun hst => ?_
  refine ⟨⟨_, rfl, hst, by simp -dsimp only [go_sem, IsInt, IsBool, IsByte], by simp -dsimp only [go_sem, IsInt, IsBool, IsByte], by simp -dsimp only [go_sem, IsInt, IsBool, IsByte]⟩, own_node ?_⟩
  exact OwnN.mono (hi := n0) (ownN_snoc_lit (ownN_snoc_lit (ownN_snoc_lit (ownN_zero n0 n0 _) (by simp -dsimp only [go_sem]; rfl)) (by simp -dsimp only [go_sem]; rfl)) (by simp -dsimp only [go_sem]; rfl)) (Nat.le_refl _) (by omega)
theorem toGrantS_p (d : D) (xs : List Md.Grant) (h : IsL 3 IsGrant d xs) (hs : xs.length ≤ 1048576) : PCall Try.prog 169 [d] fun n0 n1 r => IsL 3 IsGrant r xs ∧ Own n0 n1 r := by
  have hs' : xs.length ≤ 1048576 := by omega
  refine pcall_intro Try.func169 rfl (by decide) rfl (by decide) (by rw [Try.ntmps169]; simp) fun w0 M n0 hW => ivc_sound ?_; simp -dsimp only [Try.f169, go_sem, h.lenT]
  refine ⟨by omega, by omega, fun g b hb => ?_⟩
  refine iwp_forR xs.length [0, 2, 3] (fun i n' s R => s 4 = .lit (.int .i64 i) ∧ ∃ f, R = upd (fun _ => none) 7 (some (g, b, .node (.arr xs.length 3) f)) ∧ Fill IsGrant 3 n0 n' xs xs.length i f) 0 (Nat.zero_le _)
    ⟨by simp -dsimp only [go_sem]; rfl, _, rfl, Fill.start (fun j => by simp only [stillL_nil, stillL_cons, still_lit, still_nil, still_any, still_nodeN, still_nodeC, and_self]) fun _ _ => ⟨trivial, rfl⟩⟩ ?_
  rintro i n' s R hi hn hk ⟨h4, f, rfl, hf⟩
  refine ivc_sound ?_
  simp -dsimp only [go_sem] at hk
  by_cases hlt : i < xs.length
  · obtain ⟨t, zb, fi, rfl, hst', hf'⟩ := h.sl hlt
    have hfi := hf' i hlt
    have eq := shp_grant _ _ hfi
    have e1 := eq.1
    have e2 := eq.2.1
    have e4 := eq.2.2.2
    have hw := i64_succ (i := i) (by omega)
    have q1 := (hf.sh i hlt).1
    have q2 := (hf.sh i hlt).2
    simp -dsimp only [go_sem, hk, h4, hlt, hw, q1, q2, e1, e2]
    refine xcall_p (toGrant_p _ _ hfi) (by simp -dsimp only [go_sem, rl_still, e4]) fun m0 m1 r hm0 hm1 hr => ?_
    have hr1 := hr.1
    have hr2 := hr.2
    have rq := shp_grant _ _ hr1
    have r1 := rq.1
    have r2 := rq.2.1
    have r3 := rq.2.2.1
    refine ⟨hr2.tags, ?_⟩
    simp -dsimp only [go_sem, hk, h4, hlt, hw, q1, q2, r1, r2, r3, e1, e2]
    exact into_r (by omega) (by simp -dsimp only [go_sem, hk]) ⟨by simp -dsimp only [go_sem], _, rfl, hf.step shp_grant hlt hr1 hr2 (by omega) (by omega) (by omega) (by omega)⟩
  · simp -dsimp only [go_sem, hk, h4, hlt, h.lenT]
    intro n1 hn1 hfc
    rw [rls_still hf.st]
    exact hf.isL hlt (by omega) hb hfc.here.1 hn1 hfc.here.2
theorem toLocks_p (d : D) (x : Md.Locks) (h : IsLocks d x) (hs : Md.szLocks x ≤ 1048576) : PCall Try.prog 63 [d] fun n0 n1 r => IsLocks r x ∧ Own n0 n1 r := by
  obtain ⟨f, rfl, hst, k0, k1⟩ := h
  unfold Md.szLocks at hs
  refine pcall_intro Try.func63 rfl (by decide) rfl (by decide) (by rw [Try.ntmps63]; simp) fun w0 M n0 hW => ivc_sound ?_; simp -dsimp only [Try.f63, go_sem, k0.size, k0.isNode, k0.plain, k0.still, k1.size, k1.isNode, k1.plain, k1.still]
  intro g1 b1 hb1 g2 b2 hb2 g3 b3 hb3
  refine xcall_p (toGrantS_p _ _ k0 (by omega)) (by simp -dsimp only [go_sem, rl_still, k0.size, k0.isNode, k0.plain, k0.still, k1.size, k1.isNode, k1.plain, k1.still]) fun m0 p0 r0 hm0 hp0 hr0 => ?_
  have ho0 := hr0.2
  have hq0 := hr0.1
  have v0 := hq0.still
  refine ⟨ho0.tags, ?_⟩
  simp -dsimp only [go_sem, k0.size, k0.isNode, k0.plain, k0.still, k1.size, k1.isNode, k1.plain, k1.still, hq0.size, hq0.isNode, hq0.plain]
  refine xcall_p (toGrantS_p _ _ k1 (by omega)) (by simp -dsimp only [go_sem, rl_still, k0.size, k0.isNode, k0.plain, k0.still, k1.size, k1.isNode, k1.plain, k1.still]) fun m1 p1 r1 hm1 hp1 hr1 => ?_
  have ho1 := hr1.2
  have hq1 := hr1.1
  have v1 := hq1.still
  refine ⟨ho1.tags, ?_⟩
  simp -dsimp only [go_sem, k0.size, k0.isNode, k0.plain, k0.still, k1.size, k1.isNode, k1.plain, k1.still, hq0.size, hq0.isNode, hq0.plain, hq1.size, hq1.isNode, hq1.plain]
  intro n1 hn1 hfc
  refine fin_node (Q := fun r => IsLocks r x ∧ Own n0 n1 r) (still_upd (still_upd (stN (by simp only [stillL_nil, stillL_cons, still_lit, still_nil, still_any, still_nodeN, still_nodeC, and_self])) v0) v1) fun hst => ?_
  refine ⟨⟨_, rfl, hst, by simp -dsimp only [go_sem]; exact hq0, by simp -dsimp only [go_sem]; exact hq1⟩, own_node ?_⟩
  exact OwnN.mono (hi := p1) (ownN_snoc_own (mid := p0) (hi := p1) (ownN_snoc_own (mid := n0) (hi := p0) (ownN_zero n0 n0 _) (by simp -dsimp only [go_sem]; exact ho0) (by omega) (by omega) (by omega) (by omega)) (by simp -dsimp only [go_sem]; exact ho1) (by omega) (by omega) (by omega) (by omega)) (Nat.le_refl _) (by omega)
theorem eqGrant_p (d d' : D) (x : Md.Grant) (h : IsGrant d x) (h' : IsGrant d' x) : PCall Try.prog 254 [d, d'] fun _ _ r => r = .lit (.bool true) := by
  obtain ⟨f, rfl, hst, k0, k1, k2⟩ := h
  obtain ⟨f', rfl, hst', l0, l1, l2⟩ := h'
  have k0 : f 0 = _ := k0
  have l0 : f' 0 = _ := l0
  have k1 : f 1 = _ := k1
  have l1 : f' 1 = _ := l1
  have k2 : f 2 = _ := k2
  have l2 : f' 2 = _ := l2
  refine pcall_intro_v Try.func254 rfl (by decide) rfl (by decide) (by rw [Try.ntmps254]; simp) fun w0 M n0 => ivc_sound ?_; simp -dsimp only [Try.f254, go_sem, k0, l0, k1, l1, k2, l2, bne_self_eq_false, Bool.not_true, Bool.not_false, Bool.false_eq_true, Bool.true_eq_false, false_imp_iff, true_and, and_true, forall_const, reduceCtorEq]
theorem eqGrantS_p (d d' : D) (xs : List Md.Grant) (h : IsL 3 IsGrant d xs) (h' : IsL 3 IsGrant d' xs) : PCall Try.prog 174 [d, d'] fun _ _ r => r = .lit (.bool true) := by
  refine pcall_intro_v Try.func174 rfl (by decide) rfl (by decide) (by rw [Try.ntmps174]; simp) fun w0 M n0 => ivc_sound ?_; simp -dsimp only [Try.f174, go_sem, h.lenT, h'.lenT, bne_self_eq_false, Bool.not_true, Bool.not_false, Bool.false_eq_true, Bool.true_eq_false, false_imp_iff, true_and, and_true, forall_const, reduceCtorEq]
  refine iwp_forK xs.length [0, 1] (fun i s => s 5 = .lit (.int .i64 i)) 0 (Nat.zero_le _) (by simp -dsimp only [go_sem]; rfl) ?_
  rintro i n' s hi hn hk h5
  refine ivc_sound ?_
  by_cases hlt : i < xs.length
  · obtain ⟨t, zb, fi, rfl, hst, hf⟩ := h.sl hlt
    obtain ⟨t', zb', fi', rfl, hst', hf'⟩ := h'.sl hlt
    have hfi := hf i hlt
    have hfi' := hf' i hlt
    have q := shp_grant _ _ hfi
    have e1 := q.1
    have e2 := q.2.1
    have e4 := q.2.2.2
    have q' := shp_grant _ _ hfi'
    have k1 := q'.1
    have k2 := q'.2.1
    have k4 := q'.2.2.2
    have hw := i64_succ (i := i) (by have := h.short; omega)
    simp -dsimp only [go_sem] at hk
    simp -dsimp only [go_sem, hk, h5, hlt, hw]
    refine iwp_plan [(0, true), (1, true), (2, true), (3, true), (4, true), (5, true), (6, true), (7, true), (8, false), (9, true)] [] rfl (by decide +kernel) (by decide) [] (by decide +kernel) ?_
    simp -dsimp only [go_sem, hk, h5, hlt, hw, e1, e2, k1, k2, bne_self_eq_false, Bool.not_true, Bool.not_false, Bool.false_eq_true, Bool.true_eq_false, false_imp_iff, true_and, and_true, forall_const, reduceCtorEq]
    refine xcall_v (eqGrant_p _ _ _ hfi hfi') (by simp -dsimp only [go_sem, rl_still, e4, k4]) (fun _ => trivial) fun n1 hn1 => ?_
    simp -dsimp only [go_sem, hk, h5, hlt, hw, bne_self_eq_false, Bool.not_true, Bool.not_false, Bool.false_eq_true, Bool.true_eq_false, false_imp_iff, true_and, and_true, forall_const, reduceCtorEq]
    exact into_k (by omega) (by simp -dsimp only [go_sem, hk]) (by simp -dsimp only [go_sem])
  · simp -dsimp only [go_sem] at hk
    simp -dsimp only [go_sem, hk, h5, hlt, h.lenT]
theorem eqLocks_p (d d' : D) (x : Md.Locks) (h : IsLocks d x) (h' : IsLocks d' x) : PCall Try.prog 65 [d, d'] fun _ _ r => r = .lit (.bool true) := by
  obtain ⟨f, rfl, hst, k0, k1⟩ := h
  obtain ⟨f', rfl, hst', l0, l1⟩ := h'
  refine pcall_intro_v Try.func65 rfl (by decide) rfl (by decide) (by rw [Try.ntmps65]; simp) fun w0 M n0 => ivc_sound ?_; simp -dsimp only [Try.f65, go_sem, k0.size, k0.isNode, k0.plain, l0.size, l0.isNode, l0.plain, k1.size, k1.isNode, k1.plain, l1.size, l1.isNode, l1.plain, bne_self_eq_false, Bool.not_true, Bool.not_false, Bool.false_eq_true, Bool.true_eq_false, false_imp_iff, true_and, and_true, forall_const, reduceCtorEq]
  intro g1 b1 hb1 g2 b2 hb2
  refine xcall_v (eqGrantS_p _ _ _ k0 l0) (by simp -dsimp only [go_sem, rl_still, k0.still, l0.still]) (fun _ => trivial) fun m0 hm0 => ?_
  simp -dsimp only [go_sem, k0.size, k0.isNode, k0.plain, l0.size, l0.isNode, l0.plain, k1.size, k1.isNode, k1.plain, l1.size, l1.isNode, l1.plain, bne_self_eq_false, Bool.not_true, Bool.not_false, Bool.false_eq_true, Bool.true_eq_false, false_imp_iff, true_and, and_true, forall_const, reduceCtorEq]
  refine xcall_v (eqGrantS_p _ _ _ k1 l1) (by simp -dsimp only [go_sem, rl_still, k1.still, l1.still]) (fun _ => trivial) fun m1 hm1 => ?_
  simp -dsimp only [go_sem, k0.size, k0.isNode, k0.plain, l0.size, l0.isNode, l0.plain, k1.size, k1.isNode, k1.plain, l1.size, l1.isNode, l1.plain, bne_self_eq_false, Bool.not_true, Bool.not_false, Bool.false_eq_true, Bool.true_eq_false, false_imp_iff, true_and, and_true, forall_const, reduceCtorEq]
end Go.Proofs.Ytpepddckmddbiaa.IM
end

section
/- Contracts: locks. -/
namespace Go.Proofs.Ytpepddckmddbiaa.IM
open Go Go.Proofs
set_option linter.unusedVariables false
set_option linter.unusedSimpArgs false
set_option maxHeartbeats 2000000
set_option maxRecDepth 20000

theorem isMode_p (a : Int) : PCall Try.prog 146 [.lit (.int .i64 a)] fun _ _ r => r = .lit (.bool (Md.inB a 1 4)) := by
  refine pcall_intro_v Try.func146 rfl (by decide) rfl (by decide) (by rw [Try.ntmps146]; simp) fun w0 M n0 => ivc_sound ?_; simp -dsimp only [Try.f146, go_sem]
  refine xcall_v (in_p _ _ _) (by simp -dsimp only [go_sem]; rfl) (fun _ => trivial) fun n1 hn1 => ?_
  simp -dsimp only [go_sem]
theorem l9Mode_p (a : Int) : PCall Try.prog 147 [.lit (.int .i64 a)] fun _ _ r => r = .lit (.bool (Md.inB a 1 4)) := by
  refine pcall_intro_v Try.func147 rfl (by decide) rfl (by decide) (by rw [Try.ntmps147]; simp) fun w0 M n0 => ivc_sound ?_; simp -dsimp only [Try.f147, go_sem]
  refine xcall_v (l1In_p _ _ _) (by simp -dsimp only [go_sem]; rfl) (fun _ => trivial) fun n1 hn1 => ?_
  simp -dsimp only [go_sem]
theorem goes_p (a b : Int) : PCall Try.prog 36 [.lit (.int .i64 a), .lit (.int .i64 b)] fun _ _ r => r = .lit (.bool (Md.goes a b)) := by
  refine pcall_intro_v Try.func36 rfl (by decide) rfl (by decide) (by rw [Try.ntmps36]; simp) fun w0 M n0 => ivc_sound ?_; simp -dsimp only [Try.f36, go_sem]
  repeat' (first
    | (refine xcall_v (isMode_p a) ?_ (fun _ => trivial) (fun _ _ => ?_); (focus (simp -dsimp only [go_sem, rl_still, ]; first | done | rfl)); simp -dsimp only [go_sem])
    | (refine xcall_v (isMode_p b) ?_ (fun _ => trivial) (fun _ _ => ?_); (focus (simp -dsimp only [go_sem, rl_still, ]; first | done | rfl)); simp -dsimp only [go_sem])
    | refine ⟨?_, ?_⟩ | with_reducible intro _)
  all_goals simp_all [Md.goes]
  all_goals (rw [Bool.eq_iff_iff]; simp; omega)
theorem specGoes_p (a b : Int) : PCall Try.prog 38 [.lit (.int .i64 a), .lit (.int .i64 b)] fun _ _ r => r = .lit (.bool (Md.goes a b)) := by
  refine pcall_intro_v Try.func38 rfl (by decide) rfl (by decide) (by rw [Try.ntmps38]; simp) fun w0 M n0 => ivc_sound ?_; simp -dsimp only [Try.f38, go_sem]
  repeat' (first
    | (refine xcall_v (l9Mode_p a) ?_ (fun _ => trivial) (fun _ _ => ?_); (focus (simp -dsimp only [go_sem, rl_still, ]; first | done | rfl)); simp -dsimp only [go_sem])
    | (refine xcall_v (l9Mode_p b) ?_ (fun _ => trivial) (fun _ _ => ?_); (focus (simp -dsimp only [go_sem, rl_still, ]; first | done | rfl)); simp -dsimp only [go_sem])
    | refine ⟨?_, ?_⟩ | with_reducible intro _)
  all_goals simp_all [Md.goes]
  all_goals (rw [Bool.eq_iff_iff]; simp; omega)
theorem grantOk_p (d : D) (x : Md.Grant) (h : IsGrant d x) : PCall Try.prog 170 [d] fun _ _ r => r = .lit (.bool (Md.grantOk x)) := by
  obtain ⟨f, rfl, hst, k0, k1, k2⟩ := h
  have k0 : f 0 = _ := k0
  have k1 : f 1 = _ := k1
  have k2 : f 2 = _ := k2
  refine pcall_intro_v Try.func170 rfl (by decide) rfl (by decide) (by rw [Try.ntmps170]; simp) fun w0 M n0 => ivc_sound ?_; simp -dsimp only [Try.f170, go_sem, k0, k1, k2]
  intro g1 b1 hb1
  repeat' (first
    | (refine xcall_v (in_p x.tx 1 99) ?_ (fun _ => trivial) (fun _ _ => ?_); (focus (simp -dsimp only [go_sem, rl_still, k0, k1, k2]; first | done | rfl)); simp -dsimp only [go_sem, k0, k1, k2])
    | (refine xcall_v (in_p x.res 0 99) ?_ (fun _ => trivial) (fun _ _ => ?_); (focus (simp -dsimp only [go_sem, rl_still, k0, k1, k2]; first | done | rfl)); simp -dsimp only [go_sem, k0, k1, k2])
    | (refine xcall_v (isMode_p x.mode) ?_ (fun _ => trivial) (fun _ _ => ?_); (focus (simp -dsimp only [go_sem, rl_still, k0, k1, k2]; first | done | rfl)); simp -dsimp only [go_sem, k0, k1, k2])
    | refine ⟨?_, ?_⟩ | with_reducible intro _)
  all_goals simp_all [Md.grantOk]
theorem l9Grant_p (d : D) (x : Md.Grant) (h : IsGrant d x) : PCall Try.prog 168 [d] fun _ _ r => r = .lit (.bool (Md.grantOk x)) := by
  obtain ⟨f, rfl, hst, k0, k1, k2⟩ := h
  have k0 : f 0 = _ := k0
  have k1 : f 1 = _ := k1
  have k2 : f 2 = _ := k2
  refine pcall_intro_v Try.func168 rfl (by decide) rfl (by decide) (by rw [Try.ntmps168]; simp) fun w0 M n0 => ivc_sound ?_; simp -dsimp only [Try.f168, go_sem, k0, k1, k2]
  intro g1 b1 hb1
  repeat' (first
    | (refine xcall_v (l1In_p x.tx 1 99) ?_ (fun _ => trivial) (fun _ _ => ?_); (focus (simp -dsimp only [go_sem, rl_still, k0, k1, k2]; first | done | rfl)); simp -dsimp only [go_sem, k0, k1, k2])
    | (refine xcall_v (l1In_p x.res 0 99) ?_ (fun _ => trivial) (fun _ _ => ?_); (focus (simp -dsimp only [go_sem, rl_still, k0, k1, k2]; first | done | rfl)); simp -dsimp only [go_sem, k0, k1, k2])
    | (refine xcall_v (l9Mode_p x.mode) ?_ (fun _ => trivial) (fun _ _ => ?_); (focus (simp -dsimp only [go_sem, rl_still, k0, k1, k2]; first | done | rfl)); simp -dsimp only [go_sem, k0, k1, k2])
    | refine ⟨?_, ?_⟩ | with_reducible intro _)
  all_goals simp_all [Md.grantOk]
theorem given_clash {x : Md.Locks} {i k : Nat} (hi : i < x.given.length) (hk : k < i) (h : Md.clash (x.given[k]'(by omega)) x.given[i] = true) : Md.locksOk x = false := Md.locksOk_no fun q => by
  have := (q.2.2.1 i hi hi).2 k hk
  rw [this] at h; cases h
theorem given_bad {x : Md.Locks} {i : Nat} (hi : i < x.given.length) (h : Md.grantOk x.given[i] = false) : Md.locksOk x = false := Md.locksOk_no fun q => by
  have := (q.2.2.1 i hi hi).1
  rw [this] at h; cases h
theorem waits_bad {x : Md.Locks} {i : Nat} (hi : i < x.waits.length) (h : Md.grantOk x.waits[i] = false) : Md.locksOk x = false := Md.locksOk_no fun q => by
  have := (q.2.2.2 i hi hi).1
  rw [this] at h; cases h
theorem waits_same {x : Md.Locks} {i k : Nat} (hi : i < x.waits.length) (hk : k < i) (h : (x.waits[k]'(by omega)).tx = x.waits[i].tx) : Md.locksOk x = false := Md.locksOk_no fun q => (q.2.2.2 i hi hi).2 k hk h
theorem specLocksOk_p (d : D) (x : Md.Locks) (h : IsLocks d x) : PCall Try.prog 62 [d] fun _ _ r => r = .lit (.bool (Md.locksOk x)) := by
  obtain ⟨f, rfl, hst, h0, h1⟩ := h
  refine pcall_intro_v Try.func62 rfl (by decide) rfl (by decide) (by rw [Try.ntmps62]; simp) fun w0 M n0 => ivc_sound ?_; simp -dsimp only [Try.f62, go_sem, h0.size, h0.isNode, h0.plain, h0.lenT, h1.size, h1.isNode, h1.plain, h1.lenT]
  intro g1 b1 hb1
  repeat' (first | refine ⟨?_, ?_⟩ | with_reducible intro _)
  all_goals first
    | (rw [Md.locksOk_no]; intro q; have q1 := q.1; have q2 := q.2.1; omega)
    | skip
  rename_i hg60 hw60
  refine iwp_forK x.given.length [1] (fun i s => s 3 = .lit (.int .i64 i) ∧ Md.GivenOk x.given i) 0 (Nat.zero_le _) ⟨by simp -dsimp only [go_sem]; rfl, Md.GivenOk.zero _⟩ ?_
  rintro i n' s hi hn hk ⟨h3, hall⟩
  refine ivc_sound ?_
  simp -dsimp only [go_sem] at hk
  by_cases hlt : i < x.given.length
  · obtain ⟨t, zb, fi, hfe, hst', hf'⟩ := h0.sl hlt
    have hsi := hf' i hlt
    have qs := shp_grant _ _ hsi
    have hw := i64_succ (i := i) (by have := h0.short; omega)
    have hl0 := h0.lenT
    rw [hfe] at hl0
    simp -dsimp only [go_sem, hk, h3, hlt, hw, hfe, hl0, qs.1, qs.2.1, qs.2.2.1]
    intro g4 b4 hb4
    refine xcall_v (l9Grant_p _ _ hsi) (by simp -dsimp only [go_sem, rl_still, qs.2.2.2]) (fun _ => trivial) fun n2 hn2 => ?_
    simp -dsimp only [go_sem, hk, h3, hlt, hw, hfe, hl0, qs.1, qs.2.1, qs.2.2.1]
    refine ⟨fun hb => ?_, fun hb => ?_⟩
    · rw [given_bad hlt (by simpa using hb)]
    have hok : Md.grantOk x.given[i] = true := by simpa using hb
    obtain ⟨kf, hkf, hks, k0, k1, k2⟩ := hsi
    have k0 : kf 0 = _ := k0
    have k1 : kf 1 = _ := k1
    have k2 : kf 2 = _ := k2
    refine iwp_forR i [1, 3, 4] (fun j n' s R => s 5 = .lit (.int .i64 j) ∧ R = upd (upd (fun _ => none) 1 (some (g1, b1, .node (.agg [1, 1]) f))) 4 (some (g4, b4, fi i)) ∧ ∀ k (hk : k < j) (hk' : k < x.given.length), Md.clash x.given[k] x.given[i] = false) 0 (Nat.zero_le _) ⟨by simp -dsimp only [go_sem]; rfl, rfl, fun k h => absurd h (by omega)⟩ ?_
    rintro j n3 s3 R3 hj hn3 hk3 ⟨h5, rfl, hall2⟩
    refine ivc_sound ?_
    simp -dsimp only [go_sem, hk, h3] at hk3
    by_cases hlt2 : j < i
    · have hc2 : (j : Int) < i := by omega
      have hlt3 : j < x.given.length := by omega
      have hsj := hf' j hlt3
      have qj := shp_grant _ _ hsj
      obtain ⟨jf, hjf, hjs, j0, j1, j2⟩ := hsj
      have j0 : jf 0 = _ := j0
      have j1 : jf 1 = _ := j1
      have j2 : jf 2 = _ := j2
      have hw2 := i64_succ (i := j) (by have := h0.short; omega)
      simp -dsimp only [go_sem, hk3, h5, hlt2, hlt3, hc2, hw2, hfe, hl0, hjf, hkf, j0, j1, j2, k0, k1, k2]
      intro g6 b6 hb6
      repeat' (first
    | (refine xcall_v (specGoes_p x.given[j].mode x.given[i].mode) ?_ (fun _ => trivial) (fun _ _ => ?_); (focus (simp -dsimp only [go_sem, rl_still, hk3, h5, hlt2, hlt3, hc2, hw2, hfe, hl0, hjf, hkf, j0, j1, j2, k0, k1, k2]; first | done | rfl)); simp -dsimp only [go_sem, hk3, h5, hlt2, hlt3, hc2, hw2, hfe, hl0, hjf, hkf, j0, j1, j2, k0, k1, k2])
    | refine ⟨?_, ?_⟩ | with_reducible intro _)
      all_goals first
        | (rw [given_clash hlt hlt2 (by simp_all [Md.clash])]; done)
        | (refine into_r1 rfl (by omega) (by simp -dsimp only [go_sem, hk3, hk, h3]) ⟨by simp -dsimp only [go_sem], by first | rfl | rw [hkf], fun k hk' hk2 => ?_⟩
           rcases Nat.lt_or_ge k j with h6 | h6
           · exact hall2 k h6 hk2
           · obtain rfl : k = j := by omega
             simp_all [Md.clash])
    · have hc2 : ¬ (j : Int) < i := by omega
      simp -dsimp only [go_sem, hk3, h5, hc2, hw]
      exact into_k1 rfl (by omega) (by simp -dsimp only [go_sem, hk3, hk, h3]) ⟨by simp -dsimp only [go_sem], hall.succ hlt hok fun k hk => hall2 k (by omega) _⟩
  · simp -dsimp only [go_sem, hk, h3, hlt, h0.size, h0.isNode, h0.plain, h0.lenT]
    have hG : Md.GivenOk x.given x.given.length := fun j hj hj' => hall j (by omega) hj'
    refine iwp_forK x.waits.length [1] (fun i s => s 7 = .lit (.int .i64 i) ∧ Md.WaitsOk x.waits i) 0 (Nat.zero_le _) ⟨by simp -dsimp only [go_sem]; rfl, Md.WaitsOk.zero _⟩ ?_
    rintro i2 n2 s2 hi2 hn2 hk2 ⟨h7, hallw⟩
    refine ivc_sound ?_
    simp -dsimp only [go_sem, hk] at hk2
    by_cases hltw : i2 < x.waits.length
    · obtain ⟨t, zb, fi, hfe, hst', hf'⟩ := h1.sl hltw
      have hsi := hf' i2 hltw
      have qs := shp_grant _ _ hsi
      have hw := i64_succ (i := i2) (by have := h1.short; omega)
      have hl1 := h1.lenT
      rw [hfe] at hl1
      simp -dsimp only [go_sem, hk2, h7, hltw, hw, hfe, hl1, qs.1, qs.2.1, qs.2.2.1]
      refine xcall_v (l9Grant_p _ _ hsi) (by simp -dsimp only [go_sem, rl_still, qs.2.2.2]) (fun _ => trivial) fun n4 hn4 => ?_
      simp -dsimp only [go_sem, hk2, h7, hltw, hw, hfe, hl1, qs.1, qs.2.1, qs.2.2.1]
      refine ⟨fun hb => ?_, fun hb => ?_⟩
      · rw [waits_bad hltw (by simpa using hb)]
      have hok : Md.grantOk x.waits[i2] = true := by simpa using hb
      obtain ⟨kf, hkf, hks, k0, k1, k2⟩ := hsi
      have k0 : kf 0 = _ := k0
      refine iwp_forK i2 [1, 7] (fun j s => s 8 = .lit (.int .i64 j) ∧ ∀ k (hk : k < j) (hk' : k < x.waits.length), x.waits[k].tx ≠ x.waits[i2].tx) 0 (Nat.zero_le _) ⟨by simp -dsimp only [go_sem]; rfl, fun k h => absurd h (by omega)⟩ ?_
      rintro j n3 s3 hj hn3 hk3 ⟨h8, hall2⟩
      refine ivc_sound ?_
      simp -dsimp only [go_sem, hk2, h7] at hk3
      by_cases hlt2 : j < i2
      · have hc2 : (j : Int) < i2 := by omega
        have hlt3 : j < x.waits.length := by omega
        obtain ⟨jf, hjf, hjs, j0, j1, j2⟩ := hf' j hlt3
        have j0 : jf 0 = _ := j0
        have hw2 := i64_succ (i := j) (by have := h1.short; omega)
        simp -dsimp only [go_sem, hk3, h8, hc2, hltw, hw2, hfe, hjf, hkf, j0, k0]
        refine iwp_plan [(0, true), (1, true), (2, true), (3, true), (4, true), (5, true), (6, true), (7, true), (8, true), (9, true), (10, true), (11, true), (12, true)] [1] rfl (by decide +kernel) (by decide) [] (by decide +kernel) ?_
        simp -dsimp only [go_sem, hk3, h8, hc2, hltw, hlt2, hlt3, hw2, hfe, hl1, hjf, hkf, j0, k0]
        refine ⟨fun hb4 => ?_, fun hb4 => into_k (by omega) (by simp -dsimp only [go_sem, hk3, hk2, h7, hk]) ⟨by simp -dsimp only [go_sem], fun k hk' hk2' => ?_⟩⟩
        · rw [waits_same hltw hlt2 (by simpa using hb4)]
        · rcases Nat.lt_or_ge k j with h6 | h6
          · exact hall2 k h6 hk2'
          · obtain rfl : k = j := by omega
            simpa using hb4
      · have hc2 : ¬ (j : Int) < i2 := by omega
        simp -dsimp only [go_sem, hk3, h8, hc2, hw]
        exact into_k (by omega) (by simp -dsimp only [go_sem, hk3, hk2, h7, hk]) ⟨by simp -dsimp only [go_sem], hallw.succ hltw hok fun k hk => hall2 k (by omega) _⟩
    · simp -dsimp only [go_sem, hk2, h7, hltw, h1.size, h1.isNode, h1.plain, h1.lenT]
      rw [Md.locksOk_yes ⟨by omega, by omega, hG, fun j hj hj' => hallw j (by omega) hj'⟩]
theorem locksOk1_p (d e : D) (y g : Md.Grant) (h : IsGrant d y) (hg : IsGrant e g) : PCall Try.prog 172 [d, .cptr e] fun _ _ r => r = .lit (.bool (Md.clash y g)) := by
  obtain ⟨f, rfl, hst, k0, k1, k2⟩ := h
  have k0 : f 0 = _ := k0
  have k1 : f 1 = _ := k1
  have k2 : f 2 = _ := k2
  obtain ⟨q, rfl, qst, j0, j1, j2⟩ := hg
  have j0 : q 0 = _ := j0
  have j1 : q 1 = _ := j1
  have j2 : q 2 = _ := j2
  refine pcall_intro_v Try.func172 rfl (by decide) rfl (by decide) (by rw [Try.ntmps172]; simp) fun w0 M n0 => ivc_sound ?_; simp -dsimp only [Try.f172, go_sem, k0, k1, k2, j0, j1, j2]
  intro g1 b1 hb1
  repeat' (first
    | (refine xcall_v (goes_p y.mode g.mode) ?_ (fun _ => trivial) (fun _ _ => ?_); (focus (simp -dsimp only [go_sem, rl_still, k0, k1, k2, j0, j1, j2]; first | done | rfl)); simp -dsimp only [go_sem, k0, k1, k2, j0, j1, j2])
    | refine ⟨?_, ?_⟩ | with_reducible intro _)
  all_goals simp_all [Md.clash]
theorem waitAt1_p (d : D) (g : Md.Grant) (tx : Int) (h : IsGrant d g) : PCall Try.prog 253 [d, .cptr (.lit (.int .i64 tx))] fun _ _ r => r = .lit (.bool (g.tx == tx)) := by
  obtain ⟨f, rfl, hst, k0, k1, k2⟩ := h
  have k0 : f 0 = _ := k0
  refine pcall_intro_v Try.func253 rfl (by decide) rfl (by decide) (by rw [Try.ntmps253]; simp) fun w0 M n0 => ivc_sound ?_; simp -dsimp only [Try.f253, go_sem, k0]
  repeat' (first | refine ⟨?_, ?_⟩ | with_reducible intro _)
theorem waitAt_p (d : D) (x : Md.Locks) (tx : Int) (h : IsLocks d x) : PCall Try.prog 173 [d, .lit (.int .i64 tx)] fun _ _ r => r = .lit (.int .i64 (Md.idx (fun g => g.tx == tx) x.waits)) := by
  obtain ⟨f, rfl, hst, h0, h1⟩ := h
  refine pcall_intro_v Try.func173 rfl (by decide) rfl (by decide) (by rw [Try.ntmps173]; simp) fun w0 M n0 => ivc_sound ?_; simp -dsimp only [Try.f173, go_sem, h1.size, h1.isNode, h1.plain]
  intro g1 b1 hb1 g2 b2 hb2
  refine xcall_v (indexFunc_Grant shp_grant x.waits _ h1 253 1 (capD (.cptr (.lit (.int .i64 tx)))) (fun g => g.tx == tx) (still_cap trivial) fun x _ dx hx => waitAt1_p dx x tx hx)
    (by simp -dsimp only [go_sem, rl_cap, rl_still, h1.still]) (fun _ => trivial) fun n2 hn2 => ?_
  simp -dsimp only [go_sem]
theorem any_take_clash {xs : List Md.Grant} {i : Nat} (hi : i < xs.length) (g : Md.Grant) : ((xs.take i).any fun y => Md.clash y g) = true ↔ ∃ k, ∃ (hk : k < i), Md.clash (xs[k]'(by omega)) g = true := by
  rw [List.any_eq_true]
  constructor
  · rintro ⟨y, hy, hc⟩
    obtain ⟨k, hk, rfl⟩ := List.getElem_of_mem hy
    rw [List.length_take] at hk
    rw [List.getElem_take] at hc
    exact ⟨k, by omega, hc⟩
  · rintro ⟨k, hk, hc⟩
    refine ⟨xs[k], ?_, hc⟩
    rw [List.mem_iff_getElem]
    exact ⟨k, by rw [List.length_take]; omega, by rw [List.getElem_take]⟩
theorem locksOk_p (d : D) (x : Md.Locks) (h : IsLocks d x) : PCall Try.prog 64 [d] fun _ _ r => r = .lit (.bool (Md.locksOk x)) := by
  have hd := h
  have qd := shp_locks _ _ h
  obtain ⟨f, rfl, hst, h0, h1⟩ := h
  refine pcall_intro_v Try.func64 rfl (by decide) rfl (by decide) (by rw [Try.ntmps64]; simp) fun w0 M n0 => ivc_sound ?_; simp -dsimp only [Try.f64, go_sem, h0.size, h0.isNode, h0.plain, h0.lenT, h1.size, h1.isNode, h1.plain, h1.lenT]
  intro g1 b1 hb1
  repeat' (first | refine ⟨?_, ?_⟩ | with_reducible intro _)
  all_goals first
    | (rw [Md.locksOk_no]; intro q; have q1 := q.1; have q2 := q.2.1; omega)
    | skip
  rename_i hg60 hw60
  refine iwp_forK x.given.length [1, 18, 19] (fun i s => s 20 = .lit (.int .i64 i) ∧ Md.GivenOk x.given i) 0 (Nat.zero_le _) ⟨by simp -dsimp only [go_sem]; rfl, Md.GivenOk.zero _⟩ ?_
  rintro i n' s hi hn hk ⟨h20, hall⟩
  refine ivc_sound ?_
  simp -dsimp only [go_sem] at hk
  by_cases hlt : i < x.given.length
  · obtain ⟨t, zb, fi, hfe, hst', hf'⟩ := h0.sl hlt
    have hsi := hf' i hlt
    have qs := shp_grant _ _ hsi
    have hw := i64_succ (i := i) (by have := h0.short; omega)
    have hl0 := h0.lenT
    rw [hfe] at hl0
    have htk : ∀ z, IsL 3 IsGrant (.sl t z i 3 fi) (x.given.take i) := fun z => .inr ⟨t, z, fi, by rw [List.length_take, Nat.min_eq_left (by omega)], hst', by have := h0.short; rw [List.length_take]; omega, fun j hj => by
      rw [List.length_take] at hj
      rw [List.getElem_take]; exact hf' j (by omega)⟩
    have hcut : ((i : Int) - 0).toNat = i := by omega
    have hle : ((i : Int) ≤ (x.given.length : Int)) = True := eq_true (by omega)
    have hi0 : (0 ≤ (i : Int)) = True := eq_true (by omega)
    simp -dsimp only [go_sem, hk, h20, hlt, hw, hfe, hl0, qs.1, qs.2.1, qs.2.2.1]
    intro g4 b4 hb4
    refine xcall_v (grantOk_p _ _ hsi) (by simp -dsimp only [go_sem, rl_still, qs.2.2.2]) (fun _ => trivial) fun n2 hn2 => ?_
    simp -dsimp only [go_sem, hk, h20, hlt, hw, hfe, hl0, qs.1, qs.2.1, qs.2.2.1, hcut, hle, hi0]
    refine ⟨fun hb => ?_, fun hb => ?_⟩
    rotate_left
    · rw [given_bad hlt (by simpa using hb)]
    have hok : Md.grantOk x.given[i] = true := by simpa using hb
    refine ⟨Int.le_refl _, xcall_v (containsFunc_Grant shp_grant (x.given.take i) _ (htk (zb && (0 : Int) == 0)) 172 1 (capD (.cptr (fi i))) (fun y => Md.clash y x.given[i]) (still_cap (show (D.cptr (fi i)).still from qs.2.2.2)) fun y _ dy hy => locksOk1_p dy (fi i) y x.given[i] hy hsi)
      (by
        have hz : (fun q => fi (Int.toNat 0 + q)) = fi := by funext q; simp
        have hcs : (D.sl t (zb && true) i 3 fi).still := hst'
        simp -dsimp only [go_sem, rl_cap, rl_still, qs.2.2.2, hcut, hz, hcs]) (fun _ => trivial) fun n3 hn3 => ?_⟩
    simp -dsimp only [go_sem, hk, h20, hlt, hw, hfe, hl0, qs.1, qs.2.1, qs.2.2.1]
    refine ⟨fun hc => ?_, fun hc => ?_⟩
    · obtain ⟨k, hk', hc'⟩ := (any_take_clash hlt _).1 hc
      rw [given_clash hlt hk' hc']
    · refine into_k1 rfl (by omega) (by simp -dsimp only [go_sem, hk, hfe]) ⟨by simp -dsimp only [go_sem], hall.succ hlt hok fun k hk' => ?_⟩
      cases hcc : Md.clash (x.given[k]'(by omega)) x.given[i] with
      | false => rfl
      | true => rw [(any_take_clash hlt _).2 ⟨k, hk', hcc⟩] at hc; cases hc
  · simp -dsimp only [go_sem, hk, h20, hlt, h0.size, h0.isNode, h0.plain, h0.lenT, h1.size, h1.isNode, h1.plain, h1.lenT]
    have hG : Md.GivenOk x.given x.given.length := fun j hj hj' => hall j (by omega) hj'
    refine iwp_forK x.waits.length [1, 38, 39] (fun i s => s 40 = .lit (.int .i64 i) ∧ Md.WaitsOk x.waits i) 0 (Nat.zero_le _) ⟨by simp -dsimp only [go_sem]; rfl, Md.WaitsOk.zero _⟩ ?_
    rintro i2 n2 s2 hi2 hn2 hk2 ⟨h40, hallw⟩
    refine ivc_sound ?_
    simp -dsimp only [go_sem, hk] at hk2
    by_cases hltw : i2 < x.waits.length
    · obtain ⟨t, zb, fi, hfe, hst', hf'⟩ := h1.sl hltw
      have hsi := hf' i2 hltw
      have qs := shp_grant _ _ hsi
      have hsi' := hsi
      obtain ⟨kf, hkf, hks, k0, k1, k2⟩ := hsi'
      have k0 : kf 0 = _ := k0
      have hw := i64_succ (i := i2) (by have := h1.short; omega)
      have hl1 := h1.lenT
      rw [hfe] at hl1
      simp -dsimp only [go_sem, hk2, h40, hltw, hw, hfe, hl1, qs.1, qs.2.1, qs.2.2.1]
      intro g6 b6 hb6
      refine xcall_v (grantOk_p _ _ hsi) (by simp -dsimp only [go_sem, rl_still, qs.2.2.2]) (fun _ => trivial) fun n4 hn4 => ?_
      simp -dsimp only [go_sem, hk2, h40, hltw, hw, hfe, hl1, qs.1, qs.2.1, qs.2.2.1, hkf, k0]
      refine ⟨fun hb => ?_, fun hb => ?_⟩
      rotate_left
      · rw [waits_bad hltw (by simpa using hb)]
      have hok : Md.grantOk x.waits[i2] = true := by simpa using hb
      refine xcall_v (waitAt_p _ _ x.waits[i2].tx hd) (by simp -dsimp only [go_sem, rl_still, qd.2.2.2]) (fun _ => trivial) fun n5 hn5 => ?_
      simp -dsimp only [go_sem, hk2, h40, hltw, hw, hfe, hl1, qs.1, qs.2.1, qs.2.2.1, hkf, k0]
      refine ⟨fun hb5 => ?_, fun hb5 => into_k1 rfl (by omega) (by simp -dsimp only [go_sem, hk2, hk, hfe]) ⟨by simp -dsimp only [go_sem], hallw.succ hltw hok fun a h => ?_⟩⟩
      · have hne : Md.idx (fun g => g.tx == x.waits[i2].tx) x.waits ≠ i2 := by simpa using hb5
        obtain ⟨a, ha, he⟩ := idx_other hltw (by simp) hne
        rw [waits_same hltw ha (by simpa using he)]
      · have he : Md.idx (fun g => g.tx == x.waits[i2].tx) x.waits = i2 := by simpa using hb5
        simpa using idx_before he a h (by omega)
    · simp -dsimp only [go_sem, hk2, h40, hltw, h1.size, h1.isNode, h1.plain, h1.lenT]
      rw [Md.locksOk_yes ⟨by omega, by omega, hG, fun j hj hj' => hallw j (by omega) hj'⟩]
end Go.Proofs.Ytpepddckmddbiaa.IM
end

section
/- The law of LocksOk. -/
namespace Go.Proofs.Ytpepddckmddbiaa.IM
open Go Go.Proofs
set_option linter.unusedVariables false
set_option linter.unusedSimpArgs false
set_option maxHeartbeats 2000000
set_option maxRecDepth 20000

theorem lawLocksOk (d : D) (x : Md.Locks)  (h : IsLocks d x) : PCall Try.prog 11 [d] fun _ _ r => r = .lit (.bool true) := by
  have q := shp_locks _ _ h
  have e1 := q.1
  have e2 := q.2.1
  have e3 := q.2.2.1
  have e4 := q.2.2.2
  refine pcall_intro_v Try.func11 rfl (by decide) rfl (by decide) (by rw [Try.ntmps11]; simp) fun w0 M n0 => ivc_sound ?_; simp -dsimp only [Try.f11, go_sem, e1, e2, e3]
  intro g1 b1 hb1
  refine xcall_v (szLocks_p _ _ h 1048576 (by decide) (by decide)) (by simp -dsimp only [go_sem, rl_still, e4]) (fun _ => trivial) fun n1 hn1 => ?_
  simp -dsimp only [go_sem]
  intro hb
  have hs : Md.szLocks x ≤ 1048576 := by
    have := Md.szR_le _ _ hb
    omega
  simp -dsimp only [go_sem, e1, e2, e3]
  refine xcall_p (toLocks_p _ _ h hs) (by simp -dsimp only [go_sem, rl_still, e4]) fun m0 m1 r hm0 hm1 hr => ?_
  have hr1 := hr.1
  have ho1 := hr.2.tags
  have p := shp_locks _ _ hr1
  have p1 := p.1
  have p2 := p.2.1
  have p3 := p.2.2.1
  have p4 := p.2.2.2
  refine ⟨ho1, ?_⟩
  simp -dsimp only [go_sem, e1, e2, e3, p1, p2, p3]
  refine xcall_v (specLocksOk_p _ _ hr1) (by simp -dsimp only [go_sem, rl_still, e4, p4]) (fun _ => trivial) fun n2 hn2 => ?_
  simp -dsimp only [go_sem, e1, e2, e3, p1, p2, p3]
  refine xcall_p (toLocks_p _ _ h hs) (by simp -dsimp only [go_sem, rl_still, e4]) fun m2 m3 u hm2 hm3 hu => ?_
  have hu1 := hu.1
  have ho2 := hu.2.tags
  have t := shp_locks _ _ hu1
  have t1 := t.1
  have t2 := t.2.1
  have t3 := t.2.2.1
  have t4 := t.2.2.2
  refine ⟨ho2, ?_⟩
  simp -dsimp only [go_sem, e1, e2, e3, t1, t2, t3]
  intro g2 b2 hb2
  refine xcall_v (locksOk_p _ _ hu1) (by simp -dsimp only [go_sem, rl_still, e4, t4]) (fun _ => trivial) fun n3 hn3 => ?_
  simp -dsimp only [go_sem, e1, e2, e3, t1, t2, t3, bne_self_eq_false, Bool.not_true, Bool.not_false, Bool.false_eq_true, Bool.true_eq_false, false_imp_iff, true_and, and_true, forall_const, reduceCtorEq]
  refine iwp_plan [(0, true), (1, true), (2, false), (3, false), (4, true)] [1, 5] rfl (by decide +kernel) (by decide) [] (by decide +kernel) ?_
  simp -dsimp only [go_sem, e1, e2, e3, t1, t2, t3]
  refine xcall_p (toLocks_p _ _ h hs) (by simp -dsimp only [go_sem, rl_still, e4]) fun m4 m5 v hm4 hm5 hv => ?_
  have hv1 := hv.1
  have ho3 := hv.2.tags
  have w := shp_locks _ _ hv1
  have w1 := w.1
  have w2 := w.2.1
  have w3 := w.2.2.1
  have w4 := w.2.2.2
  refine ⟨ho3, ?_⟩
  simp -dsimp only [go_sem, e1, e2, e3, t1, t2, t3, w1, w2, w3]
  refine xcall_v (eqLocks_p _ _ _ hu1 hv1) (by simp -dsimp only [go_sem, rl_still, e4, t4, w4]) (fun _ => trivial) fun n4 hn4 => ?_
  simp -dsimp only [go_sem, bne_self_eq_false, Bool.not_true, Bool.not_false, Bool.false_eq_true, Bool.true_eq_false, false_imp_iff, true_and, and_true, forall_const, reduceCtorEq]
end Go.Proofs.Ytpepddckmddbiaa.IM
end
