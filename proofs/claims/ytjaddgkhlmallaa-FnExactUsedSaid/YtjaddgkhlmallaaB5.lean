/- Several of my texts in one module (merge.py). -/
import Derived.Test.YtjaddgkhlmallaaA6
import Derived.Test.YtjaddgkhlmallaaA4
import Derived.Test.YtjaddgkhlmallaaA3
section
/- Contracts: Redo. -/
namespace Go.Proofs.Ytjaddgkhlmallaa.IM
open Go Go.Proofs
set_option linter.unusedVariables false
set_option linter.unusedSimpArgs false
set_option maxHeartbeats 2000000
set_option maxRecDepth 20000

theorem tags_two' {v : D} {b : Value} {p : Nat → Prop} (h : v.tags p) : (D.tup 2 (nthD [v, .lit b])).tags p := fun i hi => by
  match i, hi with
  | 0, _ => exact h
  | 1, _ => trivial
theorem redo_no {x : Md.Page} {r : Md.Rec} (h : (Md.pageOk x && Md.recOk r && Md.changes r && decide (x.lsn < r.lsn)) = false) : Md.redo x r = (x, false) := by
  unfold Md.redo; rw [h]; rfl
theorem redo_yes {x : Md.Page} {r : Md.Rec} (h : (Md.pageOk x && Md.recOk r && Md.changes r && decide (x.lsn < r.lsn)) = true) : Md.redo x r = (⟨r.lsn, x.slots.set (r.oid % 4).toNat r.after⟩, true) := by
  unfold Md.redo; rw [h]; rfl
theorem redo_rg {r : Md.Rec} (h : Md.recOk r = true) (hc : Md.changes r = true) : 1 ≤ r.oid ∧ r.oid ≤ 31 ∧ Md.slotOk r.after = true ∧ 1 ≤ r.lsn ∧ r.lsn ≤ 1000000 := by
  simp only [Md.changes, Bool.or_eq_true, beq_iff_eq] at hc
  unfold Md.recOk at h
  rcases hc with hc | hc <;> simp [hc, Md.inB] at h <;> grind
theorem redo_set {x : Md.Page} {r : Md.Rec} (h : (Md.pageOk x && Md.recOk r && Md.changes r && decide (x.lsn < r.lsn)) = true) : Md.redo x r = Md.setSlot x (r.oid.tmod 4) r.after r.lsn := by
  rw [redo_yes h]
  simp only [Bool.and_eq_true, decide_eq_true_eq] at h
  obtain ⟨h1, h2, h3, h4, h5⟩ := redo_rg h.1.1.2 h.1.2
  have ht : r.oid.tmod 4 = r.oid % 4 := Int.tmod_eq_emod_of_nonneg (by omega)
  rw [setSlot_yes, ht]
  rw [ht, h.1.1.1, h3]
  simp only [Md.inB, Bool.true_and, Bool.and_true, Bool.and_eq_true, decide_eq_true_eq]
  omega

theorem changes_p (d : D) (r : Md.Rec) (h : IsRec d r) : PCall Try.prog 192 [d] fun _ _ x => x = .lit (.bool (Md.changes r)) := by
  obtain ⟨f, rfl, hst, k0, k1, k2, k3, k4, k5, k6, k7, k8⟩ := h
  have k3 : f 3 = _ := k3
  refine pcall_intro_v Try.func192 rfl (by decide) rfl (by decide) (by rw [Try.ntmps192]; simp) fun w0 M n0 => ivc_sound ?_; simp -dsimp only [Try.f192, go_sem, Nat.reduceLT, Nat.reduceEqDiff, Nat.reduceAdd, Nat.reduceMul, Nat.reduceBEq, beq_self_eq_true, Nat.reduceLeDiff, Nat.le_refl, Int.reduceEq, reduceCtorEq, k3]
  all_goals repeat' (first | refine ⟨?_, ?_⟩ | with_reducible intro _)
  all_goals simp_all [Md.changes]
theorem l4Redo_p (d dr : D) (x : Md.Page) (r : Md.Rec) (h : IsPage d x) (hr : IsRec dr r) (hs : Md.szPage x ≤ 1048576) (hs2 : Md.szRec r ≤ 1048576) (ho : 0 ≤ r.oid) :
    PCall Try.prog 193 [d, dr] fun n0 n1 z => IsPage z ⟨r.lsn, x.slots.set (r.oid % 4).toNat r.after⟩ ∧ Own n0 n1 z := by
  have hp := h
  obtain ⟨f0, rfl, hst, k0, hl, g0, hg, hgs, hf'⟩ := h
  have k0 : f0 0 = _ := k0
  have hds : (D.node (.agg [1, 16]) f0).still := hst
  obtain ⟨e, rfl, hest, j0, j1, j2, j3, j4, j5, j6, j7, j8⟩ := hr
  have j0 : e 0 = _ := j0
  have j4 : e 4 = _ := j4
  have q6 := shp_slot _ _ j6
  have hs3 : Md.szSlot r.after ≤ 1048576 := by unfold Md.szRec at hs2; omega
  have ht : r.oid.tmod 4 = r.oid % 4 := Int.tmod_eq_emod_of_nonneg ho
  have hi1 : 0 ≤ r.oid % 4 := by omega
  have hi2 : r.oid % 4 < 4 := by omega
  have hi3 : (r.oid % 4).toNat < 4 := by omega
  refine pcall_intro Try.func193 rfl (by decide) rfl (by decide) (by rw [Try.ntmps193]; simp) fun w0 M n0 hW => ivc_sound ?_; simp -dsimp only [Try.f193, go_sem, Nat.reduceLT, Nat.reduceEqDiff, Nat.reduceAdd, Nat.reduceMul, Nat.reduceBEq, beq_self_eq_true, Nat.reduceLeDiff, Nat.le_refl, Int.reduceEq, reduceCtorEq, k0, hg, j0, j4, q6.1, q6.2.1, q6.2.2.1]
  intro g1 b1 hb1 g2 b2 hb2 g3 b3 hb3
  refine xcall_p (l3Copy_p _ _ hp hs) (by simp -dsimp only [go_sem, Nat.reduceLT, Nat.reduceEqDiff, Nat.reduceAdd, Nat.reduceMul, Nat.reduceBEq, beq_self_eq_true, Nat.reduceLeDiff, Nat.le_refl, Int.reduceEq, reduceCtorEq, rl_still, hds]) fun m0 p0 r0 hm0 hp0 hr0 => ?_
  refine ⟨hr0.2.tags, ?_⟩
  have ho0 := hr0.2
  obtain ⟨q, rfl, hqs, q0, ql, g, hgq, hgs', hgf⟩ := hr0.1
  have q0 : q 0 = _ := q0
  have hge := hgf (r.oid % 4).toNat (by omega)
  have gq := shp_slot _ _ hge
  simp -dsimp only [go_sem, Nat.reduceLT, Nat.reduceEqDiff, Nat.reduceAdd, Nat.reduceMul, Nat.reduceBEq, beq_self_eq_true, Nat.reduceLeDiff, Nat.le_refl, Int.reduceEq, reduceCtorEq, k0, hg, hds, q0, hgq, j0, j4, q6.1, q6.2.1, q6.2.2.1]
  intro g5 b5 hb5
  refine iwp_plan [(0, true), (1, true), (2, true), (3, true), (4, true), (6, true), (5, false), (7, true), (8, false)] [3] rfl (by decide +kernel) (by decide) [] (by decide +kernel) ?_
  simp -dsimp only [go_sem, Nat.reduceLT, Nat.reduceEqDiff, Nat.reduceAdd, Nat.reduceMul, Nat.reduceBEq, beq_self_eq_true, Nat.reduceLeDiff, Nat.le_refl, Int.reduceEq, reduceCtorEq, k0, hg, hds, q0, hgq, j0, j4, q6.1, q6.2.1, q6.2.2.1, ht, hi1, hi2, hi3, gq.1, gq.2.1, gq.2.2.1]
  refine xcall_p (l3CopySlot_p _ _ j6 hs3) (by simp -dsimp only [go_sem, Nat.reduceLT, Nat.reduceEqDiff, Nat.reduceAdd, Nat.reduceMul, Nat.reduceBEq, beq_self_eq_true, Nat.reduceLeDiff, Nat.le_refl, Int.reduceEq, reduceCtorEq, rl_still, q6.2.2.2]) fun m1 p1 r1 hm1 hp1 hr1 => ?_
  have rq := shp_slot _ _ hr1.1
  refine ⟨hr1.2.tags, ?_⟩
  simp -dsimp only [go_sem, Nat.reduceLT, Nat.reduceEqDiff, Nat.reduceAdd, Nat.reduceMul, Nat.reduceBEq, beq_self_eq_true, Nat.reduceLeDiff, Nat.le_refl, Int.reduceEq, reduceCtorEq, k0, hg, hds, q0, hgq, j0, j4, q6.1, q6.2.1, q6.2.2.1, ht, hi1, hi2, hi3, gq.1, gq.2.1, gq.2.2.1, rq.1, rq.2.1, rq.2.2.1]
  refine ⟨by omega, ?_⟩
  intro n1 hn1 hfc
  have hst2 : ∀ j, ((upd (upd q 1 (.node (.arr 4 4) (upd g (r.oid % 4).toNat r1))) 0 (.lit (.int .i64 r.lsn))) j).still := still_upd (still_upd hqs (show (D.node _ _).still from still_upd hgs' rq.2.2.2)) trivial
  rw [rlnode_still hst2]
  have og : OwnN m0 p0 4 g := by
    have := (ho0.node.own (i := 1) (by decide))
    rw [hgq] at this
    exact this.node
  refine ⟨⟨_, rfl, hst2, by simp -dsimp only [go_sem, Nat.reduceLT, Nat.reduceEqDiff, Nat.reduceAdd, Nat.reduceMul, Nat.reduceBEq, beq_self_eq_true, Nat.reduceLeDiff, Nat.le_refl, Int.reduceEq, reduceCtorEq]; rfl, by simp -dsimp only [go_sem, Nat.reduceLT, Nat.reduceEqDiff, Nat.reduceAdd, Nat.reduceMul, Nat.reduceBEq, beq_self_eq_true, Nat.reduceLeDiff, Nat.le_refl, Int.reduceEq, reduceCtorEq]; exact isA_set ql hgs' hgf hr1.1 rq.2.2.2⟩, own_node ?_⟩
  exact OwnN.mono (hi := p1) (ownN_snoc_own (mid := n0) (hi := p1) (ownN_snoc_lit (ownN_zero n0 n0 _) (by simp -dsimp only [go_sem, Nat.reduceLT, Nat.reduceEqDiff, Nat.reduceAdd, Nat.reduceMul, Nat.reduceBEq, beq_self_eq_true, Nat.reduceLeDiff, Nat.le_refl, Int.reduceEq, reduceCtorEq]; rfl)) (by simp -dsimp only [go_sem, Nat.reduceLT, Nat.reduceEqDiff, Nat.reduceAdd, Nat.reduceMul, Nat.reduceBEq, beq_self_eq_true, Nat.reduceLeDiff, Nat.le_refl, Int.reduceEq, reduceCtorEq]; exact own_node (og.repl hr1.2 (by omega) (by omega) (by omega))) (by omega) (by omega) (by omega) (by omega)) (Nat.le_refl _) (by omega)
theorem specRedo_p (d dr : D) (x : Md.Page) (r : Md.Rec) (h : IsPage d x) (hr : IsRec dr r) (hs : Md.szPage x ≤ 1048576) (hs2 : Md.szRec r ≤ 1048576) :
    PCall Try.prog 95 [d, dr] fun n0 n1 z => Two (fun d => IsPage d (Md.redo x r).1 ∧ Own n0 n1 d) (.lit (.bool (Md.redo x r).2)) z := by
  have hp := h
  have hrr := hr
  have eq := shp_rec _ _ hr
  obtain ⟨f0, rfl, hst, k0, hl, g0, hg, hgs, hf'⟩ := h
  have k0 : f0 0 = _ := k0
  have hds : (D.node (.agg [1, 16]) f0).still := hst
  obtain ⟨e, rfl, hest, j0, j1, j2, j3, j4, j5, j6, j7, j8⟩ := hr
  have j0 : e 0 = _ := j0
  have j3 : e 3 = _ := j3
  have j4 : e 4 = _ := j4
  have q6 := shp_slot _ _ j6
  refine pcall_intro Try.func95 rfl (by decide) rfl (by decide) (by rw [Try.ntmps95]; simp) fun w0 M n0 hW => ivc_sound ?_; simp -dsimp only [Try.f95, go_sem, Nat.reduceLT, Nat.reduceEqDiff, Nat.reduceAdd, Nat.reduceMul, Nat.reduceBEq, beq_self_eq_true, Nat.reduceLeDiff, Nat.le_refl, Int.reduceEq, reduceCtorEq, k0, hg, j0, j3, j4, q6.1, q6.2.1, q6.2.2.1]
  intro g1 b1 hb1 g2 b2 hb2 g3 b3 hb3
  repeat' (first
    | (refine xcall_v (specPageOk_p _ _ hp) ?_ (fun _ => trivial) (fun _ _ => ?_); (focus (simp -dsimp only [go_sem, Nat.reduceLT, Nat.reduceEqDiff, Nat.reduceAdd, Nat.reduceMul, Nat.reduceBEq, beq_self_eq_true, Nat.reduceLeDiff, Nat.le_refl, Int.reduceEq, reduceCtorEq, rl_still, hds, k0, hg, hds, j0, j3, j4, q6.1, q6.2.1, q6.2.2.1]; first | done | rfl)); simp -dsimp only [go_sem, Nat.reduceLT, Nat.reduceEqDiff, Nat.reduceAdd, Nat.reduceMul, Nat.reduceBEq, beq_self_eq_true, Nat.reduceLeDiff, Nat.le_refl, Int.reduceEq, reduceCtorEq, k0, hg, hds, j0, j3, j4, q6.1, q6.2.1, q6.2.2.1])
    | (refine xcall_v (specRecOk_p _ _ hrr) ?_ (fun _ => trivial) (fun _ _ => ?_); (focus (simp -dsimp only [go_sem, Nat.reduceLT, Nat.reduceEqDiff, Nat.reduceAdd, Nat.reduceMul, Nat.reduceBEq, beq_self_eq_true, Nat.reduceLeDiff, Nat.le_refl, Int.reduceEq, reduceCtorEq, rl_still, eq.2.2.2, k0, hg, hds, j0, j3, j4, q6.1, q6.2.1, q6.2.2.1]; first | done | rfl)); simp -dsimp only [go_sem, Nat.reduceLT, Nat.reduceEqDiff, Nat.reduceAdd, Nat.reduceMul, Nat.reduceBEq, beq_self_eq_true, Nat.reduceLeDiff, Nat.le_refl, Int.reduceEq, reduceCtorEq, k0, hg, hds, j0, j3, j4, q6.1, q6.2.1, q6.2.2.1])
    | refine ⟨?_, ?_⟩ | with_reducible intro _)
  all_goals first
    | (refine xcall_p (l3Copy_p _ _ hp hs) ?_ fun m0 p0 r0 hm0 hp0 hr0 => ?_
       · simp -dsimp only [go_sem, Nat.reduceLT, Nat.reduceEqDiff, Nat.reduceAdd, Nat.reduceMul, Nat.reduceBEq, beq_self_eq_true, Nat.reduceLeDiff, Nat.le_refl, Int.reduceEq, reduceCtorEq, rl_still, hds]
       have st0 := shp_page _ _ hr0.1
       refine ⟨hr0.2.tags, ?_⟩
       simp -dsimp only [go_sem, Nat.reduceLT, Nat.reduceEqDiff, Nat.reduceAdd, Nat.reduceMul, Nat.reduceBEq, beq_self_eq_true, Nat.reduceLeDiff, Nat.le_refl, Int.reduceEq, reduceCtorEq, st0.1, st0.2.1, st0.2.2.1, rl_still, st0.2.2.2]
       intro n1 hn1 hfc
       rw [redo_no (by simp_all [Md.changes])]
       exact .mk _ ⟨hr0.1, hr0.2.mono (by omega) (by omega)⟩)
    | skip
  all_goals
    have hC : (Md.pageOk x && Md.recOk r && Md.changes r && decide (x.lsn < r.lsn)) = true := by simp_all [Md.changes] <;> omega
    have hC2 := hC
    simp only [Bool.and_eq_true, decide_eq_true_eq] at hC2
    have hg := redo_rg hC2.1.1.2 hC2.1.2
    refine xcall_p (l4Redo_p _ _ _ _ hp hrr hs hs2 (by omega)) (by simp -dsimp only [go_sem, Nat.reduceLT, Nat.reduceEqDiff, Nat.reduceAdd, Nat.reduceMul, Nat.reduceBEq, beq_self_eq_true, Nat.reduceLeDiff, Nat.le_refl, Int.reduceEq, reduceCtorEq, rl_still, hds, eq.2.2.2]) fun m0 p0 r0 hm0 hp0 hr0 => ?_
    have st0 := shp_page _ _ hr0.1
    refine ⟨hr0.2.tags, ?_⟩
    simp -dsimp only [go_sem, Nat.reduceLT, Nat.reduceEqDiff, Nat.reduceAdd, Nat.reduceMul, Nat.reduceBEq, beq_self_eq_true, Nat.reduceLeDiff, Nat.le_refl, Int.reduceEq, reduceCtorEq, st0.1, st0.2.1, st0.2.2.1, rl_still, st0.2.2.2]
    intro n1 hn1 hfc
    rw [redo_yes hC]
    exact .mk _ ⟨hr0.1, hr0.2.mono (by omega) (by omega)⟩
theorem redo_p (d dr : D) (x : Md.Page) (r : Md.Rec) (h : IsPage d x) (hr : IsRec dr r) (hs : Md.szPage x ≤ 1048576) (hs2 : Md.szRec r ≤ 1048576) :
    PCall Try.prog 94 [d, dr] fun n0 n1 z => Two (fun d => IsPage d (Md.redo x r).1 ∧ Own n0 n1 d) (.lit (.bool (Md.redo x r).2)) z := by
  have hp := h
  have hrr := hr
  have eq := shp_rec _ _ hr
  obtain ⟨f0, rfl, hst, k0, hl, g0, hg, hgs, hf'⟩ := h
  have k0 : f0 0 = _ := k0
  have hds : (D.node (.agg [1, 16]) f0).still := hst
  obtain ⟨e, rfl, hest, j0, j1, j2, j3, j4, j5, j6, j7, j8⟩ := hr
  have j0 : e 0 = _ := j0
  have j3 : e 3 = _ := j3
  have j4 : e 4 = _ := j4
  have q6 := shp_slot _ _ j6
  refine pcall_intro Try.func94 rfl (by decide) rfl (by decide) (by rw [Try.ntmps94]; simp) fun w0 M n0 hW => ivc_sound ?_; simp -dsimp only [Try.f94, go_sem, Nat.reduceLT, Nat.reduceEqDiff, Nat.reduceAdd, Nat.reduceMul, Nat.reduceBEq, beq_self_eq_true, Nat.reduceLeDiff, Nat.le_refl, Int.reduceEq, reduceCtorEq, k0, hg, j0, j3, j4, q6.1, q6.2.1, q6.2.2.1]
  intro g1 b1 hb1 g2 b2 hb2 g3 b3 hb3
  repeat' (first
    | (refine xcall_v (pageOk_p _ _ hp) ?_ (fun _ => trivial) (fun _ _ => ?_); (focus (simp -dsimp only [go_sem, Nat.reduceLT, Nat.reduceEqDiff, Nat.reduceAdd, Nat.reduceMul, Nat.reduceBEq, beq_self_eq_true, Nat.reduceLeDiff, Nat.le_refl, Int.reduceEq, reduceCtorEq, rl_still, hds, k0, hg, hds, j0, j3, j4, q6.1, q6.2.1, q6.2.2.1]; first | done | rfl)); simp -dsimp only [go_sem, Nat.reduceLT, Nat.reduceEqDiff, Nat.reduceAdd, Nat.reduceMul, Nat.reduceBEq, beq_self_eq_true, Nat.reduceLeDiff, Nat.le_refl, Int.reduceEq, reduceCtorEq, k0, hg, hds, j0, j3, j4, q6.1, q6.2.1, q6.2.2.1])
    | (refine xcall_v (recOk_p _ _ hrr) ?_ (fun _ => trivial) (fun _ _ => ?_); (focus (simp -dsimp only [go_sem, Nat.reduceLT, Nat.reduceEqDiff, Nat.reduceAdd, Nat.reduceMul, Nat.reduceBEq, beq_self_eq_true, Nat.reduceLeDiff, Nat.le_refl, Int.reduceEq, reduceCtorEq, rl_still, eq.2.2.2, k0, hg, hds, j0, j3, j4, q6.1, q6.2.1, q6.2.2.1]; first | done | rfl)); simp -dsimp only [go_sem, Nat.reduceLT, Nat.reduceEqDiff, Nat.reduceAdd, Nat.reduceMul, Nat.reduceBEq, beq_self_eq_true, Nat.reduceLeDiff, Nat.le_refl, Int.reduceEq, reduceCtorEq, k0, hg, hds, j0, j3, j4, q6.1, q6.2.1, q6.2.2.1])
    | (refine xcall_v (changes_p _ _ hrr) ?_ (fun _ => trivial) (fun _ _ => ?_); (focus (simp -dsimp only [go_sem, Nat.reduceLT, Nat.reduceEqDiff, Nat.reduceAdd, Nat.reduceMul, Nat.reduceBEq, beq_self_eq_true, Nat.reduceLeDiff, Nat.le_refl, Int.reduceEq, reduceCtorEq, rl_still, eq.2.2.2, k0, hg, hds, j0, j3, j4, q6.1, q6.2.1, q6.2.2.1]; first | done | rfl)); simp -dsimp only [go_sem, Nat.reduceLT, Nat.reduceEqDiff, Nat.reduceAdd, Nat.reduceMul, Nat.reduceBEq, beq_self_eq_true, Nat.reduceLeDiff, Nat.le_refl, Int.reduceEq, reduceCtorEq, k0, hg, hds, j0, j3, j4, q6.1, q6.2.1, q6.2.2.1])
    | refine ⟨?_, ?_⟩ | with_reducible intro _)
  all_goals first
    | (refine xcall_p (clonePage_p _ _ hp hs) ?_ fun m0 p0 r0 hm0 hp0 hr0 => ?_
       · simp -dsimp only [go_sem, Nat.reduceLT, Nat.reduceEqDiff, Nat.reduceAdd, Nat.reduceMul, Nat.reduceBEq, beq_self_eq_true, Nat.reduceLeDiff, Nat.le_refl, Int.reduceEq, reduceCtorEq, rl_still, hds]
       have st0 := shp_page _ _ hr0.1
       refine ⟨hr0.2.tags, ?_⟩
       simp -dsimp only [go_sem, Nat.reduceLT, Nat.reduceEqDiff, Nat.reduceAdd, Nat.reduceMul, Nat.reduceBEq, beq_self_eq_true, Nat.reduceLeDiff, Nat.le_refl, Int.reduceEq, reduceCtorEq, st0.1, st0.2.1, st0.2.2.1, rl_still, st0.2.2.2]
       intro n1 hn1 hfc
       rw [redo_no (by simp_all [Md.changes])]
       exact .mk _ ⟨hr0.1, hr0.2.mono (by omega) (by omega)⟩)
    | skip
  all_goals
    have hC : (Md.pageOk x && Md.recOk r && Md.changes r && decide (x.lsn < r.lsn)) = true := by simp_all [Md.changes] <;> omega
    have hs3 : Md.szSlot r.after ≤ 1048576 := by unfold Md.szRec at hs2; omega
    refine xcall_p (setSlot_p _ _ x (r.oid.tmod 4) r.after r.lsn hp j6 hs hs3) (by simp -dsimp only [go_sem, Nat.reduceLT, Nat.reduceEqDiff, Nat.reduceAdd, Nat.reduceMul, Nat.reduceBEq, beq_self_eq_true, Nat.reduceLeDiff, Nat.le_refl, Int.reduceEq, reduceCtorEq, rl_still, hds, q6.2.2.2]) fun m0 p0 r0w hm0 hp0 hr0w => ?_
    obtain ⟨r0, rfl, hr0⟩ := hr0w.out
    have st0 := shp_page _ _ hr0.1
    refine ⟨tags_two' hr0.2.tags, ?_⟩
    simp -dsimp only [go_sem, Nat.reduceLT, Nat.reduceEqDiff, Nat.reduceAdd, Nat.reduceMul, Nat.reduceBEq, beq_self_eq_true, Nat.reduceLeDiff, Nat.le_refl, Int.reduceEq, reduceCtorEq, st0.1, st0.2.1, st0.2.2.1, rl_still, st0.2.2.2]
    intro n1 hn1 hfc
    rw [redo_set hC]
    exact .mk _ ⟨hr0.1, hr0.2.mono (by omega) (by omega)⟩
end Go.Proofs.Ytjaddgkhlmallaa.IM
end

section
/- The law of SetSlot. Printed by laws_wr.py. -/
namespace Go.Proofs.Ytjaddgkhlmallaa.IM
open Go Go.Proofs
set_option linter.unusedVariables false
set_option linter.unusedSimpArgs false
set_option maxHeartbeats 2000000
set_option maxRecDepth 20000

theorem tags_two {v : D} {b : Value} {p : Nat → Prop} (h : v.tags p) : (D.tup 2 (nthD [v, .lit b])).tags p := fun i hi => by
  match i, hi with
  | 0, _ => exact h
  | 1, _ => trivial
@[go_sem] theorem early_extract {Ls : List Nat} {ev : Operand → D} (x : Operand) (i : Nat) : earlyOp Ls (.extract x i) ev = True := (rfl)
theorem fork_k {P : Program} {ops : Array Oper} {Ls B : List Nat} {R0 : Roots} {K : St → Prop} {p : Pl} {st : St} (Pp : St → Prop) (hK : ∀ st, Pp st → K st)
    (h : ∀ K' : St → Prop, (∀ st, Pp st → K' st) → vcTT P ops Ls B R0 K' p st) : vcTT P ops Ls B R0 K p st := h K hK

theorem sumBy_set {α : Type} (f : α → Nat) (l : List α) (i : Nat) (a : α) : Md.sumBy f (l.set i a) ≤ Md.sumBy f l + f a := by
  induction l generalizing i with
  | nil => simp [Md.sumBy]
  | cons b l ih =>
    cases i with
    | zero => simp only [List.set_cons_zero, Md.sumBy, List.map_cons, List.sum_cons]; omega
    | succ i => have := ih i; simp only [List.set_cons_succ, Md.sumBy, List.map_cons, List.sum_cons] at this ⊢; omega
theorem sz_setSlot (x : Md.Page) (slot : Int) (sl : Md.Slot) (lsn : Int) : Md.szPage (Md.setSlot x slot sl lsn).1 ≤ Md.szPage x + Md.szSlot sl := by
  cases h : (Md.pageOk x && Md.inB slot 0 3 && Md.slotOk sl && Md.inB lsn x.lsn 1000000)
  · rw [setSlot_no h]; exact Nat.le_add_right _ _
  · rw [setSlot_yes h]; exact sumBy_set _ _ _ _

theorem lawSetSlot (d dS : D) (x : Md.Page) (slot : Int) (sl : Md.Slot) (lsn : Int) (h : IsPage d x) (hS : IsSlot dS sl) : PCall Try.prog 8 [d, .lit (.int .i64 slot), dS, .lit (.int .i64 lsn)] fun _ _ r => r = .lit (.bool true) := by
  have q := shp_page _ _ h
  have e1 := q.1
  have e2 := q.2.1
  have e3 := q.2.2.1
  have e4 := q.2.2.2
  have q' := shp_slot _ _ hS
  have c1 := q'.1
  have c2 := q'.2.1
  have c3 := q'.2.2.1
  have c4 := q'.2.2.2
  refine pcall_intro_vt Try.func8 rfl (by decide) rfl (by decide) (by rw [Try.ntmps8]; simp) fun w0 M n0 hW hT => ivc_sound ?_; simp -dsimp only [Try.f8, go_sem, Nat.reduceLT, Nat.reduceEqDiff, Nat.reduceAdd, Nat.reduceMul, Nat.reduceBEq, beq_self_eq_true, Nat.reduceLeDiff, Nat.le_refl, Int.reduceEq, reduceCtorEq, e1, e2, e3, c1, c2, c3]
  have dT : d.tags (· < n0) := hT d (by simp) h.data
  have dST : dS.tags (· < n0) := hT dS (by simp) hS.data
  intro g1 b1 hb1 g2 b2 hb2
  refine xcall_v (szPage_p _ _ h 1048576 (by decide) (by decide)) (by simp -dsimp only [go_sem, Nat.reduceLT, Nat.reduceEqDiff, Nat.reduceAdd, Nat.reduceMul, Nat.reduceBEq, beq_self_eq_true, Nat.reduceLeDiff, Nat.le_refl, Int.reduceEq, reduceCtorEq, rl_still, e4]) (fun _ => trivial) fun n1 hn1 => ?_
  simp -dsimp only [go_sem, Nat.reduceLT, Nat.reduceEqDiff, Nat.reduceAdd, Nat.reduceMul, Nat.reduceBEq, beq_self_eq_true, Nat.reduceLeDiff, Nat.le_refl, Int.reduceEq, reduceCtorEq]
  intro hb
  have hs : Md.szPage x ≤ 1048576 := by
    have := Md.szR_le _ _ hb
    omega
  obtain ⟨l0, l1⟩ := Md.szR_rg _ _ (by decide) (by decide) hb
  simp -dsimp only [go_sem, Nat.reduceLT, Nat.reduceEqDiff, Nat.reduceAdd, Nat.reduceMul, Nat.reduceBEq, beq_self_eq_true, Nat.reduceLeDiff, Nat.le_refl, Int.reduceEq, reduceCtorEq, e1, e2, e3, c1, c2, c3]
  refine xcall_v (szSlot_p _ _ hS _ l0 l1) (by simp -dsimp only [go_sem, Nat.reduceLT, Nat.reduceEqDiff, Nat.reduceAdd, Nat.reduceMul, Nat.reduceBEq, beq_self_eq_true, Nat.reduceLeDiff, Nat.le_refl, Int.reduceEq, reduceCtorEq, rl_still, c4]) (fun _ => trivial) fun n2 hn2 => ?_
  simp -dsimp only [go_sem, Nat.reduceLT, Nat.reduceEqDiff, Nat.reduceAdd, Nat.reduceMul, Nat.reduceBEq, beq_self_eq_true, Nat.reduceLeDiff, Nat.le_refl, Int.reduceEq, reduceCtorEq]
  intro hb2'
  have hs2 : Md.szSlot sl ≤ 1048576 := by
    have := Md.szR_le _ _ hb2'
    omega
  refine iwp_planT (.early 0 (.early 2 (.early 3 (.early 5 (.fork 1 (.fork 4 (.fork 6 (.early 7 (.early 8 (.early 9 (.late 10 (.late 11 (.early 12 .done)))))) 10 (.late 6 (.early 7 (.early 8 (.early 9 (.late 11 (.early 12 .done))))))) 10 (.late 4 (.late 6 (.early 7 (.early 8 (.early 9 (.late 11 (.early 12 .done)))))))) 10 (.late 1 (.late 4 (.late 6 (.early 7 (.early 8 (.early 9 (.late 11 (.early 12 .done))))))))))))) [4, 6] [] rfl (by decide +kernel) (by decide) (by decide +kernel) ?_
  refine fork_k (fun st => ∃ n g b s D, st = { N := 129, n := n, s := s, R := upd (upd (upd (fun _ => none) 4 (some (g1, b1, d))) 6 (some (g2, b2, dS))) 10 (some (g, b, D)) } ∧
    n2 ≤ n ∧ s 1 = .lit (.int .i64 slot) ∧ s 3 = .lit (.int .i64 lsn) ∧ s 4 = .ptr 4 g1 0 [] ∧ s 6 = .ptr 6 g2 0 [] ∧ s 10 = .ptr 10 g 0 [] ∧
    s 11 = .lit (.bool (Md.setSlot x slot sl lsn).2) ∧ IsPage D (Md.setSlot x slot sl lsn).1 ∧ Own n2 n D) ?_ ?_
  · rintro st ⟨n, g, b, s, v, rfl, hn, v1, v3, v4, v6, v10, v11, vi, vo⟩
    have vp := shp_page _ _ vi
    have vp1 := vp.1
    have vp2 := vp.2.1
    have vp3 := vp.2.2.1
    have vp4 := vp.2.2.2
    simp -dsimp only [go_sem, Nat.reduceLT, Nat.reduceEqDiff, Nat.reduceAdd, Nat.reduceMul, Nat.reduceBEq, beq_self_eq_true, Nat.reduceLeDiff, Nat.le_refl, Int.reduceEq, reduceCtorEq, v1, v3, v4, v6, v10, v11, vp1, vp2, vp3, e1, e2, e3, c1, c2, c3]
    refine xcall_p (toPage_p _ _ h hs) (by simp -dsimp only [go_sem, Nat.reduceLT, Nat.reduceEqDiff, Nat.reduceAdd, Nat.reduceMul, Nat.reduceBEq, beq_self_eq_true, Nat.reduceLeDiff, Nat.le_refl, Int.reduceEq, reduceCtorEq, rl_still, e4]) fun xvlo xvhi xv hxvlo hxvhi hxv => ?_
    have xvo := hxv.2
    have xvi := hxv.1
    have xvp := shp_page _ _ xvi
    have xvp1 := xvp.1
    have xvp2 := xvp.2.1
    have xvp3 := xvp.2.2.1
    have xvp4 := xvp.2.2.2
    refine ⟨xvo.tags, ?_⟩
    simp -dsimp only [go_sem, Nat.reduceLT, Nat.reduceEqDiff, Nat.reduceAdd, Nat.reduceMul, Nat.reduceBEq, beq_self_eq_true, Nat.reduceLeDiff, Nat.le_refl, Int.reduceEq, reduceCtorEq, v1, v3, v4, v6, v10, v11, vp1, vp2, vp3, e1, e2, e3, c1, c2, c3, xvp1, xvp2, xvp3]
    intro g12 b12 hb12
    refine xcall_p (toSlot_p _ _ hS hs2) (by simp -dsimp only [go_sem, Nat.reduceLT, Nat.reduceEqDiff, Nat.reduceAdd, Nat.reduceMul, Nat.reduceBEq, beq_self_eq_true, Nat.reduceLeDiff, Nat.le_refl, Int.reduceEq, reduceCtorEq, rl_still, c4]) fun ulo uhi u hulo huhi hu => ?_
    have uo := hu.2
    have ui := hu.1
    have up := shp_slot _ _ ui
    have up1 := up.1
    have up2 := up.2.1
    have up3 := up.2.2.1
    have up4 := up.2.2.2
    refine ⟨uo.tags, ?_⟩
    simp -dsimp only [go_sem, Nat.reduceLT, Nat.reduceEqDiff, Nat.reduceAdd, Nat.reduceMul, Nat.reduceBEq, beq_self_eq_true, Nat.reduceLeDiff, Nat.le_refl, Int.reduceEq, reduceCtorEq, v1, v3, v4, v6, v10, v11, vp1, vp2, vp3, e1, e2, e3, c1, c2, c3, xvp1, xvp2, xvp3, up1, up2, up3]
    intro g13 b13 hb13
    refine xcall_p (setSlot_p _ _ _ slot _ lsn xvi ui hs hs2) (by simp -dsimp only [go_sem, Nat.reduceLT, Nat.reduceEqDiff, Nat.reduceAdd, Nat.reduceMul, Nat.reduceBEq, beq_self_eq_true, Nat.reduceLeDiff, Nat.le_refl, Int.reduceEq, reduceCtorEq, rl_still, xvp4, up4]) fun ylo yhi yw hylo hyhi hyw => ?_
    obtain ⟨y, rfl, hy⟩ := hyw.out
    have yo := hy.2
    have yi := hy.1
    have yp := shp_page _ _ yi
    have yp1 := yp.1
    have yp2 := yp.2.1
    have yp3 := yp.2.2.1
    have yp4 := yp.2.2.2
    refine ⟨tags_two yo.tags, ?_⟩
    simp -dsimp only [go_sem, Nat.reduceLT, Nat.reduceEqDiff, Nat.reduceAdd, Nat.reduceMul, Nat.reduceBEq, beq_self_eq_true, Nat.reduceLeDiff, Nat.le_refl, Int.reduceEq, reduceCtorEq, v1, v3, v4, v6, v10, v11, vp1, vp2, vp3, e1, e2, e3, c1, c2, c3, xvp1, xvp2, xvp3, up1, up2, up3, yp1, yp2, yp3]
    intro g14 b14 hb14
    refine xcall_v (eqPage_p _ _ _ yi vi) (by simp -dsimp only [go_sem, Nat.reduceLT, Nat.reduceEqDiff, Nat.reduceAdd, Nat.reduceMul, Nat.reduceBEq, beq_self_eq_true, Nat.reduceLeDiff, Nat.le_refl, Int.reduceEq, reduceCtorEq, rl_still, yp4, vp4]) (fun _ => trivial) fun n3 hn3 => ?_
    simp -dsimp only [go_sem, Nat.reduceLT, Nat.reduceEqDiff, Nat.reduceAdd, Nat.reduceMul, Nat.reduceBEq, beq_self_eq_true, Nat.reduceLeDiff, Nat.le_refl, Int.reduceEq, reduceCtorEq, v1, v3, v4, v6, v10, v11, vp1, vp2, vp3, e1, e2, e3, c1, c2, c3, xvp1, xvp2, xvp3, up1, up2, up3, yp1, yp2, yp3, bne_self_eq_false, Bool.not_true, Bool.not_false, Bool.false_eq_true, Bool.true_eq_false, false_imp_iff, true_and, and_true, forall_const, reduceCtorEq]
    refine iwp_plan [(0, true), (1, true), (2, false), (3, false), (4, true)] [4, 12] rfl (by decide +kernel) (by decide) [] (by decide +kernel) ?_
    simp -dsimp only [go_sem, Nat.reduceLT, Nat.reduceEqDiff, Nat.reduceAdd, Nat.reduceMul, Nat.reduceBEq, beq_self_eq_true, Nat.reduceLeDiff, Nat.le_refl, Int.reduceEq, reduceCtorEq, v1, v3, v4, v6, v10, v11, vp1, vp2, vp3, e1, e2, e3, c1, c2, c3, xvp1, xvp2, xvp3, up1, up2, up3, yp1, yp2, yp3]
    refine xcall_p (toPage_p _ _ h hs) (by simp -dsimp only [go_sem, Nat.reduceLT, Nat.reduceEqDiff, Nat.reduceAdd, Nat.reduceMul, Nat.reduceBEq, beq_self_eq_true, Nat.reduceLeDiff, Nat.le_refl, Int.reduceEq, reduceCtorEq, rl_still, e4]) fun zlo zhi z hzlo hzhi hz => ?_
    have zo := hz.2
    have zi := hz.1
    have zp := shp_page _ _ zi
    have zp1 := zp.1
    have zp2 := zp.2.1
    have zp3 := zp.2.2.1
    have zp4 := zp.2.2.2
    refine ⟨zo.tags, ?_⟩
    simp -dsimp only [go_sem, Nat.reduceLT, Nat.reduceEqDiff, Nat.reduceAdd, Nat.reduceMul, Nat.reduceBEq, beq_self_eq_true, Nat.reduceLeDiff, Nat.le_refl, Int.reduceEq, reduceCtorEq, v1, v3, v4, v6, v10, v11, vp1, vp2, vp3, e1, e2, e3, c1, c2, c3, xvp1, xvp2, xvp3, up1, up2, up3, yp1, yp2, yp3, zp1, zp2, zp3]
    refine xcall_v (eqPage_p _ _ _ xvi zi) (by simp -dsimp only [go_sem, Nat.reduceLT, Nat.reduceEqDiff, Nat.reduceAdd, Nat.reduceMul, Nat.reduceBEq, beq_self_eq_true, Nat.reduceLeDiff, Nat.le_refl, Int.reduceEq, reduceCtorEq, rl_still, xvp4, zp4]) (fun _ => trivial) fun n4 hn4 => ?_
    simp -dsimp only [go_sem, Nat.reduceLT, Nat.reduceEqDiff, Nat.reduceAdd, Nat.reduceMul, Nat.reduceBEq, beq_self_eq_true, Nat.reduceLeDiff, Nat.le_refl, Int.reduceEq, reduceCtorEq, v1, v3, v4, v6, v10, v11, vp1, vp2, vp3, e1, e2, e3, c1, c2, c3, xvp1, xvp2, xvp3, up1, up2, up3, yp1, yp2, yp3, zp1, zp2, zp3, bne_self_eq_false, Bool.not_true, Bool.not_false, Bool.false_eq_true, Bool.true_eq_false, false_imp_iff, true_and, and_true, forall_const, reduceCtorEq]
    refine iwp_plan [(0, true), (1, true), (2, false), (3, false), (4, true)] [6, 13] rfl (by decide +kernel) (by decide) [] (by decide +kernel) ?_
    simp -dsimp only [go_sem, Nat.reduceLT, Nat.reduceEqDiff, Nat.reduceAdd, Nat.reduceMul, Nat.reduceBEq, beq_self_eq_true, Nat.reduceLeDiff, Nat.le_refl, Int.reduceEq, reduceCtorEq, v1, v3, v4, v6, v10, v11, vp1, vp2, vp3, e1, e2, e3, c1, c2, c3, xvp1, xvp2, xvp3, up1, up2, up3, yp1, yp2, yp3]
    refine xcall_p (toSlot_p _ _ hS hs2) (by simp -dsimp only [go_sem, Nat.reduceLT, Nat.reduceEqDiff, Nat.reduceAdd, Nat.reduceMul, Nat.reduceBEq, beq_self_eq_true, Nat.reduceLeDiff, Nat.le_refl, Int.reduceEq, reduceCtorEq, rl_still, c4]) fun z2lo z2hi z2 hz2lo hz2hi hz2 => ?_
    have z2o := hz2.2
    have z2i := hz2.1
    have z2p := shp_slot _ _ z2i
    have z2p1 := z2p.1
    have z2p2 := z2p.2.1
    have z2p3 := z2p.2.2.1
    have z2p4 := z2p.2.2.2
    refine ⟨z2o.tags, ?_⟩
    simp -dsimp only [go_sem, Nat.reduceLT, Nat.reduceEqDiff, Nat.reduceAdd, Nat.reduceMul, Nat.reduceBEq, beq_self_eq_true, Nat.reduceLeDiff, Nat.le_refl, Int.reduceEq, reduceCtorEq, v1, v3, v4, v6, v10, v11, vp1, vp2, vp3, e1, e2, e3, c1, c2, c3, xvp1, xvp2, xvp3, up1, up2, up3, yp1, yp2, yp3, z2p1, z2p2, z2p3]
    refine xcall_v (eqSlot_p _ _ _ ui z2i) (by simp -dsimp only [go_sem, Nat.reduceLT, Nat.reduceEqDiff, Nat.reduceAdd, Nat.reduceMul, Nat.reduceBEq, beq_self_eq_true, Nat.reduceLeDiff, Nat.le_refl, Int.reduceEq, reduceCtorEq, rl_still, up4, z2p4]) (fun _ => trivial) fun n4 hn4 => ?_
    simp -dsimp only [go_sem, Nat.reduceLT, Nat.reduceEqDiff, Nat.reduceAdd, Nat.reduceMul, Nat.reduceBEq, beq_self_eq_true, Nat.reduceLeDiff, Nat.le_refl, Int.reduceEq, reduceCtorEq, v1, v3, v4, v6, v10, v11, vp1, vp2, vp3, e1, e2, e3, c1, c2, c3, xvp1, xvp2, xvp3, up1, up2, up3, yp1, yp2, yp3, z2p1, z2p2, z2p3, bne_self_eq_false, Bool.not_true, Bool.not_false, Bool.false_eq_true, Bool.true_eq_false, false_imp_iff, true_and, and_true, forall_const, reduceCtorEq]
    have hz := sz_setSlot x slot sl lsn
    refine xcall_mk (markPage_p xv x (1) _ _ xvi xvo (by decide) (by omega)) (by simp -dsimp only [go_sem, Nat.reduceLT, Nat.reduceEqDiff, Nat.reduceAdd, Nat.reduceMul, Nat.reduceBEq, beq_self_eq_true, Nat.reduceLeDiff, Nat.le_refl, Int.reduceEq, reduceCtorEq, v1, v3, v4, v6, v10, v11, vp1, vp2, vp3, e1, e2, e3, c1, c2, c3, xvp1, xvp2, xvp3, up1, up2, up3, yp1, yp2, yp3]) xvp3 xvp4 ⟨trivial, trivial⟩ (fun t ht => hW t (by have := xvo.rg t ht; omega)) [1, 3, 4, 6, 10, 11, 12, 13, 14, 15, 16] (fun _ _ => .any) (fun E => upd (upd (upd (upd (upd (upd (fun _ => none) 4 (some (g1, b1, d))) 6 (some (g2, b2, dS))) 10 (some (g, b, v))) 12 (some (g12, b12, E))) 13 (some (g13, b13, u))) 14 (some (g14, b14, y))) fun m1 nm1 hnm1 hm1 =>
        ⟨by simp -dsimp only [go_sem, Nat.reduceLT, Nat.reduceEqDiff, Nat.reduceAdd, Nat.reduceMul, Nat.reduceBEq, beq_self_eq_true, Nat.reduceLeDiff, Nat.le_refl, Int.reduceEq, reduceCtorEq, v1, v3, v4, v6, v10, v11, vp1, vp2, vp3, e1, e2, e3, c1, c2, c3, xvp1, xvp2, xvp3, up1, up2, up3, yp1, yp2, yp3], carry_any, ((((((CarR.none _ _ _).upd e3 (carry_lo xvo (by omega) dT)).upd c3 (carry_lo xvo (by omega) dST)).upd vp3 (carry_own xvo vo (.inr (by omega)))).upd (shp_page _ _ hm1.rel).2.2.1 .here).upd up3 (carry_own xvo uo (.inl (by omega)))).upd yp3 (carry_own xvo yo (.inl (by omega))), ?_⟩
    have m1p := shp_page _ _ hm1.rel
    have m1p1 := m1p.1
    have m1p2 := m1p.2.1
    have m1p3 := m1p.2.2.1
    have m1p4 := m1p.2.2.2
    have m1o := hm1.own xvo
    have m1i := hm1.rel
    simp -dsimp only [go_sem, Nat.reduceLT, Nat.reduceEqDiff, Nat.reduceAdd, Nat.reduceMul, Nat.reduceBEq, beq_self_eq_true, Nat.reduceLeDiff, Nat.le_refl, Int.reduceEq, reduceCtorEq, v1, v3, v4, v6, v10, v11, vp1, vp2, vp3, e1, e2, e3, c1, c2, c3, xvp1, xvp2, xvp3, up1, up2, up3, yp1, yp2, yp3, m1p1, m1p2, m1p3]
    refine xcall_mk (markSlot_p u sl (1 + (Md.szPage x : Nat)) _ _ ui uo (by omega) (by omega)) (by simp -dsimp only [go_sem, Nat.reduceLT, Nat.reduceEqDiff, Nat.reduceAdd, Nat.reduceMul, Nat.reduceBEq, beq_self_eq_true, Nat.reduceLeDiff, Nat.le_refl, Int.reduceEq, reduceCtorEq, v1, v3, v4, v6, v10, v11, vp1, vp2, vp3, e1, e2, e3, c1, c2, c3, xvp1, xvp2, xvp3, up1, up2, up3, yp1, yp2, yp3, m1p1, m1p2, m1p3]) up3 up4 ⟨trivial, trivial⟩ (fun t ht => hW t (by have := uo.rg t ht; omega)) [1, 3, 4, 6, 10, 11, 12, 13, 14, 15, 16] (fun _ _ => .any) (fun E => upd (upd (upd (upd (upd (upd (fun _ => none) 4 (some (g1, b1, d))) 6 (some (g2, b2, dS))) 10 (some (g, b, v))) 12 (some (g12, b12, m1))) 13 (some (g13, b13, E))) 14 (some (g14, b14, y))) fun m2 nm2 hnm2 hm2 =>
        ⟨by simp -dsimp only [go_sem, Nat.reduceLT, Nat.reduceEqDiff, Nat.reduceAdd, Nat.reduceMul, Nat.reduceBEq, beq_self_eq_true, Nat.reduceLeDiff, Nat.le_refl, Int.reduceEq, reduceCtorEq, v1, v3, v4, v6, v10, v11, vp1, vp2, vp3, e1, e2, e3, c1, c2, c3, xvp1, xvp2, xvp3, up1, up2, up3, yp1, yp2, yp3, m1p1, m1p2, m1p3], carry_any, ((((((CarR.none _ _ _).upd e3 (carry_lo uo (by omega) dT)).upd c3 (carry_lo uo (by omega) dST)).upd vp3 (carry_own uo vo (.inr (by omega)))).upd m1p3 (carry_own uo m1o (.inr (by omega)))).upd (shp_slot _ _ hm2.rel).2.2.1 .here).upd yp3 (carry_own uo yo (.inl (by omega))), ?_⟩
    have m2p := shp_slot _ _ hm2.rel
    have m2p1 := m2p.1
    have m2p2 := m2p.2.1
    have m2p3 := m2p.2.2.1
    have m2p4 := m2p.2.2.2
    have m2o := hm2.own uo
    have m2i := hm2.rel
    have hk : ¬ (1 + (Md.szPage x : Nat) + (Md.szSlot sl : Nat) < (0 : Int)) := by omega
    simp -dsimp only [go_sem, Nat.reduceLT, Nat.reduceEqDiff, Nat.reduceAdd, Nat.reduceMul, Nat.reduceBEq, beq_self_eq_true, Nat.reduceLeDiff, Nat.le_refl, Int.reduceEq, reduceCtorEq, v1, v3, v4, v6, v10, v11, vp1, vp2, vp3, e1, e2, e3, c1, c2, c3, xvp1, xvp2, xvp3, up1, up2, up3, yp1, yp2, yp3, m1p1, m1p2, m1p3, m2p1, m2p2, m2p3, hk, bne_self_eq_false, Bool.not_true, Bool.not_false, Bool.false_eq_true, Bool.true_eq_false, false_imp_iff, true_and, and_true, forall_const, reduceCtorEq, decide_false]
    refine xcall_v (eqPage_p _ _ _ yi vi) (by simp -dsimp only [go_sem, Nat.reduceLT, Nat.reduceEqDiff, Nat.reduceAdd, Nat.reduceMul, Nat.reduceBEq, beq_self_eq_true, Nat.reduceLeDiff, Nat.le_refl, Int.reduceEq, reduceCtorEq, rl_still, yp4, vp4]) (fun _ => trivial) fun n4 hn4 => ?_
    simp -dsimp only [go_sem, Nat.reduceLT, Nat.reduceEqDiff, Nat.reduceAdd, Nat.reduceMul, Nat.reduceBEq, beq_self_eq_true, Nat.reduceLeDiff, Nat.le_refl, Int.reduceEq, reduceCtorEq, v1, v3, v4, v6, v10, v11, vp1, vp2, vp3, e1, e2, e3, c1, c2, c3, xvp1, xvp2, xvp3, up1, up2, up3, yp1, yp2, yp3, m1p1, m1p2, m1p3, m2p1, m2p2, m2p3, hk, decide_false, bne_self_eq_false, Bool.not_true, Bool.not_false, Bool.false_eq_true, Bool.true_eq_false, false_imp_iff, true_and, and_true, forall_const, reduceCtorEq]
    refine xcall_mk (markPage_p y _ (1) _ _ yi yo (by decide) (by omega)) (by simp -dsimp only [go_sem, Nat.reduceLT, Nat.reduceEqDiff, Nat.reduceAdd, Nat.reduceMul, Nat.reduceBEq, beq_self_eq_true, Nat.reduceLeDiff, Nat.le_refl, Int.reduceEq, reduceCtorEq, v1, v3, v4, v6, v10, v11, vp1, vp2, vp3, e1, e2, e3, c1, c2, c3, xvp1, xvp2, xvp3, up1, up2, up3, yp1, yp2, yp3, m1p1, m1p2, m1p3, m2p1, m2p2, m2p3, hk]) yp3 yp4 ⟨trivial, trivial⟩ (fun t ht => hW t (by have := yo.rg t ht; omega)) [1, 3, 4, 6, 10, 11, 12, 13, 14, 15, 16] (fun _ _ => .any) (fun E => upd (upd (upd (upd (upd (upd (fun _ => none) 4 (some (g1, b1, d))) 6 (some (g2, b2, dS))) 10 (some (g, b, v))) 12 (some (g12, b12, m1))) 13 (some (g13, b13, m2))) 14 (some (g14, b14, E))) fun m3 nm3 hnm3 hm3 =>
        ⟨by simp -dsimp only [go_sem, Nat.reduceLT, Nat.reduceEqDiff, Nat.reduceAdd, Nat.reduceMul, Nat.reduceBEq, beq_self_eq_true, Nat.reduceLeDiff, Nat.le_refl, Int.reduceEq, reduceCtorEq, v1, v3, v4, v6, v10, v11, vp1, vp2, vp3, e1, e2, e3, c1, c2, c3, xvp1, xvp2, xvp3, up1, up2, up3, yp1, yp2, yp3, m1p1, m1p2, m1p3, m2p1, m2p2, m2p3, hk], carry_any, ((((((CarR.none _ _ _).upd e3 (carry_lo yo (by omega) dT)).upd c3 (carry_lo yo (by omega) dST)).upd vp3 (carry_own yo vo (.inr (by omega)))).upd m1p3 (carry_own yo m1o (.inr (by omega)))).upd m2p3 (carry_own yo m2o (.inr (by omega)))).upd (shp_page _ _ hm3.rel).2.2.1 .here, ?_⟩
    have m3p := shp_page _ _ hm3.rel
    have m3p1 := m3p.1
    have m3p2 := m3p.2.1
    have m3p3 := m3p.2.2.1
    have m3p4 := m3p.2.2.2
    have m3o := hm3.own yo
    have m3i := hm3.rel
    simp -dsimp only [go_sem, Nat.reduceLT, Nat.reduceEqDiff, Nat.reduceAdd, Nat.reduceMul, Nat.reduceBEq, beq_self_eq_true, Nat.reduceLeDiff, Nat.le_refl, Int.reduceEq, reduceCtorEq, v1, v3, v4, v6, v10, v11, vp1, vp2, vp3, e1, e2, e3, c1, c2, c3, xvp1, xvp2, xvp3, up1, up2, up3, yp1, yp2, yp3, m1p1, m1p2, m1p3, m2p1, m2p2, m2p3, hk, m3p1, m3p2, m3p3]
    refine xcall_v (heldPage_p _ (Md.setSlot x slot sl lsn).1 (1) m3i (by decide) (by omega)) (by simp -dsimp only [go_sem, Nat.reduceLT, Nat.reduceEqDiff, Nat.reduceAdd, Nat.reduceMul, Nat.reduceBEq, beq_self_eq_true, Nat.reduceLeDiff, Nat.le_refl, Int.reduceEq, reduceCtorEq, rl_still, m3p4]) (fun _ => trivial) fun n7 hn7 => ?_
    have hk2 : ¬ (1 + (Md.szPage (Md.setSlot x slot sl lsn).1 : Nat) < (0 : Int)) := by omega
    simp -dsimp only [go_sem, Nat.reduceLT, Nat.reduceEqDiff, Nat.reduceAdd, Nat.reduceMul, Nat.reduceBEq, beq_self_eq_true, Nat.reduceLeDiff, Nat.le_refl, Int.reduceEq, reduceCtorEq, v1, v3, v4, v6, v10, v11, vp1, vp2, vp3, e1, e2, e3, c1, c2, c3, xvp1, xvp2, xvp3, up1, up2, up3, yp1, yp2, yp3, m1p1, m1p2, m1p3, m2p1, m2p2, m2p3, hk, m3p1, m3p2, m3p3, hk2, bne_self_eq_false, Bool.not_true, Bool.not_false, Bool.false_eq_true, Bool.true_eq_false, false_imp_iff, true_and, and_true, forall_const, reduceCtorEq, decide_false]
    refine iwp_planT (.early 0 (.early 2 (.early 3 (.early 5 (.fork 1 (.fork 4 (.fork 6 (.early 7 (.early 8 (.early 9 (.late 10 (.late 11 (.early 12 .done)))))) 10 (.late 6 (.early 7 (.early 8 (.early 9 (.late 11 (.early 12 .done))))))) 10 (.late 4 (.late 6 (.early 7 (.early 8 (.early 9 (.late 11 (.early 12 .done)))))))) 10 (.late 1 (.late 4 (.late 6 (.early 7 (.early 8 (.early 9 (.late 11 (.early 12 .done))))))))))))) [4, 6] [] rfl (by decide +kernel) (by decide) (by decide +kernel) ?_
    refine fork_k (fun st => ∃ n' g19 b19 s' D, st = { N := 129, n := n', s := s', R := upd (upd (upd (upd (upd (upd (upd (fun _ => none) 4 (some (g1, b1, d))) 6 (some (g2, b2, dS))) 10 (some (g, b, v))) 12 (some (g12, b12, m1))) 13 (some (g13, b13, m2))) 14 (some (g14, b14, m3))) 19 (some (g19, b19, D)) } ∧
      n7 ≤ n' ∧ s' 10 = .ptr 10 g 0 [] ∧ s' 11 = .lit (.bool (Md.setSlot x slot sl lsn).2) ∧ s' 14 = .ptr 14 g14 0 [] ∧ s' 17 = .lit (.int .i64 (1 + (Md.szPage (Md.setSlot x slot sl lsn).1 : Nat))) ∧ s' 19 = .ptr 19 g19 0 [] ∧
      s' 20 = .lit (.bool (Md.setSlot x slot sl lsn).2) ∧ IsPage D (Md.setSlot x slot sl lsn).1) ?_ ?_
    · rintro st ⟨n', g19, b19, s', hv, rfl, hn', z10, z11, z14, z17, z19, z20, hvi⟩
      have hp := shp_page _ _ hvi
      have hp1 := hp.1
      have hp2 := hp.2.1
      have hp3 := hp.2.2.1
      have hp4 := hp.2.2.2
      have hvp4 := hp4
      simp -dsimp only [go_sem, Nat.reduceLT, Nat.reduceEqDiff, Nat.reduceAdd, Nat.reduceMul, Nat.reduceBEq, beq_self_eq_true, Nat.reduceLeDiff, Nat.le_refl, Int.reduceEq, reduceCtorEq, z10, z11, z14, z17, z19, z20, hp1, hp2, hp3, vp1, vp2, vp3, m3p1, m3p2, m3p3, hk2]
      refine xcall_v (eqPage_p _ _ _ hvi vi) (by simp -dsimp only [go_sem, Nat.reduceLT, Nat.reduceEqDiff, Nat.reduceAdd, Nat.reduceMul, Nat.reduceBEq, beq_self_eq_true, Nat.reduceLeDiff, Nat.le_refl, Int.reduceEq, reduceCtorEq, rl_still, hvp4, vp4]) (fun _ => trivial) fun n4 hn4 => ?_
      simp -dsimp only [go_sem, Nat.reduceLT, Nat.reduceEqDiff, Nat.reduceAdd, Nat.reduceMul, Nat.reduceBEq, beq_self_eq_true, Nat.reduceLeDiff, Nat.le_refl, Int.reduceEq, reduceCtorEq, z10, z11, z14, z17, z19, z20, hp1, hp2, hp3, vp1, vp2, vp3, m3p1, m3p2, m3p3, hk2, decide_false, bne_self_eq_false, Bool.not_true, Bool.not_false, Bool.false_eq_true, Bool.true_eq_false, false_imp_iff, true_and, and_true, forall_const, reduceCtorEq]
      refine xcall_v (heldPage_p _ (Md.setSlot x slot sl lsn).1 (1) m3i (by decide) (by omega)) (by simp -dsimp only [go_sem, Nat.reduceLT, Nat.reduceEqDiff, Nat.reduceAdd, Nat.reduceMul, Nat.reduceBEq, beq_self_eq_true, Nat.reduceLeDiff, Nat.le_refl, Int.reduceEq, reduceCtorEq, rl_still, m3p4]) (fun _ => trivial) fun n9 hn9 => ?_
      simp -dsimp only [go_sem, Nat.reduceLT, Nat.reduceEqDiff, Nat.reduceAdd, Nat.reduceMul, Nat.reduceBEq, beq_self_eq_true, Nat.reduceLeDiff, Nat.le_refl, Int.reduceEq, reduceCtorEq, z10, z11, z14, z17, z19, z20, hp1, hp2, hp3, vp1, vp2, vp3, m3p1, m3p2, m3p3, hk2, bne_self_eq_false, Bool.not_true, Bool.not_false, Bool.false_eq_true, Bool.true_eq_false, false_imp_iff, true_and, and_true, forall_const, reduceCtorEq, decide_false]
    · intro K hK
      simp -dsimp only [go_sem, Nat.reduceLT, Nat.reduceEqDiff, Nat.reduceAdd, Nat.reduceMul, Nat.reduceBEq, beq_self_eq_true, Nat.reduceLeDiff, Nat.le_refl, Int.reduceEq, reduceCtorEq, v1, v3, v4, v6, v10, v11, vp1, vp2, vp3, e1, e2, e3, c1, c2, c3, xvp1, xvp2, xvp3, up1, up2, up3, yp1, yp2, yp3, m1p1, m1p2, m1p3, m2p1, m2p2, m2p3, hk, m3p1, m3p2, m3p3, hk2]
      refine ⟨?_, ?_⟩
      · refine xcall_p (toPage_p _ _ h hs) (by simp -dsimp only [go_sem, Nat.reduceLT, Nat.reduceEqDiff, Nat.reduceAdd, Nat.reduceMul, Nat.reduceBEq, beq_self_eq_true, Nat.reduceLeDiff, Nat.le_refl, Int.reduceEq, reduceCtorEq, rl_still, e4]) fun r2lo r2hi r2 hr2lo hr2hi hr2 => ?_
        have r2o := hr2.2
        have r2i := hr2.1
        have r2p := shp_page _ _ r2i
        have r2p1 := r2p.1
        have r2p2 := r2p.2.1
        have r2p3 := r2p.2.2.1
        have r2p4 := r2p.2.2.2
        refine ⟨r2o.tags, ?_⟩
        simp -dsimp only [go_sem, Nat.reduceLT, Nat.reduceEqDiff, Nat.reduceAdd, Nat.reduceMul, Nat.reduceBEq, beq_self_eq_true, Nat.reduceLeDiff, Nat.le_refl, Int.reduceEq, reduceCtorEq, v1, v3, v4, v6, v10, v11, vp1, vp2, vp3, e1, e2, e3, c1, c2, c3, xvp1, xvp2, xvp3, up1, up2, up3, yp1, yp2, yp3, m1p1, m1p2, m1p3, m2p1, m2p2, m2p3, hk, m3p1, m3p2, m3p3, hk2, r2p1, r2p2, r2p3]
        refine ⟨?_, ?_⟩
        · refine xcall_p (toSlot_p _ _ hS hs2) (by simp -dsimp only [go_sem, Nat.reduceLT, Nat.reduceEqDiff, Nat.reduceAdd, Nat.reduceMul, Nat.reduceBEq, beq_self_eq_true, Nat.reduceLeDiff, Nat.le_refl, Int.reduceEq, reduceCtorEq, rl_still, c4]) fun u2lo u2hi u2 hu2lo hu2hi hu2 => ?_
          have u2o := hu2.2
          have u2i := hu2.1
          have u2p := shp_slot _ _ u2i
          have u2p1 := u2p.1
          have u2p2 := u2p.2.1
          have u2p3 := u2p.2.2.1
          have u2p4 := u2p.2.2.2
          refine ⟨u2o.tags, ?_⟩
          simp -dsimp only [go_sem, Nat.reduceLT, Nat.reduceEqDiff, Nat.reduceAdd, Nat.reduceMul, Nat.reduceBEq, beq_self_eq_true, Nat.reduceLeDiff, Nat.le_refl, Int.reduceEq, reduceCtorEq, v1, v3, v4, v6, v10, v11, vp1, vp2, vp3, e1, e2, e3, c1, c2, c3, xvp1, xvp2, xvp3, up1, up2, up3, yp1, yp2, yp3, m1p1, m1p2, m1p3, m2p1, m2p2, m2p3, hk, m3p1, m3p2, m3p3, hk2, r2p1, r2p2, r2p3, u2p1, u2p2, u2p3]
          refine ⟨?_, ?_⟩
          · refine xcall_p (setSlot_p _ _ _ slot _ lsn r2i u2i hs hs2) (by simp -dsimp only [go_sem, Nat.reduceLT, Nat.reduceEqDiff, Nat.reduceAdd, Nat.reduceMul, Nat.reduceBEq, beq_self_eq_true, Nat.reduceLeDiff, Nat.le_refl, Int.reduceEq, reduceCtorEq, rl_still, r2p4, u2p4]) fun v2lo v2hi v2w hv2lo hv2hi hv2w => ?_
            obtain ⟨v2, rfl, hv2⟩ := hv2w.out
            have v2o := hv2.2
            have v2i := hv2.1
            have v2p := shp_page _ _ v2i
            have v2p1 := v2p.1
            have v2p2 := v2p.2.1
            have v2p3 := v2p.2.2.1
            have v2p4 := v2p.2.2.2
            refine ⟨tags_two v2o.tags, ?_⟩
            simp -dsimp only [go_sem, Nat.reduceLT, Nat.reduceEqDiff, Nat.reduceAdd, Nat.reduceMul, Nat.reduceBEq, beq_self_eq_true, Nat.reduceLeDiff, Nat.le_refl, Int.reduceEq, reduceCtorEq, v1, v3, v4, v6, v10, v11, vp1, vp2, vp3, e1, e2, e3, c1, c2, c3, xvp1, xvp2, xvp3, up1, up2, up3, yp1, yp2, yp3, m1p1, m1p2, m1p3, m2p1, m2p2, m2p3, hk, m3p1, m3p2, m3p3, hk2, r2p1, r2p2, r2p3, u2p1, u2p2, u2p3, v2p1, v2p2, v2p3]
            intro g19 b19 hb19
            exact hK _ ⟨_, _, _, _, _, rfl, by omega, by simp -dsimp only [go_sem, Nat.reduceLT, Nat.reduceEqDiff, Nat.reduceAdd, Nat.reduceMul, Nat.reduceBEq, beq_self_eq_true, Nat.reduceLeDiff, Nat.le_refl, Int.reduceEq, reduceCtorEq], by simp -dsimp only [go_sem, Nat.reduceLT, Nat.reduceEqDiff, Nat.reduceAdd, Nat.reduceMul, Nat.reduceBEq, beq_self_eq_true, Nat.reduceLeDiff, Nat.le_refl, Int.reduceEq, reduceCtorEq], by simp -dsimp only [go_sem, Nat.reduceLT, Nat.reduceEqDiff, Nat.reduceAdd, Nat.reduceMul, Nat.reduceBEq, beq_self_eq_true, Nat.reduceLeDiff, Nat.le_refl, Int.reduceEq, reduceCtorEq], by simp -dsimp only [go_sem, Nat.reduceLT, Nat.reduceEqDiff, Nat.reduceAdd, Nat.reduceMul, Nat.reduceBEq, beq_self_eq_true, Nat.reduceLeDiff, Nat.le_refl, Int.reduceEq, reduceCtorEq], by simp -dsimp only [go_sem, Nat.reduceLT, Nat.reduceEqDiff, Nat.reduceAdd, Nat.reduceMul, Nat.reduceBEq, beq_self_eq_true, Nat.reduceLeDiff, Nat.le_refl, Int.reduceEq, reduceCtorEq], by simp -dsimp only [go_sem, Nat.reduceLT, Nat.reduceEqDiff, Nat.reduceAdd, Nat.reduceMul, Nat.reduceBEq, beq_self_eq_true, Nat.reduceLeDiff, Nat.le_refl, Int.reduceEq, reduceCtorEq], v2i⟩
          · intro g19 b19 hb19
            refine xcall_p (setSlot_p _ _ _ slot _ lsn r2i u2i hs hs2) (by simp -dsimp only [go_sem, Nat.reduceLT, Nat.reduceEqDiff, Nat.reduceAdd, Nat.reduceMul, Nat.reduceBEq, beq_self_eq_true, Nat.reduceLeDiff, Nat.le_refl, Int.reduceEq, reduceCtorEq, rl_still, r2p4, u2p4]) fun v2lo v2hi v2w hv2lo hv2hi hv2w => ?_
            obtain ⟨v2, rfl, hv2⟩ := hv2w.out
            have v2o := hv2.2
            have v2i := hv2.1
            have v2p := shp_page _ _ v2i
            have v2p1 := v2p.1
            have v2p2 := v2p.2.1
            have v2p3 := v2p.2.2.1
            have v2p4 := v2p.2.2.2
            refine ⟨tags_two v2o.tags, ?_⟩
            simp -dsimp only [go_sem, Nat.reduceLT, Nat.reduceEqDiff, Nat.reduceAdd, Nat.reduceMul, Nat.reduceBEq, beq_self_eq_true, Nat.reduceLeDiff, Nat.le_refl, Int.reduceEq, reduceCtorEq, v1, v3, v4, v6, v10, v11, vp1, vp2, vp3, e1, e2, e3, c1, c2, c3, xvp1, xvp2, xvp3, up1, up2, up3, yp1, yp2, yp3, m1p1, m1p2, m1p3, m2p1, m2p2, m2p3, hk, m3p1, m3p2, m3p3, hk2, r2p1, r2p2, r2p3, u2p1, u2p2, u2p3, v2p1, v2p2, v2p3]
            exact hK _ ⟨_, _, _, _, _, rfl, by omega, by simp -dsimp only [go_sem, Nat.reduceLT, Nat.reduceEqDiff, Nat.reduceAdd, Nat.reduceMul, Nat.reduceBEq, beq_self_eq_true, Nat.reduceLeDiff, Nat.le_refl, Int.reduceEq, reduceCtorEq], by simp -dsimp only [go_sem, Nat.reduceLT, Nat.reduceEqDiff, Nat.reduceAdd, Nat.reduceMul, Nat.reduceBEq, beq_self_eq_true, Nat.reduceLeDiff, Nat.le_refl, Int.reduceEq, reduceCtorEq], by simp -dsimp only [go_sem, Nat.reduceLT, Nat.reduceEqDiff, Nat.reduceAdd, Nat.reduceMul, Nat.reduceBEq, beq_self_eq_true, Nat.reduceLeDiff, Nat.le_refl, Int.reduceEq, reduceCtorEq], by simp -dsimp only [go_sem, Nat.reduceLT, Nat.reduceEqDiff, Nat.reduceAdd, Nat.reduceMul, Nat.reduceBEq, beq_self_eq_true, Nat.reduceLeDiff, Nat.le_refl, Int.reduceEq, reduceCtorEq], by simp -dsimp only [go_sem, Nat.reduceLT, Nat.reduceEqDiff, Nat.reduceAdd, Nat.reduceMul, Nat.reduceBEq, beq_self_eq_true, Nat.reduceLeDiff, Nat.le_refl, Int.reduceEq, reduceCtorEq], by simp -dsimp only [go_sem, Nat.reduceLT, Nat.reduceEqDiff, Nat.reduceAdd, Nat.reduceMul, Nat.reduceBEq, beq_self_eq_true, Nat.reduceLeDiff, Nat.le_refl, Int.reduceEq, reduceCtorEq], v2i⟩
        · intro g19 b19 hb19
          refine xcall_p (toSlot_p _ _ hS hs2) (by simp -dsimp only [go_sem, Nat.reduceLT, Nat.reduceEqDiff, Nat.reduceAdd, Nat.reduceMul, Nat.reduceBEq, beq_self_eq_true, Nat.reduceLeDiff, Nat.le_refl, Int.reduceEq, reduceCtorEq, rl_still, c4]) fun u2lo u2hi u2 hu2lo hu2hi hu2 => ?_
          have u2o := hu2.2
          have u2i := hu2.1
          have u2p := shp_slot _ _ u2i
          have u2p1 := u2p.1
          have u2p2 := u2p.2.1
          have u2p3 := u2p.2.2.1
          have u2p4 := u2p.2.2.2
          refine ⟨u2o.tags, ?_⟩
          simp -dsimp only [go_sem, Nat.reduceLT, Nat.reduceEqDiff, Nat.reduceAdd, Nat.reduceMul, Nat.reduceBEq, beq_self_eq_true, Nat.reduceLeDiff, Nat.le_refl, Int.reduceEq, reduceCtorEq, v1, v3, v4, v6, v10, v11, vp1, vp2, vp3, e1, e2, e3, c1, c2, c3, xvp1, xvp2, xvp3, up1, up2, up3, yp1, yp2, yp3, m1p1, m1p2, m1p3, m2p1, m2p2, m2p3, hk, m3p1, m3p2, m3p3, hk2, r2p1, r2p2, r2p3, u2p1, u2p2, u2p3]
          refine xcall_p (setSlot_p _ _ _ slot _ lsn r2i u2i hs hs2) (by simp -dsimp only [go_sem, Nat.reduceLT, Nat.reduceEqDiff, Nat.reduceAdd, Nat.reduceMul, Nat.reduceBEq, beq_self_eq_true, Nat.reduceLeDiff, Nat.le_refl, Int.reduceEq, reduceCtorEq, rl_still, r2p4, u2p4]) fun v2lo v2hi v2w hv2lo hv2hi hv2w => ?_
          obtain ⟨v2, rfl, hv2⟩ := hv2w.out
          have v2o := hv2.2
          have v2i := hv2.1
          have v2p := shp_page _ _ v2i
          have v2p1 := v2p.1
          have v2p2 := v2p.2.1
          have v2p3 := v2p.2.2.1
          have v2p4 := v2p.2.2.2
          refine ⟨tags_two v2o.tags, ?_⟩
          simp -dsimp only [go_sem, Nat.reduceLT, Nat.reduceEqDiff, Nat.reduceAdd, Nat.reduceMul, Nat.reduceBEq, beq_self_eq_true, Nat.reduceLeDiff, Nat.le_refl, Int.reduceEq, reduceCtorEq, v1, v3, v4, v6, v10, v11, vp1, vp2, vp3, e1, e2, e3, c1, c2, c3, xvp1, xvp2, xvp3, up1, up2, up3, yp1, yp2, yp3, m1p1, m1p2, m1p3, m2p1, m2p2, m2p3, hk, m3p1, m3p2, m3p3, hk2, r2p1, r2p2, r2p3, u2p1, u2p2, u2p3, v2p1, v2p2, v2p3]
          exact hK _ ⟨_, _, _, _, _, rfl, by omega, by simp -dsimp only [go_sem, Nat.reduceLT, Nat.reduceEqDiff, Nat.reduceAdd, Nat.reduceMul, Nat.reduceBEq, beq_self_eq_true, Nat.reduceLeDiff, Nat.le_refl, Int.reduceEq, reduceCtorEq], by simp -dsimp only [go_sem, Nat.reduceLT, Nat.reduceEqDiff, Nat.reduceAdd, Nat.reduceMul, Nat.reduceBEq, beq_self_eq_true, Nat.reduceLeDiff, Nat.le_refl, Int.reduceEq, reduceCtorEq], by simp -dsimp only [go_sem, Nat.reduceLT, Nat.reduceEqDiff, Nat.reduceAdd, Nat.reduceMul, Nat.reduceBEq, beq_self_eq_true, Nat.reduceLeDiff, Nat.le_refl, Int.reduceEq, reduceCtorEq], by simp -dsimp only [go_sem, Nat.reduceLT, Nat.reduceEqDiff, Nat.reduceAdd, Nat.reduceMul, Nat.reduceBEq, beq_self_eq_true, Nat.reduceLeDiff, Nat.le_refl, Int.reduceEq, reduceCtorEq], by simp -dsimp only [go_sem, Nat.reduceLT, Nat.reduceEqDiff, Nat.reduceAdd, Nat.reduceMul, Nat.reduceBEq, beq_self_eq_true, Nat.reduceLeDiff, Nat.le_refl, Int.reduceEq, reduceCtorEq], by simp -dsimp only [go_sem, Nat.reduceLT, Nat.reduceEqDiff, Nat.reduceAdd, Nat.reduceMul, Nat.reduceBEq, beq_self_eq_true, Nat.reduceLeDiff, Nat.le_refl, Int.reduceEq, reduceCtorEq], v2i⟩
      · intro g19 b19 hb19
        refine xcall_p (toPage_p _ _ h hs) (by simp -dsimp only [go_sem, Nat.reduceLT, Nat.reduceEqDiff, Nat.reduceAdd, Nat.reduceMul, Nat.reduceBEq, beq_self_eq_true, Nat.reduceLeDiff, Nat.le_refl, Int.reduceEq, reduceCtorEq, rl_still, e4]) fun r2lo r2hi r2 hr2lo hr2hi hr2 => ?_
        have r2o := hr2.2
        have r2i := hr2.1
        have r2p := shp_page _ _ r2i
        have r2p1 := r2p.1
        have r2p2 := r2p.2.1
        have r2p3 := r2p.2.2.1
        have r2p4 := r2p.2.2.2
        refine ⟨r2o.tags, ?_⟩
        simp -dsimp only [go_sem, Nat.reduceLT, Nat.reduceEqDiff, Nat.reduceAdd, Nat.reduceMul, Nat.reduceBEq, beq_self_eq_true, Nat.reduceLeDiff, Nat.le_refl, Int.reduceEq, reduceCtorEq, v1, v3, v4, v6, v10, v11, vp1, vp2, vp3, e1, e2, e3, c1, c2, c3, xvp1, xvp2, xvp3, up1, up2, up3, yp1, yp2, yp3, m1p1, m1p2, m1p3, m2p1, m2p2, m2p3, hk, m3p1, m3p2, m3p3, hk2, r2p1, r2p2, r2p3]
        refine xcall_p (toSlot_p _ _ hS hs2) (by simp -dsimp only [go_sem, Nat.reduceLT, Nat.reduceEqDiff, Nat.reduceAdd, Nat.reduceMul, Nat.reduceBEq, beq_self_eq_true, Nat.reduceLeDiff, Nat.le_refl, Int.reduceEq, reduceCtorEq, rl_still, c4]) fun u2lo u2hi u2 hu2lo hu2hi hu2 => ?_
        have u2o := hu2.2
        have u2i := hu2.1
        have u2p := shp_slot _ _ u2i
        have u2p1 := u2p.1
        have u2p2 := u2p.2.1
        have u2p3 := u2p.2.2.1
        have u2p4 := u2p.2.2.2
        refine ⟨u2o.tags, ?_⟩
        simp -dsimp only [go_sem, Nat.reduceLT, Nat.reduceEqDiff, Nat.reduceAdd, Nat.reduceMul, Nat.reduceBEq, beq_self_eq_true, Nat.reduceLeDiff, Nat.le_refl, Int.reduceEq, reduceCtorEq, v1, v3, v4, v6, v10, v11, vp1, vp2, vp3, e1, e2, e3, c1, c2, c3, xvp1, xvp2, xvp3, up1, up2, up3, yp1, yp2, yp3, m1p1, m1p2, m1p3, m2p1, m2p2, m2p3, hk, m3p1, m3p2, m3p3, hk2, r2p1, r2p2, r2p3, u2p1, u2p2, u2p3]
        refine xcall_p (setSlot_p _ _ _ slot _ lsn r2i u2i hs hs2) (by simp -dsimp only [go_sem, Nat.reduceLT, Nat.reduceEqDiff, Nat.reduceAdd, Nat.reduceMul, Nat.reduceBEq, beq_self_eq_true, Nat.reduceLeDiff, Nat.le_refl, Int.reduceEq, reduceCtorEq, rl_still, r2p4, u2p4]) fun v2lo v2hi v2w hv2lo hv2hi hv2w => ?_
        obtain ⟨v2, rfl, hv2⟩ := hv2w.out
        have v2o := hv2.2
        have v2i := hv2.1
        have v2p := shp_page _ _ v2i
        have v2p1 := v2p.1
        have v2p2 := v2p.2.1
        have v2p3 := v2p.2.2.1
        have v2p4 := v2p.2.2.2
        refine ⟨tags_two v2o.tags, ?_⟩
        simp -dsimp only [go_sem, Nat.reduceLT, Nat.reduceEqDiff, Nat.reduceAdd, Nat.reduceMul, Nat.reduceBEq, beq_self_eq_true, Nat.reduceLeDiff, Nat.le_refl, Int.reduceEq, reduceCtorEq, v1, v3, v4, v6, v10, v11, vp1, vp2, vp3, e1, e2, e3, c1, c2, c3, xvp1, xvp2, xvp3, up1, up2, up3, yp1, yp2, yp3, m1p1, m1p2, m1p3, m2p1, m2p2, m2p3, hk, m3p1, m3p2, m3p3, hk2, r2p1, r2p2, r2p3, u2p1, u2p2, u2p3, v2p1, v2p2, v2p3]
        exact hK _ ⟨_, _, _, _, _, rfl, by omega, by simp -dsimp only [go_sem, Nat.reduceLT, Nat.reduceEqDiff, Nat.reduceAdd, Nat.reduceMul, Nat.reduceBEq, beq_self_eq_true, Nat.reduceLeDiff, Nat.le_refl, Int.reduceEq, reduceCtorEq], by simp -dsimp only [go_sem, Nat.reduceLT, Nat.reduceEqDiff, Nat.reduceAdd, Nat.reduceMul, Nat.reduceBEq, beq_self_eq_true, Nat.reduceLeDiff, Nat.le_refl, Int.reduceEq, reduceCtorEq], by simp -dsimp only [go_sem, Nat.reduceLT, Nat.reduceEqDiff, Nat.reduceAdd, Nat.reduceMul, Nat.reduceBEq, beq_self_eq_true, Nat.reduceLeDiff, Nat.le_refl, Int.reduceEq, reduceCtorEq], by simp -dsimp only [go_sem, Nat.reduceLT, Nat.reduceEqDiff, Nat.reduceAdd, Nat.reduceMul, Nat.reduceBEq, beq_self_eq_true, Nat.reduceLeDiff, Nat.le_refl, Int.reduceEq, reduceCtorEq], by simp -dsimp only [go_sem, Nat.reduceLT, Nat.reduceEqDiff, Nat.reduceAdd, Nat.reduceMul, Nat.reduceBEq, beq_self_eq_true, Nat.reduceLeDiff, Nat.le_refl, Int.reduceEq, reduceCtorEq], by simp -dsimp only [go_sem, Nat.reduceLT, Nat.reduceEqDiff, Nat.reduceAdd, Nat.reduceMul, Nat.reduceBEq, beq_self_eq_true, Nat.reduceLeDiff, Nat.le_refl, Int.reduceEq, reduceCtorEq], v2i⟩
  · intro K hK
    simp -dsimp only [go_sem, Nat.reduceLT, Nat.reduceEqDiff, Nat.reduceAdd, Nat.reduceMul, Nat.reduceBEq, beq_self_eq_true, Nat.reduceLeDiff, Nat.le_refl, Int.reduceEq, reduceCtorEq, e1, e2, e3, c1, c2, c3]
    refine ⟨?_, ?_⟩
    · refine xcall_p (toPage_p _ _ h hs) (by simp -dsimp only [go_sem, Nat.reduceLT, Nat.reduceEqDiff, Nat.reduceAdd, Nat.reduceMul, Nat.reduceBEq, beq_self_eq_true, Nat.reduceLeDiff, Nat.le_refl, Int.reduceEq, reduceCtorEq, rl_still, e4]) fun rlo rhi r hrlo hrhi hr => ?_
      have ro := hr.2
      have ri := hr.1
      have rp := shp_page _ _ ri
      have rp1 := rp.1
      have rp2 := rp.2.1
      have rp3 := rp.2.2.1
      have rp4 := rp.2.2.2
      refine ⟨ro.tags, ?_⟩
      simp -dsimp only [go_sem, Nat.reduceLT, Nat.reduceEqDiff, Nat.reduceAdd, Nat.reduceMul, Nat.reduceBEq, beq_self_eq_true, Nat.reduceLeDiff, Nat.le_refl, Int.reduceEq, reduceCtorEq, e1, e2, e3, c1, c2, c3, rp1, rp2, rp3]
      refine ⟨?_, ?_⟩
      · refine xcall_p (toSlot_p _ _ hS hs2) (by simp -dsimp only [go_sem, Nat.reduceLT, Nat.reduceEqDiff, Nat.reduceAdd, Nat.reduceMul, Nat.reduceBEq, beq_self_eq_true, Nat.reduceLeDiff, Nat.le_refl, Int.reduceEq, reduceCtorEq, rl_still, c4]) fun ulo uhi u hulo huhi hu => ?_
        have uo := hu.2
        have ui := hu.1
        have up := shp_slot _ _ ui
        have up1 := up.1
        have up2 := up.2.1
        have up3 := up.2.2.1
        have up4 := up.2.2.2
        refine ⟨uo.tags, ?_⟩
        simp -dsimp only [go_sem, Nat.reduceLT, Nat.reduceEqDiff, Nat.reduceAdd, Nat.reduceMul, Nat.reduceBEq, beq_self_eq_true, Nat.reduceLeDiff, Nat.le_refl, Int.reduceEq, reduceCtorEq, e1, e2, e3, c1, c2, c3, rp1, rp2, rp3, up1, up2, up3]
        refine ⟨?_, ?_⟩
        · refine xcall_p (specSetSlot_p _ _ _ slot _ lsn ri ui hs hs2) (by simp -dsimp only [go_sem, Nat.reduceLT, Nat.reduceEqDiff, Nat.reduceAdd, Nat.reduceMul, Nat.reduceBEq, beq_self_eq_true, Nat.reduceLeDiff, Nat.le_refl, Int.reduceEq, reduceCtorEq, rl_still, rp4, up4]) fun vlo vhi vw hvlo hvhi hvw => ?_
          obtain ⟨v, rfl, hv⟩ := hvw.out
          have vo := hv.2
          have vi := hv.1
          have vp := shp_page _ _ vi
          have vp1 := vp.1
          have vp2 := vp.2.1
          have vp3 := vp.2.2.1
          have vp4 := vp.2.2.2
          refine ⟨tags_two vo.tags, ?_⟩
          simp -dsimp only [go_sem, Nat.reduceLT, Nat.reduceEqDiff, Nat.reduceAdd, Nat.reduceMul, Nat.reduceBEq, beq_self_eq_true, Nat.reduceLeDiff, Nat.le_refl, Int.reduceEq, reduceCtorEq, e1, e2, e3, c1, c2, c3, rp1, rp2, rp3, up1, up2, up3, vp1, vp2, vp3]
          intro g b hb
          exact hK _ ⟨_, _, _, _, _, rfl, by omega, by simp -dsimp only [go_sem, Nat.reduceLT, Nat.reduceEqDiff, Nat.reduceAdd, Nat.reduceMul, Nat.reduceBEq, beq_self_eq_true, Nat.reduceLeDiff, Nat.le_refl, Int.reduceEq, reduceCtorEq], by simp -dsimp only [go_sem, Nat.reduceLT, Nat.reduceEqDiff, Nat.reduceAdd, Nat.reduceMul, Nat.reduceBEq, beq_self_eq_true, Nat.reduceLeDiff, Nat.le_refl, Int.reduceEq, reduceCtorEq], by simp -dsimp only [go_sem, Nat.reduceLT, Nat.reduceEqDiff, Nat.reduceAdd, Nat.reduceMul, Nat.reduceBEq, beq_self_eq_true, Nat.reduceLeDiff, Nat.le_refl, Int.reduceEq, reduceCtorEq], by simp -dsimp only [go_sem, Nat.reduceLT, Nat.reduceEqDiff, Nat.reduceAdd, Nat.reduceMul, Nat.reduceBEq, beq_self_eq_true, Nat.reduceLeDiff, Nat.le_refl, Int.reduceEq, reduceCtorEq], by simp -dsimp only [go_sem, Nat.reduceLT, Nat.reduceEqDiff, Nat.reduceAdd, Nat.reduceMul, Nat.reduceBEq, beq_self_eq_true, Nat.reduceLeDiff, Nat.le_refl, Int.reduceEq, reduceCtorEq], by simp -dsimp only [go_sem, Nat.reduceLT, Nat.reduceEqDiff, Nat.reduceAdd, Nat.reduceMul, Nat.reduceBEq, beq_self_eq_true, Nat.reduceLeDiff, Nat.le_refl, Int.reduceEq, reduceCtorEq], vi, vo.mono (by omega) (by omega)⟩
        · intro g b hb
          refine xcall_p (specSetSlot_p _ _ _ slot _ lsn ri ui hs hs2) (by simp -dsimp only [go_sem, Nat.reduceLT, Nat.reduceEqDiff, Nat.reduceAdd, Nat.reduceMul, Nat.reduceBEq, beq_self_eq_true, Nat.reduceLeDiff, Nat.le_refl, Int.reduceEq, reduceCtorEq, rl_still, rp4, up4]) fun vlo vhi vw hvlo hvhi hvw => ?_
          obtain ⟨v, rfl, hv⟩ := hvw.out
          have vo := hv.2
          have vi := hv.1
          have vp := shp_page _ _ vi
          have vp1 := vp.1
          have vp2 := vp.2.1
          have vp3 := vp.2.2.1
          have vp4 := vp.2.2.2
          refine ⟨tags_two vo.tags, ?_⟩
          simp -dsimp only [go_sem, Nat.reduceLT, Nat.reduceEqDiff, Nat.reduceAdd, Nat.reduceMul, Nat.reduceBEq, beq_self_eq_true, Nat.reduceLeDiff, Nat.le_refl, Int.reduceEq, reduceCtorEq, e1, e2, e3, c1, c2, c3, rp1, rp2, rp3, up1, up2, up3, vp1, vp2, vp3]
          exact hK _ ⟨_, _, _, _, _, rfl, by omega, by simp -dsimp only [go_sem, Nat.reduceLT, Nat.reduceEqDiff, Nat.reduceAdd, Nat.reduceMul, Nat.reduceBEq, beq_self_eq_true, Nat.reduceLeDiff, Nat.le_refl, Int.reduceEq, reduceCtorEq], by simp -dsimp only [go_sem, Nat.reduceLT, Nat.reduceEqDiff, Nat.reduceAdd, Nat.reduceMul, Nat.reduceBEq, beq_self_eq_true, Nat.reduceLeDiff, Nat.le_refl, Int.reduceEq, reduceCtorEq], by simp -dsimp only [go_sem, Nat.reduceLT, Nat.reduceEqDiff, Nat.reduceAdd, Nat.reduceMul, Nat.reduceBEq, beq_self_eq_true, Nat.reduceLeDiff, Nat.le_refl, Int.reduceEq, reduceCtorEq], by simp -dsimp only [go_sem, Nat.reduceLT, Nat.reduceEqDiff, Nat.reduceAdd, Nat.reduceMul, Nat.reduceBEq, beq_self_eq_true, Nat.reduceLeDiff, Nat.le_refl, Int.reduceEq, reduceCtorEq], by simp -dsimp only [go_sem, Nat.reduceLT, Nat.reduceEqDiff, Nat.reduceAdd, Nat.reduceMul, Nat.reduceBEq, beq_self_eq_true, Nat.reduceLeDiff, Nat.le_refl, Int.reduceEq, reduceCtorEq], by simp -dsimp only [go_sem, Nat.reduceLT, Nat.reduceEqDiff, Nat.reduceAdd, Nat.reduceMul, Nat.reduceBEq, beq_self_eq_true, Nat.reduceLeDiff, Nat.le_refl, Int.reduceEq, reduceCtorEq], vi, vo.mono (by omega) (by omega)⟩
      · intro g b hb
        refine xcall_p (toSlot_p _ _ hS hs2) (by simp -dsimp only [go_sem, Nat.reduceLT, Nat.reduceEqDiff, Nat.reduceAdd, Nat.reduceMul, Nat.reduceBEq, beq_self_eq_true, Nat.reduceLeDiff, Nat.le_refl, Int.reduceEq, reduceCtorEq, rl_still, c4]) fun ulo uhi u hulo huhi hu => ?_
        have uo := hu.2
        have ui := hu.1
        have up := shp_slot _ _ ui
        have up1 := up.1
        have up2 := up.2.1
        have up3 := up.2.2.1
        have up4 := up.2.2.2
        refine ⟨uo.tags, ?_⟩
        simp -dsimp only [go_sem, Nat.reduceLT, Nat.reduceEqDiff, Nat.reduceAdd, Nat.reduceMul, Nat.reduceBEq, beq_self_eq_true, Nat.reduceLeDiff, Nat.le_refl, Int.reduceEq, reduceCtorEq, e1, e2, e3, c1, c2, c3, rp1, rp2, rp3, up1, up2, up3]
        refine xcall_p (specSetSlot_p _ _ _ slot _ lsn ri ui hs hs2) (by simp -dsimp only [go_sem, Nat.reduceLT, Nat.reduceEqDiff, Nat.reduceAdd, Nat.reduceMul, Nat.reduceBEq, beq_self_eq_true, Nat.reduceLeDiff, Nat.le_refl, Int.reduceEq, reduceCtorEq, rl_still, rp4, up4]) fun vlo vhi vw hvlo hvhi hvw => ?_
        obtain ⟨v, rfl, hv⟩ := hvw.out
        have vo := hv.2
        have vi := hv.1
        have vp := shp_page _ _ vi
        have vp1 := vp.1
        have vp2 := vp.2.1
        have vp3 := vp.2.2.1
        have vp4 := vp.2.2.2
        refine ⟨tags_two vo.tags, ?_⟩
        simp -dsimp only [go_sem, Nat.reduceLT, Nat.reduceEqDiff, Nat.reduceAdd, Nat.reduceMul, Nat.reduceBEq, beq_self_eq_true, Nat.reduceLeDiff, Nat.le_refl, Int.reduceEq, reduceCtorEq, e1, e2, e3, c1, c2, c3, rp1, rp2, rp3, up1, up2, up3, vp1, vp2, vp3]
        exact hK _ ⟨_, _, _, _, _, rfl, by omega, by simp -dsimp only [go_sem, Nat.reduceLT, Nat.reduceEqDiff, Nat.reduceAdd, Nat.reduceMul, Nat.reduceBEq, beq_self_eq_true, Nat.reduceLeDiff, Nat.le_refl, Int.reduceEq, reduceCtorEq], by simp -dsimp only [go_sem, Nat.reduceLT, Nat.reduceEqDiff, Nat.reduceAdd, Nat.reduceMul, Nat.reduceBEq, beq_self_eq_true, Nat.reduceLeDiff, Nat.le_refl, Int.reduceEq, reduceCtorEq], by simp -dsimp only [go_sem, Nat.reduceLT, Nat.reduceEqDiff, Nat.reduceAdd, Nat.reduceMul, Nat.reduceBEq, beq_self_eq_true, Nat.reduceLeDiff, Nat.le_refl, Int.reduceEq, reduceCtorEq], by simp -dsimp only [go_sem, Nat.reduceLT, Nat.reduceEqDiff, Nat.reduceAdd, Nat.reduceMul, Nat.reduceBEq, beq_self_eq_true, Nat.reduceLeDiff, Nat.le_refl, Int.reduceEq, reduceCtorEq], by simp -dsimp only [go_sem, Nat.reduceLT, Nat.reduceEqDiff, Nat.reduceAdd, Nat.reduceMul, Nat.reduceBEq, beq_self_eq_true, Nat.reduceLeDiff, Nat.le_refl, Int.reduceEq, reduceCtorEq], by simp -dsimp only [go_sem, Nat.reduceLT, Nat.reduceEqDiff, Nat.reduceAdd, Nat.reduceMul, Nat.reduceBEq, beq_self_eq_true, Nat.reduceLeDiff, Nat.le_refl, Int.reduceEq, reduceCtorEq], vi, vo.mono (by omega) (by omega)⟩
    · intro g b hb
      refine xcall_p (toPage_p _ _ h hs) (by simp -dsimp only [go_sem, Nat.reduceLT, Nat.reduceEqDiff, Nat.reduceAdd, Nat.reduceMul, Nat.reduceBEq, beq_self_eq_true, Nat.reduceLeDiff, Nat.le_refl, Int.reduceEq, reduceCtorEq, rl_still, e4]) fun rlo rhi r hrlo hrhi hr => ?_
      have ro := hr.2
      have ri := hr.1
      have rp := shp_page _ _ ri
      have rp1 := rp.1
      have rp2 := rp.2.1
      have rp3 := rp.2.2.1
      have rp4 := rp.2.2.2
      refine ⟨ro.tags, ?_⟩
      simp -dsimp only [go_sem, Nat.reduceLT, Nat.reduceEqDiff, Nat.reduceAdd, Nat.reduceMul, Nat.reduceBEq, beq_self_eq_true, Nat.reduceLeDiff, Nat.le_refl, Int.reduceEq, reduceCtorEq, e1, e2, e3, c1, c2, c3, rp1, rp2, rp3]
      refine xcall_p (toSlot_p _ _ hS hs2) (by simp -dsimp only [go_sem, Nat.reduceLT, Nat.reduceEqDiff, Nat.reduceAdd, Nat.reduceMul, Nat.reduceBEq, beq_self_eq_true, Nat.reduceLeDiff, Nat.le_refl, Int.reduceEq, reduceCtorEq, rl_still, c4]) fun ulo uhi u hulo huhi hu => ?_
      have uo := hu.2
      have ui := hu.1
      have up := shp_slot _ _ ui
      have up1 := up.1
      have up2 := up.2.1
      have up3 := up.2.2.1
      have up4 := up.2.2.2
      refine ⟨uo.tags, ?_⟩
      simp -dsimp only [go_sem, Nat.reduceLT, Nat.reduceEqDiff, Nat.reduceAdd, Nat.reduceMul, Nat.reduceBEq, beq_self_eq_true, Nat.reduceLeDiff, Nat.le_refl, Int.reduceEq, reduceCtorEq, e1, e2, e3, c1, c2, c3, rp1, rp2, rp3, up1, up2, up3]
      refine xcall_p (specSetSlot_p _ _ _ slot _ lsn ri ui hs hs2) (by simp -dsimp only [go_sem, Nat.reduceLT, Nat.reduceEqDiff, Nat.reduceAdd, Nat.reduceMul, Nat.reduceBEq, beq_self_eq_true, Nat.reduceLeDiff, Nat.le_refl, Int.reduceEq, reduceCtorEq, rl_still, rp4, up4]) fun vlo vhi vw hvlo hvhi hvw => ?_
      obtain ⟨v, rfl, hv⟩ := hvw.out
      have vo := hv.2
      have vi := hv.1
      have vp := shp_page _ _ vi
      have vp1 := vp.1
      have vp2 := vp.2.1
      have vp3 := vp.2.2.1
      have vp4 := vp.2.2.2
      refine ⟨tags_two vo.tags, ?_⟩
      simp -dsimp only [go_sem, Nat.reduceLT, Nat.reduceEqDiff, Nat.reduceAdd, Nat.reduceMul, Nat.reduceBEq, beq_self_eq_true, Nat.reduceLeDiff, Nat.le_refl, Int.reduceEq, reduceCtorEq, e1, e2, e3, c1, c2, c3, rp1, rp2, rp3, up1, up2, up3, vp1, vp2, vp3]
      exact hK _ ⟨_, _, _, _, _, rfl, by omega, by simp -dsimp only [go_sem, Nat.reduceLT, Nat.reduceEqDiff, Nat.reduceAdd, Nat.reduceMul, Nat.reduceBEq, beq_self_eq_true, Nat.reduceLeDiff, Nat.le_refl, Int.reduceEq, reduceCtorEq], by simp -dsimp only [go_sem, Nat.reduceLT, Nat.reduceEqDiff, Nat.reduceAdd, Nat.reduceMul, Nat.reduceBEq, beq_self_eq_true, Nat.reduceLeDiff, Nat.le_refl, Int.reduceEq, reduceCtorEq], by simp -dsimp only [go_sem, Nat.reduceLT, Nat.reduceEqDiff, Nat.reduceAdd, Nat.reduceMul, Nat.reduceBEq, beq_self_eq_true, Nat.reduceLeDiff, Nat.le_refl, Int.reduceEq, reduceCtorEq], by simp -dsimp only [go_sem, Nat.reduceLT, Nat.reduceEqDiff, Nat.reduceAdd, Nat.reduceMul, Nat.reduceBEq, beq_self_eq_true, Nat.reduceLeDiff, Nat.le_refl, Int.reduceEq, reduceCtorEq], by simp -dsimp only [go_sem, Nat.reduceLT, Nat.reduceEqDiff, Nat.reduceAdd, Nat.reduceMul, Nat.reduceBEq, beq_self_eq_true, Nat.reduceLeDiff, Nat.le_refl, Int.reduceEq, reduceCtorEq], by simp -dsimp only [go_sem, Nat.reduceLT, Nat.reduceEqDiff, Nat.reduceAdd, Nat.reduceMul, Nat.reduceBEq, beq_self_eq_true, Nat.reduceLeDiff, Nat.le_refl, Int.reduceEq, reduceCtorEq], vi, vo.mono (by omega) (by omega)⟩
end Go.Proofs.Ytjaddgkhlmallaa.IM
end

section
/- The law of Redo. Printed by laws_wr2.py. -/
namespace Go.Proofs.Ytjaddgkhlmallaa.IM
open Go Go.Proofs
set_option linter.unusedVariables false
set_option linter.unusedSimpArgs false
set_option maxHeartbeats 2000000
set_option maxRecDepth 20000

theorem IsLive.data {d : D} {x : Md.Live} (h : IsLive d x) : d.data := whole_data h.wh
theorem IsRec.data {d : D} {x : Md.Rec} (h : IsRec d x) : d.data := by
  obtain ⟨f, rfl, _, h0, h1, h2, h3, h4, h5, h6, h7, h8⟩ := h
  intro i hi
  have hi' : i < 9 := hi
  match i, hi' with
  | 0, _ => exact IsInt.data h0
  | 1, _ => exact IsInt.data h1
  | 2, _ => exact IsInt.data h2
  | 3, _ => exact IsInt.data h3
  | 4, _ => exact IsInt.data h4
  | 5, _ => exact h5.data
  | 6, _ => exact h6.data
  | 7, _ => exact IsInt.data h7
  | 8, _ => exact IsL.data (fun _ _ h => IsLive.data h) h8
theorem cLives_le (l : List Md.Live) : Md.cLives l ≤ 3 * l.length := by
  unfold Md.cLives Md.sumBy
  induction l with
  | nil => simp
  | cons a l ih =>
    have : Md.cLive a ≤ 3 := by simp [Md.cLive]
    simp only [List.map_cons, List.sum_cons, List.length_cons]; omega
theorem cRec_le (r : Md.Rec) : Md.cRec r ≤ 3 * Md.szRec r := by
  have := cLives_le r.txs
  unfold Md.cRec Md.szRec; omega
theorem sz_redo (x : Md.Page) (r : Md.Rec) : Md.szPage (Md.redo x r).1 ≤ Md.szPage x + Md.szRec r := by
  cases h : (Md.pageOk x && Md.recOk r && Md.changes r && decide (x.lsn < r.lsn))
  · rw [redo_no h]; exact Nat.le_add_right _ _
  · rw [redo_yes h]; exact Nat.le_trans (sumBy_set _ _ _ _) (by show _ ≤ Md.sumBy _ _ + Md.szRec r; unfold Md.szRec; omega)

theorem lawRedo (d dS : D) (x : Md.Page) (y0 : Md.Rec) (h : IsPage d x) (hS : IsRec dS y0) : PCall Try.prog 23 [d, dS] fun _ _ r => r = .lit (.bool true) := by
  have e := shp_page _ _ h
  have e1 := e.1
  have e2 := e.2.1
  have e3 := e.2.2.1
  have e4 := e.2.2.2
  have c := shp_rec _ _ hS
  have c1 := c.1
  have c2 := c.2.1
  have c3 := c.2.2.1
  have c4 := c.2.2.2
  refine pcall_intro_vt Try.func23 rfl (by decide) rfl (by decide) (by rw [Try.ntmps23]; simp) fun w0 M n0 hW hT => ivc_sound ?_; simp -dsimp only [Try.f23, go_sem, Nat.reduceLT, Nat.reduceEqDiff, Nat.reduceAdd, Nat.reduceMul, Nat.reduceBEq, beq_self_eq_true, Nat.reduceLeDiff, Nat.le_refl, Int.reduceEq, reduceCtorEq, e1, e2, e3, c1, c2, c3]
  have dT : d.tags (· < n0) := hT d (by simp) h.data
  have dST : dS.tags (· < n0) := hT dS (by simp) hS.data
  intro g1 b1 hb1 g2 b2 hb2
  refine xcall_v (szPage_p _ _ h 1048576 (by decide) (by decide)) (by simp -dsimp only [go_sem, Nat.reduceLT, Nat.reduceEqDiff, Nat.reduceAdd, Nat.reduceMul, Nat.reduceBEq, beq_self_eq_true, Nat.reduceLeDiff, Nat.le_refl, Int.reduceEq, reduceCtorEq, rl_still, e4]) (fun _ => trivial) fun n1 hn1 => ?_
  simp -dsimp only [go_sem, Nat.reduceLT, Nat.reduceEqDiff, Nat.reduceAdd, Nat.reduceMul, Nat.reduceBEq, beq_self_eq_true, Nat.reduceLeDiff, Nat.le_refl, Int.reduceEq, reduceCtorEq]
  intro hb
  have hs : Md.szPage x ≤ 1048576 := by
    have := Md.szR_le _ _ hb
    omega
  obtain ⟨l0, l1⟩ := Md.szR_rg _ _ (by decide) (by decide) hb
  simp -dsimp only [go_sem, Nat.reduceLT, Nat.reduceEqDiff, Nat.reduceAdd, Nat.reduceMul, Nat.reduceBEq, beq_self_eq_true, Nat.reduceLeDiff, Nat.le_refl, Int.reduceEq, reduceCtorEq, e1, e2, e3, c1, c2, c3]
  refine xcall_v (szRec_p _ _ hS _ l0 l1) (by simp -dsimp only [go_sem, Nat.reduceLT, Nat.reduceEqDiff, Nat.reduceAdd, Nat.reduceMul, Nat.reduceBEq, beq_self_eq_true, Nat.reduceLeDiff, Nat.le_refl, Int.reduceEq, reduceCtorEq, rl_still, c4]) (fun _ => trivial) fun n2 hn2 => ?_
  simp -dsimp only [go_sem, Nat.reduceLT, Nat.reduceEqDiff, Nat.reduceAdd, Nat.reduceMul, Nat.reduceBEq, beq_self_eq_true, Nat.reduceLeDiff, Nat.le_refl, Int.reduceEq, reduceCtorEq]
  intro hb2'
  have hs2 : Md.szRec y0 ≤ 1048576 := by
    have := Md.szR_le _ _ hb2'
    omega
  refine iwp_planT (.early 0 (.early 2 (.fork 1 (.fork 3 (.fork 4 (.early 5 (.early 6 (.early 7 (.late 8 (.late 9 (.early 10 .done)))))) 8 (.late 4 (.early 5 (.early 6 (.early 7 (.late 9 (.early 10 .done))))))) 8 (.late 3 (.late 4 (.early 5 (.early 6 (.early 7 (.late 9 (.early 10 .done)))))))) 8 (.late 1 (.late 3 (.late 4 (.early 5 (.early 6 (.early 7 (.late 9 (.early 10 .done))))))))))) [2, 3] [] rfl (by decide +kernel) (by decide) (by decide +kernel) ?_
  refine fork_k (fun st => ∃ n g b s D, st = { N := 119, n := n, s := s, R := upd (upd (upd (fun _ => none) 2 (some (g1, b1, d))) 3 (some (g2, b2, dS))) 6 (some (g, b, D)) } ∧
    n2 ≤ n ∧ s 2 = .ptr 2 g1 0 [] ∧ s 3 = .ptr 3 g2 0 [] ∧ s 6 = .ptr 6 g 0 [] ∧
    s 7 = .lit (.bool (Md.redo x y0).2) ∧ IsPage D (Md.redo x y0).1 ∧ Own n2 n D) ?_ ?_
  · rintro st ⟨n, g, b, s, v, rfl, hn, vs2, vs3, vs6, vs7, vi, vo⟩
    have vp := shp_page _ _ vi
    have vp1 := vp.1
    have vp2 := vp.2.1
    have vp3 := vp.2.2.1
    have vp4 := vp.2.2.2
    simp -dsimp only [go_sem, Nat.reduceLT, Nat.reduceEqDiff, Nat.reduceAdd, Nat.reduceMul, Nat.reduceBEq, beq_self_eq_true, Nat.reduceLeDiff, Nat.le_refl, Int.reduceEq, reduceCtorEq, vs2, vs3, vs6, vs7, vp1, vp2, vp3, e1, e2, e3, c1, c2, c3]
    refine xcall_p (toPage_p _ _ h hs) (by simp -dsimp only [go_sem, Nat.reduceLT, Nat.reduceEqDiff, Nat.reduceAdd, Nat.reduceMul, Nat.reduceBEq, beq_self_eq_true, Nat.reduceLeDiff, Nat.le_refl, Int.reduceEq, reduceCtorEq, rl_still, e4]) fun xvlo xvhi xv hxvlo hxvhi hxv => ?_
    have xvo := hxv.2
    have xvi := hxv.1
    have xvp := shp_page _ _ xvi
    have xvp1 := xvp.1
    have xvp2 := xvp.2.1
    have xvp3 := xvp.2.2.1
    have xvp4 := xvp.2.2.2
    refine ⟨xvo.tags, ?_⟩
    simp -dsimp only [go_sem, Nat.reduceLT, Nat.reduceEqDiff, Nat.reduceAdd, Nat.reduceMul, Nat.reduceBEq, beq_self_eq_true, Nat.reduceLeDiff, Nat.le_refl, Int.reduceEq, reduceCtorEq, vs2, vs3, vs6, vs7, vp1, vp2, vp3, e1, e2, e3, c1, c2, c3, xvp1, xvp2, xvp3]
    intro g12 b12 hb12
    refine xcall_p (toRec_p _ _ hS hs2) (by simp -dsimp only [go_sem, Nat.reduceLT, Nat.reduceEqDiff, Nat.reduceAdd, Nat.reduceMul, Nat.reduceBEq, beq_self_eq_true, Nat.reduceLeDiff, Nat.le_refl, Int.reduceEq, reduceCtorEq, rl_still, c4]) fun ulo uhi u hulo huhi hu => ?_
    have uo := hu.2
    have ui := hu.1
    have up := shp_rec _ _ ui
    have up1 := up.1
    have up2 := up.2.1
    have up3 := up.2.2.1
    have up4 := up.2.2.2
    refine ⟨uo.tags, ?_⟩
    simp -dsimp only [go_sem, Nat.reduceLT, Nat.reduceEqDiff, Nat.reduceAdd, Nat.reduceMul, Nat.reduceBEq, beq_self_eq_true, Nat.reduceLeDiff, Nat.le_refl, Int.reduceEq, reduceCtorEq, vs2, vs3, vs6, vs7, vp1, vp2, vp3, e1, e2, e3, c1, c2, c3, xvp1, xvp2, xvp3, up1, up2, up3]
    intro g13 b13 hb13
    refine xcall_p (redo_p _ _ _ _ xvi ui hs hs2) (by simp -dsimp only [go_sem, Nat.reduceLT, Nat.reduceEqDiff, Nat.reduceAdd, Nat.reduceMul, Nat.reduceBEq, beq_self_eq_true, Nat.reduceLeDiff, Nat.le_refl, Int.reduceEq, reduceCtorEq, rl_still, xvp4, up4]) fun ylo yhi yw hylo hyhi hyw => ?_
    obtain ⟨y, rfl, hy⟩ := hyw.out
    have yo := hy.2
    have yi := hy.1
    have yp := shp_page _ _ yi
    have yp1 := yp.1
    have yp2 := yp.2.1
    have yp3 := yp.2.2.1
    have yp4 := yp.2.2.2
    refine ⟨tags_two yo.tags, ?_⟩
    simp -dsimp only [go_sem, Nat.reduceLT, Nat.reduceEqDiff, Nat.reduceAdd, Nat.reduceMul, Nat.reduceBEq, beq_self_eq_true, Nat.reduceLeDiff, Nat.le_refl, Int.reduceEq, reduceCtorEq, vs2, vs3, vs6, vs7, vp1, vp2, vp3, e1, e2, e3, c1, c2, c3, xvp1, xvp2, xvp3, up1, up2, up3, yp1, yp2, yp3]
    intro g14 b14 hb14
    refine xcall_v (eqPage_p _ _ _ yi vi) (by simp -dsimp only [go_sem, Nat.reduceLT, Nat.reduceEqDiff, Nat.reduceAdd, Nat.reduceMul, Nat.reduceBEq, beq_self_eq_true, Nat.reduceLeDiff, Nat.le_refl, Int.reduceEq, reduceCtorEq, rl_still, yp4, vp4]) (fun _ => trivial) fun n4 hn4 => ?_
    simp -dsimp only [go_sem, Nat.reduceLT, Nat.reduceEqDiff, Nat.reduceAdd, Nat.reduceMul, Nat.reduceBEq, beq_self_eq_true, Nat.reduceLeDiff, Nat.le_refl, Int.reduceEq, reduceCtorEq, vs2, vs3, vs6, vs7, vp1, vp2, vp3, e1, e2, e3, c1, c2, c3, xvp1, xvp2, xvp3, up1, up2, up3, yp1, yp2, yp3, bne_self_eq_false, Bool.not_true, Bool.not_false, Bool.false_eq_true, Bool.true_eq_false, false_imp_iff, true_and, and_true, forall_const, reduceCtorEq]
    refine iwp_plan [(0, true), (1, true), (2, false), (3, false), (4, true)] [2, 8] rfl (by decide +kernel) (by decide) [] (by decide +kernel) ?_
    simp -dsimp only [go_sem, Nat.reduceLT, Nat.reduceEqDiff, Nat.reduceAdd, Nat.reduceMul, Nat.reduceBEq, beq_self_eq_true, Nat.reduceLeDiff, Nat.le_refl, Int.reduceEq, reduceCtorEq, vs2, vs3, vs6, vs7, vp1, vp2, vp3, e1, e2, e3, c1, c2, c3, xvp1, xvp2, xvp3, up1, up2, up3, yp1, yp2, yp3]
    refine xcall_p (toPage_p _ _ h hs) (by simp -dsimp only [go_sem, Nat.reduceLT, Nat.reduceEqDiff, Nat.reduceAdd, Nat.reduceMul, Nat.reduceBEq, beq_self_eq_true, Nat.reduceLeDiff, Nat.le_refl, Int.reduceEq, reduceCtorEq, rl_still, e4]) fun zlo zhi z hzlo hzhi hz => ?_
    have zo := hz.2
    have zi := hz.1
    have zp := shp_page _ _ zi
    have zp1 := zp.1
    have zp2 := zp.2.1
    have zp3 := zp.2.2.1
    have zp4 := zp.2.2.2
    refine ⟨zo.tags, ?_⟩
    simp -dsimp only [go_sem, Nat.reduceLT, Nat.reduceEqDiff, Nat.reduceAdd, Nat.reduceMul, Nat.reduceBEq, beq_self_eq_true, Nat.reduceLeDiff, Nat.le_refl, Int.reduceEq, reduceCtorEq, vs2, vs3, vs6, vs7, vp1, vp2, vp3, e1, e2, e3, c1, c2, c3, xvp1, xvp2, xvp3, up1, up2, up3, yp1, yp2, yp3, zp1, zp2, zp3]
    refine xcall_v (eqPage_p _ _ _ xvi zi) (by simp -dsimp only [go_sem, Nat.reduceLT, Nat.reduceEqDiff, Nat.reduceAdd, Nat.reduceMul, Nat.reduceBEq, beq_self_eq_true, Nat.reduceLeDiff, Nat.le_refl, Int.reduceEq, reduceCtorEq, rl_still, xvp4, zp4]) (fun _ => trivial) fun n4 hn4 => ?_
    simp -dsimp only [go_sem, Nat.reduceLT, Nat.reduceEqDiff, Nat.reduceAdd, Nat.reduceMul, Nat.reduceBEq, beq_self_eq_true, Nat.reduceLeDiff, Nat.le_refl, Int.reduceEq, reduceCtorEq, vs2, vs3, vs6, vs7, vp1, vp2, vp3, e1, e2, e3, c1, c2, c3, xvp1, xvp2, xvp3, up1, up2, up3, yp1, yp2, yp3, zp1, zp2, zp3, bne_self_eq_false, Bool.not_true, Bool.not_false, Bool.false_eq_true, Bool.true_eq_false, false_imp_iff, true_and, and_true, forall_const, reduceCtorEq]
    refine iwp_plan [(0, true), (1, true), (2, false), (3, false), (4, true)] [3, 9] rfl (by decide +kernel) (by decide) [] (by decide +kernel) ?_
    simp -dsimp only [go_sem, Nat.reduceLT, Nat.reduceEqDiff, Nat.reduceAdd, Nat.reduceMul, Nat.reduceBEq, beq_self_eq_true, Nat.reduceLeDiff, Nat.le_refl, Int.reduceEq, reduceCtorEq, vs2, vs3, vs6, vs7, vp1, vp2, vp3, e1, e2, e3, c1, c2, c3, xvp1, xvp2, xvp3, up1, up2, up3, yp1, yp2, yp3]
    refine xcall_p (toRec_p _ _ hS hs2) (by simp -dsimp only [go_sem, Nat.reduceLT, Nat.reduceEqDiff, Nat.reduceAdd, Nat.reduceMul, Nat.reduceBEq, beq_self_eq_true, Nat.reduceLeDiff, Nat.le_refl, Int.reduceEq, reduceCtorEq, rl_still, c4]) fun z2lo z2hi z2 hz2lo hz2hi hz2 => ?_
    have z2o := hz2.2
    have z2i := hz2.1
    have z2p := shp_rec _ _ z2i
    have z2p1 := z2p.1
    have z2p2 := z2p.2.1
    have z2p3 := z2p.2.2.1
    have z2p4 := z2p.2.2.2
    refine ⟨z2o.tags, ?_⟩
    simp -dsimp only [go_sem, Nat.reduceLT, Nat.reduceEqDiff, Nat.reduceAdd, Nat.reduceMul, Nat.reduceBEq, beq_self_eq_true, Nat.reduceLeDiff, Nat.le_refl, Int.reduceEq, reduceCtorEq, vs2, vs3, vs6, vs7, vp1, vp2, vp3, e1, e2, e3, c1, c2, c3, xvp1, xvp2, xvp3, up1, up2, up3, yp1, yp2, yp3, z2p1, z2p2, z2p3]
    refine xcall_v (eqRec_p _ _ _ ui z2i) (by simp -dsimp only [go_sem, Nat.reduceLT, Nat.reduceEqDiff, Nat.reduceAdd, Nat.reduceMul, Nat.reduceBEq, beq_self_eq_true, Nat.reduceLeDiff, Nat.le_refl, Int.reduceEq, reduceCtorEq, rl_still, up4, z2p4]) (fun _ => trivial) fun n4 hn4 => ?_
    simp -dsimp only [go_sem, Nat.reduceLT, Nat.reduceEqDiff, Nat.reduceAdd, Nat.reduceMul, Nat.reduceBEq, beq_self_eq_true, Nat.reduceLeDiff, Nat.le_refl, Int.reduceEq, reduceCtorEq, vs2, vs3, vs6, vs7, vp1, vp2, vp3, e1, e2, e3, c1, c2, c3, xvp1, xvp2, xvp3, up1, up2, up3, yp1, yp2, yp3, z2p1, z2p2, z2p3, bne_self_eq_false, Bool.not_true, Bool.not_false, Bool.false_eq_true, Bool.true_eq_false, false_imp_iff, true_and, and_true, forall_const, reduceCtorEq]
    have hz := sz_redo x y0
    have hcb : Md.cRec y0 ≤ 3 * Md.szRec y0 := cRec_le y0
    refine xcall_mk (markPage_p xv x (1) _ _ xvi xvo (by decide) (by omega)) (by simp -dsimp only [go_sem, Nat.reduceLT, Nat.reduceEqDiff, Nat.reduceAdd, Nat.reduceMul, Nat.reduceBEq, beq_self_eq_true, Nat.reduceLeDiff, Nat.le_refl, Int.reduceEq, reduceCtorEq, vs2, vs3, vs6, vs7, vp1, vp2, vp3, e1, e2, e3, c1, c2, c3, xvp1, xvp2, xvp3, up1, up2, up3, yp1, yp2, yp3]) xvp3 xvp4 ⟨trivial, trivial⟩ (fun t ht => hW t (by have := xvo.rg t ht; omega)) [2, 3, 6, 7, 8, 9, 10, 11, 12] (fun _ _ => .any) (fun E => upd (upd (upd (upd (upd (upd (fun _ => none) 2 (some (g1, b1, d))) 3 (some (g2, b2, dS))) 6 (some (g, b, v))) 8 (some (g12, b12, E))) 9 (some (g13, b13, u))) 10 (some (g14, b14, y))) fun m1 nm1 hnm1 hm1 =>
        ⟨by simp -dsimp only [go_sem, Nat.reduceLT, Nat.reduceEqDiff, Nat.reduceAdd, Nat.reduceMul, Nat.reduceBEq, beq_self_eq_true, Nat.reduceLeDiff, Nat.le_refl, Int.reduceEq, reduceCtorEq, vs2, vs3, vs6, vs7, vp1, vp2, vp3, e1, e2, e3, c1, c2, c3, xvp1, xvp2, xvp3, up1, up2, up3, yp1, yp2, yp3], carry_any, ((((((CarR.none _ _ _).upd e3 (carry_lo xvo (by omega) dT)).upd c3 (carry_lo xvo (by omega) dST)).upd vp3 (carry_own xvo vo (.inr (by omega)))).upd (shp_page _ _ hm1.rel).2.2.1 .here).upd up3 (carry_own xvo uo (.inl (by omega)))).upd yp3 (carry_own xvo yo (.inl (by omega))), ?_⟩
    have m1p := shp_page _ _ hm1.rel
    have m1p1 := m1p.1
    have m1p2 := m1p.2.1
    have m1p3 := m1p.2.2.1
    have m1p4 := m1p.2.2.2
    have m1o := hm1.own xvo
    have m1i := hm1.rel
    simp -dsimp only [go_sem, Nat.reduceLT, Nat.reduceEqDiff, Nat.reduceAdd, Nat.reduceMul, Nat.reduceBEq, beq_self_eq_true, Nat.reduceLeDiff, Nat.le_refl, Int.reduceEq, reduceCtorEq, vs2, vs3, vs6, vs7, vp1, vp2, vp3, e1, e2, e3, c1, c2, c3, xvp1, xvp2, xvp3, up1, up2, up3, yp1, yp2, yp3, m1p1, m1p2, m1p3]
    refine xcall_mk (markRec_p u y0 (1 + (Md.szPage x : Nat)) _ _ ui uo (by omega) (by omega)) (by simp -dsimp only [go_sem, Nat.reduceLT, Nat.reduceEqDiff, Nat.reduceAdd, Nat.reduceMul, Nat.reduceBEq, beq_self_eq_true, Nat.reduceLeDiff, Nat.le_refl, Int.reduceEq, reduceCtorEq, vs2, vs3, vs6, vs7, vp1, vp2, vp3, e1, e2, e3, c1, c2, c3, xvp1, xvp2, xvp3, up1, up2, up3, yp1, yp2, yp3, m1p1, m1p2, m1p3]) up3 up4 ⟨trivial, trivial⟩ (fun t ht => hW t (by have := uo.rg t ht; omega)) [2, 3, 6, 7, 8, 9, 10, 11, 12] (fun _ _ => .any) (fun E => upd (upd (upd (upd (upd (upd (fun _ => none) 2 (some (g1, b1, d))) 3 (some (g2, b2, dS))) 6 (some (g, b, v))) 8 (some (g12, b12, m1))) 9 (some (g13, b13, E))) 10 (some (g14, b14, y))) fun m2 nm2 hnm2 hm2 =>
        ⟨by simp -dsimp only [go_sem, Nat.reduceLT, Nat.reduceEqDiff, Nat.reduceAdd, Nat.reduceMul, Nat.reduceBEq, beq_self_eq_true, Nat.reduceLeDiff, Nat.le_refl, Int.reduceEq, reduceCtorEq, vs2, vs3, vs6, vs7, vp1, vp2, vp3, e1, e2, e3, c1, c2, c3, xvp1, xvp2, xvp3, up1, up2, up3, yp1, yp2, yp3, m1p1, m1p2, m1p3], carry_any, ((((((CarR.none _ _ _).upd e3 (carry_lo uo (by omega) dT)).upd c3 (carry_lo uo (by omega) dST)).upd vp3 (carry_own uo vo (.inr (by omega)))).upd m1p3 (carry_own uo m1o (.inr (by omega)))).upd (shp_rec _ _ hm2.rel).2.2.1 .here).upd yp3 (carry_own uo yo (.inl (by omega))), ?_⟩
    have m2p := shp_rec _ _ hm2.rel
    have m2p1 := m2p.1
    have m2p2 := m2p.2.1
    have m2p3 := m2p.2.2.1
    have m2p4 := m2p.2.2.2
    have m2o := hm2.own uo
    have m2i := hm2.rel
    have hk : ¬ (1 + (Md.szPage x : Nat) + (Md.cRec y0 : Nat) < (0 : Int)) := by omega
    simp -dsimp only [go_sem, Nat.reduceLT, Nat.reduceEqDiff, Nat.reduceAdd, Nat.reduceMul, Nat.reduceBEq, beq_self_eq_true, Nat.reduceLeDiff, Nat.le_refl, Int.reduceEq, reduceCtorEq, vs2, vs3, vs6, vs7, vp1, vp2, vp3, e1, e2, e3, c1, c2, c3, xvp1, xvp2, xvp3, up1, up2, up3, yp1, yp2, yp3, m1p1, m1p2, m1p3, m2p1, m2p2, m2p3, hk, bne_self_eq_false, Bool.not_true, Bool.not_false, Bool.false_eq_true, Bool.true_eq_false, false_imp_iff, true_and, and_true, forall_const, reduceCtorEq, decide_false]
    refine xcall_v (eqPage_p _ _ _ yi vi) (by simp -dsimp only [go_sem, Nat.reduceLT, Nat.reduceEqDiff, Nat.reduceAdd, Nat.reduceMul, Nat.reduceBEq, beq_self_eq_true, Nat.reduceLeDiff, Nat.le_refl, Int.reduceEq, reduceCtorEq, rl_still, yp4, vp4]) (fun _ => trivial) fun n4 hn4 => ?_
    simp -dsimp only [go_sem, Nat.reduceLT, Nat.reduceEqDiff, Nat.reduceAdd, Nat.reduceMul, Nat.reduceBEq, beq_self_eq_true, Nat.reduceLeDiff, Nat.le_refl, Int.reduceEq, reduceCtorEq, vs2, vs3, vs6, vs7, vp1, vp2, vp3, e1, e2, e3, c1, c2, c3, xvp1, xvp2, xvp3, up1, up2, up3, yp1, yp2, yp3, m1p1, m1p2, m1p3, m2p1, m2p2, m2p3, hk, decide_false, bne_self_eq_false, Bool.not_true, Bool.not_false, Bool.false_eq_true, Bool.true_eq_false, false_imp_iff, true_and, and_true, forall_const, reduceCtorEq]
    refine xcall_mk (markPage_p y _ (1) _ _ yi yo (by decide) (by omega)) (by simp -dsimp only [go_sem, Nat.reduceLT, Nat.reduceEqDiff, Nat.reduceAdd, Nat.reduceMul, Nat.reduceBEq, beq_self_eq_true, Nat.reduceLeDiff, Nat.le_refl, Int.reduceEq, reduceCtorEq, vs2, vs3, vs6, vs7, vp1, vp2, vp3, e1, e2, e3, c1, c2, c3, xvp1, xvp2, xvp3, up1, up2, up3, yp1, yp2, yp3, m1p1, m1p2, m1p3, m2p1, m2p2, m2p3, hk]) yp3 yp4 ⟨trivial, trivial⟩ (fun t ht => hW t (by have := yo.rg t ht; omega)) [2, 3, 6, 7, 8, 9, 10, 11, 12] (fun _ _ => .any) (fun E => upd (upd (upd (upd (upd (upd (fun _ => none) 2 (some (g1, b1, d))) 3 (some (g2, b2, dS))) 6 (some (g, b, v))) 8 (some (g12, b12, m1))) 9 (some (g13, b13, m2))) 10 (some (g14, b14, E))) fun m3 nm3 hnm3 hm3 =>
        ⟨by simp -dsimp only [go_sem, Nat.reduceLT, Nat.reduceEqDiff, Nat.reduceAdd, Nat.reduceMul, Nat.reduceBEq, beq_self_eq_true, Nat.reduceLeDiff, Nat.le_refl, Int.reduceEq, reduceCtorEq, vs2, vs3, vs6, vs7, vp1, vp2, vp3, e1, e2, e3, c1, c2, c3, xvp1, xvp2, xvp3, up1, up2, up3, yp1, yp2, yp3, m1p1, m1p2, m1p3, m2p1, m2p2, m2p3, hk], carry_any, ((((((CarR.none _ _ _).upd e3 (carry_lo yo (by omega) dT)).upd c3 (carry_lo yo (by omega) dST)).upd vp3 (carry_own yo vo (.inr (by omega)))).upd m1p3 (carry_own yo m1o (.inr (by omega)))).upd m2p3 (carry_own yo m2o (.inr (by omega)))).upd (shp_page _ _ hm3.rel).2.2.1 .here, ?_⟩
    have m3p := shp_page _ _ hm3.rel
    have m3p1 := m3p.1
    have m3p2 := m3p.2.1
    have m3p3 := m3p.2.2.1
    have m3p4 := m3p.2.2.2
    have m3o := hm3.own yo
    have m3i := hm3.rel
    simp -dsimp only [go_sem, Nat.reduceLT, Nat.reduceEqDiff, Nat.reduceAdd, Nat.reduceMul, Nat.reduceBEq, beq_self_eq_true, Nat.reduceLeDiff, Nat.le_refl, Int.reduceEq, reduceCtorEq, vs2, vs3, vs6, vs7, vp1, vp2, vp3, e1, e2, e3, c1, c2, c3, xvp1, xvp2, xvp3, up1, up2, up3, yp1, yp2, yp3, m1p1, m1p2, m1p3, m2p1, m2p2, m2p3, hk, m3p1, m3p2, m3p3]
    refine xcall_v (heldPage_p _ (Md.redo x y0).1 (1) m3i (by decide) (by omega)) (by simp -dsimp only [go_sem, Nat.reduceLT, Nat.reduceEqDiff, Nat.reduceAdd, Nat.reduceMul, Nat.reduceBEq, beq_self_eq_true, Nat.reduceLeDiff, Nat.le_refl, Int.reduceEq, reduceCtorEq, rl_still, m3p4]) (fun _ => trivial) fun n7 hn7 => ?_
    have hk2 : ¬ (1 + (Md.szPage (Md.redo x y0).1 : Nat) < (0 : Int)) := by omega
    simp -dsimp only [go_sem, Nat.reduceLT, Nat.reduceEqDiff, Nat.reduceAdd, Nat.reduceMul, Nat.reduceBEq, beq_self_eq_true, Nat.reduceLeDiff, Nat.le_refl, Int.reduceEq, reduceCtorEq, vs2, vs3, vs6, vs7, vp1, vp2, vp3, e1, e2, e3, c1, c2, c3, xvp1, xvp2, xvp3, up1, up2, up3, yp1, yp2, yp3, m1p1, m1p2, m1p3, m2p1, m2p2, m2p3, hk, m3p1, m3p2, m3p3, hk2, bne_self_eq_false, Bool.not_true, Bool.not_false, Bool.false_eq_true, Bool.true_eq_false, false_imp_iff, true_and, and_true, forall_const, reduceCtorEq, decide_false]
    refine iwp_planT (.early 0 (.early 2 (.fork 1 (.fork 3 (.fork 4 (.early 5 (.early 6 (.early 7 (.late 8 (.late 9 (.early 10 .done)))))) 8 (.late 4 (.early 5 (.early 6 (.early 7 (.late 9 (.early 10 .done))))))) 8 (.late 3 (.late 4 (.early 5 (.early 6 (.early 7 (.late 9 (.early 10 .done)))))))) 8 (.late 1 (.late 3 (.late 4 (.early 5 (.early 6 (.early 7 (.late 9 (.early 10 .done))))))))))) [2, 3] [] rfl (by decide +kernel) (by decide) (by decide +kernel) ?_
    refine fork_k (fun st => ∃ n' g19 b19 s' D, st = { N := 119, n := n', s := s', R := upd (upd (upd (upd (upd (upd (upd (fun _ => none) 2 (some (g1, b1, d))) 3 (some (g2, b2, dS))) 6 (some (g, b, v))) 8 (some (g12, b12, m1))) 9 (some (g13, b13, m2))) 10 (some (g14, b14, m3))) 15 (some (g19, b19, D)) } ∧
      n7 ≤ n' ∧ s' 6 = .ptr 6 g 0 [] ∧ s' 7 = .lit (.bool (Md.redo x y0).2) ∧ s' 10 = .ptr 10 g14 0 [] ∧ s' 13 = .lit (.int .i64 (1 + (Md.szPage (Md.redo x y0).1 : Nat))) ∧ s' 15 = .ptr 15 g19 0 [] ∧
      s' 16 = .lit (.bool (Md.redo x y0).2) ∧ IsPage D (Md.redo x y0).1) ?_ ?_
    · rintro st ⟨n', g19, b19, s', hv, rfl, hn', z10, z11, z14, z17, z19, z20, hvi⟩
      have hp := shp_page _ _ hvi
      have hp1 := hp.1
      have hp2 := hp.2.1
      have hp3 := hp.2.2.1
      have hp4 := hp.2.2.2
      have hvp4 := hp4
      simp -dsimp only [go_sem, Nat.reduceLT, Nat.reduceEqDiff, Nat.reduceAdd, Nat.reduceMul, Nat.reduceBEq, beq_self_eq_true, Nat.reduceLeDiff, Nat.le_refl, Int.reduceEq, reduceCtorEq, z10, z11, z14, z17, z19, z20, hp1, hp2, hp3, vp1, vp2, vp3, m3p1, m3p2, m3p3, hk2]
      refine xcall_v (eqPage_p _ _ _ hvi vi) (by simp -dsimp only [go_sem, Nat.reduceLT, Nat.reduceEqDiff, Nat.reduceAdd, Nat.reduceMul, Nat.reduceBEq, beq_self_eq_true, Nat.reduceLeDiff, Nat.le_refl, Int.reduceEq, reduceCtorEq, rl_still, hvp4, vp4]) (fun _ => trivial) fun n4 hn4 => ?_
      simp -dsimp only [go_sem, Nat.reduceLT, Nat.reduceEqDiff, Nat.reduceAdd, Nat.reduceMul, Nat.reduceBEq, beq_self_eq_true, Nat.reduceLeDiff, Nat.le_refl, Int.reduceEq, reduceCtorEq, z10, z11, z14, z17, z19, z20, hp1, hp2, hp3, vp1, vp2, vp3, m3p1, m3p2, m3p3, hk2, decide_false, bne_self_eq_false, Bool.not_true, Bool.not_false, Bool.false_eq_true, Bool.true_eq_false, false_imp_iff, true_and, and_true, forall_const, reduceCtorEq]
      refine xcall_v (heldPage_p _ (Md.redo x y0).1 (1) m3i (by decide) (by omega)) (by simp -dsimp only [go_sem, Nat.reduceLT, Nat.reduceEqDiff, Nat.reduceAdd, Nat.reduceMul, Nat.reduceBEq, beq_self_eq_true, Nat.reduceLeDiff, Nat.le_refl, Int.reduceEq, reduceCtorEq, rl_still, m3p4]) (fun _ => trivial) fun n9 hn9 => ?_
      simp -dsimp only [go_sem, Nat.reduceLT, Nat.reduceEqDiff, Nat.reduceAdd, Nat.reduceMul, Nat.reduceBEq, beq_self_eq_true, Nat.reduceLeDiff, Nat.le_refl, Int.reduceEq, reduceCtorEq, z10, z11, z14, z17, z19, z20, hp1, hp2, hp3, vp1, vp2, vp3, m3p1, m3p2, m3p3, hk2, bne_self_eq_false, Bool.not_true, Bool.not_false, Bool.false_eq_true, Bool.true_eq_false, false_imp_iff, true_and, and_true, forall_const, reduceCtorEq, decide_false]
    · intro K hK
      simp -dsimp only [go_sem, Nat.reduceLT, Nat.reduceEqDiff, Nat.reduceAdd, Nat.reduceMul, Nat.reduceBEq, beq_self_eq_true, Nat.reduceLeDiff, Nat.le_refl, Int.reduceEq, reduceCtorEq, vs2, vs3, vs6, vs7, vp1, vp2, vp3, e1, e2, e3, c1, c2, c3, xvp1, xvp2, xvp3, up1, up2, up3, yp1, yp2, yp3, m1p1, m1p2, m1p3, m2p1, m2p2, m2p3, hk, m3p1, m3p2, m3p3, hk2]
      refine ⟨?_, ?_⟩
      · refine xcall_p (toPage_p _ _ h hs) (by simp -dsimp only [go_sem, Nat.reduceLT, Nat.reduceEqDiff, Nat.reduceAdd, Nat.reduceMul, Nat.reduceBEq, beq_self_eq_true, Nat.reduceLeDiff, Nat.le_refl, Int.reduceEq, reduceCtorEq, rl_still, e4]) fun r2lo r2hi r2 hr2lo hr2hi hr2 => ?_
        have r2o := hr2.2
        have r2i := hr2.1
        have r2p := shp_page _ _ r2i
        have r2p1 := r2p.1
        have r2p2 := r2p.2.1
        have r2p3 := r2p.2.2.1
        have r2p4 := r2p.2.2.2
        refine ⟨r2o.tags, ?_⟩
        simp -dsimp only [go_sem, Nat.reduceLT, Nat.reduceEqDiff, Nat.reduceAdd, Nat.reduceMul, Nat.reduceBEq, beq_self_eq_true, Nat.reduceLeDiff, Nat.le_refl, Int.reduceEq, reduceCtorEq, vs2, vs3, vs6, vs7, vp1, vp2, vp3, e1, e2, e3, c1, c2, c3, xvp1, xvp2, xvp3, up1, up2, up3, yp1, yp2, yp3, m1p1, m1p2, m1p3, m2p1, m2p2, m2p3, hk, m3p1, m3p2, m3p3, hk2, r2p1, r2p2, r2p3]
        refine ⟨?_, ?_⟩
        · refine xcall_p (toRec_p _ _ hS hs2) (by simp -dsimp only [go_sem, Nat.reduceLT, Nat.reduceEqDiff, Nat.reduceAdd, Nat.reduceMul, Nat.reduceBEq, beq_self_eq_true, Nat.reduceLeDiff, Nat.le_refl, Int.reduceEq, reduceCtorEq, rl_still, c4]) fun u2lo u2hi u2 hu2lo hu2hi hu2 => ?_
          have u2o := hu2.2
          have u2i := hu2.1
          have u2p := shp_rec _ _ u2i
          have u2p1 := u2p.1
          have u2p2 := u2p.2.1
          have u2p3 := u2p.2.2.1
          have u2p4 := u2p.2.2.2
          refine ⟨u2o.tags, ?_⟩
          simp -dsimp only [go_sem, Nat.reduceLT, Nat.reduceEqDiff, Nat.reduceAdd, Nat.reduceMul, Nat.reduceBEq, beq_self_eq_true, Nat.reduceLeDiff, Nat.le_refl, Int.reduceEq, reduceCtorEq, vs2, vs3, vs6, vs7, vp1, vp2, vp3, e1, e2, e3, c1, c2, c3, xvp1, xvp2, xvp3, up1, up2, up3, yp1, yp2, yp3, m1p1, m1p2, m1p3, m2p1, m2p2, m2p3, hk, m3p1, m3p2, m3p3, hk2, r2p1, r2p2, r2p3, u2p1, u2p2, u2p3]
          refine ⟨?_, ?_⟩
          · refine xcall_p (redo_p _ _ _ _ r2i u2i hs hs2) (by simp -dsimp only [go_sem, Nat.reduceLT, Nat.reduceEqDiff, Nat.reduceAdd, Nat.reduceMul, Nat.reduceBEq, beq_self_eq_true, Nat.reduceLeDiff, Nat.le_refl, Int.reduceEq, reduceCtorEq, rl_still, r2p4, u2p4]) fun v2lo v2hi v2w hv2lo hv2hi hv2w => ?_
            obtain ⟨v2, rfl, hv2⟩ := hv2w.out
            have v2o := hv2.2
            have v2i := hv2.1
            have v2p := shp_page _ _ v2i
            have v2p1 := v2p.1
            have v2p2 := v2p.2.1
            have v2p3 := v2p.2.2.1
            have v2p4 := v2p.2.2.2
            refine ⟨tags_two v2o.tags, ?_⟩
            simp -dsimp only [go_sem, Nat.reduceLT, Nat.reduceEqDiff, Nat.reduceAdd, Nat.reduceMul, Nat.reduceBEq, beq_self_eq_true, Nat.reduceLeDiff, Nat.le_refl, Int.reduceEq, reduceCtorEq, vs2, vs3, vs6, vs7, vp1, vp2, vp3, e1, e2, e3, c1, c2, c3, xvp1, xvp2, xvp3, up1, up2, up3, yp1, yp2, yp3, m1p1, m1p2, m1p3, m2p1, m2p2, m2p3, hk, m3p1, m3p2, m3p3, hk2, r2p1, r2p2, r2p3, u2p1, u2p2, u2p3, v2p1, v2p2, v2p3]
            intro g19 b19 hb19
            exact hK _ ⟨_, _, _, _, _, rfl, by omega, by simp -dsimp only [go_sem, Nat.reduceLT, Nat.reduceEqDiff, Nat.reduceAdd, Nat.reduceMul, Nat.reduceBEq, beq_self_eq_true, Nat.reduceLeDiff, Nat.le_refl, Int.reduceEq, reduceCtorEq], by simp -dsimp only [go_sem, Nat.reduceLT, Nat.reduceEqDiff, Nat.reduceAdd, Nat.reduceMul, Nat.reduceBEq, beq_self_eq_true, Nat.reduceLeDiff, Nat.le_refl, Int.reduceEq, reduceCtorEq], by simp -dsimp only [go_sem, Nat.reduceLT, Nat.reduceEqDiff, Nat.reduceAdd, Nat.reduceMul, Nat.reduceBEq, beq_self_eq_true, Nat.reduceLeDiff, Nat.le_refl, Int.reduceEq, reduceCtorEq], by simp -dsimp only [go_sem, Nat.reduceLT, Nat.reduceEqDiff, Nat.reduceAdd, Nat.reduceMul, Nat.reduceBEq, beq_self_eq_true, Nat.reduceLeDiff, Nat.le_refl, Int.reduceEq, reduceCtorEq], by simp -dsimp only [go_sem, Nat.reduceLT, Nat.reduceEqDiff, Nat.reduceAdd, Nat.reduceMul, Nat.reduceBEq, beq_self_eq_true, Nat.reduceLeDiff, Nat.le_refl, Int.reduceEq, reduceCtorEq], by simp -dsimp only [go_sem, Nat.reduceLT, Nat.reduceEqDiff, Nat.reduceAdd, Nat.reduceMul, Nat.reduceBEq, beq_self_eq_true, Nat.reduceLeDiff, Nat.le_refl, Int.reduceEq, reduceCtorEq], v2i⟩
          · intro g19 b19 hb19
            refine xcall_p (redo_p _ _ _ _ r2i u2i hs hs2) (by simp -dsimp only [go_sem, Nat.reduceLT, Nat.reduceEqDiff, Nat.reduceAdd, Nat.reduceMul, Nat.reduceBEq, beq_self_eq_true, Nat.reduceLeDiff, Nat.le_refl, Int.reduceEq, reduceCtorEq, rl_still, r2p4, u2p4]) fun v2lo v2hi v2w hv2lo hv2hi hv2w => ?_
            obtain ⟨v2, rfl, hv2⟩ := hv2w.out
            have v2o := hv2.2
            have v2i := hv2.1
            have v2p := shp_page _ _ v2i
            have v2p1 := v2p.1
            have v2p2 := v2p.2.1
            have v2p3 := v2p.2.2.1
            have v2p4 := v2p.2.2.2
            refine ⟨tags_two v2o.tags, ?_⟩
            simp -dsimp only [go_sem, Nat.reduceLT, Nat.reduceEqDiff, Nat.reduceAdd, Nat.reduceMul, Nat.reduceBEq, beq_self_eq_true, Nat.reduceLeDiff, Nat.le_refl, Int.reduceEq, reduceCtorEq, vs2, vs3, vs6, vs7, vp1, vp2, vp3, e1, e2, e3, c1, c2, c3, xvp1, xvp2, xvp3, up1, up2, up3, yp1, yp2, yp3, m1p1, m1p2, m1p3, m2p1, m2p2, m2p3, hk, m3p1, m3p2, m3p3, hk2, r2p1, r2p2, r2p3, u2p1, u2p2, u2p3, v2p1, v2p2, v2p3]
            exact hK _ ⟨_, _, _, _, _, rfl, by omega, by simp -dsimp only [go_sem, Nat.reduceLT, Nat.reduceEqDiff, Nat.reduceAdd, Nat.reduceMul, Nat.reduceBEq, beq_self_eq_true, Nat.reduceLeDiff, Nat.le_refl, Int.reduceEq, reduceCtorEq], by simp -dsimp only [go_sem, Nat.reduceLT, Nat.reduceEqDiff, Nat.reduceAdd, Nat.reduceMul, Nat.reduceBEq, beq_self_eq_true, Nat.reduceLeDiff, Nat.le_refl, Int.reduceEq, reduceCtorEq], by simp -dsimp only [go_sem, Nat.reduceLT, Nat.reduceEqDiff, Nat.reduceAdd, Nat.reduceMul, Nat.reduceBEq, beq_self_eq_true, Nat.reduceLeDiff, Nat.le_refl, Int.reduceEq, reduceCtorEq], by simp -dsimp only [go_sem, Nat.reduceLT, Nat.reduceEqDiff, Nat.reduceAdd, Nat.reduceMul, Nat.reduceBEq, beq_self_eq_true, Nat.reduceLeDiff, Nat.le_refl, Int.reduceEq, reduceCtorEq], by simp -dsimp only [go_sem, Nat.reduceLT, Nat.reduceEqDiff, Nat.reduceAdd, Nat.reduceMul, Nat.reduceBEq, beq_self_eq_true, Nat.reduceLeDiff, Nat.le_refl, Int.reduceEq, reduceCtorEq], by simp -dsimp only [go_sem, Nat.reduceLT, Nat.reduceEqDiff, Nat.reduceAdd, Nat.reduceMul, Nat.reduceBEq, beq_self_eq_true, Nat.reduceLeDiff, Nat.le_refl, Int.reduceEq, reduceCtorEq], v2i⟩
        · intro g19 b19 hb19
          refine xcall_p (toRec_p _ _ hS hs2) (by simp -dsimp only [go_sem, Nat.reduceLT, Nat.reduceEqDiff, Nat.reduceAdd, Nat.reduceMul, Nat.reduceBEq, beq_self_eq_true, Nat.reduceLeDiff, Nat.le_refl, Int.reduceEq, reduceCtorEq, rl_still, c4]) fun u2lo u2hi u2 hu2lo hu2hi hu2 => ?_
          have u2o := hu2.2
          have u2i := hu2.1
          have u2p := shp_rec _ _ u2i
          have u2p1 := u2p.1
          have u2p2 := u2p.2.1
          have u2p3 := u2p.2.2.1
          have u2p4 := u2p.2.2.2
          refine ⟨u2o.tags, ?_⟩
          simp -dsimp only [go_sem, Nat.reduceLT, Nat.reduceEqDiff, Nat.reduceAdd, Nat.reduceMul, Nat.reduceBEq, beq_self_eq_true, Nat.reduceLeDiff, Nat.le_refl, Int.reduceEq, reduceCtorEq, vs2, vs3, vs6, vs7, vp1, vp2, vp3, e1, e2, e3, c1, c2, c3, xvp1, xvp2, xvp3, up1, up2, up3, yp1, yp2, yp3, m1p1, m1p2, m1p3, m2p1, m2p2, m2p3, hk, m3p1, m3p2, m3p3, hk2, r2p1, r2p2, r2p3, u2p1, u2p2, u2p3]
          refine xcall_p (redo_p _ _ _ _ r2i u2i hs hs2) (by simp -dsimp only [go_sem, Nat.reduceLT, Nat.reduceEqDiff, Nat.reduceAdd, Nat.reduceMul, Nat.reduceBEq, beq_self_eq_true, Nat.reduceLeDiff, Nat.le_refl, Int.reduceEq, reduceCtorEq, rl_still, r2p4, u2p4]) fun v2lo v2hi v2w hv2lo hv2hi hv2w => ?_
          obtain ⟨v2, rfl, hv2⟩ := hv2w.out
          have v2o := hv2.2
          have v2i := hv2.1
          have v2p := shp_page _ _ v2i
          have v2p1 := v2p.1
          have v2p2 := v2p.2.1
          have v2p3 := v2p.2.2.1
          have v2p4 := v2p.2.2.2
          refine ⟨tags_two v2o.tags, ?_⟩
          simp -dsimp only [go_sem, Nat.reduceLT, Nat.reduceEqDiff, Nat.reduceAdd, Nat.reduceMul, Nat.reduceBEq, beq_self_eq_true, Nat.reduceLeDiff, Nat.le_refl, Int.reduceEq, reduceCtorEq, vs2, vs3, vs6, vs7, vp1, vp2, vp3, e1, e2, e3, c1, c2, c3, xvp1, xvp2, xvp3, up1, up2, up3, yp1, yp2, yp3, m1p1, m1p2, m1p3, m2p1, m2p2, m2p3, hk, m3p1, m3p2, m3p3, hk2, r2p1, r2p2, r2p3, u2p1, u2p2, u2p3, v2p1, v2p2, v2p3]
          exact hK _ ⟨_, _, _, _, _, rfl, by omega, by simp -dsimp only [go_sem, Nat.reduceLT, Nat.reduceEqDiff, Nat.reduceAdd, Nat.reduceMul, Nat.reduceBEq, beq_self_eq_true, Nat.reduceLeDiff, Nat.le_refl, Int.reduceEq, reduceCtorEq], by simp -dsimp only [go_sem, Nat.reduceLT, Nat.reduceEqDiff, Nat.reduceAdd, Nat.reduceMul, Nat.reduceBEq, beq_self_eq_true, Nat.reduceLeDiff, Nat.le_refl, Int.reduceEq, reduceCtorEq], by simp -dsimp only [go_sem, Nat.reduceLT, Nat.reduceEqDiff, Nat.reduceAdd, Nat.reduceMul, Nat.reduceBEq, beq_self_eq_true, Nat.reduceLeDiff, Nat.le_refl, Int.reduceEq, reduceCtorEq], by simp -dsimp only [go_sem, Nat.reduceLT, Nat.reduceEqDiff, Nat.reduceAdd, Nat.reduceMul, Nat.reduceBEq, beq_self_eq_true, Nat.reduceLeDiff, Nat.le_refl, Int.reduceEq, reduceCtorEq], by simp -dsimp only [go_sem, Nat.reduceLT, Nat.reduceEqDiff, Nat.reduceAdd, Nat.reduceMul, Nat.reduceBEq, beq_self_eq_true, Nat.reduceLeDiff, Nat.le_refl, Int.reduceEq, reduceCtorEq], by simp -dsimp only [go_sem, Nat.reduceLT, Nat.reduceEqDiff, Nat.reduceAdd, Nat.reduceMul, Nat.reduceBEq, beq_self_eq_true, Nat.reduceLeDiff, Nat.le_refl, Int.reduceEq, reduceCtorEq], v2i⟩
      · intro g19 b19 hb19
        refine xcall_p (toPage_p _ _ h hs) (by simp -dsimp only [go_sem, Nat.reduceLT, Nat.reduceEqDiff, Nat.reduceAdd, Nat.reduceMul, Nat.reduceBEq, beq_self_eq_true, Nat.reduceLeDiff, Nat.le_refl, Int.reduceEq, reduceCtorEq, rl_still, e4]) fun r2lo r2hi r2 hr2lo hr2hi hr2 => ?_
        have r2o := hr2.2
        have r2i := hr2.1
        have r2p := shp_page _ _ r2i
        have r2p1 := r2p.1
        have r2p2 := r2p.2.1
        have r2p3 := r2p.2.2.1
        have r2p4 := r2p.2.2.2
        refine ⟨r2o.tags, ?_⟩
        simp -dsimp only [go_sem, Nat.reduceLT, Nat.reduceEqDiff, Nat.reduceAdd, Nat.reduceMul, Nat.reduceBEq, beq_self_eq_true, Nat.reduceLeDiff, Nat.le_refl, Int.reduceEq, reduceCtorEq, vs2, vs3, vs6, vs7, vp1, vp2, vp3, e1, e2, e3, c1, c2, c3, xvp1, xvp2, xvp3, up1, up2, up3, yp1, yp2, yp3, m1p1, m1p2, m1p3, m2p1, m2p2, m2p3, hk, m3p1, m3p2, m3p3, hk2, r2p1, r2p2, r2p3]
        refine xcall_p (toRec_p _ _ hS hs2) (by simp -dsimp only [go_sem, Nat.reduceLT, Nat.reduceEqDiff, Nat.reduceAdd, Nat.reduceMul, Nat.reduceBEq, beq_self_eq_true, Nat.reduceLeDiff, Nat.le_refl, Int.reduceEq, reduceCtorEq, rl_still, c4]) fun u2lo u2hi u2 hu2lo hu2hi hu2 => ?_
        have u2o := hu2.2
        have u2i := hu2.1
        have u2p := shp_rec _ _ u2i
        have u2p1 := u2p.1
        have u2p2 := u2p.2.1
        have u2p3 := u2p.2.2.1
        have u2p4 := u2p.2.2.2
        refine ⟨u2o.tags, ?_⟩
        simp -dsimp only [go_sem, Nat.reduceLT, Nat.reduceEqDiff, Nat.reduceAdd, Nat.reduceMul, Nat.reduceBEq, beq_self_eq_true, Nat.reduceLeDiff, Nat.le_refl, Int.reduceEq, reduceCtorEq, vs2, vs3, vs6, vs7, vp1, vp2, vp3, e1, e2, e3, c1, c2, c3, xvp1, xvp2, xvp3, up1, up2, up3, yp1, yp2, yp3, m1p1, m1p2, m1p3, m2p1, m2p2, m2p3, hk, m3p1, m3p2, m3p3, hk2, r2p1, r2p2, r2p3, u2p1, u2p2, u2p3]
        refine xcall_p (redo_p _ _ _ _ r2i u2i hs hs2) (by simp -dsimp only [go_sem, Nat.reduceLT, Nat.reduceEqDiff, Nat.reduceAdd, Nat.reduceMul, Nat.reduceBEq, beq_self_eq_true, Nat.reduceLeDiff, Nat.le_refl, Int.reduceEq, reduceCtorEq, rl_still, r2p4, u2p4]) fun v2lo v2hi v2w hv2lo hv2hi hv2w => ?_
        obtain ⟨v2, rfl, hv2⟩ := hv2w.out
        have v2o := hv2.2
        have v2i := hv2.1
        have v2p := shp_page _ _ v2i
        have v2p1 := v2p.1
        have v2p2 := v2p.2.1
        have v2p3 := v2p.2.2.1
        have v2p4 := v2p.2.2.2
        refine ⟨tags_two v2o.tags, ?_⟩
        simp -dsimp only [go_sem, Nat.reduceLT, Nat.reduceEqDiff, Nat.reduceAdd, Nat.reduceMul, Nat.reduceBEq, beq_self_eq_true, Nat.reduceLeDiff, Nat.le_refl, Int.reduceEq, reduceCtorEq, vs2, vs3, vs6, vs7, vp1, vp2, vp3, e1, e2, e3, c1, c2, c3, xvp1, xvp2, xvp3, up1, up2, up3, yp1, yp2, yp3, m1p1, m1p2, m1p3, m2p1, m2p2, m2p3, hk, m3p1, m3p2, m3p3, hk2, r2p1, r2p2, r2p3, u2p1, u2p2, u2p3, v2p1, v2p2, v2p3]
        exact hK _ ⟨_, _, _, _, _, rfl, by omega, by simp -dsimp only [go_sem, Nat.reduceLT, Nat.reduceEqDiff, Nat.reduceAdd, Nat.reduceMul, Nat.reduceBEq, beq_self_eq_true, Nat.reduceLeDiff, Nat.le_refl, Int.reduceEq, reduceCtorEq], by simp -dsimp only [go_sem, Nat.reduceLT, Nat.reduceEqDiff, Nat.reduceAdd, Nat.reduceMul, Nat.reduceBEq, beq_self_eq_true, Nat.reduceLeDiff, Nat.le_refl, Int.reduceEq, reduceCtorEq], by simp -dsimp only [go_sem, Nat.reduceLT, Nat.reduceEqDiff, Nat.reduceAdd, Nat.reduceMul, Nat.reduceBEq, beq_self_eq_true, Nat.reduceLeDiff, Nat.le_refl, Int.reduceEq, reduceCtorEq], by simp -dsimp only [go_sem, Nat.reduceLT, Nat.reduceEqDiff, Nat.reduceAdd, Nat.reduceMul, Nat.reduceBEq, beq_self_eq_true, Nat.reduceLeDiff, Nat.le_refl, Int.reduceEq, reduceCtorEq], by simp -dsimp only [go_sem, Nat.reduceLT, Nat.reduceEqDiff, Nat.reduceAdd, Nat.reduceMul, Nat.reduceBEq, beq_self_eq_true, Nat.reduceLeDiff, Nat.le_refl, Int.reduceEq, reduceCtorEq], by simp -dsimp only [go_sem, Nat.reduceLT, Nat.reduceEqDiff, Nat.reduceAdd, Nat.reduceMul, Nat.reduceBEq, beq_self_eq_true, Nat.reduceLeDiff, Nat.le_refl, Int.reduceEq, reduceCtorEq], v2i⟩
  · intro K hK
    simp -dsimp only [go_sem, Nat.reduceLT, Nat.reduceEqDiff, Nat.reduceAdd, Nat.reduceMul, Nat.reduceBEq, beq_self_eq_true, Nat.reduceLeDiff, Nat.le_refl, Int.reduceEq, reduceCtorEq, e1, e2, e3, c1, c2, c3]
    refine ⟨?_, ?_⟩
    · refine xcall_p (toPage_p _ _ h hs) (by simp -dsimp only [go_sem, Nat.reduceLT, Nat.reduceEqDiff, Nat.reduceAdd, Nat.reduceMul, Nat.reduceBEq, beq_self_eq_true, Nat.reduceLeDiff, Nat.le_refl, Int.reduceEq, reduceCtorEq, rl_still, e4]) fun rlo rhi r hrlo hrhi hr => ?_
      have ro := hr.2
      have ri := hr.1
      have rp := shp_page _ _ ri
      have rp1 := rp.1
      have rp2 := rp.2.1
      have rp3 := rp.2.2.1
      have rp4 := rp.2.2.2
      refine ⟨ro.tags, ?_⟩
      simp -dsimp only [go_sem, Nat.reduceLT, Nat.reduceEqDiff, Nat.reduceAdd, Nat.reduceMul, Nat.reduceBEq, beq_self_eq_true, Nat.reduceLeDiff, Nat.le_refl, Int.reduceEq, reduceCtorEq, e1, e2, e3, c1, c2, c3, rp1, rp2, rp3]
      refine ⟨?_, ?_⟩
      · refine xcall_p (toRec_p _ _ hS hs2) (by simp -dsimp only [go_sem, Nat.reduceLT, Nat.reduceEqDiff, Nat.reduceAdd, Nat.reduceMul, Nat.reduceBEq, beq_self_eq_true, Nat.reduceLeDiff, Nat.le_refl, Int.reduceEq, reduceCtorEq, rl_still, c4]) fun ulo uhi u hulo huhi hu => ?_
        have uo := hu.2
        have ui := hu.1
        have up := shp_rec _ _ ui
        have up1 := up.1
        have up2 := up.2.1
        have up3 := up.2.2.1
        have up4 := up.2.2.2
        refine ⟨uo.tags, ?_⟩
        simp -dsimp only [go_sem, Nat.reduceLT, Nat.reduceEqDiff, Nat.reduceAdd, Nat.reduceMul, Nat.reduceBEq, beq_self_eq_true, Nat.reduceLeDiff, Nat.le_refl, Int.reduceEq, reduceCtorEq, e1, e2, e3, c1, c2, c3, rp1, rp2, rp3, up1, up2, up3]
        refine ⟨?_, ?_⟩
        · refine xcall_p (specRedo_p _ _ _ _ ri ui hs hs2) (by simp -dsimp only [go_sem, Nat.reduceLT, Nat.reduceEqDiff, Nat.reduceAdd, Nat.reduceMul, Nat.reduceBEq, beq_self_eq_true, Nat.reduceLeDiff, Nat.le_refl, Int.reduceEq, reduceCtorEq, rl_still, rp4, up4]) fun vlo vhi vw hvlo hvhi hvw => ?_
          obtain ⟨v, rfl, hv⟩ := hvw.out
          have vo := hv.2
          have vi := hv.1
          have vp := shp_page _ _ vi
          have vp1 := vp.1
          have vp2 := vp.2.1
          have vp3 := vp.2.2.1
          have vp4 := vp.2.2.2
          refine ⟨tags_two vo.tags, ?_⟩
          simp -dsimp only [go_sem, Nat.reduceLT, Nat.reduceEqDiff, Nat.reduceAdd, Nat.reduceMul, Nat.reduceBEq, beq_self_eq_true, Nat.reduceLeDiff, Nat.le_refl, Int.reduceEq, reduceCtorEq, e1, e2, e3, c1, c2, c3, rp1, rp2, rp3, up1, up2, up3, vp1, vp2, vp3]
          intro g b hb
          exact hK _ ⟨_, _, _, _, _, rfl, by omega, by simp -dsimp only [go_sem, Nat.reduceLT, Nat.reduceEqDiff, Nat.reduceAdd, Nat.reduceMul, Nat.reduceBEq, beq_self_eq_true, Nat.reduceLeDiff, Nat.le_refl, Int.reduceEq, reduceCtorEq], by simp -dsimp only [go_sem, Nat.reduceLT, Nat.reduceEqDiff, Nat.reduceAdd, Nat.reduceMul, Nat.reduceBEq, beq_self_eq_true, Nat.reduceLeDiff, Nat.le_refl, Int.reduceEq, reduceCtorEq], by simp -dsimp only [go_sem, Nat.reduceLT, Nat.reduceEqDiff, Nat.reduceAdd, Nat.reduceMul, Nat.reduceBEq, beq_self_eq_true, Nat.reduceLeDiff, Nat.le_refl, Int.reduceEq, reduceCtorEq], by simp -dsimp only [go_sem, Nat.reduceLT, Nat.reduceEqDiff, Nat.reduceAdd, Nat.reduceMul, Nat.reduceBEq, beq_self_eq_true, Nat.reduceLeDiff, Nat.le_refl, Int.reduceEq, reduceCtorEq], vi, vo.mono (by omega) (by omega)⟩
        · intro g b hb
          refine xcall_p (specRedo_p _ _ _ _ ri ui hs hs2) (by simp -dsimp only [go_sem, Nat.reduceLT, Nat.reduceEqDiff, Nat.reduceAdd, Nat.reduceMul, Nat.reduceBEq, beq_self_eq_true, Nat.reduceLeDiff, Nat.le_refl, Int.reduceEq, reduceCtorEq, rl_still, rp4, up4]) fun vlo vhi vw hvlo hvhi hvw => ?_
          obtain ⟨v, rfl, hv⟩ := hvw.out
          have vo := hv.2
          have vi := hv.1
          have vp := shp_page _ _ vi
          have vp1 := vp.1
          have vp2 := vp.2.1
          have vp3 := vp.2.2.1
          have vp4 := vp.2.2.2
          refine ⟨tags_two vo.tags, ?_⟩
          simp -dsimp only [go_sem, Nat.reduceLT, Nat.reduceEqDiff, Nat.reduceAdd, Nat.reduceMul, Nat.reduceBEq, beq_self_eq_true, Nat.reduceLeDiff, Nat.le_refl, Int.reduceEq, reduceCtorEq, e1, e2, e3, c1, c2, c3, rp1, rp2, rp3, up1, up2, up3, vp1, vp2, vp3]
          exact hK _ ⟨_, _, _, _, _, rfl, by omega, by simp -dsimp only [go_sem, Nat.reduceLT, Nat.reduceEqDiff, Nat.reduceAdd, Nat.reduceMul, Nat.reduceBEq, beq_self_eq_true, Nat.reduceLeDiff, Nat.le_refl, Int.reduceEq, reduceCtorEq], by simp -dsimp only [go_sem, Nat.reduceLT, Nat.reduceEqDiff, Nat.reduceAdd, Nat.reduceMul, Nat.reduceBEq, beq_self_eq_true, Nat.reduceLeDiff, Nat.le_refl, Int.reduceEq, reduceCtorEq], by simp -dsimp only [go_sem, Nat.reduceLT, Nat.reduceEqDiff, Nat.reduceAdd, Nat.reduceMul, Nat.reduceBEq, beq_self_eq_true, Nat.reduceLeDiff, Nat.le_refl, Int.reduceEq, reduceCtorEq], by simp -dsimp only [go_sem, Nat.reduceLT, Nat.reduceEqDiff, Nat.reduceAdd, Nat.reduceMul, Nat.reduceBEq, beq_self_eq_true, Nat.reduceLeDiff, Nat.le_refl, Int.reduceEq, reduceCtorEq], vi, vo.mono (by omega) (by omega)⟩
      · intro g b hb
        refine xcall_p (toRec_p _ _ hS hs2) (by simp -dsimp only [go_sem, Nat.reduceLT, Nat.reduceEqDiff, Nat.reduceAdd, Nat.reduceMul, Nat.reduceBEq, beq_self_eq_true, Nat.reduceLeDiff, Nat.le_refl, Int.reduceEq, reduceCtorEq, rl_still, c4]) fun ulo uhi u hulo huhi hu => ?_
        have uo := hu.2
        have ui := hu.1
        have up := shp_rec _ _ ui
        have up1 := up.1
        have up2 := up.2.1
        have up3 := up.2.2.1
        have up4 := up.2.2.2
        refine ⟨uo.tags, ?_⟩
        simp -dsimp only [go_sem, Nat.reduceLT, Nat.reduceEqDiff, Nat.reduceAdd, Nat.reduceMul, Nat.reduceBEq, beq_self_eq_true, Nat.reduceLeDiff, Nat.le_refl, Int.reduceEq, reduceCtorEq, e1, e2, e3, c1, c2, c3, rp1, rp2, rp3, up1, up2, up3]
        refine xcall_p (specRedo_p _ _ _ _ ri ui hs hs2) (by simp -dsimp only [go_sem, Nat.reduceLT, Nat.reduceEqDiff, Nat.reduceAdd, Nat.reduceMul, Nat.reduceBEq, beq_self_eq_true, Nat.reduceLeDiff, Nat.le_refl, Int.reduceEq, reduceCtorEq, rl_still, rp4, up4]) fun vlo vhi vw hvlo hvhi hvw => ?_
        obtain ⟨v, rfl, hv⟩ := hvw.out
        have vo := hv.2
        have vi := hv.1
        have vp := shp_page _ _ vi
        have vp1 := vp.1
        have vp2 := vp.2.1
        have vp3 := vp.2.2.1
        have vp4 := vp.2.2.2
        refine ⟨tags_two vo.tags, ?_⟩
        simp -dsimp only [go_sem, Nat.reduceLT, Nat.reduceEqDiff, Nat.reduceAdd, Nat.reduceMul, Nat.reduceBEq, beq_self_eq_true, Nat.reduceLeDiff, Nat.le_refl, Int.reduceEq, reduceCtorEq, e1, e2, e3, c1, c2, c3, rp1, rp2, rp3, up1, up2, up3, vp1, vp2, vp3]
        exact hK _ ⟨_, _, _, _, _, rfl, by omega, by simp -dsimp only [go_sem, Nat.reduceLT, Nat.reduceEqDiff, Nat.reduceAdd, Nat.reduceMul, Nat.reduceBEq, beq_self_eq_true, Nat.reduceLeDiff, Nat.le_refl, Int.reduceEq, reduceCtorEq], by simp -dsimp only [go_sem, Nat.reduceLT, Nat.reduceEqDiff, Nat.reduceAdd, Nat.reduceMul, Nat.reduceBEq, beq_self_eq_true, Nat.reduceLeDiff, Nat.le_refl, Int.reduceEq, reduceCtorEq], by simp -dsimp only [go_sem, Nat.reduceLT, Nat.reduceEqDiff, Nat.reduceAdd, Nat.reduceMul, Nat.reduceBEq, beq_self_eq_true, Nat.reduceLeDiff, Nat.le_refl, Int.reduceEq, reduceCtorEq], by simp -dsimp only [go_sem, Nat.reduceLT, Nat.reduceEqDiff, Nat.reduceAdd, Nat.reduceMul, Nat.reduceBEq, beq_self_eq_true, Nat.reduceLeDiff, Nat.le_refl, Int.reduceEq, reduceCtorEq], vi, vo.mono (by omega) (by omega)⟩
    · intro g b hb
      refine xcall_p (toPage_p _ _ h hs) (by simp -dsimp only [go_sem, Nat.reduceLT, Nat.reduceEqDiff, Nat.reduceAdd, Nat.reduceMul, Nat.reduceBEq, beq_self_eq_true, Nat.reduceLeDiff, Nat.le_refl, Int.reduceEq, reduceCtorEq, rl_still, e4]) fun rlo rhi r hrlo hrhi hr => ?_
      have ro := hr.2
      have ri := hr.1
      have rp := shp_page _ _ ri
      have rp1 := rp.1
      have rp2 := rp.2.1
      have rp3 := rp.2.2.1
      have rp4 := rp.2.2.2
      refine ⟨ro.tags, ?_⟩
      simp -dsimp only [go_sem, Nat.reduceLT, Nat.reduceEqDiff, Nat.reduceAdd, Nat.reduceMul, Nat.reduceBEq, beq_self_eq_true, Nat.reduceLeDiff, Nat.le_refl, Int.reduceEq, reduceCtorEq, e1, e2, e3, c1, c2, c3, rp1, rp2, rp3]
      refine xcall_p (toRec_p _ _ hS hs2) (by simp -dsimp only [go_sem, Nat.reduceLT, Nat.reduceEqDiff, Nat.reduceAdd, Nat.reduceMul, Nat.reduceBEq, beq_self_eq_true, Nat.reduceLeDiff, Nat.le_refl, Int.reduceEq, reduceCtorEq, rl_still, c4]) fun ulo uhi u hulo huhi hu => ?_
      have uo := hu.2
      have ui := hu.1
      have up := shp_rec _ _ ui
      have up1 := up.1
      have up2 := up.2.1
      have up3 := up.2.2.1
      have up4 := up.2.2.2
      refine ⟨uo.tags, ?_⟩
      simp -dsimp only [go_sem, Nat.reduceLT, Nat.reduceEqDiff, Nat.reduceAdd, Nat.reduceMul, Nat.reduceBEq, beq_self_eq_true, Nat.reduceLeDiff, Nat.le_refl, Int.reduceEq, reduceCtorEq, e1, e2, e3, c1, c2, c3, rp1, rp2, rp3, up1, up2, up3]
      refine xcall_p (specRedo_p _ _ _ _ ri ui hs hs2) (by simp -dsimp only [go_sem, Nat.reduceLT, Nat.reduceEqDiff, Nat.reduceAdd, Nat.reduceMul, Nat.reduceBEq, beq_self_eq_true, Nat.reduceLeDiff, Nat.le_refl, Int.reduceEq, reduceCtorEq, rl_still, rp4, up4]) fun vlo vhi vw hvlo hvhi hvw => ?_
      obtain ⟨v, rfl, hv⟩ := hvw.out
      have vo := hv.2
      have vi := hv.1
      have vp := shp_page _ _ vi
      have vp1 := vp.1
      have vp2 := vp.2.1
      have vp3 := vp.2.2.1
      have vp4 := vp.2.2.2
      refine ⟨tags_two vo.tags, ?_⟩
      simp -dsimp only [go_sem, Nat.reduceLT, Nat.reduceEqDiff, Nat.reduceAdd, Nat.reduceMul, Nat.reduceBEq, beq_self_eq_true, Nat.reduceLeDiff, Nat.le_refl, Int.reduceEq, reduceCtorEq, e1, e2, e3, c1, c2, c3, rp1, rp2, rp3, up1, up2, up3, vp1, vp2, vp3]
      exact hK _ ⟨_, _, _, _, _, rfl, by omega, by simp -dsimp only [go_sem, Nat.reduceLT, Nat.reduceEqDiff, Nat.reduceAdd, Nat.reduceMul, Nat.reduceBEq, beq_self_eq_true, Nat.reduceLeDiff, Nat.le_refl, Int.reduceEq, reduceCtorEq], by simp -dsimp only [go_sem, Nat.reduceLT, Nat.reduceEqDiff, Nat.reduceAdd, Nat.reduceMul, Nat.reduceBEq, beq_self_eq_true, Nat.reduceLeDiff, Nat.le_refl, Int.reduceEq, reduceCtorEq], by simp -dsimp only [go_sem, Nat.reduceLT, Nat.reduceEqDiff, Nat.reduceAdd, Nat.reduceMul, Nat.reduceBEq, beq_self_eq_true, Nat.reduceLeDiff, Nat.le_refl, Int.reduceEq, reduceCtorEq], by simp -dsimp only [go_sem, Nat.reduceLT, Nat.reduceEqDiff, Nat.reduceAdd, Nat.reduceMul, Nat.reduceBEq, beq_self_eq_true, Nat.reduceLeDiff, Nat.le_refl, Int.reduceEq, reduceCtorEq], vi, vo.mono (by omega) (by omega)⟩
end Go.Proofs.Ytjaddgkhlmallaa.IM
end
