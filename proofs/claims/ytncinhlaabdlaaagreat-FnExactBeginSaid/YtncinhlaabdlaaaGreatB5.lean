/- Several of my texts in one module (merge.py). -/
import Derived.Test.YtncinhlaabdlaaaGreatA6
section
/- Contracts: Redo. -/
namespace Go.Proofs.YtncinhlaabdlaaaGreat.IM
open Go Go.Proofs
set_option linter.unusedVariables false
set_option linter.unusedSimpArgs false
set_option maxHeartbeats 2000000
set_option maxRecDepth 20000

theorem tags_two' {v : D} {b : Value} {p : Nat → Prop} (h : v.tags p) : (D.tup 2 (nthD [v, .lit b])).tags p := fun i hi => by
  match i, hi with
  | 0, _ => exact h
  | 1, _ => trivial
theorem redo_no {x : Md.Page} {r : Md.Rec} (h : (Md.pageOk x && Md.recOk r && Md.changes r && decide (x.lsn < r.lsn)) = false) : Md.redo x r = (x, false) := by
  unfold Md.redo; rw [h]; rfl
theorem redo_yes {x : Md.Page} {r : Md.Rec} (h : (Md.pageOk x && Md.recOk r && Md.changes r && decide (x.lsn < r.lsn)) = true) : Md.redo x r = (⟨r.lsn, x.slots.set (r.oid % 4).toNat r.after⟩, true) := by
  unfold Md.redo; rw [h]; rfl
theorem redo_rg {r : Md.Rec} (h : Md.recOk r = true) (hc : Md.changes r = true) : 1 ≤ r.oid ∧ r.oid ≤ 31 ∧ Md.slotOk r.after = true ∧ 1 ≤ r.lsn ∧ r.lsn ≤ 1000000 := by
  simp only [Md.changes, Bool.or_eq_true, beq_iff_eq] at hc
  unfold Md.recOk at h
  rcases hc with hc | hc <;> simp [hc, Md.inB] at h <;> grind
theorem redo_set {x : Md.Page} {r : Md.Rec} (h : (Md.pageOk x && Md.recOk r && Md.changes r && decide (x.lsn < r.lsn)) = true) : Md.redo x r = Md.setSlot x (r.oid.tmod 4) r.after r.lsn := by
  rw [redo_yes h]
  simp only [Bool.and_eq_true, decide_eq_true_eq] at h
  obtain ⟨h1, h2, h3, h4, h5⟩ := redo_rg h.1.1.2 h.1.2
  have ht : r.oid.tmod 4 = r.oid % 4 := Int.tmod_eq_emod_of_nonneg (by omega)
  rw [setSlot_yes, ht]
  rw [ht, h.1.1.1, h3]
  simp only [Md.inB, Bool.true_and, Bool.and_true, Bool.and_eq_true, decide_eq_true_eq]
  omega

theorem changes_p (d : D) (r : Md.Rec) (h : IsRec d r) : PCall Tryz.prog 170 [d] fun _ _ x => x = .lit (.bool (Md.changes r)) := by
  obtain ⟨f, rfl, hst, k0, k1, k2, k3, k4, k5, k6, k7, k8⟩ := h
  have k3 : f 3 = _ := k3
  refine pcall_intro_v Tryz.func170 rfl (by decide) rfl (by decide) (by rw [Tryz.ntmps170]; simp) fun w0 M n0 => ivc_sound ?_; simp -dsimp only [Tryz.f170, go_sem, k3]
  all_goals repeat' (first | refine ⟨?_, ?_⟩ | with_reducible intro _)
  all_goals simp_all [Md.changes]
theorem l4Redo_p (d dr : D) (x : Md.Page) (r : Md.Rec) (h : IsPage d x) (hr : IsRec dr r) (hs : Md.szPage x ≤ 1048576) (hs2 : Md.szRec r ≤ 1048576) (ho : 0 ≤ r.oid) :
    PCall Tryz.prog 159 [d, dr] fun n0 n1 z => IsPage z ⟨r.lsn, x.slots.set (r.oid % 4).toNat r.after⟩ ∧ Own n0 n1 z := by
  have hp := h
  obtain ⟨f0, rfl, hst, k0, hl, g0, hg, hgs, hf'⟩ := h
  have k0 : f0 0 = _ := k0
  have hds : (D.node (.agg [1, 16]) f0).still := hst
  obtain ⟨e, rfl, hest, j0, j1, j2, j3, j4, j5, j6, j7, j8⟩ := hr
  have j0 : e 0 = _ := j0
  have j4 : e 4 = _ := j4
  have q6 := shp_slot _ _ j6
  have hs3 : Md.szSlot r.after ≤ 1048576 := by unfold Md.szRec at hs2; omega
  have ht : r.oid.tmod 4 = r.oid % 4 := Int.tmod_eq_emod_of_nonneg ho
  have hi1 : 0 ≤ r.oid % 4 := by omega
  have hi2 : r.oid % 4 < 4 := by omega
  have hi3 : (r.oid % 4).toNat < 4 := by omega
  refine pcall_intro Tryz.func159 rfl (by decide) rfl (by decide) (by rw [Tryz.ntmps159]; simp) fun w0 M n0 hW => ivc_sound ?_; simp -dsimp only [Tryz.f159, go_sem, k0, hg, j0, j4, q6.1, q6.2.1, q6.2.2.1]
  intro g1 b1 hb1 g2 b2 hb2 g3 b3 hb3
  refine xcall_p (l3Copy_p _ _ hp hs) (by simp -dsimp only [go_sem, rl_still, hds]) fun m0 p0 r0 hm0 hp0 hr0 => ?_
  refine ⟨hr0.2.tags, ?_⟩
  have ho0 := hr0.2
  obtain ⟨q, rfl, hqs, q0, ql, g, hgq, hgs', hgf⟩ := hr0.1
  have q0 : q 0 = _ := q0
  have hge := hgf (r.oid % 4).toNat (by omega)
  have gq := shp_slot _ _ hge
  simp -dsimp only [go_sem, k0, hg, hds, q0, hgq, j0, j4, q6.1, q6.2.1, q6.2.2.1]
  intro g5 b5 hb5
  refine iwp_plan [(0, true), (1, true), (2, true), (3, true), (4, true), (6, true), (5, false), (7, true), (8, false)] [3] rfl (by decide +kernel) (by decide) [] (by decide +kernel) ?_
  simp -dsimp only [go_sem, k0, hg, hds, q0, hgq, j0, j4, q6.1, q6.2.1, q6.2.2.1, ht, hi1, hi2, hi3, gq.1, gq.2.1, gq.2.2.1]
  refine xcall_p (l3CopySlot_p _ _ j6 hs3) (by simp -dsimp only [go_sem, rl_still, q6.2.2.2]) fun m1 p1 r1 hm1 hp1 hr1 => ?_
  have rq := shp_slot _ _ hr1.1
  refine ⟨hr1.2.tags, ?_⟩
  simp -dsimp only [go_sem, k0, hg, hds, q0, hgq, j0, j4, q6.1, q6.2.1, q6.2.2.1, ht, hi1, hi2, hi3, gq.1, gq.2.1, gq.2.2.1, rq.1, rq.2.1, rq.2.2.1]
  refine ⟨by omega, ?_⟩
  intro n1 hn1 hfc
  have hst2 : ∀ j, ((upd (upd q 1 (.node (.arr 4 4) (upd g (r.oid % 4).toNat r1))) 0 (.lit (.int .i64 r.lsn))) j).still := still_upd (still_upd hqs (show (D.node _ _).still from still_upd hgs' rq.2.2.2)) trivial
  rw [rlnode_still hst2]
  have og : OwnN m0 p0 4 g := by
    have := (ho0.node.own (i := 1) (by decide))
    rw [hgq] at this
    exact this.node
  refine ⟨⟨_, rfl, hst2, by simp -dsimp only [go_sem]; rfl, by simp -dsimp only [go_sem]; exact isA_set ql hgs' hgf hr1.1 rq.2.2.2⟩, own_node ?_⟩
  exact OwnN.mono (hi := p1) (ownN_snoc_own (mid := n0) (hi := p1) (ownN_snoc_lit (ownN_zero n0 n0 _) (by simp -dsimp only [go_sem]; rfl)) (by simp -dsimp only [go_sem]; exact own_node (og.repl hr1.2 (by omega) (by omega) (by omega))) (by omega) (by omega) (by omega) (by omega)) (Nat.le_refl _) (by omega)
theorem redo_p (d dr : D) (x : Md.Page) (r : Md.Rec) (h : IsPage d x) (hr : IsRec dr r) (hs : Md.szPage x ≤ 1048576) (hs2 : Md.szRec r ≤ 1048576) :
    PCall Tryz.prog 139 [d, dr] fun n0 n1 z => Two (fun d => IsPage d (Md.redo x r).1 ∧ Own n0 n1 d) (.lit (.bool (Md.redo x r).2)) z := by
  have hp := h
  have hrr := hr
  have eq := shp_rec _ _ hr
  obtain ⟨f0, rfl, hst, k0, hl, g0, hg, hgs, hf'⟩ := h
  have k0 : f0 0 = _ := k0
  have hds : (D.node (.agg [1, 16]) f0).still := hst
  obtain ⟨e, rfl, hest, j0, j1, j2, j3, j4, j5, j6, j7, j8⟩ := hr
  have j0 : e 0 = _ := j0
  have j3 : e 3 = _ := j3
  have j4 : e 4 = _ := j4
  have q6 := shp_slot _ _ j6
  refine pcall_intro Tryz.func139 rfl (by decide) rfl (by decide) (by rw [Tryz.ntmps139]; simp) fun w0 M n0 hW => ivc_sound ?_; simp -dsimp only [Tryz.f139, go_sem, k0, hg, j0, j3, j4, q6.1, q6.2.1, q6.2.2.1]
  intro g1 b1 hb1 g2 b2 hb2 g3 b3 hb3
  repeat' (first
    | (refine xcall_v (pageOk_p _ _ hp) ?_ (fun _ => trivial) (fun _ _ => ?_); (focus (simp -dsimp only [go_sem, rl_still, hds, k0, hg, hds, j0, j3, j4, q6.1, q6.2.1, q6.2.2.1]; first | done | rfl)); simp -dsimp only [go_sem, k0, hg, hds, j0, j3, j4, q6.1, q6.2.1, q6.2.2.1])
    | (refine xcall_v (recOk_p _ _ hrr) ?_ (fun _ => trivial) (fun _ _ => ?_); (focus (simp -dsimp only [go_sem, rl_still, eq.2.2.2, k0, hg, hds, j0, j3, j4, q6.1, q6.2.1, q6.2.2.1]; first | done | rfl)); simp -dsimp only [go_sem, k0, hg, hds, j0, j3, j4, q6.1, q6.2.1, q6.2.2.1])
    | (refine xcall_v (changes_p _ _ hrr) ?_ (fun _ => trivial) (fun _ _ => ?_); (focus (simp -dsimp only [go_sem, rl_still, eq.2.2.2, k0, hg, hds, j0, j3, j4, q6.1, q6.2.1, q6.2.2.1]; first | done | rfl)); simp -dsimp only [go_sem, k0, hg, hds, j0, j3, j4, q6.1, q6.2.1, q6.2.2.1])
    | refine ⟨?_, ?_⟩ | with_reducible intro _)
  all_goals first
    | (refine xcall_p (clonePage_p _ _ hp hs) ?_ fun m0 p0 r0 hm0 hp0 hr0 => ?_
       · simp -dsimp only [go_sem, rl_still, hds]
       have st0 := shp_page _ _ hr0.1
       refine ⟨hr0.2.tags, ?_⟩
       simp -dsimp only [go_sem, st0.1, st0.2.1, st0.2.2.1, rl_still, st0.2.2.2]
       intro n1 hn1 hfc
       rw [redo_no (by simp_all [Md.changes])]
       exact .mk _ ⟨hr0.1, hr0.2.mono (by omega) (by omega)⟩)
    | skip
  all_goals
    have hC : (Md.pageOk x && Md.recOk r && Md.changes r && decide (x.lsn < r.lsn)) = true := by simp_all [Md.changes] <;> omega
    have hs3 : Md.szSlot r.after ≤ 1048576 := by unfold Md.szRec at hs2; omega
    refine xcall_p (setSlot_p _ _ x (r.oid.tmod 4) r.after r.lsn hp j6 hs hs3) (by simp -dsimp only [go_sem, rl_still, hds, q6.2.2.2]) fun m0 p0 r0w hm0 hp0 hr0w => ?_
    obtain ⟨r0, rfl, hr0⟩ := hr0w.out
    have st0 := shp_page _ _ hr0.1
    refine ⟨tags_two' hr0.2.tags, ?_⟩
    simp -dsimp only [go_sem, st0.1, st0.2.1, st0.2.2.1, rl_still, st0.2.2.2]
    intro n1 hn1 hfc
    rw [redo_set hC]
    exact .mk _ ⟨hr0.1, hr0.2.mono (by omega) (by omega)⟩
end Go.Proofs.YtncinhlaabdlaaaGreat.IM
end

section
/- The law of Redo. Printed by laws_wr2.py. -/
namespace Go.Proofs.YtncinhlaabdlaaaGreat.IM
open Go Go.Proofs
set_option linter.unusedVariables false
set_option linter.unusedSimpArgs false
set_option maxHeartbeats 2000000
set_option maxRecDepth 20000

theorem IsLive.data {d : D} {x : Md.Live} (h : IsLive d x) : d.data := whole_data h.wh
theorem IsRec.data {d : D} {x : Md.Rec} (h : IsRec d x) : d.data := by
  obtain ⟨f, rfl, _, h0, h1, h2, h3, h4, h5, h6, h7, h8⟩ := h
  intro i hi
  have hi' : i < 9 := hi
  match i, hi' with
  | 0, _ => exact IsInt.data h0
  | 1, _ => exact IsInt.data h1
  | 2, _ => exact IsInt.data h2
  | 3, _ => exact IsInt.data h3
  | 4, _ => exact IsInt.data h4
  | 5, _ => exact h5.data
  | 6, _ => exact h6.data
  | 7, _ => exact IsInt.data h7
  | 8, _ => exact IsL.data (fun _ _ h => IsLive.data h) h8
theorem cLives_le (l : List Md.Live) : Md.cLives l ≤ 3 * l.length := by
  unfold Md.cLives Md.sumBy
  induction l with
  | nil => simp
  | cons a l ih =>
    have : Md.cLive a ≤ 3 := by simp [Md.cLive]
    simp only [List.map_cons, List.sum_cons, List.length_cons]; omega
theorem cRec_le (r : Md.Rec) : Md.cRec r ≤ 3 * Md.szRec r := by
  have := cLives_le r.txs
  unfold Md.cRec Md.szRec; omega
theorem sz_redo (x : Md.Page) (r : Md.Rec) : Md.szPage (Md.redo x r).1 ≤ Md.szPage x + Md.szRec r := by
  cases h : (Md.pageOk x && Md.recOk r && Md.changes r && decide (x.lsn < r.lsn))
  · rw [redo_no h]; exact Nat.le_add_right _ _
  · rw [redo_yes h]; exact Nat.le_trans (sumBy_set _ _ _ _) (by show _ ≤ Md.sumBy _ _ + Md.szRec r; unfold Md.szRec; omega)

end Go.Proofs.YtncinhlaabdlaaaGreat.IM
end
