/- Several of my texts in one module (merge.py). -/
import Derived.Test.YtpepddckmddbiaaB7
section
/- Contracts: Change. Printed by change.py. -/
namespace Go.Proofs.Ytpepddckmddbiaa.IM
open Go Go.Proofs
set_option linter.unusedVariables false
set_option linter.unusedSimpArgs false
set_option maxHeartbeats 2000000
set_option maxRecDepth 20000

def chOk (x : Md.Pool) (no : Int) (y : Md.Page) : Bool := Md.poolOk x && (decide (0 ≤ Md.seated x no) && (Md.pageOk y && !(match x.seats[(Md.seated x no).toNat]? with | some s => decide (y.lsn < s.p.lsn) | none => true)))
def change (x : Md.Pool) (no : Int) (y : Md.Page) : Md.Pool × Bool := if chOk x no y then (⟨x.seats.modify (Md.seated x no).toNat fun _ => ⟨no, y, true, true⟩, x.hand⟩, true) else (x, false)
theorem change_no {x : Md.Pool} {no : Int} {y : Md.Page} (h : chOk x no y = false) : change x no y = (x, false) := by unfold change; rw [h]; rfl
theorem change_yes {x : Md.Pool} {no : Int} {y : Md.Page} (h : chOk x no y = true) : change x no y = (⟨x.seats.modify (Md.seated x no).toNat fun _ => ⟨no, y, true, true⟩, x.hand⟩, true) := by unfold change; rw [h]; rfl
theorem roots3 {a b c ga ba gb bb gc bc t : Nat} {A B C : D} (hA : A.plain ∧ A.free t) (hB : B.plain ∧ B.free t) (hC : C.plain ∧ C.free t) (l' g b' : Nat) (x : D) (h : (upd (upd (upd (fun _ => none) a (some (ga, ba, A))) b (some (gb, bb, B))) c (some (gc, bc, C)) : Roots) l' = some (g, b', x)) : x.plain ∧ x.free t := by
  by_cases h1 : l' = c
  · subst h1; rw [upd_same] at h; cases h; exact hC
  · rw [upd_ne _ _ h1] at h; exact roots2 hA hB _ _ _ _ h
abbrev zSeatF : Nat → D := nthD [.lit (.int .i64 0), .node (.agg [1, 16]) (nthD [.lit (.int .i64 0), .node (.arr 4 4) fun _ => .node (.agg [1, 3]) (nthD [.lit (.bool false), .node (.agg [1, 1, 1]) (nthD [.lit (.int .i64 0), .nil, .nil])])]), .lit (.bool false), .lit (.bool false)]
abbrev seatF (Z : Nat → D) (no : Int) (r : D) : D := .node (.agg [1, 17, 1, 1]) (upd (upd (upd (upd Z 0 (.lit (.int .i64 no))) 1 r) 2 (.lit (.bool true))) 3 (.lit (.bool true)))
theorem zSeatF_still : ∀ i, (zSeatF i).still := stN (by simp only [stillL_nil, stillL_cons, still_lit, still_nil, still_any, still_nodeN, still_nodeC, and_self])
theorem seat_still {Z : Nat → D} {no : Int} {r : D} {y : Md.Page} (hZ : ∀ i, (Z i).still) (h : IsPage r y) : (seatF Z no r).still := still_upd (still_upd (still_upd (still_upd hZ trivial) h.still) trivial) trivial
theorem seat_put {Z : Nat → D} {no : Int} {r : D} {y : Md.Page} (hZ : ∀ i, (Z i).still) (h : IsPage r y) : IsSeat (seatF Z no r) ⟨no, y, true, true⟩ := ⟨_, rfl, seat_still hZ h, rfl, h, rfl, rfl⟩
theorem seat_own (Z : Nat → D) {no : Int} {r : D} {a b : Nat} (h : Own a b r) (hab : a ≤ b) : Own a b (seatF Z no r) := by
  refine own_node ?_
  exact ownN_snoc_lit (ownN_snoc_lit (ownN_snoc_own (mid := a) (ownN_snoc_lit (ownN_zero a a _) rfl) h (Nat.le_refl _) (Nat.le_refl _) (Nat.le_refl _) hab) rfl) rfl
theorem own_put {lo hi a b t n sz k : Nat} {f : Nat → D} {r : D} (h : Own lo hi (.sl t true n sz f)) (hr : Own a b r) (h1 : lo ≤ a) (h2 : hi ≤ a) (h3 : hi ≤ b) : Own lo b (.sl t true n sz (upd f k r)) := by
  obtain ⟨k1, k2, k3, _, k5⟩ := h.sl
  refine own_sl (k1.repl (i := k) hr h1 h2 h3) k2 (by omega) fun i hi => ?_
  by_cases hik : i = k
  · subst hik; rw [upd_same]; intro ht; have := hr.rg _ ht; omega
  · rw [upd_ne _ _ hik]; exact k5 i hi
theorem specChange_p (d d2 : D) (x : Md.Pool) (no : Int) (y : Md.Page) (h : IsPool d x) (h2 : IsPage d2 y) (hs : Md.szPool x ≤ 1048576) (hs2 : Md.szPage y ≤ 1048576) (hd : d.data) (hd2 : d2.data) :
    PCall Try.prog 76 [d, .lit (.int .i64 no), d2] fun n0 n1 r => Two (fun r => IsPool r (change x no y).1 ∧ Own n0 n1 r) (.lit (.bool (change x no y).2)) r := by
  have hp := h
  have hp2 := h2
  have eq := shp_pool _ _ h
  have eq2 := shp_page _ _ h2
  obtain ⟨f0, rfl, hst, a0, a1⟩ := h
  obtain ⟨u0, rfl, ust, j0, ul⟩ := h2
  have k0 : f0 1 = _ := a1
  have j0 : u0 0 = _ := j0
  have e1 := eq.1
  have e2 := eq.2.1
  have e3 := eq.2.2.1
  have e4 := eq.2.2.2
  have y1 := eq2.1
  have y2 := eq2.2.1
  have y3 := eq2.2.2.1
  have y4 := eq2.2.2.2
  refine pcall_intro_t Try.func76 rfl (by decide) rfl (by decide) (by rw [Try.ntmps76]; simp) fun w0 M n0 hW hT => ivc_sound ?_; simp -dsimp only [Try.f76, go_sem, Nat.reduceLT, Nat.reduceEqDiff, Nat.reduceAdd, Nat.reduceMul, Nat.reduceBEq, beq_self_eq_true, Nat.reduceLeDiff, Nat.le_refl, Int.reduceEq, reduceCtorEq, e1, e2, e3, y1, y2, y3, k0, j0]
  have dT : (D.node (.agg [1, 1]) f0).tags (· < n0) := hT _ (by simp) hd
  have dT2 : (D.node (.agg [1, 16]) u0).tags (· < n0) := hT _ (by simp) hd2
  intro g1 b1 hb1 g2 b2 hb2 g3 b3 hb3
  refine xcall_t (l6Copy_p _ _ hp hs) (by simp -dsimp only [go_sem, Nat.reduceLT, Nat.reduceEqDiff, Nat.reduceAdd, Nat.reduceMul, Nat.reduceBEq, beq_self_eq_true, Nat.reduceLeDiff, Nat.le_refl, Int.reduceEq, reduceCtorEq, rl_still, e4]) fun m0 p0 r0 hm0 hp0 hr0w => ?_
  have hr0 := hr0w.out
  have hm0' : b3 + 1 ≤ m0 := hm0
  refine ⟨hr0.2.tags, ?_⟩
  have ho := hr0.2
  obtain ⟨q, rfl, hqs, hq0, q1⟩ := hr0.1
  have q1 : q 1 = _ := q1
  rcases hq0 with ⟨q0, hnil⟩ | ⟨t, zb, f, q0, hfs, hfl, hf⟩
  · refine Conv.zero ?_
    have hsd : Md.seated x no = -1 := by unfold Md.seated; rw [hnil]; rfl
    have hneg : ((-1 : Int) < 0) := by decide
    have hch : change x no y = (x, false) := change_no (by simp [chOk, hsd])
    simp -dsimp only [go_sem, Nat.reduceLT, Nat.reduceEqDiff, Nat.reduceAdd, Nat.reduceMul, Nat.reduceBEq, beq_self_eq_true, Nat.reduceLeDiff, Nat.le_refl, Int.reduceEq, reduceCtorEq, q0, q1, e1, e2, e3, y1, y2, y3, k0, j0]
    intro g b hb
    refine xcall_v (specSeated_p _ _ no hp) (by simp -dsimp only [go_sem, Nat.reduceLT, Nat.reduceEqDiff, Nat.reduceAdd, Nat.reduceMul, Nat.reduceBEq, beq_self_eq_true, Nat.reduceLeDiff, Nat.le_refl, Int.reduceEq, reduceCtorEq, rl_still, e4]) (fun _ => trivial) fun n4 hn4 => ?_
    simp -dsimp only [go_sem, Nat.reduceLT, Nat.reduceEqDiff, Nat.reduceAdd, Nat.reduceMul, Nat.reduceBEq, beq_self_eq_true, Nat.reduceLeDiff, Nat.le_refl, Int.reduceEq, reduceCtorEq, hsd, hneg, q0, q1, e1, e2, e3, y1, y2, y3, k0, j0]
    refine iwp_plan [(0, true), (1, false), (2, true), (3, true), (4, true), (5, true), (6, true), (7, true), (8, true), (9, false), (10, true), (11, true), (12, true), (13, true), (14, true), (15, true), (16, true), (17, true), (18, true), (19, true), (20, true), (21, true), (22, true), (23, true)] [3, 5] rfl (by decide +kernel) (by decide) [] (by decide +kernel) ?_
    simp -dsimp only [go_sem, Nat.reduceLT, Nat.reduceEqDiff, Nat.reduceAdd, Nat.reduceMul, Nat.reduceBEq, beq_self_eq_true, Nat.reduceLeDiff, Nat.le_refl, Int.reduceEq, reduceCtorEq, hsd, hneg, q0, q1, e1, e2, e3, y1, y2, y3, k0, j0]
    refine xcall_v (specPoolOk_p _ _ hp) (by simp -dsimp only [go_sem, Nat.reduceLT, Nat.reduceEqDiff, Nat.reduceAdd, Nat.reduceMul, Nat.reduceBEq, beq_self_eq_true, Nat.reduceLeDiff, Nat.le_refl, Int.reduceEq, reduceCtorEq, rl_still, e4]) (fun _ => trivial) fun n5 hn5 => ?_
    rcases Bool.eq_false_or_eq_true (Md.poolOk x) with hpo | hpo
    · simp -dsimp only [go_sem, Nat.reduceLT, Nat.reduceEqDiff, Nat.reduceAdd, Nat.reduceMul, Nat.reduceBEq, beq_self_eq_true, Nat.reduceLeDiff, Nat.le_refl, Int.reduceEq, reduceCtorEq, hsd, hneg, hpo, q0, q1, e1, e2, e3, y1, y2, y3, k0, j0]
      intro n1 hn1 hfc
      rw [hch]
      refine .mk _ ⟨?_, ?_⟩
      · rw [rlnode_still hqs]; exact ⟨q, rfl, hqs, .inl ⟨q0, hnil⟩, q1⟩
      · rw [rlnode_still hqs]; exact ho.mono (by omega) (by omega)
    · simp -dsimp only [go_sem, Nat.reduceLT, Nat.reduceEqDiff, Nat.reduceAdd, Nat.reduceMul, Nat.reduceBEq, beq_self_eq_true, Nat.reduceLeDiff, Nat.le_refl, Int.reduceEq, reduceCtorEq, hsd, hneg, hpo, q0, q1, e1, e2, e3, y1, y2, y3, k0, j0]
      intro n1 hn1 hfc
      rw [hch]
      refine .mk _ ⟨?_, ?_⟩
      · rw [rlnode_still hqs]; exact ⟨q, rfl, hqs, .inl ⟨q0, hnil⟩, q1⟩
      · rw [rlnode_still hqs]; exact ho.mono (by omega) (by omega)
  · have hoS : Own m0 p0 (.sl t zb x.seats.length 20 f) := by
      have := ho.node.own (i := 0) (by decide)
      rw [q0] at this
      exact this
    have hzb : zb = true := hoS.wh.1
    subst hzb
    have ht := hoS.rg t (by simp [D.tl])
    have hdf : (D.node (.agg [1, 1]) f0).free t := free_of_tags (m := n0) (by omega) dT
    have hdf2 : (D.node (.agg [1, 16]) u0).free t := free_of_tags (m := n0) (by omega) dT2
    refine conv_field (l := 1000) [1, 3, 5, 6, 7] (hW t (by omega)) (by simp -dsimp only [go_sem, Nat.reduceLT, Nat.reduceEqDiff, Nat.reduceAdd, Nat.reduceMul, Nat.reduceBEq, beq_self_eq_true, Nat.reduceLeDiff, Nat.le_refl, Int.reduceEq, reduceCtorEq]) (own_free hoS) 0 (by decide) q0 (fun i hi hne => ?_) (fun j hj => ?_) (fun l' g b x hx => ⟨hx, roots3 ⟨e3, hdf⟩ ⟨y3, hdf2⟩ ⟨?_, ?_⟩ _ _ _ _ hx⟩) fun g => ?_
    · have : i = 1 := by have : i < 2 := hi; omega
      subst this; rw [q1]; trivial
    · simp only [List.mem_cons, List.not_mem_nil, or_false] at hj
      rcases hj with rfl | rfl | rfl | rfl | rfl
      · exact (show (D.lit (.int .i64 no)).free t from trivial)
      · exact (show (D.ptr 3 g1 0 []).free t from trivial)
      · exact (show (D.ptr 5 g2 0 []).free t from trivial)
      · exact (show (D.ptr 6 g3 0 []).free t from trivial)
      · exact (show (D.lit (.bool false)).free t from trivial)
    · simp -dsimp only [go_sem, Nat.reduceLT, Nat.reduceEqDiff, Nat.reduceAdd, Nat.reduceMul, Nat.reduceBEq, beq_self_eq_true, Nat.reduceLeDiff, Nat.le_refl, Int.reduceEq, reduceCtorEq]
    · intro i hi
      have hi' : i < 2 := hi
      match i, hi' with
      | 0, _ => trivial
      | 1, _ => trivial
    · simp -dsimp only [go_sem, Nat.reduceLT, Nat.reduceEqDiff, Nat.reduceAdd, Nat.reduceMul, Nat.reduceBEq, beq_self_eq_true, Nat.reduceLeDiff, Nat.le_refl, Int.reduceEq, reduceCtorEq, q0, q1, e1, e2, e3, y1, y2, y3, k0, j0]
      intro g4 b4 hb4
      refine xcall_v (specSeated_p _ _ no hp) (by simp -dsimp only [go_sem, Nat.reduceLT, Nat.reduceEqDiff, Nat.reduceAdd, Nat.reduceMul, Nat.reduceBEq, beq_self_eq_true, Nat.reduceLeDiff, Nat.le_refl, Int.reduceEq, reduceCtorEq, rl_still, e4]) (fun _ => trivial) fun n4 hn4 => ?_
      by_cases hk : 0 ≤ Md.seated x no
      · have hlt := seated_lt hk
        have hkc : Md.seated x no < (x.seats.length : Int) := by omega
        have hnk : ¬ Md.seated x no < 0 := by omega
        obtain ⟨t0, z0, fd, hfd, _, hfd'⟩ := a0.sl hlt
        obtain ⟨fe, hfe, hfes, s0, s1, s2, s3⟩ := hfd' _ hlt
        obtain ⟨fp, hfp, hfps, l0, l1⟩ := s1
        have l0 : fp 0 = _ := l0
        simp -dsimp only [go_sem, Nat.reduceLT, Nat.reduceEqDiff, Nat.reduceAdd, Nat.reduceMul, Nat.reduceBEq, beq_self_eq_true, Nat.reduceLeDiff, Nat.le_refl, Int.reduceEq, reduceCtorEq, hk, hkc, hnk, hlt, hfd, hfe, hfp, l0, q0, q1, e1, e2, e3, y1, y2, y3, k0, j0]
        refine iwp_plan [(0, true), (1, false), (2, true), (3, true), (4, true), (5, true), (6, true), (7, true), (8, true), (9, false), (10, true), (11, true), (12, true), (13, true), (14, true), (15, true), (16, true), (17, true), (18, true), (19, true), (20, true), (21, true), (22, true), (23, true)] [3, 5] rfl (by decide +kernel) (by decide) [] (by decide +kernel) ?_
        simp -dsimp only [go_sem, Nat.reduceLT, Nat.reduceEqDiff, Nat.reduceAdd, Nat.reduceMul, Nat.reduceBEq, beq_self_eq_true, Nat.reduceLeDiff, Nat.le_refl, Int.reduceEq, reduceCtorEq, hk, hkc, hnk, hlt, hfd, hfe, hfp, l0, q0, q1, e1, e2, e3, y1, y2, y3, k0, j0]
        refine xcall_v (specPoolOk_p _ _ hp) (by simp -dsimp only [go_sem, Nat.reduceLT, Nat.reduceEqDiff, Nat.reduceAdd, Nat.reduceMul, Nat.reduceBEq, beq_self_eq_true, Nat.reduceLeDiff, Nat.le_refl, Int.reduceEq, reduceCtorEq, rl_still, e4]) (fun _ => trivial) fun n5 hn5 => ?_
        rcases Bool.eq_false_or_eq_true (Md.poolOk x) with hpo | hpo
        · simp -dsimp only [go_sem, Nat.reduceLT, Nat.reduceEqDiff, Nat.reduceAdd, Nat.reduceMul, Nat.reduceBEq, beq_self_eq_true, Nat.reduceLeDiff, Nat.le_refl, Int.reduceEq, reduceCtorEq, hpo, hk, hkc, hnk, hlt, hfd, hfe, hfp, l0, q0, q1, e1, e2, e3, y1, y2, y3, k0, j0]
          refine xcall_v (specPageOk_p _ _ hp2) (by simp -dsimp only [go_sem, Nat.reduceLT, Nat.reduceEqDiff, Nat.reduceAdd, Nat.reduceMul, Nat.reduceBEq, beq_self_eq_true, Nat.reduceLeDiff, Nat.le_refl, Int.reduceEq, reduceCtorEq, rl_still, y4]) (fun _ => trivial) fun n6 hn6 => ?_
          rcases Bool.eq_false_or_eq_true (Md.pageOk y) with hpg | hpg
          · by_cases hls : y.lsn < x.seats[(Md.seated x no).toNat].p.lsn
            · simp -dsimp only [go_sem, Nat.reduceLT, Nat.reduceEqDiff, Nat.reduceAdd, Nat.reduceMul, Nat.reduceBEq, beq_self_eq_true, Nat.reduceLeDiff, Nat.le_refl, Int.reduceEq, reduceCtorEq, hls, hpg, hpo, hk, hkc, hnk, hlt, hfd, hfe, hfp, l0, q0, q1, e1, e2, e3, y1, y2, y3, k0, j0]
              have hch : change x no y = (x, false) := change_no (by simp [chOk, hk, hlt, hpo, hpg, hls])
              intro n1 hn1 hfc
              rw [hch]
              refine .mk _ ?_
              rw [rl_node]
              refine (grow_fin (n1 := n1) ?_ ?_ (gs_upd fun j => .inl (hqs j)) (.inr ⟨t, true, f, rfl, hfs, hfl, hf⟩) (hoS.mono (by omega) (by omega))).out
              · simp -dsimp only [go_sem, Nat.reduceLT, Nat.reduceEqDiff, Nat.reduceAdd, Nat.reduceMul, Nat.reduceBEq, beq_self_eq_true, Nat.reduceLeDiff, Nat.le_refl, Int.reduceEq, reduceCtorEq, q0]
                rw [rls_still hfs]
              · simp -dsimp only [go_sem, Nat.reduceLT, Nat.reduceEqDiff, Nat.reduceAdd, Nat.reduceMul, Nat.reduceBEq, beq_self_eq_true, Nat.reduceLeDiff, Nat.le_refl, Int.reduceEq, reduceCtorEq, q1, rl_lit]
            · simp -dsimp only [go_sem, Nat.reduceLT, Nat.reduceEqDiff, Nat.reduceAdd, Nat.reduceMul, Nat.reduceBEq, beq_self_eq_true, Nat.reduceLeDiff, Nat.le_refl, Int.reduceEq, reduceCtorEq, hls, hpg, hpo, hk, hkc, hnk, hlt, hfd, hfe, hfp, l0, q0, q1, e1, e2, e3, y1, y2, y3, k0, j0]
              have hch := change_yes (x := x) (no := no) (y := y) (by simp [chOk, hk, hlt, hpo, hpg, hls])
              refine iwp_plan [(0, true), (1, true), (2, true), (3, true), (4, true), (5, false), (6, true), (7, true), (8, false)] [5, 8] rfl (by decide +kernel) (by decide) [8] (by decide +kernel) ?_
              simp -dsimp only [go_sem, Nat.reduceLT, Nat.reduceEqDiff, Nat.reduceAdd, Nat.reduceMul, Nat.reduceBEq, beq_self_eq_true, Nat.reduceLeDiff, Nat.le_refl, Int.reduceEq, reduceCtorEq, hk, hkc, hnk, hlt, hfd, hfe, hfp, l0, q0, q1, e1, e2, e3, y1, y2, y3, k0, j0]
              refine xcall_p (l3Copy_p _ _ hp2 hs2) (by simp -dsimp only [go_sem, Nat.reduceLT, Nat.reduceEqDiff, Nat.reduceAdd, Nat.reduceMul, Nat.reduceBEq, beq_self_eq_true, Nat.reduceLeDiff, Nat.le_refl, Int.reduceEq, reduceCtorEq, rl_still, y4]) fun m1 p1 r1 hm1 hp1 hr1 => ?_
              have rq := shp_page _ _ hr1.1
              refine ⟨hr1.2.tags, ?_⟩
              have fq := shp_seat _ _ (hf _ hlt)
              simp -dsimp only [go_sem, Nat.reduceLT, Nat.reduceEqDiff, Nat.reduceAdd, Nat.reduceMul, Nat.reduceBEq, beq_self_eq_true, Nat.reduceLeDiff, Nat.le_refl, Int.reduceEq, reduceCtorEq, fq.1, fq.2.1, fq.2.2.1, rq.1, rq.2.1, rq.2.2.1, hls, hpg, hpo, hk, hkc, hnk, hlt, hfd, hfe, hfp, l0, q0, q1, e1, e2, e3, y1, y2, y3, k0, j0]
              intro n1 hn1 hfc
              have hb4' : p0 ≤ b4 := hb4
              have hn4' : b4 + 1 ≤ n4 := hn4
              have hn5' : n4 ≤ n5 := hn5
              have hn6' : n5 ≤ n6 := hn6
              have hm1' : n6 ≤ m1 := hm1
              have hn1' : p1 ≤ n1 := hn1
              have oS := seat_own (no := no) zSeatF hr1.2 hp1
              have fst := seat_still (no := no) zSeatF_still hr1.1
              have fr := seat_put (no := no) zSeatF_still hr1.1
              rw [hch]
              refine .mk _ ?_
              rw [rl_node]
              refine (grow_fin (n1 := n1) ?_ ?_ (gs_upd fun j => .inl (hqs j)) (isL_mod (u := fun _ => ⟨no, y, true, true⟩) hfs hfl hf hlt fr fst) ((own_put hoS oS (by omega) (by omega) (by omega)).mono (by omega) (by omega))).out
              · simp -dsimp only [go_sem, Nat.reduceLT, Nat.reduceEqDiff, Nat.reduceAdd, Nat.reduceMul, Nat.reduceBEq, beq_self_eq_true, Nat.reduceLeDiff, Nat.le_refl, Int.reduceEq, reduceCtorEq, q0]
                rw [rls_still (still_upd hfs fst)]
              · simp -dsimp only [go_sem, Nat.reduceLT, Nat.reduceEqDiff, Nat.reduceAdd, Nat.reduceMul, Nat.reduceBEq, beq_self_eq_true, Nat.reduceLeDiff, Nat.le_refl, Int.reduceEq, reduceCtorEq, q1, rl_lit]
          · simp -dsimp only [go_sem, Nat.reduceLT, Nat.reduceEqDiff, Nat.reduceAdd, Nat.reduceMul, Nat.reduceBEq, beq_self_eq_true, Nat.reduceLeDiff, Nat.le_refl, Int.reduceEq, reduceCtorEq, hpg, hpo, hk, hkc, hnk, hlt, hfd, hfe, hfp, l0, q0, q1, e1, e2, e3, y1, y2, y3, k0, j0]
            have hch : change x no y = (x, false) := change_no (by simp [chOk, hk, hlt, hpo, hpg])
            intro n1 hn1 hfc
            rw [hch]
            refine .mk _ ?_
            rw [rl_node]
            refine (grow_fin (n1 := n1) ?_ ?_ (gs_upd fun j => .inl (hqs j)) (.inr ⟨t, true, f, rfl, hfs, hfl, hf⟩) (hoS.mono (by omega) (by omega))).out
            · simp -dsimp only [go_sem, Nat.reduceLT, Nat.reduceEqDiff, Nat.reduceAdd, Nat.reduceMul, Nat.reduceBEq, beq_self_eq_true, Nat.reduceLeDiff, Nat.le_refl, Int.reduceEq, reduceCtorEq, q0]
              rw [rls_still hfs]
            · simp -dsimp only [go_sem, Nat.reduceLT, Nat.reduceEqDiff, Nat.reduceAdd, Nat.reduceMul, Nat.reduceBEq, beq_self_eq_true, Nat.reduceLeDiff, Nat.le_refl, Int.reduceEq, reduceCtorEq, q1, rl_lit]
        · simp -dsimp only [go_sem, Nat.reduceLT, Nat.reduceEqDiff, Nat.reduceAdd, Nat.reduceMul, Nat.reduceBEq, beq_self_eq_true, Nat.reduceLeDiff, Nat.le_refl, Int.reduceEq, reduceCtorEq, hpo, hk, hkc, hnk, hlt, hfd, hfe, hfp, l0, q0, q1, e1, e2, e3, y1, y2, y3, k0, j0]
          have hch : change x no y = (x, false) := change_no (by simp [chOk, hk, hpo])
          intro n1 hn1 hfc
          rw [hch]
          refine .mk _ ?_
          rw [rl_node]
          refine (grow_fin (n1 := n1) ?_ ?_ (gs_upd fun j => .inl (hqs j)) (.inr ⟨t, true, f, rfl, hfs, hfl, hf⟩) (hoS.mono (by omega) (by omega))).out
          · simp -dsimp only [go_sem, Nat.reduceLT, Nat.reduceEqDiff, Nat.reduceAdd, Nat.reduceMul, Nat.reduceBEq, beq_self_eq_true, Nat.reduceLeDiff, Nat.le_refl, Int.reduceEq, reduceCtorEq, q0]
            rw [rls_still hfs]
          · simp -dsimp only [go_sem, Nat.reduceLT, Nat.reduceEqDiff, Nat.reduceAdd, Nat.reduceMul, Nat.reduceBEq, beq_self_eq_true, Nat.reduceLeDiff, Nat.le_refl, Int.reduceEq, reduceCtorEq, q1, rl_lit]
      · have hnk : Md.seated x no < 0 := by omega
        have hch : change x no y = (x, false) := change_no (by simp [chOk, hk])
        simp -dsimp only [go_sem, Nat.reduceLT, Nat.reduceEqDiff, Nat.reduceAdd, Nat.reduceMul, Nat.reduceBEq, beq_self_eq_true, Nat.reduceLeDiff, Nat.le_refl, Int.reduceEq, reduceCtorEq, hk, hnk, q0, q1, e1, e2, e3, y1, y2, y3, k0, j0]
        refine iwp_plan [(0, true), (1, false), (2, true), (3, true), (4, true), (5, true), (6, true), (7, true), (8, true), (9, false), (10, true), (11, true), (12, true), (13, true), (14, true), (15, true), (16, true), (17, true), (18, true), (19, true), (20, true), (21, true), (22, true), (23, true)] [3, 5] rfl (by decide +kernel) (by decide) [] (by decide +kernel) ?_
        simp -dsimp only [go_sem, Nat.reduceLT, Nat.reduceEqDiff, Nat.reduceAdd, Nat.reduceMul, Nat.reduceBEq, beq_self_eq_true, Nat.reduceLeDiff, Nat.le_refl, Int.reduceEq, reduceCtorEq, hk, hnk, q0, q1, e1, e2, e3, y1, y2, y3, k0, j0]
        refine xcall_v (specPoolOk_p _ _ hp) (by simp -dsimp only [go_sem, Nat.reduceLT, Nat.reduceEqDiff, Nat.reduceAdd, Nat.reduceMul, Nat.reduceBEq, beq_self_eq_true, Nat.reduceLeDiff, Nat.le_refl, Int.reduceEq, reduceCtorEq, rl_still, e4]) (fun _ => trivial) fun n5 hn5 => ?_
        rcases Bool.eq_false_or_eq_true (Md.poolOk x) with hpo | hpo
        · simp -dsimp only [go_sem, Nat.reduceLT, Nat.reduceEqDiff, Nat.reduceAdd, Nat.reduceMul, Nat.reduceBEq, beq_self_eq_true, Nat.reduceLeDiff, Nat.le_refl, Int.reduceEq, reduceCtorEq, hpo, hk, hnk, q0, q1, e1, e2, e3, y1, y2, y3, k0, j0]
          intro n1 hn1 hfc
          rw [hch]
          refine .mk _ ?_
          rw [rl_node]
          refine (grow_fin (n1 := n1) ?_ ?_ (gs_upd fun j => .inl (hqs j)) (.inr ⟨t, true, f, rfl, hfs, hfl, hf⟩) (hoS.mono (by omega) (by omega))).out
          · simp -dsimp only [go_sem, Nat.reduceLT, Nat.reduceEqDiff, Nat.reduceAdd, Nat.reduceMul, Nat.reduceBEq, beq_self_eq_true, Nat.reduceLeDiff, Nat.le_refl, Int.reduceEq, reduceCtorEq, q0]
            rw [rls_still hfs]
          · simp -dsimp only [go_sem, Nat.reduceLT, Nat.reduceEqDiff, Nat.reduceAdd, Nat.reduceMul, Nat.reduceBEq, beq_self_eq_true, Nat.reduceLeDiff, Nat.le_refl, Int.reduceEq, reduceCtorEq, q1, rl_lit]
        · simp -dsimp only [go_sem, Nat.reduceLT, Nat.reduceEqDiff, Nat.reduceAdd, Nat.reduceMul, Nat.reduceBEq, beq_self_eq_true, Nat.reduceLeDiff, Nat.le_refl, Int.reduceEq, reduceCtorEq, hpo, hk, hnk, q0, q1, e1, e2, e3, y1, y2, y3, k0, j0]
          intro n1 hn1 hfc
          rw [hch]
          refine .mk _ ?_
          rw [rl_node]
          refine (grow_fin (n1 := n1) ?_ ?_ (gs_upd fun j => .inl (hqs j)) (.inr ⟨t, true, f, rfl, hfs, hfl, hf⟩) (hoS.mono (by omega) (by omega))).out
          · simp -dsimp only [go_sem, Nat.reduceLT, Nat.reduceEqDiff, Nat.reduceAdd, Nat.reduceMul, Nat.reduceBEq, beq_self_eq_true, Nat.reduceLeDiff, Nat.le_refl, Int.reduceEq, reduceCtorEq, q0]
            rw [rls_still hfs]
          · simp -dsimp only [go_sem, Nat.reduceLT, Nat.reduceEqDiff, Nat.reduceAdd, Nat.reduceMul, Nat.reduceBEq, beq_self_eq_true, Nat.reduceLeDiff, Nat.le_refl, Int.reduceEq, reduceCtorEq, q1, rl_lit]
theorem change_p (d d2 : D) (x : Md.Pool) (no : Int) (y : Md.Page) (h : IsPool d x) (h2 : IsPage d2 y) (hs : Md.szPool x ≤ 1048576) (hs2 : Md.szPage y ≤ 1048576) (hd : d.data) (hd2 : d2.data) :
    PCall Try.prog 75 [d, .lit (.int .i64 no), d2] fun n0 n1 r => Two (fun r => IsPool r (change x no y).1 ∧ Own n0 n1 r) (.lit (.bool (change x no y).2)) r := by
  have hp := h
  have hp2 := h2
  have eq := shp_pool _ _ h
  have eq2 := shp_page _ _ h2
  obtain ⟨f0, rfl, hst, a0, a1⟩ := h
  obtain ⟨u0, rfl, ust, j0, ul⟩ := h2
  have k0 : f0 1 = _ := a1
  have j0 : u0 0 = _ := j0
  have e1 := eq.1
  have e2 := eq.2.1
  have e3 := eq.2.2.1
  have e4 := eq.2.2.2
  have y1 := eq2.1
  have y2 := eq2.2.1
  have y3 := eq2.2.2.1
  have y4 := eq2.2.2.2
  refine pcall_intro_t Try.func75 rfl (by decide) rfl (by decide) (by rw [Try.ntmps75]; simp) fun w0 M n0 hW hT => ivc_sound ?_; simp -dsimp only [Try.f75, go_sem, Nat.reduceLT, Nat.reduceEqDiff, Nat.reduceAdd, Nat.reduceMul, Nat.reduceBEq, beq_self_eq_true, Nat.reduceLeDiff, Nat.le_refl, Int.reduceEq, reduceCtorEq, e1, e2, e3, y1, y2, y3, k0, j0]
  have dT : (D.node (.agg [1, 1]) f0).tags (· < n0) := hT _ (by simp) hd
  have dT2 : (D.node (.agg [1, 16]) u0).tags (· < n0) := hT _ (by simp) hd2
  intro g1 b1 hb1 g2 b2 hb2 g3 b3 hb3
  refine xcall_t (clonePool_p _ _ hp hs) (by simp -dsimp only [go_sem, Nat.reduceLT, Nat.reduceEqDiff, Nat.reduceAdd, Nat.reduceMul, Nat.reduceBEq, beq_self_eq_true, Nat.reduceLeDiff, Nat.le_refl, Int.reduceEq, reduceCtorEq, rl_still, e4]) fun m0 p0 r0 hm0 hp0 hr0w => ?_
  have hr0 := hr0w.out
  have hm0' : b3 + 1 ≤ m0 := hm0
  refine ⟨hr0.2.tags, ?_⟩
  have ho := hr0.2
  obtain ⟨q, rfl, hqs, hq0, q1⟩ := hr0.1
  have q1 : q 1 = _ := q1
  rcases hq0 with ⟨q0, hnil⟩ | ⟨t, zb, f, q0, hfs, hfl, hf⟩
  · refine Conv.zero ?_
    have hsd : Md.seated x no = -1 := by unfold Md.seated; rw [hnil]; rfl
    have hneg : ((-1 : Int) < 0) := by decide
    have hch : change x no y = (x, false) := change_no (by simp [chOk, hsd])
    simp -dsimp only [go_sem, Nat.reduceLT, Nat.reduceEqDiff, Nat.reduceAdd, Nat.reduceMul, Nat.reduceBEq, beq_self_eq_true, Nat.reduceLeDiff, Nat.le_refl, Int.reduceEq, reduceCtorEq, q0, q1, e1, e2, e3, y1, y2, y3, k0, j0]
    intro g b hb
    refine xcall_v (seated_p _ _ no hp) (by simp -dsimp only [go_sem, Nat.reduceLT, Nat.reduceEqDiff, Nat.reduceAdd, Nat.reduceMul, Nat.reduceBEq, beq_self_eq_true, Nat.reduceLeDiff, Nat.le_refl, Int.reduceEq, reduceCtorEq, rl_still, e4]) (fun _ => trivial) fun n4 hn4 => ?_
    simp -dsimp only [go_sem, Nat.reduceLT, Nat.reduceEqDiff, Nat.reduceAdd, Nat.reduceMul, Nat.reduceBEq, beq_self_eq_true, Nat.reduceLeDiff, Nat.le_refl, Int.reduceEq, reduceCtorEq, hsd, hneg, q0, q1, e1, e2, e3, y1, y2, y3, k0, j0]
    refine iwp_plan [(0, true), (1, true), (2, true), (3, true), (4, false), (5, true), (6, true), (7, true), (8, true), (9, false), (10, true), (11, true), (12, true), (13, true), (14, true), (15, true), (16, true), (17, true), (18, true), (19, true), (20, true), (21, true), (22, true), (23, true)] [3, 5] rfl (by decide +kernel) (by decide) [] (by decide +kernel) ?_
    simp -dsimp only [go_sem, Nat.reduceLT, Nat.reduceEqDiff, Nat.reduceAdd, Nat.reduceMul, Nat.reduceBEq, beq_self_eq_true, Nat.reduceLeDiff, Nat.le_refl, Int.reduceEq, reduceCtorEq, hsd, hneg, q0, q1, e1, e2, e3, y1, y2, y3, k0, j0]
    intro n1 hn1 hfc
    rw [hch]
    refine .mk _ ⟨?_, ?_⟩
    · rw [rlnode_still hqs]; exact ⟨q, rfl, hqs, .inl ⟨q0, hnil⟩, q1⟩
    · rw [rlnode_still hqs]; exact ho.mono (by omega) (by omega)
  · have hoS : Own m0 p0 (.sl t zb x.seats.length 20 f) := by
      have := ho.node.own (i := 0) (by decide)
      rw [q0] at this
      exact this
    have hzb : zb = true := hoS.wh.1
    subst hzb
    have ht := hoS.rg t (by simp [D.tl])
    have hdf : (D.node (.agg [1, 1]) f0).free t := free_of_tags (m := n0) (by omega) dT
    have hdf2 : (D.node (.agg [1, 16]) u0).free t := free_of_tags (m := n0) (by omega) dT2
    refine conv_field (l := 1000) [1, 3, 5, 6, 7] (hW t (by omega)) (by simp -dsimp only [go_sem, Nat.reduceLT, Nat.reduceEqDiff, Nat.reduceAdd, Nat.reduceMul, Nat.reduceBEq, beq_self_eq_true, Nat.reduceLeDiff, Nat.le_refl, Int.reduceEq, reduceCtorEq]) (own_free hoS) 0 (by decide) q0 (fun i hi hne => ?_) (fun j hj => ?_) (fun l' g b x hx => ⟨hx, roots3 ⟨e3, hdf⟩ ⟨y3, hdf2⟩ ⟨?_, ?_⟩ _ _ _ _ hx⟩) fun g => ?_
    · have : i = 1 := by have : i < 2 := hi; omega
      subst this; rw [q1]; trivial
    · simp only [List.mem_cons, List.not_mem_nil, or_false] at hj
      rcases hj with rfl | rfl | rfl | rfl | rfl
      · exact (show (D.lit (.int .i64 no)).free t from trivial)
      · exact (show (D.ptr 3 g1 0 []).free t from trivial)
      · exact (show (D.ptr 5 g2 0 []).free t from trivial)
      · exact (show (D.ptr 6 g3 0 []).free t from trivial)
      · exact (show (D.lit (.bool false)).free t from trivial)
    · simp -dsimp only [go_sem, Nat.reduceLT, Nat.reduceEqDiff, Nat.reduceAdd, Nat.reduceMul, Nat.reduceBEq, beq_self_eq_true, Nat.reduceLeDiff, Nat.le_refl, Int.reduceEq, reduceCtorEq]
    · intro i hi
      have hi' : i < 2 := hi
      match i, hi' with
      | 0, _ => trivial
      | 1, _ => trivial
    · simp -dsimp only [go_sem, Nat.reduceLT, Nat.reduceEqDiff, Nat.reduceAdd, Nat.reduceMul, Nat.reduceBEq, beq_self_eq_true, Nat.reduceLeDiff, Nat.le_refl, Int.reduceEq, reduceCtorEq, q0, q1, e1, e2, e3, y1, y2, y3, k0, j0]
      intro g4 b4 hb4
      refine xcall_v (seated_p _ _ no hp) (by simp -dsimp only [go_sem, Nat.reduceLT, Nat.reduceEqDiff, Nat.reduceAdd, Nat.reduceMul, Nat.reduceBEq, beq_self_eq_true, Nat.reduceLeDiff, Nat.le_refl, Int.reduceEq, reduceCtorEq, rl_still, e4]) (fun _ => trivial) fun n4 hn4 => ?_
      by_cases hk : 0 ≤ Md.seated x no
      · have hlt := seated_lt hk
        have hkc : Md.seated x no < (x.seats.length : Int) := by omega
        have hnk : ¬ Md.seated x no < 0 := by omega
        obtain ⟨t0, z0, fd, hfd, _, hfd'⟩ := a0.sl hlt
        obtain ⟨fe, hfe, hfes, s0, s1, s2, s3⟩ := hfd' _ hlt
        obtain ⟨fp, hfp, hfps, l0, l1⟩ := s1
        have l0 : fp 0 = _ := l0
        simp -dsimp only [go_sem, Nat.reduceLT, Nat.reduceEqDiff, Nat.reduceAdd, Nat.reduceMul, Nat.reduceBEq, beq_self_eq_true, Nat.reduceLeDiff, Nat.le_refl, Int.reduceEq, reduceCtorEq, hk, hkc, hnk, hlt, hfd, hfe, hfp, l0, q0, q1, e1, e2, e3, y1, y2, y3, k0, j0]
        refine iwp_plan [(0, true), (1, true), (2, true), (3, true), (4, false), (5, true), (6, true), (7, true), (8, true), (9, false), (10, true), (11, true), (12, true), (13, true), (14, true), (15, true), (16, true), (17, true), (18, true), (19, true), (20, true), (21, true), (22, true), (23, true)] [3, 5] rfl (by decide +kernel) (by decide) [] (by decide +kernel) ?_
        simp -dsimp only [go_sem, Nat.reduceLT, Nat.reduceEqDiff, Nat.reduceAdd, Nat.reduceMul, Nat.reduceBEq, beq_self_eq_true, Nat.reduceLeDiff, Nat.le_refl, Int.reduceEq, reduceCtorEq, hk, hkc, hnk, hlt, hfd, hfe, hfp, l0, q0, q1, e1, e2, e3, y1, y2, y3, k0, j0]
        refine xcall_v (poolOk_p _ _ hp) (by simp -dsimp only [go_sem, Nat.reduceLT, Nat.reduceEqDiff, Nat.reduceAdd, Nat.reduceMul, Nat.reduceBEq, beq_self_eq_true, Nat.reduceLeDiff, Nat.le_refl, Int.reduceEq, reduceCtorEq, rl_still, e4]) (fun _ => trivial) fun n5 hn5 => ?_
        rcases Bool.eq_false_or_eq_true (Md.poolOk x) with hpo | hpo
        · simp -dsimp only [go_sem, Nat.reduceLT, Nat.reduceEqDiff, Nat.reduceAdd, Nat.reduceMul, Nat.reduceBEq, beq_self_eq_true, Nat.reduceLeDiff, Nat.le_refl, Int.reduceEq, reduceCtorEq, hpo, hk, hkc, hnk, hlt, hfd, hfe, hfp, l0, q0, q1, e1, e2, e3, y1, y2, y3, k0, j0]
          refine xcall_v (pageOk_p _ _ hp2) (by simp -dsimp only [go_sem, Nat.reduceLT, Nat.reduceEqDiff, Nat.reduceAdd, Nat.reduceMul, Nat.reduceBEq, beq_self_eq_true, Nat.reduceLeDiff, Nat.le_refl, Int.reduceEq, reduceCtorEq, rl_still, y4]) (fun _ => trivial) fun n6 hn6 => ?_
          rcases Bool.eq_false_or_eq_true (Md.pageOk y) with hpg | hpg
          · by_cases hls : y.lsn < x.seats[(Md.seated x no).toNat].p.lsn
            · simp -dsimp only [go_sem, Nat.reduceLT, Nat.reduceEqDiff, Nat.reduceAdd, Nat.reduceMul, Nat.reduceBEq, beq_self_eq_true, Nat.reduceLeDiff, Nat.le_refl, Int.reduceEq, reduceCtorEq, hls, hpg, hpo, hk, hkc, hnk, hlt, hfd, hfe, hfp, l0, q0, q1, e1, e2, e3, y1, y2, y3, k0, j0]
              have hch : change x no y = (x, false) := change_no (by simp [chOk, hk, hlt, hpo, hpg, hls])
              intro n1 hn1 hfc
              rw [hch]
              refine .mk _ ?_
              rw [rl_node]
              refine (grow_fin (n1 := n1) ?_ ?_ (gs_upd fun j => .inl (hqs j)) (.inr ⟨t, true, f, rfl, hfs, hfl, hf⟩) (hoS.mono (by omega) (by omega))).out
              · simp -dsimp only [go_sem, Nat.reduceLT, Nat.reduceEqDiff, Nat.reduceAdd, Nat.reduceMul, Nat.reduceBEq, beq_self_eq_true, Nat.reduceLeDiff, Nat.le_refl, Int.reduceEq, reduceCtorEq, q0]
                rw [rls_still hfs]
              · simp -dsimp only [go_sem, Nat.reduceLT, Nat.reduceEqDiff, Nat.reduceAdd, Nat.reduceMul, Nat.reduceBEq, beq_self_eq_true, Nat.reduceLeDiff, Nat.le_refl, Int.reduceEq, reduceCtorEq, q1, rl_lit]
            · simp -dsimp only [go_sem, Nat.reduceLT, Nat.reduceEqDiff, Nat.reduceAdd, Nat.reduceMul, Nat.reduceBEq, beq_self_eq_true, Nat.reduceLeDiff, Nat.le_refl, Int.reduceEq, reduceCtorEq, hls, hpg, hpo, hk, hkc, hnk, hlt, hfd, hfe, hfp, l0, q0, q1, e1, e2, e3, y1, y2, y3, k0, j0]
              have hch := change_yes (x := x) (no := no) (y := y) (by simp [chOk, hk, hlt, hpo, hpg, hls])
              refine iwp_plan [(0, true), (1, true), (2, true), (3, true), (4, true), (5, false), (6, true), (7, true), (8, false)] [5, 8] rfl (by decide +kernel) (by decide) [8] (by decide +kernel) ?_
              simp -dsimp only [go_sem, Nat.reduceLT, Nat.reduceEqDiff, Nat.reduceAdd, Nat.reduceMul, Nat.reduceBEq, beq_self_eq_true, Nat.reduceLeDiff, Nat.le_refl, Int.reduceEq, reduceCtorEq, hk, hkc, hnk, hlt, hfd, hfe, hfp, l0, q0, q1, e1, e2, e3, y1, y2, y3, k0, j0]
              refine xcall_p (clonePage_p _ _ hp2 hs2) (by simp -dsimp only [go_sem, Nat.reduceLT, Nat.reduceEqDiff, Nat.reduceAdd, Nat.reduceMul, Nat.reduceBEq, beq_self_eq_true, Nat.reduceLeDiff, Nat.le_refl, Int.reduceEq, reduceCtorEq, rl_still, y4]) fun m1 p1 r1 hm1 hp1 hr1 => ?_
              have rq := shp_page _ _ hr1.1
              refine ⟨hr1.2.tags, ?_⟩
              have fq := shp_seat _ _ (hf _ hlt)
              simp -dsimp only [go_sem, Nat.reduceLT, Nat.reduceEqDiff, Nat.reduceAdd, Nat.reduceMul, Nat.reduceBEq, beq_self_eq_true, Nat.reduceLeDiff, Nat.le_refl, Int.reduceEq, reduceCtorEq, fq.1, fq.2.1, fq.2.2.1, rq.1, rq.2.1, rq.2.2.1, hls, hpg, hpo, hk, hkc, hnk, hlt, hfd, hfe, hfp, l0, q0, q1, e1, e2, e3, y1, y2, y3, k0, j0]
              intro n1 hn1 hfc
              have hb4' : p0 ≤ b4 := hb4
              have hn4' : b4 + 1 ≤ n4 := hn4
              have hn5' : n4 ≤ n5 := hn5
              have hn6' : n5 ≤ n6 := hn6
              have hm1' : n6 ≤ m1 := hm1
              have hn1' : p1 ≤ n1 := hn1
              have oS := seat_own (no := no) zSeatF hr1.2 hp1
              have fst := seat_still (no := no) zSeatF_still hr1.1
              have fr := seat_put (no := no) zSeatF_still hr1.1
              rw [hch]
              refine .mk _ ?_
              rw [rl_node]
              refine (grow_fin (n1 := n1) ?_ ?_ (gs_upd fun j => .inl (hqs j)) (isL_mod (u := fun _ => ⟨no, y, true, true⟩) hfs hfl hf hlt fr fst) ((own_put hoS oS (by omega) (by omega) (by omega)).mono (by omega) (by omega))).out
              · simp -dsimp only [go_sem, Nat.reduceLT, Nat.reduceEqDiff, Nat.reduceAdd, Nat.reduceMul, Nat.reduceBEq, beq_self_eq_true, Nat.reduceLeDiff, Nat.le_refl, Int.reduceEq, reduceCtorEq, q0]
                rw [rls_still (still_upd hfs fst)]
              · simp -dsimp only [go_sem, Nat.reduceLT, Nat.reduceEqDiff, Nat.reduceAdd, Nat.reduceMul, Nat.reduceBEq, beq_self_eq_true, Nat.reduceLeDiff, Nat.le_refl, Int.reduceEq, reduceCtorEq, q1, rl_lit]
          · simp -dsimp only [go_sem, Nat.reduceLT, Nat.reduceEqDiff, Nat.reduceAdd, Nat.reduceMul, Nat.reduceBEq, beq_self_eq_true, Nat.reduceLeDiff, Nat.le_refl, Int.reduceEq, reduceCtorEq, hpg, hpo, hk, hkc, hnk, hlt, hfd, hfe, hfp, l0, q0, q1, e1, e2, e3, y1, y2, y3, k0, j0]
            have hch : change x no y = (x, false) := change_no (by simp [chOk, hk, hlt, hpo, hpg])
            intro n1 hn1 hfc
            rw [hch]
            refine .mk _ ?_
            rw [rl_node]
            refine (grow_fin (n1 := n1) ?_ ?_ (gs_upd fun j => .inl (hqs j)) (.inr ⟨t, true, f, rfl, hfs, hfl, hf⟩) (hoS.mono (by omega) (by omega))).out
            · simp -dsimp only [go_sem, Nat.reduceLT, Nat.reduceEqDiff, Nat.reduceAdd, Nat.reduceMul, Nat.reduceBEq, beq_self_eq_true, Nat.reduceLeDiff, Nat.le_refl, Int.reduceEq, reduceCtorEq, q0]
              rw [rls_still hfs]
            · simp -dsimp only [go_sem, Nat.reduceLT, Nat.reduceEqDiff, Nat.reduceAdd, Nat.reduceMul, Nat.reduceBEq, beq_self_eq_true, Nat.reduceLeDiff, Nat.le_refl, Int.reduceEq, reduceCtorEq, q1, rl_lit]
        · simp -dsimp only [go_sem, Nat.reduceLT, Nat.reduceEqDiff, Nat.reduceAdd, Nat.reduceMul, Nat.reduceBEq, beq_self_eq_true, Nat.reduceLeDiff, Nat.le_refl, Int.reduceEq, reduceCtorEq, hpo, hk, hkc, hnk, hlt, hfd, hfe, hfp, l0, q0, q1, e1, e2, e3, y1, y2, y3, k0, j0]
          have hch : change x no y = (x, false) := change_no (by simp [chOk, hk, hpo])
          intro n1 hn1 hfc
          rw [hch]
          refine .mk _ ?_
          rw [rl_node]
          refine (grow_fin (n1 := n1) ?_ ?_ (gs_upd fun j => .inl (hqs j)) (.inr ⟨t, true, f, rfl, hfs, hfl, hf⟩) (hoS.mono (by omega) (by omega))).out
          · simp -dsimp only [go_sem, Nat.reduceLT, Nat.reduceEqDiff, Nat.reduceAdd, Nat.reduceMul, Nat.reduceBEq, beq_self_eq_true, Nat.reduceLeDiff, Nat.le_refl, Int.reduceEq, reduceCtorEq, q0]
            rw [rls_still hfs]
          · simp -dsimp only [go_sem, Nat.reduceLT, Nat.reduceEqDiff, Nat.reduceAdd, Nat.reduceMul, Nat.reduceBEq, beq_self_eq_true, Nat.reduceLeDiff, Nat.le_refl, Int.reduceEq, reduceCtorEq, q1, rl_lit]
      · have hnk : Md.seated x no < 0 := by omega
        have hch : change x no y = (x, false) := change_no (by simp [chOk, hk])
        simp -dsimp only [go_sem, Nat.reduceLT, Nat.reduceEqDiff, Nat.reduceAdd, Nat.reduceMul, Nat.reduceBEq, beq_self_eq_true, Nat.reduceLeDiff, Nat.le_refl, Int.reduceEq, reduceCtorEq, hk, hnk, q0, q1, e1, e2, e3, y1, y2, y3, k0, j0]
        refine iwp_plan [(0, true), (1, true), (2, true), (3, true), (4, false), (5, true), (6, true), (7, true), (8, true), (9, false), (10, true), (11, true), (12, true), (13, true), (14, true), (15, true), (16, true), (17, true), (18, true), (19, true), (20, true), (21, true), (22, true), (23, true)] [3, 5] rfl (by decide +kernel) (by decide) [] (by decide +kernel) ?_
        simp -dsimp only [go_sem, Nat.reduceLT, Nat.reduceEqDiff, Nat.reduceAdd, Nat.reduceMul, Nat.reduceBEq, beq_self_eq_true, Nat.reduceLeDiff, Nat.le_refl, Int.reduceEq, reduceCtorEq, hk, hnk, q0, q1, e1, e2, e3, y1, y2, y3, k0, j0]
        intro n1 hn1 hfc
        rw [hch]
        refine .mk _ ?_
        rw [rl_node]
        refine (grow_fin (n1 := n1) ?_ ?_ (gs_upd fun j => .inl (hqs j)) (.inr ⟨t, true, f, rfl, hfs, hfl, hf⟩) (hoS.mono (by omega) (by omega))).out
        · simp -dsimp only [go_sem, Nat.reduceLT, Nat.reduceEqDiff, Nat.reduceAdd, Nat.reduceMul, Nat.reduceBEq, beq_self_eq_true, Nat.reduceLeDiff, Nat.le_refl, Int.reduceEq, reduceCtorEq, q0]
          rw [rls_still hfs]
        · simp -dsimp only [go_sem, Nat.reduceLT, Nat.reduceEqDiff, Nat.reduceAdd, Nat.reduceMul, Nat.reduceBEq, beq_self_eq_true, Nat.reduceLeDiff, Nat.le_refl, Int.reduceEq, reduceCtorEq, q1, rl_lit]
end Go.Proofs.Ytpepddckmddbiaa.IM
end

section
/- The law of Change. Printed by laws_wr2.py. -/
namespace Go.Proofs.Ytpepddckmddbiaa.IM
open Go Go.Proofs
set_option linter.unusedVariables false
set_option linter.unusedSimpArgs false
set_option maxHeartbeats 2000000
set_option maxRecDepth 20000

theorem c_change (x : Md.Pool) (no : Int) (y : Md.Page) : Md.cPool (change x no y).1 ≤ 4 * Md.szPool x := by
  have h := cPool_le x
  unfold change
  split
  · rw [cPool_eq] at h ⊢
    rw [show ∀ l : List Md.Seat, ∀ h, (Md.Pool.mk l h).seats = l from fun _ _ => rfl, List.length_modify]
    exact h
  · exact h
theorem lawChange (d dS : D) (x : Md.Pool) (no : Int) (y0 : Md.Page) (h : IsPool d x) (hS : IsPage dS y0) : PCall Try.prog 23 [d, .lit (.int .i64 no), dS] fun _ _ r => r = .lit (.bool true) := by
  have e := shp_pool _ _ h
  have e1 := e.1
  have e2 := e.2.1
  have e3 := e.2.2.1
  have e4 := e.2.2.2
  have c := shp_page _ _ hS
  have c1 := c.1
  have c2 := c.2.1
  have c3 := c.2.2.1
  have c4 := c.2.2.2
  refine pcall_intro_vt Try.func23 rfl (by decide) rfl (by decide) (by rw [Try.ntmps23]; simp) fun w0 M n0 hW hT => ivc_sound ?_; simp -dsimp only [Try.f23, go_sem, Nat.reduceLT, Nat.reduceEqDiff, Nat.reduceAdd, Nat.reduceMul, Nat.reduceBEq, beq_self_eq_true, Nat.reduceLeDiff, Nat.le_refl, Int.reduceEq, reduceCtorEq, e1, e2, e3, c1, c2, c3]
  have dT : d.tags (· < n0) := hT d (by simp) h.data
  have dST : dS.tags (· < n0) := hT dS (by simp) hS.data
  intro g1 b1 hb1 g2 b2 hb2
  refine xcall_v (szPool_p _ _ h 1048576 (by decide) (by decide)) (by simp -dsimp only [go_sem, Nat.reduceLT, Nat.reduceEqDiff, Nat.reduceAdd, Nat.reduceMul, Nat.reduceBEq, beq_self_eq_true, Nat.reduceLeDiff, Nat.le_refl, Int.reduceEq, reduceCtorEq, rl_still, e4]) (fun _ => trivial) fun n1 hn1 => ?_
  simp -dsimp only [go_sem, Nat.reduceLT, Nat.reduceEqDiff, Nat.reduceAdd, Nat.reduceMul, Nat.reduceBEq, beq_self_eq_true, Nat.reduceLeDiff, Nat.le_refl, Int.reduceEq, reduceCtorEq]
  intro hb
  have hs : Md.szPool x ≤ 1048576 := by
    have := Md.szR_le _ _ hb
    omega
  obtain ⟨l0, l1⟩ := Md.szR_rg _ _ (by decide) (by decide) hb
  simp -dsimp only [go_sem, Nat.reduceLT, Nat.reduceEqDiff, Nat.reduceAdd, Nat.reduceMul, Nat.reduceBEq, beq_self_eq_true, Nat.reduceLeDiff, Nat.le_refl, Int.reduceEq, reduceCtorEq, e1, e2, e3, c1, c2, c3]
  refine xcall_v (szPage_p _ _ hS _ l0 l1) (by simp -dsimp only [go_sem, Nat.reduceLT, Nat.reduceEqDiff, Nat.reduceAdd, Nat.reduceMul, Nat.reduceBEq, beq_self_eq_true, Nat.reduceLeDiff, Nat.le_refl, Int.reduceEq, reduceCtorEq, rl_still, c4]) (fun _ => trivial) fun n2 hn2 => ?_
  simp -dsimp only [go_sem, Nat.reduceLT, Nat.reduceEqDiff, Nat.reduceAdd, Nat.reduceMul, Nat.reduceBEq, beq_self_eq_true, Nat.reduceLeDiff, Nat.le_refl, Int.reduceEq, reduceCtorEq]
  intro hb2'
  have hs2 : Md.szPage y0 ≤ 1048576 := by
    have := Md.szR_le _ _ hb2'
    omega
  refine iwp_planT (.early 0 (.early 2 (.early 3 (.fork 1 (.fork 4 (.fork 5 (.early 6 (.early 7 (.early 8 (.late 9 (.late 10 (.early 11 .done)))))) 9 (.late 5 (.early 6 (.early 7 (.early 8 (.late 10 (.early 11 .done))))))) 9 (.late 4 (.late 5 (.early 6 (.early 7 (.early 8 (.late 10 (.early 11 .done)))))))) 9 (.late 1 (.late 4 (.late 5 (.early 6 (.early 7 (.early 8 (.late 10 (.early 11 .done)))))))))))) [3, 5] [] rfl (by decide +kernel) (by decide) (by decide +kernel) ?_
  refine fork_k (fun st => ∃ n g b s D, st = { N := 124, n := n, s := s, R := upd (upd (upd (fun _ => none) 3 (some (g1, b1, d))) 5 (some (g2, b2, dS))) 8 (some (g, b, D)) } ∧
    n2 ≤ n ∧ s 1 = .lit (.int .i64 no) ∧ s 3 = .ptr 3 g1 0 [] ∧ s 5 = .ptr 5 g2 0 [] ∧ s 8 = .ptr 8 g 0 [] ∧
    s 9 = .lit (.bool (change x no y0).2) ∧ IsPool D (change x no y0).1 ∧ Own n2 n D) ?_ ?_
  · rintro st ⟨n, g, b, s, v, rfl, hn, vs1, vs3, vs5, vs8, vs9, vi, vo⟩
    have vp := shp_pool _ _ vi
    have vp1 := vp.1
    have vp2 := vp.2.1
    have vp3 := vp.2.2.1
    have vp4 := vp.2.2.2
    simp -dsimp only [go_sem, Nat.reduceLT, Nat.reduceEqDiff, Nat.reduceAdd, Nat.reduceMul, Nat.reduceBEq, beq_self_eq_true, Nat.reduceLeDiff, Nat.le_refl, Int.reduceEq, reduceCtorEq, vs1, vs3, vs5, vs8, vs9, vp1, vp2, vp3, e1, e2, e3, c1, c2, c3]
    refine xcall_p (toPool_p _ _ h hs) (by simp -dsimp only [go_sem, Nat.reduceLT, Nat.reduceEqDiff, Nat.reduceAdd, Nat.reduceMul, Nat.reduceBEq, beq_self_eq_true, Nat.reduceLeDiff, Nat.le_refl, Int.reduceEq, reduceCtorEq, rl_still, e4]) fun xvlo xvhi xv hxvlo hxvhi hxv => ?_
    have xvo := hxv.2
    have xvi := hxv.1
    have xvp := shp_pool _ _ xvi
    have xvp1 := xvp.1
    have xvp2 := xvp.2.1
    have xvp3 := xvp.2.2.1
    have xvp4 := xvp.2.2.2
    refine ⟨xvo.tags, ?_⟩
    simp -dsimp only [go_sem, Nat.reduceLT, Nat.reduceEqDiff, Nat.reduceAdd, Nat.reduceMul, Nat.reduceBEq, beq_self_eq_true, Nat.reduceLeDiff, Nat.le_refl, Int.reduceEq, reduceCtorEq, vs1, vs3, vs5, vs8, vs9, vp1, vp2, vp3, e1, e2, e3, c1, c2, c3, xvp1, xvp2, xvp3]
    intro g12 b12 hb12
    refine xcall_p (toPage_p _ _ hS hs2) (by simp -dsimp only [go_sem, Nat.reduceLT, Nat.reduceEqDiff, Nat.reduceAdd, Nat.reduceMul, Nat.reduceBEq, beq_self_eq_true, Nat.reduceLeDiff, Nat.le_refl, Int.reduceEq, reduceCtorEq, rl_still, c4]) fun ulo uhi u hulo huhi hu => ?_
    have uo := hu.2
    have ui := hu.1
    have up := shp_page _ _ ui
    have up1 := up.1
    have up2 := up.2.1
    have up3 := up.2.2.1
    have up4 := up.2.2.2
    refine ⟨uo.tags, ?_⟩
    simp -dsimp only [go_sem, Nat.reduceLT, Nat.reduceEqDiff, Nat.reduceAdd, Nat.reduceMul, Nat.reduceBEq, beq_self_eq_true, Nat.reduceLeDiff, Nat.le_refl, Int.reduceEq, reduceCtorEq, vs1, vs3, vs5, vs8, vs9, vp1, vp2, vp3, e1, e2, e3, c1, c2, c3, xvp1, xvp2, xvp3, up1, up2, up3]
    intro g13 b13 hb13
    refine xcall_p (change_p _ _ x no y0 xvi ui hs hs2 xvi.data ui.data) (by simp -dsimp only [go_sem, Nat.reduceLT, Nat.reduceEqDiff, Nat.reduceAdd, Nat.reduceMul, Nat.reduceBEq, beq_self_eq_true, Nat.reduceLeDiff, Nat.le_refl, Int.reduceEq, reduceCtorEq, rl_still, xvp4, up4]) fun ylo yhi yw hylo hyhi hyw => ?_
    obtain ⟨y, rfl, hy⟩ := hyw.out
    have yo := hy.2
    have yi := hy.1
    have yp := shp_pool _ _ yi
    have yp1 := yp.1
    have yp2 := yp.2.1
    have yp3 := yp.2.2.1
    have yp4 := yp.2.2.2
    refine ⟨tags_two yo.tags, ?_⟩
    simp -dsimp only [go_sem, Nat.reduceLT, Nat.reduceEqDiff, Nat.reduceAdd, Nat.reduceMul, Nat.reduceBEq, beq_self_eq_true, Nat.reduceLeDiff, Nat.le_refl, Int.reduceEq, reduceCtorEq, vs1, vs3, vs5, vs8, vs9, vp1, vp2, vp3, e1, e2, e3, c1, c2, c3, xvp1, xvp2, xvp3, up1, up2, up3, yp1, yp2, yp3]
    intro g14 b14 hb14
    refine xcall_v (eqPool_p _ _ _ yi vi) (by simp -dsimp only [go_sem, Nat.reduceLT, Nat.reduceEqDiff, Nat.reduceAdd, Nat.reduceMul, Nat.reduceBEq, beq_self_eq_true, Nat.reduceLeDiff, Nat.le_refl, Int.reduceEq, reduceCtorEq, rl_still, yp4, vp4]) (fun _ => trivial) fun n4 hn4 => ?_
    simp -dsimp only [go_sem, Nat.reduceLT, Nat.reduceEqDiff, Nat.reduceAdd, Nat.reduceMul, Nat.reduceBEq, beq_self_eq_true, Nat.reduceLeDiff, Nat.le_refl, Int.reduceEq, reduceCtorEq, vs1, vs3, vs5, vs8, vs9, vp1, vp2, vp3, e1, e2, e3, c1, c2, c3, xvp1, xvp2, xvp3, up1, up2, up3, yp1, yp2, yp3, bne_self_eq_false, Bool.not_true, Bool.not_false, Bool.false_eq_true, Bool.true_eq_false, false_imp_iff, true_and, and_true, forall_const, reduceCtorEq]
    refine iwp_plan [(0, true), (1, true), (2, false), (3, false), (4, true)] [3, 10] rfl (by decide +kernel) (by decide) [] (by decide +kernel) ?_
    simp -dsimp only [go_sem, Nat.reduceLT, Nat.reduceEqDiff, Nat.reduceAdd, Nat.reduceMul, Nat.reduceBEq, beq_self_eq_true, Nat.reduceLeDiff, Nat.le_refl, Int.reduceEq, reduceCtorEq, vs1, vs3, vs5, vs8, vs9, vp1, vp2, vp3, e1, e2, e3, c1, c2, c3, xvp1, xvp2, xvp3, up1, up2, up3, yp1, yp2, yp3]
    refine xcall_p (toPool_p _ _ h hs) (by simp -dsimp only [go_sem, Nat.reduceLT, Nat.reduceEqDiff, Nat.reduceAdd, Nat.reduceMul, Nat.reduceBEq, beq_self_eq_true, Nat.reduceLeDiff, Nat.le_refl, Int.reduceEq, reduceCtorEq, rl_still, e4]) fun zlo zhi z hzlo hzhi hz => ?_
    have zo := hz.2
    have zi := hz.1
    have zp := shp_pool _ _ zi
    have zp1 := zp.1
    have zp2 := zp.2.1
    have zp3 := zp.2.2.1
    have zp4 := zp.2.2.2
    refine ⟨zo.tags, ?_⟩
    simp -dsimp only [go_sem, Nat.reduceLT, Nat.reduceEqDiff, Nat.reduceAdd, Nat.reduceMul, Nat.reduceBEq, beq_self_eq_true, Nat.reduceLeDiff, Nat.le_refl, Int.reduceEq, reduceCtorEq, vs1, vs3, vs5, vs8, vs9, vp1, vp2, vp3, e1, e2, e3, c1, c2, c3, xvp1, xvp2, xvp3, up1, up2, up3, yp1, yp2, yp3, zp1, zp2, zp3]
    refine xcall_v (eqPool_p _ _ _ xvi zi) (by simp -dsimp only [go_sem, Nat.reduceLT, Nat.reduceEqDiff, Nat.reduceAdd, Nat.reduceMul, Nat.reduceBEq, beq_self_eq_true, Nat.reduceLeDiff, Nat.le_refl, Int.reduceEq, reduceCtorEq, rl_still, xvp4, zp4]) (fun _ => trivial) fun n4 hn4 => ?_
    simp -dsimp only [go_sem, Nat.reduceLT, Nat.reduceEqDiff, Nat.reduceAdd, Nat.reduceMul, Nat.reduceBEq, beq_self_eq_true, Nat.reduceLeDiff, Nat.le_refl, Int.reduceEq, reduceCtorEq, vs1, vs3, vs5, vs8, vs9, vp1, vp2, vp3, e1, e2, e3, c1, c2, c3, xvp1, xvp2, xvp3, up1, up2, up3, yp1, yp2, yp3, zp1, zp2, zp3, bne_self_eq_false, Bool.not_true, Bool.not_false, Bool.false_eq_true, Bool.true_eq_false, false_imp_iff, true_and, and_true, forall_const, reduceCtorEq]
    refine iwp_plan [(0, true), (1, true), (2, false), (3, false), (4, true)] [5, 11] rfl (by decide +kernel) (by decide) [] (by decide +kernel) ?_
    simp -dsimp only [go_sem, Nat.reduceLT, Nat.reduceEqDiff, Nat.reduceAdd, Nat.reduceMul, Nat.reduceBEq, beq_self_eq_true, Nat.reduceLeDiff, Nat.le_refl, Int.reduceEq, reduceCtorEq, vs1, vs3, vs5, vs8, vs9, vp1, vp2, vp3, e1, e2, e3, c1, c2, c3, xvp1, xvp2, xvp3, up1, up2, up3, yp1, yp2, yp3]
    refine xcall_p (toPage_p _ _ hS hs2) (by simp -dsimp only [go_sem, Nat.reduceLT, Nat.reduceEqDiff, Nat.reduceAdd, Nat.reduceMul, Nat.reduceBEq, beq_self_eq_true, Nat.reduceLeDiff, Nat.le_refl, Int.reduceEq, reduceCtorEq, rl_still, c4]) fun z2lo z2hi z2 hz2lo hz2hi hz2 => ?_
    have z2o := hz2.2
    have z2i := hz2.1
    have z2p := shp_page _ _ z2i
    have z2p1 := z2p.1
    have z2p2 := z2p.2.1
    have z2p3 := z2p.2.2.1
    have z2p4 := z2p.2.2.2
    refine ⟨z2o.tags, ?_⟩
    simp -dsimp only [go_sem, Nat.reduceLT, Nat.reduceEqDiff, Nat.reduceAdd, Nat.reduceMul, Nat.reduceBEq, beq_self_eq_true, Nat.reduceLeDiff, Nat.le_refl, Int.reduceEq, reduceCtorEq, vs1, vs3, vs5, vs8, vs9, vp1, vp2, vp3, e1, e2, e3, c1, c2, c3, xvp1, xvp2, xvp3, up1, up2, up3, yp1, yp2, yp3, z2p1, z2p2, z2p3]
    refine xcall_v (eqPage_p _ _ _ ui z2i) (by simp -dsimp only [go_sem, Nat.reduceLT, Nat.reduceEqDiff, Nat.reduceAdd, Nat.reduceMul, Nat.reduceBEq, beq_self_eq_true, Nat.reduceLeDiff, Nat.le_refl, Int.reduceEq, reduceCtorEq, rl_still, up4, z2p4]) (fun _ => trivial) fun n4 hn4 => ?_
    simp -dsimp only [go_sem, Nat.reduceLT, Nat.reduceEqDiff, Nat.reduceAdd, Nat.reduceMul, Nat.reduceBEq, beq_self_eq_true, Nat.reduceLeDiff, Nat.le_refl, Int.reduceEq, reduceCtorEq, vs1, vs3, vs5, vs8, vs9, vp1, vp2, vp3, e1, e2, e3, c1, c2, c3, xvp1, xvp2, xvp3, up1, up2, up3, yp1, yp2, yp3, z2p1, z2p2, z2p3, bne_self_eq_false, Bool.not_true, Bool.not_false, Bool.false_eq_true, Bool.true_eq_false, false_imp_iff, true_and, and_true, forall_const, reduceCtorEq]
    have hz := c_change x no y0
    have hcb : Md.cPool x ≤ 4 * Md.szPool x := cPool_le x
    refine xcall_mk (markPool_p xv x (1) _ _ xvi xvo (by decide) (by omega)) (by simp -dsimp only [go_sem, Nat.reduceLT, Nat.reduceEqDiff, Nat.reduceAdd, Nat.reduceMul, Nat.reduceBEq, beq_self_eq_true, Nat.reduceLeDiff, Nat.le_refl, Int.reduceEq, reduceCtorEq, vs1, vs3, vs5, vs8, vs9, vp1, vp2, vp3, e1, e2, e3, c1, c2, c3, xvp1, xvp2, xvp3, up1, up2, up3, yp1, yp2, yp3]) xvp3 xvp4 ⟨trivial, trivial⟩ (fun t ht => hW t (by have := xvo.rg t ht; omega)) [1, 3, 5, 8, 9, 10, 11, 12, 13, 14] (fun _ _ => .any) (fun E => upd (upd (upd (upd (upd (upd (fun _ => none) 3 (some (g1, b1, d))) 5 (some (g2, b2, dS))) 8 (some (g, b, v))) 10 (some (g12, b12, E))) 11 (some (g13, b13, u))) 12 (some (g14, b14, y))) fun m1 nm1 hnm1 hm1 =>
        ⟨by simp -dsimp only [go_sem, Nat.reduceLT, Nat.reduceEqDiff, Nat.reduceAdd, Nat.reduceMul, Nat.reduceBEq, beq_self_eq_true, Nat.reduceLeDiff, Nat.le_refl, Int.reduceEq, reduceCtorEq, vs1, vs3, vs5, vs8, vs9, vp1, vp2, vp3, e1, e2, e3, c1, c2, c3, xvp1, xvp2, xvp3, up1, up2, up3, yp1, yp2, yp3], carry_any, ((((((CarR.none _ _ _).upd e3 (carry_lo xvo (by omega) dT)).upd c3 (carry_lo xvo (by omega) dST)).upd vp3 (carry_own xvo vo (.inr (by omega)))).upd (shp_pool _ _ hm1.rel).2.2.1 .here).upd up3 (carry_own xvo uo (.inl (by omega)))).upd yp3 (carry_own xvo yo (.inl (by omega))), ?_⟩
    have m1p := shp_pool _ _ hm1.rel
    have m1p1 := m1p.1
    have m1p2 := m1p.2.1
    have m1p3 := m1p.2.2.1
    have m1p4 := m1p.2.2.2
    have m1o := hm1.own xvo
    have m1i := hm1.rel
    simp -dsimp only [go_sem, Nat.reduceLT, Nat.reduceEqDiff, Nat.reduceAdd, Nat.reduceMul, Nat.reduceBEq, beq_self_eq_true, Nat.reduceLeDiff, Nat.le_refl, Int.reduceEq, reduceCtorEq, vs1, vs3, vs5, vs8, vs9, vp1, vp2, vp3, e1, e2, e3, c1, c2, c3, xvp1, xvp2, xvp3, up1, up2, up3, yp1, yp2, yp3, m1p1, m1p2, m1p3]
    refine xcall_mk (markPage_p u y0 (1 + (Md.cPool x : Nat)) _ _ ui uo (by omega) (by omega)) (by simp -dsimp only [go_sem, Nat.reduceLT, Nat.reduceEqDiff, Nat.reduceAdd, Nat.reduceMul, Nat.reduceBEq, beq_self_eq_true, Nat.reduceLeDiff, Nat.le_refl, Int.reduceEq, reduceCtorEq, vs1, vs3, vs5, vs8, vs9, vp1, vp2, vp3, e1, e2, e3, c1, c2, c3, xvp1, xvp2, xvp3, up1, up2, up3, yp1, yp2, yp3, m1p1, m1p2, m1p3]) up3 up4 ⟨trivial, trivial⟩ (fun t ht => hW t (by have := uo.rg t ht; omega)) [1, 3, 5, 8, 9, 10, 11, 12, 13, 14] (fun _ _ => .any) (fun E => upd (upd (upd (upd (upd (upd (fun _ => none) 3 (some (g1, b1, d))) 5 (some (g2, b2, dS))) 8 (some (g, b, v))) 10 (some (g12, b12, m1))) 11 (some (g13, b13, E))) 12 (some (g14, b14, y))) fun m2 nm2 hnm2 hm2 =>
        ⟨by simp -dsimp only [go_sem, Nat.reduceLT, Nat.reduceEqDiff, Nat.reduceAdd, Nat.reduceMul, Nat.reduceBEq, beq_self_eq_true, Nat.reduceLeDiff, Nat.le_refl, Int.reduceEq, reduceCtorEq, vs1, vs3, vs5, vs8, vs9, vp1, vp2, vp3, e1, e2, e3, c1, c2, c3, xvp1, xvp2, xvp3, up1, up2, up3, yp1, yp2, yp3, m1p1, m1p2, m1p3], carry_any, ((((((CarR.none _ _ _).upd e3 (carry_lo uo (by omega) dT)).upd c3 (carry_lo uo (by omega) dST)).upd vp3 (carry_own uo vo (.inr (by omega)))).upd m1p3 (carry_own uo m1o (.inr (by omega)))).upd (shp_page _ _ hm2.rel).2.2.1 .here).upd yp3 (carry_own uo yo (.inl (by omega))), ?_⟩
    have m2p := shp_page _ _ hm2.rel
    have m2p1 := m2p.1
    have m2p2 := m2p.2.1
    have m2p3 := m2p.2.2.1
    have m2p4 := m2p.2.2.2
    have m2o := hm2.own uo
    have m2i := hm2.rel
    have hk : ¬ (1 + (Md.cPool x : Nat) + (Md.szPage y0 : Nat) < (0 : Int)) := by omega
    simp -dsimp only [go_sem, Nat.reduceLT, Nat.reduceEqDiff, Nat.reduceAdd, Nat.reduceMul, Nat.reduceBEq, beq_self_eq_true, Nat.reduceLeDiff, Nat.le_refl, Int.reduceEq, reduceCtorEq, vs1, vs3, vs5, vs8, vs9, vp1, vp2, vp3, e1, e2, e3, c1, c2, c3, xvp1, xvp2, xvp3, up1, up2, up3, yp1, yp2, yp3, m1p1, m1p2, m1p3, m2p1, m2p2, m2p3, hk, bne_self_eq_false, Bool.not_true, Bool.not_false, Bool.false_eq_true, Bool.true_eq_false, false_imp_iff, true_and, and_true, forall_const, reduceCtorEq, decide_false]
    refine xcall_v (eqPool_p _ _ _ yi vi) (by simp -dsimp only [go_sem, Nat.reduceLT, Nat.reduceEqDiff, Nat.reduceAdd, Nat.reduceMul, Nat.reduceBEq, beq_self_eq_true, Nat.reduceLeDiff, Nat.le_refl, Int.reduceEq, reduceCtorEq, rl_still, yp4, vp4]) (fun _ => trivial) fun n4 hn4 => ?_
    simp -dsimp only [go_sem, Nat.reduceLT, Nat.reduceEqDiff, Nat.reduceAdd, Nat.reduceMul, Nat.reduceBEq, beq_self_eq_true, Nat.reduceLeDiff, Nat.le_refl, Int.reduceEq, reduceCtorEq, vs1, vs3, vs5, vs8, vs9, vp1, vp2, vp3, e1, e2, e3, c1, c2, c3, xvp1, xvp2, xvp3, up1, up2, up3, yp1, yp2, yp3, m1p1, m1p2, m1p3, m2p1, m2p2, m2p3, hk, decide_false, bne_self_eq_false, Bool.not_true, Bool.not_false, Bool.false_eq_true, Bool.true_eq_false, false_imp_iff, true_and, and_true, forall_const, reduceCtorEq]
    refine xcall_mk (markPool_p y _ (1) _ _ yi yo (by decide) (by omega)) (by simp -dsimp only [go_sem, Nat.reduceLT, Nat.reduceEqDiff, Nat.reduceAdd, Nat.reduceMul, Nat.reduceBEq, beq_self_eq_true, Nat.reduceLeDiff, Nat.le_refl, Int.reduceEq, reduceCtorEq, vs1, vs3, vs5, vs8, vs9, vp1, vp2, vp3, e1, e2, e3, c1, c2, c3, xvp1, xvp2, xvp3, up1, up2, up3, yp1, yp2, yp3, m1p1, m1p2, m1p3, m2p1, m2p2, m2p3, hk]) yp3 yp4 ⟨trivial, trivial⟩ (fun t ht => hW t (by have := yo.rg t ht; omega)) [1, 3, 5, 8, 9, 10, 11, 12, 13, 14] (fun _ _ => .any) (fun E => upd (upd (upd (upd (upd (upd (fun _ => none) 3 (some (g1, b1, d))) 5 (some (g2, b2, dS))) 8 (some (g, b, v))) 10 (some (g12, b12, m1))) 11 (some (g13, b13, m2))) 12 (some (g14, b14, E))) fun m3 nm3 hnm3 hm3 =>
        ⟨by simp -dsimp only [go_sem, Nat.reduceLT, Nat.reduceEqDiff, Nat.reduceAdd, Nat.reduceMul, Nat.reduceBEq, beq_self_eq_true, Nat.reduceLeDiff, Nat.le_refl, Int.reduceEq, reduceCtorEq, vs1, vs3, vs5, vs8, vs9, vp1, vp2, vp3, e1, e2, e3, c1, c2, c3, xvp1, xvp2, xvp3, up1, up2, up3, yp1, yp2, yp3, m1p1, m1p2, m1p3, m2p1, m2p2, m2p3, hk], carry_any, ((((((CarR.none _ _ _).upd e3 (carry_lo yo (by omega) dT)).upd c3 (carry_lo yo (by omega) dST)).upd vp3 (carry_own yo vo (.inr (by omega)))).upd m1p3 (carry_own yo m1o (.inr (by omega)))).upd m2p3 (carry_own yo m2o (.inr (by omega)))).upd (shp_pool _ _ hm3.rel).2.2.1 .here, ?_⟩
    have m3p := shp_pool _ _ hm3.rel
    have m3p1 := m3p.1
    have m3p2 := m3p.2.1
    have m3p3 := m3p.2.2.1
    have m3p4 := m3p.2.2.2
    have m3o := hm3.own yo
    have m3i := hm3.rel
    simp -dsimp only [go_sem, Nat.reduceLT, Nat.reduceEqDiff, Nat.reduceAdd, Nat.reduceMul, Nat.reduceBEq, beq_self_eq_true, Nat.reduceLeDiff, Nat.le_refl, Int.reduceEq, reduceCtorEq, vs1, vs3, vs5, vs8, vs9, vp1, vp2, vp3, e1, e2, e3, c1, c2, c3, xvp1, xvp2, xvp3, up1, up2, up3, yp1, yp2, yp3, m1p1, m1p2, m1p3, m2p1, m2p2, m2p3, hk, m3p1, m3p2, m3p3]
    refine xcall_v (heldPool_p _ (change x no y0).1 (1) m3i (by decide) (by omega)) (by simp -dsimp only [go_sem, Nat.reduceLT, Nat.reduceEqDiff, Nat.reduceAdd, Nat.reduceMul, Nat.reduceBEq, beq_self_eq_true, Nat.reduceLeDiff, Nat.le_refl, Int.reduceEq, reduceCtorEq, rl_still, m3p4]) (fun _ => trivial) fun n7 hn7 => ?_
    have hk2 : ¬ (1 + (Md.cPool (change x no y0).1 : Nat) < (0 : Int)) := by omega
    simp -dsimp only [go_sem, Nat.reduceLT, Nat.reduceEqDiff, Nat.reduceAdd, Nat.reduceMul, Nat.reduceBEq, beq_self_eq_true, Nat.reduceLeDiff, Nat.le_refl, Int.reduceEq, reduceCtorEq, vs1, vs3, vs5, vs8, vs9, vp1, vp2, vp3, e1, e2, e3, c1, c2, c3, xvp1, xvp2, xvp3, up1, up2, up3, yp1, yp2, yp3, m1p1, m1p2, m1p3, m2p1, m2p2, m2p3, hk, m3p1, m3p2, m3p3, hk2, bne_self_eq_false, Bool.not_true, Bool.not_false, Bool.false_eq_true, Bool.true_eq_false, false_imp_iff, true_and, and_true, forall_const, reduceCtorEq, decide_false]
    refine iwp_planT (.early 0 (.early 2 (.early 3 (.fork 1 (.fork 4 (.fork 5 (.early 6 (.early 7 (.early 8 (.late 9 (.late 10 (.early 11 .done)))))) 9 (.late 5 (.early 6 (.early 7 (.early 8 (.late 10 (.early 11 .done))))))) 9 (.late 4 (.late 5 (.early 6 (.early 7 (.early 8 (.late 10 (.early 11 .done)))))))) 9 (.late 1 (.late 4 (.late 5 (.early 6 (.early 7 (.early 8 (.late 10 (.early 11 .done)))))))))))) [3, 5] [] rfl (by decide +kernel) (by decide) (by decide +kernel) ?_
    refine fork_k (fun st => ∃ n' g19 b19 s' D, st = { N := 124, n := n', s := s', R := upd (upd (upd (upd (upd (upd (upd (fun _ => none) 3 (some (g1, b1, d))) 5 (some (g2, b2, dS))) 8 (some (g, b, v))) 10 (some (g12, b12, m1))) 11 (some (g13, b13, m2))) 12 (some (g14, b14, m3))) 17 (some (g19, b19, D)) } ∧
      n7 ≤ n' ∧ s' 8 = .ptr 8 g 0 [] ∧ s' 9 = .lit (.bool (change x no y0).2) ∧ s' 12 = .ptr 12 g14 0 [] ∧ s' 15 = .lit (.int .i64 (1 + (Md.cPool (change x no y0).1 : Nat))) ∧ s' 17 = .ptr 17 g19 0 [] ∧
      s' 18 = .lit (.bool (change x no y0).2) ∧ IsPool D (change x no y0).1) ?_ ?_
    · rintro st ⟨n', g19, b19, s', hv, rfl, hn', z10, z11, z14, z17, z19, z20, hvi⟩
      have hp := shp_pool _ _ hvi
      have hp1 := hp.1
      have hp2 := hp.2.1
      have hp3 := hp.2.2.1
      have hp4 := hp.2.2.2
      have hvp4 := hp4
      simp -dsimp only [go_sem, Nat.reduceLT, Nat.reduceEqDiff, Nat.reduceAdd, Nat.reduceMul, Nat.reduceBEq, beq_self_eq_true, Nat.reduceLeDiff, Nat.le_refl, Int.reduceEq, reduceCtorEq, z10, z11, z14, z17, z19, z20, hp1, hp2, hp3, vp1, vp2, vp3, m3p1, m3p2, m3p3, hk2]
      refine xcall_v (eqPool_p _ _ _ hvi vi) (by simp -dsimp only [go_sem, Nat.reduceLT, Nat.reduceEqDiff, Nat.reduceAdd, Nat.reduceMul, Nat.reduceBEq, beq_self_eq_true, Nat.reduceLeDiff, Nat.le_refl, Int.reduceEq, reduceCtorEq, rl_still, hvp4, vp4]) (fun _ => trivial) fun n4 hn4 => ?_
      simp -dsimp only [go_sem, Nat.reduceLT, Nat.reduceEqDiff, Nat.reduceAdd, Nat.reduceMul, Nat.reduceBEq, beq_self_eq_true, Nat.reduceLeDiff, Nat.le_refl, Int.reduceEq, reduceCtorEq, z10, z11, z14, z17, z19, z20, hp1, hp2, hp3, vp1, vp2, vp3, m3p1, m3p2, m3p3, hk2, decide_false, bne_self_eq_false, Bool.not_true, Bool.not_false, Bool.false_eq_true, Bool.true_eq_false, false_imp_iff, true_and, and_true, forall_const, reduceCtorEq]
      refine xcall_v (heldPool_p _ (change x no y0).1 (1) m3i (by decide) (by omega)) (by simp -dsimp only [go_sem, Nat.reduceLT, Nat.reduceEqDiff, Nat.reduceAdd, Nat.reduceMul, Nat.reduceBEq, beq_self_eq_true, Nat.reduceLeDiff, Nat.le_refl, Int.reduceEq, reduceCtorEq, rl_still, m3p4]) (fun _ => trivial) fun n9 hn9 => ?_
      simp -dsimp only [go_sem, Nat.reduceLT, Nat.reduceEqDiff, Nat.reduceAdd, Nat.reduceMul, Nat.reduceBEq, beq_self_eq_true, Nat.reduceLeDiff, Nat.le_refl, Int.reduceEq, reduceCtorEq, z10, z11, z14, z17, z19, z20, hp1, hp2, hp3, vp1, vp2, vp3, m3p1, m3p2, m3p3, hk2, bne_self_eq_false, Bool.not_true, Bool.not_false, Bool.false_eq_true, Bool.true_eq_false, false_imp_iff, true_and, and_true, forall_const, reduceCtorEq, decide_false]
    · intro K hK
      simp -dsimp only [go_sem, Nat.reduceLT, Nat.reduceEqDiff, Nat.reduceAdd, Nat.reduceMul, Nat.reduceBEq, beq_self_eq_true, Nat.reduceLeDiff, Nat.le_refl, Int.reduceEq, reduceCtorEq, vs1, vs3, vs5, vs8, vs9, vp1, vp2, vp3, e1, e2, e3, c1, c2, c3, xvp1, xvp2, xvp3, up1, up2, up3, yp1, yp2, yp3, m1p1, m1p2, m1p3, m2p1, m2p2, m2p3, hk, m3p1, m3p2, m3p3, hk2]
      refine ⟨?_, ?_⟩
      · refine xcall_p (toPool_p _ _ h hs) (by simp -dsimp only [go_sem, Nat.reduceLT, Nat.reduceEqDiff, Nat.reduceAdd, Nat.reduceMul, Nat.reduceBEq, beq_self_eq_true, Nat.reduceLeDiff, Nat.le_refl, Int.reduceEq, reduceCtorEq, rl_still, e4]) fun r2lo r2hi r2 hr2lo hr2hi hr2 => ?_
        have r2o := hr2.2
        have r2i := hr2.1
        have r2p := shp_pool _ _ r2i
        have r2p1 := r2p.1
        have r2p2 := r2p.2.1
        have r2p3 := r2p.2.2.1
        have r2p4 := r2p.2.2.2
        refine ⟨r2o.tags, ?_⟩
        simp -dsimp only [go_sem, Nat.reduceLT, Nat.reduceEqDiff, Nat.reduceAdd, Nat.reduceMul, Nat.reduceBEq, beq_self_eq_true, Nat.reduceLeDiff, Nat.le_refl, Int.reduceEq, reduceCtorEq, vs1, vs3, vs5, vs8, vs9, vp1, vp2, vp3, e1, e2, e3, c1, c2, c3, xvp1, xvp2, xvp3, up1, up2, up3, yp1, yp2, yp3, m1p1, m1p2, m1p3, m2p1, m2p2, m2p3, hk, m3p1, m3p2, m3p3, hk2, r2p1, r2p2, r2p3]
        refine ⟨?_, ?_⟩
        · refine xcall_p (toPage_p _ _ hS hs2) (by simp -dsimp only [go_sem, Nat.reduceLT, Nat.reduceEqDiff, Nat.reduceAdd, Nat.reduceMul, Nat.reduceBEq, beq_self_eq_true, Nat.reduceLeDiff, Nat.le_refl, Int.reduceEq, reduceCtorEq, rl_still, c4]) fun u2lo u2hi u2 hu2lo hu2hi hu2 => ?_
          have u2o := hu2.2
          have u2i := hu2.1
          have u2p := shp_page _ _ u2i
          have u2p1 := u2p.1
          have u2p2 := u2p.2.1
          have u2p3 := u2p.2.2.1
          have u2p4 := u2p.2.2.2
          refine ⟨u2o.tags, ?_⟩
          simp -dsimp only [go_sem, Nat.reduceLT, Nat.reduceEqDiff, Nat.reduceAdd, Nat.reduceMul, Nat.reduceBEq, beq_self_eq_true, Nat.reduceLeDiff, Nat.le_refl, Int.reduceEq, reduceCtorEq, vs1, vs3, vs5, vs8, vs9, vp1, vp2, vp3, e1, e2, e3, c1, c2, c3, xvp1, xvp2, xvp3, up1, up2, up3, yp1, yp2, yp3, m1p1, m1p2, m1p3, m2p1, m2p2, m2p3, hk, m3p1, m3p2, m3p3, hk2, r2p1, r2p2, r2p3, u2p1, u2p2, u2p3]
          refine ⟨?_, ?_⟩
          · refine xcall_p (change_p _ _ x no y0 r2i u2i hs hs2 r2i.data u2i.data) (by simp -dsimp only [go_sem, Nat.reduceLT, Nat.reduceEqDiff, Nat.reduceAdd, Nat.reduceMul, Nat.reduceBEq, beq_self_eq_true, Nat.reduceLeDiff, Nat.le_refl, Int.reduceEq, reduceCtorEq, rl_still, r2p4, u2p4]) fun v2lo v2hi v2w hv2lo hv2hi hv2w => ?_
            obtain ⟨v2, rfl, hv2⟩ := hv2w.out
            have v2o := hv2.2
            have v2i := hv2.1
            have v2p := shp_pool _ _ v2i
            have v2p1 := v2p.1
            have v2p2 := v2p.2.1
            have v2p3 := v2p.2.2.1
            have v2p4 := v2p.2.2.2
            refine ⟨tags_two v2o.tags, ?_⟩
            simp -dsimp only [go_sem, Nat.reduceLT, Nat.reduceEqDiff, Nat.reduceAdd, Nat.reduceMul, Nat.reduceBEq, beq_self_eq_true, Nat.reduceLeDiff, Nat.le_refl, Int.reduceEq, reduceCtorEq, vs1, vs3, vs5, vs8, vs9, vp1, vp2, vp3, e1, e2, e3, c1, c2, c3, xvp1, xvp2, xvp3, up1, up2, up3, yp1, yp2, yp3, m1p1, m1p2, m1p3, m2p1, m2p2, m2p3, hk, m3p1, m3p2, m3p3, hk2, r2p1, r2p2, r2p3, u2p1, u2p2, u2p3, v2p1, v2p2, v2p3]
            intro g19 b19 hb19
            exact hK _ ⟨_, _, _, _, _, rfl, by omega, by simp -dsimp only [go_sem, Nat.reduceLT, Nat.reduceEqDiff, Nat.reduceAdd, Nat.reduceMul, Nat.reduceBEq, beq_self_eq_true, Nat.reduceLeDiff, Nat.le_refl, Int.reduceEq, reduceCtorEq], by simp -dsimp only [go_sem, Nat.reduceLT, Nat.reduceEqDiff, Nat.reduceAdd, Nat.reduceMul, Nat.reduceBEq, beq_self_eq_true, Nat.reduceLeDiff, Nat.le_refl, Int.reduceEq, reduceCtorEq], by simp -dsimp only [go_sem, Nat.reduceLT, Nat.reduceEqDiff, Nat.reduceAdd, Nat.reduceMul, Nat.reduceBEq, beq_self_eq_true, Nat.reduceLeDiff, Nat.le_refl, Int.reduceEq, reduceCtorEq], by simp -dsimp only [go_sem, Nat.reduceLT, Nat.reduceEqDiff, Nat.reduceAdd, Nat.reduceMul, Nat.reduceBEq, beq_self_eq_true, Nat.reduceLeDiff, Nat.le_refl, Int.reduceEq, reduceCtorEq], by simp -dsimp only [go_sem, Nat.reduceLT, Nat.reduceEqDiff, Nat.reduceAdd, Nat.reduceMul, Nat.reduceBEq, beq_self_eq_true, Nat.reduceLeDiff, Nat.le_refl, Int.reduceEq, reduceCtorEq], by simp -dsimp only [go_sem, Nat.reduceLT, Nat.reduceEqDiff, Nat.reduceAdd, Nat.reduceMul, Nat.reduceBEq, beq_self_eq_true, Nat.reduceLeDiff, Nat.le_refl, Int.reduceEq, reduceCtorEq], v2i⟩
          · intro g19 b19 hb19
            refine xcall_p (change_p _ _ x no y0 r2i u2i hs hs2 r2i.data u2i.data) (by simp -dsimp only [go_sem, Nat.reduceLT, Nat.reduceEqDiff, Nat.reduceAdd, Nat.reduceMul, Nat.reduceBEq, beq_self_eq_true, Nat.reduceLeDiff, Nat.le_refl, Int.reduceEq, reduceCtorEq, rl_still, r2p4, u2p4]) fun v2lo v2hi v2w hv2lo hv2hi hv2w => ?_
            obtain ⟨v2, rfl, hv2⟩ := hv2w.out
            have v2o := hv2.2
            have v2i := hv2.1
            have v2p := shp_pool _ _ v2i
            have v2p1 := v2p.1
            have v2p2 := v2p.2.1
            have v2p3 := v2p.2.2.1
            have v2p4 := v2p.2.2.2
            refine ⟨tags_two v2o.tags, ?_⟩
            simp -dsimp only [go_sem, Nat.reduceLT, Nat.reduceEqDiff, Nat.reduceAdd, Nat.reduceMul, Nat.reduceBEq, beq_self_eq_true, Nat.reduceLeDiff, Nat.le_refl, Int.reduceEq, reduceCtorEq, vs1, vs3, vs5, vs8, vs9, vp1, vp2, vp3, e1, e2, e3, c1, c2, c3, xvp1, xvp2, xvp3, up1, up2, up3, yp1, yp2, yp3, m1p1, m1p2, m1p3, m2p1, m2p2, m2p3, hk, m3p1, m3p2, m3p3, hk2, r2p1, r2p2, r2p3, u2p1, u2p2, u2p3, v2p1, v2p2, v2p3]
            exact hK _ ⟨_, _, _, _, _, rfl, by omega, by simp -dsimp only [go_sem, Nat.reduceLT, Nat.reduceEqDiff, Nat.reduceAdd, Nat.reduceMul, Nat.reduceBEq, beq_self_eq_true, Nat.reduceLeDiff, Nat.le_refl, Int.reduceEq, reduceCtorEq], by simp -dsimp only [go_sem, Nat.reduceLT, Nat.reduceEqDiff, Nat.reduceAdd, Nat.reduceMul, Nat.reduceBEq, beq_self_eq_true, Nat.reduceLeDiff, Nat.le_refl, Int.reduceEq, reduceCtorEq], by simp -dsimp only [go_sem, Nat.reduceLT, Nat.reduceEqDiff, Nat.reduceAdd, Nat.reduceMul, Nat.reduceBEq, beq_self_eq_true, Nat.reduceLeDiff, Nat.le_refl, Int.reduceEq, reduceCtorEq], by simp -dsimp only [go_sem, Nat.reduceLT, Nat.reduceEqDiff, Nat.reduceAdd, Nat.reduceMul, Nat.reduceBEq, beq_self_eq_true, Nat.reduceLeDiff, Nat.le_refl, Int.reduceEq, reduceCtorEq], by simp -dsimp only [go_sem, Nat.reduceLT, Nat.reduceEqDiff, Nat.reduceAdd, Nat.reduceMul, Nat.reduceBEq, beq_self_eq_true, Nat.reduceLeDiff, Nat.le_refl, Int.reduceEq, reduceCtorEq], by simp -dsimp only [go_sem, Nat.reduceLT, Nat.reduceEqDiff, Nat.reduceAdd, Nat.reduceMul, Nat.reduceBEq, beq_self_eq_true, Nat.reduceLeDiff, Nat.le_refl, Int.reduceEq, reduceCtorEq], v2i⟩
        · intro g19 b19 hb19
          refine xcall_p (toPage_p _ _ hS hs2) (by simp -dsimp only [go_sem, Nat.reduceLT, Nat.reduceEqDiff, Nat.reduceAdd, Nat.reduceMul, Nat.reduceBEq, beq_self_eq_true, Nat.reduceLeDiff, Nat.le_refl, Int.reduceEq, reduceCtorEq, rl_still, c4]) fun u2lo u2hi u2 hu2lo hu2hi hu2 => ?_
          have u2o := hu2.2
          have u2i := hu2.1
          have u2p := shp_page _ _ u2i
          have u2p1 := u2p.1
          have u2p2 := u2p.2.1
          have u2p3 := u2p.2.2.1
          have u2p4 := u2p.2.2.2
          refine ⟨u2o.tags, ?_⟩
          simp -dsimp only [go_sem, Nat.reduceLT, Nat.reduceEqDiff, Nat.reduceAdd, Nat.reduceMul, Nat.reduceBEq, beq_self_eq_true, Nat.reduceLeDiff, Nat.le_refl, Int.reduceEq, reduceCtorEq, vs1, vs3, vs5, vs8, vs9, vp1, vp2, vp3, e1, e2, e3, c1, c2, c3, xvp1, xvp2, xvp3, up1, up2, up3, yp1, yp2, yp3, m1p1, m1p2, m1p3, m2p1, m2p2, m2p3, hk, m3p1, m3p2, m3p3, hk2, r2p1, r2p2, r2p3, u2p1, u2p2, u2p3]
          refine xcall_p (change_p _ _ x no y0 r2i u2i hs hs2 r2i.data u2i.data) (by simp -dsimp only [go_sem, Nat.reduceLT, Nat.reduceEqDiff, Nat.reduceAdd, Nat.reduceMul, Nat.reduceBEq, beq_self_eq_true, Nat.reduceLeDiff, Nat.le_refl, Int.reduceEq, reduceCtorEq, rl_still, r2p4, u2p4]) fun v2lo v2hi v2w hv2lo hv2hi hv2w => ?_
          obtain ⟨v2, rfl, hv2⟩ := hv2w.out
          have v2o := hv2.2
          have v2i := hv2.1
          have v2p := shp_pool _ _ v2i
          have v2p1 := v2p.1
          have v2p2 := v2p.2.1
          have v2p3 := v2p.2.2.1
          have v2p4 := v2p.2.2.2
          refine ⟨tags_two v2o.tags, ?_⟩
          simp -dsimp only [go_sem, Nat.reduceLT, Nat.reduceEqDiff, Nat.reduceAdd, Nat.reduceMul, Nat.reduceBEq, beq_self_eq_true, Nat.reduceLeDiff, Nat.le_refl, Int.reduceEq, reduceCtorEq, vs1, vs3, vs5, vs8, vs9, vp1, vp2, vp3, e1, e2, e3, c1, c2, c3, xvp1, xvp2, xvp3, up1, up2, up3, yp1, yp2, yp3, m1p1, m1p2, m1p3, m2p1, m2p2, m2p3, hk, m3p1, m3p2, m3p3, hk2, r2p1, r2p2, r2p3, u2p1, u2p2, u2p3, v2p1, v2p2, v2p3]
          exact hK _ ⟨_, _, _, _, _, rfl, by omega, by simp -dsimp only [go_sem, Nat.reduceLT, Nat.reduceEqDiff, Nat.reduceAdd, Nat.reduceMul, Nat.reduceBEq, beq_self_eq_true, Nat.reduceLeDiff, Nat.le_refl, Int.reduceEq, reduceCtorEq], by simp -dsimp only [go_sem, Nat.reduceLT, Nat.reduceEqDiff, Nat.reduceAdd, Nat.reduceMul, Nat.reduceBEq, beq_self_eq_true, Nat.reduceLeDiff, Nat.le_refl, Int.reduceEq, reduceCtorEq], by simp -dsimp only [go_sem, Nat.reduceLT, Nat.reduceEqDiff, Nat.reduceAdd, Nat.reduceMul, Nat.reduceBEq, beq_self_eq_true, Nat.reduceLeDiff, Nat.le_refl, Int.reduceEq, reduceCtorEq], by simp -dsimp only [go_sem, Nat.reduceLT, Nat.reduceEqDiff, Nat.reduceAdd, Nat.reduceMul, Nat.reduceBEq, beq_self_eq_true, Nat.reduceLeDiff, Nat.le_refl, Int.reduceEq, reduceCtorEq], by simp -dsimp only [go_sem, Nat.reduceLT, Nat.reduceEqDiff, Nat.reduceAdd, Nat.reduceMul, Nat.reduceBEq, beq_self_eq_true, Nat.reduceLeDiff, Nat.le_refl, Int.reduceEq, reduceCtorEq], by simp -dsimp only [go_sem, Nat.reduceLT, Nat.reduceEqDiff, Nat.reduceAdd, Nat.reduceMul, Nat.reduceBEq, beq_self_eq_true, Nat.reduceLeDiff, Nat.le_refl, Int.reduceEq, reduceCtorEq], v2i⟩
      · intro g19 b19 hb19
        refine xcall_p (toPool_p _ _ h hs) (by simp -dsimp only [go_sem, Nat.reduceLT, Nat.reduceEqDiff, Nat.reduceAdd, Nat.reduceMul, Nat.reduceBEq, beq_self_eq_true, Nat.reduceLeDiff, Nat.le_refl, Int.reduceEq, reduceCtorEq, rl_still, e4]) fun r2lo r2hi r2 hr2lo hr2hi hr2 => ?_
        have r2o := hr2.2
        have r2i := hr2.1
        have r2p := shp_pool _ _ r2i
        have r2p1 := r2p.1
        have r2p2 := r2p.2.1
        have r2p3 := r2p.2.2.1
        have r2p4 := r2p.2.2.2
        refine ⟨r2o.tags, ?_⟩
        simp -dsimp only [go_sem, Nat.reduceLT, Nat.reduceEqDiff, Nat.reduceAdd, Nat.reduceMul, Nat.reduceBEq, beq_self_eq_true, Nat.reduceLeDiff, Nat.le_refl, Int.reduceEq, reduceCtorEq, vs1, vs3, vs5, vs8, vs9, vp1, vp2, vp3, e1, e2, e3, c1, c2, c3, xvp1, xvp2, xvp3, up1, up2, up3, yp1, yp2, yp3, m1p1, m1p2, m1p3, m2p1, m2p2, m2p3, hk, m3p1, m3p2, m3p3, hk2, r2p1, r2p2, r2p3]
        refine xcall_p (toPage_p _ _ hS hs2) (by simp -dsimp only [go_sem, Nat.reduceLT, Nat.reduceEqDiff, Nat.reduceAdd, Nat.reduceMul, Nat.reduceBEq, beq_self_eq_true, Nat.reduceLeDiff, Nat.le_refl, Int.reduceEq, reduceCtorEq, rl_still, c4]) fun u2lo u2hi u2 hu2lo hu2hi hu2 => ?_
        have u2o := hu2.2
        have u2i := hu2.1
        have u2p := shp_page _ _ u2i
        have u2p1 := u2p.1
        have u2p2 := u2p.2.1
        have u2p3 := u2p.2.2.1
        have u2p4 := u2p.2.2.2
        refine ⟨u2o.tags, ?_⟩
        simp -dsimp only [go_sem, Nat.reduceLT, Nat.reduceEqDiff, Nat.reduceAdd, Nat.reduceMul, Nat.reduceBEq, beq_self_eq_true, Nat.reduceLeDiff, Nat.le_refl, Int.reduceEq, reduceCtorEq, vs1, vs3, vs5, vs8, vs9, vp1, vp2, vp3, e1, e2, e3, c1, c2, c3, xvp1, xvp2, xvp3, up1, up2, up3, yp1, yp2, yp3, m1p1, m1p2, m1p3, m2p1, m2p2, m2p3, hk, m3p1, m3p2, m3p3, hk2, r2p1, r2p2, r2p3, u2p1, u2p2, u2p3]
        refine xcall_p (change_p _ _ x no y0 r2i u2i hs hs2 r2i.data u2i.data) (by simp -dsimp only [go_sem, Nat.reduceLT, Nat.reduceEqDiff, Nat.reduceAdd, Nat.reduceMul, Nat.reduceBEq, beq_self_eq_true, Nat.reduceLeDiff, Nat.le_refl, Int.reduceEq, reduceCtorEq, rl_still, r2p4, u2p4]) fun v2lo v2hi v2w hv2lo hv2hi hv2w => ?_
        obtain ⟨v2, rfl, hv2⟩ := hv2w.out
        have v2o := hv2.2
        have v2i := hv2.1
        have v2p := shp_pool _ _ v2i
        have v2p1 := v2p.1
        have v2p2 := v2p.2.1
        have v2p3 := v2p.2.2.1
        have v2p4 := v2p.2.2.2
        refine ⟨tags_two v2o.tags, ?_⟩
        simp -dsimp only [go_sem, Nat.reduceLT, Nat.reduceEqDiff, Nat.reduceAdd, Nat.reduceMul, Nat.reduceBEq, beq_self_eq_true, Nat.reduceLeDiff, Nat.le_refl, Int.reduceEq, reduceCtorEq, vs1, vs3, vs5, vs8, vs9, vp1, vp2, vp3, e1, e2, e3, c1, c2, c3, xvp1, xvp2, xvp3, up1, up2, up3, yp1, yp2, yp3, m1p1, m1p2, m1p3, m2p1, m2p2, m2p3, hk, m3p1, m3p2, m3p3, hk2, r2p1, r2p2, r2p3, u2p1, u2p2, u2p3, v2p1, v2p2, v2p3]
        exact hK _ ⟨_, _, _, _, _, rfl, by omega, by simp -dsimp only [go_sem, Nat.reduceLT, Nat.reduceEqDiff, Nat.reduceAdd, Nat.reduceMul, Nat.reduceBEq, beq_self_eq_true, Nat.reduceLeDiff, Nat.le_refl, Int.reduceEq, reduceCtorEq], by simp -dsimp only [go_sem, Nat.reduceLT, Nat.reduceEqDiff, Nat.reduceAdd, Nat.reduceMul, Nat.reduceBEq, beq_self_eq_true, Nat.reduceLeDiff, Nat.le_refl, Int.reduceEq, reduceCtorEq], by simp -dsimp only [go_sem, Nat.reduceLT, Nat.reduceEqDiff, Nat.reduceAdd, Nat.reduceMul, Nat.reduceBEq, beq_self_eq_true, Nat.reduceLeDiff, Nat.le_refl, Int.reduceEq, reduceCtorEq], by simp -dsimp only [go_sem, Nat.reduceLT, Nat.reduceEqDiff, Nat.reduceAdd, Nat.reduceMul, Nat.reduceBEq, beq_self_eq_true, Nat.reduceLeDiff, Nat.le_refl, Int.reduceEq, reduceCtorEq], by simp -dsimp only [go_sem, Nat.reduceLT, Nat.reduceEqDiff, Nat.reduceAdd, Nat.reduceMul, Nat.reduceBEq, beq_self_eq_true, Nat.reduceLeDiff, Nat.le_refl, Int.reduceEq, reduceCtorEq], by simp -dsimp only [go_sem, Nat.reduceLT, Nat.reduceEqDiff, Nat.reduceAdd, Nat.reduceMul, Nat.reduceBEq, beq_self_eq_true, Nat.reduceLeDiff, Nat.le_refl, Int.reduceEq, reduceCtorEq], v2i⟩
  · intro K hK
    simp -dsimp only [go_sem, Nat.reduceLT, Nat.reduceEqDiff, Nat.reduceAdd, Nat.reduceMul, Nat.reduceBEq, beq_self_eq_true, Nat.reduceLeDiff, Nat.le_refl, Int.reduceEq, reduceCtorEq, e1, e2, e3, c1, c2, c3]
    refine ⟨?_, ?_⟩
    · refine xcall_p (toPool_p _ _ h hs) (by simp -dsimp only [go_sem, Nat.reduceLT, Nat.reduceEqDiff, Nat.reduceAdd, Nat.reduceMul, Nat.reduceBEq, beq_self_eq_true, Nat.reduceLeDiff, Nat.le_refl, Int.reduceEq, reduceCtorEq, rl_still, e4]) fun rlo rhi r hrlo hrhi hr => ?_
      have ro := hr.2
      have ri := hr.1
      have rp := shp_pool _ _ ri
      have rp1 := rp.1
      have rp2 := rp.2.1
      have rp3 := rp.2.2.1
      have rp4 := rp.2.2.2
      refine ⟨ro.tags, ?_⟩
      simp -dsimp only [go_sem, Nat.reduceLT, Nat.reduceEqDiff, Nat.reduceAdd, Nat.reduceMul, Nat.reduceBEq, beq_self_eq_true, Nat.reduceLeDiff, Nat.le_refl, Int.reduceEq, reduceCtorEq, e1, e2, e3, c1, c2, c3, rp1, rp2, rp3]
      refine ⟨?_, ?_⟩
      · refine xcall_p (toPage_p _ _ hS hs2) (by simp -dsimp only [go_sem, Nat.reduceLT, Nat.reduceEqDiff, Nat.reduceAdd, Nat.reduceMul, Nat.reduceBEq, beq_self_eq_true, Nat.reduceLeDiff, Nat.le_refl, Int.reduceEq, reduceCtorEq, rl_still, c4]) fun ulo uhi u hulo huhi hu => ?_
        have uo := hu.2
        have ui := hu.1
        have up := shp_page _ _ ui
        have up1 := up.1
        have up2 := up.2.1
        have up3 := up.2.2.1
        have up4 := up.2.2.2
        refine ⟨uo.tags, ?_⟩
        simp -dsimp only [go_sem, Nat.reduceLT, Nat.reduceEqDiff, Nat.reduceAdd, Nat.reduceMul, Nat.reduceBEq, beq_self_eq_true, Nat.reduceLeDiff, Nat.le_refl, Int.reduceEq, reduceCtorEq, e1, e2, e3, c1, c2, c3, rp1, rp2, rp3, up1, up2, up3]
        refine ⟨?_, ?_⟩
        · refine xcall_p (specChange_p _ _ x no y0 ri ui hs hs2 ri.data ui.data) (by simp -dsimp only [go_sem, Nat.reduceLT, Nat.reduceEqDiff, Nat.reduceAdd, Nat.reduceMul, Nat.reduceBEq, beq_self_eq_true, Nat.reduceLeDiff, Nat.le_refl, Int.reduceEq, reduceCtorEq, rl_still, rp4, up4]) fun vlo vhi vw hvlo hvhi hvw => ?_
          obtain ⟨v, rfl, hv⟩ := hvw.out
          have vo := hv.2
          have vi := hv.1
          have vp := shp_pool _ _ vi
          have vp1 := vp.1
          have vp2 := vp.2.1
          have vp3 := vp.2.2.1
          have vp4 := vp.2.2.2
          refine ⟨tags_two vo.tags, ?_⟩
          simp -dsimp only [go_sem, Nat.reduceLT, Nat.reduceEqDiff, Nat.reduceAdd, Nat.reduceMul, Nat.reduceBEq, beq_self_eq_true, Nat.reduceLeDiff, Nat.le_refl, Int.reduceEq, reduceCtorEq, e1, e2, e3, c1, c2, c3, rp1, rp2, rp3, up1, up2, up3, vp1, vp2, vp3]
          intro g b hb
          exact hK _ ⟨_, _, _, _, _, rfl, by omega, by simp -dsimp only [go_sem, Nat.reduceLT, Nat.reduceEqDiff, Nat.reduceAdd, Nat.reduceMul, Nat.reduceBEq, beq_self_eq_true, Nat.reduceLeDiff, Nat.le_refl, Int.reduceEq, reduceCtorEq], by simp -dsimp only [go_sem, Nat.reduceLT, Nat.reduceEqDiff, Nat.reduceAdd, Nat.reduceMul, Nat.reduceBEq, beq_self_eq_true, Nat.reduceLeDiff, Nat.le_refl, Int.reduceEq, reduceCtorEq], by simp -dsimp only [go_sem, Nat.reduceLT, Nat.reduceEqDiff, Nat.reduceAdd, Nat.reduceMul, Nat.reduceBEq, beq_self_eq_true, Nat.reduceLeDiff, Nat.le_refl, Int.reduceEq, reduceCtorEq], by simp -dsimp only [go_sem, Nat.reduceLT, Nat.reduceEqDiff, Nat.reduceAdd, Nat.reduceMul, Nat.reduceBEq, beq_self_eq_true, Nat.reduceLeDiff, Nat.le_refl, Int.reduceEq, reduceCtorEq], by simp -dsimp only [go_sem, Nat.reduceLT, Nat.reduceEqDiff, Nat.reduceAdd, Nat.reduceMul, Nat.reduceBEq, beq_self_eq_true, Nat.reduceLeDiff, Nat.le_refl, Int.reduceEq, reduceCtorEq], vi, vo.mono (by omega) (by omega)⟩
        · intro g b hb
          refine xcall_p (specChange_p _ _ x no y0 ri ui hs hs2 ri.data ui.data) (by simp -dsimp only [go_sem, Nat.reduceLT, Nat.reduceEqDiff, Nat.reduceAdd, Nat.reduceMul, Nat.reduceBEq, beq_self_eq_true, Nat.reduceLeDiff, Nat.le_refl, Int.reduceEq, reduceCtorEq, rl_still, rp4, up4]) fun vlo vhi vw hvlo hvhi hvw => ?_
          obtain ⟨v, rfl, hv⟩ := hvw.out
          have vo := hv.2
          have vi := hv.1
          have vp := shp_pool _ _ vi
          have vp1 := vp.1
          have vp2 := vp.2.1
          have vp3 := vp.2.2.1
          have vp4 := vp.2.2.2
          refine ⟨tags_two vo.tags, ?_⟩
          simp -dsimp only [go_sem, Nat.reduceLT, Nat.reduceEqDiff, Nat.reduceAdd, Nat.reduceMul, Nat.reduceBEq, beq_self_eq_true, Nat.reduceLeDiff, Nat.le_refl, Int.reduceEq, reduceCtorEq, e1, e2, e3, c1, c2, c3, rp1, rp2, rp3, up1, up2, up3, vp1, vp2, vp3]
          exact hK _ ⟨_, _, _, _, _, rfl, by omega, by simp -dsimp only [go_sem, Nat.reduceLT, Nat.reduceEqDiff, Nat.reduceAdd, Nat.reduceMul, Nat.reduceBEq, beq_self_eq_true, Nat.reduceLeDiff, Nat.le_refl, Int.reduceEq, reduceCtorEq], by simp -dsimp only [go_sem, Nat.reduceLT, Nat.reduceEqDiff, Nat.reduceAdd, Nat.reduceMul, Nat.reduceBEq, beq_self_eq_true, Nat.reduceLeDiff, Nat.le_refl, Int.reduceEq, reduceCtorEq], by simp -dsimp only [go_sem, Nat.reduceLT, Nat.reduceEqDiff, Nat.reduceAdd, Nat.reduceMul, Nat.reduceBEq, beq_self_eq_true, Nat.reduceLeDiff, Nat.le_refl, Int.reduceEq, reduceCtorEq], by simp -dsimp only [go_sem, Nat.reduceLT, Nat.reduceEqDiff, Nat.reduceAdd, Nat.reduceMul, Nat.reduceBEq, beq_self_eq_true, Nat.reduceLeDiff, Nat.le_refl, Int.reduceEq, reduceCtorEq], by simp -dsimp only [go_sem, Nat.reduceLT, Nat.reduceEqDiff, Nat.reduceAdd, Nat.reduceMul, Nat.reduceBEq, beq_self_eq_true, Nat.reduceLeDiff, Nat.le_refl, Int.reduceEq, reduceCtorEq], vi, vo.mono (by omega) (by omega)⟩
      · intro g b hb
        refine xcall_p (toPage_p _ _ hS hs2) (by simp -dsimp only [go_sem, Nat.reduceLT, Nat.reduceEqDiff, Nat.reduceAdd, Nat.reduceMul, Nat.reduceBEq, beq_self_eq_true, Nat.reduceLeDiff, Nat.le_refl, Int.reduceEq, reduceCtorEq, rl_still, c4]) fun ulo uhi u hulo huhi hu => ?_
        have uo := hu.2
        have ui := hu.1
        have up := shp_page _ _ ui
        have up1 := up.1
        have up2 := up.2.1
        have up3 := up.2.2.1
        have up4 := up.2.2.2
        refine ⟨uo.tags, ?_⟩
        simp -dsimp only [go_sem, Nat.reduceLT, Nat.reduceEqDiff, Nat.reduceAdd, Nat.reduceMul, Nat.reduceBEq, beq_self_eq_true, Nat.reduceLeDiff, Nat.le_refl, Int.reduceEq, reduceCtorEq, e1, e2, e3, c1, c2, c3, rp1, rp2, rp3, up1, up2, up3]
        refine xcall_p (specChange_p _ _ x no y0 ri ui hs hs2 ri.data ui.data) (by simp -dsimp only [go_sem, Nat.reduceLT, Nat.reduceEqDiff, Nat.reduceAdd, Nat.reduceMul, Nat.reduceBEq, beq_self_eq_true, Nat.reduceLeDiff, Nat.le_refl, Int.reduceEq, reduceCtorEq, rl_still, rp4, up4]) fun vlo vhi vw hvlo hvhi hvw => ?_
        obtain ⟨v, rfl, hv⟩ := hvw.out
        have vo := hv.2
        have vi := hv.1
        have vp := shp_pool _ _ vi
        have vp1 := vp.1
        have vp2 := vp.2.1
        have vp3 := vp.2.2.1
        have vp4 := vp.2.2.2
        refine ⟨tags_two vo.tags, ?_⟩
        simp -dsimp only [go_sem, Nat.reduceLT, Nat.reduceEqDiff, Nat.reduceAdd, Nat.reduceMul, Nat.reduceBEq, beq_self_eq_true, Nat.reduceLeDiff, Nat.le_refl, Int.reduceEq, reduceCtorEq, e1, e2, e3, c1, c2, c3, rp1, rp2, rp3, up1, up2, up3, vp1, vp2, vp3]
        exact hK _ ⟨_, _, _, _, _, rfl, by omega, by simp -dsimp only [go_sem, Nat.reduceLT, Nat.reduceEqDiff, Nat.reduceAdd, Nat.reduceMul, Nat.reduceBEq, beq_self_eq_true, Nat.reduceLeDiff, Nat.le_refl, Int.reduceEq, reduceCtorEq], by simp -dsimp only [go_sem, Nat.reduceLT, Nat.reduceEqDiff, Nat.reduceAdd, Nat.reduceMul, Nat.reduceBEq, beq_self_eq_true, Nat.reduceLeDiff, Nat.le_refl, Int.reduceEq, reduceCtorEq], by simp -dsimp only [go_sem, Nat.reduceLT, Nat.reduceEqDiff, Nat.reduceAdd, Nat.reduceMul, Nat.reduceBEq, beq_self_eq_true, Nat.reduceLeDiff, Nat.le_refl, Int.reduceEq, reduceCtorEq], by simp -dsimp only [go_sem, Nat.reduceLT, Nat.reduceEqDiff, Nat.reduceAdd, Nat.reduceMul, Nat.reduceBEq, beq_self_eq_true, Nat.reduceLeDiff, Nat.le_refl, Int.reduceEq, reduceCtorEq], by simp -dsimp only [go_sem, Nat.reduceLT, Nat.reduceEqDiff, Nat.reduceAdd, Nat.reduceMul, Nat.reduceBEq, beq_self_eq_true, Nat.reduceLeDiff, Nat.le_refl, Int.reduceEq, reduceCtorEq], vi, vo.mono (by omega) (by omega)⟩
    · intro g b hb
      refine xcall_p (toPool_p _ _ h hs) (by simp -dsimp only [go_sem, Nat.reduceLT, Nat.reduceEqDiff, Nat.reduceAdd, Nat.reduceMul, Nat.reduceBEq, beq_self_eq_true, Nat.reduceLeDiff, Nat.le_refl, Int.reduceEq, reduceCtorEq, rl_still, e4]) fun rlo rhi r hrlo hrhi hr => ?_
      have ro := hr.2
      have ri := hr.1
      have rp := shp_pool _ _ ri
      have rp1 := rp.1
      have rp2 := rp.2.1
      have rp3 := rp.2.2.1
      have rp4 := rp.2.2.2
      refine ⟨ro.tags, ?_⟩
      simp -dsimp only [go_sem, Nat.reduceLT, Nat.reduceEqDiff, Nat.reduceAdd, Nat.reduceMul, Nat.reduceBEq, beq_self_eq_true, Nat.reduceLeDiff, Nat.le_refl, Int.reduceEq, reduceCtorEq, e1, e2, e3, c1, c2, c3, rp1, rp2, rp3]
      refine xcall_p (toPage_p _ _ hS hs2) (by simp -dsimp only [go_sem, Nat.reduceLT, Nat.reduceEqDiff, Nat.reduceAdd, Nat.reduceMul, Nat.reduceBEq, beq_self_eq_true, Nat.reduceLeDiff, Nat.le_refl, Int.reduceEq, reduceCtorEq, rl_still, c4]) fun ulo uhi u hulo huhi hu => ?_
      have uo := hu.2
      have ui := hu.1
      have up := shp_page _ _ ui
      have up1 := up.1
      have up2 := up.2.1
      have up3 := up.2.2.1
      have up4 := up.2.2.2
      refine ⟨uo.tags, ?_⟩
      simp -dsimp only [go_sem, Nat.reduceLT, Nat.reduceEqDiff, Nat.reduceAdd, Nat.reduceMul, Nat.reduceBEq, beq_self_eq_true, Nat.reduceLeDiff, Nat.le_refl, Int.reduceEq, reduceCtorEq, e1, e2, e3, c1, c2, c3, rp1, rp2, rp3, up1, up2, up3]
      refine xcall_p (specChange_p _ _ x no y0 ri ui hs hs2 ri.data ui.data) (by simp -dsimp only [go_sem, Nat.reduceLT, Nat.reduceEqDiff, Nat.reduceAdd, Nat.reduceMul, Nat.reduceBEq, beq_self_eq_true, Nat.reduceLeDiff, Nat.le_refl, Int.reduceEq, reduceCtorEq, rl_still, rp4, up4]) fun vlo vhi vw hvlo hvhi hvw => ?_
      obtain ⟨v, rfl, hv⟩ := hvw.out
      have vo := hv.2
      have vi := hv.1
      have vp := shp_pool _ _ vi
      have vp1 := vp.1
      have vp2 := vp.2.1
      have vp3 := vp.2.2.1
      have vp4 := vp.2.2.2
      refine ⟨tags_two vo.tags, ?_⟩
      simp -dsimp only [go_sem, Nat.reduceLT, Nat.reduceEqDiff, Nat.reduceAdd, Nat.reduceMul, Nat.reduceBEq, beq_self_eq_true, Nat.reduceLeDiff, Nat.le_refl, Int.reduceEq, reduceCtorEq, e1, e2, e3, c1, c2, c3, rp1, rp2, rp3, up1, up2, up3, vp1, vp2, vp3]
      exact hK _ ⟨_, _, _, _, _, rfl, by omega, by simp -dsimp only [go_sem, Nat.reduceLT, Nat.reduceEqDiff, Nat.reduceAdd, Nat.reduceMul, Nat.reduceBEq, beq_self_eq_true, Nat.reduceLeDiff, Nat.le_refl, Int.reduceEq, reduceCtorEq], by simp -dsimp only [go_sem, Nat.reduceLT, Nat.reduceEqDiff, Nat.reduceAdd, Nat.reduceMul, Nat.reduceBEq, beq_self_eq_true, Nat.reduceLeDiff, Nat.le_refl, Int.reduceEq, reduceCtorEq], by simp -dsimp only [go_sem, Nat.reduceLT, Nat.reduceEqDiff, Nat.reduceAdd, Nat.reduceMul, Nat.reduceBEq, beq_self_eq_true, Nat.reduceLeDiff, Nat.le_refl, Int.reduceEq, reduceCtorEq], by simp -dsimp only [go_sem, Nat.reduceLT, Nat.reduceEqDiff, Nat.reduceAdd, Nat.reduceMul, Nat.reduceBEq, beq_self_eq_true, Nat.reduceLeDiff, Nat.le_refl, Int.reduceEq, reduceCtorEq], by simp -dsimp only [go_sem, Nat.reduceLT, Nat.reduceEqDiff, Nat.reduceAdd, Nat.reduceMul, Nat.reduceBEq, beq_self_eq_true, Nat.reduceLeDiff, Nat.le_refl, Int.reduceEq, reduceCtorEq], vi, vo.mono (by omega) (by omega)⟩
end Go.Proofs.Ytpepddckmddbiaa.IM
end
