/- Several of my texts in one module (merge.py). -/
import Derived.Test.YtncinhlaabdlaaaGreatB7
section
/- Contracts: Change. Printed by change.py. -/
namespace Go.Proofs.YtncinhlaabdlaaaGreat.IM
open Go Go.Proofs
set_option linter.unusedVariables false
set_option linter.unusedSimpArgs false
set_option maxHeartbeats 2000000
set_option maxRecDepth 20000

def chOk (x : Md.Pool) (no : Int) (y : Md.Page) : Bool := Md.poolOk x && (decide (0 ≤ Md.seated x no) && (Md.pageOk y && !(match x.seats[(Md.seated x no).toNat]? with | some s => decide (y.lsn < s.p.lsn) | none => true)))
def change (x : Md.Pool) (no : Int) (y : Md.Page) : Md.Pool × Bool := if chOk x no y then (⟨x.seats.modify (Md.seated x no).toNat fun _ => ⟨no, y, true, true⟩, x.hand⟩, true) else (x, false)
theorem change_no {x : Md.Pool} {no : Int} {y : Md.Page} (h : chOk x no y = false) : change x no y = (x, false) := by unfold change; rw [h]; rfl
theorem change_yes {x : Md.Pool} {no : Int} {y : Md.Page} (h : chOk x no y = true) : change x no y = (⟨x.seats.modify (Md.seated x no).toNat fun _ => ⟨no, y, true, true⟩, x.hand⟩, true) := by unfold change; rw [h]; rfl
theorem roots3 {a b c ga ba gb bb gc bc t : Nat} {A B C : D} (hA : A.plain ∧ A.free t) (hB : B.plain ∧ B.free t) (hC : C.plain ∧ C.free t) (l' g b' : Nat) (x : D) (h : (upd (upd (upd (fun _ => none) a (some (ga, ba, A))) b (some (gb, bb, B))) c (some (gc, bc, C)) : Roots) l' = some (g, b', x)) : x.plain ∧ x.free t := by
  by_cases h1 : l' = c
  · subst h1; rw [upd_same] at h; cases h; exact hC
  · rw [upd_ne _ _ h1] at h; exact roots2 hA hB _ _ _ _ h
abbrev zSeatF : Nat → D := nthD [.lit (.int .i64 0), .node (.agg [1, 16]) (nthD [.lit (.int .i64 0), .node (.arr 4 4) fun _ => .node (.agg [1, 3]) (nthD [.lit (.bool false), .node (.agg [1, 1, 1]) (nthD [.lit (.int .i64 0), .nil, .nil])])]), .lit (.bool false), .lit (.bool false)]
abbrev seatF (Z : Nat → D) (no : Int) (r : D) : D := .node (.agg [1, 17, 1, 1]) (upd (upd (upd (upd Z 0 (.lit (.int .i64 no))) 1 r) 2 (.lit (.bool true))) 3 (.lit (.bool true)))
theorem zSeatF_still : ∀ i, (zSeatF i).still := stN (by simp only [stillL_nil, stillL_cons, still_lit, still_nil, still_any, still_nodeN, still_nodeC, and_self])
theorem seat_still {Z : Nat → D} {no : Int} {r : D} {y : Md.Page} (hZ : ∀ i, (Z i).still) (h : IsPage r y) : (seatF Z no r).still := still_upd (still_upd (still_upd (still_upd hZ trivial) h.still) trivial) trivial
theorem seat_put {Z : Nat → D} {no : Int} {r : D} {y : Md.Page} (hZ : ∀ i, (Z i).still) (h : IsPage r y) : IsSeat (seatF Z no r) ⟨no, y, true, true⟩ := ⟨_, rfl, seat_still hZ h, rfl, h, rfl, rfl⟩
theorem seat_own (Z : Nat → D) {no : Int} {r : D} {a b : Nat} (h : Own a b r) (hab : a ≤ b) : Own a b (seatF Z no r) := by
  refine own_node ?_
  exact ownN_snoc_lit (ownN_snoc_lit (ownN_snoc_own (mid := a) (ownN_snoc_lit (ownN_zero a a _) rfl) h (Nat.le_refl _) (Nat.le_refl _) (Nat.le_refl _) hab) rfl) rfl
theorem own_put {lo hi a b t n sz k : Nat} {f : Nat → D} {r : D} (h : Own lo hi (.sl t true n sz f)) (hr : Own a b r) (h1 : lo ≤ a) (h2 : hi ≤ a) (h3 : hi ≤ b) : Own lo b (.sl t true n sz (upd f k r)) := by
  obtain ⟨k1, k2, k3, _, k5⟩ := h.sl
  refine own_sl (k1.repl (i := k) hr h1 h2 h3) k2 (by omega) fun i hi => ?_
  by_cases hik : i = k
  · subst hik; rw [upd_same]; intro ht; have := hr.rg _ ht; omega
  · rw [upd_ne _ _ hik]; exact k5 i hi
theorem change_p (d d2 : D) (x : Md.Pool) (no : Int) (y : Md.Page) (h : IsPool d x) (h2 : IsPage d2 y) (hs : Md.szPool x ≤ 1048576) (hs2 : Md.szPage y ≤ 1048576) (hd : d.data) (hd2 : d2.data) :
    PCall Tryz.prog 140 [d, .lit (.int .i64 no), d2] fun n0 n1 r => Two (fun r => IsPool r (change x no y).1 ∧ Own n0 n1 r) (.lit (.bool (change x no y).2)) r := by
  have hp := h
  have hp2 := h2
  have eq := shp_pool _ _ h
  have eq2 := shp_page _ _ h2
  obtain ⟨f0, rfl, hst, a0, a1⟩ := h
  obtain ⟨u0, rfl, ust, j0, ul⟩ := h2
  have k0 : f0 1 = _ := a1
  have j0 : u0 0 = _ := j0
  have e1 := eq.1
  have e2 := eq.2.1
  have e3 := eq.2.2.1
  have e4 := eq.2.2.2
  have y1 := eq2.1
  have y2 := eq2.2.1
  have y3 := eq2.2.2.1
  have y4 := eq2.2.2.2
  refine pcall_intro_t Tryz.func140 rfl (by decide) rfl (by decide) (by rw [Tryz.ntmps140]; simp) fun w0 M n0 hW hT => ivc_sound ?_; simp -dsimp only [Tryz.f140, go_sem, e1, e2, e3, y1, y2, y3, k0, j0]
  have dT : (D.node (.agg [1, 1]) f0).tags (· < n0) := hT _ (by simp) hd
  have dT2 : (D.node (.agg [1, 16]) u0).tags (· < n0) := hT _ (by simp) hd2
  intro g1 b1 hb1 g2 b2 hb2 g3 b3 hb3
  refine xcall_t (clonePool_p _ _ hp hs) (by simp -dsimp only [go_sem, rl_still, e4]) fun m0 p0 r0 hm0 hp0 hr0w => ?_
  have hr0 := hr0w.out
  have hm0' : b3 + 1 ≤ m0 := hm0
  refine ⟨hr0.2.tags, ?_⟩
  have ho := hr0.2
  obtain ⟨q, rfl, hqs, hq0, q1⟩ := hr0.1
  have q1 : q 1 = _ := q1
  rcases hq0 with ⟨q0, hnil⟩ | ⟨t, zb, f, q0, hfs, hfl, hf⟩
  · refine Conv.zero ?_
    have hsd : Md.seated x no = -1 := by unfold Md.seated; rw [hnil]; rfl
    have hneg : ((-1 : Int) < 0) := by decide
    have hch : change x no y = (x, false) := change_no (by simp [chOk, hsd])
    simp -dsimp only [go_sem, q0, q1, e1, e2, e3, y1, y2, y3, k0, j0]
    intro g b hb
    refine xcall_v (seated_p _ _ no hp) (by simp -dsimp only [go_sem, rl_still, e4]) (fun _ => trivial) fun n4 hn4 => ?_
    simp -dsimp only [go_sem, hsd, hneg, q0, q1, e1, e2, e3, y1, y2, y3, k0, j0]
    refine iwp_plan [(0, true), (1, true), (2, true), (3, true), (4, false), (5, true), (6, true), (7, true), (8, true), (9, false), (10, true), (11, true), (12, true), (13, true), (14, true), (15, true), (16, true), (17, true), (18, true), (19, true), (20, true), (21, true), (22, true), (23, true)] [3, 5] rfl (by decide +kernel) (by decide) [] (by decide +kernel) ?_
    simp -dsimp only [go_sem, hsd, hneg, q0, q1, e1, e2, e3, y1, y2, y3, k0, j0]
    intro n1 hn1 hfc
    rw [hch]
    refine .mk _ ⟨?_, ?_⟩
    · rw [rlnode_still hqs]; exact ⟨q, rfl, hqs, .inl ⟨q0, hnil⟩, q1⟩
    · rw [rlnode_still hqs]; exact ho.mono (by omega) (by omega)
  · have hoS : Own m0 p0 (.sl t zb x.seats.length 20 f) := by
      have := ho.node.own (i := 0) (by decide)
      rw [q0] at this
      exact this
    have hzb : zb = true := hoS.wh.1
    subst hzb
    have ht := hoS.rg t (by simp [D.tl])
    have hdf : (D.node (.agg [1, 1]) f0).free t := free_of_tags (m := n0) (by omega) dT
    have hdf2 : (D.node (.agg [1, 16]) u0).free t := free_of_tags (m := n0) (by omega) dT2
    refine conv_field (l := 1000) [1, 3, 5, 6, 7] (hW t (by omega)) (by simp -dsimp only [go_sem]) (own_free hoS) 0 (by decide) q0 (fun i hi hne => ?_) (fun j hj => ?_) (fun l' g b x hx => ⟨hx, roots3 ⟨e3, hdf⟩ ⟨y3, hdf2⟩ ⟨?_, ?_⟩ _ _ _ _ hx⟩) fun g => ?_
    · have : i = 1 := by have : i < 2 := hi; omega
      subst this; rw [q1]; trivial
    · simp only [List.mem_cons, List.not_mem_nil, or_false] at hj
      rcases hj with rfl | rfl | rfl | rfl | rfl
      · exact (show (D.lit (.int .i64 no)).free t from trivial)
      · exact (show (D.ptr 3 g1 0 []).free t from trivial)
      · exact (show (D.ptr 5 g2 0 []).free t from trivial)
      · exact (show (D.ptr 6 g3 0 []).free t from trivial)
      · exact (show (D.lit (.bool false)).free t from trivial)
    · simp -dsimp only [go_sem]
    · intro i hi
      have hi' : i < 2 := hi
      match i, hi' with
      | 0, _ => trivial
      | 1, _ => trivial
    · simp -dsimp only [go_sem, q0, q1, e1, e2, e3, y1, y2, y3, k0, j0]
      intro g4 b4 hb4
      refine xcall_v (seated_p _ _ no hp) (by simp -dsimp only [go_sem, rl_still, e4]) (fun _ => trivial) fun n4 hn4 => ?_
      by_cases hk : 0 ≤ Md.seated x no
      · have hlt := seated_lt hk
        have hkc : Md.seated x no < (x.seats.length : Int) := by omega
        have hnk : ¬ Md.seated x no < 0 := by omega
        obtain ⟨t0, z0, fd, hfd, _, hfd'⟩ := a0.sl hlt
        obtain ⟨fe, hfe, hfes, s0, s1, s2, s3⟩ := hfd' _ hlt
        obtain ⟨fp, hfp, hfps, l0, l1⟩ := s1
        have l0 : fp 0 = _ := l0
        simp -dsimp only [go_sem, hk, hkc, hnk, hlt, hfd, hfe, hfp, l0, q0, q1, e1, e2, e3, y1, y2, y3, k0, j0]
        refine iwp_plan [(0, true), (1, true), (2, true), (3, true), (4, false), (5, true), (6, true), (7, true), (8, true), (9, false), (10, true), (11, true), (12, true), (13, true), (14, true), (15, true), (16, true), (17, true), (18, true), (19, true), (20, true), (21, true), (22, true), (23, true)] [3, 5] rfl (by decide +kernel) (by decide) [] (by decide +kernel) ?_
        simp -dsimp only [go_sem, hk, hkc, hnk, hlt, hfd, hfe, hfp, l0, q0, q1, e1, e2, e3, y1, y2, y3, k0, j0]
        refine xcall_v (poolOk_p _ _ hp) (by simp -dsimp only [go_sem, rl_still, e4]) (fun _ => trivial) fun n5 hn5 => ?_
        rcases Bool.eq_false_or_eq_true (Md.poolOk x) with hpo | hpo
        · simp -dsimp only [go_sem, hpo, hk, hkc, hnk, hlt, hfd, hfe, hfp, l0, q0, q1, e1, e2, e3, y1, y2, y3, k0, j0]
          refine xcall_v (pageOk_p _ _ hp2) (by simp -dsimp only [go_sem, rl_still, y4]) (fun _ => trivial) fun n6 hn6 => ?_
          rcases Bool.eq_false_or_eq_true (Md.pageOk y) with hpg | hpg
          · by_cases hls : y.lsn < x.seats[(Md.seated x no).toNat].p.lsn
            · simp -dsimp only [go_sem, hls, hpg, hpo, hk, hkc, hnk, hlt, hfd, hfe, hfp, l0, q0, q1, e1, e2, e3, y1, y2, y3, k0, j0]
              have hch : change x no y = (x, false) := change_no (by simp [chOk, hk, hlt, hpo, hpg, hls])
              intro n1 hn1 hfc
              rw [hch]
              refine .mk _ ?_
              rw [rl_node]
              refine (grow_fin (n1 := n1) ?_ ?_ (gs_upd fun j => .inl (hqs j)) (.inr ⟨t, true, f, rfl, hfs, hfl, hf⟩) (hoS.mono (by omega) (by omega))).out
              · simp -dsimp only [go_sem, q0]
                rw [rls_still hfs]
              · simp -dsimp only [go_sem, q1, rl_lit]
            · simp -dsimp only [go_sem, hls, hpg, hpo, hk, hkc, hnk, hlt, hfd, hfe, hfp, l0, q0, q1, e1, e2, e3, y1, y2, y3, k0, j0]
              have hch := change_yes (x := x) (no := no) (y := y) (by simp [chOk, hk, hlt, hpo, hpg, hls])
              refine iwp_plan [(0, true), (1, true), (2, true), (3, true), (4, true), (5, false), (6, true), (7, true), (8, false)] [5, 8] rfl (by decide +kernel) (by decide) [8] (by decide +kernel) ?_
              simp -dsimp only [go_sem, hk, hkc, hnk, hlt, hfd, hfe, hfp, l0, q0, q1, e1, e2, e3, y1, y2, y3, k0, j0]
              refine xcall_p (clonePage_p _ _ hp2 hs2) (by simp -dsimp only [go_sem, rl_still, y4]) fun m1 p1 r1 hm1 hp1 hr1 => ?_
              have rq := shp_page _ _ hr1.1
              refine ⟨hr1.2.tags, ?_⟩
              have fq := shp_seat _ _ (hf _ hlt)
              simp -dsimp only [go_sem, fq.1, fq.2.1, fq.2.2.1, rq.1, rq.2.1, rq.2.2.1, hls, hpg, hpo, hk, hkc, hnk, hlt, hfd, hfe, hfp, l0, q0, q1, e1, e2, e3, y1, y2, y3, k0, j0]
              intro n1 hn1 hfc
              have hb4' : p0 ≤ b4 := hb4
              have hn4' : b4 + 1 ≤ n4 := hn4
              have hn5' : n4 ≤ n5 := hn5
              have hn6' : n5 ≤ n6 := hn6
              have hm1' : n6 ≤ m1 := hm1
              have hn1' : p1 ≤ n1 := hn1
              have oS := seat_own (no := no) zSeatF hr1.2 hp1
              have fst := seat_still (no := no) zSeatF_still hr1.1
              have fr := seat_put (no := no) zSeatF_still hr1.1
              rw [hch]
              refine .mk _ ?_
              rw [rl_node]
              refine (grow_fin (n1 := n1) ?_ ?_ (gs_upd fun j => .inl (hqs j)) (isL_mod (u := fun _ => ⟨no, y, true, true⟩) hfs hfl hf hlt fr fst) ((own_put hoS oS (by omega) (by omega) (by omega)).mono (by omega) (by omega))).out
              · simp -dsimp only [go_sem, q0]
                rw [rls_still (still_upd hfs fst)]
              · simp -dsimp only [go_sem, q1, rl_lit]
          · simp -dsimp only [go_sem, hpg, hpo, hk, hkc, hnk, hlt, hfd, hfe, hfp, l0, q0, q1, e1, e2, e3, y1, y2, y3, k0, j0]
            have hch : change x no y = (x, false) := change_no (by simp [chOk, hk, hlt, hpo, hpg])
            intro n1 hn1 hfc
            rw [hch]
            refine .mk _ ?_
            rw [rl_node]
            refine (grow_fin (n1 := n1) ?_ ?_ (gs_upd fun j => .inl (hqs j)) (.inr ⟨t, true, f, rfl, hfs, hfl, hf⟩) (hoS.mono (by omega) (by omega))).out
            · simp -dsimp only [go_sem, q0]
              rw [rls_still hfs]
            · simp -dsimp only [go_sem, q1, rl_lit]
        · simp -dsimp only [go_sem, hpo, hk, hkc, hnk, hlt, hfd, hfe, hfp, l0, q0, q1, e1, e2, e3, y1, y2, y3, k0, j0]
          have hch : change x no y = (x, false) := change_no (by simp [chOk, hk, hpo])
          intro n1 hn1 hfc
          rw [hch]
          refine .mk _ ?_
          rw [rl_node]
          refine (grow_fin (n1 := n1) ?_ ?_ (gs_upd fun j => .inl (hqs j)) (.inr ⟨t, true, f, rfl, hfs, hfl, hf⟩) (hoS.mono (by omega) (by omega))).out
          · simp -dsimp only [go_sem, q0]
            rw [rls_still hfs]
          · simp -dsimp only [go_sem, q1, rl_lit]
      · have hnk : Md.seated x no < 0 := by omega
        have hch : change x no y = (x, false) := change_no (by simp [chOk, hk])
        simp -dsimp only [go_sem, hk, hnk, q0, q1, e1, e2, e3, y1, y2, y3, k0, j0]
        refine iwp_plan [(0, true), (1, true), (2, true), (3, true), (4, false), (5, true), (6, true), (7, true), (8, true), (9, false), (10, true), (11, true), (12, true), (13, true), (14, true), (15, true), (16, true), (17, true), (18, true), (19, true), (20, true), (21, true), (22, true), (23, true)] [3, 5] rfl (by decide +kernel) (by decide) [] (by decide +kernel) ?_
        simp -dsimp only [go_sem, hk, hnk, q0, q1, e1, e2, e3, y1, y2, y3, k0, j0]
        intro n1 hn1 hfc
        rw [hch]
        refine .mk _ ?_
        rw [rl_node]
        refine (grow_fin (n1 := n1) ?_ ?_ (gs_upd fun j => .inl (hqs j)) (.inr ⟨t, true, f, rfl, hfs, hfl, hf⟩) (hoS.mono (by omega) (by omega))).out
        · simp -dsimp only [go_sem, q0]
          rw [rls_still hfs]
        · simp -dsimp only [go_sem, q1, rl_lit]
end Go.Proofs.YtncinhlaabdlaaaGreat.IM
end
