/- Several of my texts in one module (merge.py). -/
import Derived.Test.YtpepddckmddbiaaB13
section
/- Contracts: Append. Printed by append.py. -/
namespace Go.Proofs.Ytpepddckmddbiaa.IM
open Go Go.Proofs
set_option linter.unusedVariables false
set_option linter.unusedSimpArgs false
set_option maxHeartbeats 2000000
set_option maxRecDepth 20000

def appOk (x : Md.Log) (r : Md.Rec) : Bool := Md.logOk x && (decide ((x.recs.length : Int) < 4000) && Md.recOk { r with lsn := (x.recs.length : Int) + 1 })
def appendL (x : Md.Log) (r : Md.Rec) : Md.Log × Int := if appOk x r then (⟨x.recs ++ [{ r with lsn := (x.recs.length : Int) + 1 }], x.sure⟩, (x.recs.length : Int) + 1) else (x, 0)
theorem append_no {x : Md.Log} {r : Md.Rec} (h : appOk x r = false) : appendL x r = (x, 0) := by unfold appendL; rw [h]; rfl
theorem append_yes {x : Md.Log} {r : Md.Rec} (h : appOk x r = true) : appendL x r = (⟨x.recs ++ [{ r with lsn := (x.recs.length : Int) + 1 }], x.sure⟩, (x.recs.length : Int) + 1) := by unfold appendL; rw [h]; rfl
theorem rec_lsn {q : Nat → D} {r : Md.Rec} {n : Int} (h : IsRec (.node (.agg [1, 1, 1, 1, 1, 4, 4, 1, 1]) q) r) : IsRec (.node (.agg [1, 1, 1, 1, 1, 4, 4, 1, 1]) (upd q 0 (.lit (.int .i64 n)))) { r with lsn := n } := by
  obtain ⟨f, e, hst, h0, h1, h2, h3, h4, h5, h6, h7, h8⟩ := h
  cases e
  exact ⟨_, rfl, still_upd hst trivial, rfl, h1, h2, h3, h4, h5, h6, h7, h8⟩
theorem rec_lsn_own {q : Nat → D} {r : Md.Rec} {n : Int} {lo hi : Nat} (h : IsRec (.node (.agg [1, 1, 1, 1, 1, 4, 4, 1, 1]) q) r) (ho : Own lo hi (.node (.agg [1, 1, 1, 1, 1, 4, 4, 1, 1]) q)) : Own lo hi (.node (.agg [1, 1, 1, 1, 1, 4, 4, 1, 1]) (upd q 0 (.lit (.int .i64 n)))) := by
  obtain ⟨f, e, hst, h0, _⟩ := h
  cases e
  have h0 : q 0 = _ := h0
  exact ((Same.refl ho.wh hst).lit (by rw [h0]; rfl)).own ho
theorem fill_own {xs : List Md.Rec} {r : Md.Rec} {f : Nat → D} {lo hi t : Nat} (hst : ∀ i, (f i).still) (hf : ∀ i (h : i < xs.length), IsRec (f i) xs[i]) (ho : Own lo hi (.sl t true xs.length 15 f)) : Fill IsRec 15 lo hi (xs ++ [r]) xs.length xs.length f :=
  ⟨hst, fun j hj => by have q := shp_rec _ _ (hf j hj); exact ⟨q.2.2.1, q.1⟩, fun j hj hji => by rw [List.getElem_append_left hji]; exact hf j hji, ho.sl.1⟩
theorem Fill.isL' {α : Type} {R : D → α → Prop} {sz lo hi n1 b n : Nat} {xs : List α} {f : Nat → D} (h : Fill R sz lo hi xs n n f) (hn : xs.length = n) (hs : n ≤ 4194304) (h1 : lo ≤ b) (h2 : b < n1) (h3 : hi ≤ n1) (hb : b ∉ (D.node (.arr n sz) f).tl) :
    IsL sz R (.sl b true n sz f) xs ∧ Own lo n1 (.sl b true n sz f) ∧ ∀ j, (f j).still := by
  subst hn
  have := h.isL (Nat.lt_irrefl _) hs h1 h2 h3 hb
  exact ⟨this.1, this.2, h.st⟩
theorem app_get {xs : List Md.Rec} {r : Md.Rec} (h : xs.length < (xs ++ [r]).length) : (xs ++ [r])[xs.length] = r := by simp
theorem append_p (d dr : D) (x : Md.Log) (r : Md.Rec) (h : IsLog d x) (hr : IsRec dr r) (hs : Md.szLog x ≤ 1048576) (hs2 : Md.szRec r ≤ 1048576) (hd : d.data) (hd2 : dr.data) :
    PCall Try.prog 134 [d, dr] fun n0 n1 z => Two (fun z => IsLog z (appendL x r).1 ∧ Own n0 n1 z) (.lit (.int .i64 (appendL x r).2)) z := by
  have hp := h
  have hp2 := hr
  have eq := shp_log _ _ h
  have eq2 := shp_rec _ _ hr
  obtain ⟨f0, rfl, hst, a0, a1⟩ := h
  have k1 : f0 1 = _ := a1
  have e1 := eq.1
  have e2 := eq.2.1
  have e3 := eq.2.2.1
  have e4 := eq.2.2.2
  have y1 := eq2.1
  have y2 := eq2.2.1
  have y3 := eq2.2.2.1
  have y4 := eq2.2.2.2
  have hsl : x.recs.length ≤ 1048576 := by unfold Md.szLog Md.szRecs at hs; omega
  refine pcall_intro_t Try.func134 rfl (by decide) rfl (by decide) (by rw [Try.ntmps134]; simp) fun w0 M n0 hW hT => ivc_sound ?_; simp -dsimp only [Try.f134, go_sem, k1, a0.size, a0.isNode, a0.plain, a0.lenT, e1, e2, e3, y1, y2, y3]
  have dT : (D.node (.agg [1, 1]) f0).tags (· < n0) := hT _ (by simp) hd
  have dT2 : dr.tags (· < n0) := hT dr (by simp) hd2
  intro g1 b1 hb1 g2 b2 hb2 g3 b3 hb3
  refine xcall_t (cloneLog_p _ _ hp hs) (by simp -dsimp only [go_sem, rl_still, e4]) fun m0 p0 r0 hm0 hp0 hr0w => ?_
  have hr0 := hr0w.out
  have hm0' : b3 + 1 ≤ m0 := hm0
  refine ⟨hr0.2.tags, ?_⟩
  have ho := hr0.2
  have hrl := hr0.1
  obtain ⟨q, rfl, hqs, hq0, q1⟩ := hr0.1
  have q1 : q 1 = _ := q1
  have w1 : IntKind.i64.wrap ((x.recs.length : Int) + 1) = (x.recs.length : Int) + 1 := w64 (by omega) (by omega)
  rcases hq0 with ⟨q0, hnil⟩ | ⟨t, zb, f, q0, hfs, hfl, hf⟩
  · refine Conv.zero ?_
    simp -dsimp only [go_sem, q0, q1, w1, k1, a0.size, a0.isNode, a0.plain, a0.lenT, e1, e2, e3, y1, y2, y3]
    intro g4 b4 hb4
    refine xcall_p (cloneRec_p _ _ hp2 hs2) (by simp -dsimp only [go_sem, rl_still, y4]) fun m1 p1 r1 hm1 hp1 hr1 => ?_
    refine ⟨hr1.2.tags, ?_⟩
    have hr1i := hr1.1
    have hr1o := hr1.2
    obtain ⟨rq, rfl, rqs, j0, _⟩ := hr1i
    have j0 : rq 0 = _ := j0
    have hm1' : b4 + 1 ≤ m1 := hm1
    have z0 := shp_rec _ _ hr1.1
    have hR := rec_lsn (n := (x.recs.length : Int) + 1) hr1.1
    have hO := rec_lsn_own (n := (x.recs.length : Int) + 1) hr1.1 hr1.2
    have zq := shp_rec _ _ hR
    simp -dsimp only [go_sem, q0, q1, w1, k1, a0.size, a0.isNode, a0.plain, a0.lenT, e1, e2, e3, y1, y2, y3, j0, z0.1, z0.2.1, z0.2.2.1, zq.1, zq.2.1, zq.2.2.1]
    have hb5' : p1 ≤ p1 := Nat.le_refl _
    refine xcall_v (logOk_p _ _ hp) (by simp -dsimp only [go_sem, rl_still, e4]) (fun _ => trivial) fun n4 hn4 => ?_
    have hn4' : p1 ≤ n4 := hn4
    rcases Bool.eq_false_or_eq_true (Md.logOk x) with hok | hok
    · have hlen : (x.recs.length : Int) < 4000 := by rw [hnil]; decide
      have hge : ¬ (4000 : Int) ≤ x.recs.length := by omega
      have hne : ((x.recs.length : Int) == 4000) = false := beq_eq_false_iff_ne.2 (by omega)
      simp -dsimp only [go_sem, hok, hlen, hge, hne, q0, q1, w1, k1, a0.size, a0.isNode, a0.plain, a0.lenT, e1, e2, e3, y1, y2, y3, j0, z0.1, z0.2.1, z0.2.2.1, zq.1, zq.2.1, zq.2.2.1]
      refine xcall_v (recOk_p _ _ hR) (by simp -dsimp only [go_sem, rl_still, zq.2.2.2, q0, q1, w1, k1, a0.size, a0.isNode, a0.plain, a0.lenT, e1, e2, e3, y1, y2, y3, j0, z0.1, z0.2.1, z0.2.2.1, zq.1, zq.2.1, zq.2.2.1]) (fun _ => trivial) fun n5 hn5 => ?_
      have hn5' : n4 ≤ n5 := hn5
      rcases Bool.eq_false_or_eq_true (Md.recOk { r with lsn := (x.recs.length : Int) + 1 }) with hro | hro
      · simp -dsimp only [go_sem, hok, hlen, hge, hne, hro, q0, q1, w1, k1, a0.size, a0.isNode, a0.plain, a0.lenT, e1, e2, e3, y1, y2, y3, j0, z0.1, z0.2.1, z0.2.2.1, zq.1, zq.2.1, zq.2.2.1]
        have hyes := append_yes (x := x) (r := r) (by simp [appOk, hok, hlen, hro])
        intro g6 b6 hb6
        have hb6' : n5 ≤ b6 := hb6
        refine ⟨fun y h => h.symm, fun g7 b7 n' hn' hb7 hb8 => ?_⟩
        refine iwp_plan [(0, true), (1, true), (2, true), (3, false), (4, true)] [3, 6] rfl (by decide +kernel) (by decide) [] (by decide +kernel) ?_
        simp -dsimp only [go_sem, hok, hlen, hge, hne, hro, q0, q1, w1, k1, a0.size, a0.isNode, a0.plain, a0.lenT, e1, e2, e3, y1, y2, y3, j0, z0.1, z0.2.1, z0.2.2.1, zq.1, zq.2.1, zq.2.2.1]
        intro n1 hn1 hfc
        have hn1' : n' ≤ n1 := hn1
        rw [hyes]
        refine .mk _ ?_
        rw [rl_node]
        have hLO := Fill.isL' (lo := m1) (hi := p1) (n1 := n1) (xs := x.recs ++ [{ r with lsn := (x.recs.length : Int) + 1 }]) (Fill.one (fun _ => by simp only [stillL_nil, stillL_cons, still_lit, still_nil, still_any, still_nodeN, still_nodeC, and_self]) shp_rec (by simp) (by simpa [hnil] using hR) hO (Nat.le_refl _) (Nat.le_refl _) (by omega)) (by simp [hnil]) (by omega) (by omega) hfc.here.1 (by omega) hfc.here.2
        refine (grow_finL (x := ⟨x.recs ++ [{ r with lsn := (x.recs.length : Int) + 1 }], x.sure⟩) (n0 := n0) (n1 := n1) ?_ ?_ (gs_upd fun j => .inl (hqs j)) hLO.1 (hLO.2.1.mono (by omega) (by omega))).out
        · simp -dsimp only [go_sem, q0]
          rw [rls_still hLO.2.2]
        · simp -dsimp only [go_sem, q1, rl_lit]
      · simp -dsimp only [go_sem, hok, hlen, hge, hne, hro, q0, q1, w1, k1, a0.size, a0.isNode, a0.plain, a0.lenT, e1, e2, e3, y1, y2, y3, j0, z0.1, z0.2.1, z0.2.2.1, zq.1, zq.2.1, zq.2.2.1]
        have hno := append_no (x := x) (r := r) (by simp [appOk, hok, hlen, hro])
        intro n1 hn1 hfc
        have hn1' : n5 ≤ n1 := hn1
        rw [hno]
        rw [rlnode_still hqs]
        exact .mk _ ⟨hrl, ho.mono (by omega) (by omega)⟩
    · simp -dsimp only [go_sem, hok, q0, q1, w1, k1, a0.size, a0.isNode, a0.plain, a0.lenT, e1, e2, e3, y1, y2, y3, j0, z0.1, z0.2.1, z0.2.2.1, zq.1, zq.2.1, zq.2.2.1]
      have hno := append_no (x := x) (r := r) (by simp [appOk, hok])
      intro n1 hn1 hfc
      have hn1' : n4 ≤ n1 := hn1
      rw [hno]
      rw [rlnode_still hqs]
      exact .mk _ ⟨hrl, ho.mono (by omega) (by omega)⟩
  · have hoS : Own m0 p0 (.sl t zb x.recs.length 15 f) := by
      have := ho.node.own (i := 0) (by decide)
      rw [q0] at this
      exact this
    have hzb : zb = true := hoS.wh.1
    subst hzb
    have ht := hoS.rg t (by simp [D.tl])
    have hdf : (D.node (.agg [1, 1]) f0).free t := free_of_tags (m := n0) (by omega) dT
    have hdf2 : dr.free t := free_of_tags (m := n0) (by omega) dT2
    refine conv_field (l := 1000) [2, 3, 4, 5] (hW t (by omega)) (by simp -dsimp only [go_sem]) (own_free hoS) 0 (by decide) q0 (fun i hi hne => ?_) (fun j hj => ?_) (fun l' g b x hx => ⟨hx, roots3 ⟨e3, hdf⟩ ⟨y3, hdf2⟩ ⟨?_, ?_⟩ _ _ _ _ hx⟩) fun g => ?_
    · have : i = 1 := by have : i < 2 := hi; omega
      subst this; rw [q1]; trivial
    · simp only [List.mem_cons, List.not_mem_nil, or_false] at hj
      rcases hj with rfl | rfl | rfl | rfl
      · exact (show (D.ptr 2 g1 0 []).free t from trivial)
      · exact (show (D.ptr 3 g2 0 []).free t from trivial)
      · exact (show (D.ptr 4 g3 0 []).free t from trivial)
      · exact (show (D.lit (.int .i64 0)).free t from trivial)
    · simp -dsimp only [go_sem]
    · intro i hi
      have hi' : i < 2 := hi
      match i, hi' with
      | 0, _ => trivial
      | 1, _ => trivial
    · simp -dsimp only [go_sem, q0, q1, w1, k1, a0.size, a0.isNode, a0.plain, a0.lenT, e1, e2, e3, y1, y2, y3]
      intro g4 b4 hb4
      refine xcall_p (cloneRec_p _ _ hp2 hs2) (by simp -dsimp only [go_sem, rl_still, y4]) fun m1 p1 r1 hm1 hp1 hr1 => ?_
      refine ⟨hr1.2.tags, ?_⟩
      have hr1i := hr1.1
      have hr1o := hr1.2
      obtain ⟨rq, rfl, rqs, j0, _⟩ := hr1i
      have j0 : rq 0 = _ := j0
      have hm1' : b4 + 1 ≤ m1 := hm1
      have z0 := shp_rec _ _ hr1.1
      have hR := rec_lsn (n := (x.recs.length : Int) + 1) hr1.1
      have hO := rec_lsn_own (n := (x.recs.length : Int) + 1) hr1.1 hr1.2
      have zq := shp_rec _ _ hR
      simp -dsimp only [go_sem, q0, q1, w1, k1, a0.size, a0.isNode, a0.plain, a0.lenT, e1, e2, e3, y1, y2, y3, j0, z0.1, z0.2.1, z0.2.2.1, zq.1, zq.2.1, zq.2.2.1]
      have hb5' : p1 ≤ p1 := Nat.le_refl _
      refine xcall_v (logOk_p _ _ hp) (by simp -dsimp only [go_sem, rl_still, e4]) (fun _ => trivial) fun n4 hn4 => ?_
      have hn4' : p1 ≤ n4 := hn4
      rcases Bool.eq_false_or_eq_true (Md.logOk x) with hok | hok
      · by_cases hlen : (x.recs.length : Int) < 4000
        · have hge : ¬ (4000 : Int) ≤ x.recs.length := by omega
          have hne : ((x.recs.length : Int) == 4000) = false := beq_eq_false_iff_ne.2 (by omega)
          simp -dsimp only [go_sem, hok, hlen, hge, hne, q0, q1, w1, k1, a0.size, a0.isNode, a0.plain, a0.lenT, e1, e2, e3, y1, y2, y3, j0, z0.1, z0.2.1, z0.2.2.1, zq.1, zq.2.1, zq.2.2.1]
          refine xcall_v (recOk_p _ _ hR) (by simp -dsimp only [go_sem, rl_still, zq.2.2.2, q0, q1, w1, k1, a0.size, a0.isNode, a0.plain, a0.lenT, e1, e2, e3, y1, y2, y3, j0, z0.1, z0.2.1, z0.2.2.1, zq.1, zq.2.1, zq.2.2.1]) (fun _ => trivial) fun n5 hn5 => ?_
          have hn5' : n4 ≤ n5 := hn5
          rcases Bool.eq_false_or_eq_true (Md.recOk { r with lsn := (x.recs.length : Int) + 1 }) with hro | hro
          · simp -dsimp only [go_sem, hok, hlen, hge, hne, hro, q0, q1, w1, k1, a0.size, a0.isNode, a0.plain, a0.lenT, e1, e2, e3, y1, y2, y3, j0, z0.1, z0.2.1, z0.2.2.1, zq.1, zq.2.1, zq.2.2.1]
            have hyes := append_yes (x := x) (r := r) (by simp [appOk, hok, hlen, hro])
            intro g6 b6 hb6
            have hb6' : n5 ≤ b6 := hb6
            refine ⟨fun y h => h.symm, by omega, by omega, fun g7 b7 n' hn' hb7 hb8 => ?_⟩
            refine iwp_plan [(0, true), (1, true), (2, true), (3, false), (4, true)] [3, 6] rfl (by decide +kernel) (by decide) [] (by decide +kernel) ?_
            simp -dsimp only [go_sem, hok, hlen, hge, hne, hro, q0, q1, w1, k1, a0.size, a0.isNode, a0.plain, a0.lenT, e1, e2, e3, y1, y2, y3, j0, z0.1, z0.2.1, z0.2.2.1, zq.1, zq.2.1, zq.2.2.1]
            intro n1 hn1 hfc
            have hn1' : n' ≤ n1 := hn1
            rw [hyes]
            refine .mk _ ?_
            rw [rl_node]
            have hfo := fill_own (r := { r with lsn := (x.recs.length : Int) + 1 }) hfs hf hoS
            have hLO := Fill.isL' (lo := m0) (hi := p1) (n1 := n1) (xs := x.recs ++ [{ r with lsn := (x.recs.length : Int) + 1 }]) (Fill.cat hfo (fun _ => by simp only [stillL_nil, stillL_cons, still_lit, still_nil, still_any, still_nodeN, still_nodeC, and_self]) shp_rec (by simp) (by rw [app_get]; exact hR) hO (by omega) (by omega) (Nat.le_refl _) (by omega)) (by simp) (by omega) (by omega) hfc.here.1 (by omega) hfc.here.2
            refine (grow_finL (x := ⟨x.recs ++ [{ r with lsn := (x.recs.length : Int) + 1 }], x.sure⟩) (n0 := n0) (n1 := n1) ?_ ?_ (gs_upd fun j => .inl (hqs j)) hLO.1 (hLO.2.1.mono (by omega) (by omega))).out
            · simp -dsimp only [go_sem, q0]
              rw [rls_still hLO.2.2]
            · simp -dsimp only [go_sem, q1, rl_lit]
          · simp -dsimp only [go_sem, hok, hlen, hge, hne, hro, q0, q1, w1, k1, a0.size, a0.isNode, a0.plain, a0.lenT, e1, e2, e3, y1, y2, y3, j0, z0.1, z0.2.1, z0.2.2.1, zq.1, zq.2.1, zq.2.2.1]
            have hno := append_no (x := x) (r := r) (by simp [appOk, hok, hlen, hro])
            intro n1 hn1 hfc
            have hn1' : n5 ≤ n1 := hn1
            rw [hno]
            rw [rl_node]
            refine .mk _ ?_
            refine (grow_finL (n1 := n1) ?_ ?_ (gs_upd fun j => .inl (hqs j)) (.inr ⟨t, true, f, rfl, hfs, hfl, hf⟩) (hoS.mono (by omega) (by omega))).out
            · simp -dsimp only [go_sem, q0]
              rw [rls_still hfs]
            · simp -dsimp only [go_sem, q1, rl_lit]
        · have hge : (4000 : Int) ≤ x.recs.length := by omega
          have hno := append_no (x := x) (r := r) (by simp [appOk, hok, hlen])
          simp -dsimp only [go_sem, hok, hlen, hge, q0, q1, w1, k1, a0.size, a0.isNode, a0.plain, a0.lenT, e1, e2, e3, y1, y2, y3, j0, z0.1, z0.2.1, z0.2.2.1, zq.1, zq.2.1, zq.2.2.1]
          intro n1 hn1 hfc
          have hn1' : n4 ≤ n1 := hn1
          rw [hno]
          rw [rl_node]
          refine .mk _ ?_
          refine (grow_finL (n1 := n1) ?_ ?_ (gs_upd fun j => .inl (hqs j)) (.inr ⟨t, true, f, rfl, hfs, hfl, hf⟩) (hoS.mono (by omega) (by omega))).out
          · simp -dsimp only [go_sem, q0]
            rw [rls_still hfs]
          · simp -dsimp only [go_sem, q1, rl_lit]
      · simp -dsimp only [go_sem, hok, q0, q1, w1, k1, a0.size, a0.isNode, a0.plain, a0.lenT, e1, e2, e3, y1, y2, y3, j0, z0.1, z0.2.1, z0.2.2.1, zq.1, zq.2.1, zq.2.2.1]
        have hno := append_no (x := x) (r := r) (by simp [appOk, hok])
        intro n1 hn1 hfc
        have hn1' : n4 ≤ n1 := hn1
        rw [hno]
        rw [rl_node]
        refine .mk _ ?_
        refine (grow_finL (n1 := n1) ?_ ?_ (gs_upd fun j => .inl (hqs j)) (.inr ⟨t, true, f, rfl, hfs, hfl, hf⟩) (hoS.mono (by omega) (by omega))).out
        · simp -dsimp only [go_sem, q0]
          rw [rls_still hfs]
        · simp -dsimp only [go_sem, q1, rl_lit]
theorem specAppend_p (d dr : D) (x : Md.Log) (r : Md.Rec) (h : IsLog d x) (hr : IsRec dr r) (hs : Md.szLog x ≤ 1048576) (hs2 : Md.szRec r ≤ 1048576) (hd : d.data) (hd2 : dr.data) :
    PCall Try.prog 135 [d, dr] fun n0 n1 z => Two (fun z => IsLog z (appendL x r).1 ∧ Own n0 n1 z) (.lit (.int .i64 (appendL x r).2)) z := by
  have hp := h
  have hp2 := hr
  have eq := shp_log _ _ h
  have eq2 := shp_rec _ _ hr
  obtain ⟨f0, rfl, hst, a0, a1⟩ := h
  have k1 : f0 1 = _ := a1
  have e1 := eq.1
  have e2 := eq.2.1
  have e3 := eq.2.2.1
  have e4 := eq.2.2.2
  have y1 := eq2.1
  have y2 := eq2.2.1
  have y3 := eq2.2.2.1
  have y4 := eq2.2.2.2
  have hsl : x.recs.length ≤ 1048576 := by unfold Md.szLog Md.szRecs at hs; omega
  refine pcall_intro_t Try.func135 rfl (by decide) rfl (by decide) (by rw [Try.ntmps135]; simp) fun w0 M n0 hW hT => ivc_sound ?_; simp -dsimp only [Try.f135, go_sem, k1, a0.size, a0.isNode, a0.plain, a0.lenT, e1, e2, e3, y1, y2, y3]
  have dT : (D.node (.agg [1, 1]) f0).tags (· < n0) := hT _ (by simp) hd
  have dT2 : dr.tags (· < n0) := hT dr (by simp) hd2
  intro g1 b1 hb1 g2 b2 hb2 g3 b3 hb3
  refine xcall_t (l5Copy_p _ _ hp hs) (by simp -dsimp only [go_sem, rl_still, e4]) fun m0 p0 r0 hm0 hp0 hr0w => ?_
  have hr0 := hr0w.out
  have hm0' : b3 + 1 ≤ m0 := hm0
  refine ⟨hr0.2.tags, ?_⟩
  have ho := hr0.2
  have hrl := hr0.1
  obtain ⟨q, rfl, hqs, hq0, q1⟩ := hr0.1
  have q1 : q 1 = _ := q1
  have w1 : IntKind.i64.wrap ((x.recs.length : Int) + 1) = (x.recs.length : Int) + 1 := w64 (by omega) (by omega)
  rcases hq0 with ⟨q0, hnil⟩ | ⟨t, zb, f, q0, hfs, hfl, hf⟩
  · refine Conv.zero ?_
    simp -dsimp only [go_sem, q0, q1, w1, k1, a0.size, a0.isNode, a0.plain, a0.lenT, e1, e2, e3, y1, y2, y3]
    intro g4 b4 hb4
    refine xcall_p (l5CopyRec_p _ _ hp2 hs2) (by simp -dsimp only [go_sem, rl_still, y4]) fun m1 p1 r1 hm1 hp1 hr1 => ?_
    refine ⟨hr1.2.tags, ?_⟩
    have hr1i := hr1.1
    have hr1o := hr1.2
    obtain ⟨rq, rfl, rqs, j0, _⟩ := hr1i
    have j0 : rq 0 = _ := j0
    have hm1' : b4 + 1 ≤ m1 := hm1
    have z0 := shp_rec _ _ hr1.1
    have hR := rec_lsn (n := (x.recs.length : Int) + 1) hr1.1
    have hO := rec_lsn_own (n := (x.recs.length : Int) + 1) hr1.1 hr1.2
    have zq := shp_rec _ _ hR
    simp -dsimp only [go_sem, q0, q1, w1, k1, a0.size, a0.isNode, a0.plain, a0.lenT, e1, e2, e3, y1, y2, y3, j0, z0.1, z0.2.1, z0.2.2.1, zq.1, zq.2.1, zq.2.2.1]
    intro g5 b5 hb5
    have hb5' : p1 ≤ b5 := hb5
    refine xcall_v (specLogOk_p _ _ hp) (by simp -dsimp only [go_sem, rl_still, e4]) (fun _ => trivial) fun n4 hn4 => ?_
    have hn4' : b5 + 1 ≤ n4 := hn4
    rcases Bool.eq_false_or_eq_true (Md.logOk x) with hok | hok
    · have hlen : (x.recs.length : Int) < 4000 := by rw [hnil]; decide
      have hge : ¬ (4000 : Int) ≤ x.recs.length := by omega
      have hne : ((x.recs.length : Int) == 4000) = false := beq_eq_false_iff_ne.2 (by omega)
      simp -dsimp only [go_sem, hok, hlen, hge, hne, q0, q1, w1, k1, a0.size, a0.isNode, a0.plain, a0.lenT, e1, e2, e3, y1, y2, y3, j0, z0.1, z0.2.1, z0.2.2.1, zq.1, zq.2.1, zq.2.2.1]
      refine xcall_v (specRecOk_p _ _ hR) (by simp -dsimp only [go_sem, rl_still, zq.2.2.2, q0, q1, w1, k1, a0.size, a0.isNode, a0.plain, a0.lenT, e1, e2, e3, y1, y2, y3, j0, z0.1, z0.2.1, z0.2.2.1, zq.1, zq.2.1, zq.2.2.1]) (fun _ => trivial) fun n5 hn5 => ?_
      have hn5' : n4 ≤ n5 := hn5
      rcases Bool.eq_false_or_eq_true (Md.recOk { r with lsn := (x.recs.length : Int) + 1 }) with hro | hro
      · simp -dsimp only [go_sem, hok, hlen, hge, hne, hro, q0, q1, w1, k1, a0.size, a0.isNode, a0.plain, a0.lenT, e1, e2, e3, y1, y2, y3, j0, z0.1, z0.2.1, z0.2.2.1, zq.1, zq.2.1, zq.2.2.1]
        have hyes := append_yes (x := x) (r := r) (by simp [appOk, hok, hlen, hro])
        intro g6 b6 hb6
        have hb6' : n5 ≤ b6 := hb6
        refine ⟨fun y h => h.symm, fun g7 b7 n' hn' hb7 hb8 => ?_⟩
        refine iwp_plan [(0, true), (1, true), (2, true), (3, false), (4, true)] [6, 7] rfl (by decide +kernel) (by decide) [] (by decide +kernel) ?_
        simp -dsimp only [go_sem, hok, hlen, hge, hne, hro, q0, q1, w1, k1, a0.size, a0.isNode, a0.plain, a0.lenT, e1, e2, e3, y1, y2, y3, j0, z0.1, z0.2.1, z0.2.2.1, zq.1, zq.2.1, zq.2.2.1]
        intro n1 hn1 hfc
        have hn1' : n' ≤ n1 := hn1
        rw [hyes]
        refine .mk _ ?_
        rw [rl_node]
        have hLO := Fill.isL' (lo := m1) (hi := p1) (n1 := n1) (xs := x.recs ++ [{ r with lsn := (x.recs.length : Int) + 1 }]) (Fill.one (fun _ => by simp only [stillL_nil, stillL_cons, still_lit, still_nil, still_any, still_nodeN, still_nodeC, and_self]) shp_rec (by simp) (by simpa [hnil] using hR) hO (Nat.le_refl _) (Nat.le_refl _) (by omega)) (by simp [hnil]) (by omega) (by omega) hfc.here.1 (by omega) hfc.here.2
        refine (grow_finL (x := ⟨x.recs ++ [{ r with lsn := (x.recs.length : Int) + 1 }], x.sure⟩) (n0 := n0) (n1 := n1) ?_ ?_ (gs_upd fun j => .inl (hqs j)) hLO.1 (hLO.2.1.mono (by omega) (by omega))).out
        · simp -dsimp only [go_sem, q0]
          rw [rls_still hLO.2.2]
        · simp -dsimp only [go_sem, q1, rl_lit]
      · simp -dsimp only [go_sem, hok, hlen, hge, hne, hro, q0, q1, w1, k1, a0.size, a0.isNode, a0.plain, a0.lenT, e1, e2, e3, y1, y2, y3, j0, z0.1, z0.2.1, z0.2.2.1, zq.1, zq.2.1, zq.2.2.1]
        have hno := append_no (x := x) (r := r) (by simp [appOk, hok, hlen, hro])
        intro n1 hn1 hfc
        have hn1' : n5 ≤ n1 := hn1
        rw [hno]
        rw [rlnode_still hqs]
        exact .mk _ ⟨hrl, ho.mono (by omega) (by omega)⟩
    · simp -dsimp only [go_sem, hok, q0, q1, w1, k1, a0.size, a0.isNode, a0.plain, a0.lenT, e1, e2, e3, y1, y2, y3, j0, z0.1, z0.2.1, z0.2.2.1, zq.1, zq.2.1, zq.2.2.1]
      have hno := append_no (x := x) (r := r) (by simp [appOk, hok])
      intro n1 hn1 hfc
      have hn1' : n4 ≤ n1 := hn1
      rw [hno]
      rw [rlnode_still hqs]
      exact .mk _ ⟨hrl, ho.mono (by omega) (by omega)⟩
  · have hoS : Own m0 p0 (.sl t zb x.recs.length 15 f) := by
      have := ho.node.own (i := 0) (by decide)
      rw [q0] at this
      exact this
    have hzb : zb = true := hoS.wh.1
    subst hzb
    have ht := hoS.rg t (by simp [D.tl])
    have hdf : (D.node (.agg [1, 1]) f0).free t := free_of_tags (m := n0) (by omega) dT
    have hdf2 : dr.free t := free_of_tags (m := n0) (by omega) dT2
    refine conv_field (l := 1000) [2, 3, 4, 5] (hW t (by omega)) (by simp -dsimp only [go_sem]) (own_free hoS) 0 (by decide) q0 (fun i hi hne => ?_) (fun j hj => ?_) (fun l' g b x hx => ⟨hx, roots3 ⟨e3, hdf⟩ ⟨y3, hdf2⟩ ⟨?_, ?_⟩ _ _ _ _ hx⟩) fun g => ?_
    · have : i = 1 := by have : i < 2 := hi; omega
      subst this; rw [q1]; trivial
    · simp only [List.mem_cons, List.not_mem_nil, or_false] at hj
      rcases hj with rfl | rfl | rfl | rfl
      · exact (show (D.ptr 2 g1 0 []).free t from trivial)
      · exact (show (D.ptr 3 g2 0 []).free t from trivial)
      · exact (show (D.ptr 4 g3 0 []).free t from trivial)
      · exact (show (D.lit (.int .i64 0)).free t from trivial)
    · simp -dsimp only [go_sem]
    · intro i hi
      have hi' : i < 2 := hi
      match i, hi' with
      | 0, _ => trivial
      | 1, _ => trivial
    · simp -dsimp only [go_sem, q0, q1, w1, k1, a0.size, a0.isNode, a0.plain, a0.lenT, e1, e2, e3, y1, y2, y3]
      intro g4 b4 hb4
      refine xcall_p (l5CopyRec_p _ _ hp2 hs2) (by simp -dsimp only [go_sem, rl_still, y4]) fun m1 p1 r1 hm1 hp1 hr1 => ?_
      refine ⟨hr1.2.tags, ?_⟩
      have hr1i := hr1.1
      have hr1o := hr1.2
      obtain ⟨rq, rfl, rqs, j0, _⟩ := hr1i
      have j0 : rq 0 = _ := j0
      have hm1' : b4 + 1 ≤ m1 := hm1
      have z0 := shp_rec _ _ hr1.1
      have hR := rec_lsn (n := (x.recs.length : Int) + 1) hr1.1
      have hO := rec_lsn_own (n := (x.recs.length : Int) + 1) hr1.1 hr1.2
      have zq := shp_rec _ _ hR
      simp -dsimp only [go_sem, q0, q1, w1, k1, a0.size, a0.isNode, a0.plain, a0.lenT, e1, e2, e3, y1, y2, y3, j0, z0.1, z0.2.1, z0.2.2.1, zq.1, zq.2.1, zq.2.2.1]
      intro g5 b5 hb5
      have hb5' : p1 ≤ b5 := hb5
      refine xcall_v (specLogOk_p _ _ hp) (by simp -dsimp only [go_sem, rl_still, e4]) (fun _ => trivial) fun n4 hn4 => ?_
      have hn4' : b5 + 1 ≤ n4 := hn4
      rcases Bool.eq_false_or_eq_true (Md.logOk x) with hok | hok
      · by_cases hlen : (x.recs.length : Int) < 4000
        · have hge : ¬ (4000 : Int) ≤ x.recs.length := by omega
          have hne : ((x.recs.length : Int) == 4000) = false := beq_eq_false_iff_ne.2 (by omega)
          simp -dsimp only [go_sem, hok, hlen, hge, hne, q0, q1, w1, k1, a0.size, a0.isNode, a0.plain, a0.lenT, e1, e2, e3, y1, y2, y3, j0, z0.1, z0.2.1, z0.2.2.1, zq.1, zq.2.1, zq.2.2.1]
          refine xcall_v (specRecOk_p _ _ hR) (by simp -dsimp only [go_sem, rl_still, zq.2.2.2, q0, q1, w1, k1, a0.size, a0.isNode, a0.plain, a0.lenT, e1, e2, e3, y1, y2, y3, j0, z0.1, z0.2.1, z0.2.2.1, zq.1, zq.2.1, zq.2.2.1]) (fun _ => trivial) fun n5 hn5 => ?_
          have hn5' : n4 ≤ n5 := hn5
          rcases Bool.eq_false_or_eq_true (Md.recOk { r with lsn := (x.recs.length : Int) + 1 }) with hro | hro
          · simp -dsimp only [go_sem, hok, hlen, hge, hne, hro, q0, q1, w1, k1, a0.size, a0.isNode, a0.plain, a0.lenT, e1, e2, e3, y1, y2, y3, j0, z0.1, z0.2.1, z0.2.2.1, zq.1, zq.2.1, zq.2.2.1]
            have hyes := append_yes (x := x) (r := r) (by simp [appOk, hok, hlen, hro])
            intro g6 b6 hb6
            have hb6' : n5 ≤ b6 := hb6
            refine ⟨fun y h => h.symm, by omega, by omega, fun g7 b7 n' hn' hb7 hb8 => ?_⟩
            refine iwp_plan [(0, true), (1, true), (2, true), (3, false), (4, true)] [6, 7] rfl (by decide +kernel) (by decide) [] (by decide +kernel) ?_
            simp -dsimp only [go_sem, hok, hlen, hge, hne, hro, q0, q1, w1, k1, a0.size, a0.isNode, a0.plain, a0.lenT, e1, e2, e3, y1, y2, y3, j0, z0.1, z0.2.1, z0.2.2.1, zq.1, zq.2.1, zq.2.2.1]
            intro n1 hn1 hfc
            have hn1' : n' ≤ n1 := hn1
            rw [hyes]
            refine .mk _ ?_
            rw [rl_node]
            have hfo := fill_own (r := { r with lsn := (x.recs.length : Int) + 1 }) hfs hf hoS
            have hLO := Fill.isL' (lo := m0) (hi := p1) (n1 := n1) (xs := x.recs ++ [{ r with lsn := (x.recs.length : Int) + 1 }]) (Fill.cat hfo (fun _ => by simp only [stillL_nil, stillL_cons, still_lit, still_nil, still_any, still_nodeN, still_nodeC, and_self]) shp_rec (by simp) (by rw [app_get]; exact hR) hO (by omega) (by omega) (Nat.le_refl _) (by omega)) (by simp) (by omega) (by omega) hfc.here.1 (by omega) hfc.here.2
            refine (grow_finL (x := ⟨x.recs ++ [{ r with lsn := (x.recs.length : Int) + 1 }], x.sure⟩) (n0 := n0) (n1 := n1) ?_ ?_ (gs_upd fun j => .inl (hqs j)) hLO.1 (hLO.2.1.mono (by omega) (by omega))).out
            · simp -dsimp only [go_sem, q0]
              rw [rls_still hLO.2.2]
            · simp -dsimp only [go_sem, q1, rl_lit]
          · simp -dsimp only [go_sem, hok, hlen, hge, hne, hro, q0, q1, w1, k1, a0.size, a0.isNode, a0.plain, a0.lenT, e1, e2, e3, y1, y2, y3, j0, z0.1, z0.2.1, z0.2.2.1, zq.1, zq.2.1, zq.2.2.1]
            have hno := append_no (x := x) (r := r) (by simp [appOk, hok, hlen, hro])
            intro n1 hn1 hfc
            have hn1' : n5 ≤ n1 := hn1
            rw [hno]
            rw [rl_node]
            refine .mk _ ?_
            refine (grow_finL (n1 := n1) ?_ ?_ (gs_upd fun j => .inl (hqs j)) (.inr ⟨t, true, f, rfl, hfs, hfl, hf⟩) (hoS.mono (by omega) (by omega))).out
            · simp -dsimp only [go_sem, q0]
              rw [rls_still hfs]
            · simp -dsimp only [go_sem, q1, rl_lit]
        · have hge : (4000 : Int) ≤ x.recs.length := by omega
          have hno := append_no (x := x) (r := r) (by simp [appOk, hok, hlen])
          by_cases hne0 : (x.recs.length : Int) = 4000
          · have hne : ((x.recs.length : Int) == 4000) = true := beq_iff_eq.2 hne0
            simp -dsimp only [go_sem, hok, hlen, hge, hne, q0, q1, w1, k1, a0.size, a0.isNode, a0.plain, a0.lenT, e1, e2, e3, y1, y2, y3, j0, z0.1, z0.2.1, z0.2.2.1, zq.1, zq.2.1, zq.2.2.1]
            intro n1 hn1 hfc
            have hn1' : n4 ≤ n1 := hn1
            rw [hno]
            rw [rl_node]
            refine .mk _ ?_
            refine (grow_finL (n1 := n1) ?_ ?_ (gs_upd fun j => .inl (hqs j)) (.inr ⟨t, true, f, rfl, hfs, hfl, hf⟩) (hoS.mono (by omega) (by omega))).out
            · simp -dsimp only [go_sem, q0]
              rw [rls_still hfs]
            · simp -dsimp only [go_sem, q1, rl_lit]
          · have h4 : ¬ x.recs.length ≤ 4000 := by omega
            have hbad : Md.logOk x = false := by unfold Md.logOk; simp [h4]
            rw [hbad] at hok; cases hok
      · simp -dsimp only [go_sem, hok, q0, q1, w1, k1, a0.size, a0.isNode, a0.plain, a0.lenT, e1, e2, e3, y1, y2, y3, j0, z0.1, z0.2.1, z0.2.2.1, zq.1, zq.2.1, zq.2.2.1]
        have hno := append_no (x := x) (r := r) (by simp [appOk, hok])
        intro n1 hn1 hfc
        have hn1' : n4 ≤ n1 := hn1
        rw [hno]
        rw [rl_node]
        refine .mk _ ?_
        refine (grow_finL (n1 := n1) ?_ ?_ (gs_upd fun j => .inl (hqs j)) (.inr ⟨t, true, f, rfl, hfs, hfl, hf⟩) (hoS.mono (by omega) (by omega))).out
        · simp -dsimp only [go_sem, q0]
          rw [rls_still hfs]
        · simp -dsimp only [go_sem, q1, rl_lit]
end Go.Proofs.Ytpepddckmddbiaa.IM
end

section
/- The law of Append. Printed by laws_wr2.py. -/
namespace Go.Proofs.Ytpepddckmddbiaa.IM
open Go Go.Proofs
set_option linter.unusedVariables false
set_option linter.unusedSimpArgs false
set_option maxHeartbeats 2000000
set_option maxRecDepth 20000

theorem sumBy_app {α : Type} (f : α → Nat) (l m : List α) : Md.sumBy f (l ++ m) = Md.sumBy f l + Md.sumBy f m := by simp [Md.sumBy]
theorem c_append (x : Md.Log) (r : Md.Rec) : Md.cLog (appendL x r).1 ≤ 10 * Md.szLog x + (10 + 3 * Md.szRec r) := by
  have h := cLog_le x
  cases e : appOk x r
  · rw [append_no e]; show Md.cLog x ≤ _; omega
  · rw [append_yes e]
    have h2 : Md.cRecE { r with lsn := (x.recs.length : Int) + 1 } ≤ 10 + 3 * Md.szRec r := by rw [show Md.cRecE { r with lsn := (x.recs.length : Int) + 1 } = Md.cRecE r from rfl, cRecE_eq]; unfold Md.szRec Md.szSlot Md.szObj; omega
    have h3 : Md.cLog ⟨x.recs ++ [{ r with lsn := (x.recs.length : Int) + 1 }], x.sure⟩ = Md.cLog x + Md.cRecE { r with lsn := (x.recs.length : Int) + 1 } := by
      show Md.sumBy Md.cRecE (x.recs ++ _) = Md.sumBy Md.cRecE x.recs + _
      rw [sumBy_app]; simp [Md.sumBy]
    rw [h3]; omega
theorem lawAppend (d dS : D) (x : Md.Log) (y0 : Md.Rec) (h : IsLog d x) (hS : IsRec dS y0) : PCall Try.prog 30 [d, dS] fun _ _ r => r = .lit (.bool true) := by
  have e := shp_log _ _ h
  have e1 := e.1
  have e2 := e.2.1
  have e3 := e.2.2.1
  have e4 := e.2.2.2
  have c := shp_rec _ _ hS
  have c1 := c.1
  have c2 := c.2.1
  have c3 := c.2.2.1
  have c4 := c.2.2.2
  refine pcall_intro_vt Try.func30 rfl (by decide) rfl (by decide) (by rw [Try.ntmps30]; simp) fun w0 M n0 hW hT => ivc_sound ?_; simp -dsimp only [Try.f30, go_sem, e1, e2, e3, c1, c2, c3]
  have dT : d.tags (· < n0) := hT d (by simp) h.data
  have dST : dS.tags (· < n0) := hT dS (by simp) hS.data
  intro g1 b1 hb1 g2 b2 hb2
  refine xcall_v (szLog_p _ _ h 1048576 (by decide) (by decide)) (by simp -dsimp only [go_sem, rl_still, e4]) (fun _ => trivial) fun n1 hn1 => ?_
  simp -dsimp only [go_sem]
  intro hb
  have hs : Md.szLog x ≤ 1048576 := by
    have := Md.szR_le _ _ hb
    omega
  obtain ⟨l0, l1⟩ := Md.szR_rg _ _ (by decide) (by decide) hb
  simp -dsimp only [go_sem, e1, e2, e3, c1, c2, c3]
  refine xcall_v (szRec_p _ _ hS _ l0 l1) (by simp -dsimp only [go_sem, rl_still, c4]) (fun _ => trivial) fun n2 hn2 => ?_
  simp -dsimp only [go_sem]
  intro hb2'
  have hs2 : Md.szRec y0 ≤ 1048576 := by
    have := Md.szR_le _ _ hb2'
    omega
  refine iwp_planT (.early 0 (.early 2 (.fork 1 (.fork 3 (.fork 4 (.early 5 (.early 6 (.early 7 (.late 8 (.late 9 (.early 10 .done)))))) 8 (.late 4 (.early 5 (.early 6 (.early 7 (.late 9 (.early 10 .done))))))) 8 (.late 3 (.late 4 (.early 5 (.early 6 (.early 7 (.late 9 (.early 10 .done)))))))) 8 (.late 1 (.late 3 (.late 4 (.early 5 (.early 6 (.early 7 (.late 9 (.early 10 .done))))))))))) [2, 3] [] rfl (by decide +kernel) (by decide) (by decide +kernel) ?_
  refine fork_k (fun st => ∃ n g b s D, st = { N := 119, n := n, s := s, R := upd (upd (upd (fun _ => none) 2 (some (g1, b1, d))) 3 (some (g2, b2, dS))) 6 (some (g, b, D)) } ∧
    n2 ≤ n ∧ s 2 = .ptr 2 g1 0 [] ∧ s 3 = .ptr 3 g2 0 [] ∧ s 6 = .ptr 6 g 0 [] ∧
    s 7 = .lit (.int .i64 (appendL x y0).2) ∧ IsLog D (appendL x y0).1 ∧ Own n2 n D) ?_ ?_
  · rintro st ⟨n, g, b, s, v, rfl, hn, vs2, vs3, vs6, vs7, vi, vo⟩
    have vp := shp_log _ _ vi
    have vp1 := vp.1
    have vp2 := vp.2.1
    have vp3 := vp.2.2.1
    have vp4 := vp.2.2.2
    simp -dsimp only [go_sem, vs2, vs3, vs6, vs7, vp1, vp2, vp3, e1, e2, e3, c1, c2, c3]
    refine xcall_p (toLog_p _ _ h hs) (by simp -dsimp only [go_sem, rl_still, e4]) fun xvlo xvhi xv hxvlo hxvhi hxv => ?_
    have xvo := hxv.2
    have xvi := hxv.1
    have xvp := shp_log _ _ xvi
    have xvp1 := xvp.1
    have xvp2 := xvp.2.1
    have xvp3 := xvp.2.2.1
    have xvp4 := xvp.2.2.2
    refine ⟨xvo.tags, ?_⟩
    simp -dsimp only [go_sem, vs2, vs3, vs6, vs7, vp1, vp2, vp3, e1, e2, e3, c1, c2, c3, xvp1, xvp2, xvp3]
    intro g12 b12 hb12
    refine xcall_p (toRec_p _ _ hS hs2) (by simp -dsimp only [go_sem, rl_still, c4]) fun ulo uhi u hulo huhi hu => ?_
    have uo := hu.2
    have ui := hu.1
    have up := shp_rec _ _ ui
    have up1 := up.1
    have up2 := up.2.1
    have up3 := up.2.2.1
    have up4 := up.2.2.2
    refine ⟨uo.tags, ?_⟩
    simp -dsimp only [go_sem, vs2, vs3, vs6, vs7, vp1, vp2, vp3, e1, e2, e3, c1, c2, c3, xvp1, xvp2, xvp3, up1, up2, up3]
    intro g13 b13 hb13
    refine xcall_p (append_p _ _ _ _ xvi ui hs hs2 xvi.data ui.data) (by simp -dsimp only [go_sem, rl_still, xvp4, up4]) fun ylo yhi yw hylo hyhi hyw => ?_
    obtain ⟨y, rfl, hy⟩ := hyw.out
    have yo := hy.2
    have yi := hy.1
    have yp := shp_log _ _ yi
    have yp1 := yp.1
    have yp2 := yp.2.1
    have yp3 := yp.2.2.1
    have yp4 := yp.2.2.2
    refine ⟨tags_two yo.tags, ?_⟩
    simp -dsimp only [go_sem, vs2, vs3, vs6, vs7, vp1, vp2, vp3, e1, e2, e3, c1, c2, c3, xvp1, xvp2, xvp3, up1, up2, up3, yp1, yp2, yp3]
    intro g14 b14 hb14
    refine xcall_v (eqLog_p _ _ _ yi vi) (by simp -dsimp only [go_sem, rl_still, yp4, vp4]) (fun _ => trivial) fun n4 hn4 => ?_
    simp -dsimp only [go_sem, vs2, vs3, vs6, vs7, vp1, vp2, vp3, e1, e2, e3, c1, c2, c3, xvp1, xvp2, xvp3, up1, up2, up3, yp1, yp2, yp3, bne_self_eq_false, Bool.not_true, Bool.not_false, Bool.false_eq_true, Bool.true_eq_false, false_imp_iff, true_and, and_true, forall_const, reduceCtorEq]
    refine iwp_plan [(0, true), (1, true), (2, false), (3, false), (4, true)] [2, 8] rfl (by decide +kernel) (by decide) [] (by decide +kernel) ?_
    simp -dsimp only [go_sem, vs2, vs3, vs6, vs7, vp1, vp2, vp3, e1, e2, e3, c1, c2, c3, xvp1, xvp2, xvp3, up1, up2, up3, yp1, yp2, yp3]
    refine xcall_p (toLog_p _ _ h hs) (by simp -dsimp only [go_sem, rl_still, e4]) fun zlo zhi z hzlo hzhi hz => ?_
    have zo := hz.2
    have zi := hz.1
    have zp := shp_log _ _ zi
    have zp1 := zp.1
    have zp2 := zp.2.1
    have zp3 := zp.2.2.1
    have zp4 := zp.2.2.2
    refine ⟨zo.tags, ?_⟩
    simp -dsimp only [go_sem, vs2, vs3, vs6, vs7, vp1, vp2, vp3, e1, e2, e3, c1, c2, c3, xvp1, xvp2, xvp3, up1, up2, up3, yp1, yp2, yp3, zp1, zp2, zp3]
    refine xcall_v (eqLog_p _ _ _ xvi zi) (by simp -dsimp only [go_sem, rl_still, xvp4, zp4]) (fun _ => trivial) fun n4 hn4 => ?_
    simp -dsimp only [go_sem, vs2, vs3, vs6, vs7, vp1, vp2, vp3, e1, e2, e3, c1, c2, c3, xvp1, xvp2, xvp3, up1, up2, up3, yp1, yp2, yp3, zp1, zp2, zp3, bne_self_eq_false, Bool.not_true, Bool.not_false, Bool.false_eq_true, Bool.true_eq_false, false_imp_iff, true_and, and_true, forall_const, reduceCtorEq]
    refine iwp_plan [(0, true), (1, true), (2, false), (3, false), (4, true)] [3, 9] rfl (by decide +kernel) (by decide) [] (by decide +kernel) ?_
    simp -dsimp only [go_sem, vs2, vs3, vs6, vs7, vp1, vp2, vp3, e1, e2, e3, c1, c2, c3, xvp1, xvp2, xvp3, up1, up2, up3, yp1, yp2, yp3]
    refine xcall_p (toRec_p _ _ hS hs2) (by simp -dsimp only [go_sem, rl_still, c4]) fun z2lo z2hi z2 hz2lo hz2hi hz2 => ?_
    have z2o := hz2.2
    have z2i := hz2.1
    have z2p := shp_rec _ _ z2i
    have z2p1 := z2p.1
    have z2p2 := z2p.2.1
    have z2p3 := z2p.2.2.1
    have z2p4 := z2p.2.2.2
    refine ⟨z2o.tags, ?_⟩
    simp -dsimp only [go_sem, vs2, vs3, vs6, vs7, vp1, vp2, vp3, e1, e2, e3, c1, c2, c3, xvp1, xvp2, xvp3, up1, up2, up3, yp1, yp2, yp3, z2p1, z2p2, z2p3]
    refine xcall_v (eqRec_p _ _ _ ui z2i) (by simp -dsimp only [go_sem, rl_still, up4, z2p4]) (fun _ => trivial) fun n4 hn4 => ?_
    simp -dsimp only [go_sem, vs2, vs3, vs6, vs7, vp1, vp2, vp3, e1, e2, e3, c1, c2, c3, xvp1, xvp2, xvp3, up1, up2, up3, yp1, yp2, yp3, z2p1, z2p2, z2p3, bne_self_eq_false, Bool.not_true, Bool.not_false, Bool.false_eq_true, Bool.true_eq_false, false_imp_iff, true_and, and_true, forall_const, reduceCtorEq]
    have hz := c_append x y0
    have hcb : Md.cRec y0 ≤ 3 * Md.szRec y0 := cRec_le y0
    have hca : Md.cLog x ≤ 10 * Md.szLog x := cLog_le x
    refine xcall_mk (markLog_p xv x (1) _ _ xvi xvo (by decide) (by omega)) (by simp -dsimp only [go_sem, vs2, vs3, vs6, vs7, vp1, vp2, vp3, e1, e2, e3, c1, c2, c3, xvp1, xvp2, xvp3, up1, up2, up3, yp1, yp2, yp3]) xvp3 xvp4 ⟨trivial, trivial⟩ (fun t ht => hW t (by have := xvo.rg t ht; omega)) [2, 3, 6, 7, 8, 9, 10, 11, 12] (fun _ _ => .any) (fun E => upd (upd (upd (upd (upd (upd (fun _ => none) 2 (some (g1, b1, d))) 3 (some (g2, b2, dS))) 6 (some (g, b, v))) 8 (some (g12, b12, E))) 9 (some (g13, b13, u))) 10 (some (g14, b14, y))) fun m1 nm1 hnm1 hm1 =>
        ⟨by simp -dsimp only [go_sem, vs2, vs3, vs6, vs7, vp1, vp2, vp3, e1, e2, e3, c1, c2, c3, xvp1, xvp2, xvp3, up1, up2, up3, yp1, yp2, yp3], carry_any, ((((((CarR.none _ _ _).upd e3 (carry_lo xvo (by omega) dT)).upd c3 (carry_lo xvo (by omega) dST)).upd vp3 (carry_own xvo vo (.inr (by omega)))).upd (shp_log _ _ hm1.rel).2.2.1 .here).upd up3 (carry_own xvo uo (.inl (by omega)))).upd yp3 (carry_own xvo yo (.inl (by omega))), ?_⟩
    have m1p := shp_log _ _ hm1.rel
    have m1p1 := m1p.1
    have m1p2 := m1p.2.1
    have m1p3 := m1p.2.2.1
    have m1p4 := m1p.2.2.2
    have m1o := hm1.own xvo
    have m1i := hm1.rel
    simp -dsimp only [go_sem, vs2, vs3, vs6, vs7, vp1, vp2, vp3, e1, e2, e3, c1, c2, c3, xvp1, xvp2, xvp3, up1, up2, up3, yp1, yp2, yp3, m1p1, m1p2, m1p3]
    refine xcall_mk (markRec_p u y0 (1 + (Md.cLog x : Nat)) _ _ ui uo (by omega) (by omega)) (by simp -dsimp only [go_sem, vs2, vs3, vs6, vs7, vp1, vp2, vp3, e1, e2, e3, c1, c2, c3, xvp1, xvp2, xvp3, up1, up2, up3, yp1, yp2, yp3, m1p1, m1p2, m1p3]) up3 up4 ⟨trivial, trivial⟩ (fun t ht => hW t (by have := uo.rg t ht; omega)) [2, 3, 6, 7, 8, 9, 10, 11, 12] (fun _ _ => .any) (fun E => upd (upd (upd (upd (upd (upd (fun _ => none) 2 (some (g1, b1, d))) 3 (some (g2, b2, dS))) 6 (some (g, b, v))) 8 (some (g12, b12, m1))) 9 (some (g13, b13, E))) 10 (some (g14, b14, y))) fun m2 nm2 hnm2 hm2 =>
        ⟨by simp -dsimp only [go_sem, vs2, vs3, vs6, vs7, vp1, vp2, vp3, e1, e2, e3, c1, c2, c3, xvp1, xvp2, xvp3, up1, up2, up3, yp1, yp2, yp3, m1p1, m1p2, m1p3], carry_any, ((((((CarR.none _ _ _).upd e3 (carry_lo uo (by omega) dT)).upd c3 (carry_lo uo (by omega) dST)).upd vp3 (carry_own uo vo (.inr (by omega)))).upd m1p3 (carry_own uo m1o (.inr (by omega)))).upd (shp_rec _ _ hm2.rel).2.2.1 .here).upd yp3 (carry_own uo yo (.inl (by omega))), ?_⟩
    have m2p := shp_rec _ _ hm2.rel
    have m2p1 := m2p.1
    have m2p2 := m2p.2.1
    have m2p3 := m2p.2.2.1
    have m2p4 := m2p.2.2.2
    have m2o := hm2.own uo
    have m2i := hm2.rel
    have hk : ¬ (1 + (Md.cLog x : Nat) + (Md.cRec y0 : Nat) < (0 : Int)) := by omega
    simp -dsimp only [go_sem, vs2, vs3, vs6, vs7, vp1, vp2, vp3, e1, e2, e3, c1, c2, c3, xvp1, xvp2, xvp3, up1, up2, up3, yp1, yp2, yp3, m1p1, m1p2, m1p3, m2p1, m2p2, m2p3, hk, bne_self_eq_false, Bool.not_true, Bool.not_false, Bool.false_eq_true, Bool.true_eq_false, false_imp_iff, true_and, and_true, forall_const, reduceCtorEq, decide_false]
    refine xcall_v (eqLog_p _ _ _ yi vi) (by simp -dsimp only [go_sem, rl_still, yp4, vp4]) (fun _ => trivial) fun n4 hn4 => ?_
    simp -dsimp only [go_sem, vs2, vs3, vs6, vs7, vp1, vp2, vp3, e1, e2, e3, c1, c2, c3, xvp1, xvp2, xvp3, up1, up2, up3, yp1, yp2, yp3, m1p1, m1p2, m1p3, m2p1, m2p2, m2p3, hk, decide_false, bne_self_eq_false, Bool.not_true, Bool.not_false, Bool.false_eq_true, Bool.true_eq_false, false_imp_iff, true_and, and_true, forall_const, reduceCtorEq]
    refine xcall_mk (markLog_p y _ (1) _ _ yi yo (by decide) (by omega)) (by simp -dsimp only [go_sem, vs2, vs3, vs6, vs7, vp1, vp2, vp3, e1, e2, e3, c1, c2, c3, xvp1, xvp2, xvp3, up1, up2, up3, yp1, yp2, yp3, m1p1, m1p2, m1p3, m2p1, m2p2, m2p3, hk]) yp3 yp4 ⟨trivial, trivial⟩ (fun t ht => hW t (by have := yo.rg t ht; omega)) [2, 3, 6, 7, 8, 9, 10, 11, 12] (fun _ _ => .any) (fun E => upd (upd (upd (upd (upd (upd (fun _ => none) 2 (some (g1, b1, d))) 3 (some (g2, b2, dS))) 6 (some (g, b, v))) 8 (some (g12, b12, m1))) 9 (some (g13, b13, m2))) 10 (some (g14, b14, E))) fun m3 nm3 hnm3 hm3 =>
        ⟨by simp -dsimp only [go_sem, vs2, vs3, vs6, vs7, vp1, vp2, vp3, e1, e2, e3, c1, c2, c3, xvp1, xvp2, xvp3, up1, up2, up3, yp1, yp2, yp3, m1p1, m1p2, m1p3, m2p1, m2p2, m2p3, hk], carry_any, ((((((CarR.none _ _ _).upd e3 (carry_lo yo (by omega) dT)).upd c3 (carry_lo yo (by omega) dST)).upd vp3 (carry_own yo vo (.inr (by omega)))).upd m1p3 (carry_own yo m1o (.inr (by omega)))).upd m2p3 (carry_own yo m2o (.inr (by omega)))).upd (shp_log _ _ hm3.rel).2.2.1 .here, ?_⟩
    have m3p := shp_log _ _ hm3.rel
    have m3p1 := m3p.1
    have m3p2 := m3p.2.1
    have m3p3 := m3p.2.2.1
    have m3p4 := m3p.2.2.2
    have m3o := hm3.own yo
    have m3i := hm3.rel
    simp -dsimp only [go_sem, vs2, vs3, vs6, vs7, vp1, vp2, vp3, e1, e2, e3, c1, c2, c3, xvp1, xvp2, xvp3, up1, up2, up3, yp1, yp2, yp3, m1p1, m1p2, m1p3, m2p1, m2p2, m2p3, hk, m3p1, m3p2, m3p3]
    refine xcall_v (heldLog_p _ (appendL x y0).1 (1) m3i (by decide) (by omega)) (by simp -dsimp only [go_sem, rl_still, m3p4]) (fun _ => trivial) fun n7 hn7 => ?_
    have hk2 : ¬ (1 + (Md.cLog (appendL x y0).1 : Nat) < (0 : Int)) := by omega
    simp -dsimp only [go_sem, vs2, vs3, vs6, vs7, vp1, vp2, vp3, e1, e2, e3, c1, c2, c3, xvp1, xvp2, xvp3, up1, up2, up3, yp1, yp2, yp3, m1p1, m1p2, m1p3, m2p1, m2p2, m2p3, hk, m3p1, m3p2, m3p3, hk2, bne_self_eq_false, Bool.not_true, Bool.not_false, Bool.false_eq_true, Bool.true_eq_false, false_imp_iff, true_and, and_true, forall_const, reduceCtorEq, decide_false]
    refine iwp_planT (.early 0 (.early 2 (.fork 1 (.fork 3 (.fork 4 (.early 5 (.early 6 (.early 7 (.late 8 (.late 9 (.early 10 .done)))))) 8 (.late 4 (.early 5 (.early 6 (.early 7 (.late 9 (.early 10 .done))))))) 8 (.late 3 (.late 4 (.early 5 (.early 6 (.early 7 (.late 9 (.early 10 .done)))))))) 8 (.late 1 (.late 3 (.late 4 (.early 5 (.early 6 (.early 7 (.late 9 (.early 10 .done))))))))))) [2, 3] [] rfl (by decide +kernel) (by decide) (by decide +kernel) ?_
    refine fork_k (fun st => ∃ n' g19 b19 s' D, st = { N := 119, n := n', s := s', R := upd (upd (upd (upd (upd (upd (upd (fun _ => none) 2 (some (g1, b1, d))) 3 (some (g2, b2, dS))) 6 (some (g, b, v))) 8 (some (g12, b12, m1))) 9 (some (g13, b13, m2))) 10 (some (g14, b14, m3))) 15 (some (g19, b19, D)) } ∧
      n7 ≤ n' ∧ s' 6 = .ptr 6 g 0 [] ∧ s' 7 = .lit (.int .i64 (appendL x y0).2) ∧ s' 10 = .ptr 10 g14 0 [] ∧ s' 13 = .lit (.int .i64 (1 + (Md.cLog (appendL x y0).1 : Nat))) ∧ s' 15 = .ptr 15 g19 0 [] ∧
      s' 16 = .lit (.int .i64 (appendL x y0).2) ∧ IsLog D (appendL x y0).1) ?_ ?_
    · rintro st ⟨n', g19, b19, s', hv, rfl, hn', z10, z11, z14, z17, z19, z20, hvi⟩
      have hp := shp_log _ _ hvi
      have hp1 := hp.1
      have hp2 := hp.2.1
      have hp3 := hp.2.2.1
      have hp4 := hp.2.2.2
      have hvp4 := hp4
      simp -dsimp only [go_sem, z10, z11, z14, z17, z19, z20, hp1, hp2, hp3, vp1, vp2, vp3, m3p1, m3p2, m3p3, hk2]
      refine xcall_v (eqLog_p _ _ _ hvi vi) (by simp -dsimp only [go_sem, rl_still, hvp4, vp4]) (fun _ => trivial) fun n4 hn4 => ?_
      simp -dsimp only [go_sem, z10, z11, z14, z17, z19, z20, hp1, hp2, hp3, vp1, vp2, vp3, m3p1, m3p2, m3p3, hk2, decide_false, bne_self_eq_false, Bool.not_true, Bool.not_false, Bool.false_eq_true, Bool.true_eq_false, false_imp_iff, true_and, and_true, forall_const, reduceCtorEq]
      refine xcall_v (heldLog_p _ (appendL x y0).1 (1) m3i (by decide) (by omega)) (by simp -dsimp only [go_sem, rl_still, m3p4]) (fun _ => trivial) fun n9 hn9 => ?_
      simp -dsimp only [go_sem, z10, z11, z14, z17, z19, z20, hp1, hp2, hp3, vp1, vp2, vp3, m3p1, m3p2, m3p3, hk2, bne_self_eq_false, Bool.not_true, Bool.not_false, Bool.false_eq_true, Bool.true_eq_false, false_imp_iff, true_and, and_true, forall_const, reduceCtorEq, decide_false]
    · intro K hK
      simp -dsimp only [go_sem, vs2, vs3, vs6, vs7, vp1, vp2, vp3, e1, e2, e3, c1, c2, c3, xvp1, xvp2, xvp3, up1, up2, up3, yp1, yp2, yp3, m1p1, m1p2, m1p3, m2p1, m2p2, m2p3, hk, m3p1, m3p2, m3p3, hk2]
      refine ⟨?_, ?_⟩
      · refine xcall_p (toLog_p _ _ h hs) (by simp -dsimp only [go_sem, rl_still, e4]) fun r2lo r2hi r2 hr2lo hr2hi hr2 => ?_
        have r2o := hr2.2
        have r2i := hr2.1
        have r2p := shp_log _ _ r2i
        have r2p1 := r2p.1
        have r2p2 := r2p.2.1
        have r2p3 := r2p.2.2.1
        have r2p4 := r2p.2.2.2
        refine ⟨r2o.tags, ?_⟩
        simp -dsimp only [go_sem, vs2, vs3, vs6, vs7, vp1, vp2, vp3, e1, e2, e3, c1, c2, c3, xvp1, xvp2, xvp3, up1, up2, up3, yp1, yp2, yp3, m1p1, m1p2, m1p3, m2p1, m2p2, m2p3, hk, m3p1, m3p2, m3p3, hk2, r2p1, r2p2, r2p3]
        refine ⟨?_, ?_⟩
        · refine xcall_p (toRec_p _ _ hS hs2) (by simp -dsimp only [go_sem, rl_still, c4]) fun u2lo u2hi u2 hu2lo hu2hi hu2 => ?_
          have u2o := hu2.2
          have u2i := hu2.1
          have u2p := shp_rec _ _ u2i
          have u2p1 := u2p.1
          have u2p2 := u2p.2.1
          have u2p3 := u2p.2.2.1
          have u2p4 := u2p.2.2.2
          refine ⟨u2o.tags, ?_⟩
          simp -dsimp only [go_sem, vs2, vs3, vs6, vs7, vp1, vp2, vp3, e1, e2, e3, c1, c2, c3, xvp1, xvp2, xvp3, up1, up2, up3, yp1, yp2, yp3, m1p1, m1p2, m1p3, m2p1, m2p2, m2p3, hk, m3p1, m3p2, m3p3, hk2, r2p1, r2p2, r2p3, u2p1, u2p2, u2p3]
          refine ⟨?_, ?_⟩
          · refine xcall_p (append_p _ _ _ _ r2i u2i hs hs2 r2i.data u2i.data) (by simp -dsimp only [go_sem, rl_still, r2p4, u2p4]) fun v2lo v2hi v2w hv2lo hv2hi hv2w => ?_
            obtain ⟨v2, rfl, hv2⟩ := hv2w.out
            have v2o := hv2.2
            have v2i := hv2.1
            have v2p := shp_log _ _ v2i
            have v2p1 := v2p.1
            have v2p2 := v2p.2.1
            have v2p3 := v2p.2.2.1
            have v2p4 := v2p.2.2.2
            refine ⟨tags_two v2o.tags, ?_⟩
            simp -dsimp only [go_sem, vs2, vs3, vs6, vs7, vp1, vp2, vp3, e1, e2, e3, c1, c2, c3, xvp1, xvp2, xvp3, up1, up2, up3, yp1, yp2, yp3, m1p1, m1p2, m1p3, m2p1, m2p2, m2p3, hk, m3p1, m3p2, m3p3, hk2, r2p1, r2p2, r2p3, u2p1, u2p2, u2p3, v2p1, v2p2, v2p3]
            intro g19 b19 hb19
            exact hK _ ⟨_, _, _, _, _, rfl, by omega, by simp -dsimp only [go_sem], by simp -dsimp only [go_sem], by simp -dsimp only [go_sem], by simp -dsimp only [go_sem], by simp -dsimp only [go_sem], by simp -dsimp only [go_sem], v2i⟩
          · intro g19 b19 hb19
            refine xcall_p (append_p _ _ _ _ r2i u2i hs hs2 r2i.data u2i.data) (by simp -dsimp only [go_sem, rl_still, r2p4, u2p4]) fun v2lo v2hi v2w hv2lo hv2hi hv2w => ?_
            obtain ⟨v2, rfl, hv2⟩ := hv2w.out
            have v2o := hv2.2
            have v2i := hv2.1
            have v2p := shp_log _ _ v2i
            have v2p1 := v2p.1
            have v2p2 := v2p.2.1
            have v2p3 := v2p.2.2.1
            have v2p4 := v2p.2.2.2
            refine ⟨tags_two v2o.tags, ?_⟩
            simp -dsimp only [go_sem, vs2, vs3, vs6, vs7, vp1, vp2, vp3, e1, e2, e3, c1, c2, c3, xvp1, xvp2, xvp3, up1, up2, up3, yp1, yp2, yp3, m1p1, m1p2, m1p3, m2p1, m2p2, m2p3, hk, m3p1, m3p2, m3p3, hk2, r2p1, r2p2, r2p3, u2p1, u2p2, u2p3, v2p1, v2p2, v2p3]
            exact hK _ ⟨_, _, _, _, _, rfl, by omega, by simp -dsimp only [go_sem], by simp -dsimp only [go_sem], by simp -dsimp only [go_sem], by simp -dsimp only [go_sem], by simp -dsimp only [go_sem], by simp -dsimp only [go_sem], v2i⟩
        · intro g19 b19 hb19
          refine xcall_p (toRec_p _ _ hS hs2) (by simp -dsimp only [go_sem, rl_still, c4]) fun u2lo u2hi u2 hu2lo hu2hi hu2 => ?_
          have u2o := hu2.2
          have u2i := hu2.1
          have u2p := shp_rec _ _ u2i
          have u2p1 := u2p.1
          have u2p2 := u2p.2.1
          have u2p3 := u2p.2.2.1
          have u2p4 := u2p.2.2.2
          refine ⟨u2o.tags, ?_⟩
          simp -dsimp only [go_sem, vs2, vs3, vs6, vs7, vp1, vp2, vp3, e1, e2, e3, c1, c2, c3, xvp1, xvp2, xvp3, up1, up2, up3, yp1, yp2, yp3, m1p1, m1p2, m1p3, m2p1, m2p2, m2p3, hk, m3p1, m3p2, m3p3, hk2, r2p1, r2p2, r2p3, u2p1, u2p2, u2p3]
          refine xcall_p (append_p _ _ _ _ r2i u2i hs hs2 r2i.data u2i.data) (by simp -dsimp only [go_sem, rl_still, r2p4, u2p4]) fun v2lo v2hi v2w hv2lo hv2hi hv2w => ?_
          obtain ⟨v2, rfl, hv2⟩ := hv2w.out
          have v2o := hv2.2
          have v2i := hv2.1
          have v2p := shp_log _ _ v2i
          have v2p1 := v2p.1
          have v2p2 := v2p.2.1
          have v2p3 := v2p.2.2.1
          have v2p4 := v2p.2.2.2
          refine ⟨tags_two v2o.tags, ?_⟩
          simp -dsimp only [go_sem, vs2, vs3, vs6, vs7, vp1, vp2, vp3, e1, e2, e3, c1, c2, c3, xvp1, xvp2, xvp3, up1, up2, up3, yp1, yp2, yp3, m1p1, m1p2, m1p3, m2p1, m2p2, m2p3, hk, m3p1, m3p2, m3p3, hk2, r2p1, r2p2, r2p3, u2p1, u2p2, u2p3, v2p1, v2p2, v2p3]
          exact hK _ ⟨_, _, _, _, _, rfl, by omega, by simp -dsimp only [go_sem], by simp -dsimp only [go_sem], by simp -dsimp only [go_sem], by simp -dsimp only [go_sem], by simp -dsimp only [go_sem], by simp -dsimp only [go_sem], v2i⟩
      · intro g19 b19 hb19
        refine xcall_p (toLog_p _ _ h hs) (by simp -dsimp only [go_sem, rl_still, e4]) fun r2lo r2hi r2 hr2lo hr2hi hr2 => ?_
        have r2o := hr2.2
        have r2i := hr2.1
        have r2p := shp_log _ _ r2i
        have r2p1 := r2p.1
        have r2p2 := r2p.2.1
        have r2p3 := r2p.2.2.1
        have r2p4 := r2p.2.2.2
        refine ⟨r2o.tags, ?_⟩
        simp -dsimp only [go_sem, vs2, vs3, vs6, vs7, vp1, vp2, vp3, e1, e2, e3, c1, c2, c3, xvp1, xvp2, xvp3, up1, up2, up3, yp1, yp2, yp3, m1p1, m1p2, m1p3, m2p1, m2p2, m2p3, hk, m3p1, m3p2, m3p3, hk2, r2p1, r2p2, r2p3]
        refine xcall_p (toRec_p _ _ hS hs2) (by simp -dsimp only [go_sem, rl_still, c4]) fun u2lo u2hi u2 hu2lo hu2hi hu2 => ?_
        have u2o := hu2.2
        have u2i := hu2.1
        have u2p := shp_rec _ _ u2i
        have u2p1 := u2p.1
        have u2p2 := u2p.2.1
        have u2p3 := u2p.2.2.1
        have u2p4 := u2p.2.2.2
        refine ⟨u2o.tags, ?_⟩
        simp -dsimp only [go_sem, vs2, vs3, vs6, vs7, vp1, vp2, vp3, e1, e2, e3, c1, c2, c3, xvp1, xvp2, xvp3, up1, up2, up3, yp1, yp2, yp3, m1p1, m1p2, m1p3, m2p1, m2p2, m2p3, hk, m3p1, m3p2, m3p3, hk2, r2p1, r2p2, r2p3, u2p1, u2p2, u2p3]
        refine xcall_p (append_p _ _ _ _ r2i u2i hs hs2 r2i.data u2i.data) (by simp -dsimp only [go_sem, rl_still, r2p4, u2p4]) fun v2lo v2hi v2w hv2lo hv2hi hv2w => ?_
        obtain ⟨v2, rfl, hv2⟩ := hv2w.out
        have v2o := hv2.2
        have v2i := hv2.1
        have v2p := shp_log _ _ v2i
        have v2p1 := v2p.1
        have v2p2 := v2p.2.1
        have v2p3 := v2p.2.2.1
        have v2p4 := v2p.2.2.2
        refine ⟨tags_two v2o.tags, ?_⟩
        simp -dsimp only [go_sem, vs2, vs3, vs6, vs7, vp1, vp2, vp3, e1, e2, e3, c1, c2, c3, xvp1, xvp2, xvp3, up1, up2, up3, yp1, yp2, yp3, m1p1, m1p2, m1p3, m2p1, m2p2, m2p3, hk, m3p1, m3p2, m3p3, hk2, r2p1, r2p2, r2p3, u2p1, u2p2, u2p3, v2p1, v2p2, v2p3]
        exact hK _ ⟨_, _, _, _, _, rfl, by omega, by simp -dsimp only [go_sem], by simp -dsimp only [go_sem], by simp -dsimp only [go_sem], by simp -dsimp only [go_sem], by simp -dsimp only [go_sem], by simp -dsimp only [go_sem], v2i⟩
  · intro K hK
    simp -dsimp only [go_sem, e1, e2, e3, c1, c2, c3]
    refine ⟨?_, ?_⟩
    · refine xcall_p (toLog_p _ _ h hs) (by simp -dsimp only [go_sem, rl_still, e4]) fun rlo rhi r hrlo hrhi hr => ?_
      have ro := hr.2
      have ri := hr.1
      have rp := shp_log _ _ ri
      have rp1 := rp.1
      have rp2 := rp.2.1
      have rp3 := rp.2.2.1
      have rp4 := rp.2.2.2
      refine ⟨ro.tags, ?_⟩
      simp -dsimp only [go_sem, e1, e2, e3, c1, c2, c3, rp1, rp2, rp3]
      refine ⟨?_, ?_⟩
      · refine xcall_p (toRec_p _ _ hS hs2) (by simp -dsimp only [go_sem, rl_still, c4]) fun ulo uhi u hulo huhi hu => ?_
        have uo := hu.2
        have ui := hu.1
        have up := shp_rec _ _ ui
        have up1 := up.1
        have up2 := up.2.1
        have up3 := up.2.2.1
        have up4 := up.2.2.2
        refine ⟨uo.tags, ?_⟩
        simp -dsimp only [go_sem, e1, e2, e3, c1, c2, c3, rp1, rp2, rp3, up1, up2, up3]
        refine ⟨?_, ?_⟩
        · refine xcall_p (specAppend_p _ _ _ _ ri ui hs hs2 ri.data ui.data) (by simp -dsimp only [go_sem, rl_still, rp4, up4]) fun vlo vhi vw hvlo hvhi hvw => ?_
          obtain ⟨v, rfl, hv⟩ := hvw.out
          have vo := hv.2
          have vi := hv.1
          have vp := shp_log _ _ vi
          have vp1 := vp.1
          have vp2 := vp.2.1
          have vp3 := vp.2.2.1
          have vp4 := vp.2.2.2
          refine ⟨tags_two vo.tags, ?_⟩
          simp -dsimp only [go_sem, e1, e2, e3, c1, c2, c3, rp1, rp2, rp3, up1, up2, up3, vp1, vp2, vp3]
          intro g b hb
          exact hK _ ⟨_, _, _, _, _, rfl, by omega, by simp -dsimp only [go_sem], by simp -dsimp only [go_sem], by simp -dsimp only [go_sem], by simp -dsimp only [go_sem], vi, vo.mono (by omega) (by omega)⟩
        · intro g b hb
          refine xcall_p (specAppend_p _ _ _ _ ri ui hs hs2 ri.data ui.data) (by simp -dsimp only [go_sem, rl_still, rp4, up4]) fun vlo vhi vw hvlo hvhi hvw => ?_
          obtain ⟨v, rfl, hv⟩ := hvw.out
          have vo := hv.2
          have vi := hv.1
          have vp := shp_log _ _ vi
          have vp1 := vp.1
          have vp2 := vp.2.1
          have vp3 := vp.2.2.1
          have vp4 := vp.2.2.2
          refine ⟨tags_two vo.tags, ?_⟩
          simp -dsimp only [go_sem, e1, e2, e3, c1, c2, c3, rp1, rp2, rp3, up1, up2, up3, vp1, vp2, vp3]
          exact hK _ ⟨_, _, _, _, _, rfl, by omega, by simp -dsimp only [go_sem], by simp -dsimp only [go_sem], by simp -dsimp only [go_sem], by simp -dsimp only [go_sem], vi, vo.mono (by omega) (by omega)⟩
      · intro g b hb
        refine xcall_p (toRec_p _ _ hS hs2) (by simp -dsimp only [go_sem, rl_still, c4]) fun ulo uhi u hulo huhi hu => ?_
        have uo := hu.2
        have ui := hu.1
        have up := shp_rec _ _ ui
        have up1 := up.1
        have up2 := up.2.1
        have up3 := up.2.2.1
        have up4 := up.2.2.2
        refine ⟨uo.tags, ?_⟩
        simp -dsimp only [go_sem, e1, e2, e3, c1, c2, c3, rp1, rp2, rp3, up1, up2, up3]
        refine xcall_p (specAppend_p _ _ _ _ ri ui hs hs2 ri.data ui.data) (by simp -dsimp only [go_sem, rl_still, rp4, up4]) fun vlo vhi vw hvlo hvhi hvw => ?_
        obtain ⟨v, rfl, hv⟩ := hvw.out
        have vo := hv.2
        have vi := hv.1
        have vp := shp_log _ _ vi
        have vp1 := vp.1
        have vp2 := vp.2.1
        have vp3 := vp.2.2.1
        have vp4 := vp.2.2.2
        refine ⟨tags_two vo.tags, ?_⟩
        simp -dsimp only [go_sem, e1, e2, e3, c1, c2, c3, rp1, rp2, rp3, up1, up2, up3, vp1, vp2, vp3]
        exact hK _ ⟨_, _, _, _, _, rfl, by omega, by simp -dsimp only [go_sem], by simp -dsimp only [go_sem], by simp -dsimp only [go_sem], by simp -dsimp only [go_sem], vi, vo.mono (by omega) (by omega)⟩
    · intro g b hb
      refine xcall_p (toLog_p _ _ h hs) (by simp -dsimp only [go_sem, rl_still, e4]) fun rlo rhi r hrlo hrhi hr => ?_
      have ro := hr.2
      have ri := hr.1
      have rp := shp_log _ _ ri
      have rp1 := rp.1
      have rp2 := rp.2.1
      have rp3 := rp.2.2.1
      have rp4 := rp.2.2.2
      refine ⟨ro.tags, ?_⟩
      simp -dsimp only [go_sem, e1, e2, e3, c1, c2, c3, rp1, rp2, rp3]
      refine xcall_p (toRec_p _ _ hS hs2) (by simp -dsimp only [go_sem, rl_still, c4]) fun ulo uhi u hulo huhi hu => ?_
      have uo := hu.2
      have ui := hu.1
      have up := shp_rec _ _ ui
      have up1 := up.1
      have up2 := up.2.1
      have up3 := up.2.2.1
      have up4 := up.2.2.2
      refine ⟨uo.tags, ?_⟩
      simp -dsimp only [go_sem, e1, e2, e3, c1, c2, c3, rp1, rp2, rp3, up1, up2, up3]
      refine xcall_p (specAppend_p _ _ _ _ ri ui hs hs2 ri.data ui.data) (by simp -dsimp only [go_sem, rl_still, rp4, up4]) fun vlo vhi vw hvlo hvhi hvw => ?_
      obtain ⟨v, rfl, hv⟩ := hvw.out
      have vo := hv.2
      have vi := hv.1
      have vp := shp_log _ _ vi
      have vp1 := vp.1
      have vp2 := vp.2.1
      have vp3 := vp.2.2.1
      have vp4 := vp.2.2.2
      refine ⟨tags_two vo.tags, ?_⟩
      simp -dsimp only [go_sem, e1, e2, e3, c1, c2, c3, rp1, rp2, rp3, up1, up2, up3, vp1, vp2, vp3]
      exact hK _ ⟨_, _, _, _, _, rfl, by omega, by simp -dsimp only [go_sem], by simp -dsimp only [go_sem], by simp -dsimp only [go_sem], by simp -dsimp only [go_sem], vi, vo.mono (by omega) (by omega)⟩
end Go.Proofs.Ytpepddckmddbiaa.IM
end
