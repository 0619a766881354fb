/- Several of my texts in one module (merge.py, shake.py). -/
import Derived.Test.YtncinhlaabdlaaaGreatCrB57
import Derived.Test.YtncinhlaabdlaaaGreatCrB54
import Derived.Test.YtncinhlaabdlaaaGreatCrB43
import Derived.Test.YtncinhlaabdlaaaGreatCrB44
import Derived.Test.YtncinhlaabdlaaaGreatCrA4
section
namespace Go.Proofs.YtncinhlaabdlaaaGreat.IM
open Go Go.Proofs
set_option linter.unusedVariables false
set_option linter.unusedSimpArgs false
set_option maxHeartbeats 2000000
set_option maxRecDepth 20000
def offE (x : Md.Engine) : Md.Engine := { x with pool := ⟨[], 0⟩, txs := [], holds := [], down := true }
def crashDo (x : Md.Engine) (keep : Int) : Md.Engine := if engineOk x = true ∧ 0 ≤ keep then offE { x with log := tear x.log keep } else x
theorem l8Off_b (q : Nat → D) (x : Md.Engine) (lo hi : Nat) (h : EngF q x) (ho : Own lo hi (.node engK q)) :
    BCall Tryz.prog 86 .nil (.node engK q) [] fun n0 n1 d' _ => Eng (min lo n0) n1 n0 (.node engK q) d' (offE x) := by
  refine bcall_intro Tryz.func86 rfl (by decide) rfl (by decide) (by rw [Tryz.ntmps86]; simp) fun w0 M n0 gb hW hS hT hgb => ivc_sound ?_; simp -dsimp only [Tryz.f86, go_sem, h.z0, h.p0, h.n0, h.z1, h.p1, h.n1, h.z2, h.p2, h.n2, h.z3, h.p3, h.n3, h.l3, h.z4, h.p4, h.n4, h.l4, h.q5, h.q6]
  have ho' := own_lt ho (hT _ (List.mem_cons_self ..) (whole_data ho.wh))
  intro g1 b1 hb1 g2 b2 hb2
  refine ⟨_, rfl, fun n1 hn1 hfc => ?_⟩
  rw [rl_node]
  have hz : (D.node (.agg [1, 1]) (nthD [.nil, .lit (.int .i64 0)])).still := (shp_pool _ _ isPool_z).2.2.2
  have hz3 : (D.node (.agg [1, 1, 1]) (nthD [.lit (.int .i64 0), .lit (.int .i64 0), .lit (.bool false)])).still := stN (by simp only [stillL_nil, stillL_cons, still_lit, still_nil, still_any, still_nodeN, still_nodeC, and_self])
  have hz4 : (D.node (.agg [1, 1]) (nthD [.lit (.int .i64 0), .lit (.int .i64 0)])).still := stN (by simp only [stillL_nil, stillL_cons, still_lit, still_nil, still_any, still_nodeN, still_nodeC, and_self])
  simp only [rlsK_upd, rls_still h.st, rl_still hz]
  simp -dsimp only [go_sem, rl_still hz3, rl_still hz4, rl_lit]
  have z3 := fin_zero (R := IsLive) (sz := 3) (lo := b1) (hi := n1) (b := b1) (zb := true) (f := fun _ => .node (.agg [1, 1, 1]) (nthD [.lit (.int .i64 0), .lit (.int .i64 0), .lit (.bool false)])) (fun _ => hz3) rfl (Nat.le_refl _) (by omega)
  have z4 := fin_zero (R := IsHold) (sz := 2) (lo := b2) (hi := n1) (b := b2) (zb := true) (f := fun _ => .node (.agg [1, 1]) (nthD [.lit (.int .i64 0), .lit (.int .i64 0)])) (fun _ => hz4) rfl (Nat.le_refl _) (by omega)
  have z3o := fin_zero (R := IsLive) (sz := 3) (lo := b1) (hi := b2) (b := b1) (zb := true) (f := fun _ => .node (.agg [1, 1, 1]) (nthD [.lit (.int .i64 0), .lit (.int .i64 0), .lit (.bool false)])) (fun _ => hz3) rfl (Nat.le_refl _) (by omega)
  have E := (((h.pool isPool_z).txs z3.1).holds z4.1).down (l := true) rfl
  have P := ((((Put.refl (m := n0) ho' (Nat.le_refl _)).step0 (i := 1) (by decide) tl_zPool wh_zPool).step (i := 3) (by decide) z3o.2 (by omega) (by omega) (by omega) (by omega)).step (i := 4) (by decide) z4.2 (by omega) (by omega) (by omega) (by omega)).step0 (i := 6) (r := .lit (.bool true)) (by decide) rfl trivial
  exact Eng.fin (hi := n1) ⟨E.is, P⟩ ⟨E.is, P⟩ ret0_tags
theorem crash_no {x : Md.Engine} {keep : Int} (h : ¬ (engineOk x = true ∧ 0 ≤ keep)) : crashDo x keep = x := if_neg h
theorem crash_yes {x : Md.Engine} {keep : Int} (h : engineOk x = true) (hk : 0 ≤ keep) : crashDo x keep = offE { x with log := tear x.log keep } := if_pos ⟨h, hk⟩
theorem szLog_le {x : Md.Engine} (hs : Md.szEngine x ≤ 1048576) : Md.szLog x.log ≤ 1048576 := by unfold Md.szEngine at hs; omega
theorem specCrash_p (d : D) (x : Md.Engine) (keep : Int) (h : IsEngine d x) (hs : Md.szEngine x ≤ 1048576) (hd : d.data) : PCall Tryz.prog 26 [d, .lit (.int .i64 keep)] fun n0 n1 r => One (fun r => IsEngine r (crashDo x keep) ∧ Own n0 n1 r) r := by
  have hp := h
  have eq := shp_engine _ _ h
  have e4 := eq.2.2.2
  have e1 := eq.1
  have e2 := eq.2.1
  have e3 := eq.2.2.1
  obtain ⟨f, rfl, hf⟩ := h.node
  have l4 := (shp_log _ _ hf.q2).2.2.2
  refine pcall_intro_t Tryz.func26 rfl (by decide) rfl (by decide) (by rw [Tryz.ntmps26]; simp) fun w0 M n0 hW hT => ivc_sound ?_; simp -dsimp only [Tryz.f26, go_sem, hf.z0, hf.p0, hf.n0, hf.z1, hf.p1, hf.n1, hf.z2, hf.p2, hf.n2, hf.z3, hf.p3, hf.n3, hf.l3, hf.z4, hf.p4, hf.n4, hf.l4, hf.q5, hf.q6, e1, e2, e3]
  intro g1 b1 hb1 g2 b2 hb2
  refine xcall_p (l7Copy_p _ _ hp hs) (by simp -dsimp only [go_sem, rl_still, e4]) fun m0 p0 r0 hm0 hp0 hr0 => ?_
  have hm0' : b2 + 1 ≤ m0 := hm0
  refine ⟨hr0.2.tags, ?_⟩
  obtain ⟨q, rfl, hq⟩ := hr0.1.node
  have ho := hr0.2
  simp -dsimp only [go_sem, hf.z0, hf.p0, hf.n0, hf.z1, hf.p1, hf.n1, hf.z2, hf.p2, hf.n2, hf.z3, hf.p3, hf.n3, hf.l3, hf.z4, hf.p4, hf.n4, hf.l4, hf.q5, hf.q6, e1, e2, e3, hq.z0, hq.p0, hq.n0, hq.z1, hq.p1, hq.n1, hq.z2, hq.p2, hq.n2, hq.z3, hq.p3, hq.n3, hq.l3, hq.z4, hq.p4, hq.n4, hq.l4, hq.q5, hq.q6]
  intro g5 b5 hb5
  have hb5' : p0 ≤ b5 := hb5
  refine xcall_v (specEngineOk_p _ x hp hs) (by simp -dsimp only [go_sem, rl_still, e4]) (fun _ => trivial) fun n2 hn2 => ?_
  have hn2' : b5 + 1 ≤ n2 := hn2
  rcases Bool.eq_false_or_eq_true (engineOk x) with hok | hok
  rotate_left
  · simp -dsimp only [go_sem, hf.z0, hf.p0, hf.n0, hf.z1, hf.p1, hf.n1, hf.z2, hf.p2, hf.n2, hf.z3, hf.p3, hf.n3, hf.l3, hf.z4, hf.p4, hf.n4, hf.l4, hf.q5, hf.q6, e1, e2, e3, hq.z0, hq.p0, hq.n0, hq.z1, hq.p1, hq.n1, hq.z2, hq.p2, hq.n2, hq.z3, hq.p3, hq.n3, hq.l3, hq.z4, hq.p4, hq.n4, hq.l4, hq.q5, hq.q6, hok]
    intro n1 hn1 hfc
    rw [rlnode_still hq.st]
    exact .mk ⟨by rw [crash_no (by simp [hok])]; exact hr0.1, ho.mono (by omega) (by omega)⟩
  by_cases hk : keep < 0
  · simp -dsimp only [go_sem, hf.z0, hf.p0, hf.n0, hf.z1, hf.p1, hf.n1, hf.z2, hf.p2, hf.n2, hf.z3, hf.p3, hf.n3, hf.l3, hf.z4, hf.p4, hf.n4, hf.l4, hf.q5, hf.q6, e1, e2, e3, hq.z0, hq.p0, hq.n0, hq.z1, hq.p1, hq.n1, hq.z2, hq.p2, hq.n2, hq.z3, hq.p3, hq.n3, hq.l3, hq.z4, hq.p4, hq.n4, hq.l4, hq.q5, hq.q6, hok, hk]
    intro n1 hn1 hfc
    rw [rlnode_still hq.st]
    exact .mk ⟨by rw [crash_no (by omega)]; exact hr0.1, ho.mono (by omega) (by omega)⟩
  simp -dsimp only [go_sem, hf.z0, hf.p0, hf.n0, hf.z1, hf.p1, hf.n1, hf.z2, hf.p2, hf.n2, hf.z3, hf.p3, hf.n3, hf.l3, hf.z4, hf.p4, hf.n4, hf.l4, hf.q5, hf.q6, e1, e2, e3, hq.z0, hq.p0, hq.n0, hq.z1, hq.p1, hq.n1, hq.z2, hq.p2, hq.n2, hq.z3, hq.p3, hq.n3, hq.l3, hq.z4, hq.p4, hq.n4, hq.l4, hq.q5, hq.q6, hok, hk]
  refine xcall_p (specTear_p _ _ keep hf.q2 (szLog_le hs) (hf.q2.data)) (by simp -dsimp only [go_sem, rl_still, l4]) fun m2 p2 r2 hm2 hp2 hr2w => ?_
  have hr2 := hr2w.out
  have hm2' : n2 ≤ m2 := hm2
  have lp := shp_log _ _ hr2.1
  refine ⟨hr2.2.tags, ?_⟩
  simp -dsimp only [go_sem, hf.z0, hf.p0, hf.n0, hf.z1, hf.p1, hf.n1, hf.z2, hf.p2, hf.n2, hf.z3, hf.p3, hf.n3, hf.l3, hf.z4, hf.p4, hf.n4, hf.l4, hf.q5, hf.q6, e1, e2, e3, hq.z0, hq.p0, hq.n0, hq.z1, hq.p1, hq.n1, hq.z2, hq.p2, hq.n2, hq.z3, hq.p3, hq.n3, hq.l3, hq.z4, hq.p4, hq.n4, hq.l4, hq.q5, hq.q6, lp.1, lp.2.1, lp.2.2.1]
  have E := hq.log hr2.1
  have P := (Put.refl (m := m0) (hi' := p0) ho (Nat.le_refl _)).step (i := 2) (by decide) hr2.2 (by omega) (by omega) (by omega) (by omega)
  refine xcall_cs (l := 5) (g := g5) (b := b5) (l8Off_b _ _ m0 p2 E P.own) (by simp -dsimp only [go_sem]) trivial (by simp -dsimp only [go_sem]) E.is.still fun n3 n4 d' r hn3 hn4 hE => ?_
  have hn3' : p2 ≤ n3 := hn3
  have dp := shp_engine _ _ hE.is
  simp -dsimp only [go_sem, dp.1, dp.2.1, dp.2.2.1]
  intro n1 hn1 hfc
  rw [rl_still dp.2.2.2]
  have hn1' : n4 ≤ n1 := hn1
  exact .mk ⟨by rw [crash_yes hok (by omega)]; exact hE.is, hE.put.own.mono (by omega) (by omega)⟩
theorem crash_p (d : D) (x : Md.Engine) (keep : Int) (h : IsEngine d x) (hs : Md.szEngine x ≤ 1048576) (hd : d.data) : PCall Tryz.prog 27 [d, .lit (.int .i64 keep)] fun n0 n1 r => One (fun r => IsEngine r (crashDo x keep) ∧ Own n0 n1 r) r := by
  have hp := h
  have eq := shp_engine _ _ h
  have e4 := eq.2.2.2
  have e1 := eq.1
  have e2 := eq.2.1
  have e3 := eq.2.2.1
  obtain ⟨f, rfl, hf⟩ := h.node
  have l4 := (shp_log _ _ hf.q2).2.2.2
  refine pcall_intro_t Tryz.func27 rfl (by decide) rfl (by decide) (by rw [Tryz.ntmps27]; simp) fun w0 M n0 hW hT => ivc_sound ?_; simp -dsimp only [Tryz.f27, go_sem, hf.z0, hf.p0, hf.n0, hf.z1, hf.p1, hf.n1, hf.z2, hf.p2, hf.n2, hf.z3, hf.p3, hf.n3, hf.l3, hf.z4, hf.p4, hf.n4, hf.l4, hf.q5, hf.q6, e1, e2, e3]
  intro g1 b1 hb1 g2 b2 hb2
  refine xcall_p (cloneEngine_p _ _ hp hs) (by simp -dsimp only [go_sem, rl_still, e4]) fun m0 p0 r0 hm0 hp0 hr0 => ?_
  have hm0' : b2 + 1 ≤ m0 := hm0
  refine ⟨hr0.2.tags, ?_⟩
  obtain ⟨q, rfl, hq⟩ := hr0.1.node
  have ho := hr0.2
  simp -dsimp only [go_sem, hf.z0, hf.p0, hf.n0, hf.z1, hf.p1, hf.n1, hf.z2, hf.p2, hf.n2, hf.z3, hf.p3, hf.n3, hf.l3, hf.z4, hf.p4, hf.n4, hf.l4, hf.q5, hf.q6, e1, e2, e3, hq.z0, hq.p0, hq.n0, hq.z1, hq.p1, hq.n1, hq.z2, hq.p2, hq.n2, hq.z3, hq.p3, hq.n3, hq.l3, hq.z4, hq.p4, hq.n4, hq.l4, hq.q5, hq.q6]
  intro g5 b5 hb5
  have hb5' : p0 ≤ b5 := hb5
  refine xcall_v (engineOk_p _ x hp hs hd) (by simp -dsimp only [go_sem, rl_still, e4]) (fun _ => trivial) fun n2 hn2 => ?_
  have hn2' : b5 + 1 ≤ n2 := hn2
  rcases Bool.eq_false_or_eq_true (engineOk x) with hok | hok
  rotate_left
  · simp -dsimp only [go_sem, hf.z0, hf.p0, hf.n0, hf.z1, hf.p1, hf.n1, hf.z2, hf.p2, hf.n2, hf.z3, hf.p3, hf.n3, hf.l3, hf.z4, hf.p4, hf.n4, hf.l4, hf.q5, hf.q6, e1, e2, e3, hq.z0, hq.p0, hq.n0, hq.z1, hq.p1, hq.n1, hq.z2, hq.p2, hq.n2, hq.z3, hq.p3, hq.n3, hq.l3, hq.z4, hq.p4, hq.n4, hq.l4, hq.q5, hq.q6, hok]
    intro n1 hn1 hfc
    rw [rlnode_still hq.st]
    exact .mk ⟨by rw [crash_no (by simp [hok])]; exact hr0.1, ho.mono (by omega) (by omega)⟩
  by_cases hk : keep < 0
  · simp -dsimp only [go_sem, hf.z0, hf.p0, hf.n0, hf.z1, hf.p1, hf.n1, hf.z2, hf.p2, hf.n2, hf.z3, hf.p3, hf.n3, hf.l3, hf.z4, hf.p4, hf.n4, hf.l4, hf.q5, hf.q6, e1, e2, e3, hq.z0, hq.p0, hq.n0, hq.z1, hq.p1, hq.n1, hq.z2, hq.p2, hq.n2, hq.z3, hq.p3, hq.n3, hq.l3, hq.z4, hq.p4, hq.n4, hq.l4, hq.q5, hq.q6, hok, hk]
    intro n1 hn1 hfc
    rw [rlnode_still hq.st]
    exact .mk ⟨by rw [crash_no (by omega)]; exact hr0.1, ho.mono (by omega) (by omega)⟩
  simp -dsimp only [go_sem, hf.z0, hf.p0, hf.n0, hf.z1, hf.p1, hf.n1, hf.z2, hf.p2, hf.n2, hf.z3, hf.p3, hf.n3, hf.l3, hf.z4, hf.p4, hf.n4, hf.l4, hf.q5, hf.q6, e1, e2, e3, hq.z0, hq.p0, hq.n0, hq.z1, hq.p1, hq.n1, hq.z2, hq.p2, hq.n2, hq.z3, hq.p3, hq.n3, hq.l3, hq.z4, hq.p4, hq.n4, hq.l4, hq.q5, hq.q6, hok, hk]
  refine xcall_p (tear_p _ _ keep hf.q2 (szLog_le hs) (hf.q2.data)) (by simp -dsimp only [go_sem, rl_still, l4]) fun m2 p2 r2 hm2 hp2 hr2w => ?_
  have hr2 := hr2w.out
  have hm2' : n2 ≤ m2 := hm2
  have lp := shp_log _ _ hr2.1
  refine ⟨hr2.2.tags, ?_⟩
  simp -dsimp only [go_sem, hf.z0, hf.p0, hf.n0, hf.z1, hf.p1, hf.n1, hf.z2, hf.p2, hf.n2, hf.z3, hf.p3, hf.n3, hf.l3, hf.z4, hf.p4, hf.n4, hf.l4, hf.q5, hf.q6, e1, e2, e3, hq.z0, hq.p0, hq.n0, hq.z1, hq.p1, hq.n1, hq.z2, hq.p2, hq.n2, hq.z3, hq.p3, hq.n3, hq.l3, hq.z4, hq.p4, hq.n4, hq.l4, hq.q5, hq.q6, lp.1, lp.2.1, lp.2.2.1]
  have E := hq.log hr2.1
  have P := (Put.refl (m := m0) (hi' := p0) ho (Nat.le_refl _)).step (i := 2) (by decide) hr2.2 (by omega) (by omega) (by omega) (by omega)
  intro n1 hn1 hfc
  have hn1' : p2 ≤ n1 := hn1
  have E2 := (((E.pool isPool_z).txs (.inl ⟨rfl, rfl⟩)).holds (.inl ⟨rfl, rfl⟩)).down (l := true) rfl
  have P2 := (((P.step0 (i := 1) (by decide) tl_zPool wh_zPool).step0 (i := 3) (r := .nil) (by decide) rfl trivial).step0 (i := 4) (r := .nil) (by decide) rfl trivial).step0 (i := 6) (r := .lit (.bool true)) (by decide) rfl trivial
  refine rl_eq (rlnode_still E2.st) ?_
  exact .mk ⟨by rw [crash_yes hok (by omega)]; exact E2.is, P2.own.mono (by omega) (by omega)⟩
theorem c_crash (x : Md.Engine) (keep : Int) : Md.cEngine (crashDo x keep) ≤ 10 * Md.szEngine x := by
  have h := cEngine_le x
  have h2 := c_tear x.log keep
  unfold crashDo
  split
  · have e : Md.cEngine (offE { x with log := tear x.log keep }) = Md.sumBy Md.szPage x.disk + Md.cPool ⟨[], 0⟩ + Md.cLog (tear x.log keep) + 3 * 0 + 2 * 0 := rfl
    have h3 : Md.cPool ⟨[], 0⟩ = 0 := rfl
    rw [e, h3]
    unfold Md.szEngine
    omega
  · exact h
theorem lawCrash (d : D) (x : Md.Engine) (keep : Int) (h : IsEngine d x) : PCall Tryz.prog 6 [d, .lit (.int .i64 keep)] fun _ _ r => r = .lit (.bool true) := by
  have e := shp_engine _ _ h
  have e1 := e.1
  have e2 := e.2.1
  have e3 := e.2.2.1
  have e4 := e.2.2.2
  refine pcall_intro_vt Tryz.func6 rfl (by decide) rfl (by decide) (by rw [Tryz.ntmps6]; simp) fun w0 M n0 hW hT => ivc_sound ?_; simp -dsimp only [Tryz.f6, go_sem, e1, e2, e3]
  have dT : d.tags (· < n0) := hT d (by simp) h.data
  intro g1 b1 hb1
  refine xcall_v (szEngine_p _ _ h 1048576 (by decide) (by decide)) (by simp -dsimp only [go_sem, rl_still, e4]) (fun _ => trivial) fun n1 hn1 => ?_
  simp -dsimp only [go_sem]
  intro hb
  have hs : Md.szEngine x ≤ 1048576 := by
    have := Md.szR_le _ _ hb
    omega
  simp -dsimp only [go_sem, e1, e2, e3]
  refine xcall_p (toEngine_p _ _ h hs) (by simp -dsimp only [go_sem, rl_still, e4]) fun rlo rhi r hrlo hrhi hr => ?_
  have ro := hr.2
  have ri := hr.1
  have rp := shp_engine _ _ ri
  have rp1 := rp.1
  have rp2 := rp.2.1
  have rp3 := rp.2.2.1
  have rp4 := rp.2.2.2
  refine ⟨ro.tags, ?_⟩
  simp -dsimp only [go_sem, e1, e2, e3, rp1, rp2, rp3]
  refine xcall_p (specCrash_p _ _ keep ri hs ri.data) (by simp -dsimp only [go_sem, rl_still, rp4]) fun vlo vhi v hvlo hvhi hvw => ?_
  have hv := hvw.out
  have vo := hv.2
  have vi := hv.1
  have vp := shp_engine _ _ vi
  have vp1 := vp.1
  have vp2 := vp.2.1
  have vp3 := vp.2.2.1
  have vp4 := vp.2.2.2
  refine ⟨vo.tags, ?_⟩
  simp -dsimp only [go_sem, e1, e2, e3, rp1, rp2, rp3, vp1, vp2, vp3]
  intro g b hb
  refine xcall_p (toEngine_p _ _ h hs) (by simp -dsimp only [go_sem, rl_still, e4]) fun xvlo xvhi xv hxvlo hxvhi hxv => ?_
  have xvo := hxv.2
  have xvi := hxv.1
  have xvp := shp_engine _ _ xvi
  have xvp1 := xvp.1
  have xvp2 := xvp.2.1
  have xvp3 := xvp.2.2.1
  have xvp4 := xvp.2.2.2
  refine ⟨xvo.tags, ?_⟩
  simp -dsimp only [go_sem, e1, e2, e3, vp1, vp2, vp3, xvp1, xvp2, xvp3]
  intro g12 b12 hb12
  refine xcall_p (crash_p _ _ keep xvi hs xvi.data) (by simp -dsimp only [go_sem, rl_still, xvp4]) fun ylo yhi y hylo hyhi hyw => ?_
  have hy := hyw.out
  have yo := hy.2
  have yi := hy.1
  have yp := shp_engine _ _ yi
  have yp1 := yp.1
  have yp2 := yp.2.1
  have yp3 := yp.2.2.1
  have yp4 := yp.2.2.2
  refine ⟨yo.tags, ?_⟩
  simp -dsimp only [go_sem, e1, e2, e3, vp1, vp2, vp3, xvp1, xvp2, xvp3, yp1, yp2, yp3]
  intro g14 b14 hb14
  refine xcall_v (eqEngine_p _ _ _ yi vi) (by simp -dsimp only [go_sem, rl_still, yp4, vp4]) (fun _ => trivial) fun n4 hn4 => ?_
  simp -dsimp only [go_sem, e1, e2, e3, vp1, vp2, vp3, xvp1, xvp2, xvp3, yp1, yp2, yp3, bne_self_eq_false, Bool.not_true, Bool.not_false, Bool.false_eq_true, Bool.true_eq_false, false_imp_iff, true_and, and_true, forall_const, reduceCtorEq]
  refine iwp_plan [(0, true), (1, true), (2, false), (3, false), (4, true)] [2, 7] rfl (by decide +kernel) (by decide) [] (by decide +kernel) ?_
  simp -dsimp only [go_sem, e1, e2, e3, vp1, vp2, vp3, xvp1, xvp2, xvp3, yp1, yp2, yp3]
  refine xcall_p (toEngine_p _ _ h hs) (by simp -dsimp only [go_sem, rl_still, e4]) fun zlo zhi z hzlo hzhi hz => ?_
  have zo := hz.2
  have zi := hz.1
  have zp := shp_engine _ _ zi
  have zp1 := zp.1
  have zp2 := zp.2.1
  have zp3 := zp.2.2.1
  have zp4 := zp.2.2.2
  refine ⟨zo.tags, ?_⟩
  simp -dsimp only [go_sem, e1, e2, e3, vp1, vp2, vp3, xvp1, xvp2, xvp3, yp1, yp2, yp3, zp1, zp2, zp3]
  refine xcall_v (eqEngine_p _ _ _ xvi zi) (by simp -dsimp only [go_sem, rl_still, xvp4, zp4]) (fun _ => trivial) fun n4 hn4 => ?_
  simp -dsimp only [go_sem, e1, e2, e3, vp1, vp2, vp3, xvp1, xvp2, xvp3, yp1, yp2, yp3, zp1, zp2, zp3, bne_self_eq_false, Bool.not_true, Bool.not_false, Bool.false_eq_true, Bool.true_eq_false, false_imp_iff, true_and, and_true, forall_const, reduceCtorEq]
  have hcb := cEngine_le x
  have hz := c_crash x keep
  refine xcall_mk (markEngine_p xv x (1) _ _ xvi xvo (by decide) (by omega)) (by simp -dsimp only [go_sem, e1, e2, e3, vp1, vp2, vp3, xvp1, xvp2, xvp3, yp1, yp2, yp3]) xvp3 xvp4 ⟨trivial, trivial⟩ (fun t ht => hW t (by have := xvo.rg t ht; omega)) [1, 9, 2, 6, 7, 8] (fun _ _ => .any) (fun E => upd (upd (upd (upd (fun _ => none) 2 (some (g1, b1, d))) 6 (some (g, b, v))) 7 (some (g12, b12, E))) 8 (some (g14, b14, y))) fun m1 nm1 hnm1 hm1 =>
      ⟨by simp -dsimp only [go_sem, e1, e2, e3, vp1, vp2, vp3, xvp1, xvp2, xvp3, yp1, yp2, yp3], carry_any, ((((CarR.none _ _ _).upd e3 (carry_lo xvo (by omega) dT)).upd vp3 (carry_own xvo vo (.inr (by omega)))).upd (shp_engine _ _ hm1.rel).2.2.1 .here).upd yp3 (carry_own xvo yo (.inl (by omega))), ?_⟩
  have m1p := shp_engine _ _ hm1.rel
  have m1p1 := m1p.1
  have m1p2 := m1p.2.1
  have m1p3 := m1p.2.2.1
  have m1p4 := m1p.2.2.2
  have m1o := hm1.own xvo
  have m1i := hm1.rel
  have hk : ¬ (1 + (Md.cEngine x : Nat) < (0 : Int)) := by omega
  simp -dsimp only [go_sem, e1, e2, e3, vp1, vp2, vp3, xvp1, xvp2, xvp3, yp1, yp2, yp3, m1p1, m1p2, m1p3, hk, bne_self_eq_false, Bool.not_true, Bool.not_false, Bool.false_eq_true, Bool.true_eq_false, false_imp_iff, true_and, and_true, forall_const, reduceCtorEq, decide_false]
  refine xcall_v (eqEngine_p _ _ _ yi vi) (by simp -dsimp only [go_sem, rl_still, yp4, vp4]) (fun _ => trivial) fun n4 hn4 => ?_
  simp -dsimp only [go_sem, e1, e2, e3, vp1, vp2, vp3, xvp1, xvp2, xvp3, yp1, yp2, yp3, m1p1, m1p2, m1p3, hk, decide_false, bne_self_eq_false, Bool.not_true, Bool.not_false, Bool.false_eq_true, Bool.true_eq_false, false_imp_iff, true_and, and_true, forall_const, reduceCtorEq]
  refine xcall_mk (markEngine_p y _ (1) _ _ yi yo (by decide) (by omega)) (by simp -dsimp only [go_sem, e1, e2, e3, vp1, vp2, vp3, xvp1, xvp2, xvp3, yp1, yp2, yp3, m1p1, m1p2, m1p3, hk]) yp3 yp4 ⟨trivial, trivial⟩ (fun t ht => hW t (by have := yo.rg t ht; omega)) [1, 9, 2, 6, 7, 8] (fun _ _ => .any) (fun E => upd (upd (upd (upd (fun _ => none) 2 (some (g1, b1, d))) 6 (some (g, b, v))) 7 (some (g12, b12, m1))) 8 (some (g14, b14, E))) fun m3 nm3 hnm3 hm3 =>
      ⟨by simp -dsimp only [go_sem, e1, e2, e3, vp1, vp2, vp3, xvp1, xvp2, xvp3, yp1, yp2, yp3, m1p1, m1p2, m1p3, hk], carry_any, ((((CarR.none _ _ _).upd e3 (carry_lo yo (by omega) dT)).upd vp3 (carry_own yo vo (.inr (by omega)))).upd m1p3 (carry_own yo m1o (.inr (by omega)))).upd (shp_engine _ _ hm3.rel).2.2.1 .here, ?_⟩
  have m3p := shp_engine _ _ hm3.rel
  have m3p1 := m3p.1
  have m3p2 := m3p.2.1
  have m3p3 := m3p.2.2.1
  have m3p4 := m3p.2.2.2
  have m3o := hm3.own yo
  have m3i := hm3.rel
  simp -dsimp only [go_sem, e1, e2, e3, vp1, vp2, vp3, xvp1, xvp2, xvp3, yp1, yp2, yp3, m1p1, m1p2, m1p3, hk, m3p1, m3p2, m3p3]
  refine xcall_v (heldEngine_p _ (crashDo x keep) (1) m3i (by decide) (by omega)) (by simp -dsimp only [go_sem, rl_still, m3p4]) (fun _ => trivial) fun n7 hn7 => ?_
  have hk2 : ¬ (1 + (Md.cEngine (crashDo x keep) : Nat) < (0 : Int)) := by omega
  simp -dsimp only [go_sem, e1, e2, e3, vp1, vp2, vp3, xvp1, xvp2, xvp3, yp1, yp2, yp3, m1p1, m1p2, m1p3, hk, m3p1, m3p2, m3p3, hk2, bne_self_eq_false, Bool.not_true, Bool.not_false, Bool.false_eq_true, Bool.true_eq_false, false_imp_iff, true_and, and_true, forall_const, reduceCtorEq, decide_false]
  refine xcall_p (toEngine_p _ _ h hs) (by simp -dsimp only [go_sem, rl_still, e4]) fun r2lo r2hi r2 hr2lo hr2hi hr2 => ?_
  have r2o := hr2.2
  have r2i := hr2.1
  have r2p := shp_engine _ _ r2i
  have r2p1 := r2p.1
  have r2p2 := r2p.2.1
  have r2p3 := r2p.2.2.1
  have r2p4 := r2p.2.2.2
  refine ⟨r2o.tags, ?_⟩
  simp -dsimp only [go_sem, e1, e2, e3, vp1, vp2, vp3, xvp1, xvp2, xvp3, yp1, yp2, yp3, m1p1, m1p2, m1p3, hk, m3p1, m3p2, m3p3, hk2, r2p1, r2p2, r2p3]
  refine xcall_p (crash_p _ _ keep r2i hs r2i.data) (by simp -dsimp only [go_sem, rl_still, r2p4]) fun hvlo hvhi hv hhvlo hhvhi hhvw => ?_
  have hhv := hhvw.out
  have hvo := hhv.2
  have hvi := hhv.1
  have hvp := shp_engine _ _ hvi
  have hvp1 := hvp.1
  have hvp2 := hvp.2.1
  have hvp3 := hvp.2.2.1
  have hvp4 := hvp.2.2.2
  refine ⟨hvo.tags, ?_⟩
  simp -dsimp only [go_sem, e1, e2, e3, vp1, vp2, vp3, xvp1, xvp2, xvp3, yp1, yp2, yp3, m1p1, m1p2, m1p3, hk, m3p1, m3p2, m3p3, hk2, r2p1, r2p2, r2p3, hvp1, hvp2, hvp3]
  intro g19 b19 hb19
  refine xcall_v (eqEngine_p _ _ _ hvi vi) (by simp -dsimp only [go_sem, rl_still, hvp4, vp4]) (fun _ => trivial) fun n4 hn4 => ?_
  simp -dsimp only [go_sem, e1, e2, e3, vp1, vp2, vp3, xvp1, xvp2, xvp3, yp1, yp2, yp3, m1p1, m1p2, m1p3, hk, m3p1, m3p2, m3p3, hk2, hvp1, hvp2, hvp3, decide_false, bne_self_eq_false, Bool.not_true, Bool.not_false, Bool.false_eq_true, Bool.true_eq_false, false_imp_iff, true_and, and_true, forall_const, reduceCtorEq]
  refine xcall_v (heldEngine_p _ (crashDo x keep) (1) m3i (by decide) (by omega)) (by simp -dsimp only [go_sem, rl_still, m3p4]) (fun _ => trivial) fun n9 hn9 => ?_
  simp -dsimp only [go_sem, e1, e2, e3, vp1, vp2, vp3, xvp1, xvp2, xvp3, yp1, yp2, yp3, m1p1, m1p2, m1p3, hk, m3p1, m3p2, m3p3, hk2, hvp1, hvp2, hvp3, bne_self_eq_false, Bool.not_true, Bool.not_false, Bool.false_eq_true, Bool.true_eq_false, false_imp_iff, true_and, and_true, forall_const, reduceCtorEq, decide_false]
end Go.Proofs.YtncinhlaabdlaaaGreat.IM
end
