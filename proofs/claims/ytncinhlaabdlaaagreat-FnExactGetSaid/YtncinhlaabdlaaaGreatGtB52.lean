/- Several of my texts in one module (merge.py, shake.py). -/
import Derived.Test.YtncinhlaabdlaaaGreatGtB13
section
namespace Go.Proofs.YtncinhlaabdlaaaGreat.Md
def mkEngine (k : Int) (e : Engine) : Engine := ⟨mkL mkPage szPage k e.disk, mkPool (k + (sumBy szPage e.disk : Nat)) e.pool, mkLog (k + (sumBy szPage e.disk : Nat) + (cPool e.pool : Nat)) e.log, mkLives (k + (sumBy szPage e.disk : Nat) + (cPool e.pool : Nat) + (cLog e.log : Nat)) e.txs, mkHolds (k + (sumBy szPage e.disk : Nat) + (cPool e.pool : Nat) + (cLog e.log : Nat) + (3 * e.txs.length : Nat)) e.holds, e.next, e.down⟩
def cEngine (e : Engine) : Nat := sumBy szPage e.disk + cPool e.pool + cLog e.log + 3 * e.txs.length + 2 * e.holds.length
end Go.Proofs.YtncinhlaabdlaaaGreat.Md
namespace Go.Proofs.YtncinhlaabdlaaaGreat.IM
open Go Go.Proofs
set_option linter.unusedVariables false
set_option linter.unusedSimpArgs false
set_option maxHeartbeats 2000000
set_option maxRecDepth 20000
theorem markPageA8_p (d : D) (xs : List Md.Page) (k : Int) (lo hi : Nat) (h : IsA 8 17 IsPage d xs) (ho : Own lo hi d) (hk0 : 0 ≤ k) (hk1 : k + (Md.sumBy Md.szPage xs : Nat) ≤ 4611686018427387904) :
    MCall Tryz.prog 72 d [.lit (.int .i64 k)] (.int .i64 (k + (Md.sumBy Md.szPage xs : Nat))) (Mkd (IsA 8 17 IsPage) (Md.mkL Md.mkPage Md.szPage k xs) d) := by
  obtain ⟨hl, f, rfl, hst, hf⟩ := h
  have hn := ho.node
  have hlen : (Md.mkL Md.mkPage Md.szPage k xs).length = xs.length := Md.mkL_length _ _ _ _
  refine mcall_intro Tryz.func72 rfl (by decide) rfl (by decide) (by rw [Tryz.ntmps72]; simp) trivial fun w0 M n0 hW hS => ivc_sound ?_; simp -dsimp only [Tryz.f72, go_sem]
  intro g b hb
  refine iwp_forR 8 [2, 4] (fun i n' s R => s 5 = .lit (.int .i64 i) ∧ s 1 = .lit (.int .i64 (k + (Md.sumBy Md.szPage (xs.take i) : Nat))) ∧ ∃ fe, s 0 = .node (.arr 8 17) fe ∧ R = upd (fun _ => none) 2 (some (g, b, .node (.arr 8 17) fe)) ∧ (∀ j, (fe j).still) ∧ Ch 8 f fe ∧ OwnN lo hi 8 fe ∧ (∀ j, i ≤ j → fe j = f j) ∧ ∀ j (hj : j < (Md.mkL Md.mkPage Md.szPage k xs).length), j < i → IsPage (fe j) (Md.mkL Md.mkPage Md.szPage k xs)[j]) 0 (Nat.zero_le _)
    ⟨by simp -dsimp only [go_sem]; rfl, by simp -dsimp only [go_sem]; simp [Md.sumBy], f, by simp -dsimp only [go_sem], rfl, hst, Ch.refl hn, hn, fun _ _ => rfl, fun j _ hj => absurd hj (by omega)⟩ ?_
  rintro i n' s R hile hn' hk ⟨h5, h1, fe, h0, rfl, hst', hc, hon, hold, hok⟩
  refine ivc_sound ?_
  simp -dsimp only [go_sem] at hk
  by_cases hlt : i < 8
  · have hlt' : i < xs.length := by omega
    have hc' : (i : Int) < 8 := by omega
    have hw := i64_succ (i := i) (by omega)
    have hfe : fe i = f i := hold i (Nat.le_refl _)
    have hfi := hf i hlt'
    have q := shp_page _ _ hfi
    have e1 := q.1
    have e2 := q.2.1
    have e3 := q.2.2.1
    have e4 := q.2.2.2
    have ht := Md.sumBy_take Md.szPage xs i hlt'
    have hle := Md.sumBy_le Md.szPage xs (i + 1)
    have hoi := hon.own (i := i) hlt
    rw [hfe] at hoi
    simp -dsimp only [go_sem, hk, h5, h1, hlt, hc', hw, hfe, e1, e2]
    refine xcall_mk (markPage_p _ _ (k + (Md.sumBy Md.szPage (xs.take i) : Nat)) lo hi hfi hoi (by omega) (by omega)) (by simp -dsimp only [go_sem, h1, hfe]) e3 e4 ⟨trivial, trivial⟩ (fun t ht => hS t (tl_child (i := i) (show i < 8 from hlt) ht)) [2, 4, 5] (fun e => upd (fun _ => .any) 0 (.node (.arr 8 17) (upd fe i e))) (fun e => upd (fun _ => none) 2 (some (g, b, .node (.arr 8 17) (upd fe i e)))) fun e0 n0' hn0 hq0 =>
      ⟨by simp -dsimp only [go_sem, hk, h5], carry_upd (by simp -dsimp only [go_sem, h0]; exact carry_field' hon (i := i) hlt hfe) carry_any, (CarR.none _ _ _).upd trivial (carry_field' hon (i := i) hlt hfe), ?_⟩
    have qe := shp_page _ _ hq0.rel
    have hn0 : n' ≤ n0' := hn0
    simp -dsimp only [go_sem, hk, h5, h1, hlt, hw]
    refine into_r (by omega) (by simp -dsimp only [go_sem, hk]) ⟨by simp -dsimp only [go_sem], by simp -dsimp only [go_sem]; rw [ht, Int.natCast_add, ← Int.add_assoc], upd fe i e0, by simp -dsimp only [go_sem], rfl, still_upd hst' qe.2.2.2, Ch.upd hc (by rw [← hfe] at hq0; exact ⟨hq0.rel, hq0.tl.trans (by rw [hfe]), hq0.wh, by rw [← hfe]; exact hq0.sk⟩), hon.upd (by rw [hq0.tl, hfe]) hq0.wh, fun j hj => by rw [upd_ne _ _ (by omega)]; exact hold j (by omega), fun j hj hji => ?_⟩
    by_cases hjj : j = i
    · subst hjj
      rw [upd_same, Md.mkL_get Md.mkPage Md.szPage k xs j hj hlt']
      exact hq0.rel
    · rw [upd_ne _ _ hjj]; exact hok j hj (by omega)
  · have hc' : ¬ (i : Int) < 8 := by omega
    simp -dsimp only [go_sem, hk, h5, h1, hlt, hc', h0]
    rw [rlnode_still hst']
    refine ⟨by rw [Md.sumBy_all Md.szPage xs i (by omega)], ?_⟩
    exact (mkd_node (k := .arr 8 17) ⟨by rw [hlen, hl], fe, rfl, hst', fun j hj => hok j hj (by omega)⟩ hc).fin
theorem markEngine_p (d : D) (x : Md.Engine) (k : Int) (lo hi : Nat) (h : IsEngine d x) (ho : Own lo hi d) (hk0 : 0 ≤ k) (hk1 : k + (Md.cEngine x : Nat) ≤ 4611686018427387904) :
    MCall Tryz.prog 19 d [.lit (.int .i64 k)] (.int .i64 (k + (Md.cEngine x : Nat))) (Mkd IsEngine (Md.mkEngine k x) d) := by
  obtain ⟨f, rfl, hst, k0, k1, k2, k3, k4, k5, k6⟩ := h
  have hn := ho.node
  have q1 := shp_pool _ _ k1
  have q2 := shp_log _ _ k2
  have hun : Md.cEngine x = Md.sumBy Md.szPage x.disk + Md.cPool x.pool + Md.cLog x.log + 3 * x.txs.length + 2 * x.holds.length := by simp only [Md.cEngine]
  refine mcall_intro Tryz.func19 rfl (by decide) rfl (by decide) (by rw [Tryz.ntmps19]; simp) trivial fun w0 M n0 hW hS => ivc_sound ?_; simp -dsimp only [Tryz.f19, go_sem, k0.size, k0.isNode, k0.plain, k0.still, q1.1, q1.2.1, q1.2.2.1, q1.2.2.2, q2.1, q2.2.1, q2.2.2.1, q2.2.2.2, k3.size, k3.isNode, k3.plain, k3.still, k4.size, k4.isNode, k4.plain, k4.still]
  intro g b hb
  refine xcall_mk (markPageA8_p _ _ (k) lo hi k0 (ho.node.own (i := 0) (by decide)) (by omega) (by omega)) (by simp -dsimp only [go_sem, k0.size, k0.isNode, k0.plain, k0.still, q1.1, q1.2.1, q1.2.2.1, q1.2.2.2, q2.1, q2.2.1, q2.2.2.1, q2.2.2.2, k3.size, k3.isNode, k3.plain, k3.still, k4.size, k4.isNode, k4.plain, k4.still]) k0.plain k0.still ⟨trivial, trivial⟩ (fun t ht => hS t (tl_child (i := 0) (by decide) ht)) [2] (fun e => upd (fun _ => .any) 0 (.node (.agg [136, 2, 2, 1, 1, 1, 1]) (upd f 0 e))) (fun e => upd (fun _ => none) 2 (some (g, b, .node (.agg [136, 2, 2, 1, 1, 1, 1]) (upd f 0 e)))) fun e0 n0 hn0 hq0 =>
    ⟨by simp -dsimp only [go_sem], carry_upd (by simp -dsimp only [go_sem]; exact carry_field' hn (i := 0) (by decide) rfl) carry_any, (CarR.none _ _ _).upd trivial (carry_field' hn (i := 0) (by decide) rfl), ?_⟩
  have s0 := still_upd hst (k := 0) (by have := hq0.rel; exact this.still)
  have hx0 := hn.upd (i := 0) (d' := e0) hq0.tl hq0.wh
  have c0 := Ch.upd (Ch.refl hn) (i := 0) hq0
  simp -dsimp only [go_sem, k0.size, k0.isNode, k0.plain, k0.still, q1.1, q1.2.1, q1.2.2.1, q1.2.2.2, q2.1, q2.2.1, q2.2.2.1, q2.2.2.2, k3.size, k3.isNode, k3.plain, k3.still, k4.size, k4.isNode, k4.plain, k4.still, hq0.rel.size, hq0.rel.isNode, hq0.rel.plain]
  refine xcall_mk (markPool_p _ _ (k + (Md.sumBy Md.szPage x.disk : Nat)) lo hi k1 (ho.node.own (i := 1) (by decide)) (by omega) (by omega)) (by simp -dsimp only [go_sem, k0.size, k0.isNode, k0.plain, k0.still, q1.1, q1.2.1, q1.2.2.1, q1.2.2.2, q2.1, q2.2.1, q2.2.2.1, q2.2.2.2, k3.size, k3.isNode, k3.plain, k3.still, k4.size, k4.isNode, k4.plain, k4.still]) q1.2.2.1 q1.2.2.2 ⟨trivial, trivial⟩ (fun t ht => hS t (tl_child (i := 1) (by decide) ht)) [2] (fun e => upd (fun _ => .any) 0 (.node (.agg [136, 2, 2, 1, 1, 1, 1]) (upd (upd f 0 e0) 1 e))) (fun e => upd (fun _ => none) 2 (some (g, b, .node (.agg [136, 2, 2, 1, 1, 1, 1]) (upd (upd f 0 e0) 1 e)))) fun e1 n1 hn1 hq1 =>
    ⟨by simp -dsimp only [go_sem], carry_upd (by simp -dsimp only [go_sem]; exact carry_field' hx0 (i := 1) (by decide) (by simp -dsimp only [go_sem])) carry_any, (CarR.none _ _ _).upd trivial (carry_field' hx0 (i := 1) (by decide) (by simp -dsimp only [go_sem])), ?_⟩
  have s1 := still_upd s0 (k := 1) (by exact (shp_pool _ _ hq1.rel).2.2.2)
  have hx1 := hx0.upd (i := 1) (d' := e1) (by simp -dsimp only [go_sem]; exact hq1.tl) hq1.wh
  have c1 := Ch.upd c0 (i := 1) hq1
  simp -dsimp only [go_sem, k0.size, k0.isNode, k0.plain, k0.still, q1.1, q1.2.1, q1.2.2.1, q1.2.2.2, q2.1, q2.2.1, q2.2.2.1, q2.2.2.2, k3.size, k3.isNode, k3.plain, k3.still, k4.size, k4.isNode, k4.plain, k4.still, hq0.rel.size, hq0.rel.isNode, hq0.rel.plain, (shp_pool _ _ hq1.rel).1, (shp_pool _ _ hq1.rel).2.1, (shp_pool _ _ hq1.rel).2.2.1]
  refine xcall_mk (markLog_p _ _ (k + (Md.sumBy Md.szPage x.disk : Nat) + (Md.cPool x.pool : Nat)) lo hi k2 (ho.node.own (i := 2) (by decide)) (by omega) (by omega)) (by simp -dsimp only [go_sem, k0.size, k0.isNode, k0.plain, k0.still, q1.1, q1.2.1, q1.2.2.1, q1.2.2.2, q2.1, q2.2.1, q2.2.2.1, q2.2.2.2, k3.size, k3.isNode, k3.plain, k3.still, k4.size, k4.isNode, k4.plain, k4.still]) q2.2.2.1 q2.2.2.2 ⟨trivial, trivial⟩ (fun t ht => hS t (tl_child (i := 2) (by decide) ht)) [2] (fun e => upd (fun _ => .any) 0 (.node (.agg [136, 2, 2, 1, 1, 1, 1]) (upd (upd (upd f 0 e0) 1 e1) 2 e))) (fun e => upd (fun _ => none) 2 (some (g, b, .node (.agg [136, 2, 2, 1, 1, 1, 1]) (upd (upd (upd f 0 e0) 1 e1) 2 e)))) fun e2 n2 hn2 hq2 =>
    ⟨by simp -dsimp only [go_sem], carry_upd (by simp -dsimp only [go_sem]; exact carry_field' hx1 (i := 2) (by decide) (by simp -dsimp only [go_sem])) carry_any, (CarR.none _ _ _).upd trivial (carry_field' hx1 (i := 2) (by decide) (by simp -dsimp only [go_sem])), ?_⟩
  have s2 := still_upd s1 (k := 2) (by exact (shp_log _ _ hq2.rel).2.2.2)
  have hx2 := hx1.upd (i := 2) (d' := e2) (by simp -dsimp only [go_sem]; exact hq2.tl) hq2.wh
  have c2 := Ch.upd c1 (i := 2) hq2
  simp -dsimp only [go_sem, k0.size, k0.isNode, k0.plain, k0.still, q1.1, q1.2.1, q1.2.2.1, q1.2.2.2, q2.1, q2.2.1, q2.2.2.1, q2.2.2.2, k3.size, k3.isNode, k3.plain, k3.still, k4.size, k4.isNode, k4.plain, k4.still, hq0.rel.size, hq0.rel.isNode, hq0.rel.plain, (shp_pool _ _ hq1.rel).1, (shp_pool _ _ hq1.rel).2.1, (shp_pool _ _ hq1.rel).2.2.1, (shp_log _ _ hq2.rel).1, (shp_log _ _ hq2.rel).2.1, (shp_log _ _ hq2.rel).2.2.1]
  refine xcall_mk (markLiveS_p _ _ (k + (Md.sumBy Md.szPage x.disk : Nat) + (Md.cPool x.pool : Nat) + (Md.cLog x.log : Nat)) lo hi k3 (ho.node.own (i := 3) (by decide)) (by omega) (by omega)) (by simp -dsimp only [go_sem, k0.size, k0.isNode, k0.plain, k0.still, q1.1, q1.2.1, q1.2.2.1, q1.2.2.2, q2.1, q2.2.1, q2.2.2.1, q2.2.2.2, k3.size, k3.isNode, k3.plain, k3.still, k4.size, k4.isNode, k4.plain, k4.still]) k3.plain k3.still ⟨trivial, trivial⟩ (fun t ht => hS t (tl_child (i := 3) (by decide) ht)) [2] (fun e => upd (fun _ => .any) 0 (.node (.agg [136, 2, 2, 1, 1, 1, 1]) (upd (upd (upd (upd f 0 e0) 1 e1) 2 e2) 3 e))) (fun e => upd (fun _ => none) 2 (some (g, b, .node (.agg [136, 2, 2, 1, 1, 1, 1]) (upd (upd (upd (upd f 0 e0) 1 e1) 2 e2) 3 e)))) fun e3 n3 hn3 hq3 =>
    ⟨by simp -dsimp only [go_sem], carry_upd (by simp -dsimp only [go_sem]; exact carry_field' hx2 (i := 3) (by decide) (by simp -dsimp only [go_sem])) carry_any, (CarR.none _ _ _).upd trivial (carry_field' hx2 (i := 3) (by decide) (by simp -dsimp only [go_sem])), ?_⟩
  have s3 := still_upd s2 (k := 3) (by have := hq3.rel; exact this.still)
  have hx3 := hx2.upd (i := 3) (d' := e3) (by simp -dsimp only [go_sem]; exact hq3.tl) hq3.wh
  have c3 := Ch.upd c2 (i := 3) hq3
  simp -dsimp only [go_sem, k0.size, k0.isNode, k0.plain, k0.still, q1.1, q1.2.1, q1.2.2.1, q1.2.2.2, q2.1, q2.2.1, q2.2.2.1, q2.2.2.2, k3.size, k3.isNode, k3.plain, k3.still, k4.size, k4.isNode, k4.plain, k4.still, hq0.rel.size, hq0.rel.isNode, hq0.rel.plain, (shp_pool _ _ hq1.rel).1, (shp_pool _ _ hq1.rel).2.1, (shp_pool _ _ hq1.rel).2.2.1, (shp_log _ _ hq2.rel).1, (shp_log _ _ hq2.rel).2.1, (shp_log _ _ hq2.rel).2.2.1, hq3.rel.size, hq3.rel.isNode, hq3.rel.plain]
  refine xcall_mk (markHoldS_p _ _ (k + (Md.sumBy Md.szPage x.disk : Nat) + (Md.cPool x.pool : Nat) + (Md.cLog x.log : Nat) + (3 * x.txs.length : Nat)) lo hi k4 (ho.node.own (i := 4) (by decide)) (by omega) (by omega)) (by simp -dsimp only [go_sem, k0.size, k0.isNode, k0.plain, k0.still, q1.1, q1.2.1, q1.2.2.1, q1.2.2.2, q2.1, q2.2.1, q2.2.2.1, q2.2.2.2, k3.size, k3.isNode, k3.plain, k3.still, k4.size, k4.isNode, k4.plain, k4.still]) k4.plain k4.still ⟨trivial, trivial⟩ (fun t ht => hS t (tl_child (i := 4) (by decide) ht)) [2] (fun e => upd (fun _ => .any) 0 (.node (.agg [136, 2, 2, 1, 1, 1, 1]) (upd (upd (upd (upd (upd f 0 e0) 1 e1) 2 e2) 3 e3) 4 e))) (fun e => upd (fun _ => none) 2 (some (g, b, .node (.agg [136, 2, 2, 1, 1, 1, 1]) (upd (upd (upd (upd (upd f 0 e0) 1 e1) 2 e2) 3 e3) 4 e)))) fun e4 n4 hn4 hq4 =>
    ⟨by simp -dsimp only [go_sem], carry_upd (by simp -dsimp only [go_sem]; exact carry_field' hx3 (i := 4) (by decide) (by simp -dsimp only [go_sem])) carry_any, (CarR.none _ _ _).upd trivial (carry_field' hx3 (i := 4) (by decide) (by simp -dsimp only [go_sem])), ?_⟩
  have s4 := still_upd s3 (k := 4) (by have := hq4.rel; exact this.still)
  have hx4 := hx3.upd (i := 4) (d' := e4) (by simp -dsimp only [go_sem]; exact hq4.tl) hq4.wh
  have c4 := Ch.upd c3 (i := 4) hq4
  simp -dsimp only [go_sem, k0.size, k0.isNode, k0.plain, k0.still, q1.1, q1.2.1, q1.2.2.1, q1.2.2.2, q2.1, q2.2.1, q2.2.2.1, q2.2.2.2, k3.size, k3.isNode, k3.plain, k3.still, k4.size, k4.isNode, k4.plain, k4.still, hq0.rel.size, hq0.rel.isNode, hq0.rel.plain, (shp_pool _ _ hq1.rel).1, (shp_pool _ _ hq1.rel).2.1, (shp_pool _ _ hq1.rel).2.2.1, (shp_log _ _ hq2.rel).1, (shp_log _ _ hq2.rel).2.1, (shp_log _ _ hq2.rel).2.2.1, hq3.rel.size, hq3.rel.isNode, hq3.rel.plain, hq4.rel.size, hq4.rel.isNode, hq4.rel.plain]
  rw [rlnode_still s4]
  refine ⟨by omega, (mkd_node ⟨_, rfl, s4, by simp -dsimp only [go_sem]; exact hq0.rel, by simp -dsimp only [go_sem]; exact hq1.rel, by simp -dsimp only [go_sem]; exact hq2.rel, by simp -dsimp only [go_sem]; exact hq3.rel, by simp -dsimp only [go_sem]; exact hq4.rel, by simp -dsimp only [go_sem]; exact k5, by simp -dsimp only [go_sem]; exact k6⟩ c4).fin⟩
theorem heldPageA8_p (d : D) (xs : List Md.Page) (k : Int) (h : IsA 8 17 IsPage d (Md.mkL Md.mkPage Md.szPage k xs)) (hk0 : 0 ≤ k) (hk1 : k + (Md.sumBy Md.szPage xs : Nat) ≤ 4611686018427387904) :
    PCall Tryz.prog 78 [d, .lit (.int .i64 k)] fun _ _ r => r = .lit (.int .i64 (k + (Md.sumBy Md.szPage xs : Nat))) := by
  obtain ⟨hl, f, rfl, hst, hf⟩ := h
  have hlen : (Md.mkL Md.mkPage Md.szPage k xs).length = xs.length := Md.mkL_length _ _ _ _
  refine pcall_intro_v Tryz.func78 rfl (by decide) rfl (by decide) (by rw [Tryz.ntmps78]; simp) fun w0 M n0 => ivc_sound ?_; simp -dsimp only [Tryz.f78, go_sem]
  intro g b hb
  refine iwp_forK 8 [2] (fun i s => s 5 = .lit (.int .i64 i) ∧ s 1 = .lit (.int .i64 (k + (Md.sumBy Md.szPage (xs.take i) : Nat)))) 0 (Nat.zero_le _) ⟨by simp -dsimp only [go_sem]; rfl, by simp -dsimp only [go_sem]; simp [Md.sumBy]⟩ ?_
  rintro i n' s hile hn' hk ⟨h5, h1⟩
  refine ivc_sound ?_
  simp -dsimp only [go_sem] at hk
  by_cases hlt : i < 8
  · have hlt' : i < xs.length := by omega
    have hc' : (i : Int) < 8 := by omega
    have hw := i64_succ (i := i) (by omega)
    have hfi := hf i (by omega)
    rw [Md.mkL_get Md.mkPage Md.szPage k xs i (by omega) hlt'] at hfi
    have q := shp_page _ _ hfi
    have e1 := q.1
    have e2 := q.2.1
    have e4 := q.2.2.2
    have ht := Md.sumBy_take Md.szPage xs i hlt'
    have hle := Md.sumBy_le Md.szPage xs (i + 1)
    simp -dsimp only [go_sem, hk, h5, h1, hlt, hc', hw, e1, e2]
    refine xcall_v (heldPage_p _ xs[i] (k + (Md.sumBy Md.szPage (xs.take i) : Nat)) hfi (by omega) (by omega)) (by simp -dsimp only [go_sem, rl_still, e4, h1]) (fun _ => trivial) fun n0 hn0 => ?_
    have hg : ¬ (k + (Md.sumBy Md.szPage (xs.take i) : Nat) + (Md.szPage xs[i] : Nat) < 0) := by omega
    simp -dsimp only [go_sem, hk, h5, h1, hlt, hw, hg, decide_false]
    exact into_k (by omega) (by simp -dsimp only [go_sem, hk]) ⟨by simp -dsimp only [go_sem], by simp -dsimp only [go_sem]; rw [ht, Int.natCast_add, ← Int.add_assoc]⟩
  · have hc' : ¬ (i : Int) < 8 := by omega
    simp -dsimp only [go_sem, hk, h5, h1, hlt, hc']
    rw [Md.sumBy_all Md.szPage xs i (by omega)]
theorem heldEngine_p (d : D) (x : Md.Engine) (k : Int) (h : IsEngine d (Md.mkEngine k x)) (hk0 : 0 ≤ k) (hk1 : k + (Md.cEngine x : Nat) ≤ 4611686018427387904) :
    PCall Tryz.prog 21 [d, .lit (.int .i64 k)] fun _ _ r => r = .lit (.int .i64 (k + (Md.cEngine x : Nat))) := by
  obtain ⟨f, rfl, hst, k0, k1, k2, k3, k4, k5, k6⟩ := h
  have q1 := shp_pool _ _ k1
  have q2 := shp_log _ _ k2
  have hun : Md.cEngine x = Md.sumBy Md.szPage x.disk + Md.cPool x.pool + Md.cLog x.log + 3 * x.txs.length + 2 * x.holds.length := by simp only [Md.cEngine]
  refine pcall_intro_v Tryz.func21 rfl (by decide) rfl (by decide) (by rw [Tryz.ntmps21]; simp) fun w0 M n0 => ivc_sound ?_; simp -dsimp only [Tryz.f21, go_sem, k0.size, k0.isNode, k0.plain, k0.still, q1.1, q1.2.1, q1.2.2.1, q1.2.2.2, q2.1, q2.2.1, q2.2.2.1, q2.2.2.2, k3.size, k3.isNode, k3.plain, k3.still, k4.size, k4.isNode, k4.plain, k4.still]
  intro g b hb
  refine xcall_v (heldPageA8_p _ x.disk (k) k0 (by omega) (by omega)) (by simp -dsimp only [go_sem, rl_still, k0.size, k0.isNode, k0.plain, k0.still, q1.1, q1.2.1, q1.2.2.1, q1.2.2.2, q2.1, q2.2.1, q2.2.2.1, q2.2.2.2, k3.size, k3.isNode, k3.plain, k3.still, k4.size, k4.isNode, k4.plain, k4.still]) (fun _ => trivial) fun n0 hn0 => ?_
  have hg0 : ¬ (k + (Md.sumBy Md.szPage x.disk : Nat) < 0) := by omega
  simp -dsimp only [go_sem, k0.size, k0.isNode, k0.plain, k0.still, q1.1, q1.2.1, q1.2.2.1, q1.2.2.2, q2.1, q2.2.1, q2.2.2.1, q2.2.2.2, k3.size, k3.isNode, k3.plain, k3.still, k4.size, k4.isNode, k4.plain, k4.still, hg0, decide_false]
  refine xcall_v (heldPool_p _ x.pool (k + (Md.sumBy Md.szPage x.disk : Nat)) k1 (by omega) (by omega)) (by simp -dsimp only [go_sem, rl_still, k0.size, k0.isNode, k0.plain, k0.still, q1.1, q1.2.1, q1.2.2.1, q1.2.2.2, q2.1, q2.2.1, q2.2.2.1, q2.2.2.2, k3.size, k3.isNode, k3.plain, k3.still, k4.size, k4.isNode, k4.plain, k4.still]) (fun _ => trivial) fun n1 hn1 => ?_
  have hg1 : ¬ (k + (Md.sumBy Md.szPage x.disk : Nat) + (Md.cPool x.pool : Nat) < 0) := by omega
  simp -dsimp only [go_sem, k0.size, k0.isNode, k0.plain, k0.still, q1.1, q1.2.1, q1.2.2.1, q1.2.2.2, q2.1, q2.2.1, q2.2.2.1, q2.2.2.2, k3.size, k3.isNode, k3.plain, k3.still, k4.size, k4.isNode, k4.plain, k4.still, hg1, decide_false]
  refine xcall_v (heldLog_p _ x.log (k + (Md.sumBy Md.szPage x.disk : Nat) + (Md.cPool x.pool : Nat)) k2 (by omega) (by omega)) (by simp -dsimp only [go_sem, rl_still, k0.size, k0.isNode, k0.plain, k0.still, q1.1, q1.2.1, q1.2.2.1, q1.2.2.2, q2.1, q2.2.1, q2.2.2.1, q2.2.2.2, k3.size, k3.isNode, k3.plain, k3.still, k4.size, k4.isNode, k4.plain, k4.still]) (fun _ => trivial) fun n2 hn2 => ?_
  have hg2 : ¬ (k + (Md.sumBy Md.szPage x.disk : Nat) + (Md.cPool x.pool : Nat) + (Md.cLog x.log : Nat) < 0) := by omega
  simp -dsimp only [go_sem, k0.size, k0.isNode, k0.plain, k0.still, q1.1, q1.2.1, q1.2.2.1, q1.2.2.2, q2.1, q2.2.1, q2.2.2.1, q2.2.2.2, k3.size, k3.isNode, k3.plain, k3.still, k4.size, k4.isNode, k4.plain, k4.still, hg2, decide_false]
  refine xcall_v (heldLiveS_p _ (Md.mkLives (k + (Md.sumBy Md.szPage x.disk : Nat) + (Md.cPool x.pool : Nat) + (Md.cLog x.log : Nat)) x.txs) (k + (Md.sumBy Md.szPage x.disk : Nat) + (Md.cPool x.pool : Nat) + (Md.cLog x.log : Nat)) k3 (fun i hi => mkLives_get _ _ i hi (by simpa [mkLives_length] using hi)) (by omega) (by rw [mkLives_length]; omega)) (by simp -dsimp only [go_sem, rl_still, k0.size, k0.isNode, k0.plain, k0.still, q1.1, q1.2.1, q1.2.2.1, q1.2.2.2, q2.1, q2.2.1, q2.2.2.1, q2.2.2.2, k3.size, k3.isNode, k3.plain, k3.still, k4.size, k4.isNode, k4.plain, k4.still]) (fun _ => trivial) fun n3 hn3 => ?_
  have hg3 : ¬ (k + (Md.sumBy Md.szPage x.disk : Nat) + (Md.cPool x.pool : Nat) + (Md.cLog x.log : Nat) + (3 * x.txs.length : Nat) < 0) := by omega
  simp -dsimp only [go_sem, k0.size, k0.isNode, k0.plain, k0.still, q1.1, q1.2.1, q1.2.2.1, q1.2.2.2, q2.1, q2.2.1, q2.2.2.1, q2.2.2.2, k3.size, k3.isNode, k3.plain, k3.still, k4.size, k4.isNode, k4.plain, k4.still, hg3, mkLives_length, decide_false]
  refine xcall_v (heldHoldS_p _ (Md.mkHolds (k + (Md.sumBy Md.szPage x.disk : Nat) + (Md.cPool x.pool : Nat) + (Md.cLog x.log : Nat) + (3 * x.txs.length : Nat)) x.holds) (k + (Md.sumBy Md.szPage x.disk : Nat) + (Md.cPool x.pool : Nat) + (Md.cLog x.log : Nat) + (3 * x.txs.length : Nat)) k4 (fun i hi => mkHolds_get _ _ i hi (by simpa [mkHolds_length] using hi)) (by omega) (by rw [mkHolds_length]; omega)) (by simp -dsimp only [go_sem, rl_still, k0.size, k0.isNode, k0.plain, k0.still, q1.1, q1.2.1, q1.2.2.1, q1.2.2.2, q2.1, q2.2.1, q2.2.2.1, q2.2.2.2, k3.size, k3.isNode, k3.plain, k3.still, k4.size, k4.isNode, k4.plain, k4.still]) (fun _ => trivial) fun n4 hn4 => ?_
  have hg4 : ¬ (k + (Md.sumBy Md.szPage x.disk : Nat) + (Md.cPool x.pool : Nat) + (Md.cLog x.log : Nat) + (3 * x.txs.length : Nat) + (2 * x.holds.length : Nat) < 0) := by omega
  simp -dsimp only [go_sem, k0.size, k0.isNode, k0.plain, k0.still, q1.1, q1.2.1, q1.2.2.1, q1.2.2.2, q2.1, q2.2.1, q2.2.2.1, q2.2.2.2, k3.size, k3.isNode, k3.plain, k3.still, k4.size, k4.isNode, k4.plain, k4.still, hg4, mkHolds_length, decide_false]
  omega
end Go.Proofs.YtncinhlaabdlaaaGreat.IM
end
