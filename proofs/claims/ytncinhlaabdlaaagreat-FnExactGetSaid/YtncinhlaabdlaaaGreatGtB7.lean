/- Several of my texts in one module (merge.py, shake.py). -/
import Derived.Test.YtncinhlaabdlaaaGreatGtB6
import Derived.Test.YtncinhlaabdlaaaGreatGtA3
section
namespace Go.Proofs.YtncinhlaabdlaaaGreat.IM
open Go Go.Proofs
set_option linter.unusedVariables false
set_option linter.unusedSimpArgs false
set_option maxHeartbeats 2000000
set_option maxRecDepth 20000
theorem cloneSeat_p (d : D) (x : Md.Seat) (h : IsSeat d x) (hs : Md.szSeat x ≤ 1048576) : PCall Tryz.prog 194 [d] fun n0 n1 r => IsSeat r x ∧ Own n0 n1 r := by
  obtain ⟨f, rfl, hst, k0, k1, k2, k3⟩ := h
  have k0 : f 0 = _ := k0
  have q1 := shp_page _ _ k1
  have k2 : f 2 = _ := k2
  have k3 : f 3 = _ := k3
  unfold Md.szSeat at hs
  refine pcall_intro Tryz.func194 rfl (by decide) rfl (by decide) (by rw [Tryz.ntmps194]; simp) fun w0 M n0 hW => ivc_sound ?_; simp -dsimp only [Tryz.f194, go_sem, k0, q1.1, q1.2.1, q1.2.2.1, k2, k3]
  intro g1 b1 hb1 g2 b2 hb2
  refine xcall_p (clonePage_p _ _ k1 (by omega)) (by simp -dsimp only [go_sem, rl_still, q1.2.2.2]) fun m0 p0 r0 hm0 hp0 hr0 => ?_
  have rq := shp_page _ _ hr0.1
  refine ⟨hr0.2.tags, ?_⟩
  simp -dsimp only [go_sem, k0, q1.1, q1.2.1, q1.2.2.1, k2, k3, rq.1, rq.2.1, rq.2.2.1]
  intro n1 hn1 hfc
  refine fin_node (Q := fun r => IsSeat r x ∧ Own n0 n1 r) (still_upd hst rq.2.2.2) fun hst' => ?_
  refine ⟨⟨_, rfl, hst', by simp -dsimp only [go_sem, k0]; rfl, by simp -dsimp only [go_sem]; exact hr0.1, by simp -dsimp only [go_sem, k2]; rfl, by simp -dsimp only [go_sem, k3]; rfl⟩, own_node ?_⟩
  exact OwnN.mono (hi := p0) (ownN_snoc_lit (ownN_snoc_lit (ownN_snoc_own (mid := n0) (hi := p0) (ownN_snoc_lit (ownN_zero n0 n0 _) (by simp -dsimp only [go_sem, k0]; rfl)) (by simp -dsimp only [go_sem]; exact hr0.2) (by omega) (by omega) (by omega) (by omega)) (by simp -dsimp only [go_sem, k2]; rfl)) (by simp -dsimp only [go_sem, k3]; rfl)) (Nat.le_refl _) (by omega)
theorem l6CopySeat_p (d : D) (x : Md.Seat) (h : IsSeat d x) (hs : Md.szSeat x ≤ 1048576) : PCall Tryz.prog 189 [d] fun n0 n1 r => IsSeat r x ∧ Own n0 n1 r := by
  obtain ⟨f, rfl, hst, k0, k1, k2, k3⟩ := h
  have k0 : f 0 = _ := k0
  have q1 := shp_page _ _ k1
  have k2 : f 2 = _ := k2
  have k3 : f 3 = _ := k3
  unfold Md.szSeat at hs
  refine pcall_intro Tryz.func189 rfl (by decide) rfl (by decide) (by rw [Tryz.ntmps189]; simp) fun w0 M n0 hW => ivc_sound ?_; simp -dsimp only [Tryz.f189, go_sem, k0, q1.1, q1.2.1, q1.2.2.1, k2, k3]
  intro g1 b1 hb1 g2 b2 hb2
  refine xcall_p (l3Copy_p _ _ k1 (by omega)) (by simp -dsimp only [go_sem, rl_still, q1.2.2.2]) fun m0 p0 r0 hm0 hp0 hr0 => ?_
  have rq := shp_page _ _ hr0.1
  refine ⟨hr0.2.tags, ?_⟩
  simp -dsimp only [go_sem, k0, q1.1, q1.2.1, q1.2.2.1, k2, k3, rq.1, rq.2.1, rq.2.2.1]
  intro n1 hn1 hfc
  refine fin_node (Q := fun r => IsSeat r x ∧ Own n0 n1 r) (still_upd hst rq.2.2.2) fun hst' => ?_
  refine ⟨⟨_, rfl, hst', by simp -dsimp only [go_sem, k0]; rfl, by simp -dsimp only [go_sem]; exact hr0.1, by simp -dsimp only [go_sem, k2]; rfl, by simp -dsimp only [go_sem, k3]; rfl⟩, own_node ?_⟩
  exact OwnN.mono (hi := p0) (ownN_snoc_lit (ownN_snoc_lit (ownN_snoc_own (mid := n0) (hi := p0) (ownN_snoc_lit (ownN_zero n0 n0 _) (by simp -dsimp only [go_sem, k0]; rfl)) (by simp -dsimp only [go_sem]; exact hr0.2) (by omega) (by omega) (by omega) (by omega)) (by simp -dsimp only [go_sem, k2]; rfl)) (by simp -dsimp only [go_sem, k3]; rfl)) (Nat.le_refl _) (by omega)
def Grow {α : Type} (sz : Nat) (Rl : D → α → Prop) (n0 n' : Nat) (xs : List α) (i l : Nat) (R : Roots) (h : D) (R' : Roots) : Prop :=
  (i = 0 ∧ h = .nil ∧ R' = R) ∨ ∃ g b f, (0 < i ∧ n0 ≤ b) ∧ h = .msl l g 0 [] 0 i sz ∧ R' = upd R l (some (g, b, .node (.arr i sz) f)) ∧ Fill Rl sz n0 n' xs i i f
theorem Fill.cat {α : Type} {R : D → α → Prop} {sz lo hi mid n0 n1 : Nat} {xs : List α} {i : Nat} {f z : Nat → D} {r : D} {nd : Bool} (h : Fill R sz lo mid xs i i f) (hz : ∀ j, (z j).still) (hR : Shp R sz nd) (hlt : i < xs.length) (hr : R r xs[i]) (ho : Own n0 n1 r)
    (h1 : lo ≤ mid) (h2 : mid ≤ n0) (h3 : n1 ≤ hi) (h4 : n0 ≤ n1) : Fill R sz lo hi xs (i + 1) (i + 1) (catD i f (upd z 0 r)) := by
  obtain ⟨e1, e2, e3, e4⟩ := hR _ _ hr
  have hc : catD i f (upd z 0 r) i = r := by simp [catD, upd]
  have hl : ∀ j, j < i → catD i f (upd z 0 r) j = f j := fun j hj => by simp [catD, hj]
  refine ⟨fun j => ?_, fun j hj => ?_, fun j hj hji => ?_, ?_⟩
  · unfold catD; split
    · exact h.st j
    · exact still_upd hz e4 _
  · by_cases hj' : j = i
    · subst hj'; rw [hc]; exact ⟨e3, e1⟩
    · rw [hl j (by omega)]; exact h.sh j (by omega)
  · by_cases hj' : j = i
    · subst hj'; rw [hc]; exact hr
    · rw [hl j (by omega)]; exact h.ok j hj (by omega)
  · exact h.own.snoc (mid := mid) (by rw [hc]; exact ho.mono h2 h3) h1 (by omega) fun j hj => hl j hj
theorem Fill.one {α : Type} {R : D → α → Prop} {sz lo hi n0 n1 : Nat} {xs : List α} {z : Nat → D} {r : D} {nd : Bool} (hz : ∀ j, (z j).still) (hR : Shp R sz nd) (hlt : 0 < xs.length) (hr : R r xs[0]) (ho : Own n0 n1 r)
    (h2 : lo ≤ n0) (h3 : n1 ≤ hi) (h4 : n0 ≤ n1) : Fill R sz lo hi xs (0 + 1) (0 + 1) (upd z 0 r) := by
  have := Fill.cat (f := z) (z := z) (mid := lo) (Fill.start (R := R) (sz := sz) (lo := lo) (hi := lo) (xs := xs) (n := 0) hz fun j hj => absurd hj (by omega)) hz hR hlt hr ho (Nat.le_refl _) h2 h3 h4
  rwa [catD_zero] at this
theorem gs_upd {q : Nat → D} {v : D} (h : ∀ j, (q j).still ∨ j = 0) (j : Nat) : (upd q 0 v j).still ∨ j = 0 := by
  by_cases hj : j = 0
  · exact .inr hj
  · rw [upd_ne _ _ hj]; exact h j
theorem into_rd {w0 : World} {M : Fr} {N n n' : Nat} {R R' : Roots} {s0 s : Nat → D} {K : List Nat} {J : Nat → (Nat → D) → Roots → Prop} (hR : ∀ j, R' j = R j ∨ R' j = none) (hn : n ≤ n') (hk : keepL s s0 K) (hJ : J n' s R') :
    Into w0 M ⟨N, n', s, R⟩ (RoundR N n s0 K J) :=
  Into.le ⟨N, n', s, R'⟩ ⟨rfl, Nat.le_refl _, fun t => .inl rfl, fun j => by
    rcases hR j with h | h
    · exact .inl h
    · exact .inr h⟩ (into_r hn hk hJ)
theorem drop1 {R : Roots} {a b : Nat} {x y : Option (Nat × Nat × D)} (h : R a = none) (hab : a ≠ b) (j : Nat) : (upd R b y) j = (upd (upd R a x) b y) j ∨ (upd R b y) j = none := by
  by_cases h1 : j = b
  · subst h1; left; simp [upd]
  · by_cases h2 : j = a
    · subst h2; right; simp [upd, h1, h]
    · left; simp [upd, h1, h2]
theorem drop2 {R : Roots} {a b : Nat} {x y z : Option (Nat × Nat × D)} (h : R a = none) (hab : a ≠ b) (j : Nat) : (upd R b y) j = (upd (upd (upd R b z) a x) b y) j ∨ (upd R b y) j = none := by
  by_cases h1 : j = b
  · subst h1; left; simp [upd]
  · by_cases h2 : j = a
    · subst h2; right; simp [upd, h1, h]
    · left; simp [upd, h1, h2]
theorem grow_fin {q : Nat → D} {F : Relab} {x : Md.Pool} {sd : D} {n0 n1 k : Nat} (h0 : rl k F (q 0) = sd) (h1 : rl k F (q 1) = .lit (.int .i64 x.hand)) (hq : ∀ j, (q j).still ∨ j = 0) (hL : IsL 20 IsSeat sd x.seats) (hO : Own n0 n1 sd) :
    One (fun r => IsPool r x ∧ Own n0 n1 r) (.node (.agg [1, 1]) fun i => rl k F (q i)) := by
  refine .mk ⟨⟨_, rfl, fun j => ?_, by show IsL 20 IsSeat (rl k F (q 0)) x.seats; rw [h0]; exact hL, h1⟩, own_node ?_⟩
  · rcases hq j with h | h
    · show (rl k F (q j)).still; rw [rl_still h]; exact h
    · subst h; show (rl k F (q 0)).still; rw [h0]; exact hL.still
  · refine ⟨fun i hi t ht => ?_, fun i hi => ?_, fun i j hij hj t ht ht' => ?_, fun i hi => ?_⟩
    · match i, hi with
      | 0, _ => exact hO.rg t (h0 ▸ ht)
      | 1, _ => replace ht : t ∈ (rl k F (q 1)).tl := ht; rw [h1] at ht; exact absurd ht (by simp [D.tl])
    · match i, hi with
      | 0, _ => exact h0 ▸ hO.nd
      | 1, _ => show (rl k F (q 1)).tl.Nodup; rw [h1]; simp [D.tl]
    · have : j = 1 := by have : j < 2 := hj; omega
      subst this
      replace ht' : t ∈ (rl k F (q 1)).tl := ht'
      rw [h1] at ht'; exact absurd ht' (by simp [D.tl])
    · match i, hi with
      | 0, _ => exact h0 ▸ hO.wh
      | 1, _ => show (rl k F (q 1)).whole; rw [h1]; trivial
theorem l6Copy_p (d : D) (x : Md.Pool) (h : IsPool d x) (hs : Md.szPool x ≤ 1048576) : PCall Tryz.prog 115 [d] fun n0 n1 r => One (fun r => IsPool r x ∧ Own n0 n1 r) r := by
  obtain ⟨e, rfl, hst, k0, k1⟩ := h
  have k1 : e 1 = _ := k1
  have hs' : x.seats.length ≤ 1048576 := by unfold Md.szPool Md.szSeats at hs; omega
  refine pcall_intro Tryz.func115 rfl (by decide) rfl (by decide) (by rw [Tryz.ntmps115]; simp) fun w0 M n0 hW => ivc_sound ?_; simp -dsimp only [Tryz.f115, go_sem, k1, k0.lenT, k0.size, k0.isNode, k0.plain]
  intro g1 b1 hb1 g2 b2 hb2 g3 b3 hb3
  refine iwp_forR x.seats.length [1, 2, 3] (fun i n' s R => s 4 = .lit (.int .i64 i) ∧ ∃ q hd, (∀ j, (q j).still ∨ j = 0) ∧ q 0 = hd ∧ q 1 = .lit (.int .i64 x.hand) ∧
      Grow 20 IsSeat n0 n' x.seats i 24 (upd (upd (upd (fun _ => none) 1 (some (g1, b1, .node (.agg [1, 1]) e))) 2 (some (g2, b2, zd Tryz.prog 52))) 3 (some (g3, b3, .node (.agg [1, 1]) q))) hd R) 0 (Nat.zero_le _)
    ⟨by simp -dsimp only [go_sem]; rfl, _, .nil, ?_, by simp -dsimp only [go_sem], by simp -dsimp only [go_sem], .inl ⟨rfl, rfl, rfl⟩⟩ ?_
  · exact fun j => .inl (still_upd (d := .lit (.int .i64 x.hand)) (stN (l := [.nil, .lit (.int .i64 0)]) (by simp only [stillL_nil, stillL_cons, still_lit, still_nil, still_any, still_nodeN, still_nodeC, and_self])) (by trivial) j)
  rintro i n' s R hi hn hk ⟨h4, q, hd, hqs, q0, q1, hG⟩
  refine ivc_sound ?_
  simp -dsimp only [go_sem] at hk
  by_cases hlt : i < x.seats.length
  · obtain ⟨t, zb, fi, hfe, hst', hf'⟩ := k0.sl hlt
    have hfi := hf' i hlt
    have eq := shp_seat _ _ hfi
    have hw := i64_succ (i := i) (by omega)
    rcases hG with ⟨rfl, rfl, rfl⟩ | ⟨g, b, f, hpos, rfl, rfl, hF⟩
    · simp -dsimp only [go_sem, hk, h4, hlt, hw, q0, q1, hfe, eq.1, eq.2.1]
      refine iwp_plan [(0, true), (1, true), (2, true), (3, true), (4, true), (5, true), (6, true), (7, false), (8, false), (9, false), (10, true), (11, false)] [1, 3] rfl (by decide +kernel) (by decide) [11] (by decide +kernel) ?_
      simp -dsimp only [go_sem, hk, h4, hlt, hw, q0, q1, hfe, eq.1, eq.2.1, eq.2.2.1]
      refine xcall_p (l6CopySeat_p _ _ hfi (by have := Md.sumBy_mem Md.szSeat x.seats _ (List.getElem_mem hlt); unfold Md.szPool Md.szSeats at hs; omega)) (by simp -dsimp only [go_sem, rl_still, eq.2.2.2]) fun m0 p0 r0 hm0 hp0 hr0 => ?_
      have rq := shp_seat _ _ hr0.1
      refine ⟨hr0.2.tags, ?_⟩
      simp -dsimp only [go_sem, hk, h4, hlt, hw, q0, q1, hfe, eq.1, eq.2.1, rq.1, rq.2.1, rq.2.2.1]
      intro g b hb
      refine ⟨fun y h => h.symm, fun g' b' n' hn' hb1 hb2 => ?_⟩
      exact into_rd (R' := upd (upd (upd (upd (fun _ => none) 1 (some (g1, b1, .node (.agg [1, 1]) e))) 2 (some (g2, b2, zd Tryz.prog 52))) 3 (some (g3, b3, .node (.agg [1, 1]) (upd q 0 (.msl 24 g' 0 [] 0 1 20))))) 24 _) (drop1 rfl (by decide)) (by omega) (by simp -dsimp only [go_sem, hk])
        ⟨by simp -dsimp only [go_sem], _, _, gs_upd hqs, rfl, by simp -dsimp only [go_sem, q1], .inr ⟨g', b', _, ⟨by omega, by omega⟩, by simp -dsimp only [go_sem], rfl, Fill.one (fun _ => by simp only [stillL_nil, stillL_cons, still_lit, still_nil, still_any, still_nodeN, still_nodeC, and_self]) shp_seat hlt hr0.1 hr0.2 (by omega) (by omega) (by omega)⟩⟩
    · simp -dsimp only [go_sem, hk, h4, hlt, hw, q0, q1, hfe, eq.1, eq.2.1]
      refine iwp_plan [(0, true), (1, true), (2, true), (3, true), (4, true), (5, true), (6, true), (7, false), (8, false), (9, false), (10, true), (11, false)] [1, 3] rfl (by decide +kernel) (by decide) [11] (by decide +kernel) ?_
      simp -dsimp only [go_sem, hk, h4, hlt, hw, q0, q1, hfe, eq.1, eq.2.1, eq.2.2.1]
      refine xcall_p (l6CopySeat_p _ _ hfi (by have := Md.sumBy_mem Md.szSeat x.seats _ (List.getElem_mem hlt); unfold Md.szPool Md.szSeats at hs; omega)) (by simp -dsimp only [go_sem, rl_still, eq.2.2.2]) fun m0 p0 r0 hm0 hp0 hr0 => ?_
      have rq := shp_seat _ _ hr0.1
      refine ⟨hr0.2.tags, ?_⟩
      simp -dsimp only [go_sem, hk, h4, hlt, hw, q0, q1, hfe, eq.1, eq.2.1, rq.1, rq.2.1, rq.2.2.1]
      intro g' b' hb'
      refine ⟨fun y h => h.symm, by omega, by omega, fun g'' b'' n' hn' hb1 hb2 => ?_⟩
      exact into_rd (R' := upd (upd (upd (upd (fun _ => none) 1 (some (g1, b1, .node (.agg [1, 1]) e))) 2 (some (g2, b2, zd Tryz.prog 52))) 3 (some (g3, b3, .node (.agg [1, 1]) (upd q 0 (.msl 24 g'' 0 [] 0 (i + 1) 20))))) 24 _) (drop2 rfl (by decide)) (by omega) (by simp -dsimp only [go_sem, hk])
        ⟨by simp -dsimp only [go_sem], _, _, gs_upd hqs, rfl, by simp -dsimp only [go_sem, q1], .inr ⟨g'', b'', _, ⟨by omega, by omega⟩, by simp -dsimp only [go_sem], rfl, Fill.cat hF (fun _ => by simp only [stillL_nil, stillL_cons, still_lit, still_nil, still_any, still_nodeN, still_nodeC, and_self]) shp_seat hlt hr0.1 hr0.2 (by omega) (by omega) (by omega) (by omega)⟩⟩
  · have hl : x.seats.length = i := by omega
    rcases hG with ⟨rfl, rfl, rfl⟩ | ⟨g, b, f, hpos, rfl, rfl, hF⟩
    · simp -dsimp only [go_sem, hk, h4, hlt, k0.lenT, k0.size, k0.isNode, k0.plain, q0, q1]
      intro n1 hn1 hfc
      have hnil : x.seats = [] := List.length_eq_zero_iff.1 hl
      rw [rl_node]
      exact grow_fin (n1 := n1) (by rw [q0]; exact rl_nil _ _) (by rw [q1]; exact rl_lit _ _ _) hqs (.inl ⟨rfl, hnil⟩) (own_nil _ _)
    · simp -dsimp only [go_sem, hk, h4, hlt, k0.lenT, k0.size, k0.isNode, k0.plain, q0, q1]
      intro n1 hn1 hfc
      subst hl
      have hLO := hF.isL hlt (by omega) hpos.2 hfc.here.1 hn1 hfc.here.2
      rw [rl_node]
      refine grow_fin (n1 := n1) ?_ ?_ ?_ hLO.1 hLO.2
      · simp -dsimp only [go_sem, q0]
        rw [rls_still hF.st]
      · simp -dsimp only [go_sem, q1, rl_lit]
      · exact hqs
theorem drop3 {R : Roots} {a c b : Nat} {x y v : Option (Nat × Nat × D)} (h : R a = none) (h' : R c = none) (hab : a ≠ b) (hcb : c ≠ b) (j : Nat) : (upd R b y) j = (upd (upd (upd R c v) a x) b y) j ∨ (upd R b y) j = none := by
  by_cases h1 : j = b
  · subst h1; left; simp [upd]
  · by_cases h2 : j = a
    · subst h2; right; simp [upd, h1, h]
    · by_cases h3 : j = c
      · subst h3; right; simp [upd, h1, h']
      · left; simp [upd, h1, h2, h3]
theorem drop4 {R : Roots} {a c b : Nat} {x y v z : Option (Nat × Nat × D)} (h : R a = none) (h' : R c = none) (hab : a ≠ b) (hcb : c ≠ b) (j : Nat) : (upd R b y) j = (upd (upd (upd (upd R b z) c v) a x) b y) j ∨ (upd R b y) j = none := by
  by_cases h1 : j = b
  · subst h1; left; simp [upd]
  · by_cases h2 : j = a
    · subst h2; right; simp [upd, h1, h]
    · by_cases h3 : j = c
      · subst h3; right; simp [upd, h1, h']
      · left; simp [upd, h1, h2, h3]
theorem clonePool_p (d : D) (x : Md.Pool) (h : IsPool d x) (hs : Md.szPool x ≤ 1048576) : PCall Tryz.prog 127 [d] fun n0 n1 r => One (fun r => IsPool r x ∧ Own n0 n1 r) r := by
  obtain ⟨e, rfl, hst, k0, k1⟩ := h
  have k1 : e 1 = _ := k1
  have hs' : x.seats.length ≤ 1048576 := by unfold Md.szPool Md.szSeats at hs; omega
  refine pcall_intro Tryz.func127 rfl (by decide) rfl (by decide) (by rw [Tryz.ntmps127]; simp) fun w0 M n0 hW => ivc_sound ?_; simp -dsimp only [Tryz.f127, go_sem, k1, k0.lenT, k0.size, k0.isNode, k0.plain]
  intro g1 b1 hb1 g2 b2 hb2 g3 b3 hb3
  refine iwp_forR x.seats.length [2, 3, 10, 11] (fun i n' s R => s 12 = .lit (.int .i64 i) ∧ ∃ q hd, (∀ j, (q j).still ∨ j = 0) ∧ q 0 = hd ∧ q 1 = .lit (.int .i64 x.hand) ∧
      Grow 20 IsSeat n0 n' x.seats i 21 (upd (upd (upd (fun _ => none) 1 (some (g1, b1, .node (.agg [1, 1]) e))) 2 (some (g2, b2, zd Tryz.prog 52))) 3 (some (g3, b3, .node (.agg [1, 1]) q))) hd R) 0 (Nat.zero_le _)
    ⟨by simp -dsimp only [go_sem]; rfl, _, .nil, ?_, by simp -dsimp only [go_sem], by simp -dsimp only [go_sem], .inl ⟨rfl, rfl, rfl⟩⟩ ?_
  · exact fun j => .inl (still_upd (d := .lit (.int .i64 x.hand)) (stN (l := [.nil, .lit (.int .i64 0)]) (by simp only [stillL_nil, stillL_cons, still_lit, still_nil, still_any, still_nodeN, still_nodeC, and_self])) (by trivial) j)
  rintro i n' s R hi hn hk ⟨h12, q, hd, hqs, q0, q1, hG⟩
  refine ivc_sound ?_
  simp -dsimp only [go_sem] at hk
  by_cases hlt : i < x.seats.length
  · obtain ⟨t, zb, fi, hfe, hst', hf'⟩ := k0.sl hlt
    have hfi := hf' i hlt
    have eq := shp_seat _ _ hfi
    have hw := i64_succ (i := i) (by omega)
    rcases hG with ⟨rfl, rfl, rfl⟩ | ⟨g, b, f, hpos, rfl, rfl, hF⟩
    · simp -dsimp only [go_sem, hk, h12, hlt, hw, q0, q1, hfe, eq.1, eq.2.1, eq.2.2.1]
      intro g5 b5 hb5
      refine iwp_plan [(0, true), (1, true), (2, true), (3, false), (4, false), (5, false), (6, true), (7, false)] [3, 5] rfl (by decide +kernel) (by decide) [7] (by decide +kernel) ?_
      simp -dsimp only [go_sem, hk, h12, hlt, hw, q0, q1, hfe, eq.1, eq.2.1, eq.2.2.1]
      refine xcall_p (cloneSeat_p _ _ hfi (by have := Md.sumBy_mem Md.szSeat x.seats _ (List.getElem_mem hlt); unfold Md.szPool Md.szSeats at hs; omega)) (by simp -dsimp only [go_sem, rl_still, eq.2.2.2]) fun m0 p0 r0 hm0 hp0 hr0 => ?_
      have rq := shp_seat _ _ hr0.1
      refine ⟨hr0.2.tags, ?_⟩
      simp -dsimp only [go_sem, hk, h12, hlt, hw, q0, q1, hfe, eq.1, eq.2.1, rq.1, rq.2.1, rq.2.2.1]
      intro g b hb
      refine ⟨fun y h => h.symm, fun g' b' n' hn' hb1 hb2 => ?_⟩
      exact into_rd (R' := upd (upd (upd (upd (fun _ => none) 1 (some (g1, b1, .node (.agg [1, 1]) e))) 2 (some (g2, b2, zd Tryz.prog 52))) 3 (some (g3, b3, .node (.agg [1, 1]) (upd q 0 (.msl 21 g' 0 [] 0 1 20))))) 21 _) (drop3 rfl rfl (by decide) (by decide)) (by omega) (by simp -dsimp only [go_sem, hk, hfe])
        ⟨by simp -dsimp only [go_sem], _, _, gs_upd hqs, rfl, by simp -dsimp only [go_sem, q1], .inr ⟨g', b', _, ⟨by omega, by omega⟩, by simp -dsimp only [go_sem], rfl, Fill.one (fun _ => by simp only [stillL_nil, stillL_cons, still_lit, still_nil, still_any, still_nodeN, still_nodeC, and_self]) shp_seat hlt hr0.1 hr0.2 (by omega) (by omega) (by omega)⟩⟩
    · simp -dsimp only [go_sem, hk, h12, hlt, hw, q0, q1, hfe, eq.1, eq.2.1, eq.2.2.1]
      intro g5 b5 hb5
      refine iwp_plan [(0, true), (1, true), (2, true), (3, false), (4, false), (5, false), (6, true), (7, false)] [3, 5] rfl (by decide +kernel) (by decide) [7] (by decide +kernel) ?_
      simp -dsimp only [go_sem, hk, h12, hlt, hw, q0, q1, hfe, eq.1, eq.2.1, eq.2.2.1]
      refine xcall_p (cloneSeat_p _ _ hfi (by have := Md.sumBy_mem Md.szSeat x.seats _ (List.getElem_mem hlt); unfold Md.szPool Md.szSeats at hs; omega)) (by simp -dsimp only [go_sem, rl_still, eq.2.2.2]) fun m0 p0 r0 hm0 hp0 hr0 => ?_
      have rq := shp_seat _ _ hr0.1
      refine ⟨hr0.2.tags, ?_⟩
      simp -dsimp only [go_sem, hk, h12, hlt, hw, q0, q1, hfe, eq.1, eq.2.1, rq.1, rq.2.1, rq.2.2.1]
      intro g' b' hb'
      refine ⟨fun y h => h.symm, by omega, by omega, fun g'' b'' n' hn' hb1 hb2 => ?_⟩
      exact into_rd (R' := upd (upd (upd (upd (fun _ => none) 1 (some (g1, b1, .node (.agg [1, 1]) e))) 2 (some (g2, b2, zd Tryz.prog 52))) 3 (some (g3, b3, .node (.agg [1, 1]) (upd q 0 (.msl 21 g'' 0 [] 0 (i + 1) 20))))) 21 _) (drop4 rfl rfl (by decide) (by decide)) (by omega) (by simp -dsimp only [go_sem, hk, hfe])
        ⟨by simp -dsimp only [go_sem], _, _, gs_upd hqs, rfl, by simp -dsimp only [go_sem, q1], .inr ⟨g'', b'', _, ⟨by omega, by omega⟩, by simp -dsimp only [go_sem], rfl, Fill.cat hF (fun _ => by simp only [stillL_nil, stillL_cons, still_lit, still_nil, still_any, still_nodeN, still_nodeC, and_self]) shp_seat hlt hr0.1 hr0.2 (by omega) (by omega) (by omega) (by omega)⟩⟩
  · have hl : x.seats.length = i := by omega
    rcases hG with ⟨rfl, rfl, rfl⟩ | ⟨g, b, f, hpos, rfl, rfl, hF⟩
    · simp -dsimp only [go_sem, hk, h12, hlt, k0.lenT, k0.size, k0.isNode, k0.plain, q0, q1]
      intro n1 hn1 hfc
      have hnil : x.seats = [] := List.length_eq_zero_iff.1 hl
      rw [rl_node]
      exact grow_fin (n1 := n1) (by rw [q0]; exact rl_nil _ _) (by rw [q1]; exact rl_lit _ _ _) hqs (.inl ⟨rfl, hnil⟩) (own_nil _ _)
    · simp -dsimp only [go_sem, hk, h12, hlt, k0.lenT, k0.size, k0.isNode, k0.plain, q0, q1]
      intro n1 hn1 hfc
      subst hl
      have hLO := hF.isL hlt (by omega) hpos.2 hfc.here.1 hn1 hfc.here.2
      rw [rl_node]
      refine grow_fin (n1 := n1) ?_ ?_ ?_ hLO.1 hLO.2
      · simp -dsimp only [go_sem, q0]
        rw [rls_still hF.st]
      · simp -dsimp only [go_sem, q1, rl_lit]
      · exact hqs
theorem conv_field {W : Nat → Prop} {K : St → Prop} {N n t m sz l dst : Nat} {kd : Kd} {f p s : Nat → D} {R R' : Roots} (keep : List Nat)
    (hW : W t) (hl : R l = none) (hf : ∀ i, i < m → (f i).free t) (i0 : Nat) (hi0 : i0 < kd.cnt) (hp : p i0 = .sl t true m sz f) (hpf : ∀ i, i < kd.cnt → i ≠ i0 → (p i).free t)
    (hs : ∀ j ∈ keep, (s j).free t) (hR : ∀ l' g b x, R' l' = some (g, b, x) → R l' = some (g, b, x) ∧ x.plain ∧ x.free t)
    (hk : ∀ g, K ⟨N, n, upd (pickS s keep fun _ => .any) dst (.node kd (upd p i0 (.msl l g 0 [] 0 m sz))), upd R' l (some (g, t, .node (.arr m sz) f))⟩) :
    Conv W K ((St.mk N n s R).put (some dst) (.node kd p)) := by
  refine Conv.one ⟨t, m, sz, f, l, hW, hl, hf, ⟨dst, ?_⟩, fun g => ⟨_, _, fun j => ?_, fun l' => ?_, hk g⟩⟩
  · show Has _ (upd s dst (.node kd p) dst)
    rw [upd_same]
    exact .node _ _ i0 hi0 (by rw [hp]; exact .here)
  · show Thaw t m sz f l g (upd s dst (.node kd p) j) _
    by_cases hj : j = dst
    · subst hj; rw [upd_same, upd_same]
      refine .node _ _ _ fun i hi => ?_
      by_cases hii : i = i0
      · subst hii; rw [upd_same, hp]; exact .here
      · rw [upd_ne _ _ hii]; exact .free _ (hpf i hi hii)
    · rw [upd_ne _ _ hj, upd_ne _ _ hj]; exact thaw_pick hs j
  · by_cases hll : l' = l
    · subst hll; exact .inr (.inl ⟨rfl, upd_same _ _ _⟩)
    · rw [upd_ne _ _ hll]
      cases hx : R' l' with
      | none => exact .inl rfl
      | some y =>
        obtain ⟨g0, b, x⟩ := y
        obtain ⟨h1, h2, h3⟩ := hR _ _ _ _ hx
        exact .inr (.inr ⟨hll, g0, b, x, x, h1, rfl, h2, .free _ h3⟩)
def used (p : Md.Pool) (no : Int) : Md.Pool := if 0 ≤ Md.seated p no then ⟨p.seats.modify (Md.seated p no).toNat fun s => { s with hot := true }, p.hand⟩ else p
theorem roots2 {a b ga ba gb bb t : Nat} {A B : D} (hA : A.plain ∧ A.free t) (hB : B.plain ∧ B.free t) (l' g b' : Nat) (x : D) (h : (upd (upd (fun _ => none) a (some (ga, ba, A))) b (some (gb, bb, B)) : Roots) l' = some (g, b', x)) : x.plain ∧ x.free t := by
  by_cases h1 : l' = b
  · subst h1; rw [upd_same] at h; cases h; exact hB
  · rw [upd_ne _ _ h1] at h
    by_cases h2 : l' = a
    · subst h2; rw [upd_same] at h; cases h; exact hA
    · rw [upd_ne _ _ h2] at h; exact absurd h (by simp)
theorem used_no {x : Md.Pool} {no : Int} (h : ¬ 0 ≤ Md.seated x no) : used x no = x := if_neg h
theorem seated_lt {x : Md.Pool} {no : Int} (h : 0 ≤ Md.seated x no) : (Md.seated x no).toNat < x.seats.length := by
  unfold Md.seated at *
  cases e : x.seats.findIdx? (fun s => s.no == no) with
  | none => rw [e] at h; exact absurd h (by decide)
  | some i => have := (List.findIdx?_eq_some_iff_findIdx_eq.1 e).1; simpa [e] using this
theorem isL_mod {xs : List Md.Seat} {f : Nat → D} {k t : Nat} {r : D} {u : Md.Seat → Md.Seat} (hst : ∀ i, (f i).still) (hfl : xs.length < 140737488355328) (hf : ∀ i (h : i < xs.length), IsSeat (f i) xs[i]) (hlt : k < xs.length) (hr : IsSeat r (u xs[k])) (hs : r.still) :
    IsL 20 IsSeat (.sl t true xs.length 20 (upd f k r)) (xs.modify k u) :=
  .inr ⟨t, true, _, by rw [List.length_modify], still_upd hst hs, by rw [List.length_modify]; exact hfl, fun j hj => by
    rw [List.getElem_modify]
    by_cases hjk : k = j
    · subst hjk; rw [upd_same, if_pos rfl]; exact hr
    · rw [upd_ne _ _ (fun e => hjk e.symm), if_neg hjk]; exact hf j (by rw [List.length_modify] at hj; exact hj)⟩
theorem own_mod {lo hi t n sz k : Nat} {f : Nat → D} {r : D} (h : Own lo hi (.sl t true n sz f)) (htl : r.tl = (f k).tl) (hw : r.whole) : Own lo hi (.sl t true n sz (upd f k r)) := by
  obtain ⟨h1, h2, h3, _, h5⟩ := h.sl
  refine own_sl (h1.upd (i := k) htl hw) h2 h3 fun i hi => ?_
  by_cases hik : i = k
  · subst hik; rw [upd_same, htl]; exact h5 _ hi
  · rw [upd_ne _ _ hik]; exact h5 i hi
theorem used_p (d : D) (x : Md.Pool) (no : Int) (h : IsPool d x) (hs : Md.szPool x ≤ 1048576) (hd : d.data) : PCall Tryz.prog 199 [d, .lit (.int .i64 no)] fun n0 n1 r => One (fun r => IsPool r (used x no) ∧ Own n0 n1 r) r := by
  have eq := shp_pool _ _ h
  have e1 := eq.1
  have e2 := eq.2.1
  have e3 := eq.2.2.1
  have e4 := eq.2.2.2
  refine pcall_intro_t Tryz.func199 rfl (by decide) rfl (by decide) (by rw [Tryz.ntmps199]; simp) fun w0 M n0 hW hT => ivc_sound ?_; simp -dsimp only [Tryz.f199, go_sem, e1, e2, e3]
  have dT : d.tags (· < n0) := hT d (by simp) hd
  intro g1 b1 hb1 g2 b2 hb2
  refine xcall_t (clonePool_p _ _ h hs) (by simp -dsimp only [go_sem, rl_still, e4]) fun m0 p0 r0 hm0 hp0 hr0w => ?_
  have hr0 := hr0w.out
  have hm0' : b2 + 1 ≤ m0 := hm0
  refine ⟨hr0.2.tags, ?_⟩
  have ho := hr0.2
  obtain ⟨q, rfl, hqs, hq0, q1⟩ := hr0.1
  have q1 : q 1 = _ := q1
  rcases hq0 with ⟨q0, hnil⟩ | ⟨t, zb, f, q0, hfs, hfl, hf⟩
  · refine Conv.zero ?_
    simp -dsimp only [go_sem, q0, q1, e1, e2, e3]
    intro g b hb
    have hsd : Md.seated x no = -1 := by unfold Md.seated; rw [hnil]; rfl
    refine xcall_v (seated_p _ _ no h) (by simp -dsimp only [go_sem, rl_still, e4]) (fun _ => trivial) fun n4 hn4 => ?_
    have hneg : ¬ ((0 : Int) ≤ -1) := by decide
    simp -dsimp only [go_sem, hsd, q0, q1, e1, e2, e3, hneg]
    intro n1 hn1 hfc
    rw [rlnode_still hqs, used_no (by rw [hsd]; decide)]
    exact .mk ⟨⟨q, rfl, hqs, .inl ⟨q0, hnil⟩, q1⟩, ho.mono (by omega) (by omega)⟩
  · have hoS : Own m0 p0 (.sl t zb x.seats.length 20 f) := by
      have := ho.node.own (i := 0) (by decide)
      rw [q0] at this
      exact this
    have hzb : zb = true := hoS.wh.1
    subst hzb
    have ht := hoS.rg t (by simp [D.tl])
    have hdf : d.free t := free_of_tags (m := n0) (by omega) dT
    refine conv_field (l := 1000) [1, 2, 4] (hW t (by omega)) (by simp -dsimp only [go_sem]) (own_free hoS) 0 (by decide) q0 (fun i hi hne => ?_) (fun j hj => ?_) (fun l' g b x hx => ⟨hx, roots2 ⟨e3, hdf⟩ ⟨?_, ?_⟩ _ _ _ _ hx⟩) fun g => ?_
    · have : i = 1 := by have : i < 2 := hi; omega
      subst this; rw [q1]; trivial
    · simp only [List.mem_cons, List.not_mem_nil, or_false] at hj
      rcases hj with rfl | rfl | rfl
      · exact (show (D.lit (.int .i64 no)).free t from trivial)
      · exact (show (D.ptr 2 g1 0 []).free t from trivial)
      · exact (show (D.ptr 4 g2 0 []).free t from trivial)
    · simp -dsimp only [go_sem]
    · intro i hi
      have hi' : i < 2 := hi
      match i, hi' with
      | 0, _ => trivial
      | 1, _ => trivial
    · simp -dsimp only [go_sem, q0, q1, e1, e2, e3]
      intro g3 b3 hb3
      refine xcall_v (seated_p _ _ no h) (by simp -dsimp only [go_sem, rl_still, e4]) (fun _ => trivial) fun n4 hn4 => ?_
      simp -dsimp only [go_sem, q0, q1, e1, e2, e3]
      refine ⟨fun hk => ?_, fun hk => ?_⟩
      · have hlt := seated_lt hk
        have hkc : Md.seated x no < (x.seats.length : Int) := by omega
        obtain ⟨fe, hfe, hfes, s0, s1, s2, s3⟩ := hf _ hlt
        have s3 : fe 3 = _ := s3
        simp -dsimp only [go_sem, hk, hkc, hlt, hfe, s3]
        intro n1 hn1 hfc
        rw [rl_node]
        have hu : used x no = ⟨x.seats.modify (Md.seated x no).toNat fun s => { s with hot := true }, x.hand⟩ := if_pos hk
        rw [hu]
        have fst : ∀ i, ((upd fe 3 (.lit (.bool true))) i).still := still_upd hfes trivial
        have fr : IsSeat (.node (.agg [1, 17, 1, 1]) (upd fe 3 (.lit (.bool true)))) { x.seats[(Md.seated x no).toNat] with hot := true } := ⟨_, rfl, fst, s0, s1, s2, rfl⟩
        have htl : (D.node (.agg [1, 17, 1, 1]) (upd fe 3 (.lit (.bool true)))).tl = (f (Md.seated x no).toNat).tl := by rw [hfe]; exact tl_upd (by rw [s3]; rfl)
        have hw : (D.node (.agg [1, 17, 1, 1]) (upd fe 3 (.lit (.bool true)))).whole := fun i hi => by
          have h0 := hoS.wh.2 _ hlt
          rw [hfe] at h0
          by_cases h3 : i = 3
          · subst h3; rw [upd_same]; trivial
          · rw [upd_ne _ _ h3]; exact h0 i hi
        refine grow_fin (n1 := n1) ?_ ?_ (gs_upd fun j => .inl (hqs j)) (isL_mod hfs hfl hf hlt fr fst) ((own_mod hoS htl hw).mono (by omega) (by omega))
        · simp -dsimp only [go_sem, q0]
          rw [rls_still (still_upd hfs (show (D.node (.agg [1, 17, 1, 1]) _).still from fst))]
        · simp -dsimp only [go_sem, q1, rl_lit]
      · intro n1 hn1 hfc
        rw [used_no hk, rl_node]
        refine grow_fin (n1 := n1) ?_ ?_ (gs_upd fun j => .inl (hqs j)) (.inr ⟨t, true, f, rfl, hfs, hfl, hf⟩) (hoS.mono (by omega) (by omega))
        · simp -dsimp only [go_sem, q0]
          rw [rls_still hfs]
        · simp -dsimp only [go_sem, q1, rl_lit]
theorem IsSeat.data {d : D} {x : Md.Seat} (h : IsSeat d x) : d.data := by
  obtain ⟨f, rfl, _, h0, h1, h2, h3⟩ := h
  intro i hi
  have hi' : i < 4 := hi
  match i, hi' with
  | 0, _ => exact IsInt.data h0
  | 1, _ => exact h1.data
  | 2, _ => exact IsBool.data h2
  | 3, _ => exact IsBool.data h3
theorem IsPool.data {d : D} {x : Md.Pool} (h : IsPool d x) : d.data := by
  obtain ⟨f, rfl, _, h0, h1⟩ := h
  intro i hi
  have hi' : i < 2 := hi
  match i, hi' with
  | 0, _ => exact IsL.data (fun _ _ h => IsSeat.data h) h0
  | 1, _ => exact IsInt.data h1
theorem cPool_eq (x : Md.Pool) : Md.cPool x = 4 * x.seats.length := by
  unfold Md.cPool Md.cSeats Md.sumBy
  induction x.seats with
  | nil => rfl
  | cons a l ih => simp only [List.map_cons, List.sum_cons, List.length_cons, ih, Md.cSeat]; omega
theorem cPool_le (x : Md.Pool) : Md.cPool x ≤ 4 * Md.szPool x := by
  rw [cPool_eq]
  unfold Md.szPool Md.szSeats
  omega
end Go.Proofs.YtncinhlaabdlaaaGreat.IM
end
