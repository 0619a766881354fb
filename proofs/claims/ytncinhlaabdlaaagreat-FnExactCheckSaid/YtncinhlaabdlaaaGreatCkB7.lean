/- Several of my texts in one module (merge.py, shake.py). -/
import Derived.Test.YtncinhlaabdlaaaGreatCkB6
import Derived.Test.YtncinhlaabdlaaaGreatCkA3
section
namespace Go.Proofs.YtncinhlaabdlaaaGreat.IM
open Go Go.Proofs
set_option linter.unusedVariables false
set_option linter.unusedSimpArgs false
set_option maxHeartbeats 2000000
set_option maxRecDepth 20000
theorem cloneSeat_p (d : D) (x : Md.Seat) (h : IsSeat d x) (hs : Md.szSeat x ≤ 1048576) : PCall Tryz.prog 194 [d] fun n0 n1 r => IsSeat r x ∧ Own n0 n1 r := by
  obtain ⟨f, rfl, hst, k0, k1, k2, k3⟩ := h
  have k0 : f 0 = _ := k0
  have q1 := shp_page _ _ k1
  have k2 : f 2 = _ := k2
  have k3 : f 3 = _ := k3
  unfold Md.szSeat at hs
  refine pcall_intro Tryz.func194 rfl (by decide) rfl (by decide) (by rw [Tryz.ntmps194]; simp) fun w0 M n0 hW => ivc_sound ?_; simp -dsimp only [Tryz.f194, go_sem, k0, q1.1, q1.2.1, q1.2.2.1, k2, k3]
  intro g1 b1 hb1 g2 b2 hb2
  refine xcall_p (clonePage_p _ _ k1 (by omega)) (by simp -dsimp only [go_sem, rl_still, q1.2.2.2]) fun m0 p0 r0 hm0 hp0 hr0 => ?_
  have rq := shp_page _ _ hr0.1
  refine ⟨hr0.2.tags, ?_⟩
  simp -dsimp only [go_sem, k0, q1.1, q1.2.1, q1.2.2.1, k2, k3, rq.1, rq.2.1, rq.2.2.1]
  intro n1 hn1 hfc
  refine fin_node (Q := fun r => IsSeat r x ∧ Own n0 n1 r) (still_upd hst rq.2.2.2) fun hst' => ?_
  refine ⟨⟨_, rfl, hst', by simp -dsimp only [go_sem, k0]; rfl, by simp -dsimp only [go_sem]; exact hr0.1, by simp -dsimp only [go_sem, k2]; rfl, by simp -dsimp only [go_sem, k3]; rfl⟩, own_node ?_⟩
  exact OwnN.mono (hi := p0) (ownN_snoc_lit (ownN_snoc_lit (ownN_snoc_own (mid := n0) (hi := p0) (ownN_snoc_lit (ownN_zero n0 n0 _) (by simp -dsimp only [go_sem, k0]; rfl)) (by simp -dsimp only [go_sem]; exact hr0.2) (by omega) (by omega) (by omega) (by omega)) (by simp -dsimp only [go_sem, k2]; rfl)) (by simp -dsimp only [go_sem, k3]; rfl)) (Nat.le_refl _) (by omega)
theorem l6CopySeat_p (d : D) (x : Md.Seat) (h : IsSeat d x) (hs : Md.szSeat x ≤ 1048576) : PCall Tryz.prog 189 [d] fun n0 n1 r => IsSeat r x ∧ Own n0 n1 r := by
  obtain ⟨f, rfl, hst, k0, k1, k2, k3⟩ := h
  have k0 : f 0 = _ := k0
  have q1 := shp_page _ _ k1
  have k2 : f 2 = _ := k2
  have k3 : f 3 = _ := k3
  unfold Md.szSeat at hs
  refine pcall_intro Tryz.func189 rfl (by decide) rfl (by decide) (by rw [Tryz.ntmps189]; simp) fun w0 M n0 hW => ivc_sound ?_; simp -dsimp only [Tryz.f189, go_sem, k0, q1.1, q1.2.1, q1.2.2.1, k2, k3]
  intro g1 b1 hb1 g2 b2 hb2
  refine xcall_p (l3Copy_p _ _ k1 (by omega)) (by simp -dsimp only [go_sem, rl_still, q1.2.2.2]) fun m0 p0 r0 hm0 hp0 hr0 => ?_
  have rq := shp_page _ _ hr0.1
  refine ⟨hr0.2.tags, ?_⟩
  simp -dsimp only [go_sem, k0, q1.1, q1.2.1, q1.2.2.1, k2, k3, rq.1, rq.2.1, rq.2.2.1]
  intro n1 hn1 hfc
  refine fin_node (Q := fun r => IsSeat r x ∧ Own n0 n1 r) (still_upd hst rq.2.2.2) fun hst' => ?_
  refine ⟨⟨_, rfl, hst', by simp -dsimp only [go_sem, k0]; rfl, by simp -dsimp only [go_sem]; exact hr0.1, by simp -dsimp only [go_sem, k2]; rfl, by simp -dsimp only [go_sem, k3]; rfl⟩, own_node ?_⟩
  exact OwnN.mono (hi := p0) (ownN_snoc_lit (ownN_snoc_lit (ownN_snoc_own (mid := n0) (hi := p0) (ownN_snoc_lit (ownN_zero n0 n0 _) (by simp -dsimp only [go_sem, k0]; rfl)) (by simp -dsimp only [go_sem]; exact hr0.2) (by omega) (by omega) (by omega) (by omega)) (by simp -dsimp only [go_sem, k2]; rfl)) (by simp -dsimp only [go_sem, k3]; rfl)) (Nat.le_refl _) (by omega)
def Grow {α : Type} (sz : Nat) (Rl : D → α → Prop) (n0 n' : Nat) (xs : List α) (i l : Nat) (R : Roots) (h : D) (R' : Roots) : Prop :=
  (i = 0 ∧ h = .nil ∧ R' = R) ∨ ∃ g b f, (0 < i ∧ n0 ≤ b) ∧ h = .msl l g 0 [] 0 i sz ∧ R' = upd R l (some (g, b, .node (.arr i sz) f)) ∧ Fill Rl sz n0 n' xs i i f
theorem Fill.cat {α : Type} {R : D → α → Prop} {sz lo hi mid n0 n1 : Nat} {xs : List α} {i : Nat} {f z : Nat → D} {r : D} {nd : Bool} (h : Fill R sz lo mid xs i i f) (hz : ∀ j, (z j).still) (hR : Shp R sz nd) (hlt : i < xs.length) (hr : R r xs[i]) (ho : Own n0 n1 r)
    (h1 : lo ≤ mid) (h2 : mid ≤ n0) (h3 : n1 ≤ hi) (h4 : n0 ≤ n1) : Fill R sz lo hi xs (i + 1) (i + 1) (catD i f (upd z 0 r)) := by
  obtain ⟨e1, e2, e3, e4⟩ := hR _ _ hr
  have hc : catD i f (upd z 0 r) i = r := by simp [catD, upd]
  have hl : ∀ j, j < i → catD i f (upd z 0 r) j = f j := fun j hj => by simp [catD, hj]
  refine ⟨fun j => ?_, fun j hj => ?_, fun j hj hji => ?_, ?_⟩
  · unfold catD; split
    · exact h.st j
    · exact still_upd hz e4 _
  · by_cases hj' : j = i
    · subst hj'; rw [hc]; exact ⟨e3, e1⟩
    · rw [hl j (by omega)]; exact h.sh j (by omega)
  · by_cases hj' : j = i
    · subst hj'; rw [hc]; exact hr
    · rw [hl j (by omega)]; exact h.ok j hj (by omega)
  · exact h.own.snoc (mid := mid) (by rw [hc]; exact ho.mono h2 h3) h1 (by omega) fun j hj => hl j hj
theorem Fill.one {α : Type} {R : D → α → Prop} {sz lo hi n0 n1 : Nat} {xs : List α} {z : Nat → D} {r : D} {nd : Bool} (hz : ∀ j, (z j).still) (hR : Shp R sz nd) (hlt : 0 < xs.length) (hr : R r xs[0]) (ho : Own n0 n1 r)
    (h2 : lo ≤ n0) (h3 : n1 ≤ hi) (h4 : n0 ≤ n1) : Fill R sz lo hi xs (0 + 1) (0 + 1) (upd z 0 r) := by
  have := Fill.cat (f := z) (z := z) (mid := lo) (Fill.start (R := R) (sz := sz) (lo := lo) (hi := lo) (xs := xs) (n := 0) hz fun j hj => absurd hj (by omega)) hz hR hlt hr ho (Nat.le_refl _) h2 h3 h4
  rwa [catD_zero] at this
theorem gs_upd {q : Nat → D} {v : D} (h : ∀ j, (q j).still ∨ j = 0) (j : Nat) : (upd q 0 v j).still ∨ j = 0 := by
  by_cases hj : j = 0
  · exact .inr hj
  · rw [upd_ne _ _ hj]; exact h j
theorem into_rd {w0 : World} {M : Fr} {N n n' : Nat} {R R' : Roots} {s0 s : Nat → D} {K : List Nat} {J : Nat → (Nat → D) → Roots → Prop} (hR : ∀ j, R' j = R j ∨ R' j = none) (hn : n ≤ n') (hk : keepL s s0 K) (hJ : J n' s R') :
    Into w0 M ⟨N, n', s, R⟩ (RoundR N n s0 K J) :=
  Into.le ⟨N, n', s, R'⟩ ⟨rfl, Nat.le_refl _, fun t => .inl rfl, fun j => by
    rcases hR j with h | h
    · exact .inl h
    · exact .inr h⟩ (into_r hn hk hJ)
theorem drop1 {R : Roots} {a b : Nat} {x y : Option (Nat × Nat × D)} (h : R a = none) (hab : a ≠ b) (j : Nat) : (upd R b y) j = (upd (upd R a x) b y) j ∨ (upd R b y) j = none := by
  by_cases h1 : j = b
  · subst h1; left; simp [upd]
  · by_cases h2 : j = a
    · subst h2; right; simp [upd, h1, h]
    · left; simp [upd, h1, h2]
theorem drop2 {R : Roots} {a b : Nat} {x y z : Option (Nat × Nat × D)} (h : R a = none) (hab : a ≠ b) (j : Nat) : (upd R b y) j = (upd (upd (upd R b z) a x) b y) j ∨ (upd R b y) j = none := by
  by_cases h1 : j = b
  · subst h1; left; simp [upd]
  · by_cases h2 : j = a
    · subst h2; right; simp [upd, h1, h]
    · left; simp [upd, h1, h2]
theorem grow_fin {q : Nat → D} {F : Relab} {x : Md.Pool} {sd : D} {n0 n1 k : Nat} (h0 : rl k F (q 0) = sd) (h1 : rl k F (q 1) = .lit (.int .i64 x.hand)) (hq : ∀ j, (q j).still ∨ j = 0) (hL : IsL 20 IsSeat sd x.seats) (hO : Own n0 n1 sd) :
    One (fun r => IsPool r x ∧ Own n0 n1 r) (.node (.agg [1, 1]) fun i => rl k F (q i)) := by
  refine .mk ⟨⟨_, rfl, fun j => ?_, by show IsL 20 IsSeat (rl k F (q 0)) x.seats; rw [h0]; exact hL, h1⟩, own_node ?_⟩
  · rcases hq j with h | h
    · show (rl k F (q j)).still; rw [rl_still h]; exact h
    · subst h; show (rl k F (q 0)).still; rw [h0]; exact hL.still
  · refine ⟨fun i hi t ht => ?_, fun i hi => ?_, fun i j hij hj t ht ht' => ?_, fun i hi => ?_⟩
    · match i, hi with
      | 0, _ => exact hO.rg t (h0 ▸ ht)
      | 1, _ => replace ht : t ∈ (rl k F (q 1)).tl := ht; rw [h1] at ht; exact absurd ht (by simp [D.tl])
    · match i, hi with
      | 0, _ => exact h0 ▸ hO.nd
      | 1, _ => show (rl k F (q 1)).tl.Nodup; rw [h1]; simp [D.tl]
    · have : j = 1 := by have : j < 2 := hj; omega
      subst this
      replace ht' : t ∈ (rl k F (q 1)).tl := ht'
      rw [h1] at ht'; exact absurd ht' (by simp [D.tl])
    · match i, hi with
      | 0, _ => exact h0 ▸ hO.wh
      | 1, _ => show (rl k F (q 1)).whole; rw [h1]; trivial
theorem l6Copy_p (d : D) (x : Md.Pool) (h : IsPool d x) (hs : Md.szPool x ≤ 1048576) : PCall Tryz.prog 115 [d] fun n0 n1 r => One (fun r => IsPool r x ∧ Own n0 n1 r) r := by
  obtain ⟨e, rfl, hst, k0, k1⟩ := h
  have k1 : e 1 = _ := k1
  have hs' : x.seats.length ≤ 1048576 := by unfold Md.szPool Md.szSeats at hs; omega
  refine pcall_intro Tryz.func115 rfl (by decide) rfl (by decide) (by rw [Tryz.ntmps115]; simp) fun w0 M n0 hW => ivc_sound ?_; simp -dsimp only [Tryz.f115, go_sem, k1, k0.lenT, k0.size, k0.isNode, k0.plain]
  intro g1 b1 hb1 g2 b2 hb2 g3 b3 hb3
  refine iwp_forR x.seats.length [1, 2, 3] (fun i n' s R => s 4 = .lit (.int .i64 i) ∧ ∃ q hd, (∀ j, (q j).still ∨ j = 0) ∧ q 0 = hd ∧ q 1 = .lit (.int .i64 x.hand) ∧
      Grow 20 IsSeat n0 n' x.seats i 24 (upd (upd (upd (fun _ => none) 1 (some (g1, b1, .node (.agg [1, 1]) e))) 2 (some (g2, b2, zd Tryz.prog 52))) 3 (some (g3, b3, .node (.agg [1, 1]) q))) hd R) 0 (Nat.zero_le _)
    ⟨by simp -dsimp only [go_sem]; rfl, _, .nil, ?_, by simp -dsimp only [go_sem], by simp -dsimp only [go_sem], .inl ⟨rfl, rfl, rfl⟩⟩ ?_
  · exact fun j => .inl (still_upd (d := .lit (.int .i64 x.hand)) (stN (l := [.nil, .lit (.int .i64 0)]) (by simp only [stillL_nil, stillL_cons, still_lit, still_nil, still_any, still_nodeN, still_nodeC, and_self])) (by trivial) j)
  rintro i n' s R hi hn hk ⟨h4, q, hd, hqs, q0, q1, hG⟩
  refine ivc_sound ?_
  simp -dsimp only [go_sem] at hk
  by_cases hlt : i < x.seats.length
  · obtain ⟨t, zb, fi, hfe, hst', hf'⟩ := k0.sl hlt
    have hfi := hf' i hlt
    have eq := shp_seat _ _ hfi
    have hw := i64_succ (i := i) (by omega)
    rcases hG with ⟨rfl, rfl, rfl⟩ | ⟨g, b, f, hpos, rfl, rfl, hF⟩
    · simp -dsimp only [go_sem, hk, h4, hlt, hw, q0, q1, hfe, eq.1, eq.2.1]
      refine iwp_plan [(0, true), (1, true), (2, true), (3, true), (4, true), (5, true), (6, true), (7, false), (8, false), (9, false), (10, true), (11, false)] [1, 3] rfl (by decide +kernel) (by decide) [11] (by decide +kernel) ?_
      simp -dsimp only [go_sem, hk, h4, hlt, hw, q0, q1, hfe, eq.1, eq.2.1, eq.2.2.1]
      refine xcall_p (l6CopySeat_p _ _ hfi (by have := Md.sumBy_mem Md.szSeat x.seats _ (List.getElem_mem hlt); unfold Md.szPool Md.szSeats at hs; omega)) (by simp -dsimp only [go_sem, rl_still, eq.2.2.2]) fun m0 p0 r0 hm0 hp0 hr0 => ?_
      have rq := shp_seat _ _ hr0.1
      refine ⟨hr0.2.tags, ?_⟩
      simp -dsimp only [go_sem, hk, h4, hlt, hw, q0, q1, hfe, eq.1, eq.2.1, rq.1, rq.2.1, rq.2.2.1]
      intro g b hb
      refine ⟨fun y h => h.symm, fun g' b' n' hn' hb1 hb2 => ?_⟩
      exact into_rd (R' := upd (upd (upd (upd (fun _ => none) 1 (some (g1, b1, .node (.agg [1, 1]) e))) 2 (some (g2, b2, zd Tryz.prog 52))) 3 (some (g3, b3, .node (.agg [1, 1]) (upd q 0 (.msl 24 g' 0 [] 0 1 20))))) 24 _) (drop1 rfl (by decide)) (by omega) (by simp -dsimp only [go_sem, hk])
        ⟨by simp -dsimp only [go_sem], _, _, gs_upd hqs, rfl, by simp -dsimp only [go_sem, q1], .inr ⟨g', b', _, ⟨by omega, by omega⟩, by simp -dsimp only [go_sem], rfl, Fill.one (fun _ => by simp only [stillL_nil, stillL_cons, still_lit, still_nil, still_any, still_nodeN, still_nodeC, and_self]) shp_seat hlt hr0.1 hr0.2 (by omega) (by omega) (by omega)⟩⟩
    · simp -dsimp only [go_sem, hk, h4, hlt, hw, q0, q1, hfe, eq.1, eq.2.1]
      refine iwp_plan [(0, true), (1, true), (2, true), (3, true), (4, true), (5, true), (6, true), (7, false), (8, false), (9, false), (10, true), (11, false)] [1, 3] rfl (by decide +kernel) (by decide) [11] (by decide +kernel) ?_
      simp -dsimp only [go_sem, hk, h4, hlt, hw, q0, q1, hfe, eq.1, eq.2.1, eq.2.2.1]
      refine xcall_p (l6CopySeat_p _ _ hfi (by have := Md.sumBy_mem Md.szSeat x.seats _ (List.getElem_mem hlt); unfold Md.szPool Md.szSeats at hs; omega)) (by simp -dsimp only [go_sem, rl_still, eq.2.2.2]) fun m0 p0 r0 hm0 hp0 hr0 => ?_
      have rq := shp_seat _ _ hr0.1
      refine ⟨hr0.2.tags, ?_⟩
      simp -dsimp only [go_sem, hk, h4, hlt, hw, q0, q1, hfe, eq.1, eq.2.1, rq.1, rq.2.1, rq.2.2.1]
      intro g' b' hb'
      refine ⟨fun y h => h.symm, by omega, by omega, fun g'' b'' n' hn' hb1 hb2 => ?_⟩
      exact into_rd (R' := upd (upd (upd (upd (fun _ => none) 1 (some (g1, b1, .node (.agg [1, 1]) e))) 2 (some (g2, b2, zd Tryz.prog 52))) 3 (some (g3, b3, .node (.agg [1, 1]) (upd q 0 (.msl 24 g'' 0 [] 0 (i + 1) 20))))) 24 _) (drop2 rfl (by decide)) (by omega) (by simp -dsimp only [go_sem, hk])
        ⟨by simp -dsimp only [go_sem], _, _, gs_upd hqs, rfl, by simp -dsimp only [go_sem, q1], .inr ⟨g'', b'', _, ⟨by omega, by omega⟩, by simp -dsimp only [go_sem], rfl, Fill.cat hF (fun _ => by simp only [stillL_nil, stillL_cons, still_lit, still_nil, still_any, still_nodeN, still_nodeC, and_self]) shp_seat hlt hr0.1 hr0.2 (by omega) (by omega) (by omega) (by omega)⟩⟩
  · have hl : x.seats.length = i := by omega
    rcases hG with ⟨rfl, rfl, rfl⟩ | ⟨g, b, f, hpos, rfl, rfl, hF⟩
    · simp -dsimp only [go_sem, hk, h4, hlt, k0.lenT, k0.size, k0.isNode, k0.plain, q0, q1]
      intro n1 hn1 hfc
      have hnil : x.seats = [] := List.length_eq_zero_iff.1 hl
      rw [rl_node]
      exact grow_fin (n1 := n1) (by rw [q0]; exact rl_nil _ _) (by rw [q1]; exact rl_lit _ _ _) hqs (.inl ⟨rfl, hnil⟩) (own_nil _ _)
    · simp -dsimp only [go_sem, hk, h4, hlt, k0.lenT, k0.size, k0.isNode, k0.plain, q0, q1]
      intro n1 hn1 hfc
      subst hl
      have hLO := hF.isL hlt (by omega) hpos.2 hfc.here.1 hn1 hfc.here.2
      rw [rl_node]
      refine grow_fin (n1 := n1) ?_ ?_ ?_ hLO.1 hLO.2
      · simp -dsimp only [go_sem, q0]
        rw [rls_still hF.st]
      · simp -dsimp only [go_sem, q1, rl_lit]
      · exact hqs
theorem drop3 {R : Roots} {a c b : Nat} {x y v : Option (Nat × Nat × D)} (h : R a = none) (h' : R c = none) (hab : a ≠ b) (hcb : c ≠ b) (j : Nat) : (upd R b y) j = (upd (upd (upd R c v) a x) b y) j ∨ (upd R b y) j = none := by
  by_cases h1 : j = b
  · subst h1; left; simp [upd]
  · by_cases h2 : j = a
    · subst h2; right; simp [upd, h1, h]
    · by_cases h3 : j = c
      · subst h3; right; simp [upd, h1, h']
      · left; simp [upd, h1, h2, h3]
theorem drop4 {R : Roots} {a c b : Nat} {x y v z : Option (Nat × Nat × D)} (h : R a = none) (h' : R c = none) (hab : a ≠ b) (hcb : c ≠ b) (j : Nat) : (upd R b y) j = (upd (upd (upd (upd R b z) c v) a x) b y) j ∨ (upd R b y) j = none := by
  by_cases h1 : j = b
  · subst h1; left; simp [upd]
  · by_cases h2 : j = a
    · subst h2; right; simp [upd, h1, h]
    · by_cases h3 : j = c
      · subst h3; right; simp [upd, h1, h']
      · left; simp [upd, h1, h2, h3]
theorem clonePool_p (d : D) (x : Md.Pool) (h : IsPool d x) (hs : Md.szPool x ≤ 1048576) : PCall Tryz.prog 127 [d] fun n0 n1 r => One (fun r => IsPool r x ∧ Own n0 n1 r) r := by
  obtain ⟨e, rfl, hst, k0, k1⟩ := h
  have k1 : e 1 = _ := k1
  have hs' : x.seats.length ≤ 1048576 := by unfold Md.szPool Md.szSeats at hs; omega
  refine pcall_intro Tryz.func127 rfl (by decide) rfl (by decide) (by rw [Tryz.ntmps127]; simp) fun w0 M n0 hW => ivc_sound ?_; simp -dsimp only [Tryz.f127, go_sem, k1, k0.lenT, k0.size, k0.isNode, k0.plain]
  intro g1 b1 hb1 g2 b2 hb2 g3 b3 hb3
  refine iwp_forR x.seats.length [2, 3, 10, 11] (fun i n' s R => s 12 = .lit (.int .i64 i) ∧ ∃ q hd, (∀ j, (q j).still ∨ j = 0) ∧ q 0 = hd ∧ q 1 = .lit (.int .i64 x.hand) ∧
      Grow 20 IsSeat n0 n' x.seats i 21 (upd (upd (upd (fun _ => none) 1 (some (g1, b1, .node (.agg [1, 1]) e))) 2 (some (g2, b2, zd Tryz.prog 52))) 3 (some (g3, b3, .node (.agg [1, 1]) q))) hd R) 0 (Nat.zero_le _)
    ⟨by simp -dsimp only [go_sem]; rfl, _, .nil, ?_, by simp -dsimp only [go_sem], by simp -dsimp only [go_sem], .inl ⟨rfl, rfl, rfl⟩⟩ ?_
  · exact fun j => .inl (still_upd (d := .lit (.int .i64 x.hand)) (stN (l := [.nil, .lit (.int .i64 0)]) (by simp only [stillL_nil, stillL_cons, still_lit, still_nil, still_any, still_nodeN, still_nodeC, and_self])) (by trivial) j)
  rintro i n' s R hi hn hk ⟨h12, q, hd, hqs, q0, q1, hG⟩
  refine ivc_sound ?_
  simp -dsimp only [go_sem] at hk
  by_cases hlt : i < x.seats.length
  · obtain ⟨t, zb, fi, hfe, hst', hf'⟩ := k0.sl hlt
    have hfi := hf' i hlt
    have eq := shp_seat _ _ hfi
    have hw := i64_succ (i := i) (by omega)
    rcases hG with ⟨rfl, rfl, rfl⟩ | ⟨g, b, f, hpos, rfl, rfl, hF⟩
    · simp -dsimp only [go_sem, hk, h12, hlt, hw, q0, q1, hfe, eq.1, eq.2.1, eq.2.2.1]
      intro g5 b5 hb5
      refine iwp_plan [(0, true), (1, true), (2, true), (3, false), (4, false), (5, false), (6, true), (7, false)] [3, 5] rfl (by decide +kernel) (by decide) [7] (by decide +kernel) ?_
      simp -dsimp only [go_sem, hk, h12, hlt, hw, q0, q1, hfe, eq.1, eq.2.1, eq.2.2.1]
      refine xcall_p (cloneSeat_p _ _ hfi (by have := Md.sumBy_mem Md.szSeat x.seats _ (List.getElem_mem hlt); unfold Md.szPool Md.szSeats at hs; omega)) (by simp -dsimp only [go_sem, rl_still, eq.2.2.2]) fun m0 p0 r0 hm0 hp0 hr0 => ?_
      have rq := shp_seat _ _ hr0.1
      refine ⟨hr0.2.tags, ?_⟩
      simp -dsimp only [go_sem, hk, h12, hlt, hw, q0, q1, hfe, eq.1, eq.2.1, rq.1, rq.2.1, rq.2.2.1]
      intro g b hb
      refine ⟨fun y h => h.symm, fun g' b' n' hn' hb1 hb2 => ?_⟩
      exact into_rd (R' := upd (upd (upd (upd (fun _ => none) 1 (some (g1, b1, .node (.agg [1, 1]) e))) 2 (some (g2, b2, zd Tryz.prog 52))) 3 (some (g3, b3, .node (.agg [1, 1]) (upd q 0 (.msl 21 g' 0 [] 0 1 20))))) 21 _) (drop3 rfl rfl (by decide) (by decide)) (by omega) (by simp -dsimp only [go_sem, hk, hfe])
        ⟨by simp -dsimp only [go_sem], _, _, gs_upd hqs, rfl, by simp -dsimp only [go_sem, q1], .inr ⟨g', b', _, ⟨by omega, by omega⟩, by simp -dsimp only [go_sem], rfl, Fill.one (fun _ => by simp only [stillL_nil, stillL_cons, still_lit, still_nil, still_any, still_nodeN, still_nodeC, and_self]) shp_seat hlt hr0.1 hr0.2 (by omega) (by omega) (by omega)⟩⟩
    · simp -dsimp only [go_sem, hk, h12, hlt, hw, q0, q1, hfe, eq.1, eq.2.1, eq.2.2.1]
      intro g5 b5 hb5
      refine iwp_plan [(0, true), (1, true), (2, true), (3, false), (4, false), (5, false), (6, true), (7, false)] [3, 5] rfl (by decide +kernel) (by decide) [7] (by decide +kernel) ?_
      simp -dsimp only [go_sem, hk, h12, hlt, hw, q0, q1, hfe, eq.1, eq.2.1, eq.2.2.1]
      refine xcall_p (cloneSeat_p _ _ hfi (by have := Md.sumBy_mem Md.szSeat x.seats _ (List.getElem_mem hlt); unfold Md.szPool Md.szSeats at hs; omega)) (by simp -dsimp only [go_sem, rl_still, eq.2.2.2]) fun m0 p0 r0 hm0 hp0 hr0 => ?_
      have rq := shp_seat _ _ hr0.1
      refine ⟨hr0.2.tags, ?_⟩
      simp -dsimp only [go_sem, hk, h12, hlt, hw, q0, q1, hfe, eq.1, eq.2.1, rq.1, rq.2.1, rq.2.2.1]
      intro g' b' hb'
      refine ⟨fun y h => h.symm, by omega, by omega, fun g'' b'' n' hn' hb1 hb2 => ?_⟩
      exact into_rd (R' := upd (upd (upd (upd (fun _ => none) 1 (some (g1, b1, .node (.agg [1, 1]) e))) 2 (some (g2, b2, zd Tryz.prog 52))) 3 (some (g3, b3, .node (.agg [1, 1]) (upd q 0 (.msl 21 g'' 0 [] 0 (i + 1) 20))))) 21 _) (drop4 rfl rfl (by decide) (by decide)) (by omega) (by simp -dsimp only [go_sem, hk, hfe])
        ⟨by simp -dsimp only [go_sem], _, _, gs_upd hqs, rfl, by simp -dsimp only [go_sem, q1], .inr ⟨g'', b'', _, ⟨by omega, by omega⟩, by simp -dsimp only [go_sem], rfl, Fill.cat hF (fun _ => by simp only [stillL_nil, stillL_cons, still_lit, still_nil, still_any, still_nodeN, still_nodeC, and_self]) shp_seat hlt hr0.1 hr0.2 (by omega) (by omega) (by omega) (by omega)⟩⟩
  · have hl : x.seats.length = i := by omega
    rcases hG with ⟨rfl, rfl, rfl⟩ | ⟨g, b, f, hpos, rfl, rfl, hF⟩
    · simp -dsimp only [go_sem, hk, h12, hlt, k0.lenT, k0.size, k0.isNode, k0.plain, q0, q1]
      intro n1 hn1 hfc
      have hnil : x.seats = [] := List.length_eq_zero_iff.1 hl
      rw [rl_node]
      exact grow_fin (n1 := n1) (by rw [q0]; exact rl_nil _ _) (by rw [q1]; exact rl_lit _ _ _) hqs (.inl ⟨rfl, hnil⟩) (own_nil _ _)
    · simp -dsimp only [go_sem, hk, h12, hlt, k0.lenT, k0.size, k0.isNode, k0.plain, q0, q1]
      intro n1 hn1 hfc
      subst hl
      have hLO := hF.isL hlt (by omega) hpos.2 hfc.here.1 hn1 hfc.here.2
      rw [rl_node]
      refine grow_fin (n1 := n1) ?_ ?_ ?_ hLO.1 hLO.2
      · simp -dsimp only [go_sem, q0]
        rw [rls_still hF.st]
      · simp -dsimp only [go_sem, q1, rl_lit]
      · exact hqs
theorem IsSeat.data {d : D} {x : Md.Seat} (h : IsSeat d x) : d.data := by
  obtain ⟨f, rfl, _, h0, h1, h2, h3⟩ := h
  intro i hi
  have hi' : i < 4 := hi
  match i, hi' with
  | 0, _ => exact IsInt.data h0
  | 1, _ => exact h1.data
  | 2, _ => exact IsBool.data h2
  | 3, _ => exact IsBool.data h3
theorem IsPool.data {d : D} {x : Md.Pool} (h : IsPool d x) : d.data := by
  obtain ⟨f, rfl, _, h0, h1⟩ := h
  intro i hi
  have hi' : i < 2 := hi
  match i, hi' with
  | 0, _ => exact IsL.data (fun _ _ h => IsSeat.data h) h0
  | 1, _ => exact IsInt.data h1
theorem cPool_eq (x : Md.Pool) : Md.cPool x = 4 * x.seats.length := by
  unfold Md.cPool Md.cSeats Md.sumBy
  induction x.seats with
  | nil => rfl
  | cons a l ih => simp only [List.map_cons, List.sum_cons, List.length_cons, ih, Md.cSeat]; omega
theorem cPool_le (x : Md.Pool) : Md.cPool x ≤ 4 * Md.szPool x := by
  rw [cPool_eq]
  unfold Md.szPool Md.szSeats
  omega
end Go.Proofs.YtncinhlaabdlaaaGreat.IM
end
