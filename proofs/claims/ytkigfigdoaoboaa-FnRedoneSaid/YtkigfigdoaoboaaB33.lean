/- Several of my texts in one module (merge.py). -/
import Derived.Test.YtkigfigdoaoboaaA5
import Derived.Test.YtkigfigdoaoboaaB27
import Derived.Test.YtkigfigdoaoboaaB31
import Derived.Test.YtkigfigdoaoboaaB6
import Derived.Test.YtkigfigdoaoboaaB22
import Derived.Test.YtkigfigdoaoboaaB5
section
/- Contracts: slots and pages are the same, as the laws say it. Printed by chg.py. -/
namespace Go.Proofs.Ytkigfigdoaoboaa.IM
open Go Go.Proofs
set_option linter.unusedVariables false
set_option linter.unusedSimpArgs false
set_option maxHeartbeats 2000000
set_option maxRecDepth 20000

theorem sameS_refl (x : Md.Slot) : sameS x x = true := by simp [sameS, sameO]
theorem lawSameSlot_p (d d' : D) (x y : Md.Slot) (h : IsSlot d x) (h' : IsSlot d' y) : PCall Try.prog 59 [d, d'] fun _ _ r => r = .lit (.bool (sameS x y)) := by
  obtain ⟨f, rfl, hst, k0, k1⟩ := h
  obtain ⟨f', rfl, hst', l0, l1⟩ := h'
  have k0 : f 0 = _ := k0
  have l0 : f' 0 = _ := l0
  have q := shp_obj _ _ k1
  have q' := shp_obj _ _ l1
  refine pcall_intro_v Try.func59 rfl (by decide) rfl (by decide) (by rw [Try.ntmps59]; simp) fun w0 M n0 => ivc_sound ?_; simp -dsimp only [Try.f59, go_sem, k0, l0, q.1, q.2.1, q'.1, q'.2.1]
  intro g1 b1 hb1 g2 b2 hb2
  refine ⟨fun hb => ?_, ?_⟩
  rotate_left
  · first | (simp [sameS, *]; done) | (simp_all [sameS]; done) | (simp_all [sameS]; omega)
  refine xcall_v (sameObj_p _ _ _ _ k1 l1) (by simp -dsimp only [go_sem, rl_still, q.2.2.2, q'.2.2.2]) (fun _ => trivial) fun n1 hn1 => ?_
  simp -dsimp only [go_sem, k0, l0]
  first | (simp [sameS, *]; done) | (simp_all [sameS]; done) | (simp_all [sameS]; omega)
theorem lawSamePage_p (d d' : D) (x : Md.Page) (h : IsPage d x) (h' : IsPage d' x) : PCall Try.prog 40 [d, d'] fun _ _ r => r = .lit (.bool true) := by
  obtain ⟨f, rfl, hst, k0, hl, f1, k1, k2, k3⟩ := h
  obtain ⟨f', rfl, hst', l0, _, f2, l1, l2, l3⟩ := h'
  have k0 : f 0 = _ := k0
  have l0 : f' 0 = _ := l0
  refine pcall_intro_v Try.func40 rfl (by decide) rfl (by decide) (by rw [Try.ntmps40]; simp) fun w0 M n0 => ivc_sound ?_; simp -dsimp only [Try.f40, go_sem, k0, l0, k1, l1]
  intro g1 b1 hb1 g2 b2 hb2
  refine iwp_forK 4 [2, 3] (fun i s => s 5 = .lit (.int .i64 i)) 0 (Nat.zero_le _) (by simp -dsimp only [go_sem]; rfl) ?_
  rintro i n' s hi hn hk h5
  refine ivc_sound ?_
  by_cases hlt : i < 4
  · have hw := i64_succ (i := i) (by omega)
    have hi4 : (i : Int) < 4 := by omega
    have q := k3 i (by omega)
    have q' := l3 i (by omega)
    have p := shp_slot _ _ q
    have p' := shp_slot _ _ q'
    simp -dsimp only [go_sem] at hk
    simp -dsimp only [go_sem, hk, h5, hlt, hw, hi4]
    refine iwp_plan [(0, true), (1, true), (2, true), (3, true), (4, true), (5, true), (6, true), (7, true), (8, false), (9, true)] [2, 3] rfl (by decide +kernel) (by decide) [] (by decide +kernel) ?_
    simp -dsimp only [go_sem, hk, h5, hlt, hw, hi4, k1, l1, p.1, p.2.1, p'.1, p'.2.1]
    refine xcall_v (lawSameSlot_p _ _ _ _ q q') (by simp -dsimp only [go_sem, rl_still, p.2.2.2, p'.2.2.2]) (fun _ => trivial) fun n1 hn1 => ?_
    simp -dsimp only [go_sem, hk, h5, hlt, hw, hi4, sameS_refl]
    refine into_k (by omega) (by simp -dsimp only [go_sem, hk]) (by simp -dsimp only [go_sem])
  · have hi4 : ¬ (i : Int) < 4 := by omega
    simp -dsimp only [go_sem] at hk
    simp -dsimp only [go_sem, hk, h5, hlt, hi4, k0, l0]
end Go.Proofs.Ytkigfigdoaoboaa.IM
end

section
/- Contracts: drawn records. Printed by draws12.py. -/
namespace Go.Proofs.Ytkigfigdoaoboaa.IM
open Go Go.Proofs
set_option linter.unusedVariables false
set_option linter.unusedSimpArgs false
set_option maxHeartbeats 2000000
set_option maxRecDepth 20000

theorem isRec_of {q : Nat → D} {l t p k o n : Int} {bf af : Md.Slot} {ts : List Md.Live} (hs : ∀ j, (q j).still) (q0 : q 0 = .lit (.int .i64 l)) (q1 : q 1 = .lit (.int .i64 t)) (q2 : q 2 = .lit (.int .i64 p)) (q3 : q 3 = .lit (.int .i64 k)) (q4 : q 4 = .lit (.int .i64 o))
    (q5 : IsSlot (q 5) bf) (q6 : IsSlot (q 6) af) (q7 : q 7 = .lit (.int .i64 n)) (q8 : IsL 3 IsLive (q 8) ts) : IsRec (.node (.agg [1, 1, 1, 1, 1, 4, 4, 1, 1]) q) ⟨l, t, p, k, o, bf, af, n, ts⟩ := ⟨q, rfl, hs, q0, q1, q2, q3, q4, q5, q6, q7, q8⟩
def liveB (tx last : Int) (ab : Bool) : D := .node (.agg [1, 1, 1]) (upd (upd (upd (nthD [.lit (.int .i64 0), .lit (.int .i64 0), .lit (.bool false)]) 0 (.lit (.int .i64 tx))) 1 (.lit (.int .i64 last))) 2 (.lit (.bool ab)))
theorem isLive_B (tx last : Int) (ab : Bool) : IsLive (liveB tx last ab) ⟨tx, last, ab⟩ := ⟨_, rfl, still_upd (still_upd (still_upd (stN (by simp only [stillL_nil, stillL_cons, still_lit, still_nil, still_any, still_nodeN, still_nodeC, and_self])) trivial) trivial) trivial, rfl, rfl, rfl⟩
theorem own_liveB (tx last : Int) (ab : Bool) (lo hi : Nat) : Own lo hi (liveB tx last ab) := by
  have e : (liveB tx last ab).tl = [] := rfl
  refine ⟨fun t ht => by rw [e] at ht; simp at ht, by rw [e]; simp, fun i hi => ?_⟩
  have hi' : i < 3 := hi
  match i, hi' with
  | 0, _ => trivial
  | 1, _ => trivial
  | 2, _ => trivial
def zLiveD : D := .node (.agg [1, 1, 1]) (nthD [.lit (.int .i64 0), .lit (.int .i64 0), .lit (.bool false)])
theorem still_zLive : zLiveD.still := stN (by simp only [stillL_nil, stillL_cons, still_lit, still_nil, still_any, still_nodeN, still_nodeC, and_self])
def GL (l n0 n' : Nat) (ss : List Md.Live) (hd : D) (R R' : Roots) : Prop :=
  (hd = .nil ∧ ss = [] ∧ R' = R) ∨ ∃ g b f, hd = .msl l g 0 [] 0 ss.length 3 ∧ n0 ≤ b ∧ R' = upd R l (some (g, b, .node (.arr ss.length 3) f)) ∧ Fill IsLive 3 n0 n' ss ss.length ss.length f
def RecA (m : Nat) (r : D) : Prop := ∃ x, IsRec r x ∧ Md.szRec x ≤ m
theorem rec_end {e c cc : D} {N n0 n1 k : Nat} {F : Relab} {q : Nat → D} {sd : D} {ts : List Md.Live} {k1 : Int} (hc : Cur e N c) (hcc : Cur e N cc) (hd : e.data) (hqs : ∀ j, (q j).still ∨ j = 8)
    (q0 : q 0 = .lit (.int .i64 k1)) (q1 : q 1 = .lit (.int .i64 0)) (q2 : q 2 = .lit (.int .i64 0)) (q3 : q 3 = .lit (.int .i64 6)) (q4 : q 4 = .lit (.int .i64 0)) (q5 : q 5 = zSlotD) (q6 : q 6 = zSlotD) (q7 : q 7 = .lit (.int .i64 0))
    (h8 : rl k F (q 8) = sd) (hL : IsL 3 IsLive sd ts) (hO : Own n0 n1 sd) (hts : ts.length ≤ 20) : BEnd (CurX e N (RecA 20)) c n0 n1 cc (.node (.agg [1, 1, 1, 1, 1, 4, 4, 1, 1]) fun i => rl k F (q i)) := by
  have hst : ∀ j, (rl k F (q j)).still := fun j => by
    rcases hqs j with h | rfl
    · rw [rl_still h]; exact h
    · rw [h8]; exact hL.still
  have r0 : rl k F (q 0) = q 0 := by rw [q0]; exact rl_lit _ _ _
  have r1 : rl k F (q 1) = q 1 := by rw [q1]; exact rl_lit _ _ _
  have r2 : rl k F (q 2) = q 2 := by rw [q2]; exact rl_lit _ _ _
  have r3 : rl k F (q 3) = q 3 := by rw [q3]; exact rl_lit _ _ _
  have r4 : rl k F (q 4) = q 4 := by rw [q4]; exact rl_lit _ _ _
  have r5 : rl k F (q 5) = q 5 := by rw [q5]; exact rl_still still_zSlot
  have r6 : rl k F (q 6) = q 6 := by rw [q6]; exact rl_still still_zSlot
  have r7 : rl k F (q 7) = q 7 := by rw [q7]; exact rl_lit _ _ _
  have hR : IsRec (.node (.agg [1, 1, 1, 1, 1, 4, 4, 1, 1]) fun i => rl k F (q i)) ⟨k1, 0, 0, 6, 0, Md.zSlot, Md.zSlot, 0, ts⟩ :=
    isRec_of hst (r0.trans q0) (r1.trans q1) (r2.trans q2) (r3.trans q3) (r4.trans q4) (by show IsSlot (rl k F (q 5)) _; rw [r5, q5]; exact isSlot_z) (by show IsSlot (rl k F (q 6)) _; rw [r6, q6]; exact isSlot_z) (r7.trans q7) (by show IsL 3 IsLive (rl k F (q 8)) _; rw [h8]; exact hL)
  have hz : zSlotD.tl = [] := rfl
  have hOw : Own n0 n1 (.node (.agg [1, 1, 1, 1, 1, 4, 4, 1, 1]) fun i => rl k F (q i)) := own_one (i0 := 8) (by show Own n0 n1 (rl k F (q 8)); rw [h8]; exact hO) (by decide) fun i hi hne => by
    have hi' : i < 9 := hi
    match i, hi', hne with
    | 0, _, _ => show (rl k F (q 0)).tl = [] ∧ (rl k F (q 0)).whole; rw [r0, q0]; exact ⟨rfl, trivial⟩
    | 1, _, _ => show (rl k F (q 1)).tl = [] ∧ (rl k F (q 1)).whole; rw [r1, q1]; exact ⟨rfl, trivial⟩
    | 2, _, _ => show (rl k F (q 2)).tl = [] ∧ (rl k F (q 2)).whole; rw [r2, q2]; exact ⟨rfl, trivial⟩
    | 3, _, _ => show (rl k F (q 3)).tl = [] ∧ (rl k F (q 3)).whole; rw [r3, q3]; exact ⟨rfl, trivial⟩
    | 4, _, _ => show (rl k F (q 4)).tl = [] ∧ (rl k F (q 4)).whole; rw [r4, q4]; exact ⟨rfl, trivial⟩
    | 5, _, _ => show (rl k F (q 5)).tl = [] ∧ (rl k F (q 5)).whole; rw [r5, q5]; exact ⟨hz, whole_zSlot⟩
    | 6, _, _ => show (rl k F (q 6)).tl = [] ∧ (rl k F (q 6)).whole; rw [r6, q6]; exact ⟨hz, whole_zSlot⟩
    | 7, _, _ => show (rl k F (q 7)).tl = [] ∧ (rl k F (q 7)).whole; rw [r7, q7]; exact ⟨rfl, trivial⟩
    | 8, _, h => exact absurd rfl h
  exact cx_end hc hcc hd ⟨_, hR, by show 0 + 0 + ts.length ≤ 20; omega⟩ hOw
theorem gs_8 {q : Nat → D} {v : D} (h : ∀ j, (q j).still ∨ j = 8) (j : Nat) : (upd q 8 v j).still ∨ j = 8 := by
  by_cases hj : j = 8
  · exact .inr hj
  · rw [upd_ne _ _ hj]; exact h j
theorem l4Draw_b (e c : D) (xs : List Int) (h : IsL 1 IsByte e xs) (hd : e.data) (hc : Cur e xs.length c) : BCall Try.prog 195 .nil c [] (CurX e xs.length (RecA 20)) := by
  have sc := hc.shape
  refine bcall_intro Try.func195 rfl (by decide) rfl (by decide) (by rw [Try.ntmps195]; simp) fun w0 M n0 gb hW hS hT hgb => ivc_sound ?_; simp -dsimp only [Try.f195, go_sem, sc.1, sc.2.1, sc.2.2.1]
  intro g2 b2 hb2
  refine xcall_cs (l := 1000) (g := 0) (b := gb) (l1Below_b e c xs 40 h hd hc (by decide) (by decide)) (by simp -dsimp only [go_sem]) ⟨trivial, trivial⟩ (by simp -dsimp only [go_sem]) sc.2.2.2 fun m0 p0 c1 r hm0 hp0 hq => ?_
  obtain ⟨hc1, v1, rfl, _, _⟩ := hq
  have sc1 := hc1.shape
  simp -dsimp only [go_sem, sc1.1, sc1.2.1, sc1.2.2.1]
  refine xcall_cs (l := 1000) (g := 0) (b := gb) (l1Below_b e c1 xs 4 h hd hc1 (by decide) (by decide)) (by simp -dsimp only [go_sem]) ⟨trivial, trivial⟩ (by simp -dsimp only [go_sem]) sc1.2.2.2 fun m1 p1 c2 r hm1 hp1 hq => ?_
  obtain ⟨hc2, v2, rfl, _, _⟩ := hq
  have sc2 := hc2.shape
  simp -dsimp only [go_sem, sc2.1, sc2.2.1, sc2.2.2.1]
  refine xcall_cs (l := 1000) (g := 0) (b := gb) (l1Below_b e c2 xs 6 h hd hc2 (by decide) (by decide)) (by simp -dsimp only [go_sem]) ⟨trivial, trivial⟩ (by simp -dsimp only [go_sem]) sc2.2.2.2 fun m2 p2 c3 r hm2 hp2 hq => ?_
  obtain ⟨hc3, v3, rfl, _, _⟩ := hq
  have sc3 := hc3.shape
  generalize hk1 : IntKind.i64.wrap (5 + v1) = k1
  generalize hk2 : IntKind.i64.wrap (1 + v2) = k2
  generalize hk3 : IntKind.i64.wrap (1 + v3) = k3
  simp -dsimp only [go_sem, sc3.1, sc3.2.1, sc3.2.2.1, hk1, hk2, hk3]
  intro g3 b3 hb3
  have hb3' : p2 ≤ b3 := hb3
  generalize hk0 : IntKind.i64.wrap (k1 - 1) = k0
  intro g4 b4 hb4
  refine xcall_c (rest0 := [.msl 19 g4 0 [] 0 4 1]) (l := 1000) (g := 0) (b := gb) (l1Int_b e c3 _ xs [0, 1, 4, k0] h hd hc3 (isL_LD b4 (vals := [0, 1, 4, k0]) (by simp)) (by simp) (by simp)) (by simp -dsimp only [go_sem]) (by
    simp -dsimp only [go_sem]
    exact congrArg (fun f => [D.sl b4 true 4 1 f]) (lits fun i => by match i with | 0 => rfl | 1 => rfl | 2 => rfl | 3 => rfl | i + 4 => rfl)) (by simp -dsimp only [go_sem]) sc3.2.2.2 fun m3 m4 c4 r hm3 hm4 hq => ?_
  obtain ⟨hc4, j4, hj4, hr4⟩ := hq
  obtain ⟨u, hu4⟩ : ∃ u : Int, r = .lit (.int .i64 u) := ⟨_, hr4⟩
  subst hu4
  have sc4 := hc4.shape
  simp -dsimp only [go_sem, sc3.1, sc4.1, sc4.2.1, sc4.2.2.1]
  by_cases e1 : k3 = 1
  · subst e1
    simp -dsimp only [go_sem, sc4.1, sc4.2.1, sc4.2.2.1]
    refine xcall_cs (l := 1000) (g := 0) (b := gb) (l1Below_b e c4 xs 31 h hd hc4 (by decide) (by decide)) (by simp -dsimp only [go_sem]) ⟨trivial, trivial⟩ (by simp -dsimp only [go_sem]) sc4.2.2.2 fun m5 m6 c5 r hm5 hm6 hq => ?_
    obtain ⟨hc5, v5, rfl, _, _⟩ := hq
    have sc5 := hc5.shape
    simp -dsimp only [go_sem, sc5.1, sc5.2.1, sc5.2.2.1]
    refine xcall_cs (l := 1000) (g := 0) (b := gb) (l3DrawSlot_b e c5 xs h hd hc5) (by simp -dsimp only [go_sem]) trivial (by simp -dsimp only [go_sem]) sc5.2.2.2 fun m7 m8 c6 r6 hm7 hm8 hq => ?_
    obtain ⟨hc6, ⟨x6, hx6, hx6s⟩, hox6⟩ := hq
    have sc6 := hc6.shape
    have px6 := shp_slot _ _ hx6
    simp -dsimp only [go_sem, sc6.1, sc6.2.1, sc6.2.2.1, px6.1, px6.2.1, px6.2.2.1]
    refine xcall_cs (l := 1000) (g := 0) (b := gb) (l3DrawSlot_b e c6 xs h hd hc6) (by simp -dsimp only [go_sem]) trivial (by simp -dsimp only [go_sem]) sc6.2.2.2 fun m9 m10 c7 r7 hm9 hm10 hq => ?_
    obtain ⟨hc7, ⟨x7, hx7, hx7s⟩, hox7⟩ := hq
    have sc7 := hc7.shape
    have px7 := shp_slot _ _ hx7
    simp -dsimp only [go_sem, sc7.1, sc7.2.1, sc7.2.2.1, px7.1, px7.2.1, px7.2.2.1, px6.1, px6.2.1, px6.2.2.1]
    refine ⟨_, rfl, fun n1 hn1 hfc => ?_⟩
    have hm3' : b4 + 1 ≤ m3 := hm3
    have hb4' : b3 + 1 ≤ b4 := hb4
    have hm5' : m4 ≤ m5 := hm5
    have hm7' : m6 ≤ m7 := hm7
    have hm9' : m8 ≤ m9 := hm9
    have hn1' : m10 ≤ n1 := hn1
    have O := own_lit0 (i := 4) (v := .int .i64 (IntKind.i64.wrap (1 + v5))) (own_lit0 (i := 2) (v := .int .i64 u) (own_lit0 (i := 3) (v := .int .i64 1) (own_lit0 (i := 1) (v := .int .i64 k2) (own_lit0 (i := 0) (v := .int .i64 k1) (own_zRec n0 n0) rfl) rfl) rfl) rfl) rfl
    have P1 := Put.node (i := 5) O (by decide) (Put.new hox6 (by omega)) (by omega : n0 ≤ m7) (by omega : n0 ≤ m8)
    have P2 := Put.node (i := 6) P1.own (by decide) (Put.new hox7 (by omega)) (by omega : m8 ≤ m9) (by omega : m8 ≤ m10)
    have hst := still_upd (k := 6) (d := r7) (still_upd (k := 5) (d := r6) (still_upd (k := 4) (d := .lit (.int .i64 (IntKind.i64.wrap (1 + v5)))) (still_upd (k := 2) (d := .lit (.int .i64 u)) (still_upd (k := 3) (d := .lit (.int .i64 1)) (still_upd (k := 1) (d := .lit (.int .i64 k2)) (still_upd (k := 0) (d := .lit (.int .i64 k1)) (still_zRec : ∀ j, (nthD [.lit (.int .i64 0), .lit (.int .i64 0), .lit (.int .i64 0), .lit (.int .i64 0), .lit (.int .i64 0), zSlotD, zSlotD, .lit (.int .i64 0), .nil] j).still) trivial) trivial) trivial) trivial) trivial) px6.2.2.2) px7.2.2.2
    rw [rl_still sc7.2.2.2]
    exact Eq.mpr (congrArg (BEnd (CurX e xs.length (RecA 20)) c n0 n1 c7) (rl_still (show (D.node _ _).still from hst))) <| cx_end hc hc7 hd ⟨⟨k1, k2, u, 1, _, x6, x7, 0, []⟩, isRec_of hst rfl rfl rfl rfl rfl hx6 hx7 rfl (.inl ⟨rfl, rfl⟩), by show Md.szSlot x6 + Md.szSlot x7 + 0 ≤ 20; omega⟩ (P2.own.mono (Nat.le_refl _) (by omega))
  by_cases e4 : k3 = 4
  · subst e4
    simp -dsimp only [go_sem, sc4.1, sc4.2.1, sc4.2.2.1, Int.reduceBEq]
    refine xcall_cs (l := 1000) (g := 0) (b := gb) (l1Below_b e c4 xs 31 h hd hc4 (by decide) (by decide)) (by simp -dsimp only [go_sem]) ⟨trivial, trivial⟩ (by simp -dsimp only [go_sem]) sc4.2.2.2 fun m5 m6 c5 r hm5 hm6 hq => ?_
    obtain ⟨hc5, v5, rfl, _, _⟩ := hq
    have sc5 := hc5.shape
    simp -dsimp only [go_sem, sc5.1, sc5.2.1, sc5.2.2.1]
    refine xcall_cs (l := 1000) (g := 0) (b := gb) (l3DrawSlot_b e c5 xs h hd hc5) (by simp -dsimp only [go_sem]) trivial (by simp -dsimp only [go_sem]) sc5.2.2.2 fun m7 m8 c6 r6 hm7 hm8 hq => ?_
    obtain ⟨hc6, ⟨x6, hx6, hx6s⟩, hox6⟩ := hq
    have sc6 := hc6.shape
    have px6 := shp_slot _ _ hx6
    simp -dsimp only [go_sem, sc6.1, sc6.2.1, sc6.2.2.1, px6.1, px6.2.1, px6.2.2.1]
    intro g9 b9 hb9
    refine xcall_c (rest0 := [.msl 49 g9 0 [] 0 3 1]) (l := 1000) (g := 0) (b := gb) (l1Int_b e c6 _ xs [0, 1, IntKind.i64.wrap (k1 - 1)] h hd hc6 (isL_LD b9 (vals := [0, 1, IntKind.i64.wrap (k1 - 1)]) (by simp)) (by simp) (by simp)) (by simp -dsimp only [go_sem]) (by
      simp -dsimp only [go_sem]
      exact congrArg (fun f => [D.sl b9 true 3 1 f]) (lits fun i => by match i with | 0 => rfl | 1 => rfl | 2 => rfl | i + 3 => rfl)) (by simp -dsimp only [go_sem]) sc6.2.2.2 fun m9 m10 c7 r hm9 hm10 hq => ?_
    obtain ⟨hc7, j4, hj4, hr4⟩ := hq
    obtain ⟨u2, hu4⟩ : ∃ u : Int, r = .lit (.int .i64 u) := ⟨_, hr4⟩
    subst hu4
    have sc7 := hc7.shape
    simp -dsimp only [go_sem, sc6.1, px6.1, px6.2.1, px6.2.2.1, sc7.1, sc7.2.1, sc7.2.2.1]
    refine ⟨_, rfl, fun n1 hn1 hfc => ?_⟩
    have hm3' : b4 + 1 ≤ m3 := hm3
    have hb4' : b3 + 1 ≤ b4 := hb4
    have hm5' : m4 ≤ m5 := hm5
    have hm7' : m6 ≤ m7 := hm7
    have hb9' : m8 ≤ b9 := hb9
    have hm9' : b9 + 1 ≤ m9 := hm9
    have hn1' : m10 ≤ n1 := hn1
    have O := own_lit0 (i := 4) (v := .int .i64 (IntKind.i64.wrap (1 + v5))) (own_lit0 (i := 2) (v := .int .i64 u) (own_lit0 (i := 3) (v := .int .i64 4) (own_lit0 (i := 1) (v := .int .i64 k2) (own_lit0 (i := 0) (v := .int .i64 k1) (own_zRec n0 n0) rfl) rfl) rfl) rfl) rfl
    have P1 := Put.node (i := 6) O (by decide) (Put.new hox6 (by omega)) (by omega : n0 ≤ m7) (by omega : n0 ≤ m8)
    have O2 := own_lit0 (i := 7) (v := .int .i64 u2) P1.own rfl
    have hst := still_upd (k := 7) (d := .lit (.int .i64 u2)) (still_upd (k := 6) (d := r6) (still_upd (k := 4) (d := .lit (.int .i64 (IntKind.i64.wrap (1 + v5)))) (still_upd (k := 2) (d := .lit (.int .i64 u)) (still_upd (k := 3) (d := .lit (.int .i64 4)) (still_upd (k := 1) (d := .lit (.int .i64 k2)) (still_upd (k := 0) (d := .lit (.int .i64 k1)) (still_zRec : ∀ j, (nthD [.lit (.int .i64 0), .lit (.int .i64 0), .lit (.int .i64 0), .lit (.int .i64 0), .lit (.int .i64 0), zSlotD, zSlotD, .lit (.int .i64 0), .nil] j).still) trivial) trivial) trivial) trivial) trivial) px6.2.2.2) trivial
    rw [rl_still sc7.2.2.2]
    exact Eq.mpr (congrArg (BEnd (CurX e xs.length (RecA 20)) c n0 n1 c7) (rl_still (show (D.node _ _).still from hst))) <| cx_end hc hc7 hd ⟨⟨k1, k2, u, 4, _, _, x6, u2, []⟩, isRec_of hst rfl rfl rfl rfl rfl isSlot_z hx6 rfl (.inl ⟨rfl, rfl⟩), by show 0 + Md.szSlot x6 + 0 ≤ 20; omega⟩ (O2.mono (Nat.le_refl _) (by omega))
  by_cases e6 : k3 = 6
  · subst e6
    simp -dsimp only [go_sem, sc4.1, sc4.2.1, sc4.2.2.1, Int.reduceBEq]
    have hm3' : b4 + 1 ≤ m3 := hm3
    have hb4' : b3 + 1 ≤ b4 := hb4
    refine iwp_forR 5 [0, 2, 3] (fun i n' s R => s 4 = .lit (.int .i64 i) ∧ ∃ cc q hd' ts B X19, Cur e xs.length cc ∧ (∀ j, (q j).still ∨ j = 8) ∧ q 0 = .lit (.int .i64 k1) ∧ q 1 = .lit (.int .i64 0) ∧ q 2 = .lit (.int .i64 0) ∧ q 3 = .lit (.int .i64 6) ∧ q 4 = .lit (.int .i64 0) ∧ q 5 = zSlotD ∧ q 6 = zSlotD ∧ q 7 = .lit (.int .i64 0) ∧ q 8 = hd' ∧ ts.length + 1 ≤ i ∧
        B = upd (upd (upd (upd (fun _ => none) 1000 (some (0, gb, cc))) 2 (some (g2, b2, zRecD))) 3 (some (g3, b3, .node (.agg [1, 1, 1, 1, 1, 4, 4, 1, 1]) q))) 19 (some (g4, b4, X19)) ∧ GL 72 n0 n' ts hd' B R) 1 (by decide)
      ⟨by simp -dsimp only [go_sem] <;> rfl, c4, _, .nil, [], _, _, hc4, fun j => .inl (still_upd (k := 2) (d := .lit (.int .i64 0)) (still_upd (k := 1) (d := .lit (.int .i64 0)) (still_upd (k := 2) (d := .lit (.int .i64 u)) (still_upd (k := 3) (d := .lit (.int .i64 6)) (still_upd (k := 1) (d := .lit (.int .i64 k2)) (still_upd (k := 0) (d := .lit (.int .i64 k1)) (still_zRec : ∀ j, (nthD [.lit (.int .i64 0), .lit (.int .i64 0), .lit (.int .i64 0), .lit (.int .i64 0), .lit (.int .i64 0), zSlotD, zSlotD, .lit (.int .i64 0), .nil] j).still) trivial) trivial) trivial) trivial) trivial) trivial j), rfl, rfl, rfl, rfl, rfl, rfl, rfl, rfl, rfl, Nat.le_refl _, rfl, .inl ⟨rfl, rfl, rfl⟩⟩ ?_
    rintro i n' s R hi hn hk ⟨h4, cc, q, hd', ts, B, X19, hcc, hqs, q0, q1, q2, q3, q4, q5, q6, q7, q8, hts, rfl, hG⟩
    refine ivc_sound ?_
    simp -dsimp only [go_sem] at hk
    have scc := hcc.shape
    have hn9 : m4 ≤ n' := hn
    by_cases hlt : i < 5
    · have hi5 : (i : Int) < 5 := by omega
      have hw := i64_succ (i := i) (by omega)
      rcases hG with ⟨rfl, rfl, rfl⟩ | ⟨g8, b8, f8, rfl, hb8, rfl, hF⟩
      · simp -dsimp only [go_sem, hk, h4, hi5]
        refine xcall_cs (l := 1000) (g := 0) (b := gb) (l1Once_b e cc xs 2 h hd hcc (by decide) (by decide)) (by simp -dsimp only [go_sem, hk]) ⟨trivial, trivial⟩ (by simp -dsimp only [go_sem]) scc.2.2.2 fun m5 m6 c5 r hm5 hm6 hq => ?_
        obtain ⟨hc5, bb, rfl⟩ := hq
        have sc5 := hc5.shape
        have hm5' : n' ≤ m5 := hm5
        cases bb with
        | false =>
          simp -dsimp only [go_sem, hk, h4, hi5, hw]
          exact ⟨hlt, into_rd (fun j => .inl rfl) (by omega) (by simp -dsimp only [go_sem, hk]) ⟨by simp -dsimp only [go_sem], c5, q, _, _, _, X19, hc5, hqs, q0, q1, q2, q3, q4, q5, q6, q7, q8, by omega, rfl, .inl ⟨rfl, rfl, rfl⟩⟩⟩
        | true =>
          simp -dsimp only [go_sem, hk, h4, hi5, hw]
          refine iwp_plan [(0, true), (1, true), (2, true), (3, true), (6, true), (4, false), (5, true), (7, false), (8, true), (9, false), (10, false), (11, true), (12, false)] [3] rfl (by decide +kernel) (by decide) [12] (by decide +kernel) ?_
          simp -dsimp only [go_sem, hk, h4, hi5, hw, q8]
          refine xcall_cs (l := 1000) (g := 0) (b := gb) (l1Below_b e c5 xs 4 h hd hc5 (by decide) (by decide)) (by simp -dsimp only [go_sem, hk]) ⟨trivial, trivial⟩ (by simp -dsimp only [go_sem]) sc5.2.2.2 fun m7 m8 c6 r hm7 hm8 hq => ?_
          obtain ⟨hc6, v6, rfl, _, _⟩ := hq
          have sc6 := hc6.shape
          have hm7' : m6 ≤ m7 := hm7
          simp -dsimp only [go_sem, hk, h4, hi5, hw, q8, sc6.1, sc6.2.1, sc6.2.2.1]
          refine xcall_cs (l := 1000) (g := 0) (b := gb) (l1Once_b e c6 xs 2 h hd hc6 (by decide) (by decide)) (by simp -dsimp only [go_sem, hk]) ⟨trivial, trivial⟩ (by simp -dsimp only [go_sem]) sc6.2.2.2 fun m9 m10 c7 r hm9 hm10 hq => ?_
          obtain ⟨hc7, ab, rfl⟩ := hq
          have sc7 := hc7.shape
          have hm9' : m8 ≤ m9 := hm9
          simp -dsimp only [go_sem, hk, h4, hi5, hw, q8, sc7.1, sc7.2.1, sc7.2.2.1]
          intro g6 b6 hb6
          have hb6' : m10 ≤ b6 := hb6
          have hS := isLive_B i (IntKind.i64.wrap (1 + v6)) ab
          have hSo := own_liveB i (IntKind.i64.wrap (1 + v6)) ab
          refine ⟨fun y h => h.symm, fun g7 b7 n9 hn9 hb7 hb9 => ?_⟩
          have hb10 : n0 ≤ b7 := by omega
          have hn9' : b6 + 1 ≤ n9 := hn9
          refine ⟨hlt, into_rd (R' := upd (upd (upd (upd (upd (fun _ => none) 1000 (some (0, gb, c7))) 2 (some (g2, b2, zRecD))) 3 (some (g3, b3, .node (.agg [1, 1, 1, 1, 1, 4, 4, 1, 1]) (upd q 8 (.msl 72 g7 0 [] 0 1 3))))) 19 (some (g4, b4, X19))) 72 (some (g7, b7, .node (.arr 1 3) (upd (fun _ => zLiveD) 0 (liveB i (IntKind.i64.wrap (1 + v6)) ab))))) (fun j => by
            by_cases h1 : j = 71
            · subst h1; right; simp [upd]
            · by_cases h2 : j = 72
              · subst h2; left; simp [upd]; try rfl
              · left; simp [upd, h1, h2]) (by omega) (by simp -dsimp only [go_sem, hk])
            ⟨by simp -dsimp only [go_sem, hw], c7, (upd q 8 (.msl 72 g7 0 [] 0 1 3)), .msl 72 g7 0 [] 0 1 3, [⟨i, IntKind.i64.wrap (1 + v6), ab⟩], _, X19, hc7, gs_8 hqs, by simp -dsimp only [go_sem, q0], by simp -dsimp only [go_sem, q1], by simp -dsimp only [go_sem, q2], by simp -dsimp only [go_sem, q3], by simp -dsimp only [go_sem, q4], by simp -dsimp only [go_sem, q5], by simp -dsimp only [go_sem, q6], by simp -dsimp only [go_sem, q7], by simp -dsimp only [go_sem], by simp at hts ⊢; omega, rfl, .inr ⟨g7, b7, (upd (fun _ => zLiveD) 0 (liveB i (IntKind.i64.wrap (1 + v6)) ab)), by first | rfl | (rw [List.length_append]; rfl), hb10, by first | rfl | (rw [List.length_append]; rfl), Fill.one (fun _ => still_zLive) shp_live (Nat.lt_succ_self 0) hS (hSo n0 n0) (Nat.le_refl _) (by omega) (Nat.le_refl _)⟩⟩⟩
      · simp -dsimp only [go_sem, hk, h4, hi5]
        refine xcall_cs (l := 1000) (g := 0) (b := gb) (l1Once_b e cc xs 2 h hd hcc (by decide) (by decide)) (by simp -dsimp only [go_sem, hk]) ⟨trivial, trivial⟩ (by simp -dsimp only [go_sem]) scc.2.2.2 fun m5 m6 c5 r hm5 hm6 hq => ?_
        obtain ⟨hc5, bb, rfl⟩ := hq
        have sc5 := hc5.shape
        have hm5' : n' ≤ m5 := hm5
        cases bb with
        | false =>
          simp -dsimp only [go_sem, hk, h4, hi5, hw]
          exact ⟨hlt, into_rd (fun j => .inl rfl) (by omega) (by simp -dsimp only [go_sem, hk]) ⟨by simp -dsimp only [go_sem], c5, q, _, _, _, X19, hc5, hqs, q0, q1, q2, q3, q4, q5, q6, q7, q8, by omega, rfl, .inr ⟨g8, b8, f8, rfl, hb8, rfl, ⟨hF.st, hF.sh, hF.ok, hF.own.mono (Nat.le_refl _) (by omega)⟩⟩⟩⟩
        | true =>
          simp -dsimp only [go_sem, hk, h4, hi5, hw]
          refine iwp_plan [(0, true), (1, true), (2, true), (3, true), (6, true), (4, false), (5, true), (7, false), (8, true), (9, false), (10, false), (11, true), (12, false)] [3] rfl (by decide +kernel) (by decide) [12] (by decide +kernel) ?_
          simp -dsimp only [go_sem, hk, h4, hi5, hw, q8]
          refine xcall_cs (l := 1000) (g := 0) (b := gb) (l1Below_b e c5 xs 4 h hd hc5 (by decide) (by decide)) (by simp -dsimp only [go_sem, hk]) ⟨trivial, trivial⟩ (by simp -dsimp only [go_sem]) sc5.2.2.2 fun m7 m8 c6 r hm7 hm8 hq => ?_
          obtain ⟨hc6, v6, rfl, _, _⟩ := hq
          have sc6 := hc6.shape
          have hm7' : m6 ≤ m7 := hm7
          simp -dsimp only [go_sem, hk, h4, hi5, hw, q8, sc6.1, sc6.2.1, sc6.2.2.1]
          refine xcall_cs (l := 1000) (g := 0) (b := gb) (l1Once_b e c6 xs 2 h hd hc6 (by decide) (by decide)) (by simp -dsimp only [go_sem, hk]) ⟨trivial, trivial⟩ (by simp -dsimp only [go_sem]) sc6.2.2.2 fun m9 m10 c7 r hm9 hm10 hq => ?_
          obtain ⟨hc7, ab, rfl⟩ := hq
          have sc7 := hc7.shape
          have hm9' : m8 ≤ m9 := hm9
          simp -dsimp only [go_sem, hk, h4, hi5, hw, q8, sc7.1, sc7.2.1, sc7.2.2.1]
          intro g6 b6 hb6
          have hb6' : m10 ≤ b6 := hb6
          have hS := isLive_B i (IntKind.i64.wrap (1 + v6)) ab
          have hSo := own_liveB i (IntKind.i64.wrap (1 + v6)) ab
          refine ⟨fun y h => h.symm, by omega, by omega, fun g7 b7 n9 hn9 hb7 hb9 => ?_⟩
          have hb10 : n0 ≤ b7 := by rcases hb9 with h | h <;> omega
          have hn9' : b6 + 1 ≤ n9 := hn9
          refine ⟨hlt, into_rd (R' := upd (upd (upd (upd (upd (fun _ => none) 1000 (some (0, gb, c7))) 2 (some (g2, b2, zRecD))) 3 (some (g3, b3, .node (.agg [1, 1, 1, 1, 1, 4, 4, 1, 1]) (upd q 8 (.msl 72 g7 0 [] 0 (ts.length + 1) 3))))) 19 (some (g4, b4, X19))) 72 (some (g7, b7, .node (.arr (ts.length + 1) 3) (catD ts.length f8 (upd (fun _ => zLiveD) 0 (liveB i (IntKind.i64.wrap (1 + v6)) ab)))))) (fun j => by
            by_cases h1 : j = 71
            · subst h1; right; simp [upd]
            · by_cases h2 : j = 72
              · subst h2; left; simp [upd]; try rfl
              · left; simp [upd, h1, h2]) (by omega) (by simp -dsimp only [go_sem, hk])
            ⟨by simp -dsimp only [go_sem, hw], c7, (upd q 8 (.msl 72 g7 0 [] 0 (ts.length + 1) 3)), .msl 72 g7 0 [] 0 (ts.length + 1) 3, (ts ++ [⟨i, IntKind.i64.wrap (1 + v6), ab⟩]), _, X19, hc7, gs_8 hqs, by simp -dsimp only [go_sem, q0], by simp -dsimp only [go_sem, q1], by simp -dsimp only [go_sem, q2], by simp -dsimp only [go_sem, q3], by simp -dsimp only [go_sem, q4], by simp -dsimp only [go_sem, q5], by simp -dsimp only [go_sem, q6], by simp -dsimp only [go_sem, q7], by simp -dsimp only [go_sem], by simp at hts ⊢; omega, rfl, .inr ⟨g7, b7, (catD ts.length f8 (upd (fun _ => zLiveD) 0 (liveB i (IntKind.i64.wrap (1 + v6)) ab))), by first | rfl | (rw [List.length_append]; rfl), hb10, by first | rfl | (rw [List.length_append]; rfl), by have := Fill.cat (Fill.grow (x := ⟨i, IntKind.i64.wrap (1 + v6), ab⟩) hF rfl) (z := fun _ => zLiveD) (hi := n9) (n0 := n9) (n1 := n9) (fun _ => still_zLive) shp_live (by simp) (by rw [snoc_get]; exact hS) (hSo _ _) (by omega) (by omega) (by omega) (by omega); rwa [List.length_append]⟩⟩⟩
    · have hi5 : ¬ (i : Int) < 5 := by omega
      rcases hG with ⟨rfl, rfl, rfl⟩ | ⟨g8, b8, f8, rfl, hb8, rfl, hF⟩
      · simp -dsimp only [go_sem, hk, h4, hi5, scc.1, scc.2.1, scc.2.2.1]
        refine ⟨plain_node _ _, rfl, _, rfl, fun n1 hn1 hfc => ?_⟩
        rw [rl_still scc.2.2.2, rl_node]
        exact rec_end (ts := []) hc hcc hd hqs q0 q1 q2 q3 q4 q5 q6 q7 (by simp -dsimp only [go_sem, q8]) (.inl ⟨rfl, rfl⟩) (own_nil _ _) (by decide)
      · simp -dsimp only [go_sem, hk, h4, hi5, scc.1, scc.2.1, scc.2.2.1]
        refine ⟨plain_node _ _, rfl, _, rfl, fun n1 hn1 hfc => ?_⟩
        have hn1' : n' ≤ n1 := hn1
        have hb : b8 < n1 ∧ b8 ∉ (D.node (.arr ts.length 3) f8).tl := hfc.here
        have hL := hF.isLs (b := b8) (n1 := n1) rfl (by omega) (by omega) hb.1 (by omega) hb.2
        rw [rl_still scc.2.2.2, rl_node]
        exact rec_end hc hcc hd hqs q0 q1 q2 q3 q4 q5 q6 q7 (by simp -dsimp only [go_sem, q8] <;> exact congrArg (D.sl b8 true ts.length 3) (rls_still hL.2.2)) hL.1 hL.2.1 (by omega)
  · have t1 : (k3 == 1) = false := beq_eq_false_iff_ne.2 e1
    have t4 : (k3 == 4) = false := beq_eq_false_iff_ne.2 e4
    have t6 : (k3 == 6) = false := beq_eq_false_iff_ne.2 e6
    simp -dsimp only [go_sem, sc4.1, sc4.2.1, sc4.2.2.1, t1, t4, t6]
    refine ⟨_, rfl, fun n1 hn1 hfc => ?_⟩
    have hm3' : b4 + 1 ≤ m3 := hm3
    have hb4' : b3 + 1 ≤ b4 := hb4
    have hn1' : m4 ≤ n1 := hn1
    have O := (own_lit0 (i := 2) (v := .int .i64 u) (own_lit0 (i := 3) (v := .int .i64 k3) (own_lit0 (i := 1) (v := .int .i64 k2) (own_lit0 (i := 0) (v := .int .i64 k1) (own_zRec n0 n0) rfl) rfl) rfl) rfl)
    have hst := (still_upd (k := 2) (d := .lit (.int .i64 u)) (still_upd (k := 3) (d := .lit (.int .i64 k3)) (still_upd (k := 1) (d := .lit (.int .i64 k2)) (still_upd (k := 0) (d := .lit (.int .i64 k1)) (still_zRec : ∀ j, (nthD [.lit (.int .i64 0), .lit (.int .i64 0), .lit (.int .i64 0), .lit (.int .i64 0), .lit (.int .i64 0), zSlotD, zSlotD, .lit (.int .i64 0), .nil] j).still) trivial) trivial) trivial) trivial)
    rw [rl_still sc4.2.2.2]
    exact Eq.mpr (congrArg (BEnd (CurX e xs.length (RecA 20)) c n0 n1 c4) (rl_still (show (D.node _ _).still from hst))) <| cx_end hc hc4 hd ⟨⟨k1, k2, u, k3, 0, _, _, 0, []⟩, isRec_of hst rfl rfl rfl rfl rfl isSlot_z isSlot_z rfl (.inl ⟨rfl, rfl⟩), by show 0 + 0 + 0 ≤ 20; omega⟩ (O.mono (Nat.le_refl _) (by omega))
end Go.Proofs.Ytkigfigdoaoboaa.IM
end

section
/- Contracts: records that are bent, and what Redo is drawn. Printed by draws13.py. -/
namespace Go.Proofs.Ytkigfigdoaoboaa.IM
open Go Go.Proofs
set_option linter.unusedVariables false
set_option linter.unusedSimpArgs false
set_option maxHeartbeats 2000000
set_option maxRecDepth 20000

def CurT (e : D) (N : Nat) (A : D → Prop) (d2 : D) (n0 _n1 : Nat) (d' r : D) : Prop := Cur e N d' ∧ A r ∧ ExtT d2 n0 r
def TT (c d2 : D) (t : Nat) : Prop := t ∈ c.tl ∨ t ∈ d2.tl
theorem ct_end {e c cc d2 r : D} {N n0 n1 : Nat} {A : D → Prop} (hc : Cur e N c) (hcc : Cur e N cc) (hd : e.data) (hr : A r) (ho : ExtT d2 n0 r) : BEnd (CurT e N A d2) c n0 n1 cc r (TT c d2) :=
  ⟨⟨hcc, hr, ho⟩, hcc.shape.2.2.1, cur_tags hc hcc hd, D.tags_mono (fun b hb => hb.elim (fun h => .inl (.inr h)) .inr) ho.tags⟩
theorem isL_lives {t n : Nat} {f : Nat → D} {xs : List Md.Live} (hn : xs.length = n) (hs : ∀ i, (f i).still) (h : ∀ i (hi : i < xs.length), IsLive (f i) xs[i]) (hl : n < 140737488355328) : IsL 3 IsLive (.sl t true n 3 f) xs := by
  subst hn; exact .inr ⟨t, true, f, rfl, hs, hl, h⟩
theorem live_data {d : D} {x : Md.Live} (h : IsLive d x) : d.data ∧ d.tl = [] := by
  obtain ⟨f, rfl, hs, h0, h1, h2⟩ := h
  have h0 : f 0 = _ := h0
  have h1 : f 1 = _ := h1
  have h2 : f 2 = _ := h2
  refine ⟨fun i hi => ?_, ?_⟩
  · have hi' : i < 3 := hi
    match i, hi' with
    | 0, _ => rw [h0]; trivial
    | 1, _ => rw [h1]; trivial
    | 2, _ => rw [h2]; trivial
  · show (List.range 3).flatMap (fun i => (f i).tl) = _
    rw [show List.range 3 = [0, 1, 2] from rfl]
    simp only [List.flatMap_cons, List.flatMap_nil, h0, h1, h2, D.tl, List.append_nil]
theorem row_ext {t n n0 : Nat} {f : Nat → D} {d2 : D} {xs : List Md.Live} (hn : xs.length = n) (h : ∀ i (hi : i < xs.length), IsLive (f i) xs[i]) (ht : n0 ≤ t) : ExtT d2 n0 (.sl t true n 3 f) := by
  subst hn
  refine ⟨fun i hi => (live_data (h i hi)).1, fun b hb => ?_⟩
  simp only [D.tl, List.mem_cons, List.mem_flatMap, List.mem_range] at hb
  rcases hb with rfl | ⟨i, hi, hx⟩
  · exact .inr ht
  · rw [(live_data (h i hi)).2] at hx; simp at hx
theorem cat_live {n : Nat} {f g : Nat → D} {xs ys : List Md.Live} (hn : xs.length = n) (h : ∀ i (hi : i < xs.length), IsLive (f i) xs[i]) (h' : ∀ i (hi : i < ys.length), IsLive (g i) ys[i]) (i : Nat) (hi : i < (xs ++ ys).length) : IsLive (catD n f g i) (xs ++ ys)[i] := by
  subst hn
  unfold catD
  split
  · rename_i h1; rw [List.getElem_append_left h1]; exact h i h1
  · rename_i h1; rw [List.getElem_append_right (by omega)]; exact h' _ (by rw [List.length_append] at hi; omega)
theorem rl_upd8 {k : Nat} {F : Relab} {q : Nat → D} {X Y : D} (hs : ∀ j, (q j).still) (h : rl k F X = Y) : (fun i => rl k F (upd q 8 X i)) = upd q 8 Y := by
  funext i
  by_cases e : i = 8
  · subst e; rw [upd_same, upd_same]; exact h
  · rw [upd_ne _ _ e, upd_ne _ _ e]; exact rl_still (hs i)
theorem cat_still {n : Nat} {f g : Nat → D} (h : ∀ i, (f i).still) (h' : ∀ i, (g i).still) (i : Nat) : (catD n f g i).still := by
  unfold catD; split
  · exact h i
  · exact h' _
theorem l4Bend_b (e c d2 : D) (xs : List Int) (m : Nat) (x : Md.Rec) (h : IsL 1 IsByte e xs) (hd : e.data) (hc : Cur e xs.length c) (h2 : IsRec d2 x) (hd2 : d2.data) (hx : Md.szRec x ≤ m) (hm : m ≤ 1000000) : BCall Try.prog 196 .nil c [d2] (CurT e xs.length (RecA (m + 1)) d2) 0 [] (TT c d2) := by
  have sc := hc.shape
  have sr := shp_rec _ _ h2
  obtain ⟨q, rfl, hst, q0, q1, q2, q3, q4, q5, q6, q7, q8⟩ := h2
  have q0 : q 0 = _ := q0
  have q1 : q 1 = _ := q1
  have q2 : q 2 = _ := q2
  have q3 : q 3 = _ := q3
  have q4 : q 4 = _ := q4
  have q7 : q 7 = _ := q7
  have hE : ExtT (.node (.agg [1, 1, 1, 1, 1, 4, 4, 1, 1]) q) 0 (.node (.agg [1, 1, 1, 1, 1, 4, 4, 1, 1]) q) := .refl hd2
  refine bcall_intro Try.func196 rfl (by decide) rfl (by decide) (by rw [Try.ntmps196]; simp) fun w0 M n0 gb hW hS hT hgb => ivc_sound ?_; simp -dsimp only [Try.f196, go_sem, sc.1, sc.2.1, sc.2.2.1, sr.1, sr.2.1, sr.2.2.1]
  have hE : ExtT (.node (.agg [1, 1, 1, 1, 1, 4, 4, 1, 1]) q) n0 (.node (.agg [1, 1, 1, 1, 1, 4, 4, 1, 1]) q) := .refl hd2
  intro g1 b1 hb1 g2 b2 hb2
  refine xcall_cs (l := 1000) (g := 0) (b := gb) (l1Below_b e c xs 8 h hd hc (by decide) (by decide)) (by simp -dsimp only [go_sem]) ⟨trivial, trivial⟩ (by simp -dsimp only [go_sem]) sc.2.2.2 fun m0 p0 c1 r hm0 hp0 hq => ?_
  obtain ⟨hc1, v1, rfl, hv0, hv8⟩ := hq
  have sc1 := hc1.shape
  by_cases e0 : v1 = 0
  · subst e0
    simp -dsimp only [go_sem, sc1.1, sc1.2.1, sc1.2.2.1, q0, Int.reduceBEq, sr.1, sr.2.1, sr.2.2.1]
    intro g4 b4 hb4
    have hb4' : p0 ≤ b4 := hb4
    refine xcall_c (rest0 := [.msl 10 g4 0 [] 0 4 1]) (l := 1000) (g := 0) (b := gb) (l1Int_b e c1 _ xs [0, 1, 1000000, 1000001] h hd hc1 (isL_LD b4 (vals := [0, 1, 1000000, 1000001]) (by simp)) (by simp) (by simp)) (by simp -dsimp only [go_sem]) (by
      simp -dsimp only [go_sem]
      exact congrArg (fun f => [D.sl b4 true 4 1 f]) (lits fun i => by match i with | 0 => rfl | 1 => rfl | 2 => rfl | 3 => rfl | i + 4 => rfl)) (by simp -dsimp only [go_sem]) sc1.2.2.2 fun m3 m4 c4 r hm3 hm4 hq => ?_
    obtain ⟨hc4, j4, hj4, hr4⟩ := hq
    obtain ⟨u, hu4⟩ : ∃ u : Int, r = .lit (.int .i64 u) := ⟨_, hr4⟩
    subst hu4
    have sc4 := hc4.shape
    simp -dsimp only [go_sem, sc4.1, sc4.2.1, sc4.2.2.1, q0, q1, q2, q3, q4, q7]
    refine ⟨_, rfl, fun n1 hn1 hfc => ?_⟩
    have hst' := still_upd (k := 0) (d := .lit (.int .i64 u)) hst trivial
    rw [rl_still sc4.2.2.2]
    exact Eq.mpr (congrArg (fun r => BEnd (CurT e xs.length (RecA (m + 1)) (.node (.agg [1, 1, 1, 1, 1, 4, 4, 1, 1]) q)) c n0 n1 c4 r (TT c _)) (rl_still (show (D.node _ _).still from hst'))) <| ct_end hc hc4 hd ⟨⟨u, x.tx, x.prev, x.kind, x.oid, x.before, x.after, x.next, x.txs⟩, isRec_of hst' rfl q1 q2 q3 q4 q5 q6 q7 q8, by show Md.szSlot x.before + Md.szSlot x.after + x.txs.length ≤ m + 1; have : Md.szRec x = Md.szSlot x.before + Md.szSlot x.after + x.txs.length := rfl; omega⟩ hE.lit
  by_cases e1 : v1 = 1
  · subst e1
    simp -dsimp only [go_sem, sc1.1, sc1.2.1, sc1.2.2.1, q0, Int.reduceBEq, sr.1, sr.2.1, sr.2.2.1]
    intro g4 b4 hb4
    have hb4' : p0 ≤ b4 := hb4
    refine xcall_c (rest0 := [.msl 16 g4 0 [] 0 3 1]) (l := 1000) (g := 0) (b := gb) (l1Int_b e c1 _ xs [0, 1000, 1001] h hd hc1 (isL_LD b4 (vals := [0, 1000, 1001]) (by simp)) (by simp) (by simp)) (by simp -dsimp only [go_sem]) (by
      simp -dsimp only [go_sem]
      exact congrArg (fun f => [D.sl b4 true 3 1 f]) (lits fun i => by match i with | 0 => rfl | 1 => rfl | 2 => rfl | i + 3 => rfl)) (by simp -dsimp only [go_sem]) sc1.2.2.2 fun m3 m4 c4 r hm3 hm4 hq => ?_
    obtain ⟨hc4, j4, hj4, hr4⟩ := hq
    obtain ⟨u, hu4⟩ : ∃ u : Int, r = .lit (.int .i64 u) := ⟨_, hr4⟩
    subst hu4
    have sc4 := hc4.shape
    simp -dsimp only [go_sem, sc4.1, sc4.2.1, sc4.2.2.1, q0, q1, q2, q3, q4, q7]
    refine ⟨_, rfl, fun n1 hn1 hfc => ?_⟩
    have hst' := still_upd (k := 1) (d := .lit (.int .i64 u)) hst trivial
    rw [rl_still sc4.2.2.2]
    exact Eq.mpr (congrArg (fun r => BEnd (CurT e xs.length (RecA (m + 1)) (.node (.agg [1, 1, 1, 1, 1, 4, 4, 1, 1]) q)) c n0 n1 c4 r (TT c _)) (rl_still (show (D.node _ _).still from hst'))) <| ct_end hc hc4 hd ⟨⟨x.lsn, u, x.prev, x.kind, x.oid, x.before, x.after, x.next, x.txs⟩, isRec_of hst' q0 rfl q2 q3 q4 q5 q6 q7 q8, by show Md.szSlot x.before + Md.szSlot x.after + x.txs.length ≤ m + 1; have : Md.szRec x = Md.szSlot x.before + Md.szSlot x.after + x.txs.length := rfl; omega⟩ hE.lit
  by_cases e2 : v1 = 2
  · subst e2
    simp -dsimp only [go_sem, sc1.1, sc1.2.1, sc1.2.2.1, q0, Int.reduceBEq, sr.1, sr.2.1, sr.2.2.1]
    intro g4 b4 hb4
    have hb4' : p0 ≤ b4 := hb4
    refine xcall_c (rest0 := [.msl 24 g4 0 [] 0 3 1]) (l := 1000) (g := 0) (b := gb) (l1Int_b e c1 _ xs [-1, x.lsn, 0] h hd hc1 (isL_LD b4 (vals := [-1, x.lsn, 0]) (by simp)) (by simp) (by simp)) (by simp -dsimp only [go_sem]) (by
      simp -dsimp only [go_sem]
      exact congrArg (fun f => [D.sl b4 true 3 1 f]) (lits fun i => by match i with | 0 => rfl | 1 => rfl | 2 => rfl | i + 3 => rfl)) (by simp -dsimp only [go_sem]) sc1.2.2.2 fun m3 m4 c4 r hm3 hm4 hq => ?_
    obtain ⟨hc4, j4, hj4, hr4⟩ := hq
    obtain ⟨u, hu4⟩ : ∃ u : Int, r = .lit (.int .i64 u) := ⟨_, hr4⟩
    subst hu4
    have sc4 := hc4.shape
    simp -dsimp only [go_sem, sc4.1, sc4.2.1, sc4.2.2.1, q0, q1, q2, q3, q4, q7]
    refine ⟨_, rfl, fun n1 hn1 hfc => ?_⟩
    have hst' := still_upd (k := 2) (d := .lit (.int .i64 u)) hst trivial
    rw [rl_still sc4.2.2.2]
    exact Eq.mpr (congrArg (fun r => BEnd (CurT e xs.length (RecA (m + 1)) (.node (.agg [1, 1, 1, 1, 1, 4, 4, 1, 1]) q)) c n0 n1 c4 r (TT c _)) (rl_still (show (D.node _ _).still from hst'))) <| ct_end hc hc4 hd ⟨⟨x.lsn, x.tx, u, x.kind, x.oid, x.before, x.after, x.next, x.txs⟩, isRec_of hst' q0 q1 rfl q3 q4 q5 q6 q7 q8, by show Md.szSlot x.before + Md.szSlot x.after + x.txs.length ≤ m + 1; have : Md.szRec x = Md.szSlot x.before + Md.szSlot x.after + x.txs.length := rfl; omega⟩ hE.lit
  by_cases e3 : v1 = 3
  · subst e3
    simp -dsimp only [go_sem, sc1.1, sc1.2.1, sc1.2.2.1, q0, Int.reduceBEq, sr.1, sr.2.1, sr.2.2.1]
    intro g4 b4 hb4
    have hb4' : p0 ≤ b4 := hb4
    refine xcall_c (rest0 := [.msl 30 g4 0 [] 0 4 1]) (l := 1000) (g := 0) (b := gb) (l1Int_b e c1 _ xs [0, 7, 1, 4] h hd hc1 (isL_LD b4 (vals := [0, 7, 1, 4]) (by simp)) (by simp) (by simp)) (by simp -dsimp only [go_sem]) (by
      simp -dsimp only [go_sem]
      exact congrArg (fun f => [D.sl b4 true 4 1 f]) (lits fun i => by match i with | 0 => rfl | 1 => rfl | 2 => rfl | 3 => rfl | i + 4 => rfl)) (by simp -dsimp only [go_sem]) sc1.2.2.2 fun m3 m4 c4 r hm3 hm4 hq => ?_
    obtain ⟨hc4, j4, hj4, hr4⟩ := hq
    obtain ⟨u, hu4⟩ : ∃ u : Int, r = .lit (.int .i64 u) := ⟨_, hr4⟩
    subst hu4
    have sc4 := hc4.shape
    simp -dsimp only [go_sem, sc4.1, sc4.2.1, sc4.2.2.1, q0, q1, q2, q3, q4, q7]
    refine ⟨_, rfl, fun n1 hn1 hfc => ?_⟩
    have hst' := still_upd (k := 3) (d := .lit (.int .i64 u)) hst trivial
    rw [rl_still sc4.2.2.2]
    exact Eq.mpr (congrArg (fun r => BEnd (CurT e xs.length (RecA (m + 1)) (.node (.agg [1, 1, 1, 1, 1, 4, 4, 1, 1]) q)) c n0 n1 c4 r (TT c _)) (rl_still (show (D.node _ _).still from hst'))) <| ct_end hc hc4 hd ⟨⟨x.lsn, x.tx, x.prev, u, x.oid, x.before, x.after, x.next, x.txs⟩, isRec_of hst' q0 q1 q2 rfl q4 q5 q6 q7 q8, by show Md.szSlot x.before + Md.szSlot x.after + x.txs.length ≤ m + 1; have : Md.szRec x = Md.szSlot x.before + Md.szSlot x.after + x.txs.length := rfl; omega⟩ hE.lit
  by_cases e4 : v1 = 4
  · subst e4
    simp -dsimp only [go_sem, sc1.1, sc1.2.1, sc1.2.2.1, q0, Int.reduceBEq, sr.1, sr.2.1, sr.2.2.1]
    intro g4 b4 hb4
    have hb4' : p0 ≤ b4 := hb4
    refine xcall_c (rest0 := [.msl 36 g4 0 [] 0 3 1]) (l := 1000) (g := 0) (b := gb) (l1Int_b e c1 _ xs [0, 31, 32] h hd hc1 (isL_LD b4 (vals := [0, 31, 32]) (by simp)) (by simp) (by simp)) (by simp -dsimp only [go_sem]) (by
      simp -dsimp only [go_sem]
      exact congrArg (fun f => [D.sl b4 true 3 1 f]) (lits fun i => by match i with | 0 => rfl | 1 => rfl | 2 => rfl | i + 3 => rfl)) (by simp -dsimp only [go_sem]) sc1.2.2.2 fun m3 m4 c4 r hm3 hm4 hq => ?_
    obtain ⟨hc4, j4, hj4, hr4⟩ := hq
    obtain ⟨u, hu4⟩ : ∃ u : Int, r = .lit (.int .i64 u) := ⟨_, hr4⟩
    subst hu4
    have sc4 := hc4.shape
    simp -dsimp only [go_sem, sc4.1, sc4.2.1, sc4.2.2.1, q0, q1, q2, q3, q4, q7]
    refine ⟨_, rfl, fun n1 hn1 hfc => ?_⟩
    have hst' := still_upd (k := 4) (d := .lit (.int .i64 u)) hst trivial
    rw [rl_still sc4.2.2.2]
    exact Eq.mpr (congrArg (fun r => BEnd (CurT e xs.length (RecA (m + 1)) (.node (.agg [1, 1, 1, 1, 1, 4, 4, 1, 1]) q)) c n0 n1 c4 r (TT c _)) (rl_still (show (D.node _ _).still from hst'))) <| ct_end hc hc4 hd ⟨⟨x.lsn, x.tx, x.prev, x.kind, u, x.before, x.after, x.next, x.txs⟩, isRec_of hst' q0 q1 q2 q3 rfl q5 q6 q7 q8, by show Md.szSlot x.before + Md.szSlot x.after + x.txs.length ≤ m + 1; have : Md.szRec x = Md.szSlot x.before + Md.szSlot x.after + x.txs.length := rfl; omega⟩ hE.lit
  by_cases e5 : v1 = 5
  · subst e5
    simp -dsimp only [go_sem, sc1.1, sc1.2.1, sc1.2.2.1, q0, Int.reduceBEq, sr.1, sr.2.1, sr.2.2.1]
    intro g4 b4 hb4
    have hb4' : p0 ≤ b4 := hb4
    refine xcall_c (rest0 := [.msl 44 g4 0 [] 0 3 1]) (l := 1000) (g := 0) (b := gb) (l1Int_b e c1 _ xs [1, -1, x.lsn] h hd hc1 (isL_LD b4 (vals := [1, -1, x.lsn]) (by simp)) (by simp) (by simp)) (by simp -dsimp only [go_sem]) (by
      simp -dsimp only [go_sem]
      exact congrArg (fun f => [D.sl b4 true 3 1 f]) (lits fun i => by match i with | 0 => rfl | 1 => rfl | 2 => rfl | i + 3 => rfl)) (by simp -dsimp only [go_sem]) sc1.2.2.2 fun m3 m4 c4 r hm3 hm4 hq => ?_
    obtain ⟨hc4, j4, hj4, hr4⟩ := hq
    obtain ⟨u, hu4⟩ : ∃ u : Int, r = .lit (.int .i64 u) := ⟨_, hr4⟩
    subst hu4
    have sc4 := hc4.shape
    simp -dsimp only [go_sem, sc4.1, sc4.2.1, sc4.2.2.1, q0, q1, q2, q3, q4, q7]
    refine ⟨_, rfl, fun n1 hn1 hfc => ?_⟩
    have hst' := still_upd (k := 7) (d := .lit (.int .i64 u)) hst trivial
    rw [rl_still sc4.2.2.2]
    exact Eq.mpr (congrArg (fun r => BEnd (CurT e xs.length (RecA (m + 1)) (.node (.agg [1, 1, 1, 1, 1, 4, 4, 1, 1]) q)) c n0 n1 c4 r (TT c _)) (rl_still (show (D.node _ _).still from hst'))) <| ct_end hc hc4 hd ⟨⟨x.lsn, x.tx, x.prev, x.kind, x.oid, x.before, x.after, u, x.txs⟩, isRec_of hst' q0 q1 q2 q3 q4 q5 q6 rfl q8, by show Md.szSlot x.before + Md.szSlot x.after + x.txs.length ≤ m + 1; have : Md.szRec x = Md.szSlot x.before + Md.szSlot x.after + x.txs.length := rfl; omega⟩ hE.lit
  by_cases e6 : v1 = 6
  · subst e6
    have htl : x.txs.length ≤ m := by have : Md.szRec x = Md.szSlot x.before + Md.szSlot x.after + x.txs.length := rfl; omega
    rcases q8 with ⟨e8, htx⟩ | ⟨t, zb, f, e8, hfs, hfl, hf⟩
    · have e8 : q 8 = _ := e8
      have htx0 : x.txs.length = 0 := by rw [htx]; rfl
      simp -dsimp only [go_sem, sc1.1, sc1.2.1, sc1.2.2.1, q0, e8, Int.reduceBEq, sr.1, sr.2.1, sr.2.2.1]
      intro g5 b5 hb5
      intro g6 b6 n6 hn6 hb6 hb7 g7 b7 hb8
      have hb5' : p0 ≤ b5 := hb5
      have hn6' : b5 + 1 ≤ n6 := hn6
      have hb8' : n6 ≤ b7 := hb8
      refine xcall_c (rest0 := [.msl 54 g7 0 [] 0 3 1]) (l := 1000) (g := 0) (b := gb) (l1Int_b e c1 _ xs [1, 9, 0] h hd hc1 (isL_LD b7 (vals := [1, 9, 0]) (by simp)) (by simp) (by simp)) (by simp -dsimp only [go_sem]) (by
        simp -dsimp only [go_sem]
        exact congrArg (fun f => [D.sl b7 true 3 1 f]) (lits fun i => by match i with | 0 => rfl | 1 => rfl | 2 => rfl | i + 3 => rfl)) (by simp -dsimp only [go_sem]) sc1.2.2.2 fun m3 m4 c4 r hm3 hm4 hq => ?_
      obtain ⟨hc4, j4, hj4, hr4⟩ := hq
      obtain ⟨u, hu4⟩ : ∃ u : Int, r = .lit (.int .i64 u) := ⟨_, hr4⟩
      subst hu4
      have sc4 := hc4.shape
      simp -dsimp only [go_sem, sc4.1, sc4.2.1, sc4.2.2.1, q0, e8, Int.reduceBEq, sr.1, sr.2.1, sr.2.2.1]
      intro g8 b8 hb9
      have hm3' : b7 + 1 ≤ m3 := hm3
      have hb9' : m4 ≤ b8 := hb9
      refine xcall_c (rest0 := [.msl 57 g8 0 [] 0 3 1]) (l := 1000) (g := 0) (b := gb) (l1Int_b e c4 _ xs [0, 1, 99] h hd hc4 (isL_LD b8 (vals := [0, 1, 99]) (by simp)) (by simp) (by simp)) (by simp -dsimp only [go_sem]) (by
        simp -dsimp only [go_sem]
        exact congrArg (fun f => [D.sl b8 true 3 1 f]) (lits fun i => by match i with | 0 => rfl | 1 => rfl | 2 => rfl | i + 3 => rfl)) (by simp -dsimp only [go_sem]) sc4.2.2.2 fun m5 m6 c5 r hm5 hm6 hq => ?_
      obtain ⟨hc5, j5, hj5, hr5⟩ := hq
      obtain ⟨u2, hu5⟩ : ∃ u : Int, r = .lit (.int .i64 u) := ⟨_, hr5⟩
      subst hu5
      have sc5 := hc5.shape
      simp -dsimp only [go_sem, sc5.1, sc5.2.1, sc5.2.2.1, q0, e8, Int.reduceBEq, sr.1, sr.2.1, sr.2.2.1]
      intro g9 b9 hb10
      refine ⟨fun y h => h.symm, fun g10 b10 n10 hn10 hb11 hb12 => ⟨_, rfl, fun n1 hn1 hfc => ?_⟩⟩
      have hm5' : b8 + 1 ≤ m5 := hm5
      have hb10' : m6 ≤ b9 := hb10
      have hb13 : n0 ≤ b10 := by
        have hn0 : n0 ≤ p0 := by omega
        rcases hb12 with h | h <;> omega
      have hlive : IsLive (.node (.agg [1, 1, 1]) (upd (upd (nthD [.lit (.int .i64 0), .lit (.int .i64 0), .lit (.bool false)]) 0 (.lit (.int .i64 u))) 1 (.lit (.int .i64 u2)))) ⟨u, u2, false⟩ := ⟨_, rfl, still_upd (still_upd (stN (by simp only [stillL_nil, stillL_cons, still_lit, still_nil, still_any, still_nodeN, still_nodeC, and_self])) trivial) trivial, rfl, rfl, rfl⟩
      have hfst : ∀ i, ((catD 0 (fun _ => zLiveD) (fun _ => D.any)) i).still := cat_still (fun _ => still_zLive) (fun _ => trivial)
      have hfok : ∀ i (hi : i < x.txs.length), IsLive ((catD 0 (fun _ => zLiveD) (fun _ => D.any)) i) x.txs[i] := fun i hi => absurd hi (by rw [htx]; exact Nat.not_lt_zero i)
      have hGst := cat_still (n := 0) hfst (still_upd (f := fun _ => zLiveD) (k := 0) (fun _ => still_zLive) (show (D.node (.agg [1, 1, 1]) (upd (upd (nthD [.lit (.int .i64 0), .lit (.int .i64 0), .lit (.bool false)]) 0 (.lit (.int .i64 u))) 1 (.lit (.int .i64 u2)))).still from (shp_live _ _ hlive).2.2.2))
      have hGok := cat_live (n := 0) (xs := x.txs) (ys := [⟨u, u2, false⟩]) (by rw [htx]; rfl) hfok (g := upd (fun _ => zLiveD) 0 (.node (.agg [1, 1, 1]) (upd (upd (nthD [.lit (.int .i64 0), .lit (.int .i64 0), .lit (.bool false)]) 0 (.lit (.int .i64 u))) 1 (.lit (.int .i64 u2))))) (fun i hi => by
        have : i = 0 := by simpa using hi
        subst this; exact hlive)
      have hln : (x.txs ++ [(⟨u, u2, false⟩ : Md.Live)]).length = 0 + 1 := by rw [List.length_append]; simp [htx0]
      have hL := isL_lives (t := b10) hln hGst hGok (by omega)
      rw [rl_still sc5.2.2.2, rl_node, rl_upd8 hst (Y := .sl b10 true (0 + 1) 3 (catD 0 (catD 0 (fun _ => zLiveD) (fun _ => D.any)) (upd (fun _ => zLiveD) 0 (.node (.agg [1, 1, 1]) (upd (upd (nthD [.lit (.int .i64 0), .lit (.int .i64 0), .lit (.bool false)]) 0 (.lit (.int .i64 u))) 1 (.lit (.int .i64 u2))))))) (by
        simp -dsimp only [go_sem]
        exact congrArg (D.sl b10 true (0 + 1) 3) (rls_still hGst))]
      exact ct_end hc hc5 hd ⟨⟨x.lsn, x.tx, x.prev, x.kind, x.oid, x.before, x.after, x.next, x.txs ++ [(⟨u, u2, false⟩ : Md.Live)]⟩, isRec_of (still_upd (k := 8) hst hL.still) q0 q1 q2 q3 q4 q5 q6 q7 hL, by
        show Md.szSlot x.before + Md.szSlot x.after + (x.txs ++ [(⟨u, u2, false⟩ : Md.Live)]).length ≤ m + 1
        have : Md.szRec x = Md.szSlot x.before + Md.szSlot x.after + x.txs.length := rfl
        rw [List.length_append]; simp; omega⟩ (hE.put (row_ext hln hGok hb13))
    · have e8 : q 8 = _ := e8
      have htx0 : x.txs.length = x.txs.length := rfl
      simp -dsimp only [go_sem, sc1.1, sc1.2.1, sc1.2.2.1, q0, e8, Int.reduceBEq, sr.1, sr.2.1, sr.2.2.1]
      intro g5 b5 hb5
      refine ⟨fun y h => h.symm, by omega, by omega, ?_⟩
      intro g6 b6 n6 hn6 hb6 hb7 g7 b7 hb8
      have hb5' : p0 ≤ b5 := hb5
      have hn6' : b5 + 1 ≤ n6 := hn6
      have hb8' : n6 ≤ b7 := hb8
      refine xcall_c (rest0 := [.msl 54 g7 0 [] 0 3 1]) (l := 1000) (g := 0) (b := gb) (l1Int_b e c1 _ xs [1, 9, 0] h hd hc1 (isL_LD b7 (vals := [1, 9, 0]) (by simp)) (by simp) (by simp)) (by simp -dsimp only [go_sem]) (by
        simp -dsimp only [go_sem]
        exact congrArg (fun f => [D.sl b7 true 3 1 f]) (lits fun i => by match i with | 0 => rfl | 1 => rfl | 2 => rfl | i + 3 => rfl)) (by simp -dsimp only [go_sem]) sc1.2.2.2 fun m3 m4 c4 r hm3 hm4 hq => ?_
      obtain ⟨hc4, j4, hj4, hr4⟩ := hq
      obtain ⟨u, hu4⟩ : ∃ u : Int, r = .lit (.int .i64 u) := ⟨_, hr4⟩
      subst hu4
      have sc4 := hc4.shape
      simp -dsimp only [go_sem, sc4.1, sc4.2.1, sc4.2.2.1, q0, e8, Int.reduceBEq, sr.1, sr.2.1, sr.2.2.1]
      intro g8 b8 hb9
      have hm3' : b7 + 1 ≤ m3 := hm3
      have hb9' : m4 ≤ b8 := hb9
      refine xcall_c (rest0 := [.msl 57 g8 0 [] 0 3 1]) (l := 1000) (g := 0) (b := gb) (l1Int_b e c4 _ xs [0, 1, 99] h hd hc4 (isL_LD b8 (vals := [0, 1, 99]) (by simp)) (by simp) (by simp)) (by simp -dsimp only [go_sem]) (by
        simp -dsimp only [go_sem]
        exact congrArg (fun f => [D.sl b8 true 3 1 f]) (lits fun i => by match i with | 0 => rfl | 1 => rfl | 2 => rfl | i + 3 => rfl)) (by simp -dsimp only [go_sem]) sc4.2.2.2 fun m5 m6 c5 r hm5 hm6 hq => ?_
      obtain ⟨hc5, j5, hj5, hr5⟩ := hq
      obtain ⟨u2, hu5⟩ : ∃ u : Int, r = .lit (.int .i64 u) := ⟨_, hr5⟩
      subst hu5
      have sc5 := hc5.shape
      simp -dsimp only [go_sem, sc5.1, sc5.2.1, sc5.2.2.1, q0, e8, Int.reduceBEq, sr.1, sr.2.1, sr.2.2.1]
      intro g9 b9 hb10
      refine ⟨fun y h => h.symm, by omega, by omega, fun g10 b10 n10 hn10 hb11 hb12 => ⟨_, rfl, fun n1 hn1 hfc => ?_⟩⟩
      have hm5' : b8 + 1 ≤ m5 := hm5
      have hb10' : m6 ≤ b9 := hb10
      have hb13 : n0 ≤ b10 := by
        have hn0 : n0 ≤ p0 := by omega
        rcases hb12 with h | h <;> omega
      have hlive : IsLive (.node (.agg [1, 1, 1]) (upd (upd (nthD [.lit (.int .i64 0), .lit (.int .i64 0), .lit (.bool false)]) 0 (.lit (.int .i64 u))) 1 (.lit (.int .i64 u2)))) ⟨u, u2, false⟩ := ⟨_, rfl, still_upd (still_upd (stN (by simp only [stillL_nil, stillL_cons, still_lit, still_nil, still_any, still_nodeN, still_nodeC, and_self])) trivial) trivial, rfl, rfl, rfl⟩
      have hfst : ∀ i, ((catD 0 (fun _ => zLiveD) f) i).still := cat_still (fun _ => still_zLive) hfs
      have hfok : ∀ i (hi : i < x.txs.length), IsLive ((catD 0 (fun _ => zLiveD) f) i) x.txs[i] := fun i hi => cat_live (xs := []) (ys := x.txs) rfl (fun i hi => absurd hi (Nat.not_lt_zero i)) hf i hi
      have hGst := cat_still (n := x.txs.length) hfst (still_upd (f := fun _ => zLiveD) (k := 0) (fun _ => still_zLive) (show (D.node (.agg [1, 1, 1]) (upd (upd (nthD [.lit (.int .i64 0), .lit (.int .i64 0), .lit (.bool false)]) 0 (.lit (.int .i64 u))) 1 (.lit (.int .i64 u2)))).still from (shp_live _ _ hlive).2.2.2))
      have hGok := cat_live (n := x.txs.length) (xs := x.txs) (ys := [⟨u, u2, false⟩]) rfl hfok (g := upd (fun _ => zLiveD) 0 (.node (.agg [1, 1, 1]) (upd (upd (nthD [.lit (.int .i64 0), .lit (.int .i64 0), .lit (.bool false)]) 0 (.lit (.int .i64 u))) 1 (.lit (.int .i64 u2))))) (fun i hi => by
        have : i = 0 := by simpa using hi
        subst this; exact hlive)
      have hln : (x.txs ++ [(⟨u, u2, false⟩ : Md.Live)]).length = x.txs.length + 1 := by rw [List.length_append]; simp [htx0]
      have hL := isL_lives (t := b10) hln hGst hGok (by omega)
      rw [rl_still sc5.2.2.2, rl_node, rl_upd8 hst (Y := .sl b10 true (x.txs.length + 1) 3 (catD x.txs.length (catD 0 (fun _ => zLiveD) f) (upd (fun _ => zLiveD) 0 (.node (.agg [1, 1, 1]) (upd (upd (nthD [.lit (.int .i64 0), .lit (.int .i64 0), .lit (.bool false)]) 0 (.lit (.int .i64 u))) 1 (.lit (.int .i64 u2))))))) (by
        simp -dsimp only [go_sem]
        exact congrArg (D.sl b10 true (x.txs.length + 1) 3) (rls_still hGst))]
      exact ct_end hc hc5 hd ⟨⟨x.lsn, x.tx, x.prev, x.kind, x.oid, x.before, x.after, x.next, x.txs ++ [(⟨u, u2, false⟩ : Md.Live)]⟩, isRec_of (still_upd (k := 8) hst hL.still) q0 q1 q2 q3 q4 q5 q6 q7 hL, by
        show Md.szSlot x.before + Md.szSlot x.after + (x.txs ++ [(⟨u, u2, false⟩ : Md.Live)]).length ≤ m + 1
        have : Md.szRec x = Md.szSlot x.before + Md.szSlot x.after + x.txs.length := rfl
        rw [List.length_append]; simp; omega⟩ (hE.put (row_ext hln hGok hb13))
  · have hv7 : v1 = 7 := by omega
    subst hv7
    simp -dsimp only [go_sem, sc1.1, sc1.2.1, sc1.2.2.1, q0, Int.reduceBEq, sr.1, sr.2.1, sr.2.2.1]
    refine ⟨_, rfl, fun n1 hn1 hfc => ?_⟩
    rw [rl_still sc1.2.2.2]
    exact Eq.mpr (congrArg (fun r => BEnd (CurT e xs.length (RecA (m + 1)) (.node (.agg [1, 1, 1, 1, 1, 4, 4, 1, 1]) q)) c n0 n1 c1 r (TT c _)) (rl_still (show (D.node _ _).still from hst))) <| ct_end hc hc1 hd ⟨x, isRec_of hst q0 q1 q2 q3 q4 q5 q6 q7 q8, by omega⟩ hE
/-- an answer of a draw, all of it new -/
def CurN (e : D) (N : Nat) (A : D → Prop) (n0 _n1 : Nat) (d' r : D) : Prop := Cur e N d' ∧ A r ∧ ExtT .nil n0 r
theorem cn_end {e c cc r : D} {N n0 n1 : Nat} {A : D → Prop} (hc : Cur e N c) (hcc : Cur e N cc) (hd : e.data) (hr : A r) (ho : ExtT .nil n0 r) : BEnd (CurN e N A) c n0 n1 cc r :=
  ⟨⟨hcc, hr, ho⟩, hcc.shape.2.2.1, cur_tags hc hcc hd, D.tags_mono (fun b hb => hb.elim (fun h => by simp [D.tl] at h) .inr) ho.tags⟩
theorem ExtT.of_own {lo hi n0 : Nat} {r : D} (h : Own lo hi r) (hn : n0 ≤ lo) : ExtT .nil n0 r := ⟨whole_data h.wh, fun t ht => .inr (by have := (h.rg t ht).1; omega)⟩
theorem ExtT.then {a b : D} {n0 m : Nat} (h : ExtT .nil n0 a) (h' : ExtT a m b) (hm : n0 ≤ m) : ExtT .nil n0 b := ⟨h'.1, fun t ht => (h'.2 t ht).elim (h.2 t) fun h => .inr (by omega)⟩
theorem l4DrawAny_b (e c : D) (xs : List Int) (h : IsL 1 IsByte e xs) (hd : e.data) (hc : Cur e xs.length c) : BCall Try.prog 128 .nil c [] (CurN e xs.length (RecA 21)) := by
  have sc := hc.shape
  refine bcall_intro Try.func128 rfl (by decide) rfl (by decide) (by rw [Try.ntmps128]; simp) fun w0 M n0 gb hW hS hT hgb => ivc_sound ?_; simp -dsimp only [Try.f128, go_sem, sc.1, sc.2.1, sc.2.2.1]
  intro g2 b2 hb2
  refine xcall_cs (l := 1000) (g := 0) (b := gb) (l4Draw_b e c xs h hd hc) (by simp -dsimp only [go_sem]) trivial (by simp -dsimp only [go_sem]) sc.2.2.2 fun m0 p0 c1 r1 hm0 hp0 hq => ?_
  obtain ⟨hc1, ⟨x, hx, hxs⟩, ho⟩ := hq
  have sc1 := hc1.shape
  have zp := shp_rec _ _ hx
  have hm0' : b2 + 1 ≤ m0 := hm0
  simp -dsimp only [go_sem, sc1.1, sc1.2.1, sc1.2.2.1, zp.1, zp.2.1, zp.2.2.1]
  intro g3 b3 hb3
  have hb3' : p0 ≤ b3 := hb3
  refine xcall_cs (l := 1000) (g := 0) (b := gb) (l1Once_b e c1 xs 5 h hd hc1 (by decide) (by decide)) (by simp -dsimp only [go_sem]) ⟨trivial, trivial⟩ (by simp -dsimp only [go_sem]) sc1.2.2.2 fun m1 p1 c2 r hm1 hp1 hq => ?_
  obtain ⟨hc2, v, rfl⟩ := hq
  have sc2 := hc2.shape
  have hm1' : b3 + 1 ≤ m1 := hm1
  simp -dsimp only [go_sem, sc2.1, sc2.2.1, sc2.2.2.1, zp.1, zp.2.1, zp.2.2.1]
  have hE1 : ExtT .nil n0 r1 := .of_own ho (by omega)
  refine ⟨fun hvt => ?_, fun hvf => ?_⟩
  · subst hvt
    refine xcall_cw (l := 1000) (g := 0) (b := gb) (l4Bend_b e c2 r1 xs 20 x h hd hc2 hx hE1.1 hxs (by decide)) (by simp -dsimp only [go_sem]) ⟨zp.2.2.2, trivial⟩ (by simp -dsimp only [go_sem]) sc2.2.2.2 (fun t ht => ht.imp id fun h => ⟨r1, by simp, h⟩) fun m2 p2 c3 r2 hm2 hp2 hq => ?_
    obtain ⟨hc3, ⟨y, hy, hys⟩, hE⟩ := hq
    have sc3 := hc3.shape
    have yp := shp_rec _ _ hy
    have hm2' : p1 ≤ m2 := hm2
    simp -dsimp only [go_sem, sc3.1, sc3.2.1, sc3.2.2.1, yp.1, yp.2.1, yp.2.2.1, zp.1, zp.2.1, zp.2.2.1]
    refine ⟨_, rfl, fun n1 hn1 hfc => ?_⟩
    rw [rl_still sc3.2.2.2, rl_still yp.2.2.2]
    exact cn_end hc hc3 hd ⟨y, hy, hys⟩ (hE1.then hE (by omega))
  · subst hvf
    refine ⟨_, rfl, fun n1 hn1 hfc => ?_⟩
    rw [rl_still sc2.2.2.2, rl_still zp.2.2.2]
    exact cn_end hc hc2 hd ⟨x, hx, by omega⟩ hE1
/-- a page and a record, drawn -/
def DrawnPR (n0 _n1 : Nat) (r : D) : Prop := ∃ (a b : D) (x : Md.Page) (y : Md.Rec), r = .tup 2 (nthD [a, b]) ∧ IsPage a x ∧ Md.szPage x ≤ 60 ∧ ExtT .nil n0 a ∧ IsRec b y ∧ Md.szRec y ≤ 21 ∧ ExtT .nil n0 b
theorem ExtT.new {r : D} {n0 : Nat} (h : ExtT .nil n0 r) : r.tags (n0 ≤ ·) := D.tags_mono (fun b hb => hb.elim (fun h => by simp [D.tl] at h) id) h.tags
theorem DrawnPR.tags {n0 n1 : Nat} {r : D} (h : DrawnPR n0 n1 r) : r.tags (n0 ≤ ·) := by
  obtain ⟨a, b, x, y, rfl, _, _, h1, _, _, h2⟩ := h
  intro i hi
  have hi' : i < 2 := hi
  match i, hi' with
  | 0, _ => exact h1.new
  | 1, _ => exact h2.new
theorem drawRedo_p (e : D) (xs : List Int) (h : IsL 1 IsByte e xs) (hd : e.data) : PCall Try.prog 56 [e] DrawnPR := by
  refine pcall_intro_t Try.func56 rfl (by decide) rfl (by decide) (by rw [Try.ntmps56]; simp) fun w0 M n0 hW hT => ivc_sound ?_; simp -dsimp only [Try.f56, go_sem, h.lenT]
  intro g2 b2 hb2 g4 b4 hb4
  refine xcall_ptr (l := 2300) (l1New_o e xs h) rfl (by simp -dsimp only [go_sem]) ⟨h.still, trivial⟩ fun n1 c G b' hn1 hst hpl hc hb1 hb2 => ?_
  have sc := hc.shape
  simp -dsimp only [go_sem, sc.1, sc.2.1, sc.2.2.1]
  refine xcall_cs (l := 2300) (g := G) (b := b') (l3PageAny_b e c xs h hd hc) (by simp -dsimp only [go_sem]) trivial (by simp -dsimp only [go_sem]) sc.2.2.2 fun m0 p0 c1 r0 hm0 hp0 hq => ?_
  obtain ⟨hc1, ⟨x, hx, hxs⟩, ho⟩ := hq
  have sc1 := hc1.shape
  have zp := shp_page _ _ hx
  simp -dsimp only [go_sem, sc1.1, sc1.2.1, sc1.2.2.1, zp.1, zp.2.1, zp.2.2.1]
  refine xcall_cs (l := 2300) (g := G) (b := b') (l4DrawAny_b e c1 xs h hd hc1) (by simp -dsimp only [go_sem]) trivial (by simp -dsimp only [go_sem]) sc1.2.2.2 fun m1 p1 c2 r1 hm1 hp1 hq => ?_
  obtain ⟨hc2, ⟨y, hy, hys⟩, hE⟩ := hq
  have sc2 := hc2.shape
  have yp := shp_rec _ _ hy
  simp -dsimp only [go_sem, sc2.1, sc2.2.1, sc2.2.2.1, yp.1, yp.2.1, yp.2.2.1, zp.1, zp.2.1, zp.2.2.1]
  intro n9 hn9 hfc
  rw [rl_still zp.2.2.2, rl_still yp.2.2.2]
  have hm0' : n1 ≤ m0 := hm0
  have hm1' : p0 ≤ m1 := hm1
  exact ⟨_, _, x, y, rfl, hx, hxs, .of_own ho (by omega), hy, hys, hE.1, fun t ht => (hE.2 t ht).imp id fun h => by omega⟩
end Go.Proofs.Ytkigfigdoaoboaa.IM
end

section
/- What Redo and UndoOf do to a page. Printed by redone.py. -/
namespace Go.Proofs.Ytkigfigdoaoboaa.IM
open Go Go.Proofs
set_option linter.unusedVariables false
set_option linter.unusedSimpArgs false
set_option maxHeartbeats 2000000
set_option maxRecDepth 20000

theorem redo_false {x : Md.Page} {r : Md.Rec} (h : (Md.redo x r).2 = false) : (Md.redo x r).1 = x := by
  cases hc : (Md.pageOk x && Md.recOk r && Md.changes r && decide (x.lsn < r.lsn)) with
  | false => rw [redo_no hc]
  | true => rw [redo_yes hc] at h; simp at h
theorem redo_cond {x : Md.Page} {r : Md.Rec} (h : (Md.redo x r).2 = true) : (Md.pageOk x && Md.recOk r && Md.changes r && decide (x.lsn < r.lsn)) = true := by
  cases hc : (Md.pageOk x && Md.recOk r && Md.changes r && decide (x.lsn < r.lsn)) with
  | false => rw [redo_no hc] at h; simp at h
  | true => rfl
structure Redone (x : Md.Page) (r : Md.Rec) (k : Nat) (n : Md.Page) : Prop where
  k_ : (r.oid % 4) = (k : Int)
  kt : r.oid.tmod 4 = (k : Int)
  k4 : k < 4
  oid : 1 ≤ r.oid ∧ r.oid ≤ 31
  lsn : n.lsn = r.lsn
  kn : k < n.slots.length
  at_ : n.slots[k] = r.after
  again : (Md.redo n r).2 = false
  ok : Md.pageOk n = true
  rec_ : Md.recOk r = true
theorem redone {x : Md.Page} {r : Md.Rec} (hl : x.slots.length = 4) (h : (Md.redo x r).2 = true) : ∃ k, Redone x r k (Md.redo x r).1 := by
  have hc := redo_cond h
  have hc' := hc
  simp only [Bool.and_eq_true, decide_eq_true_eq] at hc'
  obtain ⟨⟨⟨hp, hr⟩, hch⟩, hlt⟩ := hc'
  have rg := redo_rg hr hch
  rw [redo_yes hc]
  have hk : (r.oid % 4).toNat < 4 := by omega
  refine ⟨(r.oid % 4).toNat, by omega, ?_, hk, ⟨rg.1, rg.2.1⟩, rfl, by simp [hl]; omega, by simp, ?_, ?_, hr⟩
  · rw [Int.tmod_eq_emod_of_nonneg (by omega)]; omega
  · rw [redo_no]
    simp
  · unfold Md.pageOk at hp ⊢
    simp only [Bool.and_eq_true] at hp ⊢
    refine ⟨(inB_iff _ _ _).2 (by show 0 ≤ r.lsn ∧ r.lsn ≤ 1000000; omega), ?_⟩
    have hp2 := hp.2
    unfold Md.slotsOk at hp2 ⊢
    rw [List.all_eq_true] at hp2 ⊢
    intro s hs
    rcases List.mem_or_eq_of_mem_set hs with h1 | h1
    · exact hp2 s h1
    · rw [h1]; exact rg.2.2.1
structure Undone (n : Md.Page) (r u : Md.Rec) (k : Nat) (m : Md.Page × Bool) : Prop where
  nx : u.next = r.prev
  ok : m.2 = true
  lsn : m.1.lsn = 500000
  km : k < m.1.slots.length
  at_ : m.1.slots[k] = r.before
theorem undo_other {r : Md.Rec} {a b : Int} (h : r.kind ≠ 1) : (Md.undoOf r a b).kind = 0 := by
  rw [undoOf_no (by simp [h])]; rfl
theorem undone {x n : Md.Page} {r : Md.Rec} {k : Nat} (R : Redone x r k n) (h1 : r.kind = 1) (hl : r.lsn < 500000) : Undone n r (Md.undoOf r 500000 r.lsn) k (Md.redo n (Md.undoOf r 500000 r.lsn)) := by
  have hr := R.rec_
  have hr' := hr
  unfold Md.recOk at hr'
  rw [if_neg (by omega), if_pos h1] at hr'
  simp only [Bool.and_eq_true] at hr'
  obtain ⟨hlsn, ⟨⟨htx, hprev⟩, htxs⟩, ⟨⟨hoid, hbf⟩, haf⟩, hnx⟩ := hr'
  have l1 := (inB_iff _ _ _).1 hlsn
  have l2 := (inB_iff _ _ _).1 hprev
  have hu : Md.recOk (Md.undoRec r 500000 r.lsn) = true := by
    unfold Md.recOk Md.undoRec
    rw [if_neg (show ¬ (4 : Int) = 6 by decide), if_neg (show ¬ (4 : Int) = 1 by decide), if_pos rfl]
    simp only [Bool.and_eq_true]
    refine ⟨by decide, ⟨⟨htx, (inB_iff _ _ _).2 (by show 0 ≤ r.lsn ∧ r.lsn ≤ 500000 - 1; omega)⟩, rfl⟩, ⟨⟨hoid, rfl⟩, hbf⟩, (inB_iff _ _ _).2 (by show 0 ≤ r.prev ∧ r.prev ≤ 500000 - 1; omega)⟩
  have eu : Md.undoOf r 500000 r.lsn = Md.undoRec r 500000 r.lsn := undoOf_yes (by rw [hr, hu, h1]; rfl)
  rw [eu]
  have hn : n.lsn < 500000 := by rw [R.lsn]; exact hl
  have ey := redo_yes (x := n) (r := Md.undoRec r 500000 r.lsn) (by
    simp only [Bool.and_eq_true, decide_eq_true_eq]
    exact ⟨⟨⟨R.ok, hu⟩, rfl⟩, hn⟩)
  rw [ey]
  have hk : ((Md.undoRec r 500000 r.lsn).oid % 4).toNat = k := by
    show (r.oid % 4).toNat = k
    have := R.k_; omega
  rw [hk]
  have hkn := R.kn
  exact ⟨rfl, rfl, rfl, by simpa using hkn, by simp [Md.undoRec]⟩
end Go.Proofs.Ytkigfigdoaoboaa.IM
end

section
/- The law FnRedone. -/
namespace Go.Proofs.Ytkigfigdoaoboaa.IM
open Go Go.Proofs
set_option linter.unusedVariables false
set_option linter.unusedSimpArgs false
set_option maxHeartbeats 2000000
set_option maxRecDepth 20000

theorem sz_undo (r : Md.Rec) (a b : Int) : Md.szRec (Md.undoOf r a b) ≤ Md.szRec r := by
  unfold Md.undoOf
  split
  · show Md.szSlot Md.zSlot + Md.szSlot r.before + 0 ≤ Md.szSlot r.before + Md.szSlot r.after + r.txs.length
    have : Md.szSlot Md.zSlot = 0 := rfl
    omega
  · exact Nat.zero_le _
theorem lawRedone (d : D) (xs : List Int) (h : IsL 1 IsByte d xs) : PCall Try.prog 9 [d] fun _ _ r => r = .lit (.bool true) := by
  have hd : d.data := IsL.data (fun d x h => by have h : d = _ := h; subst h; trivial) h
  refine pcall_intro_v Try.func9 rfl (by decide) rfl (by decide) (by rw [Try.ntmps9]; simp) fun w0 M n0 => ivc_sound ?_; simp -dsimp only [Try.f9, go_sem, h.lenT]
  refine xcall_v (big_p d xs h) (by simp -dsimp only [go_sem, rl_still, h.still]) (fun _ => trivial) fun n1 hn1 => ?_
  rcases Bool.eq_false_or_eq_true (decide ((1048576 : Int) < xs.length)) with hb | hb
  · simp -dsimp only [go_sem, hb]
  · simp -dsimp only [go_sem, hb]
    refine xcall_p (drawRedo_p d xs h hd) (by simp -dsimp only [go_sem, rl_still, h.still]) fun m0 m1 r hm0 hm1 hr => ?_
    refine ⟨hr.tags, ?_⟩
    obtain ⟨dp, dr, x, y, rfl, hx, hxs, hE1, hy, hys, hE2⟩ := hr
    have zp := shp_page _ _ hx
    have yp := shp_rec _ _ hy
    simp -dsimp only [go_sem, zp.1, zp.2.1, zp.2.2.1, yp.1, yp.2.1, yp.2.2.1]
    intro g3 b3 hb3 g4 b4 hb4
    refine xcall_p (redo_p _ _ x y hx hy (by omega) (by omega)) (by simp -dsimp only [go_sem, rl_still, zp.2.2.2, yp.2.2.2]) fun m2 m3 r hm2 hm3 hr => ?_
    obtain ⟨dn, rfl, hn, hno⟩ := hr.out
    have np := shp_page _ _ hn
    refine ⟨tags_two hno.tags, ?_⟩
    simp -dsimp only [go_sem, zp.1, zp.2.1, zp.2.2.1, yp.1, yp.2.1, yp.2.2.1, np.1, np.2.1, np.2.2.1]
    intro g5 b5 hb5
    refine xcall_p (specRedo_p _ _ x y hx hy (by omega) (by omega)) (by simp -dsimp only [go_sem, rl_still, zp.2.2.2, yp.2.2.2]) fun m4 m5 r hm4 hm5 hr => ?_
    obtain ⟨ds, rfl, hs, hso⟩ := hr.out
    have sp := shp_page _ _ hs
    refine ⟨tags_two hso.tags, ?_⟩
    simp -dsimp only [go_sem, zp.1, zp.2.1, zp.2.2.1, yp.1, yp.2.1, yp.2.2.1, np.1, np.2.1, np.2.2.1, sp.1, sp.2.1, sp.2.2.1]
    intro g7 b7 hb7
    obtain ⟨qx, rfl, hxs', hx0, hx1⟩ := id hx
    obtain ⟨qn, rfl, hns', hn0, hn1'⟩ := id hn
    obtain ⟨qy, rfl, hys', y0, y1, y2, y3, y4, y5, y6, y7, y8⟩ := id hy
    have hx0 : qx 0 = _ := hx0
    have hn0 : qn 0 = _ := hn0
    have y0 : qy 0 = _ := y0
    have y2 : qy 2 = _ := y2
    have y3 : qy 3 = _ := y3
    have y4 : qy 4 = _ := y4
    cases hok : (Md.redo x y).2 with
    | false =>
      have hfl := redo_false hok
      rw [hfl] at hn0
      simp -dsimp only [go_sem, hok, hx0, hn0, bne_self_eq_false, Bool.false_eq_true, false_imp_iff, true_and, and_true, forall_const, beq_self_eq_true]
    | true =>
      simp -dsimp only [go_sem, hok, hx0, hn0, bne_self_eq_false, Bool.false_eq_true, false_imp_iff, true_and, and_true, forall_const, beq_self_eq_true]
      have hln := hx1.1
      obtain ⟨k, R⟩ := redone hln hok
      have hz := sz_redo x y
      have hns1 : qn 1 = _ := (hn1'.2).choose_spec.1
      have hnst := (hn1'.2).choose_spec.2.1
      have hnel := (hn1'.2).choose_spec.2.2
      generalize (hn1'.2).choose = fn at hns1 hnst hnel
      have hkt := R.kt
      have hk4 := R.k4
      have hkn := R.kn
      have hsl := hnel k hkn
      rw [R.at_] at hsl
      have slp := shp_slot _ _ hsl
      have yaf := shp_slot _ _ y6
      have ybf := shp_slot _ _ y5
      have hrl := R.lsn
      refine xcall_p (redo_p _ _ (Md.redo x y).1 y hn hy (by omega) (by omega)) (by simp -dsimp only [go_sem, rl_still, np.2.2.2, yp.2.2.2]) fun m6 m7 r hm6 hm7 hr => ?_
      obtain ⟨da, rfl, ha, hao⟩ := hr.out
      have ap := shp_page _ _ ha
      refine ⟨tags_two hao.tags, ?_⟩
      rw [R.again]
      simp -dsimp only [go_sem, zp.1, zp.2.1, zp.2.2.1, yp.1, yp.2.1, yp.2.2.1, np.1, np.2.1, np.2.2.1, ap.1, ap.2.1, ap.2.2.1]
      intro g9 b9 hb9
      refine iwp_plan [(0, true), (1, true), (2, true), (3, true), (4, true), (5, true), (6, true), (7, true), (8, true), (9, true), (10, true), (11, true), (12, true), (13, true), (14, true), (15, true), (16, true), (17, false), (18, true), (19, true)] [4, 5] rfl (by decide +kernel) (by decide) [] (by decide +kernel) ?_
      have hkI : (0 : Int) ≤ (k : Int) := by omega
      have hk4I : ((k : Int) < 4) := by omega
      simp -dsimp only [go_sem, hok, hx0, hn0, hrl, y0, y4, hkt, hns1, hkI, hk4, hk4I, slp.1, slp.2.1, slp.2.2.1, yaf.1, yaf.2.1, yaf.2.2.1, bne_self_eq_false, Bool.false_eq_true, false_imp_iff, true_and, and_true, forall_const, beq_self_eq_true]
      refine xcall_v (lawSameSlot_p _ _ _ _ hsl y6) (by simp -dsimp only [go_sem, rl_still, slp.2.2.2, yaf.2.2.2]) (fun _ => trivial) fun n9 hn9 => ?_
      rw [sameS_refl]
      rcases Bool.eq_false_or_eq_true (decide ((500000 : Int) ≤ y.lsn)) with hge | hge
      · simp -dsimp only [go_sem, hge, y0, bne_self_eq_false, Bool.false_eq_true, false_imp_iff, true_and, and_true, forall_const, beq_self_eq_true]
      · have hlt : y.lsn < 500000 := by have := of_decide_eq_false hge; omega
        simp -dsimp only [go_sem, hge, y0, yp.1, yp.2.1, yp.2.2.1, bne_self_eq_false, Bool.false_eq_true, false_imp_iff, true_and, and_true, forall_const, beq_self_eq_true]
        refine xcall_p (undoOf_p _ y 500000 y.lsn hy (by omega)) (by simp -dsimp only [go_sem, rl_still, yp.2.2.2]) fun m8 m9 r hm8 hm9 hr => ?_
        obtain ⟨hu, huo⟩ := hr.out
        have up := shp_rec _ _ hu
        refine ⟨huo.tags, ?_⟩
        obtain ⟨qu, rfl, hus', u0, u1, u2, u3, u4, u5, u6, u7, u8⟩ := id hu
        have u3 : qu 3 = _ := u3
        have u7 : qu 7 = _ := u7
        simp -dsimp only [go_sem, yp.1, yp.2.1, yp.2.2.1, up.1, up.2.1, up.2.2.1, y3, u3]
        intro g11 b11 hb11
        rcases Bool.eq_false_or_eq_true (y.kind != 1) with hkd | hkd
        · have hk1 : y.kind ≠ 1 := by simpa using hkd
          simp -dsimp only [go_sem, hkd, y3, u3, undo_other hk1, bne_self_eq_false, Bool.false_eq_true, false_imp_iff, true_and, and_true, forall_const, beq_self_eq_true]
        · have hk1 : y.kind = 1 := by simpa using hkd
          have U := undone R hk1 hlt
          have hun := U.nx
          have huk := U.ok
          have hul := U.lsn
          have huz : Md.szRec (Md.undoOf y 500000 y.lsn) ≤ Md.szRec y := sz_undo y _ _
          simp -dsimp only [go_sem, hkd, y3, u3, bne_self_eq_false, Bool.false_eq_true, false_imp_iff, true_and, and_true, forall_const, beq_self_eq_true]
          refine xcall_p (redo_p _ _ (Md.redo x y).1 (Md.undoOf y 500000 y.lsn) hn hu (by omega) (by omega)) (by simp -dsimp only [go_sem, rl_still, np.2.2.2, up.2.2.2]) fun mA mB r hmA hmB hr => ?_
          obtain ⟨dm, rfl, hm, hmo⟩ := hr.out
          have mp := shp_page _ _ hm
          refine ⟨tags_two hmo.tags, ?_⟩
          obtain ⟨qm, rfl, hms', m0', m1'⟩ := id hm
          have m0' : qm 0 = _ := m0'
          have m11 : qm 1 = _ := (m1'.2).choose_spec.1
          have mst := (m1'.2).choose_spec.2.1
          have mel := (m1'.2).choose_spec.2.2
          generalize (m1'.2).choose = fm at m11 mst mel
          have hkm := U.km
          have hsm := mel k hkm
          rw [U.at_] at hsm
          have smp := shp_slot _ _ hsm
          rw [huk]
          simp -dsimp only [go_sem, mp.1, mp.2.1, mp.2.2.1, up.1, up.2.1, up.2.2.1]
          intro g12 b12 hb12
          refine iwp_plan [(0, true), (1, true), (2, true), (3, true), (4, true), (5, true), (6, true), (7, true), (8, true), (9, true), (10, false), (11, true), (12, true), (13, true), (14, true), (15, true), (16, true), (17, true), (18, true), (19, true), (20, true), (21, true), (22, true), (23, true), (24, true)] [4, 11, 12] rfl (by decide +kernel) (by decide) [] (by decide +kernel) ?_
          simp -dsimp only [go_sem, hok, y0, y4, hkt, m11, m0', hul, hkI, hk4, hk4I, smp.1, smp.2.1, smp.2.2.1, ybf.1, ybf.2.1, ybf.2.2.1, bne_self_eq_false, Bool.false_eq_true, false_imp_iff, true_and, and_true, forall_const, beq_self_eq_true]
          refine xcall_v (lawSameSlot_p _ _ _ _ hsm y5) (by simp -dsimp only [go_sem, rl_still, smp.2.2.2, ybf.2.2.2]) (fun _ => trivial) fun n10 hn10 => ?_
          rw [sameS_refl]
          simp -dsimp only [go_sem, u7, y2, hun, m0', hul, bne_self_eq_false, Bool.false_eq_true, false_imp_iff, true_and, and_true, forall_const, beq_self_eq_true]
end Go.Proofs.Ytkigfigdoaoboaa.IM
end
