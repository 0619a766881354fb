/- Several of my texts in one module (merge.py, shake.py). -/
import Derived.Test.YtncinhlaabdlaaaGreatGtB57
import Derived.Test.YtncinhlaabdlaaaGreatGtB54
import Derived.Test.YtncinhlaabdlaaaGreatGtB30
import Derived.Test.YtncinhlaabdlaaaGreatGtA6
import Derived.Test.YtncinhlaabdlaaaGreatGtB12
import Derived.Test.YtncinhlaabdlaaaGreatGtB59
import Derived.Test.YtncinhlaabdlaaaGreatGtB7
section
namespace Go.Proofs.YtncinhlaabdlaaaGreat.IM
open Go Go.Proofs
set_option linter.unusedVariables false
set_option linter.unusedSimpArgs false
set_option maxHeartbeats 2000000
set_option maxRecDepth 20000
def zSlotsD : D := .node (.arr 4 4) fun _ => zSlotD
def zPageD : D := .node (.agg [1, 16]) (nthD [.lit (.int .i64 0), zSlotsD])
def zSeatD : D := .node (.agg [1, 17, 1, 1]) (nthD [.lit (.int .i64 0), zPageD, .lit (.bool false), .lit (.bool false)])
theorem still_zSlots : zSlotsD.still := fun _ => still_zSlot
theorem isPage_z : IsPage zPageD zPage := ⟨_, rfl, stN (by simp only [stillL_nil, stillL_cons, still_lit, still_zSlots, and_self]), rfl, rfl, _, rfl, fun _ => still_zSlot, fun i hi => by
  have hi' : i < 4 := hi
  match i, hi' with
  | 0, _ => exact isSlot_z
  | 1, _ => exact isSlot_z
  | 2, _ => exact isSlot_z
  | 3, _ => exact isSlot_z⟩
theorem still_zPage : zPageD.still := (shp_page _ _ isPage_z).2.2.2
theorem isSeat_z : IsSeat zSeatD zSeat := ⟨_, rfl, stN (by simp only [stillL_nil, stillL_cons, still_lit, still_zPage, and_self]), rfl, isPage_z, rfl, rfl⟩
theorem still_zSeat : zSeatD.still := (shp_seat _ _ isSeat_z).2.2.2
theorem tl_zSeat : zSeatD.tl = [] := rfl
theorem whole_zPage : zPageD.whole := fun i hi => by
  have hi' : i < 2 := hi
  match i, hi' with
  | 0, _ => trivial
  | 1, _ => exact fun _ _ => whole_zSlot
theorem whole_zSeat : zSeatD.whole := fun i hi => by
  have hi' : i < 4 := hi
  match i, hi' with
  | 0, _ => trivial
  | 1, _ => exact whole_zPage
  | 2, _ => trivial
  | 3, _ => trivial
theorem tl_pool {q : Nat → D} {k : Nat} {F : Relab} {sd : D} {h : Int} (h0 : rl k F (q 0) = sd) (h1 : rl k F (q 1) = .lit (.int .i64 h)) : (D.node (.agg [1, 1]) fun i => rl k F (q i)).tl = sd.tl := by
  show (List.range 2).flatMap (fun i => (rl k F (q i)).tl) = _
  rw [show List.range 2 = [0, 1] from rfl]
  simp only [List.flatMap_cons, List.flatMap_nil, h0, h1, D.tl, List.append_nil]
def seatD (no : Int) (pg : D) (dirty hot : Bool) : D := .node (.agg [1, 17, 1, 1]) (nthD [.lit (.int .i64 no), pg, .lit (.bool dirty), .lit (.bool hot)])
theorem isSeat_new {no : Int} {pg : D} {y : Md.Page} {dirty hot : Bool} (h : IsPage pg y) : IsSeat (seatD no pg dirty hot) ⟨no, y, dirty, hot⟩ :=
  ⟨_, rfl, stN (by simp only [stillL_nil, stillL_cons, still_lit, (shp_page _ _ h).2.2.2, and_self]), rfl, h, rfl, rfl⟩
theorem own_seat {no : Int} {pg : D} {dirty hot : Bool} {lo hi : Nat} (h : Own lo hi pg) : Own lo hi (seatD no pg dirty hot) := by
  have e : (seatD no pg dirty hot).tl = pg.tl := by
    show (List.range 4).flatMap (fun i => (nthD [.lit (.int .i64 no), pg, .lit (.bool dirty), .lit (.bool hot)] i).tl) = _
    rw [show List.range 4 = [0, 1, 2, 3] from rfl]
    simp only [List.flatMap_cons, List.flatMap_nil, nthD, D.tl, List.append_nil, List.nil_append]
  refine ⟨fun t ht => h.rg t (e ▸ ht), e ▸ h.nd, fun i hi => ?_⟩
  have hi' : i < 4 := hi
  match i, hi' with
  | 0, _ => trivial
  | 1, _ => exact h.wh
  | 2, _ => trivial
  | 3, _ => trivial
def seatU (no : Int) (pg : D) (hot : Bool) : D := .node (.agg [1, 17, 1, 1]) (upd (upd (upd (nthD [.lit (.int .i64 0), zPageD, .lit (.bool false), .lit (.bool false)]) 0 (.lit (.int .i64 no))) 1 pg) 3 (.lit (.bool hot)))
theorem seatU_eq (no : Int) (pg : D) (hot : Bool) : seatU no pg hot = seatD no pg false hot := by
  unfold seatU seatD
  congr 1
  funext j
  match j with
  | 0 => rfl
  | 1 => rfl
  | 2 => rfl
  | 3 => rfl
  | j + 4 => rfl
theorem isSeat_U {no : Int} {pg : D} {y : Md.Page} (h : IsPage pg y) : IsSeat (seatU no pg true) (newSeat no y) := by rw [seatU_eq]; exact isSeat_new h
theorem own_seatU {no : Int} {pg : D} {lo hi : Nat} (h : Own lo hi pg) : Own lo hi (seatU no pg true) := by rw [seatU_eq]; exact own_seat h
def BringR (x : Md.Pool) (no : Int) (y : Md.Page) (n0 n1 : Nat) (r : D) : Prop := Three (fun a b => IsPool a (bring x no y).1 ∧ IsSeat b (bring x no y).2.1 ∧ Own2 n0 n1 a b) (.lit (.bool (bring x no y).2.2)) r
theorem br_no {x : Md.Pool} {no : Int} {y : Md.Page} {n0 n1 lo hi : Nat} {a b c : D} (hb : brOk x no y = false) (h : IsPool a x) (ho : Own lo hi a) (h1 : n0 ≤ lo) (h2 : hi ≤ n1) (eb : b = zSeatD) (ec : c = .lit (.bool false)) : BringR x no y n0 n1 (.tup 3 (nthD [a, b, c])) := by
  subst eb; subst ec
  unfold BringR
  rw [bring_no hb]
  exact .mk _ _ ⟨h, isSeat_z, Own2.plain (ho.mono h1 h2) tl_zSeat whole_zSeat⟩
theorem br_yes {x : Md.Pool} {no : Int} {y : Md.Page} {n0 n1 lo hi : Nat} {a b c : D} (hb : brOk x no y = true) (h : IsPool a (bringDo x no y).1) (hs : IsSeat b (bringDo x no y).2.1) (ho : Own2 lo hi a b) (h1 : n0 ≤ lo) (h2 : hi ≤ n1) (ec : c = .lit (.bool (bringDo x no y).2.2)) : BringR x no y n0 n1 (.tup 3 (nthD [a, b, c])) := by
  subst ec
  unfold BringR
  rw [bring_yes hb]
  exact .mk _ _ ⟨h, hs, ho.mono h1 h2⟩
theorem conv_tup {W : Nat → Prop} {K : St → Prop} {N n t m sz l dst : Nat} {kd : Kd} {f p s : Nat → D} {v : Value} {R R' : Roots} (keep : List Nat)
    (hW : W t) (hl : R l = none) (hf : ∀ i, i < m → (f i).free t) (i0 : Nat) (hi0 : i0 < kd.cnt) (hp : p i0 = .sl t true m sz f) (hpf : ∀ i, i < kd.cnt → i ≠ i0 → (p i).free t)
    (hs : ∀ j ∈ keep, (s j).free t) (hR : ∀ l' g b x, R' l' = some (g, b, x) → R l' = some (g, b, x) ∧ x.plain ∧ x.free t)
    (hk : ∀ g, K ⟨N, n, upd (pickS s keep fun _ => .any) dst (.tup 2 (nthD [.node kd (upd p i0 (.msl l g 0 [] 0 m sz)), .lit v])), upd R' l (some (g, t, .node (.arr m sz) f))⟩) :
    Conv W K ((St.mk N n s R).put (some dst) (.tup 2 (nthD [.node kd p, .lit v]))) := by
  refine Conv.one ⟨t, m, sz, f, l, hW, hl, hf, ⟨dst, ?_⟩, fun g => ⟨_, _, fun j => ?_, fun l' => ?_, hk g⟩⟩
  · show Has _ (upd s dst _ dst)
    rw [upd_same]
    exact .tup _ _ 0 (by decide) (.node _ _ i0 hi0 (has_eq hp))
  · show Thaw t m sz f l g (upd s dst _ j) _
    by_cases hj : j = dst
    · subst hj; rw [upd_same, upd_same]
      refine .tup _ _ _ fun i hi => ?_
      match i, hi with
      | 0, _ => exact thaw_upd (thaw_eq hp) hpf
      | 1, _ => exact .free _ trivial
    · rw [upd_ne _ _ hj, upd_ne _ _ hj]; exact thaw_pick hs j
  · by_cases hll : l' = l
    · subst hll; exact .inr (.inl ⟨rfl, upd_same _ _ _⟩)
    · rw [upd_ne _ _ hll]
      cases hx : R' l' with
      | none => exact .inl rfl
      | some y =>
        obtain ⟨g0, b, x⟩ := y
        obtain ⟨h1, h2, h3⟩ := hR _ _ _ _ hx
        exact .inr (.inr ⟨hll, g0, b, x, x, h1, rfl, h2, .free _ h3⟩)
theorem Fill.wide {α : Type} {R : D → α → Prop} {sz lo lo' hi hi' : Nat} {xs : List α} {n i : Nat} {f : Nat → D} (h : Fill R sz lo hi xs n i f) (h1 : lo' ≤ lo) (h2 : hi ≤ hi') : Fill R sz lo' hi' xs n i f := ⟨h.st, h.sh, h.ok, h.own.mono h1 h2⟩
theorem br_end3 {x : Md.Pool} {no : Int} {y : Md.Page} {n0 n1 k : Nat} {F : Relab} {qq : Nat → D} {sd a a' c : D} {ss : List Md.Seat} {hd : Int} (hb : brOk x no y = true)
    (e0 : rl k F (qq 0) = sd) (e1 : rl k F (qq 1) = .lit (.int .i64 hd)) (hqq : ∀ j, (qq j).still ∨ j = 0) (hP : (bringDo x no y).1 = ⟨ss, hd⟩) (hL : IsL 20 IsSeat sd ss) (hA : IsSeat a (bringDo x no y).2.1)
    (hO : Own2 n0 n1 sd a) (ea : a' = a) (ec : c = .lit (.bool (bringDo x no y).2.2)) : BringR x no y n0 n1 (.tup 3 (nthD [.node (.agg [1, 1]) fun i => rl k F (qq i), a', c])) := by
  subst ea
  have hg := (grow_fin (x := ⟨ss, hd⟩) (n0 := n0) (n1 := n1) e0 e1 hqq hL hO.oa).out
  have htl := tl_pool e0 e1
  exact br_yes hb (by rw [hP]; exact hg.1) hA ⟨hg.2, hO.ob, fun t h1 => hO.ap t (htl ▸ h1)⟩ (Nat.le_refl _) (Nat.le_refl _) ec
theorem bring_p (d d2 : D) (x : Md.Pool) (no : Int) (y : Md.Page) (h : IsPool d x) (h2 : IsPage d2 y) (hs : Md.szPool x ≤ 1048576) (hs2 : Md.szPage y ≤ 1048576) (hd : d.data) (hd2 : d2.data) :
    PCall Tryz.prog 200 [d, .lit (.int .i64 no), d2] (BringR x no y) := by
  have hp := h
  have hp2 := h2
  have eq := shp_pool _ _ h
  have eq2 := shp_page _ _ h2
  have e1 := eq.1
  have e2 := eq.2.1
  have e3 := eq.2.2.1
  have e4 := eq.2.2.2
  have y1 := eq2.1
  have y2 := eq2.2.1
  have y3 := eq2.2.2.1
  have y4 := eq2.2.2.2
  obtain ⟨f0, rfl, hst, a0, a1⟩ := h
  have k1 : f0 1 = _ := a1
  refine pcall_intro_t Tryz.func200 rfl (by decide) rfl (by decide) (by rw [Tryz.ntmps200]; simp) fun w0 M n0 hW hT => ivc_sound ?_; simp -dsimp only [Tryz.f200, go_sem, e1, e2, e3, y1, y2, y3, k1, a0.size, a0.isNode, a0.plain, a0.lenT]
  have dT2 : d2.tags (· < n0) := hT _ (by simp) hd2
  have dT : (D.node (.agg [1, 1]) f0).tags (· < n0) := hT _ (by simp) hd
  intro g1 b1 hb1 g2 b2 hb2 g3 b3 hb3 g4 b4 hb4
  repeat' (first
    | (refine xcall_v (poolOk_p _ _ hp) ?_ (fun _ => trivial) (fun _ _ => ?_); (focus (simp -dsimp only [go_sem, rl_still, e4, e1, e2, e3, y1, y2, y3, k1, a0.size, a0.isNode, a0.plain, a0.lenT]; first | done | rfl)); simp -dsimp only [go_sem, e1, e2, e3, y1, y2, y3, k1, a0.size, a0.isNode, a0.plain, a0.lenT])
    | (refine xcall_v (in_p no 0 7) ?_ (fun _ => trivial) (fun _ _ => ?_); (focus (simp -dsimp only [go_sem, rl_still, e1, e2, e3, y1, y2, y3, k1, a0.size, a0.isNode, a0.plain, a0.lenT]; first | done | rfl)); simp -dsimp only [go_sem, e1, e2, e3, y1, y2, y3, k1, a0.size, a0.isNode, a0.plain, a0.lenT])
    | (refine xcall_v (pageOk_p _ _ hp2) ?_ (fun _ => trivial) (fun _ _ => ?_); (focus (simp -dsimp only [go_sem, rl_still, y4, e1, e2, e3, y1, y2, y3, k1, a0.size, a0.isNode, a0.plain, a0.lenT]; first | done | rfl)); simp -dsimp only [go_sem, e1, e2, e3, y1, y2, y3, k1, a0.size, a0.isNode, a0.plain, a0.lenT])
    | (refine xcall_v (seated_p _ _ no hp) ?_ (fun _ => trivial) (fun _ _ => ?_); (focus (simp -dsimp only [go_sem, rl_still, e4, e1, e2, e3, y1, y2, y3, k1, a0.size, a0.isNode, a0.plain, a0.lenT]; first | done | rfl)); simp -dsimp only [go_sem, e1, e2, e3, y1, y2, y3, k1, a0.size, a0.isNode, a0.plain, a0.lenT])
    | refine ⟨?_, ?_⟩ | with_reducible intro _)
  all_goals try
      (refine xcall_p (clonePool_p _ _ hp hs) (by simp -dsimp only [go_sem, rl_still, e4]) fun m0 p0 r0 hm0 hp0 hr0w => ?_
       have hr0 := hr0w.out
       have rq := shp_pool _ _ hr0.1
       refine ⟨hr0.2.tags, ?_⟩
       simp -dsimp only [go_sem, e1, e2, e3, y1, y2, y3, k1, a0.size, a0.isNode, a0.plain, a0.lenT, rq.1, rq.2.1, rq.2.2.1]
       intro n1 hn1 hfc
       rw [rl_still rq.2.2.2]
       have hm0' := hm0
       try dsimp only at hm0'
       refine br_no (lo := m0) (hi := p0) ?_ hr0.1 hr0.2 (by omega) (by omega) (rl_still (d := zSeatD) still_zSeat) rfl
       simp_all [brOk]; done)
  rename_i x1 h1 t1 x2 h2' t2 x3 h3' t3 x4 h4' t4
  have hpo : Md.poolOk x = true := by simpa using t1
  have hneg : Md.seated x no < 0 := by simpa using t4
  have hbr : brOk x no y = true := by simp_all [brOk]
  have hh := poolOk_hand hpo
  refine xcall_p (clonePage_p _ _ hp2 hs2) (by simp -dsimp only [go_sem, rl_still, y4]) fun m0 p0 r0 hm0 hp0 hr0 => ?_
  have hm0' : x4 ≤ m0 := hm0
  have rq := shp_page _ _ hr0.1
  refine ⟨hr0.2.tags, ?_⟩
  have hU := isSeat_U (no := no) hr0.1
  have hUo := own_seatU (no := no) hr0.2
  have hUp := shp_seat _ _ hU
  simp -dsimp only [go_sem, e1, e2, e3, y1, y2, y3, k1, a0.size, a0.isNode, a0.plain, a0.lenT, rq.1, rq.2.1, rq.2.2.1]
  intro g9 b9 hb9
  by_cases h3 : x.seats.length < 3
  · have h3i : ((x.seats.length : Int) < 3) := by omega
    simp -dsimp only [go_sem, h3i, e1, e2, e3, y1, y2, y3, k1, a0.size, a0.isNode, a0.plain, a0.lenT, rq.1, rq.2.1, rq.2.2.1, hUp.1, hUp.2.1, hUp.2.2.1]
    refine xcall_t (clonePool_p _ _ hp hs) (by simp -dsimp only [go_sem, rl_still, e4]) fun m1 p1 r1 hm1 hp1 hr1w => ?_
    have hr1 := hr1w.out
    have hm1' : b9 + 1 ≤ m1 := hm1
    refine ⟨hr1.2.tags, ?_⟩
    have ho := hr1.2
    obtain ⟨q, rfl, hqs, hq0, q1⟩ := hr1.1
    have q1 : q 1 = _ := q1
    rcases hq0 with ⟨q0, hnil⟩ | ⟨t, zb, f, q0, hfs, hfl, hf⟩
    · refine Conv.zero ?_
      simp -dsimp only [go_sem, h3i, e1, e2, e3, y1, y2, y3, k1, a0.size, a0.isNode, a0.plain, a0.lenT, rq.1, rq.2.1, rq.2.2.1, hUp.1, hUp.2.1, hUp.2.2.1, q0, q1]
      intro g10 b10 hb10 g11 b11 hb11
      have hb11' : b10 + 1 ≤ b11 := hb11
      refine ⟨fun y h => h.symm, fun g12 b12 n' hn' hb12 hb13 n1 hn1 hfc => ?_⟩
      rw [rl_node]
      have hF : Fill IsSeat 20 m0 p0 [newSeat no y] 1 1 (upd (fun _ => zSeatD) 0 (seatU no r0 true)) := Fill.one (xs := [newSeat no y]) (fun _ => still_zSeat) shp_seat (Nat.lt_succ_self 0) hU hUo (Nat.le_refl _) (Nat.le_refl _) (by omega)
      have hL := hF.isLs (b := b12) (n1 := n1) rfl (by decide) (by omega) hfc.here.1 (by omega) hfc.here.2
      refine br_end3 (sd := .sl b12 true 1 20 (upd (fun _ => zSeatD) 0 (seatU no r0 true))) (a := zSeatD) (hd := x.hand) hbr ?_ ?_ (gs_upd fun j => .inl (hqs j)) (by rw [bringDo_app h3, hnil]; rfl) hL.1 (by rw [bringDo_app h3]; exact isSeat_z) (Own2.plain (hL.2.1.mono (by omega) (by omega)) tl_zSeat whole_zSeat) (rl_still (d := zSeatD) still_zSeat) (by rw [bringDo_app h3])
      · simp -dsimp only [go_sem, q0]
        exact congrArg (D.sl b12 true 1 20) (rls_still hL.2.2)
      · simp -dsimp only [go_sem, q1, rl_lit]
    · have hoS : Own m1 p1 (.sl t zb x.seats.length 20 f) := by
        have := ho.node.own (i := 0) (by decide)
        rw [q0] at this
        exact this
      obtain rfl : zb = true := hoS.wh.1
      have ht := hoS.rg t (by simp [D.tl])
      have hdf : (D.node (.agg [1, 1]) f0).free t := free_of_tags (m := n0) (by omega) dT
      have hdf2 : d2.free t := free_of_tags (m := n0) (by omega) dT2
      have hUf : (seatU no r0 true).free t := free_nil hUo.wh fun hx => by have := hUo.rg _ hx; omega
      have hZf : zSeatD.free t := free_nil whole_zSeat (by rw [tl_zSeat]; simp)
      have hPf : (D.node (.agg [1, 1]) (nthD [.nil, .lit (.int .i64 0)])).free t := free_of_tags (m := 0) (Nat.zero_le _) zlog_tags
      refine conv_field (l := 1000) [3, 5, 6, 7, 8, 9] (hW t (by omega)) (by simp -dsimp only [go_sem]) (own_free hoS) 0 (by decide) q0 (fun i hi hne => ?_) (fun j hj => ?_) (fun l' g b z hz => ⟨hz, (((((OkR.none t).upd e3 hdf).upd y3 hdf2).upd (plain_node _ _) hPf).upd (show zSeatD.plain from trivial) hZf).upd (show (seatU no r0 true).plain from trivial) hUf _ _ _ _ hz⟩) fun g => ?_
      · have : i = 1 := by have : i < 2 := hi; omega
        subst this; rw [q1]; trivial
      · simp only [List.mem_cons, List.not_mem_nil, or_false] at hj
        rcases hj with rfl | rfl | rfl | rfl | rfl | rfl
        all_goals first | exact free_ptr t _ _ _ _ | exact free_lit t _
      simp -dsimp only [go_sem, h3i, e1, e2, e3, y1, y2, y3, k1, a0.size, a0.isNode, a0.plain, a0.lenT, rq.1, rq.2.1, rq.2.2.1, hUp.1, hUp.2.1, hUp.2.2.1, q0, q1]
      intro g10 b10 hb10 g11 b11 hb11
      have hb11' : b10 + 1 ≤ b11 := hb11
      have hb10' : p1 ≤ b10 := hb10
      refine ⟨fun y h => h.symm, by omega, by omega, fun g12 b12 n' hn' hb12 hb13 n1 hn1 hfc => ?_⟩
      have hb14 : n0 ≤ b12 := by rcases hb13 with h | h <;> omega
      rw [rl_node]
      have hF := Fill.catA ((fill_snoc (x := newSeat no y) shp_seat hfs hf hoS).wide (lo' := m0) (by omega) (Nat.le_refl _)) (z := fun _ => zSeatD) (fun _ => still_zSeat) shp_seat (by simp) (by rw [snoc_get]; exact hU) (hUo.mono (Nat.le_refl _) (by omega)) (fun j hj b hb hx => by have := hoS.sl.1.rg j hj b hb; have := hUo.rg b hx; omega)
      have hL := hF.isLs (b := b12) (n1 := n1) (by simp) (by omega) (by rcases hb13 with h | h <;> omega) hfc.here.1 (by omega) hfc.here.2
      refine br_end3 (sd := .sl b12 true (x.seats.length + 1) 20 (catD x.seats.length f (upd (fun _ => zSeatD) 0 (seatU no r0 true)))) (a := zSeatD) (hd := x.hand) hbr ?_ ?_ (gs_upd fun j => .inl (hqs j)) (by rw [bringDo_app h3]) hL.1 (by rw [bringDo_app h3]; exact isSeat_z) (Own2.plain (hL.2.1.mono (by omega) (by omega)) tl_zSeat whole_zSeat) (rl_still (d := zSeatD) still_zSeat) (by rw [bringDo_app h3])
      · simp -dsimp only [go_sem, q0]
        exact congrArg (D.sl b12 true (x.seats.length + 1) 20) (rls_still hL.2.2)
      · simp -dsimp only [go_sem, q1, rl_lit]
  · have h3i : ¬ ((x.seats.length : Int) < 3) := by omega
    simp -dsimp only [go_sem, h3i, e1, e2, e3, y1, y2, y3, k1, a0.size, a0.isNode, a0.plain, a0.lenT, rq.1, rq.2.1, rq.2.2.1]
    have h33 : x.seats.length = 3 := by omega
    have hyes : victim x = vicGo 3 x := victim_yes (by unfold vicOk; rw [hpo, h33]; rfl)
    have hvp := victim_p _ _ hp hs hd
    rw [hyes] at hvp
    refine xcall_t hvp (by simp -dsimp only [go_sem, rl_still, e4]) fun m1 p1 r1 hm1 hp1 hr1w => ?_
    obtain ⟨r1, rfl, hr1⟩ := hr1w.out
    have hm1' : b9 + 1 ≤ m1 := hm1
    refine ⟨tags_two hr1.2.tags, ?_⟩
    have ho := hr1.2
    have vk := vicGo_rg 3 x hh.1 hh.2.1
    have vl := vicGo_lenP hh.1 hh.2.1
    obtain ⟨q, rfl, hqs, hq0, q1⟩ := hr1.1
    have q1 : q 1 = _ := q1
    obtain ⟨t, zb, f, q0, hfs, hf⟩ := hq0.sl (i := 0) (by omega)
    have hoS : Own m1 p1 (.sl t zb (vicGo 3 x).1.seats.length 20 f) := by
      have := ho.node.own (i := 0) (by decide)
      rw [q0] at this
      exact this
    obtain rfl : zb = true := hoS.wh.1
    have ht := hoS.rg t (by simp [D.tl])
    have hkl : (vicGo 3 x).2.toNat < (vicGo 3 x).1.seats.length := by omega
    have hh0 := vk.1
    have hh1 : (vicGo 3 x).2 < ((vicGo 3 x).1.seats.length : Int) := by omega
    have hse := hf _ hkl
    have sp := shp_seat _ _ hse
    have hdf : (D.node (.agg [1, 1]) f0).free t := free_of_tags (m := n0) (by omega) dT
    have hdf2 : d2.free t := free_of_tags (m := n0) (by omega) dT2
    have hUf : (seatU no r0 true).free t := free_nil hUo.wh fun hx => by have := hUo.rg _ hx; omega
    have hZf : zSeatD.free t := free_nil whole_zSeat (by rw [tl_zSeat]; simp)
    have hPf : (D.node (.agg [1, 1]) (nthD [.nil, .lit (.int .i64 0)])).free t := free_of_tags (m := 0) (Nat.zero_le _) zlog_tags
    refine conv_tup (l := 1000) [3, 5, 6, 7, 8, 9] (hW t (by omega)) (by simp -dsimp only [go_sem]) (own_free hoS) 0 (by decide) q0 (fun i hi hne => ?_) (fun j hj => ?_) (fun l' g b z hz => ⟨hz, (((((OkR.none t).upd e3 hdf).upd y3 hdf2).upd (plain_node _ _) hPf).upd (show zSeatD.plain from trivial) hZf).upd (show (seatU no r0 true).plain from trivial) hUf _ _ _ _ hz⟩) fun g => ?_
    · have : i = 1 := by have : i < 2 := hi; omega
      subst this; rw [q1]; trivial
    · simp only [List.mem_cons, List.not_mem_nil, or_false] at hj
      rcases hj with rfl | rfl | rfl | rfl | rfl | rfl
      all_goals first | exact free_ptr t _ _ _ _ | exact free_lit t _
    simp -dsimp only [go_sem, h3i, e1, e2, e3, y1, y2, y3, k1, a0.size, a0.isNode, a0.plain, a0.lenT, rq.1, rq.2.1, rq.2.2.1, hUp.1, hUp.2.1, hUp.2.2.1, q1, hh0, hh1, hkl, sp.1, sp.2.1, sp.2.2.1]
    intro g11 b11 hb11 g13 b13 hb13
    have hb11' : p1 ≤ b11 := hb11
    have hb13' : b11 + 1 ≤ b13 := hb13
    refine iwp_plan [(0, true), (1, true), (2, false), (3, false), (4, true)] [11, 13] rfl (by decide +kernel) (by decide) [] (by decide +kernel) ?_
    simp -dsimp only [go_sem, h3i, e1, e2, e3, y1, y2, y3, k1, a0.size, a0.isNode, a0.plain, a0.lenT, rq.1, rq.2.1, rq.2.2.1, hUp.1, hUp.2.1, hUp.2.2.1, q1, hh0, hh1, hkl, sp.1, sp.2.1, sp.2.2.1]
    intro n1 hn1 hfc
    have hsw := own_swapA (hoS.mono (by omega : m0 ≤ m1) (Nat.le_refl _)) (hUo.mono (Nat.le_refl _) (by omega)) (fun b hb hx => by have := hUo.rg b hb; have := hoS.rg b hx; omega) hkl
    have hst2 : ∀ j, (upd f (vicGo 3 x).2.toNat (seatU no r0 true) j).still := still_upd hfs hUp.2.2.2
    have hge : (vicGo 3 x).1.seats[(vicGo 3 x).2.toNat]? = some ((vicGo 3 x).1.seats[(vicGo 3 x).2.toNat]) := List.getElem?_eq_getElem hkl
    rw [rl_node]
    refine br_end3 (sd := .sl t true (vicGo 3 x).1.seats.length 20 (upd f (vicGo 3 x).2.toNat (seatU no r0 true))) (a := f (vicGo 3 x).2.toNat) (hd := (vicGo 3 x).1.hand) hbr ?_ ?_ (gs_upd fun j => .inl (hqs j)) (by rw [bringDo_vic h3]) (isL_set hfs hUp.2.2.2 hf hU (by omega)) (by rw [bringDo_vic h3, hge]; exact hse) (hsw.mono (by omega) (by omega)) (rl_still sp.2.2.2) (by rw [bringDo_vic h3])
    · simp -dsimp only [go_sem, q0]
      exact congrArg (D.sl t true (vicGo 3 x).1.seats.length 20) (rls_still hst2)
    · simp -dsimp only [go_sem, q1, rl_lit]
theorem szObj_ok {o : Md.Obj} (h : Md.objOk o = true) : Md.szObj o ≤ 10 := by
  simp only [Md.objOk, Bool.and_eq_true, decide_eq_true_eq] at h
  unfold Md.szObj; omega
theorem szSlot_ok {s : Md.Slot} (h : Md.slotOk s = true) : Md.szSlot s ≤ 10 := by
  unfold Md.slotOk at h
  unfold Md.szSlot
  by_cases hs : s.has = true
  · rw [if_pos hs] at h; exact szObj_ok h
  · rw [if_neg hs] at h
    simp only [Md.noObj, Bool.and_eq_true, beq_iff_eq] at h
    unfold Md.szObj; omega
theorem sumBy_bd {α : Type} (f : α → Nat) (B : Nat) : ∀ (l : List α), (∀ s ∈ l, f s ≤ B) → Md.sumBy f l ≤ l.length * B
  | [], _ => by simp [Md.sumBy]
  | a :: l, h => by
    have h1 := h a (by simp)
    have h2 := sumBy_bd f B l fun s hs => h s (by simp [hs])
    have h3 : Md.sumBy f (a :: l) = f a + Md.sumBy f l := by simp [Md.sumBy]
    rw [h3, List.length_cons, Nat.succ_mul]; omega
theorem szPage_ok {d : D} {p : Md.Page} (hd : IsPage d p) (h : Md.pageOk p = true) : Md.szPage p ≤ 40 := by
  obtain ⟨f, _, _, _, h4, _⟩ := hd
  simp only [Md.pageOk, Md.slotsOk, Bool.and_eq_true, List.all_eq_true] at h
  have := sumBy_bd Md.szSlot 10 p.slots fun s hs => szSlot_ok (h.2 s hs)
  rw [h4] at this
  exact this
theorem szPool_ok {d : D} {p : Md.Pool} (hd : IsPool d p) (h : Md.poolOk p = true) : Md.szPool p ≤ 200 := by
  obtain ⟨f, _, _, h4, _⟩ := hd
  have hp := poolOk_iff.1 h
  have := sumBy_bd Md.szSeat 40 p.seats fun s hs => by
    obtain ⟨i, hi, rfl⟩ := List.getElem_of_mem hs
    rcases h4 with ⟨_, hnil⟩ | ⟨_, _, g, _, _, _, hg⟩
    · rw [hnil] at hi; exact absurd hi (by simp)
    · obtain ⟨u, _, _, _, u1, _⟩ := hg i hi
      exact szPage_ok u1 (hp.2.2.2.1 i hi).2.2
  have h5 : p.seats.length * 40 ≤ 3 * 40 := Nat.mul_le_mul_right _ hp.1
  unfold Md.szPool Md.szSeats; omega
theorem EngF.dk {q : Nat → D} {x : Md.Engine} (h : EngF q x) : ∃ fd, q 0 = .node (.arr 8 17) fd ∧ x.disk.length = 8 ∧ (∀ i, (fd i).still) ∧ ∀ i (hi : i < x.disk.length), IsPage (fd i) x.disk[i] := by
  obtain ⟨hl, fd, e, hst, hr⟩ := h.q0
  exact ⟨fd, e, hl, hst, hr⟩
theorem Own.repd {lo hi i : Nat} {k : Kd} {f : Nat → D} {r : D} (h : Own lo hi (.node k f)) (hr : Own lo hi r) (hd : ∀ j, j < k.cnt → j ≠ i → ∀ t ∈ r.tl, t ∉ (f j).tl) : Own lo hi (.node k (upd f i r)) := by
  have hN := h.node
  refine own_node ⟨fun j hj t ht => ?_, fun j hj => ?_, fun a b hab hb t ht ht' => ?_, fun j hj => ?_⟩
  · by_cases e : j = i
    · subst e; rw [upd_same] at ht; exact hr.rg t ht
    · rw [upd_ne _ _ e] at ht; exact hN.rg j hj t ht
  · by_cases e : j = i
    · subst e; rw [upd_same]; exact hr.nd
    · rw [upd_ne _ _ e]; exact hN.nd j hj
  · by_cases e : a = i
    · subst e
      rw [upd_same] at ht; rw [upd_ne _ _ (by omega)] at ht'
      exact hd b hb (by omega) t ht ht'
    · rw [upd_ne _ _ e] at ht
      by_cases e2 : b = i
      · subst e2; rw [upd_same] at ht'; exact hd a (by omega) e t ht' ht
      · rw [upd_ne _ _ e2] at ht'; exact hN.dj a b hab hb t ht ht'
  · by_cases e : j = i
    · subst e; rw [upd_same]; exact hr.wh
    · rw [upd_ne _ _ e]; exact hN.wh j hj
theorem disk_put {lo n0 n2 nn m3 : Nat} {q G : Nat → D} {P S D' : D} (ho : Own lo n0 (.node engK q)) (hO : Own2 n2 nn P S) (hn : n0 ≤ n2) (hG : ∀ j, j < 7 → j ≠ 0 → ∀ t ∈ (G j).tl, t ∈ (q j).tl ∨ t ∈ P.tl) (hD : ∀ t ∈ D'.tl, t ∈ (q 0).tl ∨ t ∈ S.tl)
    (oG : Own lo m3 (.node engK G)) (oD : Own lo m3 D') : Own lo m3 (.node engK (upd G 0 D')) :=
  oG.repd oD fun j hj hne t ht hx => by
    have hj7 : j < 7 := hj
    rcases hD t ht with h1 | h1 <;> rcases hG j hj7 hne t hx with h2 | h2
    · exact ho.node.dj 0 j (by omega) hj t h1 h2
    · have := ho.node.rg 0 (by decide) t h1; have := hO.oa.rg t h2; omega
    · have := ho.node.rg j hj t h2; have := hO.ob.rg t h1; omega
    · exact hO.ap t h2 h1
def FetQ (q : Nat → D) (x : Md.Engine) (no : Int) (lo n0 n1 : Nat) (d' v : D) : Prop :=
  v = .lit (.int .i64 (Md.seated (fetchE x no).pool no)) ∧ Eng (min lo n0) n1 n0 (.node engK q) d' (fetchE x no)
theorem fet_end {q G : Nat → D} {x y : Md.Engine} {no : Int} {lo n0 n1 : Nat} {v : D} {F : Relab} (he : fetchE x no = y) (E : EngF G y) (P : Put (min lo n0) n1 n0 (.node engK q) (.node engK G)) (hv : v = .lit (.int .i64 (Md.seated y.pool no))) :
    BEnd (FetQ q x no lo) (.node engK q) n0 n1 (rl 9 F (.node engK G)) v := by
  rw [rlnode_still E.st]
  refine Eng.fin ⟨E.is, P⟩ ⟨by rw [he]; exact hv, by rw [he]; exact ⟨E.is, P⟩⟩ ?_
  rw [hv]; trivial
theorem fetch_b (q : Nat → D) (x : Md.Engine) (k : Nat) (n : Int) (lo hi : Nat) (h : EngF q x) (ho : Own lo hi (.node engK q)) (hF : FOk n x) (hk7 : k ≤ 7) (hl : x.log.recs.length ≤ 2097152) :
    BCall Tryz.prog 137 .nil (.node engK q) [.lit (.int .i64 k)] (FetQ q x k lo) := by
  have q1 := shp_pool _ _ h.q1
  have hsz := szPool_ok h.q1 hF.pool
  refine bcall_intro Tryz.func137 rfl (by decide) rfl (by decide) (by rw [Tryz.ntmps137]; simp) fun w0 M n0 gb hW hS hT hgb => ivc_sound ?_; simp -dsimp only [Tryz.f137, go_sem, h.all, q1.1, q1.2.1, q1.2.2.1]
  have ho' := own_lt ho (hT _ (List.mem_cons_self ..) (whole_data ho.wh))
  refine xcall_v (seated_p _ x.pool k h.q1) (by simp -dsimp only [go_sem, rl_still, q1.2.2.2, rl_lit]) (fun _ => trivial) fun n2 hn2 => ?_
  by_cases hs : 0 ≤ Md.seated x.pool k
  · simp -dsimp only [go_sem, h.all, q1.1, q1.2.1, q1.2.2.1, hs]
    refine xcall_p (used_p _ x.pool k h.q1 (by omega) h.q1.data) (by simp -dsimp only [go_sem, rl_still, q1.2.2.2, rl_lit]) fun m0 p0 r0 hm0 hp0 hr0w => ?_
    have hr0 := hr0w.out
    have rp := shp_pool _ _ hr0.1
    refine ⟨hr0.2.tags, ?_⟩
    simp -dsimp only [go_sem, h.all, q1.1, q1.2.1, q1.2.2.1, hs, rp.1, rp.2.1, rp.2.2.1]
    refine xcall_v (seated_p _ (used x.pool k) k hr0.1) (by simp -dsimp only [go_sem, rl_still, rp.2.2.2, rl_lit]) (fun _ => trivial) fun n3 hn3 => ?_
    simp -dsimp only [go_sem, h.all, q1.1, q1.2.1, q1.2.2.1, hs, rp.1, rp.2.1, rp.2.2.1]
    have hm0' : n2 ≤ m0 := hm0
    have hn3' : p0 ≤ n3 := hn3
    refine ⟨_, rfl, fun n1 hn1 hfc => ?_⟩
    have hn1' : n3 ≤ n1 := hn1
    exact fet_end (by unfold fetchE; rw [if_pos hs]) (h.pool hr0.1) ((Put.refl (m := n0) ho' (Nat.le_refl _)).step (i := 1) (by decide) (hr0.2.mono (Nat.le_refl _) (by omega : p0 ≤ n1)) (by omega) (by omega) (by omega) (by omega)) (by simp -dsimp only [go_sem])
  · obtain ⟨fd, hd0, hdl, hdst, hdf⟩ := h.dk
    have hk8 : k < 8 := by omega
    have hk8i : (k : Int) < 8 := by omega
    have hkd : k < x.disk.length := by omega
    have hy := hdf k hkd
    have yp := shp_page _ _ hy
    have hyo := (hF.dok k hkd).1
    have hsy := szPage_ok hy hyo
    have hbr : brOk x.pool k x.disk[k] = true := by
      unfold brOk
      rw [hF.pool, hyo, (inB_iff _ _ _).2 ⟨by omega, by omega⟩]; simpa using by omega
    have hdk : diskAt x k = x.disk[k] := by unfold diskAt; exact getD_at hkd
    have hfe : fetchE x k = broughtE x (bring x.pool k x.disk[k]) := by unfold fetchE; rw [if_neg hs, hdk, bring_yes hbr]
    have hB := brought hF.pool (by omega) (by omega) hyo (by omega : Md.seated x.pool k < 0)
    rw [← bring_yes hbr] at hB
    simp -dsimp only [go_sem, h.all, q1.1, q1.2.1, q1.2.2.1, hs]
    refine iwp_planT (.early 0 (.early 1 (.early 2 (.early 3 (.early 4 (.early 5 (.early 6 (.early 7 (.early 8 (.early 9 (.early 10 (.fork3 11 (.early 12 (.early 13 (.early 14 (.early 15 (.fork 16 (.late 17 (.late 18 (.late 19 (.early 20 .done)))) 17 (.late 16 (.late 18 (.late 19 (.early 20 .done))))))))) 16 (.fork 11 (.early 12 (.early 13 (.early 14 (.early 15 (.late 17 (.late 18 (.late 19 (.early 20 .done)))))))) 17 (.late 11 (.early 12 (.early 13 (.early 14 (.early 15 (.late 18 (.late 19 (.early 20 .done))))))))) 17 (.fork 11 (.early 12 (.early 13 (.early 14 (.early 15 (.late 16 (.late 18 (.late 19 (.early 20 .done)))))))) 16 (.late 11 (.early 12 (.early 13 (.early 14 (.early 15 (.late 18 (.late 19 (.early 20 .done))))))))))))))))))))) [1000] [] rfl (by decide +kernel) (by decide) (by decide +kernel) ?_
    refine fork_k (fun st => ∃ nn g5 b5 g6 b6 s R P S, st = { N := 74, n := nn, s := s, R := R } ∧ R = upd (upd (upd (fun _ => none) 1000 (some (0, gb, .node engK q))) 5 (some (g5, b5, P))) 6 (some (g6, b6, S)) ∧ n2 ≤ nn ∧
      s 0 = .ptr 1000 0 0 [] ∧ s 1 = .lit (.int .i64 k) ∧ s 5 = .ptr 5 g5 0 [] ∧ s 6 = .ptr 6 g6 0 [] ∧ s 7 = .lit (.bool (bring x.pool k x.disk[k]).2.2) ∧
      IsPool P (bring x.pool k x.disk[k]).1 ∧ IsSeat S (bring x.pool k x.disk[k]).2.1 ∧ Own2 n2 nn P S) ?_ ?_
    · rintro st ⟨nn, g5, b5, g6, b6, s, R, P, S, rfl, rfl, hnn, v0, v1, v5, v6, v7, hP, hS', hO⟩
      have pp := shp_pool _ _ hP
      have sp := shp_seat _ _ hS'
      have E1 := h.pool hP
      have P1 := (Put.refl (m := n0) (hi' := n0) ho' (Nat.le_refl _)).step (i := 1) (b := nn) (by decide) hO.oa (by omega) (by omega) (by omega) (by omega)
      obtain ⟨w, hw, hws, w0', w1, w2, w3⟩ := id hS'
      have w0' : w 0 = _ := w0'
      have w2 : w 2 = _ := w2
      obtain ⟨u, hu, hus, u0, u1⟩ := id w1
      have u0 : u 0 = _ := u0
      have wp := shp_page _ _ w1
      rcases Bool.eq_false_or_eq_true (bring x.pool k x.disk[k]).2.2 with c1 | c1
      rotate_left
      · simp -dsimp only [go_sem, v0, v1, v5, v6, v7, pp.1, pp.2.1, pp.2.2.1, h.all, q1.1, q1.2.1, q1.2.2.1, c1]
        refine xcall_v (seated_p _ _ k hP) (by simp -dsimp only [go_sem, rl_still, pp.2.2.2, rl_lit]) (fun _ => trivial) fun n3 hn3 => ?_
        simp -dsimp only [go_sem, v0, v1, v5, v6, v7]
        have hn3' : nn ≤ n3 := hn3
        refine ⟨_, rfl, fun n1 hn1 hfc => ?_⟩
        exact fet_end (by rw [hfe]; unfold broughtE; rw [if_neg (by simp [c1])]) E1 (P1.mono (Nat.le_refl _) (by omega) (Nat.le_refl _)) rfl
      rcases Bool.eq_false_or_eq_true (bring x.pool k x.disk[k]).2.1.dirty with c2 | c2
      rotate_left
      · simp -dsimp only [go_sem, v0, v1, v5, v6, v7, pp.1, pp.2.1, pp.2.2.1, h.all, q1.1, q1.2.1, q1.2.2.1, c1, hw, w2, c2]
        refine xcall_v (seated_p _ _ k hP) (by simp -dsimp only [go_sem, rl_still, pp.2.2.2, rl_lit]) (fun _ => trivial) fun n3 hn3 => ?_
        simp -dsimp only [go_sem, v0, v1, v5, v6, v7]
        have hn3' : nn ≤ n3 := hn3
        refine ⟨_, rfl, fun n1 hn1 hfc => ?_⟩
        exact fet_end (by rw [hfe]; unfold broughtE; rw [if_neg (by simp [c2])]) E1 (P1.mono (Nat.le_refl _) (by omega) (Nat.le_refl _)) rfl
      obtain ⟨_, j, hj, hno, hpp⟩ := hB.gone c2
      have hjj := (poolOk_iff.1 hF.pool).2.2.2.1 j hj
      obtain ⟨k2, hk2⟩ := Int.eq_ofNat_of_zero_le (show 0 ≤ (bring x.pool k x.disk[k]).2.1.no by omega)
      have hk28 : k2 < 8 := by omega
      have hk28i : (k2 : Int) < 8 := by omega
      rw [hk2] at w0'
      simp -dsimp only [go_sem, v0, v1, v5, v6, v7, pp.1, pp.2.1, pp.2.2.1, h.all, q1.1, q1.2.1, q1.2.2.1, c1, hw, w2, c2, hu, u0]
      refine xcall_cs (l := 1000) (g := 0) (b := gb) (sure_b _ _ (bring x.pool k x.disk[k]).2.1.p.lsn (min lo n0) nn E1 P1.own hl) (by simp -dsimp only [go_sem, v0]) (by trivial) (by simp -dsimp only [go_sem]) E1.is.still fun m2 m3 d2 r2 hm2 hm3 hQ2 => ?_
      obtain ⟨L2, rfl, hL2, hLt2, hE2⟩ := hQ2
      have hm2' : nn ≤ m2 := hm2
      simp -dsimp only [go_sem, v0, v1, v5, v6, v7, hd0, w0', hk28, hk28i, hw, hu]
      refine iwp_plan [(0, true), (1, true), (2, true), (3, true), (4, true), (5, true), (6, true), (7, true), (8, false)] [6] rfl (by decide +kernel) (by decide) [] (by decide +kernel) ?_
      simp -dsimp only [go_sem, v0, v1, v5, v6, v7, hd0, w0', hk28, hk28i, hw, hu]
      have yp2 := shp_page _ _ (hdf k2 (by omega))
      simp -dsimp only [go_sem, yp2.1, yp2.2.1, yp2.2.2.1, pp.1, pp.2.1, pp.2.2.1]
      refine xcall_v (seated_p _ _ k hP) (by simp -dsimp only [go_sem, v0, v1, rl_still, pp.2.2.2, rl_lit]) (fun _ => trivial) fun n3 hn3 => ?_
      simp -dsimp only [go_sem, v0, v1, v5, v6, v7]
      have hn3' : m3 ≤ n3 := hn3
      refine ⟨_, rfl, fun n1 hn1 hfc => ?_⟩
      have hn1' : n3 ≤ n1 := hn1
      have hpg : IsPage (.node (.agg [1, 16]) u) (bring x.pool k x.disk[k]).2.1.p := by rw [← hu]; exact w1
      have hpo : Own n2 nn (.node (.agg [1, 16]) u) := by
        have e := hO.ob
        rw [hw] at e
        have e := own_sub (i := 1) e (by decide)
        rw [hu] at e; exact e
      have hps : ∀ t ∈ (D.node (.agg [1, 16]) u).tl, t ∈ S.tl := fun t ht => by rw [hw]; exact tl_child (i := 1) (by decide) (hu ▸ ht)
      have o0 := own_sub (i := 0) ho' (by decide)
      rw [hd0] at o0
      have PD := Put.node (i := k2) (m := n2) o0 (show k2 < (Kd.arr 8 17).cnt from hk28) (Put.new (d := fd k2) hpo (by omega)) (by omega) (by omega)
      have hD : ∀ t ∈ (D.node (.arr 8 17) (upd fd k2 (.node (.agg [1, 16]) u))).tl, t ∈ (q 0).tl ∨ t ∈ S.tl := fun t ht => by
        rcases tl_put ht with h | h
        · exact .inl (hd0 ▸ h)
        · exact .inr (hps t h)
      have hG : ∀ j, j < 7 → j ≠ 0 → ∀ t ∈ (upd (upd q 1 P) 2 L2 j).tl, t ∈ (q j).tl ∨ t ∈ P.tl := fun j hj hne t ht => by
        by_cases j2 : j = 2
        · subst j2; rw [upd_same, hLt2, upd_ne _ _ (by decide)] at ht; exact .inl ht
        · rw [upd_ne _ _ j2] at ht
          by_cases j1 : j = 1
          · subst j1; rw [upd_same] at ht; exact .inr ht
          · rw [upd_ne _ _ j1] at ht; exact .inl ht
      have oG := disk_put (m3 := n1) ho' hO (by omega) hG hD (hE2.put.own.mono (by omega) (by omega)) (PD.own.mono (Nat.le_refl _) (by omega))
      have E3 := (E1.log hL2).disk (isA_set (i := k2) hdl hdst hdf hpg (by rw [← hu]; exact wp.2.2.2))
      refine fet_end ?_ E3 ⟨oG, fun t ht => ?_⟩ rfl
      · rw [hfe]; unfold broughtE; rw [if_pos ⟨c1, c2⟩]; unfold writeE; rw [hk2]; rfl
      · rcases tl_put ht with h | h
        · rcases (P1.trans (hE2.put.mono (Nat.le_min.2 ⟨Nat.le_refl _, by omega⟩) (Nat.le_refl _) (Nat.le_refl _)) (by omega)).sub t h with h | h
          · exact .inl h
          · exact .inr h
        · rcases hD t h with h | h
          · exact .inl (tl_child (i := 0) (by decide) h)
          · exact .inr (by have := hO.ob.rg t h; omega)
    · intro K hK
      simp -dsimp only [go_sem, h.all, q1.1, q1.2.1, q1.2.2.1, hd0, hk8, hk8i, yp.1, yp.2.1, yp.2.2.1]
      repeat' (first | refine ⟨?_, ?_⟩ | (intro g b hb) | (refine xcall_p (bring_p _ _ x.pool k x.disk[k] h.q1 hy (by omega) (by omega) h.q1.data hy.data) (by simp -dsimp only [go_sem, rl_still, q1.2.2.2, yp.2.2.2]) fun m0 p0 r0 hm0 hp0 hr0 => ?_; obtain ⟨P, S, rfl, hP, hS', hO⟩ := Three.out hr0; have pp := shp_pool _ _ hP; have sp := shp_seat _ _ hS'; refine ⟨hO.tags trivial, ?_⟩; simp -dsimp only [go_sem, h.all, q1.1, q1.2.1, q1.2.2.1, hd0, hk8, hk8i, yp.1, yp.2.1, yp.2.2.1, pp.1, pp.2.1, pp.2.2.1, sp.1, sp.2.1, sp.2.2.1]))
      all_goals first
        | exact hK _ ⟨_, _, _, _, _, _, _, P, S, rfl, (by first | rfl | exact upd_comm _ _ _ (by decide)), (by first | omega | (have q1 : _ ≤ m0 := hm0; simp only [St.put] at q1; omega)), by simp -dsimp only [go_sem], by simp -dsimp only [go_sem], by simp -dsimp only [go_sem], by simp -dsimp only [go_sem], by simp -dsimp only [go_sem], hP, hS', hO.mono (by omega) (by omega)⟩
structure SeatV (q qp f w u us : Nat → D) (y : Md.Engine) (no : Int) (t : Nat) (zb : Bool) (K : Nat) : Prop where
  e1 : q 1 = .node (.agg [1, 1]) qp
  eh : qp 1 = .lit (.int .i64 y.pool.hand)
  es : ∀ i, (qp i).still
  e0 : qp 0 = .sl t zb y.pool.seats.length 20 f
  fs : ∀ i, (f i).still
  fl : y.pool.seats.length < 140737488355328
  fr : ∀ i (h : i < y.pool.seats.length), IsSeat (f i) y.pool.seats[i]
  k : Md.seated y.pool no = (K : Int)
  kl : K < y.pool.seats.length
  kli : (K : Int) < y.pool.seats.length
  ek : f K = .node (.agg [1, 17, 1, 1]) w
  at_ : seatAt y no = y.pool.seats[K]
  ws : ∀ i, (w i).still
  w0 : w 0 = .lit (.int .i64 (seatAt y no).no)
  w1 : w 1 = .node (.agg [1, 16]) u
  w2 : w 2 = .lit (.bool (seatAt y no).dirty)
  w3 : w 3 = .lit (.bool (seatAt y no).hot)
  us_ : ∀ i, (u i).still
  u0 : u 0 = .lit (.int .i64 (seatAt y no).p.lsn)
  u1 : u 1 = .node (.arr 4 4) us
  sl4 : (seatAt y no).p.slots.length = 4
  ss : ∀ i, (us i).still
  sr : ∀ i (h : i < (seatAt y no).p.slots.length), IsSlot (us i) (seatAt y no).p.slots[i]
  pg : IsPage (w 1) (seatAt y no).p
theorem eng_seat {q : Nat → D} {y : Md.Engine} {no : Int} (h : EngF q y) (hs : 0 ≤ Md.seated y.pool no) : ∃ qp f w u us t zb K, SeatV q qp f w u us y no t zb K := by
  obtain ⟨qp, e1, es, p0, p1⟩ := id h.q1
  have hlt := seated_lt hs
  obtain ⟨K, hK⟩ := Int.eq_ofNat_of_zero_le hs
  have hKl : K < y.pool.seats.length := by omega
  have hat : seatAt y no = y.pool.seats[K] := by
    unfold seatAt
    rw [show (Md.seated y.pool no).toNat = K by omega]
    exact getD_at hKl
  rcases p0 with ⟨_, hnil⟩ | ⟨t, zb, f, e0, fs, fl, fr⟩
  · rw [hnil] at hKl; exact absurd hKl (by simp)
  obtain ⟨w, ek, ws, w0, w1, w2, w3⟩ := id (fr K hKl)
  obtain ⟨u, eu, us_, u0, u1⟩ := id w1
  obtain ⟨sl4, us, eus, ss, sr⟩ := id u1
  rw [← hat] at w0 w1 w2 w3 u0 sl4
  exact ⟨qp, f, w, u, us, t, zb, K, e1, p1, es, e0, fs, fl, fr, hK, hKl, by omega, ek, hat, ws, w0, eu, w2, w3, us_, u0, eus, sl4, ss, fun i h => by
    have := sr i (by rw [← hat]; exact h)
    simp only [hat]; exact this, w1⟩
def SlQ (q : Nat → D) (x : Md.Engine) (oid : Int) (lo n0 n1 : Nat) (d' v : D) : Prop :=
  IsSlot v (slotAt (fetchE x (oid / 4)) oid) ∧ Eng (min lo n0) n1 n0 (.node engK q) d' (fetchE x (oid / 4)) ∧ Own2 (min lo n0) n1 d' v ∧ ∀ t ∈ v.tl, n0 ≤ t
theorem slotOf_b (q : Nat → D) (x : Md.Engine) (o : Nat) (n : Int) (lo hi : Nat) (h : EngF q x) (ho : Own lo hi (.node engK q)) (hF : FOk n x) (ho31 : o ≤ 31) (hl : x.log.recs.length ≤ 2097152) :
    BCall Tryz.prog 62 .nil (.node engK q) [.lit (.int .i64 o)] (SlQ q x o lo) := by
  refine bcall_intro Tryz.func62 rfl (by decide) rfl (by decide) (by rw [Tryz.ntmps62]; simp) fun w0 M n0 gb hW hS hT hgb => ivc_sound ?_; simp -dsimp only [Tryz.f62, go_sem, h.all]
  have ho' := own_lt ho (hT _ (List.mem_cons_self ..) (whole_data ho.wh))
  intro g1 b1 hb1
  have hq : IntKind.i64.wrap ((o : Int).tdiv 4) = ((o / 4 : Nat) : Int) := by rw [Int.tdiv_eq_ediv_of_nonneg (by omega)]; rw [w64 (by omega) (by omega)]; omega
  have hr : (o : Int).tmod 4 = ((o % 4 : Nat) : Int) := by rw [Int.tmod_eq_emod_of_nonneg (by omega)]; omega
  have e4 : ((o : Int) / 4) = ((o / 4 : Nat) : Int) := by omega
  have hm4 : (o % 4 : Nat) < 4 := Nat.mod_lt _ (by decide)
  have hm4i : ((o % 4 : Nat) : Int) < 4 := by omega
  have hft := fetched (no := ((o / 4 : Nat) : Int)) hF (by omega) (by omega)
  refine xcall_cs (l := 1000) (g := 0) (b := gb) (fetch_b q x (o / 4) n (min lo n0) n0 h ho' hF (by omega) hl) (by simp -dsimp only [go_sem, hq]) (by trivial) (by simp -dsimp only [go_sem]) h.is.still fun m0 m1 d' r hm0 hm1 hQ => ?_
  obtain ⟨rfl, hE⟩ := hQ
  have hm0' : b1 + 1 ≤ m0 := hm0
  obtain ⟨q', rfl, hq'⟩ := hE.is.node
  obtain ⟨qp, f, w, u, us, t, zb, K, V⟩ := eng_seat hq' hft.s0
  have hidx : o % 4 < (seatAt (fetchE x ((o / 4 : Nat) : Int)) ((o / 4 : Nat) : Int)).p.slots.length := by rw [V.sl4]; exact hm4
  have hsl := V.sr (o % 4) hidx
  have slp := shp_slot _ _ hsl
  have hok : Md.szSlot (seatAt (fetchE x ((o / 4 : Nat) : Int)) ((o / 4 : Nat) : Int)).p.slots[o % 4] ≤ 10 := by
    refine szSlot_ok ?_
    have hp := ((poolOk_iff.1 hft.ok.pool).2.2.2.1 K V.kl).2.2
    rw [← V.at_] at hp
    simp only [Md.pageOk, Md.slotsOk, Bool.and_eq_true, List.all_eq_true] at hp
    exact hp.2 _ (List.getElem_mem _)
  simp -dsimp only [go_sem, hr, V.k, V.e1, V.e0, V.ek, V.w1, V.u1, V.kl, V.kli, hm4, hm4i, slp.1, slp.2.1, slp.2.2.1]
  refine xcall_p (cloneSlot_p _ _ hsl (by omega)) (by simp -dsimp only [go_sem, rl_still, slp.2.2.2]) fun m2 p2 r2 hm2 hp2 hr2 => ?_
  have hm2' : m1 ≤ m2 := hm2
  refine ⟨hr2.2.tags, ?_⟩
  have rp := shp_slot _ _ hr2.1
  simp -dsimp only [go_sem, rp.1, rp.2.1, rp.2.2.1]
  refine ⟨_, rfl, fun n1 hn1 hfc => ?_⟩
  have hn1' : p2 ≤ n1 := hn1
  rw [rlnode_still hq'.st, rl_still rp.2.2.2]
  have hE' : Eng (min lo n0) n1 n0 (.node engK q) (.node engK q') (fetchE x ((o : Int) / 4)) := by rw [e4]; exact ⟨hE.is, hE.put.mono (by omega) (by omega) (by omega)⟩
  refine Eng.fin hE' ⟨?_, hE', Own2.of (hE.put.own.mono (by omega) (Nat.le_refl _)) (hr2.2.mono (Nat.le_refl _) hn1') hm2' (by omega) (by omega), fun t ht => by have := hr2.2.rg t ht; omega⟩ (tags_of_tl (whole_data hr2.2.wh) fun t ht => .inr (by have := hr2.2.rg t ht; omega))
  · unfold slotAt
    rw [e4, show ((o : Int) % 4).toNat = o % 4 by omega, getD_at (by rw [V.sl4]; exact hm4)]
    exact hr2.1
end Go.Proofs.YtncinhlaabdlaaaGreat.IM
end
