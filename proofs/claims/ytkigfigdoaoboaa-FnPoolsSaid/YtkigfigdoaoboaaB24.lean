/- Several of my texts in one module (merge.py). -/
import Derived.Test.YtkigfigdoaoboaaB20
import Derived.Test.YtkigfigdoaoboaaB23
import Derived.Test.YtkigfigdoaoboaaB22
import Derived.Test.YtkigfigdoaoboaaB7
section
/- What Bring leaves. Printed by pools.py. -/
namespace Go.Proofs.Ytkigfigdoaoboaa.IM
open Go Go.Proofs
set_option linter.unusedVariables false
set_option linter.unusedSimpArgs false
set_option maxHeartbeats 2000000
set_option maxRecDepth 20000

theorem not_in {x : Md.Pool} {no : Int} (h : Md.seated x no < 0) : ∀ i (hi : i < x.seats.length), x.seats[i].no ≠ no := by
  intro i hi e
  have : x.seats.findIdx? (fun s => s.no == no) = none := by
    cases e : x.seats.findIdx? (fun s => s.no == no) with
    | none => rfl
    | some i => unfold Md.seated at h; rw [e] at h; simp at h; omega
  rw [List.findIdx?_eq_none_iff] at this
  have := this _ (List.getElem_mem hi)
  simp [e] at this
theorem seated_neg {x : Md.Pool} {no : Int} (h : ∀ i (hi : i < x.seats.length), x.seats[i].no ≠ no) : Md.seated x no = -1 := by
  have : x.seats.findIdx? (fun s => s.no == no) = none := by
    rw [List.findIdx?_eq_none_iff]
    intro s hs
    obtain ⟨i, hi, rfl⟩ := List.getElem_of_mem hs
    simpa using h i hi
  unfold Md.seated; rw [this]
theorem seated_is {x : Md.Pool} {no : Int} {k : Nat} (hk : k < x.seats.length) (h : x.seats[k].no = no) (hn : ∀ i (hi : i < x.seats.length), i ≠ k → x.seats[i].no ≠ no) : Md.seated x no = k := by
  have : x.seats.findIdx? (fun s => s.no == no) = some k := by
    rw [List.findIdx?_eq_some_iff_getElem]
    refine ⟨hk, by simpa using h, fun j hj => ?_⟩
    have := hn j (by omega) (by omega)
    simpa using this
  unfold Md.seated; rw [this]
theorem distinct_iff : ∀ l : List Int, Md.distinctNos l = true ↔ l.Nodup
  | [] => by simp [Md.distinctNos]
  | a :: l => by simp [Md.distinctNos, distinct_iff l]
/-- who goes was not used of late, or all were -/
theorem vic_hot {x : Md.Pool} (h0 : 0 ≤ x.hand) (h1 : x.hand < 3) (hl : x.seats.length = 3) (hk : (vicGo 3 x).2.toNat < x.seats.length) (hh : x.seats[(vicGo 3 x).2.toNat].hot = true) : ∀ i (hi : i < x.seats.length), x.seats[i].hot = true := by
  obtain ⟨ss, hd⟩ := x
  match ss, hl with
  | [a, b, c], _ =>
    have : hd = 0 ∨ hd = 1 ∨ hd = 2 := by have h0 : 0 ≤ hd := h0; have h1 : hd < 3 := h1; omega
    obtain ⟨an, ap, ad, ah⟩ := a
    obtain ⟨bn, bp, bd, bh⟩ := b
    obtain ⟨cn, cp, cd, ch⟩ := c
    rcases this with rfl | rfl | rfl <;> cases ah <;> cases bh <;> cases ch <;> first | (exfalso; revert hh; simp [vicGo, hotAt, vicStep, nxt, cool]; done) | (intro i hi; match i, hi with | 0, _ => rfl | 1, _ => rfl | 2, _ => rfl)
/-- what is left where one went -/
structure Went (x : Md.Pool) (no : Int) (y : Md.Page) (k : Nat) (n : Md.Pool) (old : Md.Seat) (v : Md.Pool × Int) : Prop where
  ok : Md.poolOk x = true
  l3 : x.seats.length = 3
  hv : v = (⟨v.1.seats, ((k : Int) + 1).tmod 3⟩, (k : Int))
  kx : k < x.seats.length
  ln : n.seats.length = 3
  kn : k < n.seats.length
  sn : Md.seated n no = k
  at_ : n.seats[k].p = y
  so : Md.seated n old.no = -1
  nk : Md.poolOk n = true
  old_ : x.seats[k].no = old.no
  hot : x.seats[k].hot = true → ∀ i (hi : i < x.seats.length), x.seats[i].hot = true
theorem went {x : Md.Pool} {no : Int} {y : Md.Page} (h : (bring x no y).2.2 = true) : ∃ k, Went x no y k (bring x no y).1 (bring x no y).2.1 (victim x) := by
  cases hb : brOk x no y with
  | false => rw [bring_no hb] at h; simp at h
  | true =>
    have hb' := hb
    unfold brOk at hb'
    simp only [Bool.and_eq_true, decide_eq_true_eq] at hb'
    obtain ⟨hp, hno, hy, hneg⟩ := hb'
    have hh := poolOk_hand hp
    rw [bring_yes hb] at h ⊢
    by_cases h3 : x.seats.length < 3
    · rw [bringDo_app h3] at h; simp at h
    have l3 : x.seats.length = 3 := by omega
    have hv : victim x = vicGo 3 x := victim_yes (by unfold vicOk; rw [hp, l3]; rfl)
    rw [bringDo_vic h3, hv]
    have rg := vicGo_rg 3 x hh.1 hh.2.1
    have vl := vicGo_lenP hh.1 hh.2.1
    have vp := vicGo_p hh.1 hh.2.1
    have vh := vic_hot hh.1 hh.2.1 l3
    generalize hG : vicGo 3 x = G at *
    obtain ⟨k, hk⟩ := Int.eq_ofNat_of_zero_le rg.1
    have hk' : G.2.toNat = k := by omega
    have kx : k < x.seats.length := by omega
    have kg : k < G.1.seats.length := by omega
    rw [hk'] at vh ⊢
    have hni := not_in hneg
    have hd : (x.seats.map (·.no)).Nodup := by
      unfold Md.poolOk at hp
      simp only [Bool.and_eq_true] at hp
      exact (distinct_iff _).1 hp.1.1.2
    have hinj : ∀ i j (hi : i < x.seats.length) (hj : j < x.seats.length), x.seats[i].no = x.seats[j].no → i = j := by
      intro i j hi hj he
      have hp2 := List.pairwise_iff_getElem.1 hd
      rcases Nat.lt_trichotomy i j with h4 | h4 | h4
      · exact absurd (by rw [List.getElem_map, List.getElem_map]; exact he) (hp2 i j (by simpa using hi) (by simpa using hj) h4)
      · exact h4
      · exact absurd (by rw [List.getElem_map, List.getElem_map]; exact he.symm) (hp2 j i (by simpa using hj) (by simpa using hi) h4)
    have hold : (G.1.seats[k]?).getD zSeat = G.1.seats[k] := by rw [List.getElem?_eq_getElem kg]; rfl
    simp only [hold]
    have ho := (vp k kg kx).1
    have hset : ∀ i (hi : i < (G.1.seats.set k (newSeat no y)).length), (G.1.seats.set k (newSeat no y))[i].no = if i = k then no else x.seats[i]'(by simpa [vl] using hi) |>.no := by
      intro i hi
      rw [List.getElem_set]
      by_cases e : k = i
      · subst e; simp [newSeat]
      · rw [if_neg e, if_neg (fun h => e h.symm)]
        exact (vp i (by simpa using hi) (by simpa [vl] using hi)).1
    refine ⟨k, hp, l3, ?_, kx, by simp [vl, l3], by simpa using kg, ?_, by simp [newSeat], ?_, ?_, ho.symm, vh kx⟩
    · have := rg.2.2.2
      rw [hk] at this
      obtain ⟨⟨gs, gh⟩, g2⟩ := G
      have hk : g2 = _ := hk
      have this : gh = _ := this
      rw [hk, this]; rfl
    · refine seated_is (by simpa using kg) (by rw [hset]; simp) fun i hi hne => ?_
      rw [hset, if_neg hne]
      exact hni i _
    · refine seated_neg fun i hi => ?_
      rw [hset, ho]
      have hi' : i < x.seats.length := by simpa [vl] using hi
      by_cases e : i = k
      · rw [if_pos e]; exact (hni k kx).symm
      · rw [if_neg e]
        intro h2
        exact e (hinj _ _ hi' kx h2)
    · unfold Md.poolOk at hp ⊢
      simp only [Bool.and_eq_true, decide_eq_true_eq] at hp ⊢
      refine ⟨⟨⟨?_, ?_⟩, by simp [vl, l3]⟩, ?_⟩
      · rw [List.all_eq_true]
        intro s hs
        obtain ⟨i, hi, rfl⟩ := List.getElem_of_mem hs
        have hi' : i < x.seats.length := by simpa [vl] using hi
        by_cases e : k = i
        · subst e
          rw [List.getElem_set_self]
          show (Md.inB no 0 7 && Md.pageOk y) = true
          rw [hno, hy]; rfl
        · rw [List.getElem_set_ne e]
          have q := vp i (by simpa using hi) hi'
          rw [q.1, q.2.1]
          exact (List.all_eq_true.1 hp.1.1.1) _ (List.getElem_mem hi')
      · rw [distinct_iff]
        refine List.pairwise_iff_getElem.2 fun i j hi hj hij he => ?_
        have hi2 : i < (G.1.seats.set k (newSeat no y)).length := by simpa using hi
        have hj2 : j < (G.1.seats.set k (newSeat no y)).length := by simpa using hj
        have he : (G.1.seats.set k (newSeat no y))[i].no = (G.1.seats.set k (newSeat no y))[j].no := by rw [List.getElem_map, List.getElem_map] at he; exact he
        have hi' : i < x.seats.length := by simpa [vl] using hi
        have hj' : j < x.seats.length := by simpa [vl] using hj
        rw [hset i hi2, hset j hj2] at he
        by_cases e1 : i = k
        · by_cases e2 : j = k
          · omega
          · rw [if_pos e1, if_neg e2] at he; exact absurd he.symm (hni j hj')
        · by_cases e2 : j = k
          · rw [if_neg e1, if_pos e2] at he; exact absurd he (hni i hi')
          · rw [if_neg e1, if_neg e2] at he
            have := hinj _ _ hi' hj' he
            omega
      · show Md.inB G.1.hand 0 2 = true
        rw [rg.2.2.2]
        have := nxt_rg rg.1 rg.2.1
        exact (inB_iff _ _ _).2 (by omega)
theorem bring_ge (x : Md.Pool) (no : Int) (y : Md.Page) : x.seats.length ≤ (bring x no y).1.seats.length := by
  cases h : brOk x no y with
  | false => rw [bring_no h]; exact Nat.le_refl _
  | true =>
    have hp : Md.poolOk x = true := by unfold brOk at h; simp only [Bool.and_eq_true] at h; exact h.1
    have hh := poolOk_hand hp
    rw [bring_yes h]
    by_cases h3 : x.seats.length < 3
    · rw [bringDo_app h3]; show _ ≤ (x.seats ++ _).length; rw [List.length_append]; omega
    · rw [bringDo_vic h3]; show _ ≤ (List.set _ _ _).length; rw [List.length_set, vicGo_lenP hh.1 hh.2.1]; exact Nat.le_refl _
theorem vic_bad {x : Md.Pool} (h : Md.poolOk x = false) : (victim x).2 = -1 := by rw [victim_no (by unfold vicOk; rw [h]; rfl)]
end Go.Proofs.Ytkigfigdoaoboaa.IM
end

section
/- The law FnPools. Printed by pools.py. -/
namespace Go.Proofs.Ytkigfigdoaoboaa.IM
open Go Go.Proofs
set_option linter.unusedVariables false
set_option linter.unusedSimpArgs false
set_option maxHeartbeats 2000000
set_option maxRecDepth 20000

theorem DrawnR.tagsP {n0 n1 : Nat} {r : D} (h : DrawnR n0 n1 r) : r.tags (n0 ≤ ·) := by
  obtain ⟨a, b, k, x, y, rfl, _, _, _, _, ho⟩ := h
  intro i hi
  have hi' : i < 3 := hi
  match i, hi' with
  | 0, _ => exact ho.oa.tags
  | 1, _ => trivial
  | 2, _ => exact ho.ob.tags
theorem tags3 {p : Nat → Prop} {a b : D} {v : Value} (ha : a.tags p) (hb : b.tags p) : (D.tup 3 (nthD [a, b, .lit v])).tags p := by
  intro i hi
  have hi' : i < 3 := hi
  match i, hi' with
  | 0, _ => exact ha
  | 1, _ => exact hb
  | 2, _ => trivial
theorem lawPools (d : D) (xs : List Int) (h : IsL 1 IsByte d xs) : PCall Try.prog 8 [d] fun _ _ r => r = .lit (.bool true) := by
  have hd : d.data := IsL.data (fun d x h => by have h : d = _ := h; subst h; trivial) h
  refine pcall_intro_v Try.func8 rfl (by decide) rfl (by decide) (by rw [Try.ntmps8]; simp) fun w0 M n0 => ivc_sound ?_; simp -dsimp only [Try.f8, go_sem, h.lenT]
  refine xcall_v (big_p d xs h) (by simp -dsimp only [go_sem, rl_still, h.still]) (fun _ => trivial) fun n1 hn1 => ?_
  rcases Bool.eq_false_or_eq_true (decide ((1048576 : Int) < xs.length)) with hb | hb
  · simp -dsimp only [go_sem, hb]
  · simp -dsimp only [go_sem, hb]
    refine xcall_p (drawBring_p d xs h hd) (by simp -dsimp only [go_sem, rl_still, h.still]) fun m0 m1 r hm0 hm1 hr => ?_
    refine ⟨hr.tagsP, ?_⟩
    obtain ⟨dp, dy, no, x, y, rfl, hx, hxs, hy, hys, ho⟩ := hr
    have hxd := IsPool.data hx
    have hyd := IsPage.data hy
    have zp := shp_pool _ _ hx
    have yp := shp_page _ _ hy
    simp -dsimp only [go_sem, zp.1, zp.2.1, zp.2.2.1, yp.1, yp.2.1, yp.2.2.1]
    intro g3 b3 hb3 g5 b5 hb5
    refine xcall_p (bring_p _ _ x no y hx hy (by omega) (by omega) hxd hyd) (by simp -dsimp only [go_sem, rl_still, zp.2.2.2, yp.2.2.2]) fun m2 m3 r hm2 hm3 hr => ?_
    obtain ⟨dn, da, rfl, hn, ha, hno⟩ := hr.out
    have np := shp_pool _ _ hn
    have ap := shp_seat _ _ ha
    refine ⟨tags3 hno.oa.tags hno.ob.tags, ?_⟩
    simp -dsimp only [go_sem, zp.1, zp.2.1, zp.2.2.1, yp.1, yp.2.1, yp.2.2.1, np.1, np.2.1, np.2.2.1, ap.1, ap.2.1, ap.2.2.1]
    intro g6 b6 hb6 g7 b7 hb7
    refine xcall_p (specBring_p _ _ x no y hx hy (by omega) (by omega) hxd hyd) (by simp -dsimp only [go_sem, rl_still, zp.2.2.2, yp.2.2.2]) fun m4 m5 r hm4 hm5 hr => ?_
    obtain ⟨ds, ea, rfl, hs, hea, hso⟩ := hr.out
    have sp := shp_pool _ _ hs
    have ep := shp_seat _ _ hea
    refine ⟨tags3 hso.oa.tags hso.ob.tags, ?_⟩
    simp -dsimp only [go_sem, zp.1, zp.2.1, zp.2.2.1, yp.1, yp.2.1, yp.2.2.1, np.1, np.2.1, np.2.2.1, sp.1, sp.2.1, sp.2.2.1, ep.1, ep.2.1, ep.2.2.1, bne_self_eq_false, Bool.false_eq_true, false_imp_iff, true_and, and_true, forall_const]
    intro g9 b9 hb9 g10 b10 hb10
    refine xcall_p (victim_p _ x hx (by omega) hxd) (by simp -dsimp only [go_sem, rl_still, zp.2.2.2]) fun m6 m7 r hm6 hm7 hr => ?_
    obtain ⟨dv, rfl, hv, hvo⟩ := hr.out
    have vp := shp_pool _ _ hv
    refine ⟨tags_two hvo.tags, ?_⟩
    simp -dsimp only [go_sem, zp.1, zp.2.1, zp.2.2.1, yp.1, yp.2.1, yp.2.2.1, np.1, np.2.1, np.2.2.1, vp.1, vp.2.1, vp.2.2.1]
    intro g12 b12 hb12
    refine xcall_v (specPoolOk_p _ _ hx) (by simp -dsimp only [go_sem, rl_still, zp.2.2.2]) (fun _ => trivial) fun n9 hn9 => ?_
    obtain ⟨qx, rfl, hxs', hx0, hx1⟩ := id hx
    obtain ⟨qn, rfl, hns', hn0, hn1'⟩ := id hn
    cases hpo : Md.poolOk x with
    | false =>
      simp -dsimp only [go_sem, hpo, zp.1, zp.2.1, zp.2.2.1, bne_self_eq_false, Bool.false_eq_true, false_imp_iff, true_and, and_true, forall_const]
      refine xcall_v (poolOk_p _ _ hx) (by simp -dsimp only [go_sem, rl_still, zp.2.2.2]) (fun _ => trivial) fun n10 hn10 => ?_
      simp -dsimp only [go_sem, hpo, vic_bad hpo, bne_self_eq_false, Bool.false_eq_true, false_imp_iff, true_and, and_true, forall_const, beq_self_eq_true]
    | true =>
      simp -dsimp only [go_sem, hpo, bne_self_eq_false, Bool.false_eq_true, false_imp_iff, true_and, and_true, forall_const]
      cases hw : (bring x no y).2.2 with
      | false =>
        have hge := bring_ge x no y
        have hge' : (x.seats.length : Int) ≤ ((bring x no y).1.seats.length : Int) := by omega
        simp -dsimp only [go_sem, hw, hge', hx0.lenT, hx0.size, hx0.isNode, hx0.plain, hn0.lenT, hn0.size, hn0.isNode, hn0.plain, bne_self_eq_false, Bool.false_eq_true, false_imp_iff, true_and, and_true, forall_const, beq_self_eq_true]
      | true =>
        obtain ⟨k, W⟩ := went hw
        simp -dsimp only [go_sem, hw, np.1, np.2.1, np.2.2.1, bne_self_eq_false, Bool.false_eq_true, false_imp_iff, true_and, and_true, forall_const]
        refine xcall_v (seated_p _ _ no hn) (by simp -dsimp only [go_sem, rl_still, np.2.2.2]) (fun _ => trivial) fun n10 hn10 => ?_
        simp -dsimp only [go_sem, W.sn, bne_self_eq_false, Bool.false_eq_true, false_imp_iff, true_and, and_true, forall_const]
        refine iwp_plan [(0, true), (1, true), (2, true), (3, true), (4, true), (5, true), (6, true), (7, true), (8, true), (9, true), (10, false), (11, true), (12, true), (13, true), (14, true), (15, true), (16, true), (17, false), (18, true), (19, true), (20, true), (21, true), (22, false), (23, true), (24, true), (25, true), (26, true), (27, true), (28, true), (29, true), (30, true), (31, true), (32, true), (33, true), (34, true), (35, true), (36, true), (37, true), (38, true), (39, true), (40, true), (41, true), (42, true), (43, true), (44, true), (45, true), (46, true), (47, true), (48, true), (49, true), (50, true), (51, true), (52, true), (53, true)] [3, 5, 6, 7, 12] rfl (by decide +kernel) (by decide) [] (by decide +kernel) ?_
        have hnk : ¬ (k : Int) < 0 := by omega
        have hk0 : (0 : Int) ≤ (k : Int) := by omega
        obtain ⟨t1, zb1, f1, v0, vs, vf⟩ := hn0.sl W.kn
        obtain ⟨g', hg', gs', s0', s1', s2', s3'⟩ := vf k W.kn
        rw [W.at_] at s1'
        have p1 := shp_page _ _ s1'
        have hCk := W.kn
        have hkx := W.kx
        obtain ⟨ga, rfl, gsa, a0, a1, a2, a3⟩ := id ha
        have a0 : ga 0 = _ := a0
        obtain ⟨t2, zb2, f2, u0, us, uf⟩ := hx0.sl W.kx
        obtain ⟨g2, hg2, gs2, r0, r1, r2, r3⟩ := uf k W.kx
        have r0 : g2 0 = _ := r0
        have r3 : g2 3 = _ := r3
        obtain ⟨qv, rfl, hvs', hv0, hv1⟩ := id hv
        have hv1 : qv 1 = _ := hv1
        have hv2 := congrArg (fun v : Md.Pool × Int => v.1.hand) W.hv
        have hv2 : (victim x).1.hand = ((k : Int) + 1).tmod 3 := hv2
        have hv3 := congrArg (fun v : Md.Pool × Int => v.2) W.hv
        have hv3 : (victim x).2 = (k : Int) := hv3
        have h31 := W.ln
        have hwk := i64_succ (i := k) (by omega)
        have hwt : IntKind.i64.wrap (((k : Int) + 1).tmod 3) = ((k : Int) + 1).tmod 3 := by
          have : k = 0 ∨ k = 1 ∨ k = 2 := by have := W.l3; omega
          rcases this with rfl | rfl | rfl <;> decide
        simp -dsimp only [go_sem, hnk, hk0, v0, hCk, hg', p1.1, p1.2.1, p1.2.2.1, yp.1, yp.2.1, yp.2.2.1, bne_self_eq_false, Bool.false_eq_true, false_imp_iff, true_and, and_true, forall_const, beq_self_eq_true]
        refine xcall_v (lawSamePage_p _ _ y s1' hy) (by simp -dsimp only [go_sem, rl_still, p1.2.2.2, yp.2.2.2]) (fun _ => trivial) fun n13 hn13 => ?_
        simp -dsimp only [go_sem, hnk, hk0, np.1, np.2.1, np.2.2.1, a0, bne_self_eq_false, Bool.false_eq_true, false_imp_iff, true_and, and_true, forall_const, beq_self_eq_true]
        refine xcall_v (seated_p _ _ (bring x no y).2.1.no hn) (by simp -dsimp only [go_sem, rl_still, np.2.2.2]) (fun _ => trivial) fun n14 hn14 => ?_
        simp -dsimp only [go_sem, hnk, hk0, W.so, show ¬ (0 : Int) ≤ -1 by decide, np.1, np.2.1, np.2.2.1, bne_self_eq_false, Bool.false_eq_true, false_imp_iff, true_and, and_true, forall_const, beq_self_eq_true]
        refine xcall_v (poolOk_p _ _ hn) (by simp -dsimp only [go_sem, rl_still, np.2.2.2]) (fun _ => trivial) fun n15 hn15 => ?_
        simp -dsimp only [go_sem, W.nk, hnk, hk0, v0, hCk, h31, a0, u0, hkx, hg2, r0, r3, W.old_, hv1, hv2, hv3, hwk, hwt, show (((3 : Nat) : Int) != 3) = false from rfl, show ((k + 1 : Nat) : Int) = (k : Int) + 1 from rfl, bne_self_eq_false, Bool.false_eq_true, false_imp_iff, true_and, and_true, forall_const, beq_self_eq_true]
        refine iwp_forK x.seats.length [2, 3, 13] (fun i s => s 16 = .lit (.int .i64 i) ∧ ∃ b : Bool, s 15 = .lit (.bool b) ∧ (x.seats[k].hot = true → b = true)) 0 (Nat.zero_le _) ⟨by simp -dsimp only [go_sem]; rfl, true, by simp -dsimp only [go_sem], fun _ => rfl⟩ ?_
        rintro i n' s hi hn hk ⟨h16, b, h15, hb⟩
        refine ivc_sound ?_
        by_cases hlt : i < x.seats.length
        · have hw := i64_succ (i := i) (by have := W.l3; omega)
          obtain ⟨g4, hg4, gs4, e0, e1, e2, e3⟩ := uf i hlt
          have e3 : g4 3 = _ := e3
          simp -dsimp only [go_sem] at hk
          simp -dsimp only [go_sem, hk, h15, h16, hlt, hw, u0]
          cases b with
          | false =>
            simp -dsimp only [go_sem, hk, h15, h16, hlt, hw, u0, bne_self_eq_false, Bool.false_eq_true, false_imp_iff, true_and, and_true, forall_const, beq_self_eq_true]
            refine into_k (by omega) (by simp -dsimp only [go_sem, hk]) ⟨by simp -dsimp only [go_sem], false, by simp -dsimp only [go_sem], hb⟩
          | true =>
            simp -dsimp only [go_sem, hk, h15, h16, hlt, hw, u0, hg4, e3, bne_self_eq_false, Bool.false_eq_true, false_imp_iff, true_and, and_true, forall_const, beq_self_eq_true]
            refine into_k (by omega) (by simp -dsimp only [go_sem, hk]) ⟨by simp -dsimp only [go_sem], _, by simp -dsimp only [go_sem], fun hh => W.hot hh i hlt⟩
        · simp -dsimp only [go_sem] at hk
          simp -dsimp only [go_sem, hk, h15, h16, hlt, u0, bne_self_eq_false, Bool.false_eq_true, false_imp_iff, true_and, and_true, forall_const, beq_self_eq_true]
          intro hbf
          subst hbf
          have hnh : x.seats[k].hot = false := by
            cases e : x.seats[k].hot with
            | false => rfl
            | true => exact (hb e).symm ▸ rfl
          simp -dsimp only [go_sem, hk, h15, h16, hlt, u0, hkx, hg2, r3, hnh, bne_self_eq_false, Bool.false_eq_true, false_imp_iff, true_and, and_true, forall_const, beq_self_eq_true]
end Go.Proofs.Ytkigfigdoaoboaa.IM
end
