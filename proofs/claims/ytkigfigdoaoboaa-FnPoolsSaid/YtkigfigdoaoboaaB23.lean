/- Several of my texts in one module (merge.py). -/
import Derived.Test.YtkigfigdoaoboaaA5
import Derived.Test.YtkigfigdoaoboaaB12
import Derived.Test.YtkigfigdoaoboaaB7
import Derived.Test.YtkigfigdoaoboaaB22
section
/- Contracts: slots and pages are the same, as the laws say it. Printed by chg.py. -/
namespace Go.Proofs.Ytkigfigdoaoboaa.IM
open Go Go.Proofs
set_option linter.unusedVariables false
set_option linter.unusedSimpArgs false
set_option maxHeartbeats 2000000
set_option maxRecDepth 20000

theorem sameS_refl (x : Md.Slot) : sameS x x = true := by simp [sameS, sameO]
theorem lawSameSlot_p (d d' : D) (x y : Md.Slot) (h : IsSlot d x) (h' : IsSlot d' y) : PCall Try.prog 59 [d, d'] fun _ _ r => r = .lit (.bool (sameS x y)) := by
  obtain ⟨f, rfl, hst, k0, k1⟩ := h
  obtain ⟨f', rfl, hst', l0, l1⟩ := h'
  have k0 : f 0 = _ := k0
  have l0 : f' 0 = _ := l0
  have q := shp_obj _ _ k1
  have q' := shp_obj _ _ l1
  refine pcall_intro_v Try.func59 rfl (by decide) rfl (by decide) (by rw [Try.ntmps59]; simp) fun w0 M n0 => ivc_sound ?_; simp -dsimp only [Try.f59, go_sem, k0, l0, q.1, q.2.1, q'.1, q'.2.1]
  intro g1 b1 hb1 g2 b2 hb2
  refine ⟨fun hb => ?_, ?_⟩
  rotate_left
  · first | (simp [sameS, *]; done) | (simp_all [sameS]; done) | (simp_all [sameS]; omega)
  refine xcall_v (sameObj_p _ _ _ _ k1 l1) (by simp -dsimp only [go_sem, rl_still, q.2.2.2, q'.2.2.2]) (fun _ => trivial) fun n1 hn1 => ?_
  simp -dsimp only [go_sem, k0, l0]
  first | (simp [sameS, *]; done) | (simp_all [sameS]; done) | (simp_all [sameS]; omega)
theorem lawSamePage_p (d d' : D) (x : Md.Page) (h : IsPage d x) (h' : IsPage d' x) : PCall Try.prog 40 [d, d'] fun _ _ r => r = .lit (.bool true) := by
  obtain ⟨f, rfl, hst, k0, hl, f1, k1, k2, k3⟩ := h
  obtain ⟨f', rfl, hst', l0, _, f2, l1, l2, l3⟩ := h'
  have k0 : f 0 = _ := k0
  have l0 : f' 0 = _ := l0
  refine pcall_intro_v Try.func40 rfl (by decide) rfl (by decide) (by rw [Try.ntmps40]; simp) fun w0 M n0 => ivc_sound ?_; simp -dsimp only [Try.f40, go_sem, k0, l0, k1, l1]
  intro g1 b1 hb1 g2 b2 hb2
  refine iwp_forK 4 [2, 3] (fun i s => s 5 = .lit (.int .i64 i)) 0 (Nat.zero_le _) (by simp -dsimp only [go_sem]; rfl) ?_
  rintro i n' s hi hn hk h5
  refine ivc_sound ?_
  by_cases hlt : i < 4
  · have hw := i64_succ (i := i) (by omega)
    have hi4 : (i : Int) < 4 := by omega
    have q := k3 i (by omega)
    have q' := l3 i (by omega)
    have p := shp_slot _ _ q
    have p' := shp_slot _ _ q'
    simp -dsimp only [go_sem] at hk
    simp -dsimp only [go_sem, hk, h5, hlt, hw, hi4]
    refine iwp_plan [(0, true), (1, true), (2, true), (3, true), (4, true), (5, true), (6, true), (7, true), (8, false), (9, true)] [2, 3] rfl (by decide +kernel) (by decide) [] (by decide +kernel) ?_
    simp -dsimp only [go_sem, hk, h5, hlt, hw, hi4, k1, l1, p.1, p.2.1, p'.1, p'.2.1]
    refine xcall_v (lawSameSlot_p _ _ _ _ q q') (by simp -dsimp only [go_sem, rl_still, p.2.2.2, p'.2.2.2]) (fun _ => trivial) fun n1 hn1 => ?_
    simp -dsimp only [go_sem, hk, h5, hlt, hw, hi4, sameS_refl]
    refine into_k (by omega) (by simp -dsimp only [go_sem, hk]) (by simp -dsimp only [go_sem])
  · have hi4 : ¬ (i : Int) < 4 := by omega
    simp -dsimp only [go_sem] at hk
    simp -dsimp only [go_sem, hk, h5, hlt, hi4, k0, l0]
end Go.Proofs.Ytkigfigdoaoboaa.IM
end

section
/- What a change does to a pool. Printed by chg2.py. -/
namespace Go.Proofs.Ytkigfigdoaoboaa.IM
open Go Go.Proofs
set_option linter.unusedVariables false
set_option linter.unusedSimpArgs false
set_option maxHeartbeats 2000000
set_option maxRecDepth 20000

theorem seated_map {x y : Md.Pool} (no : Int) (h : y.seats.map (·.no) = x.seats.map (·.no)) : Md.seated y no = Md.seated x no := by
  have e : ∀ l : List Md.Seat, l.findIdx? (fun s => s.no == no) = (l.map (·.no)).findIdx? (fun s => s == no) := fun l => by rw [List.findIdx?_map]; rfl
  unfold Md.seated
  rw [e, e, h]
theorem seated_at {x : Md.Pool} {no : Int} (h : 0 ≤ Md.seated x no) : (x.seats[(Md.seated x no).toNat]'(seated_lt h)).no = no := by
  have hl := seated_lt h
  cases e : x.seats.findIdx? (fun s => s.no == no) with
  | none => have : Md.seated x no = -1 := by unfold Md.seated; rw [e]
            omega
  | some i =>
    have e1 : Md.seated x no = i := by unfold Md.seated; rw [e]
    have e2 : (Md.seated x no).toNat = i := by omega
    obtain ⟨h1, h2, _⟩ := List.findIdx?_eq_some_iff_getElem.1 e
    rw [getElem_congr_idx e2]
    simpa using h2
theorem chOk_k {x : Md.Pool} {no : Int} {y : Md.Page} (h : chOk x no y = true) : 0 ≤ Md.seated x no := by simp [chOk] at h; exact h.2.1
theorem chOk_y {x : Md.Pool} {no : Int} {y : Md.Page} (h : chOk x no y = true) : Md.pageOk y = true := by simp [chOk] at h; exact h.2.2.1
theorem chOk_x {x : Md.Pool} {no : Int} {y : Md.Page} (h : chOk x no y = true) : Md.poolOk x = true := by simp [chOk] at h; exact h.1
theorem nos_modify {l : List Md.Seat} {k : Nat} {f : Md.Seat → Md.Seat} (h : ∀ (hk : k < l.length), (f l[k]).no = l[k].no) : (l.modify k f).map (·.no) = l.map (·.no) := by
  refine List.ext_getElem (by simp) fun i h1 h2 => ?_
  simp only [List.getElem_map, List.getElem_modify]
  split
  · rename_i e; subst e; exact h _
  · rfl
theorem used_len (x : Md.Pool) (no : Int) : (used x no).seats.length = x.seats.length := by unfold used; split <;> simp
theorem used_hot {x : Md.Pool} {no : Int} (h : 0 ≤ Md.seated x no) : ∃ h1 : (Md.seated x no).toNat < (used x no).seats.length, ((used x no).seats[(Md.seated x no).toNat]'h1).hot = true := by
  have h1 : (Md.seated x no).toNat < (used x no).seats.length := by rw [used_len]; exact seated_lt h
  refine ⟨h1, ?_⟩
  have e : (used x no).seats = x.seats.modify (Md.seated x no).toNat fun s => { s with hot := true } := by unfold used; rw [if_pos h]
  simp only [e, List.getElem_modify, if_true]
theorem sum_modify (l : List Md.Seat) (k : Nat) (s : Md.Seat) : Md.sumBy Md.szSeat (l.modify k fun _ => s) ≤ Md.sumBy Md.szSeat l + Md.szSeat s := by
  induction l generalizing k with
  | nil => simp [Md.sumBy]
  | cons a l ih =>
    cases k with
    | zero => simp only [List.modify_zero_cons, Md.sumBy, List.map_cons, List.sum_cons]; omega
    | succ k => have := ih k; simp only [List.modify_succ_cons, Md.sumBy, List.map_cons, List.sum_cons] at this ⊢; omega
theorem sz_change (x : Md.Pool) (no : Int) (y : Md.Page) : Md.szPool (change x no y).1 ≤ Md.szPool x + Md.szPage y := by
  unfold change
  split
  · have := sum_modify x.seats (Md.seated x no).toNat ⟨no, y, true, true⟩
    have e : Md.szSeat ⟨no, y, true, true⟩ = Md.szPage y := rfl
    rw [e] at this
    simp only [Md.szPool, Md.szSeats, List.length_modify]
    omega
  · exact Nat.le_add_right _ _
/-- what a change leaves -/
structure Chgd (x : Md.Pool) (no : Int) (y : Md.Page) (k : Nat) (n c : Md.Pool) : Prop where
  ln : n.seats.length = x.seats.length
  lk : k < n.seats.length
  lc : k < c.seats.length
  at_ : n.seats[k] = ⟨no, y, true, true⟩
  cl : c.seats[k] = ⟨no, y, false, true⟩
  ok : Md.poolOk n = true
theorem chgd {x : Md.Pool} {no : Int} {y : Md.Page} (h : chOk x no y = true) : Chgd x no y (Md.seated x no).toNat (change x no y).1 (clean (change x no y).1 no) := by
  have hk := chOk_k h
  have hl := seated_lt hk
  have en := seated_at hk
  have hn : (change x no y).1 = ⟨x.seats.modify (Md.seated x no).toNat fun _ => ⟨no, y, true, true⟩, x.hand⟩ := by rw [change_yes h]
  have hmap : (change x no y).1.seats.map (·.no) = x.seats.map (·.no) := by rw [hn]; exact nos_modify fun _ => en.symm
  have hs := seated_map no hmap
  have hc : (clean (change x no y).1 no).seats = (change x no y).1.seats.modify (Md.seated x no).toNat fun s => { s with dirty := false } := by
    unfold clean; rw [hs, if_pos hk]
  have l1 : (change x no y).1.seats.length = x.seats.length := by rw [hn]; simp
  have l2 : (Md.seated x no).toNat < (change x no y).1.seats.length := by rw [l1]; exact hl
  have a1 : (change x no y).1.seats[(Md.seated x no).toNat] = ⟨no, y, true, true⟩ := by simp only [hn, List.getElem_modify, if_true]
  refine ⟨l1, l2, by rw [hc]; simpa using l2, a1, by simp only [hc, List.getElem_modify, if_true, a1], ?_⟩
  have hx := chOk_x h
  unfold Md.poolOk at hx ⊢
  rw [hmap, l1]
  simp only [Bool.and_eq_true] at hx ⊢
  refine ⟨⟨⟨?_, hx.1.1.2⟩, hx.1.2⟩, by rw [hn]; exact hx.2⟩
  rw [List.all_eq_true] at hx ⊢
  intro s hs
  obtain ⟨i, hi, rfl⟩ := List.getElem_of_mem hs
  have hi' : i < x.seats.length := by rw [← l1]; exact hi
  by_cases e : (Md.seated x no).toNat = i
  · subst e
    rw [a1]
    have := hx.1.1.1 _ (List.getElem_mem hl)
    rw [en] at this
    simp only [Bool.and_eq_true] at this ⊢
    exact ⟨this.1, chOk_y h⟩
  · have : (change x no y).1.seats[i] = x.seats[i] := by simp only [hn, List.getElem_modify, if_neg e]
    rw [this]
    exact hx.1.1.1 _ (List.getElem_mem hi')
end Go.Proofs.Ytkigfigdoaoboaa.IM
end

section
/- The law FnChanged. Printed by chg2.py. -/
namespace Go.Proofs.Ytkigfigdoaoboaa.IM
open Go Go.Proofs
set_option linter.unusedVariables false
set_option linter.unusedSimpArgs false
set_option maxHeartbeats 2000000
set_option maxRecDepth 20000

theorem DrawnR.tags {n0 n1 : Nat} {r : D} (h : DrawnR n0 n1 r) : r.tags (n0 ≤ ·) := by
  obtain ⟨a, b, k, x, y, rfl, _, _, _, _, ho⟩ := h
  intro i hi
  have hi' : i < 3 := hi
  match i, hi' with
  | 0, _ => exact ho.oa.tags
  | 1, _ => trivial
  | 2, _ => exact ho.ob.tags
theorem lawChanged (d : D) (xs : List Int) (h : IsL 1 IsByte d xs) : PCall Try.prog 6 [d] fun _ _ r => r = .lit (.bool true) := by
  have hd : d.data := IsL.data (fun d x h => by have h : d = _ := h; subst h; trivial) h
  refine pcall_intro_v Try.func6 rfl (by decide) rfl (by decide) (by rw [Try.ntmps6]; simp) fun w0 M n0 => ivc_sound ?_; simp -dsimp only [Try.f6, go_sem, h.lenT]
  refine xcall_v (big_p d xs h) (by simp -dsimp only [go_sem, rl_still, h.still]) (fun _ => trivial) fun n1 hn1 => ?_
  rcases Bool.eq_false_or_eq_true (decide ((1048576 : Int) < xs.length)) with hb | hb
  · simp -dsimp only [go_sem, hb]
  · simp -dsimp only [go_sem, hb]
    refine xcall_p (drawChange_p d xs h hd) (by simp -dsimp only [go_sem, rl_still, h.still]) fun m0 m1 r hm0 hm1 hr => ?_
    refine ⟨hr.tags, ?_⟩
    obtain ⟨dp, dy, no, x, y, rfl, hx, hxs, hy, hys, ho⟩ := hr
    have hxd := IsPool.data hx
    have hyd := IsPage.data hy
    have zp := shp_pool _ _ hx
    have yp := shp_page _ _ hy
    simp -dsimp only [go_sem, zp.1, zp.2.1, zp.2.2.1, yp.1, yp.2.1, yp.2.2.1]
    intro g3 b3 hb3 g5 b5 hb5
    refine xcall_p (change_p _ _ x no y hx hy (by omega) (by omega) hxd hyd) (by simp -dsimp only [go_sem, rl_still, zp.2.2.2, yp.2.2.2]) fun m2 m3 r hm2 hm3 hr => ?_
    obtain ⟨dn, rfl, hn, hno⟩ := hr.out
    have np := shp_pool _ _ hn
    refine ⟨tags_two hno.tags, ?_⟩
    simp -dsimp only [go_sem, zp.1, zp.2.1, zp.2.2.1, yp.1, yp.2.1, yp.2.2.1, np.1, np.2.1, np.2.2.1]
    intro g6 b6 hb6
    refine xcall_p (specChange_p _ _ x no y hx hy (by omega) (by omega) hxd hyd) (by simp -dsimp only [go_sem, rl_still, zp.2.2.2, yp.2.2.2]) fun m4 m5 r hm4 hm5 hr => ?_
    obtain ⟨ds, rfl, hs, hso⟩ := hr.out
    have sp := shp_pool _ _ hs
    refine ⟨tags_two hso.tags, ?_⟩
    simp -dsimp only [go_sem, zp.1, zp.2.1, zp.2.2.1, yp.1, yp.2.1, yp.2.2.1, np.1, np.2.1, np.2.2.1, sp.1, sp.2.1, sp.2.2.1]
    intro g8 b8 hb8
    refine xcall_p (used_p _ x no hx (by omega) hxd) (by simp -dsimp only [go_sem, rl_still, zp.2.2.2, yp.2.2.2]) fun m6 m7 r hm6 hm7 hr => ?_
    obtain ⟨hu, huo⟩ := hr.out
    have up := shp_pool _ _ hu
    refine ⟨huo.tags, ?_⟩
    obtain ⟨qx, rfl, hxs', hx0, hx1⟩ := id hx
    obtain ⟨qu, rfl, hus', hu0, hu1⟩ := id hu
    obtain ⟨qn, rfl, hns', hn0, hn1'⟩ := id hn
    have hul := used_len x no
    simp -dsimp only [go_sem, zp.1, zp.2.1, zp.2.2.1, yp.1, yp.2.1, yp.2.2.1, np.1, np.2.1, np.2.2.1, sp.1, sp.2.1, sp.2.2.1, up.1, up.2.1, up.2.2.1, hx0.lenT, hx0.size, hx0.isNode, hx0.plain, hu0.lenT, hu0.size, hu0.isNode, hu0.plain, hul, bne_self_eq_false, Bool.false_eq_true, false_imp_iff, true_and, and_true, forall_const]
    intro g10 b10 hb10
    refine xcall_v (seated_p _ x no hx) (by simp -dsimp only [go_sem, rl_still, zp.2.2.2]) (fun _ => trivial) fun n9 hn9 => ?_
    simp -dsimp only [go_sem, zp.1, zp.2.1, zp.2.2.1, yp.1, yp.2.1, yp.2.2.1, np.1, np.2.1, np.2.2.1, sp.1, sp.2.1, sp.2.2.1, up.1, up.2.1, up.2.2.1, hx0.lenT, hx0.size, hx0.isNode, hx0.plain, hu0.lenT, hu0.size, hu0.isNode, hu0.plain, hul, bne_self_eq_false, Bool.false_eq_true, false_imp_iff, true_and, and_true, forall_const]
    cases hok : chOk x no y with
    | false =>
      have hc2 : (change x no y).2 = false := by rw [change_no hok]
      have hln : (change x no y).1.seats.length = x.seats.length := by rw [change_no hok]
      by_cases hk : Md.seated x no < 0
      · simp -dsimp only [go_sem, hc2, hln, hk, hx0.lenT, hx0.size, hx0.isNode, hx0.plain, hn0.lenT, hn0.size, hn0.isNode, hn0.plain, bne_self_eq_false, Bool.false_eq_true, false_imp_iff, true_and, and_true, forall_const, beq_self_eq_true]
      · have hk0 : 0 ≤ Md.seated x no := by omega
        obtain ⟨hkl, hkh⟩ := used_hot hk0
        obtain ⟨k, ek⟩ := Int.eq_ofNat_of_zero_le hk0
        have ek' : (Md.seated x no).toNat = k := by omega
        rw [ek'] at hkl
        simp only [ek'] at hkh
        obtain ⟨t, zb, f, u0, us, uf⟩ := hu0.sl hkl
        obtain ⟨g, hg, gs, s0, s1, s2, s3⟩ := uf k hkl
        have s3 : g 3 = _ := s3
        have hnk : ¬ (k : Int) < 0 := by omega
        rw [hul] at hkl
        simp -dsimp only [go_sem, hc2, hln, ek, hnk, hx0.lenT, hx0.size, hx0.isNode, hx0.plain, hn0.lenT, hn0.size, hn0.isNode, hn0.plain, u0, hul, hkl, hg, s3, hkh, bne_self_eq_false, Bool.false_eq_true, false_imp_iff, true_and, and_true, forall_const, beq_self_eq_true]
    | true =>
      have hc2 : (change x no y).2 = true := by rw [change_yes hok]
      simp -dsimp only [go_sem, hc2, bne_self_eq_false, Bool.false_eq_true, false_imp_iff, true_and, and_true, forall_const]
      have C := chgd hok
      have hk0 := chOk_k hok
      have hsz := sz_change x no y
      refine xcall_p (clean_p _ _ no hn (by omega) (IsPool.data hn)) (by simp -dsimp only [go_sem, rl_still, np.2.2.2]) fun m8 m9 r hm8 hm9 hr => ?_
      obtain ⟨hc, hco⟩ := hr.out
      have cp := shp_pool _ _ hc
      refine ⟨hco.tags, ?_⟩
      simp -dsimp only [go_sem, zp.1, zp.2.1, zp.2.2.1, yp.1, yp.2.1, yp.2.2.1, np.1, np.2.1, np.2.2.1, cp.1, cp.2.1, cp.2.2.1]
      intro g12 b12 hb12
      refine iwp_plan [(0, true), (1, true), (2, true), (3, true), (4, true), (5, true), (6, true), (7, true), (8, true), (9, true), (10, false), (11, true), (12, true), (13, true), (14, true), (15, true), (16, true), (17, true), (18, true), (19, true), (20, true), (21, true), (22, true), (23, true), (24, true), (25, true), (26, true), (27, true), (28, true), (29, true), (30, true), (31, true), (32, true), (33, true), (34, true), (35, true), (36, true), (37, false), (38, true), (39, true), (40, true), (41, true), (42, true), (43, true), (44, true), (45, true), (46, true), (47, true), (48, true), (49, false), (50, true), (51, true)] [5, 6, 10, 12] rfl (by decide +kernel) (by decide) [] (by decide +kernel) ?_
      obtain ⟨qc, rfl, hcs', hc0, hc1⟩ := id hc
      obtain ⟨hkl, hkh⟩ := used_hot hk0
      obtain ⟨k, ek⟩ := Int.eq_ofNat_of_zero_le hk0
      have ek' : (Md.seated x no).toNat = k := by omega
      rw [ek'] at hkl C
      simp only [ek'] at hkh
      obtain ⟨t, zb, f, u0, us, uf⟩ := hu0.sl hkl
      obtain ⟨t1, zb1, f1, v0, vs, vf⟩ := hn0.sl C.lk
      obtain ⟨t2, zb2, f2, w0', ws, wf⟩ := hc0.sl C.lc
      obtain ⟨g, hg, gs, s0, s1, s2, s3⟩ := uf k hkl
      obtain ⟨g', hg', gs', s0', s1', s2', s3'⟩ := vf k C.lk
      obtain ⟨g'', hg'', gs'', s0'', s1'', s2'', s3''⟩ := wf k C.lc
      have s3 : g 3 = _ := s3
      have s2' : g' 2 = _ := s2'
      have s2'' : g'' 2 = _ := s2''
      rw [C.at_] at s1' s2'
      rw [C.cl] at s1'' s2''
      have p1 := shp_page _ _ s1'
      have p2 := shp_page _ _ s1''
      have hCk := C.lk
      have hCc := C.lc
      have hnk : (0 : Int) ≤ (k : Int) := by omega
      simp -dsimp only [go_sem, ek, hnk, v0, hCk, hg', p1.1, p1.2.1, p1.2.2.1, yp.1, yp.2.1, yp.2.2.1, s2', bne_self_eq_false, Bool.false_eq_true, false_imp_iff, true_and, and_true, forall_const, beq_self_eq_true]
      refine xcall_v (lawSamePage_p _ _ y s1' hy) (by simp -dsimp only [go_sem, rl_still, p1.2.2.2, yp.2.2.2]) (fun _ => trivial) fun n13 hn13 => ?_
      simp -dsimp only [go_sem, ek, hnk, v0, hCk, hg', p1.1, p1.2.1, p1.2.2.1, yp.1, yp.2.1, yp.2.2.1, s2', w0', hCc, hg'', s2'', p2.1, p2.2.1, p2.2.2.1, bne_self_eq_false, Bool.false_eq_true, false_imp_iff, true_and, and_true, forall_const, beq_self_eq_true]
      refine xcall_v (lawSamePage_p _ _ y s1'' hy) (by simp -dsimp only [go_sem, rl_still, p2.2.2.2, yp.2.2.2]) (fun _ => trivial) fun n14 hn14 => ?_
      rw [hul] at hkl
      simp -dsimp only [go_sem, ek, hnk, u0, hul, hkl, hg, s3, hkh, np.1, np.2.1, np.2.2.1, bne_self_eq_false, Bool.false_eq_true, false_imp_iff, true_and, and_true, forall_const, beq_self_eq_true]
      refine xcall_v (poolOk_p _ _ hn) (by simp -dsimp only [go_sem, rl_still, np.2.2.2]) (fun _ => trivial) fun n15 hn15 => ?_
      simp -dsimp only [go_sem, C.ok, bne_self_eq_false, Bool.false_eq_true, false_imp_iff, true_and, and_true, forall_const, beq_self_eq_true]
end Go.Proofs.Ytkigfigdoaoboaa.IM
end
