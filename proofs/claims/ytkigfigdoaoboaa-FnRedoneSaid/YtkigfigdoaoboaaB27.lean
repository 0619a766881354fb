/- Several of my texts in one module (merge.py). -/
import Derived.Test.YtkigfigdoaoboaaB22
import Derived.Test.YtkigfigdoaoboaaB20
import Derived.Test.YtkigfigdoaoboaaA6
import Derived.Test.YtkigfigdoaoboaaB30
section
/- Contracts: drawn slots, pages. Printed by draws4.py. -/
namespace Go.Proofs.Ytkigfigdoaoboaa.IM
open Go Go.Proofs
set_option linter.unusedVariables false
set_option linter.unusedSimpArgs false
set_option maxHeartbeats 2000000
set_option maxRecDepth 20000

theorem own_one {lo hi i0 : Nat} {k : Kd} {f : Nat → D} (h : Own lo hi (f i0)) (h0 : i0 < k.cnt) (hp : ∀ i, i < k.cnt → i ≠ i0 → (f i).tl = [] ∧ (f i).whole) : Own lo hi (.node k f) := by
  refine own_node ⟨fun i hi t ht => ?_, fun i hi => ?_, fun i j hij hj t ht ht' => ?_, fun i hi => ?_⟩
  · by_cases e : i = i0
    · subst e; exact h.rg t ht
    · rw [(hp i hi e).1] at ht; simp at ht
  · by_cases e : i = i0
    · subst e; exact h.nd
    · rw [(hp i hi e).1]; simp
  · by_cases e : i = i0
    · subst e; rw [(hp j hj (by omega)).1] at ht'; simp at ht'
    · rw [(hp i (by omega) e).1] at ht; simp at ht
  · by_cases e : i = i0
    · subst e; exact h.wh
    · exact (hp i hi e).2
theorem cx_end {e c cc r : D} {N n0 n1 : Nat} {A : D → Prop} (hc : Cur e N c) (hcc : Cur e N cc) (hd : e.data) (hr : A r) (ho : Own n0 n1 r) : BEnd (CurX e N A) c n0 n1 cc r :=
  ⟨⟨hcc, hr, ho⟩, hcc.shape.2.2.1, cur_tags hc hcc hd, tags_of_tl (whole_data ho.wh) fun t ht => .inr (ho.rg t ht).1⟩
def SlotA (r : D) : Prop := ∃ s, IsSlot r s ∧ Md.szSlot s ≤ 5
def PageA (m : Nat) (r : D) : Prop := ∃ p, IsPage r p ∧ Md.szPage p ≤ m
theorem own_zSlot (lo hi : Nat) : Own lo hi zSlotD := ⟨fun t ht => by have : zSlotD.tl = [] := rfl; rw [this] at ht; simp at ht, by have : zSlotD.tl = [] := rfl; rw [this]; simp, whole_zSlot⟩
/-- a slot with an object -/
def slotU (o : D) : D := .node (.agg [1, 3]) (upd (upd (nthD [.lit (.bool false), zObjD]) 0 (.lit (.bool true))) 1 o)
theorem isSlot_U {o : D} {x : Md.Obj} (h : IsObj o x) : IsSlot (slotU o) ⟨true, x⟩ := ⟨_, rfl, still_upd (still_upd (stN (by simp only [stillL_nil, stillL_cons, still_lit, still_zObj, and_self])) trivial) (shp_obj _ _ h).2.2.2, rfl, h⟩
theorem own_slotU {o : D} {lo hi : Nat} (h : Own lo hi o) : Own lo hi (slotU o) := own_one (i0 := 1) h (by decide) fun i hi hne => by
  have hi' : i < 2 := hi
  have : i = 0 := by omega
  subst this; exact ⟨rfl, trivial⟩
theorem l3DrawSlot_b (e c : D) (xs : List Int) (h : IsL 1 IsByte e xs) (hd : e.data) (hc : Cur e xs.length c) : BCall Try.prog 223 .nil c [] (CurX e xs.length SlotA) := by
  have sc := hc.shape
  refine bcall_intro Try.func223 rfl (by decide) rfl (by decide) (by rw [Try.ntmps223]; simp) fun w0 M n0 gb hW hS hT hgb => ivc_sound ?_; simp -dsimp only [Try.f223, go_sem, sc.1, sc.2.1, sc.2.2.1]
  intro g2 b2 hb2
  refine xcall_cs (l := 1000) (g := 0) (b := gb) (l1Once_b e c xs 3 h hd hc (by decide) (by decide)) (by simp -dsimp only [go_sem]) ⟨trivial, trivial⟩ (by simp -dsimp only [go_sem]) sc.2.2.2 fun n5 n6 c1 r hn5 hn6 hq => ?_
  obtain ⟨hc1, v, rfl⟩ := hq
  have sc1 := hc1.shape
  have hn5' : b2 + 1 ≤ n5 := hn5
  have zs : zSlotD.size = 4 := rfl
  have zp : zSlotD.plain := plain_node _ _
  cases v with
  | true =>
    simp -dsimp only [go_sem, sc1.1, sc1.2.1, sc1.2.2.1]
    refine ⟨_, rfl, fun n1 hn1 hfc => ?_⟩
    rw [rl_still sc1.2.2.2]
    exact cx_end hc hc1 hd ⟨Md.zSlot, (rl_still (d := zSlotD) still_zSlot).symm ▸ isSlot_z, Nat.zero_le _⟩ ((rl_still (d := zSlotD) still_zSlot).symm ▸ own_zSlot _ _)
  | false =>
    simp -dsimp only [go_sem, sc1.1, sc1.2.1, sc1.2.2.1]
    refine xcall_cs (l := 1000) (g := 0) (b := gb) (l2Obj_b e c1 xs h hd hc1) (by simp -dsimp only [go_sem]) trivial (by simp -dsimp only [go_sem]) sc1.2.2.2 fun n7 n8 c2 r hn7 hn8 hq => ?_
    obtain ⟨hc2, ⟨o, ho1, ho2⟩, ho3⟩ := hq
    have sc2 := hc2.shape
    have op := shp_obj _ _ ho1
    have hn7' : n6 ≤ n7 := hn7
    simp -dsimp only [go_sem, sc2.1, sc2.2.1, sc2.2.2.1, op.1, op.2.1, op.2.2.1]
    refine ⟨_, rfl, fun n1 hn1 hfc => ?_⟩
    have hn1' : n8 ≤ n1 := hn1
    have hU := isSlot_U ho1
    have hUs := (shp_slot _ _ hU).2.2.2
    rw [rl_still sc2.2.2.2]
    exact cx_end hc hc2 hd ⟨⟨true, o⟩, (rl_still (d := slotU r) hUs).symm ▸ hU, ho2⟩ ((rl_still (d := slotU r) hUs).symm ▸ (own_slotU ho3).mono (by omega) (by omega))
theorem Fill.grow {α : Type} {R : D → α → Prop} {sz lo hi n i : Nat} {xs : List α} {x : α} {f : Nat → D} (h : Fill R sz lo hi xs n i f) (hl : xs.length = i) : Fill R sz lo hi (xs ++ [x]) n i f :=
  ⟨h.st, h.sh, fun j hj hji => by rw [List.getElem_append_left (by omega)]; exact h.ok j (by omega) hji, h.own⟩
theorem sum_snoc {α : Type} (f : α → Nat) (l : List α) (x : α) : Md.sumBy f (l ++ [x]) = Md.sumBy f l + f x := by simp [Md.sumBy]
theorem l3DrawPage_b (e c : D) (xs : List Int) (h : IsL 1 IsByte e xs) (hd : e.data) (hc : Cur e xs.length c) : BCall Try.prog 180 .nil c [] (CurX e xs.length (PageA 20)) := by
  have sc := hc.shape
  refine bcall_intro Try.func180 rfl (by decide) rfl (by decide) (by rw [Try.ntmps180]; simp) fun w0 M n0 gb hW hS hT hgb => ivc_sound ?_; simp -dsimp only [Try.f180, go_sem, sc.1, sc.2.1, sc.2.2.1]
  intro g2 b2 hb2
  refine xcall_cs (l := 1000) (g := 0) (b := gb) (l1Below_b e c xs 30 h hd hc (by decide) (by decide)) (by simp -dsimp only [go_sem]) ⟨trivial, trivial⟩ (by simp -dsimp only [go_sem]) sc.2.2.2 fun n5 n6 c1 r hn5 hn6 hq => ?_
  obtain ⟨hc1, v, rfl, v0, v1⟩ := hq
  have sc1 := hc1.shape
  have hn5' : b2 + 1 ≤ n5 := hn5
  simp -dsimp only [go_sem, sc1.1, sc1.2.1, sc1.2.2.1]
  intro g3 b3 hb3
  have hb3' : n6 ≤ b3 := hb3
  refine iwp_forR 4 [0, 2, 3] (fun i n' s R => s 4 = .lit (.int .i64 i) ∧ ∃ cc q f sl, Cur e xs.length cc ∧ (∀ j, (q j).still) ∧ q 0 = .lit (.int .i64 v) ∧ q 1 = .node (.arr 4 4) f ∧ sl.length = i ∧ Fill IsSlot 4 n0 n' sl 4 i f ∧ Md.sumBy Md.szSlot sl ≤ 5 * i ∧
      R = upd (upd (upd (fun _ => none) 1000 (some (0, gb, cc))) 2 (some (g2, b2, zPageD))) 3 (some (g3, b3, .node (.agg [1, 16]) q))) 0 (Nat.zero_le _)
    ⟨by simp -dsimp only [go_sem]; rfl, c1, upd (nthD [.lit (.int .i64 0), zSlotsD]) 0 (.lit (.int .i64 v)), fun _ => zSlotD, [], hc1, still_upd (d := .lit (.int .i64 v)) (stN (l := [.lit (.int .i64 0), zSlotsD]) (by simp only [stillL_nil, stillL_cons, still_lit, still_zSlots, and_self])) trivial, by simp -dsimp only [go_sem], rfl, rfl, Fill.start (fun _ => still_zSlot) (fun _ _ => ⟨plain_node _ _, rfl⟩), Nat.le_refl _, rfl⟩ ?_
  rintro i n' s R hi hn hk ⟨h4, cc, q, f, sl, hcc, hqs, q0, q1, hsl, hF, hsz, rfl⟩
  refine ivc_sound ?_
  simp -dsimp only [go_sem] at hk
  have scc := hcc.shape
  have hn' : b3 + 1 ≤ n' := hn
  by_cases hlt : i < 4
  · have hlt' : (i : Int) < 4 := by omega
    have hw := i64_succ (i := i) (by omega)
    simp -dsimp only [go_sem, hk, h4, hlt, hlt']
    refine xcall_cs (l := 1000) (g := 0) (b := gb) (l3DrawSlot_b e cc xs h hd hcc) (by simp -dsimp only [go_sem, hk]) trivial (by simp -dsimp only [go_sem]) scc.2.2.2 fun m1 m2 c3 r hm1 hm2 hq => ?_
    obtain ⟨hc3, ⟨sn, hs1, hs2⟩, hs3⟩ := hq
    have sp := shp_slot _ _ hs1
    have hm1' : n' ≤ m1 := hm1
    have hfi := hF.sh i hlt
    simp -dsimp only [go_sem, hk, h4, hlt, hlt', hw, q0, q1, sp.1, sp.2.1, sp.2.2.1, hfi.1, hfi.2]
    exact into_r (by omega) (by simp -dsimp only [go_sem, hk]) ⟨by simp -dsimp only [go_sem], c3, _, upd f i r, sl ++ [sn], hc3, still_upd hqs (show (D.node (.arr 4 4) _).still from still_upd hF.st sp.2.2.2), by simp -dsimp only [go_sem, q0], by simp -dsimp only [go_sem], by simp [hsl],
      (Fill.grow (x := sn) hF hsl).step (R := IsSlot) shp_slot (by simp; omega) (by rw [show (sl ++ [sn])[i]'(by simp; omega) = sn from by subst hsl; simp]; exact hs1) hs3 (by omega) (by omega) (Nat.le_refl _) (by omega), by rw [sum_snoc]; omega, rfl⟩
  · have hlt' : ¬ (i : Int) < 4 := by omega
    have hi4 : i = 4 := by omega
    subst hi4
    simp -dsimp only [go_sem, hk, h4, hlt', q0, q1]
    refine ⟨plain_node _ _, rfl, _, rfl, fun n1 hn1 hfc => ?_⟩
    have hn1' : n' ≤ n1 := hn1
    have hA := hF.isA hsl (Nat.lt_irrefl _)
    rw [rl_still scc.2.2.2, rlnode_still hqs]
    refine cx_end hc hcc hd ⟨⟨v, sl⟩, ⟨q, rfl, hqs, q0, by rw [q1]; exact hA.1⟩, by show Md.sumBy _ _ ≤ _; omega⟩ (own_one (i0 := 1) (by rw [q1]; exact hA.2.mono (Nat.le_refl _) hn1') (by decide) fun i hi hne => ?_)
    have : i = 0 := by have : i < 2 := hi; omega
    subst this; rw [q0]; exact ⟨rfl, trivial⟩
end Go.Proofs.Ytkigfigdoaoboaa.IM
end

section
/- Contracts: bent objects, any pages. Printed by draws5.py. -/
namespace Go.Proofs.Ytkigfigdoaoboaa.IM
open Go Go.Proofs
set_option linter.unusedVariables false
set_option linter.unusedSimpArgs false
set_option maxHeartbeats 2000000
set_option maxRecDepth 20000

/-- a slice that hangs on a root is melted, with the slots that are kept -/
theorem iwp_meltK {P : Program} {w0 : World} {M : Fr} {c : Code} {Q : Exit → St → Prop} {N n t m sz l lq gq bq : Nat} {f s : Nat → D} {R R' : Roots} {xq : D} {xq' : Nat → D} (keep : List Nat)
    (hW : wr w0 M t) (hl : R l = none) (hf : ∀ i, i < m → (f i).free t) (hq : R lq = some (gq, bq, xq)) (hhas : Has (.sl t true m sz f) xq) (hx : ∀ g, (xq' g).plain ∧ Thaw t m sz f l g xq (xq' g)) (hs : ∀ j ∈ keep, (s j).free t)
    (hne : lq ≠ l) (hR : ∀ l' g b x, R' l' = some (g, b, x) → l' ≠ lq → R l' = some (g, b, x) ∧ x.plain ∧ x.free t)
    (hk : ∀ g, IWp P w0 M c Q ⟨N, n, pickS s keep (fun _ => .any), upd (upd R' lq (some (gq, bq, xq' g))) l (some (g, t, .node (.arr m sz) f))⟩) : IWp P w0 M c Q ⟨N, n, s, R⟩ := by
  refine iwp_into (Into.thawR ⟨t, m, sz, f, l, hW, hl, hf, ⟨lq, gq, bq, xq, hq, hhas⟩, fun g => ⟨pickS s keep (fun _ => .any), upd (upd R' lq (some (gq, bq, xq' g))) l (some (g, t, .node (.arr m sz) f)), fun j => thaw_pick hs j, fun l' => ?_, Into.of (hk g)⟩⟩)
  by_cases hll : l' = l
  · subst hll; exact .inr (.inl ⟨rfl, upd_same _ _ _⟩)
  · rw [upd_ne _ _ hll]
    by_cases hlq : l' = lq
    · subst hlq; rw [upd_same]
      exact .inr (.inr ⟨hll, gq, bq, xq, xq' g, hq, rfl, (hx g).1, (hx g).2⟩)
    · rw [upd_ne _ _ hlq]
      cases hxx : R' l' with
      | none => exact .inl rfl
      | some y =>
        obtain ⟨g0, b, x⟩ := y
        obtain ⟨h1, h2, h3⟩ := hR _ _ _ _ hxx hlq
        exact .inr (.inr ⟨hll, g0, b, x, x, h1, rfl, h2, .free _ h3⟩)
theorem isL_row {d : D} {ys : List Int} {lo hi : Nat} (h : IsL 1 IsInt d ys) (ho : Own lo hi d) : (d = .nil ∧ ys = []) ∨ ∃ t f, d = .sl t true ys.length 1 f ∧ IntRow f ys ∧ lo ≤ t ∧ t < hi := by
  rcases h with ⟨rfl, rfl⟩ | ⟨t, zb, f, rfl, hst, hl, hf⟩
  · exact .inl ⟨rfl, rfl⟩
  · obtain rfl : zb = true := ho.wh.1
    have ht := ho.rg t (by simp [D.tl])
    exact .inr ⟨t, f, rfl, ⟨hst, hf⟩, ht⟩
theorem own_lit0 {lo hi i : Nat} {k : Kd} {f : Nat → D} {v : Value} (h : Own lo hi (.node k f)) (h0 : (f i).tl = []) : Own lo hi (.node k (upd f i (.lit v))) := by
  have e : (D.node k (upd f i (.lit v))).tl = (D.node k f).tl := tl_upd (by rw [h0]; rfl)
  exact ⟨fun t ht => h.rg t (e ▸ ht), e ▸ h.nd, wh_upd h.wh trivial⟩
theorem Cur.child {e d : D} {N : Nat} (h : Cur e N d) (hd : e.data) : d.data := by
  obtain ⟨f, i, hh, rfl, hs, h0, h1, _, h2⟩ := h
  intro j hj
  have hj' : j < 3 := hj
  match j, hj' with
  | 0, _ => rw [h0]; exact hd
  | 1, _ => rw [h1]; trivial
  | 2, _ => rw [h2]; trivial
theorem Cur.etags {e d : D} {N : Nat} (h : Cur e N d) {p : Nat → Prop} (ht : d.tags p) : e.tags p := by
  obtain ⟨f, i, hh, rfl, hs, h0, _⟩ := h
  have := ht 0 (by decide)
  rwa [h0] at this
theorem zObj_free (t : Nat) : zObjD.free t := free_nil whole_zObj (by rw [show zObjD.tl = [] from rfl]; simp)
theorem row_zero (n : Nat) : IntRow (fun _ => .lit (.int .i64 0)) (List.replicate n 0) := ⟨fun _ => trivial, fun i hi => by rw [List.getElem_replicate]⟩
def ObjA (m : Nat) (r : D) : Prop := ∃ o, IsObj r o ∧ Md.szObj o ≤ m
theorem cobj_endM {e c cc : D} {N n0 n1 k m : Nat} {F : Relab} {q : Nat → D} {a b : D} {k0 : Int} {o : Md.Obj} (hc : Cur e N c) (hcc : Cur e N cc) (hd : e.data)
    (hob : IsObj (.node (.agg [1, 1, 1]) (nthD [.lit (.int .i64 k0), a, b])) o ∧ Own n0 n1 (.node (.agg [1, 1, 1]) (nthD [.lit (.int .i64 k0), a, b]))) (hs : Md.szObj o ≤ m)
    (h0 : rl k F (q 0) = .lit (.int .i64 k0)) (h1 : rl k F (q 1) = a) (h2 : rl k F (q 2) = b) (hq : ∀ j, (q j).still ∨ j = 1 ∨ j = 2) :
    BEnd (CurX e N (ObjA m)) c n0 n1 cc (.node (.agg [1, 1, 1]) fun i => rl k F (q i)) := by
  obtain ⟨⟨f, ef, hfs, k0', k1', k2'⟩, ho⟩ := hob
  cases ef
  have k0'' : IsInt (.lit (.int .i64 k0)) o.kind := k0'
  have k1'' : IsL 1 IsInt a o.ints := k1'
  have k2'' : IsL 1 IsInt b o.refs := k2'
  have hst : ∀ j, (rl k F (q j)).still := fun j => by
    rcases hq j with h | rfl | rfl
    · rw [rl_still h]; exact h
    · rw [h1]; exact k1''.still
    · rw [h2]; exact k2''.still
  have ch : ∀ i, i < 3 → rl k F (q i) = nthD [.lit (.int .i64 k0), a, b] i := fun i hi => by
    match i, hi with
    | 0, _ => exact h0
    | 1, _ => exact h1
    | 2, _ => exact h2
  have hO : Own n0 n1 (.node (.agg [1, 1, 1]) fun i => rl k F (q i)) := by
    refine own_node ⟨fun i hi t ht => ?_, fun i hi => ?_, fun i j hij hj t ht ht' => ?_, fun i hi => ?_⟩
    · rw [ch i hi] at ht; exact ho.node.rg i hi t ht
    · rw [ch i hi]; exact ho.node.nd i hi
    · have hj' : j < 3 := hj
      rw [ch i (by omega)] at ht; rw [ch j hj] at ht'; exact ho.node.dj i j hij hj t ht ht'
    · rw [ch i hi]; exact ho.node.wh i hi
  refine cx_end hc hcc hd ⟨o, ⟨_, rfl, hst, ?_, ?_, ?_⟩, hs⟩ hO
  · show IsInt (rl k F (q 0)) _; rw [h0]; exact k0''
  · show IsL 1 IsInt (rl k F (q 1)) _; rw [h1]; exact k1''
  · show IsL 1 IsInt (rl k F (q 2)) _; rw [h2]; exact k2''
theorem l2Bend_b (e c d2 : D) (xs : List Int) (x : Md.Obj) (h : IsL 1 IsByte e xs) (hd : e.data) (hc : Cur e xs.length c) (h2 : IsObj d2 x) (hs2 : Md.szObj x ≤ 1000) : BCall Try.prog 181 .nil c [d2] (CurX e xs.length (ObjA (Md.szObj x + 7))) := by
  have sc := hc.shape
  have y := shp_obj _ _ h2
  refine bcall_intro Try.func181 rfl (by decide) rfl (by decide) (by rw [Try.ntmps181]; simp) fun w0 M n0 gb hW hS hT hgb => ivc_sound ?_; simp -dsimp only [Try.f181, go_sem, sc.1, sc.2.1, sc.2.2.1, y.1, y.2.1, y.2.2.1]
  have eT : e.tags (· < n0) := by
    exact hc.etags (hT c (by simp) (hc.child hd))
  have dT : d2.tags (· < n0) := hT _ (by simp) h2.data
  intro g3 b3 hb3 g4 b4 hb4
  refine xcall_p (l2Copy_p _ _ h2 (by omega)) (by simp -dsimp only [go_sem, rl_still, y.2.2.2]) fun m0 p0 r0 hm0 hp0 hr0 => ?_
  have hm0' : b4 + 1 ≤ m0 := hm0
  have ho := hr0.2
  have hob := hr0.1
  obtain ⟨q, rfl, hqs, q0, q1, q2⟩ := hr0.1
  have q0 : q 0 = _ := q0
  have zp := shp_obj _ _ hob
  refine ⟨ho.tags, ?_⟩
  simp -dsimp only [go_sem, y.1, y.2.1, y.2.2.1, zp.1, zp.2.1, zp.2.2.1]
  refine xcall_cs (l := 1000) (g := 0) (b := gb) (l1Below_b e c xs 5 h hd hc (by decide) (by decide)) (by simp -dsimp only [go_sem]) ⟨trivial, trivial⟩ (by simp -dsimp only [go_sem]) sc.2.2.2 fun n5 n6 c1 r hn5 hn6 hq => ?_
  obtain ⟨hc1, v, rfl, v0, v1⟩ := hq
  have sc1 := hc1.shape
  have hn5' : p0 ≤ n5 := hn5
  have e0 : Md.szObj x = x.ints.length + x.refs.length := rfl
  have o1 : Own m0 p0 (q 1) := ho.node.own (i := 1) (by decide)
  have o2 : Own m0 p0 (q 2) := ho.node.own (i := 2) (by decide)
  have hdj : ∀ t ∈ (q 1).tl, t ∉ (q 2).tl := ho.node.dj 1 2 (by decide) (by decide)
  rcases (by omega : v = 0 ∨ v = 1 ∨ v = 2 ∨ v = 3 ∨ v = 4) with rfl | rfl | rfl | rfl | rfl
  · simp -dsimp only [go_sem, sc1.1, sc1.2.1, sc1.2.2.1, Int.reduceBEq]
    intro g5 b5 hb5
    refine xcall_c (rest0 := [.msl 12 g5 0 [] 0 4 1]) (l := 1000) (g := 0) (b := gb) (l1Int_b e c1 _ xs [0, 99, 100, -1] h hd hc1 (isL_LD b5 (vals := [0, 99, 100, -1]) (by simp)) (by simp) (by simp)) (by simp -dsimp only [go_sem]) (by
      simp -dsimp only [go_sem]
      exact congrArg (fun f => [D.sl b5 true 4 1 f]) (lits fun i => by match i with | 0 => rfl | 1 => rfl | 2 => rfl | 3 => rfl | i + 4 => rfl)) (by simp -dsimp only [go_sem]) sc1.2.2.2 fun m1 m2 c2 r hm1 hm2 hq => ?_
    obtain ⟨hc2, j4, hj4, hr4⟩ := hq
    obtain ⟨u, hu4⟩ : ∃ u : Int, r = .lit (.int .i64 u) := ⟨_, hr4⟩
    subst hu4
    have sc2 := hc2.shape
    simp -dsimp only [go_sem, q0, sc2.1, sc2.2.1, sc2.2.2.1]
    have hm1' : b5 + 1 ≤ m1 := hm1
    have hb5' : n6 ≤ b5 := hb5
    refine ⟨_, rfl, fun n1 hn1 hfc => ?_⟩
    have hn1' : m2 ≤ n1 := hn1
    have hst2 : ∀ j, (upd q 0 (.lit (.int .i64 u)) j).still := still_upd hqs trivial
    rw [rl_still sc2.2.2.2, rlnode_still hst2]
    exact cx_end hc hc2 hd ⟨⟨u, x.ints, x.refs⟩, ⟨_, rfl, hst2, rfl, q1, q2⟩, by show x.ints.length + x.refs.length ≤ _; omega⟩ ((own_lit0 ho (by rw [q0]; rfl)).mono (by omega) (by omega))
  · simp -dsimp only [go_sem, sc1.1, sc1.2.1, sc1.2.2.1, Int.reduceBEq]
    rcases isL_row q1 o1 with ⟨qn, hnil⟩ | ⟨t, f8, qn, hF, ht0, ht1⟩
    · refine iwp_plan [(0, true), (1, true), (2, true), (3, false), (4, false), (5, false), (6, false), (7, true), (8, false)] [3] rfl (by decide +kernel) (by decide) [8] (by decide +kernel) ?_
      simp -dsimp only [go_sem, q0, qn]
      intro g5 b5 hb5
      refine xcall_c (rest0 := [.msl 20 g5 0 [] 0 3 1]) (l := 1000) (g := 0) (b := gb) (l1Int_b e c1 _ xs [1000001, -1000001, 5] h hd hc1 (isL_LD b5 (vals := [1000001, -1000001, 5]) (by simp)) (by simp) (by simp)) (by simp -dsimp only [go_sem]) (by
        simp -dsimp only [go_sem]
        exact congrArg (fun f => [D.sl b5 true 3 1 f]) (lits fun i => by match i with | 0 => rfl | 1 => rfl | 2 => rfl | i + 3 => rfl)) (by simp -dsimp only [go_sem]) sc1.2.2.2 fun m1 m2 c2 r hm1 hm2 hq => ?_
      obtain ⟨hc2, j4, hj4, hr4⟩ := hq
      obtain ⟨u, hu4⟩ : ∃ u : Int, r = .lit (.int .i64 u) := ⟨_, hr4⟩
      subst hu4
      have sc2 := hc2.shape
      simp -dsimp only [go_sem, q0, qn, sc2.1, sc2.2.1, sc2.2.2.1]
      have hm1' : b5 + 1 ≤ m1 := hm1
      have hb5' : n6 ≤ b5 := hb5
      intro g6 b6 hb6
      have hb6' : m2 ≤ b6 := hb6
      refine ⟨fun y h => h.symm, fun g7 b7 n9 hn9 hb7 hb9 => ?_⟩
      have hb10 : m0 ≤ b7 := by omega
      refine ⟨_, rfl, fun n1 hn1 hfc => ?_⟩
      have hn1' : n9 ≤ n1 := hn1
      have hR : IntRow (upd (fun _ => .lit (.int .i64 0)) 0 (.lit (.int .i64 u))) [u] := IntRow.one (z := fun _ => .lit (.int .i64 0)) fun _ => trivial
      have hlen : ([u] : List Int).length = 1 := by simp
      have hq := hR.isL (b := b7) (lo := n0) (hi := n1) (by rw [hlen]; omega) (by omega) (by omega)
      rw [hlen] at hq
      have hnt : b7 ∉ (q 2).tl := fun hx => hfc.root 23 _ _ _ 3 _ _ _ (by simp -dsimp only [go_sem]; rfl) (by simp -dsimp only [go_sem]; rfl) (tl_child (k := .agg [1, 1, 1]) (i := 2) (by decide) (by rw [upd_ne _ _ (by decide)]; exact hx))
      have htl : ∀ t ∈ (D.sl b7 true 1 1 (upd (fun _ => .lit (.int .i64 0)) 0 (.lit (.int .i64 u)))).tl, t = b7 := (fun t ht => by
        have e : (D.sl b7 true 1 1 (upd (fun _ => .lit (.int .i64 0)) 0 (.lit (.int .i64 u)))).tl = [b7] := by rw [← hlen]; exact tl_ints hR
        rw [e, List.mem_singleton] at ht; exact ht)
      rw [rl_still sc2.2.2.2, rl_node]
      have hob2 := obj_end (k0 := x.kind) (lo := n0) (hi := n1) (a := .sl b7 true 1 1 (upd (fun _ => .lit (.int .i64 0)) 0 (.lit (.int .i64 u)))) (b := q 2) (i1 := [u]) (i2 := x.refs) hq.1 q2 hq.2 (o2.mono (by omega) (by omega)) (fun t ht hx => hnt (htl t ht ▸ hx))
      exact cobj_endM hc hc2 hd hob2 (by show _ + _ ≤ _; first | (rw [hlen]; omega) | (simp [hnil]; omega) | (simp; omega)) (by simp -dsimp only [go_sem, q0]) (by simp -dsimp only [go_sem]; exact congrArg (D.sl b7 true 1 1) (rls_still hR.1)) (by simp -dsimp only [go_sem]; exact rl_still (hqs 2)) (fun j => by
        by_cases hj : j = 1
        · exact .inr (by omega)
        · rw [upd_ne _ _ hj]; exact .inl (hqs j))
    · refine iwp_meltK (l := 2001) (lq := 3) (gq := g3) (bq := b3) (R' := upd (upd (fun _ => none) 1000 (some (0, gb, c1))) 4 (some (g4, b4, zObjD))) (xq' := fun g => .node (.agg [1, 1, 1]) (upd q 1 (.msl 2001 g 0 [] 0 x.ints.length 1))) [0, 3, 4] (hW t (by omega)) (by simp -dsimp only [go_sem]) (fun i hi => by rw [hF.2 i hi]; exact free_lit t _) (by simp -dsimp only [go_sem]) (.node _ _ 1 (by decide) (has_eq qn)) (fun g => ⟨plain_node _ _, thaw_upd (thaw_eq qn) fun i hi hne => own_free_ne ho (by decide : 1 < 3) (by rw [qn]; simp [D.tl]) hi hne⟩) (fun j hj => ?_) (by decide) (fun l' g b z hz hne => ⟨?_, ((OkR.none t).upd sc1.2.2.1 (free_of_tags (m := n0) (by omega) (hc1.tags (p := (· < n0)) eT))).upd (plain_node _ _) (zObj_free t) _ _ _ _ hz⟩) fun g8 => ?_
      · simp only [List.mem_cons, List.not_mem_nil, or_false] at hj
        rcases hj with rfl | rfl | rfl
        all_goals exact free_ptr t _ _ _ _
      · rw [upd_comm _ _ _ (by decide : (3 : Nat) ≠ 4), upd_ne _ _ hne]; exact hz
      refine (show IWpT _ _ _ _ _ _ from ?_)
      refine iwp_plan [(0, true), (1, true), (2, true), (3, false), (4, false), (5, false), (6, false), (7, true), (8, false)] [3] rfl (by decide +kernel) (by decide) [8] (by decide +kernel) ?_
      simp -dsimp only [go_sem, q0, qn]
      intro g5 b5 hb5
      refine xcall_c (rest0 := [.msl 20 g5 0 [] 0 3 1]) (l := 1000) (g := 0) (b := gb) (l1Int_b e c1 _ xs [1000001, -1000001, 5] h hd hc1 (isL_LD b5 (vals := [1000001, -1000001, 5]) (by simp)) (by simp) (by simp)) (by simp -dsimp only [go_sem]) (by
        simp -dsimp only [go_sem]
        exact congrArg (fun f => [D.sl b5 true 3 1 f]) (lits fun i => by match i with | 0 => rfl | 1 => rfl | 2 => rfl | i + 3 => rfl)) (by simp -dsimp only [go_sem]) sc1.2.2.2 fun m1 m2 c2 r hm1 hm2 hq => ?_
      obtain ⟨hc2, j4, hj4, hr4⟩ := hq
      obtain ⟨u, hu4⟩ : ∃ u : Int, r = .lit (.int .i64 u) := ⟨_, hr4⟩
      subst hu4
      have sc2 := hc2.shape
      simp -dsimp only [go_sem, q0, qn, sc2.1, sc2.2.1, sc2.2.2.1]
      have hm1' : b5 + 1 ≤ m1 := hm1
      have hb5' : n6 ≤ b5 := hb5
      intro g6 b6 hb6
      have hb6' : m2 ≤ b6 := hb6
      refine ⟨fun y h => h.symm, by omega, by omega, fun g7 b7 n9 hn9 hb7 hb9 => ?_⟩
      have hb10 : m0 ≤ b7 := by rcases hb9 with h | h <;> omega
      refine ⟨plain_node _ _, rfl, _, rfl, fun n1 hn1 hfc => ?_⟩
      have hn1' : n9 ≤ n1 := hn1
      have hR : IntRow (catD x.ints.length f8 (upd (fun _ => .lit (.int .i64 0)) 0 (.lit (.int .i64 u)))) (x.ints ++ [u]) := hF.cat (z := fun _ => .lit (.int .i64 0)) fun _ => trivial
      have hlen : ((x.ints ++ [u]) : List Int).length = (x.ints.length + 1) := by simp
      have hq := hR.isL (b := b7) (lo := n0) (hi := n1) (by rw [hlen]; omega) (by omega) (by omega)
      rw [hlen] at hq
      have hnt : b7 ∉ (q 2).tl := fun hx => hfc.root 2001 _ _ _ 3 _ _ _ (by simp -dsimp only [go_sem]; rfl) (by simp -dsimp only [go_sem]; rfl) (tl_child (k := .agg [1, 1, 1]) (i := 2) (by decide) (by rw [upd_ne _ _ (by decide)]; exact hx))
      have htl : ∀ t ∈ (D.sl b7 true (x.ints.length + 1) 1 (catD x.ints.length f8 (upd (fun _ => .lit (.int .i64 0)) 0 (.lit (.int .i64 u))))).tl, t = b7 := (fun t ht => by
        have e : (D.sl b7 true (x.ints.length + 1) 1 (catD x.ints.length f8 (upd (fun _ => .lit (.int .i64 0)) 0 (.lit (.int .i64 u))))).tl = [b7] := by rw [← hlen]; exact tl_ints hR
        rw [e, List.mem_singleton] at ht; exact ht)
      rw [rl_still sc2.2.2.2, rl_node]
      have hob2 := obj_end (k0 := x.kind) (lo := n0) (hi := n1) (a := .sl b7 true (x.ints.length + 1) 1 (catD x.ints.length f8 (upd (fun _ => .lit (.int .i64 0)) 0 (.lit (.int .i64 u))))) (b := q 2) (i1 := (x.ints ++ [u])) (i2 := x.refs) hq.1 q2 hq.2 (o2.mono (by omega) (by omega)) (fun t ht hx => hnt (htl t ht ▸ hx))
      exact cobj_endM hc hc2 hd hob2 (by show _ + _ ≤ _; first | (rw [hlen]; omega) | (simp [hnil]; omega) | (simp; omega)) (by simp -dsimp only [go_sem, q0]) (by simp -dsimp only [go_sem]; exact congrArg (D.sl b7 true (x.ints.length + 1) 1) (rls_still hR.1)) (by simp -dsimp only [go_sem]; exact rl_still (hqs 2)) (fun j => by
        by_cases hj : j = 1
        · exact .inr (by omega)
        · rw [upd_ne _ _ hj]; exact .inl (hqs j))
  · simp -dsimp only [go_sem, sc1.1, sc1.2.1, sc1.2.2.1, Int.reduceBEq]
    rcases isL_row q2 o2 with ⟨qn, hnil⟩ | ⟨t, f8, qn, hF, ht0, ht1⟩
    · refine iwp_plan [(0, true), (1, true), (2, true), (3, false), (4, false), (5, false), (6, false), (7, true), (8, false)] [3] rfl (by decide +kernel) (by decide) [8] (by decide +kernel) ?_
      simp -dsimp only [go_sem, q0, qn]
      intro g5 b5 hb5
      refine xcall_c (rest0 := [.msl 30 g5 0 [] 0 3 1]) (l := 1000) (g := 0) (b := gb) (l1Int_b e c1 _ xs [32, -1, 5] h hd hc1 (isL_LD b5 (vals := [32, -1, 5]) (by simp)) (by simp) (by simp)) (by simp -dsimp only [go_sem]) (by
        simp -dsimp only [go_sem]
        exact congrArg (fun f => [D.sl b5 true 3 1 f]) (lits fun i => by match i with | 0 => rfl | 1 => rfl | 2 => rfl | i + 3 => rfl)) (by simp -dsimp only [go_sem]) sc1.2.2.2 fun m1 m2 c2 r hm1 hm2 hq => ?_
      obtain ⟨hc2, j4, hj4, hr4⟩ := hq
      obtain ⟨u, hu4⟩ : ∃ u : Int, r = .lit (.int .i64 u) := ⟨_, hr4⟩
      subst hu4
      have sc2 := hc2.shape
      simp -dsimp only [go_sem, q0, qn, sc2.1, sc2.2.1, sc2.2.2.1]
      have hm1' : b5 + 1 ≤ m1 := hm1
      have hb5' : n6 ≤ b5 := hb5
      intro g6 b6 hb6
      have hb6' : m2 ≤ b6 := hb6
      refine ⟨fun y h => h.symm, fun g7 b7 n9 hn9 hb7 hb9 => ?_⟩
      have hb10 : m0 ≤ b7 := by omega
      refine ⟨_, rfl, fun n1 hn1 hfc => ?_⟩
      have hn1' : n9 ≤ n1 := hn1
      have hR : IntRow (upd (fun _ => .lit (.int .i64 0)) 0 (.lit (.int .i64 u))) [u] := IntRow.one (z := fun _ => .lit (.int .i64 0)) fun _ => trivial
      have hlen : ([u] : List Int).length = 1 := by simp
      have hq := hR.isL (b := b7) (lo := n0) (hi := n1) (by rw [hlen]; omega) (by omega) (by omega)
      rw [hlen] at hq
      have hnt : b7 ∉ (q 1).tl := fun hx => hfc.root 33 _ _ _ 3 _ _ _ (by simp -dsimp only [go_sem]; rfl) (by simp -dsimp only [go_sem]; rfl) (tl_child (k := .agg [1, 1, 1]) (i := 1) (by decide) (by rw [upd_ne _ _ (by decide)]; exact hx))
      have htl : ∀ t ∈ (D.sl b7 true 1 1 (upd (fun _ => .lit (.int .i64 0)) 0 (.lit (.int .i64 u)))).tl, t = b7 := (fun t ht => by
        have e : (D.sl b7 true 1 1 (upd (fun _ => .lit (.int .i64 0)) 0 (.lit (.int .i64 u)))).tl = [b7] := by rw [← hlen]; exact tl_ints hR
        rw [e, List.mem_singleton] at ht; exact ht)
      rw [rl_still sc2.2.2.2, rl_node]
      have hob2 := obj_end (k0 := x.kind) (lo := n0) (hi := n1) (a := q 1) (b := .sl b7 true 1 1 (upd (fun _ => .lit (.int .i64 0)) 0 (.lit (.int .i64 u)))) (i1 := x.ints) (i2 := [u]) q1 hq.1 (o1.mono (by omega) (by omega)) hq.2 (fun t ht hx => hnt (htl t hx ▸ ht))
      exact cobj_endM hc hc2 hd hob2 (by show _ + _ ≤ _; first | (rw [hlen]; omega) | (simp [hnil]; omega) | (simp; omega)) (by simp -dsimp only [go_sem, q0]) (by simp -dsimp only [go_sem]; exact rl_still (hqs 1)) (by simp -dsimp only [go_sem]; exact congrArg (D.sl b7 true 1 1) (rls_still hR.1)) (fun j => by
        by_cases hj : j = 2
        · exact .inr (by omega)
        · rw [upd_ne _ _ hj]; exact .inl (hqs j))
    · refine iwp_meltK (l := 2001) (lq := 3) (gq := g3) (bq := b3) (R' := upd (upd (fun _ => none) 1000 (some (0, gb, c1))) 4 (some (g4, b4, zObjD))) (xq' := fun g => .node (.agg [1, 1, 1]) (upd q 2 (.msl 2001 g 0 [] 0 x.refs.length 1))) [0, 3, 4] (hW t (by omega)) (by simp -dsimp only [go_sem]) (fun i hi => by rw [hF.2 i hi]; exact free_lit t _) (by simp -dsimp only [go_sem]) (.node _ _ 2 (by decide) (has_eq qn)) (fun g => ⟨plain_node _ _, thaw_upd (thaw_eq qn) fun i hi hne => own_free_ne ho (by decide : 2 < 3) (by rw [qn]; simp [D.tl]) hi hne⟩) (fun j hj => ?_) (by decide) (fun l' g b z hz hne => ⟨?_, ((OkR.none t).upd sc1.2.2.1 (free_of_tags (m := n0) (by omega) (hc1.tags (p := (· < n0)) eT))).upd (plain_node _ _) (zObj_free t) _ _ _ _ hz⟩) fun g8 => ?_
      · simp only [List.mem_cons, List.not_mem_nil, or_false] at hj
        rcases hj with rfl | rfl | rfl
        all_goals exact free_ptr t _ _ _ _
      · rw [upd_comm _ _ _ (by decide : (3 : Nat) ≠ 4), upd_ne _ _ hne]; exact hz
      refine (show IWpT _ _ _ _ _ _ from ?_)
      refine iwp_plan [(0, true), (1, true), (2, true), (3, false), (4, false), (5, false), (6, false), (7, true), (8, false)] [3] rfl (by decide +kernel) (by decide) [8] (by decide +kernel) ?_
      simp -dsimp only [go_sem, q0, qn]
      intro g5 b5 hb5
      refine xcall_c (rest0 := [.msl 30 g5 0 [] 0 3 1]) (l := 1000) (g := 0) (b := gb) (l1Int_b e c1 _ xs [32, -1, 5] h hd hc1 (isL_LD b5 (vals := [32, -1, 5]) (by simp)) (by simp) (by simp)) (by simp -dsimp only [go_sem]) (by
        simp -dsimp only [go_sem]
        exact congrArg (fun f => [D.sl b5 true 3 1 f]) (lits fun i => by match i with | 0 => rfl | 1 => rfl | 2 => rfl | i + 3 => rfl)) (by simp -dsimp only [go_sem]) sc1.2.2.2 fun m1 m2 c2 r hm1 hm2 hq => ?_
      obtain ⟨hc2, j4, hj4, hr4⟩ := hq
      obtain ⟨u, hu4⟩ : ∃ u : Int, r = .lit (.int .i64 u) := ⟨_, hr4⟩
      subst hu4
      have sc2 := hc2.shape
      simp -dsimp only [go_sem, q0, qn, sc2.1, sc2.2.1, sc2.2.2.1]
      have hm1' : b5 + 1 ≤ m1 := hm1
      have hb5' : n6 ≤ b5 := hb5
      intro g6 b6 hb6
      have hb6' : m2 ≤ b6 := hb6
      refine ⟨fun y h => h.symm, by omega, by omega, fun g7 b7 n9 hn9 hb7 hb9 => ?_⟩
      have hb10 : m0 ≤ b7 := by rcases hb9 with h | h <;> omega
      refine ⟨plain_node _ _, rfl, _, rfl, fun n1 hn1 hfc => ?_⟩
      have hn1' : n9 ≤ n1 := hn1
      have hR : IntRow (catD x.refs.length f8 (upd (fun _ => .lit (.int .i64 0)) 0 (.lit (.int .i64 u)))) (x.refs ++ [u]) := hF.cat (z := fun _ => .lit (.int .i64 0)) fun _ => trivial
      have hlen : ((x.refs ++ [u]) : List Int).length = (x.refs.length + 1) := by simp
      have hq := hR.isL (b := b7) (lo := n0) (hi := n1) (by rw [hlen]; omega) (by omega) (by omega)
      rw [hlen] at hq
      have hnt : b7 ∉ (q 1).tl := fun hx => hfc.root 2001 _ _ _ 3 _ _ _ (by simp -dsimp only [go_sem]; rfl) (by simp -dsimp only [go_sem]; rfl) (tl_child (k := .agg [1, 1, 1]) (i := 1) (by decide) (by rw [upd_ne _ _ (by decide)]; exact hx))
      have htl : ∀ t ∈ (D.sl b7 true (x.refs.length + 1) 1 (catD x.refs.length f8 (upd (fun _ => .lit (.int .i64 0)) 0 (.lit (.int .i64 u))))).tl, t = b7 := (fun t ht => by
        have e : (D.sl b7 true (x.refs.length + 1) 1 (catD x.refs.length f8 (upd (fun _ => .lit (.int .i64 0)) 0 (.lit (.int .i64 u))))).tl = [b7] := by rw [← hlen]; exact tl_ints hR
        rw [e, List.mem_singleton] at ht; exact ht)
      rw [rl_still sc2.2.2.2, rl_node]
      have hob2 := obj_end (k0 := x.kind) (lo := n0) (hi := n1) (a := q 1) (b := .sl b7 true (x.refs.length + 1) 1 (catD x.refs.length f8 (upd (fun _ => .lit (.int .i64 0)) 0 (.lit (.int .i64 u))))) (i1 := x.ints) (i2 := (x.refs ++ [u])) q1 hq.1 (o1.mono (by omega) (by omega)) hq.2 (fun t ht hx => hnt (htl t hx ▸ ht))
      exact cobj_endM hc hc2 hd hob2 (by show _ + _ ≤ _; first | (rw [hlen]; omega) | (simp [hnil]; omega) | (simp; omega)) (by simp -dsimp only [go_sem, q0]) (by simp -dsimp only [go_sem]; exact rl_still (hqs 1)) (by simp -dsimp only [go_sem]; exact congrArg (D.sl b7 true (x.refs.length + 1) 1) (rls_still hR.1)) (fun j => by
        by_cases hj : j = 2
        · exact .inr (by omega)
        · rw [upd_ne _ _ hj]; exact .inl (hqs j))
  · simp -dsimp only [go_sem, sc1.1, sc1.2.1, sc1.2.2.1, Int.reduceBEq]
    refine xcall_cs (l := 1000) (g := 0) (b := gb) (l1Below_b e c1 xs 2 h hd hc1 (by decide) (by decide)) (by simp -dsimp only [go_sem]) ⟨trivial, trivial⟩ (by simp -dsimp only [go_sem]) sc1.2.2.2 fun m1 m2 c2 r hm1 hm2 hq => ?_
    obtain ⟨hc2, w, rfl, w0, w1⟩ := hq
    have sc2 := hc2.shape
    have wadd : IntKind.i64.wrap (5 + w) = 5 + w := w64 (by omega) (by omega)
    have hm1' : n6 ≤ m1 := hm1
    simp -dsimp only [go_sem, q0, wadd, sc2.1, sc2.2.1, sc2.2.2.1]
    refine ⟨by omega, Int.le_refl _, by omega, by omega, fun g7 b7 hb7 => ⟨q1.plain, q1.size, _, rfl, fun n1 hn1 hfc => ?_⟩⟩
    have hn1' : b7 + 1 ≤ n1 := hn1
    have hR := row_zero (5 + w).toNat
    have hlen : (List.replicate (5 + w).toNat (0 : Int)).length = (5 + w).toNat := List.length_replicate
    have hq := hR.isL (b := b7) (lo := n0) (hi := n1) (by rw [hlen]; omega) (by omega) (by omega)
    rw [hlen] at hq
    have hnt : b7 ∉ (q 2).tl := fun hx => hfc.root 40 _ _ _ 3 _ _ _ (by simp -dsimp only [go_sem]; rfl) (by simp -dsimp only [go_sem]; rfl) (tl_child (k := .agg [1, 1, 1]) (i := 2) (by decide) (by rw [upd_ne _ _ (by decide)]; exact hx))
    have htl : ∀ t ∈ (D.sl b7 true (5 + w).toNat 1 fun _ => .lit (.int .i64 0)).tl, t = b7 := fun t ht => by
      have e : (D.sl b7 true (5 + w).toNat 1 fun _ => .lit (.int .i64 0)).tl = [b7] := by
        have := tl_ints (b := b7) hR
        rwa [hlen] at this
      rw [e, List.mem_singleton] at ht; exact ht
    rw [rl_still sc2.2.2.2, rl_node]
    have hob2 := obj_end (k0 := x.kind) (lo := n0) (hi := n1) (a := .sl b7 true (5 + w).toNat 1 fun _ => .lit (.int .i64 0)) (b := q 2) (i1 := List.replicate (5 + w).toNat 0) (i2 := x.refs) hq.1 q2 hq.2 (o2.mono (by omega) (by omega)) (fun t ht hx => hnt (htl t ht ▸ hx))
    exact cobj_endM hc hc2 hd hob2 (by show (List.replicate (5 + w).toNat (0 : Int)).length + x.refs.length ≤ _; rw [hlen]; omega) (by simp -dsimp only [go_sem, q0]) (by simp -dsimp only [go_sem] <;> exact congrArg (D.sl b7 true (5 + w).toNat 1) (rls_still hR.1)) (by simp -dsimp only [go_sem]; exact rl_still (hqs 2)) (fun j => by
      by_cases hj : j = 1
      · exact .inr (by omega)
      · rw [upd_ne _ _ hj]; exact .inl (hqs j))
  · simp -dsimp only [go_sem, sc1.1, sc1.2.1, sc1.2.2.1, Int.reduceBEq, q0]
    refine ⟨_, rfl, fun n1 hn1 hfc => ?_⟩
    have hn1' : n6 ≤ n1 := hn1
    rw [rl_still sc1.2.2.2, rlnode_still hqs]
    exact cx_end hc hc1 hd ⟨x, hob, by omega⟩ (ho.mono (by omega) (by omega))
end Go.Proofs.Ytkigfigdoaoboaa.IM
end

section
/- Contracts: any pages. Printed by draws6.py. -/
namespace Go.Proofs.Ytkigfigdoaoboaa.IM
open Go Go.Proofs
set_option linter.unusedVariables false
set_option linter.unusedSimpArgs false
set_option maxHeartbeats 2000000
set_option maxRecDepth 20000

theorem IsPage.parts {q : Nat → D} {x : Md.Page} (h : IsPage (.node (.agg [1, 16]) q) x) : (∀ j, (q j).still) ∧ q 0 = .lit (.int .i64 x.lsn) ∧ x.slots.length = 4 ∧ ∃ f, q 1 = .node (.arr 4 4) f ∧ (∀ j, (f j).still) ∧ ∀ i (h : i < x.slots.length), IsSlot (f i) x.slots[i] := by
  obtain ⟨q', e, hst, h0, hl, f, h1, h2, h3⟩ := h
  cases e
  exact ⟨hst, h0, hl, f, h1, h2, h3⟩
theorem isPage_slot {q f : Nat → D} {x : Md.Page} {k : Nat} {d : D} {s : Md.Slot} (h : IsPage (.node (.agg [1, 16]) q) x) (hf : q 1 = .node (.arr 4 4) f) (hd : IsSlot d s) : IsPage (.node (.agg [1, 16]) (upd q 1 (.node (.arr 4 4) (upd f k d)))) ⟨x.lsn, x.slots.set k s⟩ := by
  obtain ⟨hst, h0, hl, f', h1, h2, h3⟩ := h.parts
  rw [hf] at h1
  cases h1
  have hds := (shp_slot _ _ hd).2.2.2
  refine ⟨_, rfl, still_upd hst (show (D.node _ _).still from still_upd h2 hds), h0, ?_⟩
  refine ⟨by rw [List.length_set]; exact hl, _, rfl, still_upd h2 hds, fun i hi => ?_⟩
  have hi' : i < x.slots.length := by rwa [List.length_set] at hi
  rw [List.getElem_set]
  by_cases e : k = i
  · subst e; rw [upd_same, if_pos rfl]; exact hd
  · rw [upd_ne _ _ (fun h => e h.symm), if_neg e]; exact h3 i hi'
theorem sum_set {α : Type} (f : α → Nat) (l : List α) (i : Nat) (a : α) : Md.sumBy f (l.set i a) ≤ Md.sumBy f l + f a := by
  induction l generalizing i with
  | nil => simp [Md.sumBy]
  | cons b l ih =>
    cases i with
    | zero => simp only [List.set_cons_zero, Md.sumBy, List.map_cons, List.sum_cons]; omega
    | succ i => have := ih i; simp only [List.set_cons_succ, Md.sumBy, List.map_cons, List.sum_cons] at this ⊢; omega
theorem l3PageAny_b (e c : D) (xs : List Int) (h : IsL 1 IsByte e xs) (hd : e.data) (hc : Cur e xs.length c) : BCall Try.prog 108 .nil c [] (CurX e xs.length (PageA 60)) := by
  have sc := hc.shape
  refine bcall_intro Try.func108 rfl (by decide) rfl (by decide) (by rw [Try.ntmps108]; simp) fun w0 M n0 gb hW hS hT hgb => ivc_sound ?_; simp -dsimp only [Try.f108, go_sem, sc.1, sc.2.1, sc.2.2.1]
  intro g2 b2 hb2
  refine xcall_cs (l := 1000) (g := 0) (b := gb) (l3DrawPage_b e c xs h hd hc) (by simp -dsimp only [go_sem]) trivial (by simp -dsimp only [go_sem]) sc.2.2.2 fun m0 p0 c1 r0 hm0 hp0 hq => ?_
  obtain ⟨hc1, ⟨x, hx, hxs⟩, ho⟩ := hq
  have hm0' : b2 + 1 ≤ m0 := hm0
  have sc1 := hc1.shape
  have zp := shp_page _ _ hx
  obtain ⟨q, rfl, _⟩ := id hx
  obtain ⟨hqs, q0, hl4, f, q1, hfs, hf⟩ := hx.parts
  simp -dsimp only [go_sem, sc1.1, sc1.2.1, sc1.2.2.1, zp.1, zp.2.1, zp.2.2.1]
  intro g3 b3 hb3
  have hb3' : p0 ≤ b3 := hb3
  refine xcall_cs (l := 1000) (g := 0) (b := gb) (l1Below_b e c1 xs 4 h hd hc1 (by decide) (by decide)) (by simp -dsimp only [go_sem]) ⟨trivial, trivial⟩ (by simp -dsimp only [go_sem]) sc1.2.2.2 fun n5 n6 c2 r hn5 hn6 hq => ?_
  obtain ⟨hc2, k, rfl, k0, k1⟩ := hq
  have sc2 := hc2.shape
  simp -dsimp only [go_sem, zp.1, zp.2.1, zp.2.2.1, sc2.1, sc2.2.1, sc2.2.2.1]
  refine xcall_cs (l := 1000) (g := 0) (b := gb) (l1Below_b e c2 xs 12 h hd hc2 (by decide) (by decide)) (by simp -dsimp only [go_sem]) ⟨trivial, trivial⟩ (by simp -dsimp only [go_sem]) sc2.2.2.2 fun n7 n8 c3 r hn7 hn8 hq => ?_
  obtain ⟨hc3, v, rfl, v0, v1⟩ := hq
  have sc3 := hc3.shape
  simp -dsimp only [go_sem, zp.1, zp.2.1, zp.2.2.1, q0, sc3.1, sc3.2.1, sc3.2.2.1]
  have hn5' : b3 + 1 ≤ n5 := hn5
  have hn7' : n6 ≤ n7 := hn7
  have zpp : zPageD.plain := plain_node _ _
  have zps : zPageD.size = 17 := rfl
  have hk4 : k.toNat < 4 := by omega
  have hkl : k.toNat < x.slots.length := by omega
  have hks : k < 4 := k1
  have hsl := hf _ hkl
  have hso := ho.node.own (i := 1) (by decide)
  have sp := shp_slot _ _ hsl
  obtain ⟨s, hse, hss, s0, s1⟩ := id hsl
  have s0 : s 0 = _ := s0
  have s1 : IsObj (s 1) _ := s1
  rw [q1] at hso
  have hko := hso.node.own (i := k.toNat) hk4
  have op := shp_obj _ _ s1
  rcases (by omega : v = 0 ∨ v = 1 ∨ v = 2 ∨ (v ≠ 0 ∧ v ≠ 1 ∧ v ≠ 2)) with rfl | rfl | rfl | ⟨hv0, hv1, hv2⟩
  · simp -dsimp only [go_sem, sc3.1, sc3.2.1, sc3.2.2.1, q0, Int.reduceBEq]
    intro g5 b5 hb5
    refine xcall_c (rest0 := [.msl 14 g5 0 [] 0 3 1]) (l := 1000) (g := 0) (b := gb) (l1Int_b e c3 _ xs [-1, 1000000, 1000001] h hd hc3 (isL_LD b5 (vals := [-1, 1000000, 1000001]) (by simp)) (by simp) (by simp)) (by simp -dsimp only [go_sem]) (by
      simp -dsimp only [go_sem]
      exact congrArg (fun f => [D.sl b5 true 3 1 f]) (lits fun i => by match i with | 0 => rfl | 1 => rfl | 2 => rfl | i + 3 => rfl)) (by simp -dsimp only [go_sem]) sc3.2.2.2 fun m1 m2 c4 r hm1 hm2 hq => ?_
    obtain ⟨hc4, j4, hj4, hr4⟩ := hq
    obtain ⟨u, hu4⟩ : ∃ u : Int, r = .lit (.int .i64 u) := ⟨_, hr4⟩
    subst hu4
    have sc4 := hc4.shape
    simp -dsimp only [go_sem, q0, sc4.1, sc4.2.1, sc4.2.2.1]
    refine ⟨_, rfl, fun n1 hn1 hfc => ?_⟩
    have hn1' : m2 ≤ n1 := hn1
    have hb5' : n8 ≤ b5 := hb5
    have hm1' : b5 + 1 ≤ m1 := hm1
    have hst2 : ∀ j, (upd q 0 (.lit (.int .i64 u)) j).still := still_upd hqs trivial
    rw [rl_still sc4.2.2.2, rlnode_still hst2]
    exact cx_end hc hc4 hd ⟨⟨u, x.slots⟩, ⟨_, rfl, hst2, rfl, hl4, f, q1, hfs, hf⟩, by show Md.sumBy Md.szSlot x.slots ≤ 60; have hxs : Md.sumBy Md.szSlot x.slots ≤ 20 := hxs; omega⟩ ((own_lit0 ho (by rw [q0]; rfl)).mono (by omega) (by omega))
  · simp -dsimp only [go_sem, sc3.1, sc3.2.1, sc3.2.2.1, q0, Int.reduceBEq, k0, hks, q1, hse, s0, hk4]
    refine ⟨by omega, by omega, _, rfl, fun n1 hn1 hfc => ?_⟩
    have hn1' : n8 ≤ n1 := hn1
    have hns : IsSlot (.node (.agg [1, 3]) (upd s 0 (.lit (.bool !x.slots[k.toNat].has)))) ⟨!x.slots[k.toNat].has, x.slots[k.toNat].o⟩ := ⟨_, rfl, still_upd hss trivial, rfl, s1⟩
    have hpg := isPage_slot (k := k.toNat) hx q1 hns
    have hpp := (shp_page _ _ hpg).2.2.2
    have hkp : Put m0 p0 p0 (f k.toNat) (.node (.agg [1, 3]) (upd s 0 (.lit (.bool !x.slots[k.toNat].has)))) := by
      rw [hse] at hko ⊢
      exact Put.node hko (by decide) (Put.lit _ _ _ _ _) (Nat.le_refl _) (Nat.le_refl _)
    have hPP := Put.node (hi' := p0) (m := p0) ho (i := 1) (by decide) (by rw [q1]; exact Put.node hso hk4 hkp (Nat.le_refl _) (Nat.le_refl _)) (Nat.le_refl _) (Nat.le_refl _)
    rw [rl_still sc3.2.2.2, rl_still (d := .node (.agg [1, 16]) _) hpp]
    exact cx_end hc hc3 hd ⟨_, hpg, Nat.le_trans (sum_set _ _ _ _) (by have h2 := Md.sumBy_mem Md.szSlot x.slots _ (List.getElem_mem hkl); have hxs : Md.sumBy Md.szSlot x.slots ≤ 20 := hxs; have h2 : Md.szObj x.slots[k.toNat].o ≤ _ := h2; show Md.sumBy Md.szSlot x.slots + Md.szObj x.slots[k.toNat].o ≤ 60; omega)⟩ (hPP.own.mono (by omega) (by omega))
  · simp -dsimp only [go_sem, sc3.1, sc3.2.1, sc3.2.2.1, q0, Int.reduceBEq, k0, hks, q1, hse, s0, hk4, op.1, op.2.1, op.2.2.1]
    have h2 := Md.sumBy_mem Md.szSlot x.slots _ (List.getElem_mem hkl)
    have hxs : Md.sumBy Md.szSlot x.slots ≤ 20 := hxs
    have h2 : Md.szObj x.slots[k.toNat].o ≤ _ := h2
    refine ⟨by omega, by omega, xcall_cs (l := 1000) (g := 0) (b := gb) (l2Bend_b e c3 (s 1) xs _ h hd hc3 s1 (by omega)) (by simp -dsimp only [go_sem]) ⟨op.2.2.2, trivial⟩ (by simp -dsimp only [go_sem]) sc3.2.2.2 fun m1 m2 c4 r hm1 hm2 hq => ?_⟩
    obtain ⟨hc4, ⟨on, ho1, ho2⟩, ho3⟩ := hq
    have sc4 := hc4.shape
    have zo := shp_obj _ _ ho1
    have hm1' : n8 ≤ m1 := hm1
    simp -dsimp only [go_sem, sc4.1, sc4.2.1, sc4.2.2.1, q0, k0, hks, q1, hse, s0, hk4, op.1, op.2.1, op.2.2.1, zo.1, zo.2.1, zo.2.2.1]
    refine ⟨by omega, by omega, _, rfl, fun n1 hn1 hfc => ?_⟩
    have hn1' : m2 ≤ n1 := hn1
    have hns : IsSlot (.node (.agg [1, 3]) (upd s 1 r)) ⟨x.slots[k.toNat].has, on⟩ := ⟨_, rfl, still_upd hss zo.2.2.2, s0, ho1⟩
    have hpg := isPage_slot (k := k.toNat) hx q1 hns
    have hpp := (shp_page _ _ hpg).2.2.2
    have hkp : Put m0 m2 m1 (f k.toNat) (.node (.agg [1, 3]) (upd s 1 r)) := by
      rw [hse] at hko ⊢
      exact Put.node hko (by decide) (Put.new ho3 (by omega)) (by omega) (by omega)
    have hPP := Put.node (hi' := m2) (m := m1) ho (i := 1) (by decide) (by rw [q1]; exact Put.node hso hk4 hkp (by omega) (by omega)) (by omega) (by omega)
    rw [rl_still sc4.2.2.2, rl_still (d := .node (.agg [1, 16]) _) hpp]
    exact cx_end hc hc4 hd ⟨_, hpg, Nat.le_trans (sum_set _ _ _ _) (by show Md.sumBy Md.szSlot x.slots + Md.szObj on ≤ 60; omega)⟩ (hPP.own.mono (by omega) (by omega))
  · have t0 : (v == 0) = false := beq_eq_false_iff_ne.2 hv0
    have t1 : (v == 1) = false := beq_eq_false_iff_ne.2 hv1
    have t2 : (v == 2) = false := beq_eq_false_iff_ne.2 hv2
    simp -dsimp only [go_sem, sc3.1, sc3.2.1, sc3.2.2.1, q0, Int.reduceBEq, t0, t1, t2]
    refine ⟨_, rfl, fun n1 hn1 hfc => ?_⟩
    have hn1' : n8 ≤ n1 := hn1
    rw [rl_still sc3.2.2.2, rlnode_still hqs]
    exact cx_end hc hc3 hd ⟨x, hx, by omega⟩ (ho.mono (by omega) (by omega))
end Go.Proofs.Ytkigfigdoaoboaa.IM
end

section
/- Contracts: drawn pools. Printed by draws7.py. -/
namespace Go.Proofs.Ytkigfigdoaoboaa.IM
open Go Go.Proofs
set_option linter.unusedVariables false
set_option linter.unusedSimpArgs false
set_option maxHeartbeats 2000000
set_option maxRecDepth 20000

def zPoolD : D := .node (.agg [1, 1]) (nthD [.nil, .lit (.int .i64 0)])
theorem isPool_z : IsPool zPoolD ⟨[], 0⟩ := ⟨_, rfl, stN (by simp only [stillL_nil, stillL_cons, still_lit, still_nil, still_any, still_nodeN, still_nodeC, and_self]), .inl ⟨rfl, rfl⟩, rfl⟩
def PoolA (m : Nat) (r : D) : Prop := ∃ p, IsPool r p ∧ Md.szPool p ≤ m
def seatB (no : Int) (pg : D) (dirty hot : Bool) : D := .node (.agg [1, 17, 1, 1]) (upd (upd (upd (upd (nthD [.lit (.int .i64 0), zPageD, .lit (.bool false), .lit (.bool false)]) 0 (.lit (.int .i64 no))) 1 pg) 2 (.lit (.bool dirty))) 3 (.lit (.bool hot)))
theorem seatB_eq (no : Int) (pg : D) (dirty hot : Bool) : seatB no pg dirty hot = seatD no pg dirty hot := by
  unfold seatB seatD
  congr 1
  funext j
  match j with
  | 0 => rfl
  | 1 => rfl
  | 2 => rfl
  | 3 => rfl
  | j + 4 => rfl
theorem isSeat_B {no : Int} {pg : D} {y : Md.Page} {dirty hot : Bool} (h : IsPage pg y) : IsSeat (seatB no pg dirty hot) ⟨no, y, dirty, hot⟩ := by rw [seatB_eq]; exact isSeat_new h
theorem own_seatB {no : Int} {pg : D} {dirty hot : Bool} {lo hi : Nat} (h : Own lo hi pg) : Own lo hi (seatB no pg dirty hot) := by rw [seatB_eq]; exact own_seat h
/-- seats as they grow -/
def GS (l n0 n' : Nat) (ss : List Md.Seat) (hd : D) (R R' : Roots) : Prop :=
  (hd = .nil ∧ ss = [] ∧ R' = R) ∨ ∃ g b f, hd = .msl l g 0 [] 0 ss.length 20 ∧ n0 ≤ b ∧ R' = upd R l (some (g, b, .node (.arr ss.length 20) f)) ∧ Fill IsSeat 20 n0 n' ss ss.length ss.length f
theorem pool_end {e c cc : D} {N n0 n1 k m : Nat} {F : Relab} {q : Nat → D} {sd : D} {ss : List Md.Seat} {hand : Int} (hc : Cur e N c) (hcc : Cur e N cc) (hd : e.data)
    (h0 : rl k F (q 0) = sd) (h1 : rl k F (q 1) = .lit (.int .i64 hand)) (hq : ∀ j, (q j).still ∨ j = 0) (hL : IsL 20 IsSeat sd ss) (hO : Own n0 n1 sd) (hs : Md.szSeats ss ≤ m) :
    BEnd (CurX e N (PoolA m)) c n0 n1 cc (.node (.agg [1, 1]) fun i => rl k F (q i)) := by
  have hg := (grow_fin (x := ⟨ss, hand⟩) (n0 := n0) (n1 := n1) h0 h1 hq hL hO).out
  exact cx_end hc hcc hd ⟨_, hg.1, hs⟩ hg.2
theorem in35 {j : Nat} (h : j < ([3, 3, 2, 1, 0] : List Int).length) : 0 ≤ ([3, 3, 2, 1, 0] : List Int)[j] ∧ ([3, 3, 2, 1, 0] : List Int)[j] ≤ 3 := by
  have h' : j < 5 := h
  match j, h' with
  | 0, _ => show (0 : Int) ≤ 3 ∧ (3 : Int) ≤ 3; decide
  | 1, _ => show (0 : Int) ≤ 3 ∧ (3 : Int) ≤ 3; decide
  | 2, _ => show (0 : Int) ≤ 2 ∧ (2 : Int) ≤ 3; decide
  | 3, _ => show (0 : Int) ≤ 1 ∧ (1 : Int) ≤ 3; decide
  | 4, _ => show (0 : Int) ≤ 0 ∧ (0 : Int) ≤ 3; decide
theorem drop2r {R R' : Roots} {a b l : Nat} (h : ∀ j, j ≠ a → j ≠ b → R' j = R j) (ha : R' a = none) (hb : R' b = none) (j : Nat) : R' j = R j ∨ R' j = none := by
  by_cases h1 : j = a
  · subst h1; exact .inr ha
  · by_cases h2 : j = b
    · subst h2; exact .inr hb
    · exact .inl (h j h1 h2)
theorem l6Draw_b (e c : D) (xs : List Int) (h : IsL 1 IsByte e xs) (hd : e.data) (hc : Cur e xs.length c) : BCall Try.prog 179 .nil c [] (CurX e xs.length (PoolA 63)) := by
  have sc := hc.shape
  refine bcall_intro Try.func179 rfl (by decide) rfl (by decide) (by rw [Try.ntmps179]; simp) fun w0 M n0 gb hW hS hT hgb => ivc_sound ?_; simp -dsimp only [Try.f179, go_sem, sc.1, sc.2.1, sc.2.2.1]
  intro g2 b2 hb2
  refine xcall_cs (l := 1000) (g := 0) (b := gb) (l1Below_b e c xs 3 h hd hc (by decide) (by decide)) (by simp -dsimp only [go_sem]) ⟨trivial, trivial⟩ (by simp -dsimp only [go_sem]) sc.2.2.2 fun n3 n4 c1 r hn3 hn4 hq => ?_
  obtain ⟨hc1, hand, rfl, hand0, hand1⟩ := hq
  have sc1 := hc1.shape
  simp -dsimp only [go_sem, sc1.1, sc1.2.1, sc1.2.2.1]
  have hn3' : b2 + 1 ≤ n3 := hn3
  intro g3 b3 hb3
  have hb3' : n4 ≤ b3 := hb3
  refine xcall_cs (l := 1000) (g := 0) (b := gb) (l1Below_b e c1 xs 3 h hd hc1 (by decide) (by decide)) (by simp -dsimp only [go_sem]) ⟨trivial, trivial⟩ (by simp -dsimp only [go_sem]) sc1.2.2.2 fun n5 n6 c2 r hn5 hn6 hq => ?_
  obtain ⟨hc2, no0, rfl, no00, no01⟩ := hq
  have sc2 := hc2.shape
  simp -dsimp only [go_sem, sc2.1, sc2.2.1, sc2.2.2.1]
  have hn5' : b3 + 1 ≤ n5 := hn5
  intro g5 b5 hb5
  refine xcall_c (rest0 := [.msl 12 g5 0 [] 0 5 1]) (l := 1000) (g := 0) (b := gb) (l1Int_b e c2 _ xs [3, 3, 2, 1, 0] h hd hc2 (isL_LD b5 (vals := [3, 3, 2, 1, 0]) (by simp)) (by simp) (by simp)) (by simp -dsimp only [go_sem]) (by
    simp -dsimp only [go_sem]
    exact congrArg (fun f => [D.sl b5 true 5 1 f]) (lits fun i => by match i with | 0 => rfl | 1 => rfl | 2 => rfl | 3 => rfl | 4 => rfl | i + 5 => rfl)) (by simp -dsimp only [go_sem]) sc2.2.2.2 fun n7 n8 c2b r hn7 hn8 hq => ?_
  obtain ⟨hc2b, j4, hj4, hr4⟩ := hq
  obtain ⟨w, w0', w1, hu4⟩ : ∃ u : Int, 0 ≤ u ∧ u ≤ 3 ∧ r = .lit (.int .i64 u) := ⟨_, (in35 hj4).1, (in35 hj4).2, hr4⟩
  subst hu4
  have sc2b := hc2b.shape
  simp -dsimp only [go_sem, sc2b.1, sc2b.2.1, sc2b.2.2.1]
  have hb5' : n6 ≤ b5 := hb5
  have hn7' : b5 + 1 ≤ n7 := hn7
  refine iwp_forR w.toNat [0, 2, 3] (fun i n' s R => s 5 = .lit (.int .i64 (w - i)) ∧ ∃ no cc q hd' ss B X12, s 4 = .lit (.int .i64 no) ∧ Cur e xs.length cc ∧ (∀ j, (q j).still ∨ j = 0) ∧ q 0 = hd' ∧ q 1 = .lit (.int .i64 hand) ∧ ss.length = i ∧ Md.szSeats ss ≤ 21 * i ∧
      B = upd (upd (upd (upd (fun _ => none) 1000 (some (0, gb, cc))) 2 (some (g2, b2, zPoolD))) 3 (some (g3, b3, .node (.agg [1, 1]) q))) 12 (some (g5, b5, X12)) ∧ GS 29 n0 n' ss hd' B R) 0 (Nat.zero_le _)
    ⟨by simp -dsimp only [go_sem]; simp, no0, c2b, upd (nthD [.nil, .lit (.int .i64 0)]) 1 (.lit (.int .i64 hand)), .nil, [], _, _, by simp -dsimp only [go_sem], hc2b, fun j => .inl (still_upd (d := .lit (.int .i64 hand)) (stN (l := [.nil, .lit (.int .i64 0)]) (by simp only [stillL_nil, stillL_cons, still_lit, still_nil, still_any, still_nodeN, still_nodeC, and_self])) trivial j), by simp -dsimp only [go_sem], by simp -dsimp only [go_sem], rfl, Nat.le_refl _, rfl, .inl ⟨rfl, rfl, rfl⟩⟩ ?_
  rintro i n' s R hi hn hk ⟨h5, no, cc, q, hd', ss, B, X12, h4, hcc, hqs, q0, q1, hss, hsz, rfl, hG⟩
  refine ivc_sound ?_
  simp -dsimp only [go_sem] at hk
  have scc := hcc.shape
  have hn9 : n8 ≤ n' := hn
  by_cases hlt : i < w.toNat
  · have hpos : 0 < w - (i : Int) := by omega
    have hw1 : IntKind.i64.wrap (w - (i : Int) - 1) = w - ((i + 1 : Nat) : Int) := by rw [w64 (by omega) (by omega)]; omega
    rcases hG with ⟨rfl, rfl, rfl⟩ | ⟨g8, b8, f8, rfl, hb8, rfl, hF⟩
    · simp -dsimp only [go_sem, hk, h4, h5, hpos, q0, q1]
      refine iwp_plan [(0, true), (1, true), (2, true), (3, true), (5, true), (7, true), (4, false), (6, false), (8, false), (9, true), (10, false), (11, false), (12, true), (13, false)] [3] rfl (by decide +kernel) (by decide) [13] (by decide +kernel) ?_
      simp -dsimp only [go_sem, hk, h4, h5, hpos, q0, q1]
      refine xcall_cs (l := 1000) (g := 0) (b := gb) (l3DrawPage_b e cc xs h hd hcc) (by simp -dsimp only [go_sem, hk]) trivial (by simp -dsimp only [go_sem]) scc.2.2.2 fun m1 m2 c3 r hm1 hm2 hq => ?_
      obtain ⟨hc3, ⟨pg, hp1, hp2⟩, hp3⟩ := hq
      have sc3 := hc3.shape
      have zp := shp_page _ _ hp1
      have hm1' : n' ≤ m1 := hm1
      simp -dsimp only [go_sem, hk, h4, h5, hpos, q0, q1, sc3.1, sc3.2.1, sc3.2.2.1]
      refine xcall_cs (l := 1000) (g := 0) (b := gb) (l1Once_b e c3 xs 2 h hd hc3 (by decide) (by decide)) (by simp -dsimp only [go_sem, hk]) ⟨trivial, trivial⟩ (by simp -dsimp only [go_sem]) sc3.2.2.2 fun m3 m4 c4 r hm3 hm4 hq => ?_
      obtain ⟨hc4, bd, rfl⟩ := hq
      have sc4 := hc4.shape
      simp -dsimp only [go_sem, hk, h4, h5, hpos, q0, q1, sc4.1, sc4.2.1, sc4.2.2.1]
      refine xcall_cs (l := 1000) (g := 0) (b := gb) (l1Once_b e c4 xs 2 h hd hc4 (by decide) (by decide)) (by simp -dsimp only [go_sem, hk]) ⟨trivial, trivial⟩ (by simp -dsimp only [go_sem]) sc4.2.2.2 fun m5 m6 c5 r hm5 hm6 hq => ?_
      obtain ⟨hc5, bh, rfl⟩ := hq
      have sc5 := hc5.shape
      simp -dsimp only [go_sem, hk, h4, h5, hpos, q0, q1, zp.1, zp.2.1, zp.2.2.1, sc5.1, sc5.2.1, sc5.2.2.1]
      have hm3' : m2 ≤ m3 := hm3
      have hm5' : m4 ≤ m5 := hm5
      intro g6 b6 hb6
      have hb6' : m6 ≤ b6 := hb6
      have hS := isSeat_B (no := no) (dirty := bd) (hot := bh) hp1
      have hSo := own_seatB (no := no) (dirty := bd) (hot := bh) hp3
      have hSs := shp_seat _ _ hS
      refine ⟨fun y h => h.symm, fun g7 b7 n9 hn9 hb7 hb9 => ?_⟩
      have hb10 : n0 ≤ b7 := by omega
      refine xcall_cs (l := 1000) (g := 0) (b := gb) (l1Below_b e c5 xs 2 h hd hc5 (by decide) (by decide)) (by simp -dsimp only [go_sem]) ⟨trivial, trivial⟩ (by simp -dsimp only [go_sem]) sc5.2.2.2 fun n10 n11 c6 r' hn10 hn11 hq => ?_
      obtain ⟨hc6, y, rfl, y0, y1⟩ := hq
      have sc6 := hc6.shape
      have hn10' : n9 ≤ n10 := hn10
      simp -dsimp only [go_sem, hk, h4, h5, hpos, q0, q1, hw1]
      refine ⟨hlt, into_rd (R' := upd (upd (upd (upd (upd (fun _ => none) 1000 (some (0, gb, c6))) 2 (some (g2, b2, zPoolD))) 3 (some (g3, b3, .node (.agg [1, 1]) (upd q 0 (.msl 29 g7 0 [] 0 1 20))))) 12 (some (g5, b5, X12))) 29 (some (g7, b7, .node (.arr 1 20) (upd (fun _ => zSeatD) 0 (seatB no r bd bh))))) (fun j => by
        by_cases h1 : j = 28
        · subst h1; right; simp [upd]
        · by_cases h2 : j = 29
          · subst h2; left; simp [upd]; try rfl
          · left; simp [upd, h1, h2]) (by omega) (by simp -dsimp only [go_sem, hk])
        ⟨by simp -dsimp only [go_sem], _, c6, (upd q 0 (.msl 29 g7 0 [] 0 1 20)), .msl 29 g7 0 [] 0 1 20, [⟨no, pg, bd, bh⟩], _, X12, by simp -dsimp only [go_sem]; rfl, hc6, gs_upd hqs, by simp -dsimp only [go_sem], by simp -dsimp only [go_sem, q1], by simp at hss ⊢; omega, by
          have hp2 : Md.szPage pg ≤ 20 := hp2
          show 1 + Md.sumBy Md.szSeat [⟨no, pg, bd, bh⟩] ≤ _; have e : Md.sumBy Md.szSeat [(⟨no, pg, bd, bh⟩ : Md.Seat)] = Md.szPage pg := by simp [Md.sumBy, Md.szSeat]
          rw [e]; omega, rfl, .inr ⟨g7, b7, (upd (fun _ => zSeatD) 0 (seatB no r bd bh)), by first | rfl | (rw [List.length_append]; rfl), hb10, by first | rfl | (rw [List.length_append]; rfl), Fill.one (fun _ => still_zSeat) shp_seat (Nat.lt_succ_self 0) hS hSo (by omega) (by omega) (by omega)⟩⟩⟩
    · simp -dsimp only [go_sem, hk, h4, h5, hpos, q0, q1]
      refine iwp_plan [(0, true), (1, true), (2, true), (3, true), (5, true), (7, true), (4, false), (6, false), (8, false), (9, true), (10, false), (11, false), (12, true), (13, false)] [3] rfl (by decide +kernel) (by decide) [13] (by decide +kernel) ?_
      simp -dsimp only [go_sem, hk, h4, h5, hpos, q0, q1]
      refine xcall_cs (l := 1000) (g := 0) (b := gb) (l3DrawPage_b e cc xs h hd hcc) (by simp -dsimp only [go_sem, hk]) trivial (by simp -dsimp only [go_sem]) scc.2.2.2 fun m1 m2 c3 r hm1 hm2 hq => ?_
      obtain ⟨hc3, ⟨pg, hp1, hp2⟩, hp3⟩ := hq
      have sc3 := hc3.shape
      have zp := shp_page _ _ hp1
      have hm1' : n' ≤ m1 := hm1
      simp -dsimp only [go_sem, hk, h4, h5, hpos, q0, q1, sc3.1, sc3.2.1, sc3.2.2.1]
      refine xcall_cs (l := 1000) (g := 0) (b := gb) (l1Once_b e c3 xs 2 h hd hc3 (by decide) (by decide)) (by simp -dsimp only [go_sem, hk]) ⟨trivial, trivial⟩ (by simp -dsimp only [go_sem]) sc3.2.2.2 fun m3 m4 c4 r hm3 hm4 hq => ?_
      obtain ⟨hc4, bd, rfl⟩ := hq
      have sc4 := hc4.shape
      simp -dsimp only [go_sem, hk, h4, h5, hpos, q0, q1, sc4.1, sc4.2.1, sc4.2.2.1]
      refine xcall_cs (l := 1000) (g := 0) (b := gb) (l1Once_b e c4 xs 2 h hd hc4 (by decide) (by decide)) (by simp -dsimp only [go_sem, hk]) ⟨trivial, trivial⟩ (by simp -dsimp only [go_sem]) sc4.2.2.2 fun m5 m6 c5 r hm5 hm6 hq => ?_
      obtain ⟨hc5, bh, rfl⟩ := hq
      have sc5 := hc5.shape
      simp -dsimp only [go_sem, hk, h4, h5, hpos, q0, q1, zp.1, zp.2.1, zp.2.2.1, sc5.1, sc5.2.1, sc5.2.2.1]
      have hm3' : m2 ≤ m3 := hm3
      have hm5' : m4 ≤ m5 := hm5
      intro g6 b6 hb6
      have hb6' : m6 ≤ b6 := hb6
      have hS := isSeat_B (no := no) (dirty := bd) (hot := bh) hp1
      have hSo := own_seatB (no := no) (dirty := bd) (hot := bh) hp3
      have hSs := shp_seat _ _ hS
      refine ⟨fun y h => h.symm, by omega, by omega, fun g7 b7 n9 hn9 hb7 hb9 => ?_⟩
      have hb10 : n0 ≤ b7 := by rcases hb9 with h | h <;> omega
      refine xcall_cs (l := 1000) (g := 0) (b := gb) (l1Below_b e c5 xs 2 h hd hc5 (by decide) (by decide)) (by simp -dsimp only [go_sem]) ⟨trivial, trivial⟩ (by simp -dsimp only [go_sem]) sc5.2.2.2 fun n10 n11 c6 r' hn10 hn11 hq => ?_
      obtain ⟨hc6, y, rfl, y0, y1⟩ := hq
      have sc6 := hc6.shape
      have hn10' : n9 ≤ n10 := hn10
      simp -dsimp only [go_sem, hk, h4, h5, hpos, q0, q1, hw1]
      refine ⟨hlt, into_rd (R' := upd (upd (upd (upd (upd (fun _ => none) 1000 (some (0, gb, c6))) 2 (some (g2, b2, zPoolD))) 3 (some (g3, b3, .node (.agg [1, 1]) (upd q 0 (.msl 29 g7 0 [] 0 (ss.length + 1) 20))))) 12 (some (g5, b5, X12))) 29 (some (g7, b7, .node (.arr (ss.length + 1) 20) (catD ss.length f8 (upd (fun _ => zSeatD) 0 (seatB no r bd bh)))))) (fun j => by
        by_cases h1 : j = 28
        · subst h1; right; simp [upd]
        · by_cases h2 : j = 29
          · subst h2; left; simp [upd]; try rfl
          · left; simp [upd, h1, h2]) (by omega) (by simp -dsimp only [go_sem, hk])
        ⟨by simp -dsimp only [go_sem], _, c6, (upd q 0 (.msl 29 g7 0 [] 0 (ss.length + 1) 20)), .msl 29 g7 0 [] 0 (ss.length + 1) 20, (ss ++ [⟨no, pg, bd, bh⟩]), _, X12, by simp -dsimp only [go_sem]; rfl, hc6, gs_upd hqs, by simp -dsimp only [go_sem], by simp -dsimp only [go_sem, q1], by simp at hss ⊢; omega, by
          have hp2 : Md.szPage pg ≤ 20 := hp2
          have hsz : ss.length + Md.sumBy Md.szSeat ss ≤ 21 * i := hsz; show (ss ++ _).length + Md.sumBy Md.szSeat (ss ++ [_]) ≤ _; rw [sum_snoc, List.length_append]; have e : Md.szSeat ⟨no, pg, bd, bh⟩ = Md.szPage pg := rfl; rw [e]; show ss.length + 1 + _ ≤ _
          omega, rfl, .inr ⟨g7, b7, (catD ss.length f8 (upd (fun _ => zSeatD) 0 (seatB no r bd bh))), by first | rfl | (rw [List.length_append]; rfl), hb10, by first | rfl | (rw [List.length_append]; rfl), by have := Fill.cat (Fill.grow (x := ⟨no, pg, bd, bh⟩) hF rfl) (z := fun _ => zSeatD) (hi := n11) (fun _ => still_zSeat) shp_seat (by simp) (by rw [snoc_get]; exact hS) hSo (by omega) (by omega) (by omega) (by omega); rwa [List.length_append]⟩⟩⟩
  · have hneg : ¬ 0 < w - (i : Int) := by omega
    rcases hG with ⟨rfl, rfl, rfl⟩ | ⟨g8, b8, f8, rfl, hb8, rfl, hF⟩
    · simp -dsimp only [go_sem, hk, h5, hneg, q0, q1]
      refine ⟨plain_node _ _, rfl, _, rfl, fun n1 hn1 hfc => ?_⟩
      rw [rl_still scc.2.2.2, rl_node]
      exact pool_end (hand := hand) (ss := []) hc hcc hd (by simp -dsimp only [go_sem, q0]) (by simp -dsimp only [go_sem, q1]) hqs (.inl ⟨rfl, rfl⟩) (own_nil _ _) (by decide)
    · simp -dsimp only [go_sem, hk, h5, hneg, q0, q1]
      refine ⟨plain_node _ _, rfl, _, rfl, fun n1 hn1 hfc => ?_⟩
      have hn1' : n' ≤ n1 := hn1
      have hb : b8 < n1 ∧ b8 ∉ (D.node (.arr ss.length 20) f8).tl := hfc.here
      have hL := hF.isLs (b := b8) (n1 := n1) rfl (by omega) (by omega) hb.1 (by omega) hb.2
      rw [rl_still scc.2.2.2, rl_node]
      exact pool_end (hand := hand) hc hcc hd (by simp -dsimp only [go_sem, q0] <;> exact congrArg (D.sl b8 true ss.length 20) (rls_still hL.2.2)) (by simp -dsimp only [go_sem, q1] <;> exact rl_lit _ _ _) hqs hL.1 hL.2.1 (by omega)
end Go.Proofs.Ytkigfigdoaoboaa.IM
end

section
/- Contracts: any pools. Printed by draws8.py. -/
namespace Go.Proofs.Ytkigfigdoaoboaa.IM
open Go Go.Proofs
set_option linter.unusedVariables false
set_option linter.unusedSimpArgs false
set_option maxHeartbeats 2000000
set_option maxRecDepth 20000

/-- a seat of a number, else zero -/
def seatZ (no : Int) : D := .node (.agg [1, 17, 1, 1]) (upd (nthD [.lit (.int .i64 0), zPageD, .lit (.bool false), .lit (.bool false)]) 0 (.lit (.int .i64 no)))
theorem isSeat_Z (no : Int) : IsSeat (seatZ no) ⟨no, zPage, false, false⟩ := ⟨_, rfl, still_upd (stN (by simp only [stillL_nil, stillL_cons, still_lit, still_zPage, and_self])) trivial, rfl, isPage_z, rfl, rfl⟩
theorem own_seatZ (no : Int) (lo hi : Nat) : Own lo hi (seatZ no) := by
  have e : (seatZ no).tl = [] := rfl
  refine ⟨fun t ht => by rw [e] at ht; simp at ht, by rw [e]; simp, fun i hi => ?_⟩
  have hi' : i < 4 := hi
  match i, hi' with
  | 0, _ => trivial
  | 1, _ => exact whole_zPage
  | 2, _ => trivial
  | 3, _ => trivial
theorem isSeat_no {g : Nat → D} {s : Md.Seat} (h : IsSeat (.node (.agg [1, 17, 1, 1]) g) s) (no : Int) : IsSeat (.node (.agg [1, 17, 1, 1]) (upd g 0 (.lit (.int .i64 no)))) { s with no := no } := by
  obtain ⟨f, e, hst, h0, h1, h2, h3⟩ := h
  cases e
  exact ⟨_, rfl, still_upd hst trivial, rfl, h1, h2, h3⟩
theorem isL_set49 {α : Type} {R : D → α → Prop} {sz t k : Nat} {xs : List α} {f : Nat → D} {s : D} {y : α} (hst : ∀ i, (f i).still) (hss : s.still) (hf : ∀ i (h : i < xs.length), R (f i) xs[i]) (hs : R s y) (hl : xs.length < 140737488355328) : IsL sz R (.sl t true xs.length sz (upd f k s)) (xs.set k y) :=
  .inr ⟨t, true, upd f k s, by rw [List.length_set], still_upd hst hss, by rw [List.length_set]; exact hl, fun i hi => by
    have hi' : i < xs.length := by rwa [List.length_set] at hi
    rw [List.getElem_set]
    by_cases h : k = i
    · subst h; rw [upd_same, if_pos rfl]; exact hs
    · rw [upd_ne _ _ (fun e => h e.symm), if_neg h]; exact hf i hi'⟩
theorem Fill.wd {α : Type} {R : D → α → Prop} {sz lo lo' hi hi' : Nat} {xs : List α} {n i : Nat} {f : Nat → D} (h : Fill R sz lo hi xs n i f) (h1 : lo' ≤ lo) (h2 : hi ≤ hi') : Fill R sz lo' hi' xs n i f := ⟨h.st, h.sh, h.ok, h.own.mono h1 h2⟩
theorem szSeats_set (l : List Md.Seat) (i : Nat) (s : Md.Seat) (h : ∀ (hi : i < l.length), Md.szSeat s = Md.szSeat l[i]) : Md.szSeats (l.set i s) = Md.szSeats l := by
  unfold Md.szSeats
  rw [List.length_set]
  congr 1
  induction l generalizing i with
  | nil => rfl
  | cons a l ih =>
    cases i with
    | zero =>
      have := h (by simp)
      simp only [List.set_cons_zero, Md.sumBy, List.map_cons, List.sum_cons, this, List.getElem_cons_zero]
    | succ i =>
      have := ih i fun hi => by have := h (by simpa using hi); simpa using this
      simp only [List.set_cons_succ, Md.sumBy, List.map_cons, List.sum_cons] at this ⊢
      rw [this]
theorem l6DrawAny_b (e c : D) (xs : List Int) (h : IsL 1 IsByte e xs) (hd : e.data) (hc : Cur e xs.length c) : BCall Try.prog 107 .nil c [] (CurX e xs.length (PoolA 64)) := by
  have sc := hc.shape
  refine bcall_intro Try.func107 rfl (by decide) rfl (by decide) (by rw [Try.ntmps107]; simp) fun w0 M n0 gb hW hS hT hgb => ivc_sound ?_; simp -dsimp only [Try.f107, go_sem, sc.1, sc.2.1, sc.2.2.1]
  have eT : e.tags (· < n0) := by
    exact hc.etags (hT c (by simp) (hc.child hd))
  intro g2 b2 hb2
  refine xcall_cs (l := 1000) (g := 0) (b := gb) (l6Draw_b e c xs h hd hc) (by simp -dsimp only [go_sem]) trivial (by simp -dsimp only [go_sem]) sc.2.2.2 fun m0 p0 c1 r0 hm0 hp0 hq => ?_
  obtain ⟨hc1, ⟨x, hx, hxs⟩, ho⟩ := hq
  have hm0' : b2 + 1 ≤ m0 := hm0
  have sc1 := hc1.shape
  have zp := shp_pool _ _ hx
  obtain ⟨q, rfl, hqs, hq0, q1⟩ := id hx
  have q1 : q 1 = _ := q1
  have hq0 : IsL 20 IsSeat (q 0) x.seats := hq0
  simp -dsimp only [go_sem, sc1.1, sc1.2.1, sc1.2.2.1, zp.1, zp.2.1, zp.2.2.1]
  intro g3 b3 hb3
  have hb3' : p0 ≤ b3 := hb3
  refine xcall_cs (l := 1000) (g := 0) (b := gb) (l1Below_b e c1 xs 14 h hd hc1 (by decide) (by decide)) (by simp -dsimp only [go_sem]) ⟨trivial, trivial⟩ (by simp -dsimp only [go_sem]) sc1.2.2.2 fun n5 n6 c2 r hn5 hn6 hq => ?_
  obtain ⟨hc2, v, rfl, v0, v1⟩ := hq
  have sc2 := hc2.shape
  simp -dsimp only [go_sem, zp.1, zp.2.1, zp.2.2.1, q1, sc2.1, sc2.2.1, sc2.2.2.1]
  have hn5' : b3 + 1 ≤ n5 := hn5
  have zs : zPoolD.size = 2 := rfl
  have hlen : x.seats.length ≤ 63 := by have hxs : x.seats.length + _ ≤ 63 := hxs; omega
  rcases (by omega : v = 0 ∨ v = 1 ∨ v = 2 ∨ (v ≠ 0 ∧ v ≠ 1 ∧ v ≠ 2)) with rfl | rfl | rfl | ⟨hv0, hv1, hv2⟩
  · simp -dsimp only [go_sem, sc2.1, sc2.2.1, sc2.2.2.1, q1, Int.reduceBEq]
    intro g5 b5 hb5
    refine xcall_c (rest0 := [.msl 11 g5 0 [] 0 2 1]) (l := 1000) (g := 0) (b := gb) (l1Int_b e c2 _ xs [-1, 3] h hd hc2 (isL_LD b5 (vals := [-1, 3]) (by simp)) (by simp) (by simp)) (by simp -dsimp only [go_sem]) (by
      simp -dsimp only [go_sem]
      exact congrArg (fun f => [D.sl b5 true 2 1 f]) (lits fun i => by match i with | 0 => rfl | 1 => rfl | i + 2 => rfl)) (by simp -dsimp only [go_sem]) sc2.2.2.2 fun m1 m2 c3 r hm1 hm2 hq => ?_
    obtain ⟨hc3, j4, hj4, hr4⟩ := hq
    obtain ⟨u, hu4⟩ : ∃ u : Int, r = .lit (.int .i64 u) := ⟨_, hr4⟩
    subst hu4
    have sc3 := hc3.shape
    simp -dsimp only [go_sem, q1, sc3.1, sc3.2.1, sc3.2.2.1]
    refine ⟨_, rfl, fun n1 hn1 hfc => ?_⟩
    have hn1' : m2 ≤ n1 := hn1
    have hb5' : n6 ≤ b5 := hb5
    have hm1' : b5 + 1 ≤ m1 := hm1
    have hst2 : ∀ j, (upd q 1 (.lit (.int .i64 u)) j).still := still_upd hqs trivial
    rw [rl_still sc3.2.2.2, rlnode_still hst2]
    exact cx_end hc hc3 hd ⟨⟨x.seats, u⟩, ⟨_, rfl, hst2, hq0, rfl⟩, Nat.le_succ_of_le hxs⟩ ((own_lit0 ho (by rw [q1]; rfl)).mono (by omega) (by omega))
  · simp -dsimp only [go_sem, sc2.1, sc2.2.1, sc2.2.2.1, q1, Int.reduceBEq]
    rcases id hq0 with ⟨q0, hnil⟩ | ⟨t, zb, f, q0, hfs, hfl, hf⟩
    · refine iwp_plan [(0, true), (1, true), (2, true), (3, false), (4, false), (5, true), (6, false), (7, false), (8, true), (9, false)] [3] rfl (by decide +kernel) (by decide) [9] (by decide +kernel) ?_
      simp -dsimp only [go_sem, q0, q1]
      intro g5 b5 hb5
      refine xcall_c (rest0 := [.msl 19 g5 0 [] 0 3 1]) (l := 1000) (g := 0) (b := gb) (l1Int_b e c2 _ xs [7, 8, 0] h hd hc2 (isL_LD b5 (vals := [7, 8, 0]) (by simp)) (by simp) (by simp)) (by simp -dsimp only [go_sem]) (by
        simp -dsimp only [go_sem]
        exact congrArg (fun f => [D.sl b5 true 3 1 f]) (lits fun i => by match i with | 0 => rfl | 1 => rfl | 2 => rfl | i + 3 => rfl)) (by simp -dsimp only [go_sem]) sc2.2.2.2 fun m1 m2 c3 r hm1 hm2 hq => ?_
      obtain ⟨hc3, j4, hj4, hr4⟩ := hq
      obtain ⟨u, hu4⟩ : ∃ u : Int, r = .lit (.int .i64 u) := ⟨_, hr4⟩
      subst hu4
      have sc3 := hc3.shape
      simp -dsimp only [go_sem, q0, q1, sc3.1, sc3.2.1, sc3.2.2.1]
      have hm1' : b5 + 1 ≤ m1 := hm1
      have hb5' : n6 ≤ b5 := hb5
      intro g6 b6 hb6
      have hb6' : m2 ≤ b6 := hb6
      have hS := isSeat_Z u
      have hSo := own_seatZ u
      have hSs := shp_seat _ _ hS
      refine ⟨fun y h => h.symm, fun g7 b7 n9 hn9 hb7 hb9 => ?_⟩
      have hb10 : n0 ≤ b7 := by omega
      refine ⟨_, rfl, fun n1 hn1 hfc => ?_⟩
      have hn1' : n9 ≤ n1 := hn1
      have hF : Fill IsSeat 20 n0 n0 [⟨u, zPage, false, false⟩] 1 1 (upd (fun _ => zSeatD) 0 (seatZ u)) := Fill.one (fun _ => still_zSeat) shp_seat (Nat.lt_succ_self 0) hS (hSo n0 n0) (Nat.le_refl _) (Nat.le_refl _) (Nat.le_refl _)
      have hbb : b7 < n1 ∧ b7 ∉ (D.node (.arr 1 20) (upd (fun _ => zSeatD) 0 (seatZ u))).tl := ⟨hfc.lt 23 _ _ _ (by simp -dsimp only [go_sem]; rfl), hfc.root 23 _ _ _ 23 _ _ _ (by simp -dsimp only [go_sem]; rfl) (by simp -dsimp only [go_sem]; rfl)⟩
      have hL := hF.isLs (b := b7) (n1 := n1) (by simp) (by omega) (by omega) hbb.1 (by omega) hbb.2
      rw [rl_still sc3.2.2.2, rl_node]
      exact pool_end (hand := x.hand) hc hc3 hd (by simp -dsimp only [go_sem] <;> exact congrArg (D.sl b7 true 1 20) (rls_still hL.2.2)) (by simp -dsimp only [go_sem, q1] <;> exact rl_lit _ _ _) (gs_upd fun j => .inl (hqs j)) hL.1 hL.2.1 (by have hxs : x.seats.length + Md.sumBy Md.szSeat x.seats ≤ 63 := hxs; show 1 + Md.sumBy Md.szSeat [_] ≤ 64; show 1 + (Md.szSeat _ + 0) ≤ 64; show 1 + (0 + 0) ≤ 64; omega)
    · have hoS : Own m0 p0 (.sl t zb x.seats.length 20 f) := by
        have := ho.node.own (i := 0) (by decide)
        rw [q0] at this
        exact this
      obtain rfl : zb = true := hoS.wh.1
      have ht := hoS.rg t (by simp [D.tl])
      refine iwp_meltK (l := 2001) (lq := 3) (gq := g3) (bq := b3) (R' := upd (upd (fun _ => none) 1000 (some (0, gb, c2))) 2 (some (g2, b2, zPoolD))) (xq' := fun g => .node (.agg [1, 1]) (upd q 0 (.msl 2001 g 0 [] 0 x.seats.length 20))) [0, 2, 3] (hW t (by omega)) (by simp -dsimp only [go_sem]) (own_free hoS) (by simp -dsimp only [go_sem]) (.node _ _ 0 (by decide) (has_eq q0)) (fun g => ⟨plain_node _ _, thaw_upd (thaw_eq q0) fun i hi hne => own_free_ne ho (by decide : 0 < 2) (by rw [q0]; simp [D.tl]) hi hne⟩) (fun j hj => ?_) (by decide) (fun l' g b z hz hne => ⟨?_, ((OkR.none t).upd sc2.2.2.1 (free_of_tags (m := n0) (by omega) (hc2.tags (p := (· < n0)) eT))).upd (plain_node _ _) (free_of_tags (m := 0) (Nat.zero_le _) zlog_tags) _ _ _ _ hz⟩) fun g8 => ?_
      · simp only [List.mem_cons, List.not_mem_nil, or_false] at hj
        rcases hj with rfl | rfl | rfl
        all_goals exact free_ptr t _ _ _ _
      · rw [upd_ne _ _ hne]; exact hz
      refine (show IWpT _ _ _ _ _ _ from ?_)
      refine iwp_plan [(0, true), (1, true), (2, true), (3, false), (4, false), (5, true), (6, false), (7, false), (8, true), (9, false)] [3] rfl (by decide +kernel) (by decide) [9] (by decide +kernel) ?_
      simp -dsimp only [go_sem, q0, q1]
      intro g5 b5 hb5
      refine xcall_c (rest0 := [.msl 19 g5 0 [] 0 3 1]) (l := 1000) (g := 0) (b := gb) (l1Int_b e c2 _ xs [7, 8, 0] h hd hc2 (isL_LD b5 (vals := [7, 8, 0]) (by simp)) (by simp) (by simp)) (by simp -dsimp only [go_sem]) (by
        simp -dsimp only [go_sem]
        exact congrArg (fun f => [D.sl b5 true 3 1 f]) (lits fun i => by match i with | 0 => rfl | 1 => rfl | 2 => rfl | i + 3 => rfl)) (by simp -dsimp only [go_sem]) sc2.2.2.2 fun m1 m2 c3 r hm1 hm2 hq => ?_
      obtain ⟨hc3, j4, hj4, hr4⟩ := hq
      obtain ⟨u, hu4⟩ : ∃ u : Int, r = .lit (.int .i64 u) := ⟨_, hr4⟩
      subst hu4
      have sc3 := hc3.shape
      simp -dsimp only [go_sem, q0, q1, sc3.1, sc3.2.1, sc3.2.2.1]
      have hm1' : b5 + 1 ≤ m1 := hm1
      have hb5' : n6 ≤ b5 := hb5
      intro g6 b6 hb6
      have hb6' : m2 ≤ b6 := hb6
      have hS := isSeat_Z u
      have hSo := own_seatZ u
      have hSs := shp_seat _ _ hS
      refine ⟨fun y h => h.symm, by omega, by omega, fun g7 b7 n9 hn9 hb7 hb9 => ?_⟩
      have hb10 : n0 ≤ b7 := by rcases hb9 with h | h <;> omega
      refine ⟨plain_node _ _, rfl, _, rfl, fun n1 hn1 hfc => ?_⟩
      have hn1' : n9 ≤ n1 := hn1
      have hF := Fill.catA ((fill_snoc (x := ⟨u, zPage, false, false⟩) shp_seat hfs hf hoS).wd (lo' := n0) (hi' := n9) (by omega) (by omega)) (z := fun _ => zSeatD) (fun _ => still_zSeat) shp_seat (by simp) (by rw [snoc_get]; exact hS) (hSo _ _) (fun j hj b hb hx => by rw [show (seatZ u).tl = [] from rfl] at hx; simp at hx)
      have hbb : b7 < n1 ∧ b7 ∉ (D.node (.arr (x.seats.length + 1) 20) (catD x.seats.length f (upd (fun _ => zSeatD) 0 (seatZ u)))).tl := ⟨hfc.lt 2001 _ _ _ (by simp -dsimp only [go_sem]; rfl), hfc.root 2001 _ _ _ 2001 _ _ _ (by simp -dsimp only [go_sem]; rfl) (by simp -dsimp only [go_sem]; rfl)⟩
      have hL := hF.isLs (b := b7) (n1 := n1) (by simp) (by omega) (by omega) hbb.1 (by omega) hbb.2
      rw [rl_still sc3.2.2.2, rl_node]
      exact pool_end (hand := x.hand) hc hc3 hd (by simp -dsimp only [go_sem] <;> exact congrArg (D.sl b7 true (x.seats.length + 1) 20) (rls_still hL.2.2)) (by simp -dsimp only [go_sem, q1] <;> exact rl_lit _ _ _) (gs_upd fun j => .inl (hqs j)) hL.1 hL.2.1 (by have hxs : x.seats.length + Md.sumBy Md.szSeat x.seats ≤ 63 := hxs; show (x.seats ++ [_]).length + Md.sumBy Md.szSeat (x.seats ++ [_]) ≤ 64; rw [sum_snoc, List.length_append]; show x.seats.length + 1 + (Md.sumBy Md.szSeat x.seats + 0) ≤ 64; omega)
  · by_cases h1 : 1 < x.seats.length
    · have h1' : (1 : Int) < (x.seats.length : Int) := by omega
      obtain ⟨t, zb, f, q0, hfs, hf⟩ := hq0.sl (i := 0) (by omega)
      have hoS : Own m0 p0 (.sl t zb x.seats.length 20 f) := by
        have := ho.node.own (i := 0) (by decide)
        rw [q0] at this
        exact this
      obtain rfl : zb = true := hoS.wh.1
      have ht := hoS.rg t (by simp [D.tl])
      simp -dsimp only [go_sem, sc2.1, sc2.2.1, sc2.2.2.1, q1, Int.reduceBEq, q0, h1']
      have hh0 : (0 : Int) < (x.seats.length : Int) := by omega
      have hn0 : 0 < x.seats.length := by omega
      obtain ⟨ge, hge, ges, s0, s1, s2, s3⟩ := hf 0 hn0
      have s0 : ge 0 = _ := s0
      obtain ⟨gf, hgf, gfs, u0, u1, u2, u3⟩ := hf 1 h1
      have u0 : gf 0 = _ := u0
      refine iwp_meltK (l := 2001) (lq := 3) (gq := g3) (bq := b3) (R' := upd (upd (fun _ => none) 1000 (some (0, gb, c2))) 2 (some (g2, b2, zPoolD))) (xq' := fun g => .node (.agg [1, 1]) (upd q 0 (.msl 2001 g 0 [] 0 x.seats.length 20))) [0, 2, 3] (hW t (by omega)) (by simp -dsimp only [go_sem]) (own_free hoS) (by simp -dsimp only [go_sem]) (.node _ _ 0 (by decide) (has_eq q0)) (fun g => ⟨plain_node _ _, thaw_upd (thaw_eq q0) fun i hi hne => own_free_ne ho (by decide : 0 < 2) (by rw [q0]; simp [D.tl]) hi hne⟩) (fun j hj => ?_) (by decide) (fun l' g b z hz hne => ⟨?_, ((OkR.none t).upd sc2.2.2.1 (free_of_tags (m := n0) (by omega) (hc2.tags (p := (· < n0)) eT))).upd (plain_node _ _) (free_of_tags (m := 0) (Nat.zero_le _) zlog_tags) _ _ _ _ hz⟩) fun g8 => ?_
      · simp only [List.mem_cons, List.not_mem_nil, or_false] at hj
        rcases hj with rfl | rfl | rfl
        all_goals exact free_ptr t _ _ _ _
      · rw [upd_ne _ _ hne]; exact hz
      refine (show IWpT _ _ _ _ _ _ from ?_)
      refine iwp_plan [(0, true), (1, true), (2, true), (3, true), (4, true), (5, true), (6, true), (7, true), (8, true), (9, false)] [3, 2001] rfl (by decide +kernel) (by decide) [7, 8, 9] (by decide +kernel) ?_
      simp -dsimp only [go_sem, q1, h1', hh0, show Int.toNat 1 = 1 from rfl, show Int.toNat 0 = 0 from rfl, hge, hgf, s0, u0, h1, hn0, sc2.1, sc2.2.1, sc2.2.2.1, zs, zp.1, zp.2.1, zp.2.2.1]
      refine ⟨by decide, by decide, plain_node _ _, _, rfl, fun n1 hn1 hfc => ?_⟩
      have hn1' : n6 ≤ n1 := hn1
      have hS2 := isSeat_no ⟨ge, rfl, ges, s0, s1, s2, s3⟩ x.seats[1].no
      have hL := isL_set49 (R := IsSeat) (sz := 20) (t := t) (k := 0) hfs (shp_seat _ _ hS2).2.2.2 hf hS2 (by omega)
      have hoE : Own m0 p0 (f 0) := hoS.sl.1.own hn0
      have hoP : Put m0 p0 p0 (.sl t true x.seats.length 20 f) (.sl t true x.seats.length 20 (upd f 0 _)) := Put.slc hoS hn0 (x := .node (.agg [1, 17, 1, 1]) (upd ge 0 (.lit (.int .i64 x.seats[1].no)))) (by rw [hge] at hoE ⊢; exact Put.node hoE (by decide) (Put.lit _ _ _ _ _) (Nat.le_refl _) (Nat.le_refl _)) (Nat.le_refl _) (Nat.le_refl _)
      rw [rl_still sc2.2.2.2, rl_node]
      exact pool_end (hand := x.hand) hc hc2 hd (by simp -dsimp only [go_sem] <;> exact congrArg (D.sl t true x.seats.length 20) (rls_still (still_upd hfs (shp_seat _ _ hS2).2.2.2))) (by simp -dsimp only [go_sem, q1] <;> exact rl_lit _ _ _) (gs_upd fun j => .inl (hqs j)) hL (hoP.own.mono (by omega) (by omega)) (by rw [szSeats_set]; exact Nat.le_succ_of_le hxs; intro _; rfl)
    · have h1' : ¬ (1 : Int) < (x.seats.length : Int) := by omega
      simp -dsimp only [go_sem, sc2.1, sc2.2.1, sc2.2.2.1, q1, Int.reduceBEq, hq0.lenT, hq0.size, hq0.isNode, hq0.plain, h1']
      refine ⟨_, rfl, fun n1 hn1 hfc => ?_⟩
      have hn1' : n6 ≤ n1 := hn1
      rw [rl_still sc2.2.2.2, rlnode_still hqs]
      exact cx_end hc hc2 hd ⟨x, hx, Nat.le_succ_of_le hxs⟩ (ho.mono (by omega) (by omega))
  · have t0 : (v == 0) = false := beq_eq_false_iff_ne.2 hv0
    have t1 : (v == 1) = false := beq_eq_false_iff_ne.2 hv1
    have t2 : (v == 2) = false := beq_eq_false_iff_ne.2 hv2
    simp -dsimp only [go_sem, sc2.1, sc2.2.1, sc2.2.2.1, q1, Int.reduceBEq, t0, t1, t2]
    refine ⟨_, rfl, fun n1 hn1 hfc => ?_⟩
    have hn1' : n6 ≤ n1 := hn1
    rw [rl_still sc2.2.2.2, rlnode_still hqs]
    exact cx_end hc hc2 hd ⟨x, hx, Nat.le_succ_of_le hxs⟩ (ho.mono (by omega) (by omega))
end Go.Proofs.Ytkigfigdoaoboaa.IM
end

section
/- Contracts: the draws of pools with a page. Printed by draws9.py. -/
namespace Go.Proofs.Ytkigfigdoaoboaa.IM
open Go Go.Proofs
set_option linter.unusedVariables false
set_option linter.unusedSimpArgs false
set_option maxHeartbeats 2000000
set_option maxRecDepth 20000

/-- a pool, a number and a page, drawn -/
def DrawnR (n0 n1 : Nat) (r : D) : Prop := ∃ (a b : D) (k : Int) (x : Md.Pool) (y : Md.Page), r = .tup 3 (nthD [a, .lit (.int .i64 k), b]) ∧ IsPool a x ∧ Md.szPool x ≤ 64 ∧ IsPage b y ∧ Md.szPage y ≤ 60 ∧ Own2 n0 n1 a b
theorem isPage_lsn {q : Nat → D} {y : Md.Page} (h : IsPage (.node (.agg [1, 16]) q) y) (k : Int) : IsPage (.node (.agg [1, 16]) (upd q 0 (.lit (.int .i64 k)))) { y with lsn := k } := by
  obtain ⟨f, e, hst, h0, h1⟩ := h
  cases e
  exact ⟨_, rfl, still_upd hst trivial, rfl, h1⟩
theorem drawChange_p (e : D) (xs : List Int) (h : IsL 1 IsByte e xs) (hd : e.data) : PCall Try.prog 34 [e] DrawnR := by
  refine pcall_intro_t Try.func34 rfl (by decide) rfl (by decide) (by rw [Try.ntmps34]; simp) fun w0 M n0 hW hT => ivc_sound ?_; simp -dsimp only [Try.f34, go_sem, h.lenT]
  intro g2 b2 hb2 g4 b4 hb4
  refine xcall_ptr (l := 2450) (l1New_o e xs h) rfl (by simp -dsimp only [go_sem]) ⟨h.still, trivial⟩ fun n1 c G b' hn1 hst hpl hc hb1 hb2 => ?_
  have sc := hc.shape
  simp -dsimp only [go_sem, sc.1, sc.2.1, sc.2.2.1]
  refine xcall_cs (l := 2450) (g := G) (b := b') (l6DrawAny_b e c xs h hd hc) (by simp -dsimp only [go_sem]) trivial (by simp -dsimp only [go_sem]) sc.2.2.2 fun m0 p0 c1 r0 hm0 hp0 hq => ?_
  obtain ⟨hc1, ⟨x, hx, hxs⟩, ho⟩ := hq
  have sc1 := hc1.shape
  have zp := shp_pool _ _ hx
  simp -dsimp only [go_sem, sc1.1, sc1.2.1, sc1.2.2.1, zp.1, zp.2.1, zp.2.2.1]
  intro g6 b6 hb6
  have hb6' : p0 ≤ b6 := hb6
  refine xcall_cs (l := 2450) (g := G) (b := b') (l3PageAny_b e c1 xs h hd hc1) (by simp -dsimp only [go_sem]) trivial (by simp -dsimp only [go_sem]) sc1.2.2.2 fun m1 p1 c2 r1 hm1 hp1 hq => ?_
  obtain ⟨hc2, ⟨y, hy, hys⟩, ho1⟩ := hq
  have sc2 := hc2.shape
  have yp := shp_page _ _ hy
  simp -dsimp only [go_sem, sc2.1, sc2.2.1, sc2.2.2.1, yp.1, yp.2.1, yp.2.2.1, zp.1, zp.2.1, zp.2.2.1]
  intro g7 b7 hb7
  have hb7' : p1 ≤ b7 := hb7
  have hm1' : b6 + 1 ≤ m1 := hm1
  have hm0' : n1 ≤ m0 := hm0
  refine xcall_cs (l := 2450) (g := G) (b := b') (l1Once_b e c2 xs 2 h hd hc2 (by decide) (by decide)) (by simp -dsimp only [go_sem]) ⟨trivial, trivial⟩ (by simp -dsimp only [go_sem]) sc2.2.2.2 fun n5 n6 c3 r hn5 hn6 hq => ?_
  obtain ⟨hc3, v, rfl⟩ := hq
  have sc3 := hc3.shape
  have hn5' : b7 + 1 ≤ n5 := hn5
  obtain ⟨q, rfl, hqs, hqr⟩ := id hy
  simp -dsimp only [go_sem, sc3.1, sc3.2.1, sc3.2.2.1, yp.1, yp.2.1, yp.2.2.1, zp.1, zp.2.1, zp.2.2.1]
  refine ⟨fun hvt => ⟨by rw [hqr.1]; trivial, by rw [hqr.1]; rfl, ?_⟩, fun hvf => ?_⟩
  · subst hvt
    have hv := isPage_lsn hy 40
    have hvo : Own m1 p1 (.node (.agg [1, 16]) (upd q 0 (.lit (.int .i64 40)))) := own_lit0 ho1 (by rw [hqr.1]; rfl)
    have vp := shp_page _ _ hv
    refine iwp_plan [(0, true), (1, true), (3, true), (2, false), (4, false), (5, true), (6, false)] [6, 7] rfl (by decide +kernel) (by decide) [] (by decide +kernel) ?_
    simp -dsimp only [go_sem, sc3.1, sc3.2.1, sc3.2.2.1, yp.1, yp.2.1, yp.2.2.1, zp.1, zp.2.1, zp.2.2.1, vp.1, vp.2.1, vp.2.2.1]
    refine xcall_cs (l := 2450) (g := G) (b := b') (l1Below_b e c3 xs 5 h hd hc3 (by decide) (by decide)) (by simp -dsimp only [go_sem]) ⟨trivial, trivial⟩ (by simp -dsimp only [go_sem]) sc3.2.2.2 fun n7 n8 c4 r hn7 hn8 hq => ?_
    obtain ⟨hc4, w, rfl, w0, w1⟩ := hq
    have sc4 := hc4.shape
    simp -dsimp only [go_sem, sc4.1, sc4.2.1, sc4.2.2.1, zp.1, zp.2.1, zp.2.2.1, vp.1, vp.2.1, vp.2.2.1]
    intro n9 hn9 hfc
    have hn9' : n8 ≤ n9 := hn9
    have hn7' : n6 ≤ n7 := hn7
    rw [rl_still zp.2.2.2, rl_still vp.2.2.2]
    exact ⟨_, _, _, x, _, rfl, hx, hxs, hv, hys, Own2.of (ho.mono (by omega) (Nat.le_refl _)) (hvo.mono (Nat.le_refl _) (by omega)) (by omega) (by omega) (by omega)⟩
  · subst hvf
    have hv := hy
    have hvo := ho1
    have vp := shp_page _ _ hv
    refine iwp_plan [(0, true), (1, true), (3, true), (2, false), (4, false), (5, true), (6, false)] [6, 7] rfl (by decide +kernel) (by decide) [] (by decide +kernel) ?_
    simp -dsimp only [go_sem, sc3.1, sc3.2.1, sc3.2.2.1, yp.1, yp.2.1, yp.2.2.1, zp.1, zp.2.1, zp.2.2.1, vp.1, vp.2.1, vp.2.2.1]
    refine xcall_cs (l := 2450) (g := G) (b := b') (l1Below_b e c3 xs 5 h hd hc3 (by decide) (by decide)) (by simp -dsimp only [go_sem]) ⟨trivial, trivial⟩ (by simp -dsimp only [go_sem]) sc3.2.2.2 fun n7 n8 c4 r hn7 hn8 hq => ?_
    obtain ⟨hc4, w, rfl, w0, w1⟩ := hq
    have sc4 := hc4.shape
    simp -dsimp only [go_sem, sc4.1, sc4.2.1, sc4.2.2.1, zp.1, zp.2.1, zp.2.2.1, vp.1, vp.2.1, vp.2.2.1]
    intro n9 hn9 hfc
    have hn9' : n8 ≤ n9 := hn9
    have hn7' : n6 ≤ n7 := hn7
    rw [rl_still zp.2.2.2, rl_still vp.2.2.2]
    exact ⟨_, _, _, x, _, rfl, hx, hxs, hv, hys, Own2.of (ho.mono (by omega) (Nat.le_refl _)) (hvo.mono (Nat.le_refl _) (by omega)) (by omega) (by omega) (by omega)⟩
theorem drawBring_p (e : D) (xs : List Int) (h : IsL 1 IsByte e xs) (hd : e.data) : PCall Try.prog 51 [e] DrawnR := by
  refine pcall_intro_t Try.func51 rfl (by decide) rfl (by decide) (by rw [Try.ntmps51]; simp) fun w0 M n0 hW hT => ivc_sound ?_; simp -dsimp only [Try.f51, go_sem, h.lenT]
  intro g2 b2 hb2 g4 b4 hb4
  refine xcall_ptr (l := 2350) (l1New_o e xs h) rfl (by simp -dsimp only [go_sem]) ⟨h.still, trivial⟩ fun n1 c G b' hn1 hst hpl hc hb1 hb2 => ?_
  have sc := hc.shape
  simp -dsimp only [go_sem, sc.1, sc.2.1, sc.2.2.1]
  refine xcall_cs (l := 2350) (g := G) (b := b') (l6DrawAny_b e c xs h hd hc) (by simp -dsimp only [go_sem]) trivial (by simp -dsimp only [go_sem]) sc.2.2.2 fun m0 p0 c1 r0 hm0 hp0 hq => ?_
  obtain ⟨hc1, ⟨x, hx, hxs⟩, ho⟩ := hq
  have sc1 := hc1.shape
  have zp := shp_pool _ _ hx
  simp -dsimp only [go_sem, sc1.1, sc1.2.1, sc1.2.2.1, zp.1, zp.2.1, zp.2.2.1]
  intro g5 b5 hb5
  have hb5' : p0 ≤ b5 := hb5
  refine xcall_c (rest0 := [.msl 11 g5 0 [] 0 7 1]) (l := 2350) (g := G) (b := b') (l1Int_b e c1 _ xs [0, 3, 5, 6, 7, 8, -1] h hd hc1 (isL_LD b5 (vals := [0, 3, 5, 6, 7, 8, -1]) (by simp)) (by simp) (by simp)) (by simp -dsimp only [go_sem]) (by
    simp -dsimp only [go_sem]
    exact congrArg (fun f => [D.sl b5 true 7 1 f]) (lits fun i => by match i with | 0 => rfl | 1 => rfl | 2 => rfl | 3 => rfl | 4 => rfl | 5 => rfl | 6 => rfl | i + 7 => rfl)) (by simp -dsimp only [go_sem]) sc1.2.2.2 fun m1 m2 c3 r hm1 hm2 hq => ?_
  obtain ⟨hc3, j4, hj4, hr4⟩ := hq
  obtain ⟨u, hu4⟩ : ∃ u : Int, r = .lit (.int .i64 u) := ⟨_, hr4⟩
  subst hu4
  have sc3 := hc3.shape
  simp -dsimp only [go_sem, sc3.1, sc3.2.1, sc3.2.2.1, zp.1, zp.2.1, zp.2.2.1]
  refine xcall_cs (l := 2350) (g := G) (b := b') (l3PageAny_b e c3 xs h hd hc3) (by simp -dsimp only [go_sem]) trivial (by simp -dsimp only [go_sem]) sc3.2.2.2 fun m5 p5 c4 r1 hm5 hp5 hq => ?_
  obtain ⟨hc4, ⟨y, hy, hys⟩, ho1⟩ := hq
  have sc4 := hc4.shape
  have yp := shp_page _ _ hy
  simp -dsimp only [go_sem, sc4.1, sc4.2.1, sc4.2.2.1, yp.1, yp.2.1, yp.2.2.1, zp.1, zp.2.1, zp.2.2.1]
  have hm5' : m2 ≤ m5 := hm5
  have hm1' : b5 + 1 ≤ m1 := hm1
  intro n9 hn9 hfc
  have hn9' : p5 ≤ n9 := hn9
  have hm0' : n1 ≤ m0 := hm0
  rw [rl_still zp.2.2.2, rl_still yp.2.2.2]
  exact ⟨_, _, _, x, _, rfl, hx, hxs, hy, hys, Own2.of (ho.mono (by omega) (Nat.le_refl _)) (ho1.mono (Nat.le_refl _) (by omega)) (by omega) (by omega) (by omega)⟩
end Go.Proofs.Ytkigfigdoaoboaa.IM
end
