/- Several of my texts in one module (merge.py, shake.py). -/
import Derived.Test.YtncinhlaabdlaaaGreatGtA3
section
namespace Go.Proofs.YtncinhlaabdlaaaGreat.IM
open Go Go.Proofs Go.RowKit
set_option linter.unusedVariables false
set_option linter.unusedSimpArgs false
set_option maxHeartbeats 2000000
set_option maxRecDepth 20000
theorem Into.thawR {w0 : World} {M : Fr} {st : St} {K : St → Prop} (h : ThawR (wr w0 M) st (fun st' => Into w0 M st' K)) : Into w0 M st K := fun a w hs => by
  obtain ⟨st', h1, h2⟩ := hs.thawR (fun _ h => h) h
  exact h1 a w h2
def PEnd (P : Program) (rs : List ResultVar) (A : D → Prop) (st : St) : Prop :=
  (∀ r ∈ rs, retOk P st r) ∧ ∃ l g b d, retV st rs = .ptr l g 0 [] ∧ st.R l = some (g, b, d) ∧ d.still ∧ d.plain ∧ A d
def ppend (P : Program) (rs : List ResultVar) (A : D → Prop) : Exit → St → Prop
  | .normal, st => PEnd P rs A st
  | .ret, st => PEnd P rs A st
  | _, _ => False
@[go_sem] theorem ppend_ret (P : Program) (rs : List ResultVar) (A : D → Prop) (st : St) : ppend P rs A .ret st = PEnd P rs A st := rfl
@[go_sem] theorem ppend_normal (P : Program) (rs : List ResultVar) (A : D → Prop) (st : St) : ppend P rs A .normal st = PEnd P rs A st := rfl
inductive Three (A : D → D → Prop) (c : D) : D → Prop
  | mk (a b : D) (h : A a b) : Three A c (.tup 3 (nthD [a, b, c]))
  | no (r : D) (h : False) : Three A c r
theorem Three.out {A : D → D → Prop} {c r : D} (h : Three A c r) : ∃ a b, r = .tup 3 (nthD [a, b, c]) ∧ A a b := by
  cases h with
  | mk a b h => exact ⟨a, b, rfl, h⟩
  | no _ h => exact h.elim
theorem Three.of {A : D → D → Prop} {c c' a b : D} (h : A a b) (hc : c' = c) : Three A c (.tup 3 (nthD [a, b, c'])) := by subst hc; exact .mk a b h
structure Own2 (lo hi : Nat) (a b : D) : Prop where
  oa : Own lo hi a
  ob : Own lo hi b
  ap : ∀ t ∈ a.tl, t ∉ b.tl
theorem Own2.mono {lo lo' hi hi' : Nat} {a b : D} (h : Own2 lo hi a b) (h1 : lo' ≤ lo) (h2 : hi ≤ hi') : Own2 lo' hi' a b := ⟨h.oa.mono h1 h2, h.ob.mono h1 h2, h.ap⟩
theorem Own2.of {lo m1 m2 hi : Nat} {a b : D} (ha : Own lo m1 a) (hb : Own m2 hi b) (h1 : m1 ≤ m2) (h2 : m1 ≤ hi) (h3 : lo ≤ m2) : Own2 lo hi a b :=
  ⟨ha.mono (Nat.le_refl _) h2, hb.mono h3 (Nat.le_refl _), fun t ht ht' => by have := ha.rg t ht; have := hb.rg t ht'; omega⟩
theorem Own2.plain {lo hi : Nat} {a b : D} (ha : Own lo hi a) (hb : b.tl = []) (hw : b.whole) : Own2 lo hi a b := ⟨ha, ⟨fun t ht => by rw [hb] at ht; simp at ht, by rw [hb]; simp, hw⟩, fun t _ => by rw [hb]; simp⟩
theorem Own2.tags {lo hi : Nat} {a b c : D} (h : Own2 lo hi a b) (hc : c.tags (lo ≤ ·)) : (D.tup 3 (nthD [a, b, c])).tags (lo ≤ ·) := fun i hi => by
  match i, hi with
  | 0, _ => exact h.oa.tags
  | 1, _ => exact h.ob.tags
  | 2, _ => exact hc
theorem carry_two {lo hi : Nat} {a b d' : D} (h : Own2 lo hi a b) : Carry a d' b b := .apart _ (tags_of_tl (whole_data h.ob.wh) fun t ht hx => h.ap t hx ht)
theorem carry_two' {lo hi : Nat} {a b d' : D} (h : Own2 lo hi a b) : Carry b d' a a := .apart _ (tags_of_tl (whole_data h.oa.wh) fun t ht hx => h.ap t ht hx)
theorem tags_three {a b : D} {c : Value} {p : Nat → Prop} (ha : a.tags p) (hb : b.tags p) : (D.tup 3 (nthD [a, b, .lit c])).tags p := fun i hi => by
  match i, hi with
  | 0, _ => exact ha
  | 1, _ => exact hb
  | 2, _ => trivial
theorem free_nthD {t : Nat} : ∀ {l : List D}, (∀ x ∈ l, x.free t) → ∀ j, (nthD l j).free t
  | [], _, j => by cases j <;> trivial
  | x :: l, h, 0 => h x (by simp)
  | x :: l, h, j + 1 => free_nthD (l := l) (fun y hy => h y (by simp [hy])) j
theorem plain_node (k : Kd) (f : Nat → D) : (D.node k f).plain := trivial
theorem has_eq {x d : D} (h : d = x) : Has x d := by subst h; exact .here
theorem thaw_eq {t m sz l g : Nat} {f : Nat → D} {d : D} (h : d = .sl t true m sz f) : Thaw t m sz f l g d (.msl l g 0 [] 0 m sz) := by subst h; exact .here
theorem thaw_upd {t m sz l g i0 : Nat} {f p : Nat → D} {k : Kd} {x' : D} (h : Thaw t m sz f l g (p i0) x') (hf : ∀ i, i < k.cnt → i ≠ i0 → (p i).free t) : Thaw t m sz f l g (.node k p) (.node k (upd p i0 x')) := by
  refine .node _ _ _ fun i hi => ?_
  by_cases hii : i = i0
  · subst hii; rw [upd_same]; exact h
  · rw [upd_ne _ _ hii]; exact .free _ (hf i hi hii)
theorem own_free_ne {lo hi t i i0 : Nat} {k : Kd} {p : Nat → D} (ho : Own lo hi (.node k p)) (h0 : i0 < k.cnt) (ht : t ∈ (p i0).tl) (hi : i < k.cnt) (hne : i ≠ i0) : (p i).free t :=
  free_nil (ho.node.wh i hi) fun hx => by
    rcases Nat.lt_or_gt_of_ne hne with h | h
    · exact ho.node.dj i i0 h h0 t hx ht
    · exact ho.node.dj i0 i h hi t ht hx
@[go_sem] theorem labB_ne (R : Roots) (l g : Nat) (h : l ≠ 1000) : labB R l g = labView R l g := if_neg h
theorem tl_of_tags {p : Nat → Prop} {d : D} : d.data → d.tags p → ∀ t ∈ d.tl, p t := by
  induction d with
  | lit v => intro _ _ t ht; simp [D.tl] at ht
  | nil => intro _ _ t ht; simp [D.tl] at ht
  | any => intro _ _ t ht; simp [D.tl] at ht
  | sl t' zb n sz f ih =>
    intro hd h t ht
    simp only [D.tl, List.mem_cons, List.mem_flatMap, List.mem_range] at ht
    rcases ht with rfl | ⟨i, hi, hx⟩
    · exact h.1
    · exact ih i (hd i hi) (h.2 i hi) t hx
  | node k f ih =>
    intro hd h t ht
    simp only [D.tl, List.mem_flatMap, List.mem_range] at ht
    obtain ⟨i, hi, hx⟩ := ht
    exact ih i (hd i hi) (h i hi) t hx
  | tup n f ih =>
    intro hd h t ht
    simp only [D.tl, List.mem_flatMap, List.mem_range] at ht
    obtain ⟨i, hi, hx⟩ := ht
    exact ih i (hd i hi) (h i hi) t hx
  | _ => intro hd; exact hd.elim
theorem own_lt {lo hi n0 : Nat} {d : D} (h : Own lo hi d) (ht : d.tags (· < n0)) : Own (min lo n0) n0 d :=
  ⟨fun t hx => ⟨by have := (h.rg t hx).1; omega, tl_of_tags (whole_data h.wh) ht t hx⟩, h.nd, h.wh⟩
def OkR (t : Nat) (R : Roots) : Prop := ∀ l g b x, R l = some (g, b, x) → x.plain ∧ x.free t
theorem OkR.none (t : Nat) : OkR t (fun _ => Option.none) := fun l g b x h => by cases h
theorem OkR.upd {t : Nat} {R : Roots} (h : OkR t R) {l g b : Nat} {x : D} (hp : x.plain) (hf : x.free t) : OkR t (IM.upd R l (some (g, b, x))) := fun l' g' b' x' hx => by
  by_cases hl : l' = l
  · subst hl; rw [upd_same] at hx
    simp only [Option.some.injEq, Prod.mk.injEq] at hx
    obtain ⟨rfl, rfl, rfl⟩ := hx
    exact ⟨hp, hf⟩
  · rw [upd_ne _ _ hl] at hx; exact h _ _ _ _ hx
theorem free_lit (t : Nat) (v : Value) : (D.lit v).free t := trivial
theorem free_ptr (t l g o : Nat) (p : List Nat) : (D.ptr l g o p).free t := trivial
theorem iwp_melt {P : Program} {w0 : World} {M : Fr} {c : Code} {Q : Exit → St → Prop} {N n t m sz l lq gq bq : Nat} {f s : Nat → D} {R R' : Roots} {xq : D} {xq' : Nat → D}
    (hW : wr w0 M t) (hl : R l = none) (hf : ∀ i, i < m → (f i).free t) (hq : R lq = some (gq, bq, xq)) (hhas : Has (.sl t true m sz f) xq) (hx : ∀ g, (xq' g).plain ∧ Thaw t m sz f l g xq (xq' g)) (hs : ∀ j, (s j).free t)
    (hne : lq ≠ l) (hR : ∀ l' g b x, R' l' = some (g, b, x) → l' ≠ lq → R l' = some (g, b, x) ∧ x.plain ∧ x.free t)
    (hk : ∀ g, IWp P w0 M c Q ⟨N, n, s, upd (upd R' lq (some (gq, bq, xq' g))) l (some (g, t, .node (.arr m sz) f))⟩) : IWp P w0 M c Q ⟨N, n, s, R⟩ := by
  refine iwp_into (Into.thawR ⟨t, m, sz, f, l, hW, hl, hf, ⟨lq, gq, bq, xq, hq, hhas⟩, fun g => ⟨s, upd (upd R' lq (some (gq, bq, xq' g))) l (some (g, t, .node (.arr m sz) f)), fun j => .free _ (hs j), fun l' => ?_, Into.of (hk g)⟩⟩)
  by_cases hll : l' = l
  · subst hll; exact .inr (.inl ⟨rfl, upd_same _ _ _⟩)
  · rw [upd_ne _ _ hll]
    by_cases hlq : l' = lq
    · subst hlq; rw [upd_same]
      exact .inr (.inr ⟨hll, gq, bq, xq, xq' g, hq, rfl, (hx g).1, (hx g).2⟩)
    · rw [upd_ne _ _ hlq]
      cases hxx : R' l' with
      | none => exact .inl rfl
      | some y =>
        obtain ⟨g0, b, x⟩ := y
        obtain ⟨h1, h2, h3⟩ := hR _ _ _ _ hxx hlq
        exact .inr (.inr ⟨hll, g0, b, x, x, h1, rfl, h2, .free _ h3⟩)
theorem conv_root {W : Nat → Prop} {K : St → Prop} {N n t m sz l lq gq bq : Nat} {f s : Nat → D} {R R' : Roots} {xq : D} {xq' : Nat → D} {dst : Option Tmp} {r : D}
    (hW : W t) (hl : R l = none) (hf : ∀ i, i < m → (f i).free t) (hq : R lq = some (gq, bq, xq)) (hhas : Has (.sl t true m sz f) xq) (hx : ∀ g, (xq' g).plain ∧ Thaw t m sz f l g xq (xq' g))
    (hs : ∀ j, (((St.mk N n s R).put dst r).s j).free t)
    (hne : lq ≠ l) (hR : ∀ l' g b x, R' l' = some (g, b, x) → l' ≠ lq → R l' = some (g, b, x) ∧ x.plain ∧ x.free t)
    (hk : ∀ g, K ((St.mk N n s (upd (upd R' lq (some (gq, bq, xq' g))) l (some (g, t, .node (.arr m sz) f)))).put dst r)) : Conv W K ((St.mk N n s R).put dst r) := by
  have eR : ((St.mk N n s R).put dst r).R = R := by cases dst <;> rfl
  have eP : ∀ R1, ((St.mk N n s R1).put dst r) = ⟨N, n, ((St.mk N n s R).put dst r).s, R1⟩ := fun R1 => by cases dst <;> rfl
  refine Conv.oneR ⟨t, m, sz, f, l, hW, by rw [eR]; exact hl, hf, ⟨lq, gq, bq, xq, by rw [eR]; exact hq, hhas⟩, fun g => ⟨((St.mk N n s R).put dst r).s, upd (upd R' lq (some (gq, bq, xq' g))) l (some (g, t, .node (.arr m sz) f)), fun j => .free _ (hs j), fun l' => ?_, ?_⟩⟩
  · rw [eR]
    by_cases hll : l' = l
    · subst hll; exact .inr (.inl ⟨rfl, upd_same _ _ _⟩)
    · rw [upd_ne _ _ hll]
      by_cases hlq : l' = lq
      · subst hlq; rw [upd_same]
        exact .inr (.inr ⟨hll, gq, bq, xq, xq' g, hq, rfl, (hx g).1, (hx g).2⟩)
      · rw [upd_ne _ _ hlq]
        cases hxx : R' l' with
        | none => exact .inl rfl
        | some y =>
          obtain ⟨g0, b, x⟩ := y
          obtain ⟨h1, h2, h3⟩ := hR _ _ _ _ hxx hlq
          exact .inr (.inr ⟨hll, g0, b, x, x, h1, rfl, h2, .free _ h3⟩)
  · have h2 := hk g
    rw [eP] at h2
    rw [eP R]
    exact h2
theorem xcall_c {P : Program} {f : Nat} {cs : Nat → D} {xs : List Operand} {dst : Option Tmp} {ev : Operand → D} {R : Roots} {n : Nat} {k : Roots → Nat → D → Prop} {Mk : Prop}
    {d : D} {rest0 rest : List D} {Q : Nat → Nat → D → D → Prop} {l g b o : Nat} {q : List Nat} (h : BCall P f .nil d rest Q o q) (hargs : xs.map ev = .ptr l g o q :: rest0) (hview : rest0.map (rl 9 (labBV R l g)) = rest) (hR : R l = some (g, b, d)) (hst : d.still)
    (hk : ∀ n0 n1 d' r, n ≤ n0 → n0 ≤ n1 → Q n0 n1 d' r → k (wrR R l d') n1 r) : XCallT P f 0 cs xs dst ev R n k Mk :=
  .inl (.inr (.inr ⟨d, rest0, rest, Q, l, g, b, o, q, _, _, rfl, hargs, hview, hR, hst, h, fun t ht => .inl ht, fun t ht => .inl ht, hk⟩))
theorem xcall_cs {P : Program} {f : Nat} {cs : Nat → D} {xs : List Operand} {dst : Option Tmp} {ev : Operand → D} {R : Roots} {n : Nat} {k : Roots → Nat → D → Prop} {Mk : Prop}
    {d : D} {rest : List D} {Q : Nat → Nat → D → D → Prop} {l g b o : Nat} {q : List Nat} (h : BCall P f .nil d rest Q o q) (hargs : xs.map ev = .ptr l g o q :: rest) (hrest : stillL rest) (hR : R l = some (g, b, d)) (hst : d.still)
    (hk : ∀ n0 n1 d' r, n ≤ n0 → n0 ≤ n1 → Q n0 n1 d' r → k (wrR R l d') n1 r) : XCallT P f 0 cs xs dst ev R n k Mk :=
  xcall_c h hargs (still_mapBV hrest) hR hst hk
theorem free_pick {t : Nat} {s : Nat → D} : ∀ {K : List Nat}, (∀ j ∈ K, (s j).free t) → ∀ j, (pickS s K (fun _ => .any) j).free t
  | [], _, _ => trivial
  | k :: K, h, j => by
    show (upd (pickS s K fun _ => .any) k (s k) j).free t
    by_cases hj : j = k
    · subst hj; rw [upd_same]; exact h _ (List.mem_cons_self ..)
    · rw [upd_ne _ _ hj]; exact free_pick (fun j hj => h j (List.mem_cons_of_mem _ hj)) j
theorem free_put {N n t d : Nat} {s : Nat → D} {R : Roots} {r : D} (hs : ∀ j, (s j).free t) (hr : r.free t) : ∀ j, (((St.mk N n s R).put (some d) r).s j).free t := fun j => by
  show (upd s d r j).free t
  by_cases hj : j = d
  · subst hj; rw [upd_same]; exact hr
  · rw [upd_ne _ _ hj]; exact hs j
structure Put (lo hi m : Nat) (d d' : D) : Prop where
  own : Own lo hi d'
  sub : ∀ t ∈ d'.tl, t ∈ d.tl ∨ m ≤ t
theorem Put.new {lo hi m : Nat} {d d' : D} (h : Own m hi d') (h1 : lo ≤ m) : Put lo hi m d d' := ⟨h.mono h1 (Nat.le_refl _), fun t ht => .inr (h.rg t ht).1⟩
theorem Put.refl {lo hi hi' m : Nat} {d : D} (h : Own lo hi d) (h2 : hi ≤ hi') : Put lo hi' m d d := ⟨h.mono (Nat.le_refl _) h2, fun t ht => .inl ht⟩
theorem Put.lit (lo hi m : Nat) (d : D) (v : Value) : Put lo hi m d (.lit v) := ⟨own_lit _ _ _, fun t ht => by simp [D.tl] at ht⟩
theorem tl_put {k : Kd} {f : Nat → D} {i t : Nat} {x : D} (h : t ∈ (D.node k (upd f i x)).tl) : t ∈ (D.node k f).tl ∨ t ∈ x.tl := by
  simp only [D.tl, List.mem_flatMap, List.mem_range] at h ⊢
  obtain ⟨j, hj, hx⟩ := h
  by_cases hji : j = i
  · subst hji; rw [upd_same] at hx; exact .inr hx
  · rw [upd_ne _ _ hji] at hx; exact .inl ⟨j, hj, hx⟩
theorem OwnN.put {lo hi hi' m n i : Nat} {f : Nat → D} {x : D} (h : OwnN lo hi n f) (h0 : i < n) (hx : Put lo hi' m (f i) x) (h1 : hi ≤ m) (h2 : hi ≤ hi') : OwnN lo hi' n (IM.upd f i x) := by
  have key : ∀ j, j < n → j ≠ i → ∀ t ∈ (f j).tl, t ∉ x.tl := fun j hj hne t ht ht' => by
    rcases hx.sub t ht' with h3 | h3
    · rcases Nat.lt_or_gt_of_ne hne with h4 | h4
      · exact h.dj j i h4 h0 t ht h3
      · exact h.dj i j h4 hj t h3 ht
    · have := h.rg j hj t ht; omega
  refine ⟨fun j hj t ht => ?_, fun j hj => ?_, fun a b hab hb t ht ht' => ?_, fun j hj => ?_⟩
  · by_cases e : j = i
    · subst e; rw [upd_same] at ht; exact hx.own.rg t ht
    · rw [upd_ne _ _ e] at ht; have := h.rg j hj t ht; omega
  · by_cases e : j = i
    · subst e; rw [upd_same]; exact hx.own.nd
    · rw [upd_ne _ _ e]; exact h.nd j hj
  · by_cases e : a = i
    · subst e
      rw [upd_same] at ht; rw [upd_ne _ _ (by omega)] at ht'
      exact key b hb (by omega) t ht' ht
    · rw [upd_ne _ _ e] at ht
      by_cases e2 : b = i
      · subst e2; rw [upd_same] at ht'; exact key a (by omega) e t ht ht'
      · rw [upd_ne _ _ e2] at ht'; exact h.dj a b hab hb t ht ht'
  · by_cases e : j = i
    · subst e; rw [upd_same]; exact hx.own.wh
    · rw [upd_ne _ _ e]; exact h.wh j hj
theorem Put.node {lo hi hi' m i : Nat} {k : Kd} {f : Nat → D} {x : D} (h : Own lo hi (.node k f)) (h0 : i < k.cnt) (hx : Put lo hi' m (f i) x) (h1 : hi ≤ m) (h2 : hi ≤ hi') : Put lo hi' m (.node k f) (.node k (upd f i x)) := by
  refine ⟨own_node (h.node.put h0 hx h1 h2), fun t ht => ?_⟩
  rcases tl_put ht with h3 | h3
  · exact .inl h3
  · exact (hx.sub t h3).imp (fun h4 => tl_child h0 h4) id
theorem Put.trans {lo hi hi' m m' : Nat} {a b c : D} (h : Put lo hi m a b) (h' : Put lo hi' m' b c) (h1 : m ≤ m') : Put lo hi' m a c :=
  ⟨h'.own, fun t ht => (h'.sub t ht).elim (h.sub t) fun h3 => .inr (by omega)⟩
end Go.Proofs.YtncinhlaabdlaaaGreat.IM
end
