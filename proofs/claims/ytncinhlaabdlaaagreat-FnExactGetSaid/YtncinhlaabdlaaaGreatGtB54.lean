/- Several of my texts in one module (merge.py, shake.py). -/
import Derived.Test.YtncinhlaabdlaaaGreatGtB7
import Derived.Test.YtncinhlaabdlaaaGreatGtB30
import Derived.Test.YtncinhlaabdlaaaGreatGtA3
import Derived.Test.YtncinhlaabdlaaaGreatGtB13
import Derived.Test.YtncinhlaabdlaaaGreatGtA6
import Derived.Test.YtncinhlaabdlaaaGreatGtB44
import Derived.Test.YtncinhlaabdlaaaGreatGtB52
section
namespace Go.Proofs.YtncinhlaabdlaaaGreat.IM
open Go Go.Proofs
set_option linter.unusedVariables false
set_option linter.unusedSimpArgs false
set_option maxHeartbeats 2000000
set_option maxRecDepth 20000
theorem Fill.catA {α : Type} {R : D → α → Prop} {sz lo hi : Nat} {xs : List α} {i : Nat} {f z : Nat → D} {r : D} {nd : Bool} (h : Fill R sz lo hi xs i i f) (hz : ∀ j, (z j).still) (hR : Shp R sz nd) (hlt : i < xs.length) (hr : R r xs[i]) (ho : Own lo hi r)
    (hd : ∀ j, j < i → ∀ t ∈ (f j).tl, t ∉ r.tl) : Fill R sz lo hi xs (i + 1) (i + 1) (catD i f (upd z 0 r)) := by
  obtain ⟨e1, e2, e3, e4⟩ := hR _ _ hr
  have hc : catD i f (upd z 0 r) i = r := by simp [catD, upd]
  have hl : ∀ j, j < i → catD i f (upd z 0 r) j = f j := fun j hj => by simp [catD, hj]
  refine ⟨fun j => ?_, fun j hj => ?_, fun j hj hji => ?_, ⟨fun j hj t ht => ?_, fun j hj => ?_, fun j k hjk hk t ht ht' => ?_, fun j hj => ?_⟩⟩
  · unfold catD; split
    · exact h.st j
    · exact still_upd hz e4 _
  · by_cases hj' : j = i
    · subst hj'; rw [hc]; exact ⟨e3, e1⟩
    · rw [hl j (by omega)]; exact h.sh j (by omega)
  · by_cases hj' : j = i
    · subst hj'; rw [hc]; exact hr
    · rw [hl j (by omega)]; exact h.ok j hj (by omega)
  · by_cases hj' : j = i
    · subst hj'; rw [hc] at ht; exact ho.rg _ ht
    · rw [hl j (by omega)] at ht; exact h.own.rg j (by omega) _ ht
  · by_cases hj' : j = i
    · subst hj'; rw [hc]; exact ho.nd
    · rw [hl j (by omega)]; exact h.own.nd j (by omega)
  · rw [hl j (by omega)] at ht
    by_cases hk' : k = i
    · subst hk'; rw [hc] at ht'; exact hd j (by omega) t ht ht'
    · rw [hl k (by omega)] at ht'; exact h.own.dj j k hjk (by omega) t ht ht'
  · by_cases hj' : j = i
    · subst hj'; rw [hc]; exact ho.wh
    · rw [hl j (by omega)]; exact h.own.wh j (by omega)
theorem fill_snoc {α : Type} {R : D → α → Prop} {sz lo hi t : Nat} {nd : Bool} {xs : List α} {x : α} {f : Nat → D} (hR : Shp R sz nd) (hst : ∀ i, (f i).still) (hf : ∀ i (h : i < xs.length), R (f i) xs[i]) (ho : Own lo hi (.sl t true xs.length sz f)) : Fill R sz lo hi (xs ++ [x]) xs.length xs.length f :=
  ⟨hst, fun j hj => by have q := hR _ _ (hf j hj); exact ⟨q.2.2.1, q.1⟩, fun j hj hji => by rw [List.getElem_append_left hji]; exact hf j hji, ho.sl.1⟩
theorem snoc_get {α : Type} {xs : List α} {r : α} (h : xs.length < (xs ++ [r]).length) : (xs ++ [r])[xs.length] = r := by simp
theorem Fill.isLs {α : Type} {R : D → α → Prop} {sz lo hi n1 b n : Nat} {xs : List α} {f : Nat → D} (h : Fill R sz lo hi xs n n f) (hn : xs.length = n) (hs : n ≤ 4194304) (h1 : lo ≤ b) (h2 : b < n1) (h3 : hi ≤ n1) (hb : b ∉ (D.node (.arr n sz) f).tl) :
    IsL sz R (.sl b true n sz f) xs ∧ Own lo n1 (.sl b true n sz f) ∧ ∀ j, (f j).still := by
  subst hn
  have := h.isL (Nat.lt_irrefl _) hs h1 h2 h3 hb
  exact ⟨this.1, this.2, h.st⟩
theorem own_swapA {lo hi t n sz k : Nat} {f : Nat → D} {s : D} (h : Own lo hi (.sl t true n sz f)) (hs : Own lo hi s) (hd : ∀ b ∈ s.tl, b ∉ (D.sl t true n sz f).tl) (hk : k < n) : Own2 lo hi (.sl t true n sz (upd f k s)) (f k) := by
  obtain ⟨hN, ht1, ht2, _, hnt⟩ := h.sl
  have hd1 : ∀ b ∈ s.tl, b ≠ t := fun b hb e => hd b hb (by subst e; simp [D.tl])
  have hd2 : ∀ b ∈ s.tl, ∀ i, i < n → b ∉ (f i).tl := fun b hb i hi hx => hd b hb (by simp only [D.tl, List.mem_cons, List.mem_flatMap, List.mem_range]; exact .inr ⟨i, hi, hx⟩)
  refine ⟨own_sl ⟨fun i hi t' ht' => ?_, fun i hi => ?_, fun i j hij hj t' ha hb => ?_, fun i hi => ?_⟩ ht1 ht2 fun i hi hx => ?_, hN.own hk, fun x hx hy => ?_⟩
  · by_cases hik : i = k
    · subst hik; rw [upd_same] at ht'; exact hs.rg _ ht'
    · rw [upd_ne _ _ hik] at ht'; exact hN.rg i hi _ ht'
  · by_cases hik : i = k
    · subst hik; rw [upd_same]; exact hs.nd
    · rw [upd_ne _ _ hik]; exact hN.nd i hi
  · by_cases hik : i = k
    · subst hik
      rw [upd_same] at ha; rw [upd_ne _ _ (by omega)] at hb
      exact hd2 _ ha j hj hb
    · rw [upd_ne _ _ hik] at ha
      by_cases hjk : j = k
      · subst hjk; rw [upd_same] at hb
        exact hd2 _ hb i (by omega) ha
      · rw [upd_ne _ _ hjk] at hb; exact hN.dj i j hij hj _ ha hb
  · by_cases hik : i = k
    · subst hik; rw [upd_same]; exact hs.wh
    · rw [upd_ne _ _ hik]; exact hN.wh i hi
  · by_cases hik : i = k
    · subst hik; rw [upd_same] at hx; exact hd1 _ hx rfl
    · rw [upd_ne _ _ hik] at hx; exact hnt i hi hx
  · simp only [D.tl, List.mem_cons, List.mem_flatMap, List.mem_range] at hx
    rcases hx with rfl | ⟨i, hi, hx⟩
    · exact hnt k hk hy
    · by_cases hik : i = k
      · subst hik; rw [upd_same] at hx; exact hd2 _ hx i hi hy
      · rw [upd_ne _ _ hik] at hx
        rcases Nat.lt_or_gt_of_ne hik with h | h
        · exact hN.dj i k h hk x hx hy
        · exact hN.dj k i h hi x hy hx
theorem own_swap {lo hi m0 p0 t n sz k : Nat} {f : Nat → D} {s : D} (h : Own lo hi (.sl t true n sz f)) (hs : Own m0 p0 s) (h1 : hi ≤ m0) (h2 : m0 ≤ p0) (hk : k < n) : Own2 lo p0 (.sl t true n sz (upd f k s)) (f k) :=
  own_swapA (h.mono (Nat.le_refl _) (by omega)) (hs.mono (by have := h.sl.2.1; have := h.sl.2.2.1; omega) (Nat.le_refl _)) (fun b hb hx => by have := hs.rg b hb; have := h.rg b hx; omega) hk
theorem isL_set {α : Type} {R : D → α → Prop} {sz t k : Nat} {xs : List α} {f : Nat → D} {s : D} {y : α} (hst : ∀ i, (f i).still) (hss : s.still) (hf : ∀ i (h : i < xs.length), R (f i) xs[i]) (hs : R s y) (hl : xs.length < 140737488355328) : IsL sz R (.sl t true xs.length sz (upd f k s)) (xs.set k y) :=
  .inr ⟨t, true, upd f k s, by rw [List.length_set], still_upd hst hss, by rw [List.length_set]; exact hl, fun i hi => by
    have hi' : i < xs.length := by rwa [List.length_set] at hi
    rw [List.getElem_set]
    by_cases h : k = i
    · subst h; rw [upd_same, if_pos rfl]; exact hs
    · rw [upd_ne _ _ (fun e => h e.symm), if_neg h]; exact hf i hi'⟩
theorem tl_cat {t t0 n sz b : Nat} {z : Bool} {f g : Nat → D} {s : D} (h : b ∈ (D.sl t z (n + 1) sz (catD n f (upd g 0 s))).tl) : b = t ∨ b ∈ (D.sl t0 z n sz f).tl ∨ b ∈ s.tl := by
  simp only [D.tl, List.mem_cons, List.mem_flatMap, List.mem_range] at h ⊢
  rcases h with rfl | ⟨i, hi, hx⟩
  · exact .inl rfl
  · unfold catD at hx
    by_cases hin : i < n
    · rw [if_pos hin] at hx; exact .inr (.inl (.inr ⟨i, hin, hx⟩))
    · rw [if_neg hin, show i - n = 0 by omega, upd_same] at hx; exact .inr (.inr hx)
theorem tl_row {t n sz k b : Nat} {z : Bool} {f : Nat → D} (hk : k < n) (h : b ∈ (f k).tl) : b ∈ (D.sl t z n sz f).tl := by
  simp only [D.tl, List.mem_cons, List.mem_flatMap, List.mem_range]; exact .inr ⟨k, hk, h⟩
theorem tl_sl_upd {t n sz k b : Nat} {z : Bool} {f : Nat → D} {s : D} (h : b ∈ (D.sl t z n sz (upd f k s)).tl) : b ∈ (D.sl t z n sz f).tl ∨ b ∈ s.tl := by
  simp only [D.tl, List.mem_cons, List.mem_flatMap, List.mem_range] at h ⊢
  rcases h with rfl | ⟨i, hi, hx⟩
  · exact .inl (.inl rfl)
  · by_cases hik : i = k
    · subst hik; rw [upd_same] at hx; exact .inr hx
    · rw [upd_ne _ _ hik] at hx; exact .inl (.inr ⟨i, hi, hx⟩)
open Go Go.RowKit
set_option linter.unusedVariables false
section
variable {P : Program} {ops : Array Oper}
theorem vcAny_le {S : Nat → Roots → Prop} {K : St → Prop} : ∀ (k fuel : Nat) (listed : Array Bool) (st : St), k ≤ fuel → vcAny P ops S K k listed st → vcAny P ops S K fuel listed st
  | 0, 0, _, _, _, h => h
  | 0, f + 1, l, st, _, h => ⟨fun _ => h.2, fun i hi => by rw [h.1] at hi; cases hi⟩
  | k + 1, 0, _, _, hf, _ => absurd hf (by omega)
  | k + 1, f + 1, l, st, hf, h => ⟨h.1, fun i hi => by
      obtain ⟨o, ho, hv⟩ := h.2 i hi
      exact ⟨o, ho, vcG_mono (fun st' h' => ⟨h'.1, vcAny_le k f _ _ (by omega) h'.2⟩) hv⟩⟩
def unl (n : Nat) (l : Array Bool) : Nat := ((List.range n).filter fun i => !l.getD i true).length
theorem ready_unl {l : Array Bool} {i : Nat} (h : i ∈ Region.ready .any ops l) : i < ops.size ∧ l.getD i true = false := by
  unfold Region.ready at h
  rw [List.mem_filter, List.mem_range, Bool.and_eq_true] at h
  exact ⟨h.1, by simpa using h.2.1⟩
theorem unl_set {n : Nat} {l : Array Bool} {i : Nat} (hi : i < n) (h : l.getD i true = false) : unl n (l.setIfInBounds i true) < unl n l := by
  have hs : i < l.size := by
    rcases Nat.lt_or_ge i l.size with h1 | h1
    · exact h1
    · simp [Array.getD, Nat.not_lt.2 h1] at h
  have hg : ∀ j, (l.setIfInBounds i true).getD j true = if j = i then true else l.getD j true := fun j => by
    by_cases e : j = i
    · subst e; simp [Array.getD, hs]
    · rw [if_neg e, Array.getD_eq_getD_getElem?, Array.getD_eq_getD_getElem?, Array.getElem?_setIfInBounds_ne (fun h => e h.symm)]
  unfold unl
  have key : ∀ (L : List Nat), L.Nodup → ((L.filter fun j => !(l.setIfInBounds i true).getD j true).length ≤ (L.filter fun j => !l.getD j true).length) ∧ (i ∈ L → (L.filter fun j => !(l.setIfInBounds i true).getD j true).length < (L.filter fun j => !l.getD j true).length) := by
    intro L
    induction L with
    | nil => intro _; exact ⟨Nat.le_refl _, fun h => by cases h⟩
    | cons a L ih =>
      intro hnd
      obtain ⟨ih1, ih2⟩ := ih (List.nodup_cons.1 hnd).2
      by_cases e : a = i
      · subst e
        rw [List.filter_cons_of_neg (by rw [hg, if_pos rfl]; simp), List.filter_cons_of_pos (by rw [h]; rfl), List.length_cons]
        exact ⟨by omega, fun _ => by omega⟩
      · have ha := hg a
        rw [if_neg e] at ha
        cases hb : l.getD a true with
        | true =>
          rw [List.filter_cons_of_neg (by rw [ha, hb]; simp), List.filter_cons_of_neg (by rw [hb]; simp)]
          exact ⟨ih1, fun hm => ih2 ((List.mem_cons.1 hm).resolve_left fun h => e h.symm)⟩
        | false =>
          rw [List.filter_cons_of_pos (by rw [ha, hb]; rfl), List.filter_cons_of_pos (by rw [hb]; rfl), List.length_cons, List.length_cons]
          exact ⟨by omega, fun hm => by have := ih2 ((List.mem_cons.1 hm).resolve_left fun h => e h.symm); omega⟩
  exact (key _ List.nodup_range).2 (List.mem_range.2 hi)
theorem vcAny_inv {S : Nat → Roots → Prop} {K : St → Prop} (Inv : Array Bool → St → Prop) (hend : ∀ l st, Inv l st → Region.ready .any ops l = [] → K st)
    (hstep : ∀ l st, Inv l st → ∀ i ∈ Region.ready .any ops l, ∃ o, ops[i]? = some o ∧ vcG P ops o st fun st' => S i st'.R ∧ Inv (l.setIfInBounds i true) st') : ∀ (k : Nat) (l : Array Bool) (st : St), unl ops.size l ≤ k → Inv l st → vcAny P ops S K k l st
  | 0, l, st, hk, h => by
    have hr : Region.ready .any ops l = [] := by
      refine List.eq_nil_iff_forall_not_mem.2 fun i hi => ?_
      obtain ⟨h1, h2⟩ := ready_unl hi
      have := unl_set h1 h2
      omega
    exact ⟨hr, hend l st h hr⟩
  | k + 1, l, st, hk, h => ⟨hend l st h, fun i hi => by
      obtain ⟨o, ho, hv⟩ := hstep l st h i hi
      obtain ⟨h1, h2⟩ := ready_unl hi
      have := unl_set h1 h2
      exact ⟨o, ho, vcG_mono (fun st' h' => ⟨h'.1, vcAny_inv Inv hend hstep k _ _ (by omega) h'.2⟩) hv⟩⟩
def esOk (ops : Array Oper) : List Nat → Array Bool → Bool
  | [], _ => true
  | i :: es, l => (Region.ready .any ops l).contains i && Region.free .any ops l i && esOk ops es (l.setIfInBounds i true)
def esSet : List Nat → Array Bool → Array Bool
  | [], l => l
  | i :: es, l => esSet es (l.setIfInBounds i true)
def vcEs (P : Program) (ops : Array Oper) (Ls : List Nat) (K : St → Prop) : List Nat → St → Prop
  | [], st => K st
  | i :: es, st => match ops[i]? with
    | some o => vcE P ops Ls o st (vcEs P ops Ls K es)
    | none => False
theorem vcEs_sound {Ls : List Nat} {R0 : Roots} {K K' : St → Prop} {k : Nat} : ∀ (es : List Nat) (fuel : Nat) (l : Array Bool) (st : St), es.length + k ≤ fuel → esOk ops es l = true → (∀ x ∈ Ls, st.R x = R0 x) →
    (∀ st', K' st' → (∀ x ∈ Ls, st'.R x = R0 x) → vcAny P ops (fun _ R => ∀ x ∈ Ls, R x = R0 x) K k (esSet es l) st') → vcEs P ops Ls K' es st → vcAny P ops (fun _ R => ∀ x ∈ Ls, R x = R0 x) K fuel l st
  | [], fuel, l, st, hf, _, hR, hk, h => vcAny_le k fuel _ _ (by simpa using hf) (hk st h hR)
  | i :: es, 0, l, st, hf, _, _, _, _ => by simp at hf
  | i :: es, fuel + 1, l, st, hf, ho, hR, hk, h => by
    simp only [esOk, Bool.and_eq_true] at ho
    unfold vcEs at h
    cases hi : ops[i]? with
    | none => rw [hi] at h; exact h.elim
    | some o =>
      rw [hi] at h
      obtain ⟨v, hy, hK⟩ := vcE_early h hR
      exact vcAny_first (S0 := fun R => ∀ x ∈ Ls, R x = R0 x) hi (fun R h => h) (fun j oj R hj _ hno hS => hS) fuel l st (Region.free_spec hi ho.1.2) (by simpa using ho.1.1) hy hR
        (vcEs_sound es fuel _ _ (by simp at hf; omega) ho.2 (by simpa using hR) hk hK)
theorem vcE_mono {Ls : List Nat} {o : Oper} {st : St} {K K' : St → Prop} (hk : ∀ st, K st → K' st) (h : vcE P ops Ls o st K) : vcE P ops Ls o st K' := by
  unfold vcE at *
  split
  · rename_i hg; rw [hg] at h; exact ⟨h.1, h.2.1, eff_mono (fun _ _ _ h => hk _ h) h.2.2⟩
  · rename_i hg
    rw [hg] at h
    simp only at h ⊢
    split
    · rename_i ht
      rw [ht] at h
      exact ⟨h.1, h.2.mono (fun h3 => ⟨h3.1, h3.2.1, eff_mono (fun _ _ _ h => hk _ h) h3.2.2⟩) fun h4 => ⟨h4.1, hk _ h4.2⟩⟩
    · rename_i ht; rw [ht] at h; exact h
def vcEsT (P : Program) (ops : Array Oper) (Ls : List Nat) (K : St → Prop) (es : List Nat) (st : St) (_ : Tok K := .mk) (_ : Tok ops := .mk) (_ : Tok es := .mk) : Prop := vcEs P ops Ls K es st
@[go_sem] theorem vcEs_nil (Ls : List Nat) (K : St → Prop) (st : St) : vcEsT P ops Ls K [] st = K st := (rfl)
@[go_sem] theorem vcEs_cons (Ls : List Nat) (K : St → Prop) (i : Nat) (es : List Nat) (st : St) : vcEsT P ops Ls K (i :: es) st = wSome (ops[i]?) fun o => vcET P ops Ls o st fun st => vcEsT P ops Ls K es st := by
  simp only [vcEsT, vcEs, vcET]
  cases ops[i]? <;> rfl
variable {w0 : World} {M : Fr}
theorem iwp_rest {id : Nat} {ops : List Oper} {Q : Exit → St → Prop} {st : St} (es Ls : List Nat) (Inv : Array Bool → St → Prop) (hm : P.follows .mixedOrders = true) (hp : esOk ops.toArray es (Array.replicate ops.toArray.size false) = true)
    (hl : es.length + unl ops.toArray.size (esSet es (Array.replicate ops.toArray.size false)) ≤ ops.toArray.size)
    (h : vcEsT P ops.toArray Ls (fun st' => Inv (esSet es (Array.replicate ops.toArray.size false)) st') es st)
    (hstep : ∀ l st', Inv l st' → ∀ i ∈ Region.ready .any ops.toArray l, ∃ o, ops[i]? = some o ∧ vcG P ops.toArray o st' fun st' => (∀ x ∈ Ls, st'.R x = st.R x) ∧ Inv (l.setIfInBounds i true) st')
    (hend : ∀ l st', Inv l st' → Region.ready .any ops.toArray l = [] → Q .normal st') : IWpT P w0 M (.region id ops.toArray true) Q st := by
  intro a w hs
  refine wp_region_any hm (vcAny_sound (S := fun _ R => ∀ x ∈ Ls, R x = st.R x) (K := fun st => Q .normal st) (fun st' a' w' hk hs' => ⟨st', hk, hs'⟩) _ _ st a _ hs.draw (vcEs_sound (R0 := st.R) es _ _ st hl hp (fun _ _ => rfl) (fun st' hi hR => ?_) h))
  exact vcAny_inv Inv hend (fun l st' hI i hi => by
    obtain ⟨o, ho, hv⟩ := hstep l st' hI i hi
    exact ⟨o, by simpa using ho, hv⟩) _ _ _ (Nat.le_refl _) hi
def dagOk {V : Type} [BEq V] (ops : Array Oper) (vs : List V) (arr : V → Array Bool) (nx : V → List (Nat × V)) (ve : V) : Bool :=
  vs.all fun v => (!(Region.ready .any ops (arr v)).isEmpty || v == ve) && (Region.ready .any ops (arr v)).all fun i => (nx v).any fun p => p.1 == i && ((arr v).setIfInBounds i true == arr p.2) && vs.contains p.2
theorem iwp_dag {V : Type} [BEq V] [LawfulBEq V] {id : Nat} {ops : List Oper} {Q : Exit → St → Prop} {st : St} (es Ls : List Nat) (vs : List V) (arr : V → Array Bool) (nx : V → List (Nat × V)) (v0 ve : V) (Inv : V → St → Prop) (hm : P.follows .mixedOrders = true)
    (hp : (esOk ops.toArray es (Array.replicate ops.toArray.size false) && (esSet es (Array.replicate ops.toArray.size false) == arr v0) && vs.contains v0 && dagOk ops.toArray vs arr nx ve) = true)
    (hl : es.length + unl ops.toArray.size (esSet es (Array.replicate ops.toArray.size false)) ≤ ops.toArray.size)
    (h : vcEsT P ops.toArray Ls (fun st' => Inv v0 st') es st)
    (hstep : ∀ v st', v ∈ vs → Inv v st' → ∀ i v', (i, v') ∈ nx v → wSome (ops.toArray[i]?) fun o => vcGT P ops.toArray o st' fun st' => (∀ x ∈ Ls, st'.R x = st.R x) ∧ Inv v' st')
    (hend : ∀ st', Inv ve st' → Q .normal st') : IWpT P w0 M (.region id ops.toArray true) Q st := by
  simp only [Bool.and_eq_true] at hp
  obtain ⟨⟨⟨p1, p2⟩, p3⟩, p4⟩ := hp
  have p2 : esSet es (Array.replicate ops.toArray.size false) = arr v0 := eq_of_beq p2
  have h' : vcEsT P ops.toArray Ls (fun st' => (fun (l : Array Bool) (st' : St) => ∃ v, v ∈ vs ∧ l = arr v ∧ Inv v st') (esSet es (Array.replicate ops.toArray.size false)) st') es st := by
    have mono : ∀ (es : List Nat) (st : St), vcEs P ops.toArray Ls (fun st' => Inv v0 st') es st → vcEs P ops.toArray Ls (fun st' => ∃ v, v ∈ vs ∧ arr v0 = arr v ∧ Inv v st') es st := by
      intro es
      induction es with
      | nil => intro st h; exact ⟨v0, by simpa using p3, rfl, h⟩
      | cons i es ih =>
        intro st h
        unfold vcEs at h ⊢
        cases hi : ops.toArray[i]? with
        | none => rw [hi] at h; exact h.elim
        | some o =>
          rw [hi] at h
          exact vcE_mono (fun st' hk => ih st' hk) h
    rw [p2]
    exact mono es st h
  refine iwp_rest es Ls (fun l st' => ∃ v, v ∈ vs ∧ l = arr v ∧ Inv v st') hm p1 hl h' ?_ ?_
  · rintro l st' ⟨v, hv, rfl, hI⟩ i hi
    have h0 := List.all_eq_true.1 p4 v hv
    rw [Bool.and_eq_true] at h0
    have h1 := List.all_eq_true.1 h0.2 i hi
    rw [List.any_eq_true] at h1
    obtain ⟨⟨j, v'⟩, hm, h2⟩ := h1
    simp only [Bool.and_eq_true, beq_iff_eq] at h2
    obtain ⟨⟨rfl, h3⟩, h4⟩ := h2
    have h5 := hstep v st' hv hI j v' hm
    cases ho : ops.toArray[j]? with
    | none => rw [ho] at h5; exact h5.elim
    | some o =>
      rw [ho] at h5
      exact ⟨o, by simpa using ho, vcG_mono (fun st2 hk => ⟨hk.1, v', by simpa using h4, h3, hk.2⟩) h5⟩
  · rintro l st' ⟨v, hv, rfl, hI⟩ hr
    have h0 := List.all_eq_true.1 p4 v hv
    rw [Bool.and_eq_true, hr] at h0
    have h1 : v = ve := by simpa using h0.1
    exact hend st' (h1 ▸ hI)
end
end Go.Proofs.YtncinhlaabdlaaaGreat.IM
end
section
namespace Go.Proofs.YtncinhlaabdlaaaGreat.IM
open Go Go.Proofs
set_option linter.unusedVariables false
set_option linter.unusedSimpArgs false
set_option maxHeartbeats 2000000
set_option maxRecDepth 20000
def cpA (k : Nat) (a b z : Bool) : Array Bool := #[true, true, decide (1 ≤ k), true, true, decide (2 ≤ k), a, true, true, decide (3 ≤ k), b, true, true, decide (4 ≤ k), true, true, true, true, decide (5 ≤ k), z, decide (6 ≤ k)]
def cpOk (k : Nat) (a b z : Bool) : Bool := decide (k ≤ 6) && (a || decide (k < 3)) && (b || decide (k < 4)) && (z || decide (k < 6))
abbrev CpV := Nat × Bool × Bool × Bool
def cpArr (v : CpV) : Array Bool := cpA v.1 v.2.1 v.2.2.1 v.2.2.2
def cpVs : List CpV := ((List.range 7).flatMap fun k => [true, false].flatMap fun a => [true, false].flatMap fun b => [true, false].map fun z => (k, a, b, z)).filter fun v => cpOk v.1 v.2.1 v.2.2.1 v.2.2.2
theorem cpOk_of {k : Nat} {a b z : Bool} (h : (k, a, b, z) ∈ cpVs) : cpOk k a b z = true := (List.mem_filter.1 h).2
def cpNx (v : CpV) : List (Nat × CpV) :=
  (if v.1 = 0 then [(2, (1, v.2))] else []) ++ (if v.1 = 1 then [(5, (2, v.2))] else []) ++ (if v.1 = 2 ∧ v.2.1 = true then [(9, (3, v.2))] else []) ++ (if v.1 = 3 ∧ v.2.2.1 = true then [(13, (4, v.2))] else []) ++
  (if v.1 = 4 then [(18, (5, v.2))] else []) ++ (if v.1 = 5 ∧ v.2.2.2 = true then [(20, (6, v.2))] else []) ++ (if v.2.1 = false then [(6, (v.1, true, v.2.2))] else []) ++ (if v.2.2.1 = false then [(10, (v.1, v.2.1, true, v.2.2.2))] else []) ++
  (if v.2.2.2 = false then [(19, (v.1, v.2.1, v.2.2.1, true))] else [])
theorem isL_src {α : Type} {Q : D → α → Prop} {sz : Nat} {d : D} {xs : List α} (h : IsL sz Q d xs) : ∃ f so, (∀ R, srcD R d = some (xs.length, so, f)) ∧ (∀ y, so = some y → y = sz) ∧ (∀ (P : Program) (T T' : TypeId), srcT P T T' d = (T' = T)) ∧ (∀ i, (f i).still) ∧ (∀ i (h : i < xs.length), Q (f i) xs[i]) ∧ xs.length < 140737488355328 := by
  rcases h with ⟨rfl, rfl⟩ | ⟨t, zb, f, rfl, h1, h2, h3⟩
  · exact ⟨fun _ => .any, none, fun _ => rfl, fun y h => (by cases h), fun _ _ _ => rfl, fun _ => trivial, fun i hi => absurd hi (Nat.not_lt_zero i), by simp⟩
  · exact ⟨f, some sz, fun _ => rfl, fun y h => (Option.some.inj h).symm, fun _ _ _ => rfl, h1, h3, h2⟩
def Sep (n0 n : Nat) (L : Nat → List Nat) : Prop := (∀ i t, t ∈ L i → n0 ≤ t ∧ t < n) ∧ ∀ i j t, i ≠ j → t ∈ L i → t ∉ L j
def putL (L : Nat → List Nat) (i : Nat) (A : List Nat) : Nat → List Nat := fun j => if j = i then A else L j
theorem putL_same (L : Nat → List Nat) (i : Nat) (A : List Nat) : putL L i A i = A := if_pos rfl
theorem putL_ne (L : Nat → List Nat) {i j : Nat} (A : List Nat) (h : j ≠ i) : putL L i A j = L j := if_neg h
theorem Sep.nil (n0 n : Nat) : Sep n0 n (fun _ => []) := ⟨fun i t h => absurd h (by simp), fun i j t _ h => absurd h (by simp)⟩
theorem Sep.mono {n0 n n' : Nat} {L : Nat → List Nat} (h : Sep n0 n L) (hn : n ≤ n') : Sep n0 n' L := ⟨fun i t ht => ⟨(h.1 i t ht).1, Nat.lt_of_lt_of_le (h.1 i t ht).2 hn⟩, h.2⟩
theorem Sep.put {n0 n n' : Nat} {L : Nat → List Nat} (h : Sep n0 n L) (i : Nat) {A : List Nat} (hn : n ≤ n') (h0 : n0 ≤ n) (hA : ∀ t ∈ A, (n ≤ t ∨ t ∈ L i) ∧ t < n') : Sep n0 n' (putL L i A) := by
  refine ⟨fun j t ht => ?_, fun j k t hjk ht ht' => ?_⟩
  · by_cases e : j = i
    · subst e; rw [putL_same] at ht
      obtain ⟨h1, h2⟩ := hA t ht
      rcases h1 with h1 | h1
      · omega
      · have := h.1 _ t h1; omega
    · rw [putL_ne L A e] at ht; have := h.1 _ t ht; omega
  · by_cases e : j = i
    · subst e
      rw [putL_same] at ht; rw [putL_ne L A (fun h => hjk h.symm)] at ht'
      rcases (hA t ht).1 with h1 | h1
      · have := h.1 _ t ht'; omega
      · exact h.2 _ _ t hjk h1 ht'
    · rw [putL_ne L A e] at ht
      by_cases e2 : k = i
      · subst e2
        rw [putL_same] at ht'
        rcases (hA t ht').1 with h1 | h1
        · have := h.1 _ t ht; omega
        · exact h.2 _ _ t hjk ht h1
      · rw [putL_ne L A e2] at ht'; exact h.2 _ _ t hjk ht ht'
def cpE (Z : Nat → D) (r7 r10 : D) (g11 g15 : Nat) (x : Md.Engine) : D := .node (.agg [136, 2, 2, 1, 1, 1, 1]) (upd (upd (upd (upd (upd (upd Z 1 r7) 2 r10) 3 (.msl 11 g11 0 [] 0 x.txs.length 3)) 4 (.msl 15 g15 0 [] 0 x.holds.length 2)) 5 (.lit (.int .i64 x.next))) 6 (.lit (.bool x.down)))
def cpF (Z : Nat → D) (r7 r10 : D) (g11 g15 : Nat) (x : Md.Engine) : Nat → D := upd (upd (upd (upd (upd (upd Z 1 r7) 2 r10) 3 (.msl 11 g11 0 [] 0 x.txs.length 3)) 4 (.msl 15 g15 0 [] 0 x.holds.length 2)) 5 (.lit (.int .i64 x.next))) 6 (.lit (.bool x.down))
structure CpB (x : Md.Engine) (q : Nat → D) (Z2 : D) (g1 b1 g2 b2 n0 : Nat) (N n : Nat) (s : Nat → D) (R : Roots) : Prop where
  N : N = 37
  nn : n0 ≤ n
  s1 : s 1 = .ptr 1 g1 0 []
  s2 : s 2 = .ptr 2 g2 0 []
  s6 : s 6 = q 1
  s9 : s 9 = q 2
  s13 : s 13 = q 3
  s17 : s 17 = q 4
  s20 : s 20 = .lit (.int .i64 x.next)
  s22 : s 22 = .lit (.bool x.down)
  R1 : R 1 = some (g1, b1, .node (.agg [136, 2, 2, 1, 1, 1, 1]) q)
  R2 : R 2 = some (g2, b2, Z2)
theorem CpB.keep {x : Md.Engine} {q : Nat → D} {Z2 : D} {g1 b1 g2 b2 n0 N n n' t : Nat} {s : Nat → D} {R R' : Roots} {v : D} (h : CpB x q Z2 g1 b1 g2 b2 n0 N n s R) (ht : t ∉ [1, 2, 6, 9, 13, 17, 20, 22]) (hn : n ≤ n') (h1 : R' 1 = R 1) (h2 : R' 2 = R 2) :
    CpB x q Z2 g1 b1 g2 b2 n0 N n' (upd s t v) R' := by
  have e : ∀ k, k ∈ [1, 2, 6, 9, 13, 17, 20, 22] → upd s t v k = s k := fun k hk => upd_ne _ _ (fun e => ht (e ▸ hk))
  exact ⟨h.N, Nat.le_trans h.nn hn, (e 1 (by decide)).trans h.s1, (e 2 (by decide)).trans h.s2, (e 6 (by decide)).trans h.s6, (e 9 (by decide)).trans h.s9, (e 13 (by decide)).trans h.s13, (e 17 (by decide)).trans h.s17, (e 20 (by decide)).trans h.s20, (e 22 (by decide)).trans h.s22, h1.trans h.R1, h2.trans h.R2⟩
def CpPart (t : Nat) (Q : D → Prop) (k i : Nat) (r : D) (n0 n : Nat) (L : Nat → List Nat) (l : Nat) (s : Nat → D) : Prop := i ≤ k → s t = r ∧ Q r ∧ Own n0 n r ∧ ∀ b ∈ r.tl, b ∈ L l
theorem CpPart.keep {t u : Nat} {Q : D → Prop} {k i l n0 n n' : Nat} {r v : D} {L L' : Nat → List Nat} {s : Nat → D} (h : CpPart t Q k i r n0 n L l s) (hu : t ≠ u) (hn : n ≤ n') (hL : L' l = L l) : CpPart t Q k i r n0 n' L' l (upd s u v) := fun hk => by
  obtain ⟨h1, h2, h3, h4⟩ := h hk
  exact ⟨by rw [upd_ne _ _ hu]; exact h1, h2, h3.mono (Nat.le_refl _) hn, by rw [hL]; exact h4⟩
theorem CpPart.up {t : Nat} {Q : D → Prop} {k i l n0 n : Nat} {r : D} {L : Nat → List Nat} {s : Nat → D} (h : CpPart t Q k i r n0 n L l s) (hk : i ≤ k) (k' : Nat) : CpPart t Q k' i r n0 n L l s := fun _ => h hk
def CpEmp (t sz : Nat) (a : Bool) (k i g b : Nat) (f : Nat → D) (L : Nat → List Nat) (l : Nat) (s : Nat → D) (R : Roots) : Prop := a = true → k < i → s t = .msl t g 0 [] 0 0 sz ∧ R t = some (g, b, .node (.arr 0 sz) f) ∧ b ∈ L l
theorem CpEmp.keep {t u sz : Nat} {a : Bool} {k k' i g b l : Nat} {f : Nat → D} {v : D} {L L' : Nat → List Nat} {s : Nat → D} {R R' : Roots} (h : CpEmp t sz a k i g b f L l s R) (hk : k ≤ k') (hu : t ≠ u) (hR : R' t = R t) (hL : L' l = L l) : CpEmp t sz a k' i g b f L' l (upd s u v) R' := fun ha hk' => by
  obtain ⟨h1, h2, h3⟩ := h ha (by omega)
  exact ⟨by rw [upd_ne _ _ hu]; exact h1, hR.trans h2, by rw [hL]; exact h3⟩
def CpFul {α : Type} (t lab sz : Nat) (Q : D → α → Prop) (xs : List α) (k i g b : Nat) (f : Nat → D) (L : Nat → List Nat) (l : Nat) (s : Nat → D) (R : Roots) : Prop := i ≤ k → s t = .msl lab g 0 [] 0 xs.length sz ∧ R lab = some (g, b, .node (.arr xs.length sz) f) ∧ (∀ j, (f j).still) ∧ (∀ j (h : j < xs.length), Q (f j) xs[j]) ∧ b ∈ L l
theorem CpFul.keep {α : Type} {t u lab sz : Nat} {Q : D → α → Prop} {xs : List α} {k i g b l : Nat} {f : Nat → D} {v : D} {L L' : Nat → List Nat} {s : Nat → D} {R R' : Roots} (h : CpFul t lab sz Q xs k i g b f L l s R) (hu : t ≠ u) (hR : R' lab = R lab) (hL : L' l = L l) : CpFul t lab sz Q xs k i g b f L' l (upd s u v) R' := fun hk => by
  obtain ⟨h1, h2, h3, h4, h5⟩ := h hk
  exact ⟨by rw [upd_ne _ _ hu]; exact h1, hR.trans h2, h3, h4, by rw [hL]; exact h5⟩
theorem CpFul.up {α : Type} {t lab sz : Nat} {Q : D → α → Prop} {xs : List α} {k i g b l : Nat} {f : Nat → D} {L : Nat → List Nat} {s : Nat → D} {R : Roots} (h : CpFul t lab sz Q xs k i g b f L l s R) (hk : i ≤ k) (k' : Nat) : CpFul t lab sz Q xs k' i g b f L l s R := fun _ => h hk
structure CpI (x : Md.Engine) (q Z : Nat → D) (Z2 : D) (g1 b1 g2 b2 n0 k : Nat) (a b z : Bool) (r7 r10 : D) (g11 b11 : Nat) (f11 : Nat → D) (g15 b15 : Nat) (f15 : Nat → D) (g3 b3 : Nat) (L : Nat → List Nat) (N n : Nat) (s : Nat → D) (R : Roots) : Prop where
  base : CpB x q Z2 g1 b1 g2 b2 n0 N n s R
  sep : Sep n0 n L
  e7 : CpPart 7 (IsPool · x.pool) k 1 r7 n0 n L 0 s
  e10 : CpPart 10 (IsLog · x.log) k 2 r10 n0 n L 1 s
  e11 : CpEmp 11 3 a k 3 g11 b11 f11 L 2 s R
  e14 : CpFul 14 11 3 IsLive x.txs k 3 g11 b11 f11 L 2 s R
  e15 : CpEmp 15 2 b k 4 g15 b15 f15 L 3 s R
  e18 : CpFul 18 15 2 IsHold x.holds k 4 g15 b15 f15 L 3 s R
  e23 : 5 ≤ k → s 23 = cpE Z r7 r10 g11 g15 x
  e3 : z = true → s 3 = .ptr 3 g3 0 [] ∧ R 3 = some (g3, b3, if 6 ≤ k then cpE Z r7 r10 g11 g15 x else .node (.agg [136, 2, 2, 1, 1, 1, 1]) Z)
def cpPg : D := .node (.agg [1, 16]) (nthD [.lit (.int .i64 0), .node (.arr 4 4) fun _ => .node (.agg [1, 3]) (nthD [.lit (.bool false), .node (.agg [1, 1, 1]) (nthD [.lit (.int .i64 0), .nil, .nil])])])
theorem cpPg_still : cpPg.still := by
  unfold cpPg
  simp only [still_nodeN, still_nodeC, stillL_nil, stillL_cons, still_lit, still_nil, and_self]
theorem upd_id {s : Nat → D} {i : Nat} {d : D} (h : s i = d) : upd s i d = s := by
  funext j
  by_cases e : j = i
  · subst e; rw [upd_same, h]
  · rw [upd_ne _ _ e]
def cpZ : Nat → D := nthD [.node (.arr 8 17) fun _ => cpPg, .node (.agg [1, 1]) (nthD [.nil, .lit (.int .i64 0)]), .node (.agg [1, 1]) (nthD [.nil, .lit (.int .i64 0)]), .nil, .nil, .lit (.int .i64 0), .lit (.bool false)]
theorem headD_of {R : Roots} {l g b m z : Nat} {f : Nat → D} (h : R l = some (g, b, .node (.arr m z) f)) : headD R z (.msl l g 0 [] 0 m z) = some (some l, m, f) := by simp [headD, h]
theorem blkR_of {R : Roots} {l g b : Nat} {d : D} (h : R l = some (g, b, d)) : blkR R (some l) = some b := by simp [blkR, h]
theorem rdR_of {R : Roots} {l g b : Nat} {d : D} (h : R l = some (g, b, d)) : rdR R l g = d := by simp [rdR, h]
theorem wrR_of {R : Roots} {l g b : Nat} {d v : D} (h : R l = some (g, b, d)) : wrR R l v = upd R l (some (g, b, v)) := by simp [wrR, h]
theorem cpZ_ge {i : Nat} (h : 7 ≤ i) : cpZ i = .any := by
  obtain ⟨j, rfl⟩ : ∃ j, i = j + 7 := ⟨i - 7, by omega⟩
  rfl
theorem cp_fin {G F f11 f15 : Nat → D} {x : Md.Engine} {r7 r10 : D} {b11 b15 n0 n n' n1 : Nat} {L : Nat → List Nat} (e0 : G 0 = .node (.arr 8 17) F) (e1 : G 1 = r7) (e2 : G 2 = r10) (e3 : G 3 = .sl b11 true x.txs.length 3 f11) (e4 : G 4 = .sl b15 true x.holds.length 2 f15) (e5 : G 5 = .lit (.int .i64 x.next)) (e6 : G 6 = .lit (.bool x.down)) (hG : ∀ i, 7 ≤ i → (G i).still)
    (hdl : x.disk.length = 8) (hF : Fill IsPage 17 n n' x.disk 8 8 F) (c2 : IsPool r7 x.pool) (c3 : Own n0 n r7) (c4 : ∀ b ∈ r7.tl, b ∈ L 0) (d2 : IsLog r10 x.log) (d3 : Own n0 n r10) (d4 : ∀ b ∈ r10.tl, b ∈ L 1)
    (l1 : ∀ j, (f11 j).still) (l2 : ∀ j (h : j < x.txs.length), IsLive (f11 j) x.txs[j]) (l3 : b11 ∈ L 2) (m1 : ∀ j, (f15 j).still) (m2 : ∀ j (h : j < x.holds.length), IsHold (f15 j) x.holds[j]) (m3 : b15 ∈ L 3) (hsep : Sep n0 n L) (hn0 : n0 ≤ n) (hn : n ≤ n') (hn1 : n' ≤ n1) (htl : x.txs.length ≤ 1048576) (hhl : x.holds.length ≤ 1048576) :
    IsEngine (.node (.agg [136, 2, 2, 1, 1, 1, 1]) G) x ∧ Own n0 n1 (.node (.agg [136, 2, 2, 1, 1, 1, 1]) G) := by
  have s7 := shp_pool _ _ c2
  have s10 := shp_log _ _ d2
  obtain ⟨p3, o3⟩ := fin_row (R := IsLive) (sz := 3) (lo := b11) (hi := b11 + 1) (b := b11) l1 (by omega) l2 (fun d x h => ⟨h.tl, h.wh⟩) (Nat.le_refl _) (Nat.lt_succ_self _)
  obtain ⟨p4, o4⟩ := fin_row (R := IsHold) (sz := 2) (lo := b15) (hi := b15 + 1) (b := b15) m1 (by omega) m2 (fun d x h => ⟨h.tl, h.wh⟩) (Nat.le_refl _) (Nat.lt_succ_self _)
  have hst : ∀ i, (G i).still := fun i => by
    rcases Nat.lt_or_ge i 7 with h | h
    · match i, h with
      | 0, _ => rw [e0]; exact hF.st
      | 1, _ => rw [e1]; exact s7.2.2.2
      | 2, _ => rw [e2]; exact s10.2.2.2
      | 3, _ => rw [e3]; exact l1
      | 4, _ => rw [e4]; exact m1
      | 5, _ => rw [e5]; trivial
      | 6, _ => rw [e6]; trivial
    · exact hG i h
  have o0 : Own n n' (.node (.arr 8 17) F) := own_node hF.own
  have T0 : ∀ t ∈ (G 0).tl, n ≤ t ∧ t < n' := fun t ht => by rw [e0] at ht; exact o0.rg t ht
  have T1 : ∀ t ∈ (G 1).tl, t ∈ L 0 := fun t ht => by rw [e1] at ht; exact c4 t ht
  have T2 : ∀ t ∈ (G 2).tl, t ∈ L 1 := fun t ht => by rw [e2] at ht; exact d4 t ht
  have T3 : ∀ t ∈ (G 3).tl, t ∈ L 2 := fun t ht => by
    rw [e3] at ht
    have := o3.rg t ht
    rw [show t = b11 by omega]; exact l3
  have T4 : ∀ t ∈ (G 4).tl, t ∈ L 3 := fun t ht => by
    rw [e4] at ht
    have := o4.rg t ht
    rw [show t = b15 by omega]; exact m3
  have T5 : ∀ t, t ∉ (G 5).tl := fun t ht => by rw [e5] at ht; simp [D.tl] at ht
  have T6 : ∀ t, t ∉ (G 6).tl := fun t ht => by rw [e6] at ht; simp [D.tl] at ht
  have TL : ∀ i, 1 ≤ i → i < 7 → ∀ t ∈ (G i).tl, t ∈ L (i - 1) := fun i h1 h2 t ht => by
    match i, h2, h1 with
    | 1, _, _ => exact T1 t ht
    | 2, _, _ => exact T2 t ht
    | 3, _, _ => exact T3 t ht
    | 4, _, _ => exact T4 t ht
    | 5, _, _ => exact absurd ht (T5 t)
    | 6, _, _ => exact absurd ht (T6 t)
  refine ⟨⟨G, rfl, hst, by rw [e0]; exact ⟨hdl, F, rfl, hF.st, fun i hi => hF.ok i hi (by omega)⟩, by rw [e1]; exact c2, by rw [e2]; exact d2, by rw [e3]; exact p3, by rw [e4]; exact p4, e5, e6⟩, own_node ⟨fun i hi t ht => ?_, fun i hi => ?_, fun i j hij hj t ht ht' => ?_, fun i hi => ?_⟩⟩
  · rcases Nat.eq_zero_or_pos i with h | h
    · subst h; have := T0 t ht; omega
    · have := hsep.1 _ t (TL i h hi t ht); omega
  · match i, hi with
    | 0, _ => rw [e0]; exact o0.nd
    | 1, _ => rw [e1]; exact c3.nd
    | 2, _ => rw [e2]; exact d3.nd
    | 3, _ => rw [e3]; exact o3.nd
    | 4, _ => rw [e4]; exact o4.nd
    | 5, _ => rw [e5]; exact List.nodup_nil
    | 6, _ => rw [e6]; exact List.nodup_nil
  · have h1 := TL j (by omega) hj t ht'
    rcases Nat.eq_zero_or_pos i with h | h
    · subst h
      have := T0 t ht
      have := hsep.1 _ t h1
      omega
    · exact hsep.2 (i - 1) (j - 1) t (by omega) (TL i h (by have : j < 7 := hj; omega) t ht) h1
  · match i, hi with
    | 0, _ => rw [e0]; exact o0.wh
    | 1, _ => rw [e1]; exact c3.wh
    | 2, _ => rw [e2]; exact d3.wh
    | 3, _ => rw [e3]; exact o3.wh
    | 4, _ => rw [e4]; exact o4.wh
    | 5, _ => rw [e5]; trivial
    | 6, _ => rw [e6]; trivial
theorem l7Copy_p (d : D) (x : Md.Engine) (h : IsEngine d x) (hs : Md.szEngine x ≤ 1048576) : PCall Tryz.prog 43 [d] fun n0 n1 r => IsEngine r x ∧ Own n0 n1 r := by
  have zp := shp_engine _ _ h
  obtain ⟨q, rfl, hq, q0, q1, q2, q3, q4, q5, q6⟩ := id h
  have q5 : q 5 = _ := q5
  have q6 : q 6 = _ := q6
  have zl := shp_log _ _ q2
  have zo := shp_pool _ _ q1
  have hpl : Md.szPool x.pool ≤ 1048576 := by unfold Md.szEngine at hs; omega
  have htl : x.txs.length ≤ 1048576 := by unfold Md.szEngine at hs; omega
  have hhl : x.holds.length ≤ 1048576 := by unfold Md.szEngine at hs; omega
  have hll : Md.szLog x.log ≤ 1048576 := by unfold Md.szEngine at hs; omega
  refine pcall_intro_t Tryz.func43 rfl (by decide) rfl (by decide) (by rw [Tryz.ntmps43]; simp) fun w0 M n0 hW hT => ivc_sound ?_; simp -dsimp only [Tryz.f43, go_sem, zp.1, zp.2.1, zp.2.2.1]
  intro g1 b1 hb1 g2 b2 hb2
  refine iwp_dag [0, 1, 3, 4, 7, 8, 11, 12, 14, 15, 16, 17] [1] cpVs cpArr cpNx (0, false, false, false) (6, true, true, true) (fun v st => ∃ r7 r10 g11 b11 f11 g15 b15 f15 g3 b3 L, CpI x q cpZ (zd Tryz.prog 59) g1 b1 g2 b2 n0 v.1 v.2.1 v.2.2.1 v.2.2.2 r7 r10 g11 b11 f11 g15 b15 f15 g3 b3 L st.N st.n st.s st.R) rfl (by decide +kernel) (by decide +kernel) ?_ ?_ ?_
  · simp -dsimp only [go_sem, zo.1, zo.2.1, zo.2.2.1, zl.1, zl.2.1, zl.2.2.1, q3.size, q3.isNode, q3.plain, q4.size, q4.isNode, q4.plain, q5, q6]
    refine ⟨.nil, .nil, 0, 0, fun _ => .nil, 0, 0, fun _ => .nil, 0, 0, fun _ => [], ?_⟩
    exact ⟨⟨rfl, by omega, by simp -dsimp only [go_sem], by simp -dsimp only [go_sem], by simp -dsimp only [go_sem], by simp -dsimp only [go_sem], by simp -dsimp only [go_sem], by simp -dsimp only [go_sem], by simp -dsimp only [go_sem], by simp -dsimp only [go_sem], by simp -dsimp only [go_sem], by simp -dsimp only [go_sem]⟩, Sep.nil _ _, fun h => absurd h (by decide), fun h => absurd h (by decide), fun h => (by cases h), fun h => absurd h (by decide), fun h => (by cases h), fun h => absurd h (by decide), fun h => absurd h (by decide), fun h => (by cases h)⟩
  · rintro ⟨k, a, b, z⟩ ⟨N, n, s, R⟩ hv ⟨r7, r10, g11, b11, f11, g15, b15, f15, g3, b3, L, hI⟩ i v' hm
    have hok := cpOk_of hv
    simp only [cpOk, Bool.and_eq_true, Bool.or_eq_true, decide_eq_true_eq] at hok
    simp only [cpNx, List.mem_append, List.mem_ite_nil_right, List.mem_singleton, Prod.mk.injEq] at hm
    rcases hm with (((((((⟨rfl, rfl, rfl⟩ | ⟨rfl, rfl, rfl⟩) | ⟨⟨rfl, rfl⟩, rfl, rfl⟩) | ⟨⟨rfl, rfl⟩, rfl, rfl⟩) | ⟨rfl, rfl, rfl⟩) | ⟨⟨rfl, rfl⟩, rfl, rfl⟩) | ⟨rfl, rfl, rfl⟩) | ⟨rfl, rfl, rfl⟩) | ⟨rfl, rfl, rfl⟩
    all_goals
      dsimp only at hI
      obtain rfl := hI.base.N
      have hn0 := hI.base.nn
    · simp -dsimp only [go_sem, hI.base.s6, zo.1, zo.2.1, zo.2.2.1]
      refine xcall_p (l6Copy_p _ _ q1 hpl) (by simp -dsimp only [go_sem, hI.base.s6, rl_still, zo.2.2.2]) fun m0 m1 r hm0 hm1 hr => ?_
      have hr := hr.out
      have hm0' : n ≤ m0 := hm0
      refine ⟨hr.2.tags, ?_⟩
      simp -dsimp only [go_sem, hI.base.R1]
      have hnm : n ≤ m1 := by omega
      exact ⟨r, r10, g11, b11, f11, g15, b15, f15, g3, b3, putL L 0 r.tl, hI.base.keep (by decide) hnm rfl rfl, hI.sep.put 0 hnm hn0 fun t ht => ⟨.inl (by have := hr.2.rg t ht; omega), (hr.2.rg t ht).2⟩,
        fun _ => ⟨upd_same _ _ _, hr.1, hr.2.mono (by omega) (Nat.le_refl _), fun b hb => by rw [putL_same]; exact hb⟩, fun h => absurd h (by decide), hI.e11.keep (by omega) (by decide) rfl (putL_ne _ _ (by decide)), fun h => absurd h (by decide), hI.e15.keep (by omega) (by decide) rfl (putL_ne _ _ (by decide)), fun h => absurd h (by decide), fun h => absurd h (by decide),
        fun hz => by rw [upd_ne _ _ (by decide)]; exact hI.e3 hz⟩
    · simp -dsimp only [go_sem, hI.base.s9, zl.1, zl.2.1, zl.2.2.1]
      refine xcall_p (l5Copy_p _ _ q2 hll) (by simp -dsimp only [go_sem, hI.base.s9, rl_still, zl.2.2.2]) fun m0 m1 r hm0 hm1 hr => ?_
      have hr := hr.out
      have hm0' : n ≤ m0 := hm0
      refine ⟨hr.2.tags, ?_⟩
      simp -dsimp only [go_sem, hI.base.R1]
      have hnm : n ≤ m1 := by omega
      exact ⟨r7, r, g11, b11, f11, g15, b15, f15, g3, b3, putL L 1 r.tl, hI.base.keep (by decide) hnm rfl rfl, hI.sep.put 1 hnm hn0 fun t ht => ⟨.inl (by have := hr.2.rg t ht; omega), (hr.2.rg t ht).2⟩,
        (hI.e7.up (by decide) 2).keep (by decide) hnm (putL_ne _ _ (by decide)), fun _ => ⟨upd_same _ _ _, hr.1, hr.2.mono (by omega) (Nat.le_refl _), fun b hb => by rw [putL_same]; exact hb⟩, hI.e11.keep (by omega) (by decide) rfl (putL_ne _ _ (by decide)), fun h => absurd h (by decide), hI.e15.keep (by omega) (by decide) rfl (putL_ne _ _ (by decide)), fun h => absurd h (by decide), fun h => absurd h (by decide),
        fun hz => by rw [upd_ne _ _ (by decide)]; exact hI.e3 hz⟩
    · obtain ⟨c1, c2, c3⟩ := hI.e11 rfl (by decide)
      obtain ⟨f, so, hsrc, hso, hT, hf1, hf2, hf3⟩ := isL_src q3
      simp -dsimp only [go_sem, c1, c2, headD_of c2, blkR_of c2, hI.base.s13, hsrc, hT]
      refine ⟨hso, by omega, by omega, fun g b' n' hn' hb' hb2 => ?_⟩
      simp -dsimp only [go_sem, hI.base.R1]
      exact ⟨r7, r10, g, b', f, g15, b15, f15, g3, b3, putL L 2 [b'], hI.base.keep (by decide) hn' (upd_ne _ _ (by decide)) (upd_ne _ _ (by decide)), hI.sep.put 2 hn' hn0 fun t ht => by
          have ht : t = b' := by simpa using ht
          exact ⟨by
            rcases hb2 with h | h
            · exact .inl (by omega)
            · exact .inr (by rw [show t = b11 by omega]; exact c3), by omega⟩,
        (hI.e7.up (by decide) 3).keep (by decide) hn' (putL_ne _ _ (by decide)), (hI.e10.up (by decide) 3).keep (by decide) hn' (putL_ne _ _ (by decide)), fun _ h => absurd h (by decide), fun _ => ⟨upd_same _ _ _, upd_same _ _ _, hf1, hf2, by rw [putL_same]; simp⟩, hI.e15.keep (by omega) (by decide) (upd_ne _ _ (by decide)) (putL_ne _ _ (by decide)), fun h => absurd h (by decide), fun h => absurd h (by decide),
        fun hz => by rw [upd_ne _ _ (by decide), upd_ne _ _ (by decide)]; exact hI.e3 hz⟩
    · obtain ⟨c1, c2, c3⟩ := hI.e15 rfl (by decide)
      obtain ⟨f, so, hsrc, hso, hT, hf1, hf2, hf3⟩ := isL_src q4
      simp -dsimp only [go_sem, c1, c2, headD_of c2, blkR_of c2, hI.base.s17, hsrc, hT]
      refine ⟨hso, by omega, by omega, fun g b' n' hn' hb' hb2 => ?_⟩
      simp -dsimp only [go_sem, hI.base.R1]
      exact ⟨r7, r10, g11, b11, f11, g, b', f, g3, b3, putL L 3 [b'], hI.base.keep (by decide) hn' (upd_ne _ _ (by decide)) (upd_ne _ _ (by decide)), hI.sep.put 3 hn' hn0 fun t ht => by
          have ht : t = b' := by simpa using ht
          exact ⟨by
            rcases hb2 with h | h
            · exact .inl (by omega)
            · exact .inr (by rw [show t = b15 by omega]; exact c3), by omega⟩,
        (hI.e7.up (by decide) 4).keep (by decide) hn' (putL_ne _ _ (by decide)), (hI.e10.up (by decide) 4).keep (by decide) hn' (putL_ne _ _ (by decide)), fun _ h => absurd h (by decide), (hI.e14.up (by decide) 4).keep (by decide) (upd_ne _ _ (by decide)) (putL_ne _ _ (by decide)), fun _ h => absurd h (by decide), fun _ => ⟨upd_same _ _ _, upd_same _ _ _, hf1, hf2, by rw [putL_same]; simp⟩, fun h => absurd h (by decide),
        fun hz => by rw [upd_ne _ _ (by decide), upd_ne _ _ (by decide)]; exact hI.e3 hz⟩
    · obtain ⟨c1, c2, c3, c4⟩ := hI.e7 (by decide)
      obtain ⟨d1, d2, d3, d4⟩ := hI.e10 (by decide)
      obtain ⟨e1, e2, e3, e4, e5⟩ := hI.e14 (by decide)
      obtain ⟨h1, h2, h3, h4, h5⟩ := hI.e18 (by decide)
      have y7 := shp_pool _ _ c2
      have y10 := shp_log _ _ d2
      simp -dsimp only [go_sem, c1, d1, e1, h1, hI.base.s20, hI.base.s22, y7.1, y7.2.1, y7.2.2.1, y10.1, y10.2.1, y10.2.2.1]
      exact ⟨hI.base.R1, r7, r10, g11, b11, f11, g15, b15, f15, g3, b3, L, hI.base.keep (by decide) (Nat.le_refl _) rfl rfl, hI.sep, (hI.e7.up (by decide) 5).keep (by decide) (Nat.le_refl _) rfl, (hI.e10.up (by decide) 5).keep (by decide) (Nat.le_refl _) rfl, fun _ h => absurd h (by decide), (hI.e14.up (by decide) 5).keep (by decide) rfl rfl, fun _ h => absurd h (by decide), (hI.e18.up (by decide) 5).keep (by decide) rfl rfl, fun _ => upd_same _ _ _,
        fun hz => by
          have := hI.e3 hz
          rw [if_neg (by decide)] at this
          rw [upd_ne _ _ (by decide), if_neg (by decide)]; exact this⟩
    · obtain ⟨c1, c2⟩ := hI.e3 rfl
      rw [if_neg (by decide)] at c2
      have c3 := hI.e23 (by decide)
      simp -dsimp only [go_sem, c1, c2, c3, rdR_of c2, wrR_of c2]
      refine ⟨rfl, trivial, hI.base.R1, ?_⟩
      exact ⟨r7, r10, g11, b11, f11, g15, b15, f15, g3, b3, L, ⟨hI.base.N, hI.base.nn, hI.base.s1, hI.base.s2, hI.base.s6, hI.base.s9, hI.base.s13, hI.base.s17, hI.base.s20, hI.base.s22, (upd_ne _ _ (by decide)).trans hI.base.R1, (upd_ne _ _ (by decide)).trans hI.base.R2⟩, hI.sep, hI.e7.up (by decide) 6, hI.e10.up (by decide) 6, fun _ h => absurd h (by decide), fun _ => by
          obtain ⟨w1, w2, w3⟩ := hI.e14 (by decide)
          exact ⟨w1, (upd_ne _ _ (by decide)).trans w2, w3⟩, fun _ h => absurd h (by decide), fun _ => by
          obtain ⟨w1, w2, w3⟩ := hI.e18 (by decide)
          exact ⟨w1, (upd_ne _ _ (by decide)).trans w2, w3⟩, fun _ => c3, fun hz => ⟨c1, by rw [upd_same, if_pos (by decide)]⟩⟩
    · simp -dsimp only [go_sem]
      intro g b' hb'
      have hnm : n ≤ b' + 1 := by omega
      have hk : k < 3 := by
        rcases hok.1.1.2 with h | h
        · cases h
        · exact h
      exact ⟨hI.base.R1, r7, r10, g, b', _, g15, b15, f15, g3, b3, putL L 2 [b'], hI.base.keep (by decide) hnm (upd_ne _ _ (by decide)) (upd_ne _ _ (by decide)), hI.sep.put 2 hnm hn0 fun t ht => (by
          have ht : t = b' := by simpa using ht
          exact ⟨.inl (by omega), by omega⟩), hI.e7.keep (by decide) hnm (putL_ne _ _ (by decide)), hI.e10.keep (by decide) hnm (putL_ne _ _ (by decide)), fun _ _ => ⟨upd_same _ _ _, upd_same _ _ _, by rw [putL_same]; simp⟩, fun h => absurd h (by omega), hI.e15.keep (Nat.le_refl _) (by decide) (upd_ne _ _ (by decide)) (putL_ne _ _ (by decide)), fun h => absurd h (by omega), fun h => absurd h (by omega),
        fun hz => by
          have := hI.e3 hz
          rw [if_neg (by omega)] at this
          rw [upd_ne _ _ (by decide), upd_ne _ _ (by decide), if_neg (by omega)]; exact this⟩
    · simp -dsimp only [go_sem]
      intro g b' hb'
      have hnm : n ≤ b' + 1 := by omega
      have hk : k < 4 := by
        rcases hok.1.2 with h | h
        · cases h
        · exact h
      exact ⟨hI.base.R1, r7, r10, g11, b11, f11, g, b', _, g3, b3, putL L 3 [b'], hI.base.keep (by decide) hnm (upd_ne _ _ (by decide)) (upd_ne _ _ (by decide)), hI.sep.put 3 hnm hn0 fun t ht => (by
          have ht : t = b' := by simpa using ht
          exact ⟨.inl (by omega), by omega⟩), hI.e7.keep (by decide) hnm (putL_ne _ _ (by decide)), hI.e10.keep (by decide) hnm (putL_ne _ _ (by decide)), hI.e11.keep (Nat.le_refl _) (by decide) (upd_ne _ _ (by decide)) (putL_ne _ _ (by decide)), hI.e14.keep (by decide) (upd_ne _ _ (by decide)) (putL_ne _ _ (by decide)), fun _ _ => ⟨upd_same _ _ _, upd_same _ _ _, by rw [putL_same]; simp⟩, fun h => absurd h (by omega), fun h => absurd h (by omega),
        fun hz => by
          have := hI.e3 hz
          rw [if_neg (by omega)] at this
          rw [upd_ne _ _ (by decide), upd_ne _ _ (by decide), if_neg (by omega)]; exact this⟩
    · simp -dsimp only [go_sem]
      intro g b' hb'
      have hnm : n ≤ b' + 1 := by omega
      have hk : k < 6 := by
        rcases hok.2 with h | h
        · cases h
        · exact h
      exact ⟨hI.base.R1, r7, r10, g11, b11, f11, g15, b15, f15, g, b', L, hI.base.keep (by decide) hnm (upd_ne _ _ (by decide)) (upd_ne _ _ (by decide)), hI.sep.mono hnm, hI.e7.keep (by decide) hnm rfl, hI.e10.keep (by decide) hnm rfl, hI.e11.keep (Nat.le_refl _) (by decide) (upd_ne _ _ (by decide)) rfl, hI.e14.keep (by decide) (upd_ne _ _ (by decide)) rfl, hI.e15.keep (Nat.le_refl _) (by decide) (upd_ne _ _ (by decide)) rfl, hI.e18.keep (by decide) (upd_ne _ _ (by decide)) rfl, fun h => by rw [upd_ne _ _ (by decide)]; exact hI.e23 h,
        fun _ => ⟨upd_same _ _ _, by rw [upd_same, if_neg (by omega)]; rfl⟩⟩
  · rintro ⟨N, n, s, R⟩ ⟨r7, r10, g11, b11, f11, g15, b15, f15, g3, b3, L, hI⟩
    dsimp only at hI
    obtain rfl := hI.base.N
    obtain ⟨c1, c2, c3, c4⟩ := hI.e7 (by decide)
    obtain ⟨d1, d2, d3, d4⟩ := hI.e10 (by decide)
    obtain ⟨e1, e2, e3, e4, e5⟩ := hI.e14 (by decide)
    obtain ⟨h1, h2, h3, h4, h5⟩ := hI.e18 (by decide)
    obtain ⟨k1, k2⟩ := hI.e3 rfl
    rw [if_pos (by decide)] at k2
    have s1 := hI.base.s1
    have s2 := hI.base.s2
    have R1 := hI.base.R1
    have R2 := hI.base.R2
    have hsep := hI.sep
    have hn0 := hI.base.nn
    obtain ⟨hdl, dg, hdg, hdgs, hdk⟩ := q0
    simp -dsimp only [go_sem]
    obtain ⟨RC, hRC⟩ : ∃ RC : Roots, RC = upd (upd (upd (upd (fun _ => none) 1 (some (g1, b1, .node (.agg [136, 2, 2, 1, 1, 1, 1]) q))) 2 (some (g2, b2, zd Tryz.prog 59))) 11 (some (g11, b11, .node (.arr x.txs.length 3) f11))) 15 (some (g15, b15, .node (.arr x.holds.length 2) f15)) := ⟨_, rfl⟩
    refine iwp_forget ⟨37, n, upd s 4 (.lit (.int .i64 0)), upd RC 3 (some (g3, b3, .node (.agg [136, 2, 2, 1, 1, 1, 1]) (upd (cpF cpZ r7 r10 g11 g15 x) 0 (.node (.arr 8 17) fun _ => cpPg))))⟩ ⟨rfl, Nat.le_refl _, fun t => .inl rfl, fun l => ?_⟩ ?_
    · subst hRC
      have k2 : R 3 = some (g3, b3, .node (.agg [136, 2, 2, 1, 1, 1, 1]) (upd (cpF cpZ r7 r10 g11 g15 x) 0 (.node (.arr 8 17) fun _ => cpPg))) := k2.trans (congrArg (fun E => some (g3, b3, D.node (.agg [136, 2, 2, 1, 1, 1, 1]) E)) (upd_id (s := cpF cpZ r7 r10 g11 g15 x) (i := 0) (d := .node (.arr 8 17) fun _ => cpPg) rfl).symm)
      dsimp only
      by_cases l3 : l = 3
      · subst l3; exact .inl (by rw [upd_same]; exact k2.symm)
      by_cases l15 : l = 15
      · subst l15; exact .inl (by rw [upd_ne _ _ (by decide), upd_same]; exact h2.symm)
      by_cases l11 : l = 11
      · subst l11; exact .inl (by rw [upd_ne _ _ (by decide), upd_ne _ _ (by decide), upd_same]; exact e2.symm)
      by_cases l2 : l = 2
      · subst l2; exact .inl (by rw [upd_ne _ _ (by decide), upd_ne _ _ (by decide), upd_ne _ _ (by decide), upd_same]; exact R2.symm)
      by_cases l1 : l = 1
      · subst l1; exact .inl (by rw [upd_ne _ _ (by decide), upd_ne _ _ (by decide), upd_ne _ _ (by decide), upd_ne _ _ (by decide), upd_same]; exact R1.symm)
      exact .inr (by rw [upd_ne _ _ l3, upd_ne _ _ l15, upd_ne _ _ l11, upd_ne _ _ l2, upd_ne _ _ l1])
    refine iwp_forR 8 [1, 2, 3] (fun i n' s R' => s 4 = .lit (.int .i64 i) ∧ ∃ F, R' = upd RC 3 (some (g3, b3, .node (.agg [136, 2, 2, 1, 1, 1, 1]) (upd (cpF cpZ r7 r10 g11 g15 x) 0 (.node (.arr 8 17) F)))) ∧ Fill IsPage 17 n n' x.disk 8 i F) 0 (Nat.zero_le _) ⟨by simp -dsimp only [go_sem]; rfl, fun _ => cpPg, rfl, Fill.start (fun _ => cpPg_still) fun _ _ => ⟨trivial, rfl⟩⟩ ?_
    rintro i n' s' R' hi hn hk ⟨h4', F, rfl, hF⟩
    refine ivc_sound ?_
    simp -dsimp only [go_sem, s1, s2, k1] at hk
    by_cases hlt : i < 8
    · have hc : (i : Int) < 8 := by omega
      have hid : i < x.disk.length := by omega
      have hpg := hdk i hid
      have pp := shp_page _ _ hpg
      have hw := i64_succ (i := i) (by omega)
      have hps : Md.szPage x.disk[i] ≤ 1048576 := by
        have := Md.sumBy_mem Md.szPage x.disk x.disk[i] (List.getElem_mem hid)
        unfold Md.szEngine at hs; omega
      rw [hRC]
      simp -dsimp only [go_sem, hk, h4', hc, hlt, hdg, pp.1, pp.2.1, pp.2.2.1]
      refine xcall_p (l3Copy_p _ _ hpg hps) (by simp -dsimp only [go_sem, rl_still, pp.2.2.2]) fun m0 m1 r hm0 hm1 hr => ?_
      have rq := shp_page _ _ hr.1
      refine ⟨hr.2.tags, ?_⟩
      simp -dsimp only [go_sem, hk, h4', hc, hlt, rq.1, rq.2.1, rq.2.2.1, hw]
      exact ⟨(hF.sh i hlt).1, (hF.sh i hlt).2, into_r (by omega) (by simp -dsimp only [go_sem, hk, s1, s2, k1]) ⟨by simp -dsimp only [go_sem], _, rfl, hF.step shp_page hid hr.1 hr.2 (by omega) (by omega) (by omega) (by omega)⟩⟩
    · have hc : ¬ (i : Int) < 8 := by omega
      rw [hRC]
      simp -dsimp only [go_sem, hk, h4', hc, hlt]
      obtain rfl : i = 8 := by omega
      intro n1 hn1 hfc
      have y7 := shp_pool _ _ c2
      have y10 := shp_log _ _ d2
      rw [rl_node]
      refine cp_fin (F := F) (f11 := f11) (f15 := f15) (L := L) (n := n) (n' := n') ?_ ?_ ?_ ?_ ?_ ?_ ?_ ?_ hdl hF c2 c3 c4 d2 d3 d4 e3 e4 e5 h3 h4 h5 hsep hn0 hn hn1 htl hhl
      · rw [upd_same]; exact rl_still (d := .node (.arr 8 17) F) hF.st
      · show rl 8 _ r7 = r7
        exact rl_still y7.2.2.2
      · show rl 8 _ r10 = r10
        exact rl_still y10.2.2.2
      · show rl 8 _ (D.msl 11 g11 0 [] 0 x.txs.length 3) = _
        simp -dsimp only [go_sem]
        rw [rls_still e3]
      · show rl 8 _ (D.msl 15 g15 0 [] 0 x.holds.length 2) = _
        simp -dsimp only [go_sem]
        rw [rls_still h3]
      · exact rl_lit _ _ _
      · exact rl_lit _ _ _
      · intro i hi
        have hz : upd (cpF cpZ r7 r10 g11 g15 x) 0 (.node (.arr 8 17) F) i = .any := by
          unfold cpF
          rw [upd_ne _ _ (by omega), upd_ne _ _ (by omega), upd_ne _ _ (by omega), upd_ne _ _ (by omega), upd_ne _ _ (by omega), upd_ne _ _ (by omega), upd_ne _ _ (by omega)]
          exact cpZ_ge hi
        rw [hz, rl_still (d := .any) trivial]; trivial
theorem cloneHolds_p (d : D) (xs : List Md.Hold) (h : IsL 2 IsHold d xs) (hs : xs.length ≤ 1048576) : PCall Tryz.prog 130 [d] fun n0 n1 r => IsL 2 IsHold r xs ∧ Own n0 n1 r := by
  have hp : ∀ d x, IsHold d x → d.tl = [] ∧ d.whole := fun d x h => ⟨h.tl, h.wh⟩
  rcases h with ⟨rfl, rfl⟩ | ⟨t, zb, f, rfl, hst, hsh, hf⟩
  · refine pcall_intro Tryz.func130 rfl (by decide) rfl (by decide) (by rw [Tryz.ntmps130]; simp) fun w0 M n0 hW => ivc_sound ?_; simp -dsimp only [Tryz.f130, go_sem]
    intro b
    refine ⟨fun _ n1 hn1 hfc => fin_nil, fun _ g b hb g1 b1 n' hn' hb1' hb2 n1 hn1 hfc => ?_⟩
    have hb3 : n0 ≤ b1 := by rcases hb2 with h | h <;> omega
    exact fin_zero (fun _ => trivial) rfl hb3 (by omega)
  · refine pcall_intro Tryz.func130 rfl (by decide) rfl (by decide) (by rw [Tryz.ntmps130]; simp) fun w0 M n0 hW => ivc_sound ?_; simp -dsimp only [Tryz.f130, go_sem]
    intro b hb
    refine ⟨fun h => absurd (hb.trans h) (by simp), fun _ g b hb1 => ⟨fun y h => h.symm, by omega, by omega, fun g1 b1 n' hn' hb1' hb2 n1 hn1 hfc => ?_⟩⟩
    rw [rls_still hst]
    have hb3 : n0 ≤ b1 := by rcases hb2 with h | h <;> omega
    exact fin_row hst hsh hf hp hb3 (by omega)
abbrev CqV := Nat × Bool
def cqArr (v : CqV) : Array Bool := #[true, true, decide (1 ≤ v.1), true, true, decide (2 ≤ v.1), true, true, decide (3 ≤ v.1), true, true, decide (4 ≤ v.1), true, true, true, true, decide (5 ≤ v.1), v.2, decide (6 ≤ v.1)]
def cqVs : List CqV := ((List.range 7).flatMap fun k => [true, false].map fun z => (k, z)).filter fun v => v.2 || decide (v.1 < 6)
theorem cqOk_of {k : Nat} {z : Bool} (h : (k, z) ∈ cqVs) : (z || decide (k < 6)) = true := (List.mem_filter.1 h).2
def cqNx (v : CqV) : List (Nat × CqV) :=
  (if v.1 = 0 then [(2, (1, v.2))] else []) ++ (if v.1 = 1 then [(5, (2, v.2))] else []) ++ (if v.1 = 2 then [(8, (3, v.2))] else []) ++ (if v.1 = 3 then [(11, (4, v.2))] else []) ++
  (if v.1 = 4 then [(16, (5, v.2))] else []) ++ (if v.1 = 5 ∧ v.2 = true then [(18, (6, v.2))] else []) ++ (if v.2 = false then [(17, (v.1, true))] else [])
structure CqB (x : Md.Engine) (q : Nat → D) (Z2 : D) (g1 b1 g2 b2 n0 : Nat) (N n : Nat) (s : Nat → D) (R : Roots) : Prop where
  N : N = 36
  nn : n0 ≤ n
  s1 : s 1 = .ptr 1 g1 0 []
  s2 : s 2 = .ptr 2 g2 0 []
  s7 : s 7 = q 1
  s10 : s 10 = q 2
  s13 : s 13 = q 3
  s16 : s 16 = q 4
  s19 : s 19 = .lit (.int .i64 x.next)
  s21 : s 21 = .lit (.bool x.down)
  R1 : R 1 = some (g1, b1, .node (.agg [136, 2, 2, 1, 1, 1, 1]) q)
  R2 : R 2 = some (g2, b2, Z2)
theorem CqB.keep {x : Md.Engine} {q : Nat → D} {Z2 : D} {g1 b1 g2 b2 n0 N n n' t : Nat} {s : Nat → D} {R R' : Roots} {v : D} (h : CqB x q Z2 g1 b1 g2 b2 n0 N n s R) (ht : t ∉ [1, 2, 7, 10, 13, 16, 19, 21]) (hn : n ≤ n') (h1 : R' 1 = R 1) (h2 : R' 2 = R 2) :
    CqB x q Z2 g1 b1 g2 b2 n0 N n' (upd s t v) R' := by
  have e : ∀ k, k ∈ [1, 2, 7, 10, 13, 16, 19, 21] → upd s t v k = s k := fun k hk => upd_ne _ _ (fun e => ht (e ▸ hk))
  exact ⟨h.N, Nat.le_trans h.nn hn, (e 1 (by decide)).trans h.s1, (e 2 (by decide)).trans h.s2, (e 7 (by decide)).trans h.s7, (e 10 (by decide)).trans h.s10, (e 13 (by decide)).trans h.s13, (e 16 (by decide)).trans h.s16, (e 19 (by decide)).trans h.s19, (e 21 (by decide)).trans h.s21, h1.trans h.R1, h2.trans h.R2⟩
def cqF (r8 r11 r14 r17 : D) (x : Md.Engine) : Nat → D := upd (upd (upd (upd (upd (upd cpZ 1 r8) 2 r11) 3 r14) 4 r17) 5 (.lit (.int .i64 x.next))) 6 (.lit (.bool x.down))
def cqE (r8 r11 r14 r17 : D) (x : Md.Engine) : D := .node (.agg [136, 2, 2, 1, 1, 1, 1]) (cqF r8 r11 r14 r17 x)
structure CqI (x : Md.Engine) (q : Nat → D) (Z2 : D) (g1 b1 g2 b2 n0 k : Nat) (z : Bool) (r8 r11 r14 r17 : D) (g3 b3 : Nat) (L : Nat → List Nat) (N n : Nat) (s : Nat → D) (R : Roots) : Prop where
  base : CqB x q Z2 g1 b1 g2 b2 n0 N n s R
  sep : Sep n0 n L
  e8 : CpPart 8 (IsPool · x.pool) k 1 r8 n0 n L 0 s
  e11 : CpPart 11 (IsLog · x.log) k 2 r11 n0 n L 1 s
  e14 : CpPart 14 (IsL 3 IsLive · x.txs) k 3 r14 n0 n L 2 s
  e17 : CpPart 17 (IsL 2 IsHold · x.holds) k 4 r17 n0 n L 3 s
  e22 : 5 ≤ k → s 22 = cqE r8 r11 r14 r17 x
  e3 : z = true → s 3 = .ptr 3 g3 0 [] ∧ R 3 = some (g3, b3, if 6 ≤ k then cqE r8 r11 r14 r17 x else .node (.agg [136, 2, 2, 1, 1, 1, 1]) cpZ)
theorem cq_fin {G F : Nat → D} {x : Md.Engine} {r8 r11 r14 r17 : D} {n0 n n' n1 : Nat} {L : Nat → List Nat} (e0 : G 0 = .node (.arr 8 17) F) (e1 : G 1 = r8) (e2 : G 2 = r11) (e3 : G 3 = r14) (e4 : G 4 = r17) (e5 : G 5 = .lit (.int .i64 x.next)) (e6 : G 6 = .lit (.bool x.down)) (hG : ∀ i, 7 ≤ i → (G i).still)
    (hdl : x.disk.length = 8) (hF : Fill IsPage 17 n n' x.disk 8 8 F) (c2 : IsPool r8 x.pool) (c3 : Own n0 n r8) (c4 : ∀ b ∈ r8.tl, b ∈ L 0) (d2 : IsLog r11 x.log) (d3 : Own n0 n r11) (d4 : ∀ b ∈ r11.tl, b ∈ L 1)
    (l2 : IsL 3 IsLive r14 x.txs) (l3 : Own n0 n r14) (l4 : ∀ b ∈ r14.tl, b ∈ L 2) (m2 : IsL 2 IsHold r17 x.holds) (m3 : Own n0 n r17) (m4 : ∀ b ∈ r17.tl, b ∈ L 3) (hsep : Sep n0 n L) (hn0 : n0 ≤ n) (hn : n ≤ n') (hn1 : n' ≤ n1) :
    IsEngine (.node (.agg [136, 2, 2, 1, 1, 1, 1]) G) x ∧ Own n0 n1 (.node (.agg [136, 2, 2, 1, 1, 1, 1]) G) := by
  have s7 := shp_pool _ _ c2
  have s10 := shp_log _ _ d2
  have hst : ∀ i, (G i).still := fun i => by
    rcases Nat.lt_or_ge i 7 with h | h
    · match i, h with
      | 0, _ => rw [e0]; exact hF.st
      | 1, _ => rw [e1]; exact s7.2.2.2
      | 2, _ => rw [e2]; exact s10.2.2.2
      | 3, _ => rw [e3]; exact l2.still
      | 4, _ => rw [e4]; exact m2.still
      | 5, _ => rw [e5]; trivial
      | 6, _ => rw [e6]; trivial
    · exact hG i h
  have o0 : Own n n' (.node (.arr 8 17) F) := own_node hF.own
  have T0 : ∀ t ∈ (G 0).tl, n ≤ t ∧ t < n' := fun t ht => by rw [e0] at ht; exact o0.rg t ht
  have T5 : ∀ t, t ∉ (G 5).tl := fun t ht => by rw [e5] at ht; simp [D.tl] at ht
  have T6 : ∀ t, t ∉ (G 6).tl := fun t ht => by rw [e6] at ht; simp [D.tl] at ht
  have TL : ∀ i, 1 ≤ i → i < 7 → ∀ t ∈ (G i).tl, t ∈ L (i - 1) := fun i h1 h2 t ht => by
    match i, h2, h1 with
    | 1, _, _ => rw [e1] at ht; exact c4 t ht
    | 2, _, _ => rw [e2] at ht; exact d4 t ht
    | 3, _, _ => rw [e3] at ht; exact l4 t ht
    | 4, _, _ => rw [e4] at ht; exact m4 t ht
    | 5, _, _ => exact absurd ht (T5 t)
    | 6, _, _ => exact absurd ht (T6 t)
  refine ⟨⟨G, rfl, hst, by rw [e0]; exact ⟨hdl, F, rfl, hF.st, fun i hi => hF.ok i hi (by omega)⟩, by rw [e1]; exact c2, by rw [e2]; exact d2, by rw [e3]; exact l2, by rw [e4]; exact m2, e5, e6⟩, own_node ⟨fun i hi t ht => ?_, fun i hi => ?_, fun i j hij hj t ht ht' => ?_, fun i hi => ?_⟩⟩
  · rcases Nat.eq_zero_or_pos i with h | h
    · subst h; have := T0 t ht; omega
    · have := hsep.1 _ t (TL i h hi t ht); omega
  · match i, hi with
    | 0, _ => rw [e0]; exact o0.nd
    | 1, _ => rw [e1]; exact c3.nd
    | 2, _ => rw [e2]; exact d3.nd
    | 3, _ => rw [e3]; exact l3.nd
    | 4, _ => rw [e4]; exact m3.nd
    | 5, _ => rw [e5]; exact List.nodup_nil
    | 6, _ => rw [e6]; exact List.nodup_nil
  · have h1 := TL j (by omega) hj t ht'
    rcases Nat.eq_zero_or_pos i with h | h
    · subst h
      have := T0 t ht
      have := hsep.1 _ t h1
      omega
    · exact hsep.2 (i - 1) (j - 1) t (by omega) (TL i h (by have : j < 7 := hj; omega) t ht) h1
  · match i, hi with
    | 0, _ => rw [e0]; exact o0.wh
    | 1, _ => rw [e1]; exact c3.wh
    | 2, _ => rw [e2]; exact d3.wh
    | 3, _ => rw [e3]; exact l3.wh
    | 4, _ => rw [e4]; exact m3.wh
    | 5, _ => rw [e5]; trivial
    | 6, _ => rw [e6]; trivial
theorem cloneEngine_p (d : D) (x : Md.Engine) (h : IsEngine d x) (hs : Md.szEngine x ≤ 1048576) : PCall Tryz.prog 56 [d] fun n0 n1 r => IsEngine r x ∧ Own n0 n1 r := by
  have zp := shp_engine _ _ h
  obtain ⟨q, rfl, hq, q0, q1, q2, q3, q4, q5, q6⟩ := id h
  have q5 : q 5 = _ := q5
  have q6 : q 6 = _ := q6
  have zl := shp_log _ _ q2
  have zo := shp_pool _ _ q1
  have hpl : Md.szPool x.pool ≤ 1048576 := by unfold Md.szEngine at hs; omega
  have htl : x.txs.length ≤ 1048576 := by unfold Md.szEngine at hs; omega
  have hhl : x.holds.length ≤ 1048576 := by unfold Md.szEngine at hs; omega
  have hll : Md.szLog x.log ≤ 1048576 := by unfold Md.szEngine at hs; omega
  refine pcall_intro_t Tryz.func56 rfl (by decide) rfl (by decide) (by rw [Tryz.ntmps56]; simp) fun w0 M n0 hW hT => ivc_sound ?_; simp -dsimp only [Tryz.f56, go_sem, zp.1, zp.2.1, zp.2.2.1]
  intro g1 b1 hb1 g2 b2 hb2
  refine iwp_dag [0, 1, 3, 4, 6, 7, 9, 10, 12, 13, 14, 15] [1] cqVs cqArr cqNx (0, false) (6, true) (fun v st => ∃ r8 r11 r14 r17 g3 b3 L, CqI x q (zd Tryz.prog 59) g1 b1 g2 b2 n0 v.1 v.2 r8 r11 r14 r17 g3 b3 L st.N st.n st.s st.R) rfl (by decide +kernel) (by decide +kernel) ?_ ?_ ?_
  · simp -dsimp only [go_sem, zo.1, zo.2.1, zo.2.2.1, zl.1, zl.2.1, zl.2.2.1, q3.size, q3.isNode, q3.plain, q4.size, q4.isNode, q4.plain, q5, q6]
    refine ⟨.nil, .nil, .nil, .nil, 0, 0, fun _ => [], ?_⟩
    exact ⟨⟨rfl, by omega, by simp -dsimp only [go_sem], by simp -dsimp only [go_sem], by simp -dsimp only [go_sem], by simp -dsimp only [go_sem], by simp -dsimp only [go_sem], by simp -dsimp only [go_sem], by simp -dsimp only [go_sem], by simp -dsimp only [go_sem], by simp -dsimp only [go_sem], by simp -dsimp only [go_sem]⟩, Sep.nil _ _, fun h => absurd h (by decide), fun h => absurd h (by decide), fun h => absurd h (by decide), fun h => absurd h (by decide), fun h => absurd h (by decide), fun h => (by cases h)⟩
  · rintro ⟨k, z⟩ ⟨N, n, s, R⟩ hv ⟨r8, r11, r14, r17, g3, b3, L, hI⟩ i v' hm
    have hok := cqOk_of hv
    simp only [Bool.or_eq_true, decide_eq_true_eq] at hok
    simp only [cqNx, List.mem_append, List.mem_ite_nil_right, List.mem_singleton, Prod.mk.injEq] at hm
    rcases hm with (((((⟨rfl, rfl, rfl⟩ | ⟨rfl, rfl, rfl⟩) | ⟨rfl, rfl, rfl⟩) | ⟨rfl, rfl, rfl⟩) | ⟨rfl, rfl, rfl⟩) | ⟨⟨rfl, rfl⟩, rfl, rfl⟩) | ⟨rfl, rfl, rfl⟩
    all_goals
      dsimp only at hI
      obtain rfl := hI.base.N
      have hn0 := hI.base.nn
    · simp -dsimp only [go_sem, hI.base.s7, zo.1, zo.2.1, zo.2.2.1]
      refine xcall_p (clonePool_p _ _ q1 hpl) (by simp -dsimp only [go_sem, hI.base.s7, rl_still, zo.2.2.2]) fun m0 m1 r hm0 hm1 hr => ?_
      have hr := hr.out
      have hm0' : n ≤ m0 := hm0
      refine ⟨hr.2.tags, ?_⟩
      simp -dsimp only [go_sem, hI.base.R1]
      have hnm : n ≤ m1 := by omega
      exact ⟨r, r11, r14, r17, g3, b3, putL L 0 r.tl, hI.base.keep (by decide) hnm rfl rfl, hI.sep.put 0 hnm hn0 fun t ht => ⟨.inl (by have := hr.2.rg t ht; omega), (hr.2.rg t ht).2⟩,
        fun _ => ⟨upd_same _ _ _, hr.1, hr.2.mono (by omega) (Nat.le_refl _), fun b hb => by rw [putL_same]; exact hb⟩, fun h => absurd h (by decide), fun h => absurd h (by decide), fun h => absurd h (by decide), fun h => absurd h (by decide), fun hz => by rw [upd_ne _ _ (by decide)]; exact hI.e3 hz⟩
    · simp -dsimp only [go_sem, hI.base.s10, zl.1, zl.2.1, zl.2.2.1]
      refine xcall_p (cloneLog_p _ _ q2 hll) (by simp -dsimp only [go_sem, hI.base.s10, rl_still, zl.2.2.2]) fun m0 m1 r hm0 hm1 hr => ?_
      have hr := hr.out
      have hm0' : n ≤ m0 := hm0
      refine ⟨hr.2.tags, ?_⟩
      simp -dsimp only [go_sem, hI.base.R1]
      have hnm : n ≤ m1 := by omega
      exact ⟨r8, r, r14, r17, g3, b3, putL L 1 r.tl, hI.base.keep (by decide) hnm rfl rfl, hI.sep.put 1 hnm hn0 fun t ht => ⟨.inl (by have := hr.2.rg t ht; omega), (hr.2.rg t ht).2⟩,
        (hI.e8.up (by decide) 2).keep (by decide) hnm (putL_ne _ _ (by decide)), fun _ => ⟨upd_same _ _ _, hr.1, hr.2.mono (by omega) (Nat.le_refl _), fun b hb => by rw [putL_same]; exact hb⟩, fun h => absurd h (by decide), fun h => absurd h (by decide), fun h => absurd h (by decide), fun hz => by rw [upd_ne _ _ (by decide)]; exact hI.e3 hz⟩
    · simp -dsimp only [go_sem, hI.base.s13, q3.size, q3.isNode, q3.plain]
      refine xcall_p (cloneLives_p _ _ q3 htl) (by simp -dsimp only [go_sem, hI.base.s13, rl_still, q3.still]) fun m0 m1 r hm0 hm1 hr => ?_
      have hm0' : n ≤ m0 := hm0
      refine ⟨hr.2.tags, ?_⟩
      simp -dsimp only [go_sem, hI.base.R1]
      have hnm : n ≤ m1 := by omega
      exact ⟨r8, r11, r, r17, g3, b3, putL L 2 r.tl, hI.base.keep (by decide) hnm rfl rfl, hI.sep.put 2 hnm hn0 fun t ht => ⟨.inl (by have := hr.2.rg t ht; omega), (hr.2.rg t ht).2⟩,
        (hI.e8.up (by decide) 3).keep (by decide) hnm (putL_ne _ _ (by decide)), (hI.e11.up (by decide) 3).keep (by decide) hnm (putL_ne _ _ (by decide)), fun _ => ⟨upd_same _ _ _, hr.1, hr.2.mono (by omega) (Nat.le_refl _), fun b hb => by rw [putL_same]; exact hb⟩, fun h => absurd h (by decide), fun h => absurd h (by decide), fun hz => by rw [upd_ne _ _ (by decide)]; exact hI.e3 hz⟩
    · simp -dsimp only [go_sem, hI.base.s16, q4.size, q4.isNode, q4.plain]
      refine xcall_p (cloneHolds_p _ _ q4 hhl) (by simp -dsimp only [go_sem, hI.base.s16, rl_still, q4.still]) fun m0 m1 r hm0 hm1 hr => ?_
      have hm0' : n ≤ m0 := hm0
      refine ⟨hr.2.tags, ?_⟩
      simp -dsimp only [go_sem, hI.base.R1]
      have hnm : n ≤ m1 := by omega
      exact ⟨r8, r11, r14, r, g3, b3, putL L 3 r.tl, hI.base.keep (by decide) hnm rfl rfl, hI.sep.put 3 hnm hn0 fun t ht => ⟨.inl (by have := hr.2.rg t ht; omega), (hr.2.rg t ht).2⟩,
        (hI.e8.up (by decide) 4).keep (by decide) hnm (putL_ne _ _ (by decide)), (hI.e11.up (by decide) 4).keep (by decide) hnm (putL_ne _ _ (by decide)), (hI.e14.up (by decide) 4).keep (by decide) hnm (putL_ne _ _ (by decide)), fun _ => ⟨upd_same _ _ _, hr.1, hr.2.mono (by omega) (Nat.le_refl _), fun b hb => by rw [putL_same]; exact hb⟩, fun h => absurd h (by decide), fun hz => by rw [upd_ne _ _ (by decide)]; exact hI.e3 hz⟩
    · obtain ⟨c1, c2, c3, c4⟩ := hI.e8 (by decide)
      obtain ⟨d1, d2, d3, d4⟩ := hI.e11 (by decide)
      obtain ⟨e1, e2, e3, e4⟩ := hI.e14 (by decide)
      obtain ⟨h1, h2, h3, h4⟩ := hI.e17 (by decide)
      have y7 := shp_pool _ _ c2
      have y10 := shp_log _ _ d2
      simp -dsimp only [go_sem, c1, d1, e1, h1, hI.base.s19, hI.base.s21, y7.1, y7.2.1, y7.2.2.1, y10.1, y10.2.1, y10.2.2.1, e2.size, e2.isNode, e2.plain, h2.size, h2.isNode, h2.plain]
      exact ⟨hI.base.R1, r8, r11, r14, r17, g3, b3, L, hI.base.keep (by decide) (Nat.le_refl _) rfl rfl, hI.sep, (hI.e8.up (by decide) 5).keep (by decide) (Nat.le_refl _) rfl, (hI.e11.up (by decide) 5).keep (by decide) (Nat.le_refl _) rfl, (hI.e14.up (by decide) 5).keep (by decide) (Nat.le_refl _) rfl, (hI.e17.up (by decide) 5).keep (by decide) (Nat.le_refl _) rfl, fun _ => upd_same _ _ _,
        fun hz => by
          have := hI.e3 hz
          rw [if_neg (by decide)] at this
          rw [upd_ne _ _ (by decide), if_neg (by decide)]; exact this⟩
    · obtain ⟨c1, c2⟩ := hI.e3 rfl
      rw [if_neg (by decide)] at c2
      have c3 := hI.e22 (by decide)
      simp -dsimp only [go_sem, c1, c2, c3, rdR_of c2, wrR_of c2]
      refine ⟨rfl, trivial, hI.base.R1, ?_⟩
      exact ⟨r8, r11, r14, r17, g3, b3, L, ⟨hI.base.N, hI.base.nn, hI.base.s1, hI.base.s2, hI.base.s7, hI.base.s10, hI.base.s13, hI.base.s16, hI.base.s19, hI.base.s21, (upd_ne _ _ (by decide)).trans hI.base.R1, (upd_ne _ _ (by decide)).trans hI.base.R2⟩, hI.sep, hI.e8.up (by decide) 6, hI.e11.up (by decide) 6, hI.e14.up (by decide) 6, hI.e17.up (by decide) 6, fun _ => c3, fun hz => ⟨c1, by rw [upd_same, if_pos (by decide)]⟩⟩
    · simp -dsimp only [go_sem]
      intro g b' hb'
      have hnm : n ≤ b' + 1 := by omega
      have hk : k < 6 := by
        rcases hok with h | h
        · cases h
        · exact h
      exact ⟨hI.base.R1, r8, r11, r14, r17, g, b', L, hI.base.keep (by decide) hnm (upd_ne _ _ (by decide)) (upd_ne _ _ (by decide)), hI.sep.mono hnm, hI.e8.keep (by decide) hnm rfl, hI.e11.keep (by decide) hnm rfl, hI.e14.keep (by decide) hnm rfl, hI.e17.keep (by decide) hnm rfl, fun h => by rw [upd_ne _ _ (by decide)]; exact hI.e22 h,
        fun _ => ⟨upd_same _ _ _, by rw [upd_same, if_neg (by omega)]; rfl⟩⟩
  · rintro ⟨N, n, s, R⟩ ⟨r8, r11, r14, r17, g3, b3, L, hI⟩
    dsimp only at hI
    obtain rfl := hI.base.N
    obtain ⟨c1, c2, c3, c4⟩ := hI.e8 (by decide)
    obtain ⟨d1, d2, d3, d4⟩ := hI.e11 (by decide)
    obtain ⟨e1, e2, e3, e4⟩ := hI.e14 (by decide)
    obtain ⟨h1, h2, h3, h4⟩ := hI.e17 (by decide)
    obtain ⟨k1, k2⟩ := hI.e3 rfl
    rw [if_pos (by decide)] at k2
    have s1 := hI.base.s1
    have s2 := hI.base.s2
    have R1 := hI.base.R1
    have R2 := hI.base.R2
    have hsep := hI.sep
    have hn0 := hI.base.nn
    obtain ⟨hdl, dg, hdg, hdgs, hdk⟩ := q0
    simp -dsimp only [go_sem, s1, R1, rdR_of R1, hdg]
    obtain ⟨s0, hs0⟩ : ∃ s0 : Nat → D, s0 = upd (upd (upd s 23 (.ptr 1 g1 0 [0])) 24 (.node (.arr 8 17) dg)) 25 (.lit (.int .i64 0)) := ⟨_, rfl⟩
    obtain ⟨RC, hRC⟩ : ∃ RC : Roots, RC = upd (upd (fun _ => none) 1 (some (g1, b1, .node (.agg [136, 2, 2, 1, 1, 1, 1]) q))) 2 (some (g2, b2, zd Tryz.prog 59)) := ⟨_, rfl⟩
    rw [← hs0]
    refine iwp_forget ⟨36, n, s0, upd RC 3 (some (g3, b3, .node (.agg [136, 2, 2, 1, 1, 1, 1]) (upd (cqF r8 r11 r14 r17 x) 0 (.node (.arr 8 17) fun _ => cpPg))))⟩ ⟨rfl, Nat.le_refl _, fun t => .inl rfl, fun l => ?_⟩ ?_
    · subst hRC
      have k2 : R 3 = some (g3, b3, .node (.agg [136, 2, 2, 1, 1, 1, 1]) (upd (cqF r8 r11 r14 r17 x) 0 (.node (.arr 8 17) fun _ => cpPg))) := k2.trans (congrArg (fun E => some (g3, b3, D.node (.agg [136, 2, 2, 1, 1, 1, 1]) E)) (upd_id (s := cqF r8 r11 r14 r17 x) (i := 0) (d := .node (.arr 8 17) fun _ => cpPg) rfl).symm)
      dsimp only
      by_cases l3 : l = 3
      · subst l3; exact .inl (by rw [upd_same]; exact k2.symm)
      by_cases l2 : l = 2
      · subst l2; exact .inl (by rw [upd_ne _ _ (by decide), upd_same]; exact R2.symm)
      by_cases l1 : l = 1
      · subst l1; exact .inl (by rw [upd_ne _ _ (by decide), upd_ne _ _ (by decide), upd_same]; exact R1.symm)
      exact .inr (by rw [upd_ne _ _ l3, upd_ne _ _ l2, upd_ne _ _ l1])
    refine iwp_forR 8 [2, 3, 24] (fun i n' s R' => s 25 = .lit (.int .i64 i) ∧ ∃ F, R' = upd RC 3 (some (g3, b3, .node (.agg [136, 2, 2, 1, 1, 1, 1]) (upd (cqF r8 r11 r14 r17 x) 0 (.node (.arr 8 17) F)))) ∧ Fill IsPage 17 n n' x.disk 8 i F) 0 (Nat.zero_le _) ⟨by rw [hs0]; simp -dsimp only [go_sem]; rfl, fun _ => cpPg, rfl, Fill.start (fun _ => cpPg_still) fun _ _ => ⟨trivial, rfl⟩⟩ ?_
    rintro i n' s' R' hi hn hk ⟨h4', F, rfl, hF⟩
    refine ivc_sound ?_
    rw [hs0] at hk
    simp -dsimp only [go_sem, s1, s2, k1] at hk
    by_cases hlt : i < 8
    · have hc : (i : Int) < 8 := by omega
      have hid : i < x.disk.length := by omega
      have hpg := hdk i hid
      have pp := shp_page _ _ hpg
      have hw := i64_succ (i := i) (by omega)
      have hps : Md.szPage x.disk[i] ≤ 1048576 := by
        have := Md.sumBy_mem Md.szPage x.disk x.disk[i] (List.getElem_mem hid)
        unfold Md.szEngine at hs; omega
      rw [hRC]
      simp -dsimp only [go_sem, hk, h4', hc, hlt, hdg, pp.1, pp.2.1, pp.2.2.1]
      intro g5 b5 hb5
      refine xcall_p (clonePage_p _ _ hpg hps) (by simp -dsimp only [go_sem, rl_still, pp.2.2.2]) fun m0 m1 r hm0 hm1 hr => ?_
      have rq := shp_page _ _ hr.1
      refine ⟨hr.2.tags, ?_⟩
      simp -dsimp only [go_sem, hk, h4', hc, hlt, rq.1, rq.2.1, rq.2.2.1, hw]
      exact ⟨(hF.sh i hlt).1, (hF.sh i hlt).2, into_r1 rfl (by omega) (by rw [hs0]; simp -dsimp only [go_sem, hk, s2, k1]) ⟨by simp -dsimp only [go_sem], _, rfl, hF.step shp_page hid hr.1 hr.2 (by omega) (by omega) (by omega) (by omega)⟩⟩
    · have hc : ¬ (i : Int) < 8 := by omega
      rw [hRC]
      simp -dsimp only [go_sem, hk, h4', hc, hlt]
      obtain rfl : i = 8 := by omega
      intro n1 hn1 hfc
      have y7 := shp_pool _ _ c2
      have y10 := shp_log _ _ d2
      rw [rl_node]
      refine cq_fin (F := F) (L := L) (n := n) (n' := n') ?_ ?_ ?_ ?_ ?_ ?_ ?_ ?_ hdl hF c2 c3 c4 d2 d3 d4 e2 e3 e4 h2 h3 h4 hsep hn0 hn hn1
      · rw [upd_same]; exact rl_still (d := .node (.arr 8 17) F) hF.st
      · show rl 8 _ r8 = r8
        exact rl_still y7.2.2.2
      · show rl 8 _ r11 = r11
        exact rl_still y10.2.2.2
      · show rl 8 _ r14 = r14
        exact rl_still e2.still
      · show rl 8 _ r17 = r17
        exact rl_still h2.still
      · exact rl_lit _ _ _
      · exact rl_lit _ _ _
      · intro i hi
        have hz : upd (cqF r8 r11 r14 r17 x) 0 (.node (.arr 8 17) F) i = .any := by
          unfold cqF
          rw [upd_ne _ _ (by omega), upd_ne _ _ (by omega), upd_ne _ _ (by omega), upd_ne _ _ (by omega), upd_ne _ _ (by omega), upd_ne _ _ (by omega), upd_ne _ _ (by omega)]
          exact cpZ_ge hi
        rw [hz, rl_still (d := .any) trivial]; trivial
def codeOf (x : Md.Engine) (told : Bool) : Int := if !engineOk x || x.down || !told then 1 else if (3800 : Int) < x.log.recs.length then 4 else 0
theorem codeOf_form {x : Md.Engine} {told : Bool} (h : (!engineOk x || x.down || !told) = true) : codeOf x told = 1 := if_pos h
theorem codeOf_rest {x : Md.Engine} {told : Bool} (h : (!engineOk x || x.down || !told) = false) : codeOf x told = if (3800 : Int) < x.log.recs.length then 4 else 0 := if_neg (by simp [h])
theorem l7Code_p (d : D) (x : Md.Engine) (h : IsEngine d x) (hs : Md.szEngine x ≤ 1048576) : PCall Tryz.prog 44 [d] fun _ _ r => r = .lit (.int .i64 (codeOf x true)) := by
  have zp := shp_engine _ _ h
  have hd := h
  obtain ⟨q, rfl, hq, q0, q1, q2, q3, q4, q5, q6⟩ := id h
  have q6 : q 6 = _ := q6
  obtain ⟨ql, hql, hqls, ql0, ql1⟩ := id q2
  refine pcall_intro_v Tryz.func44 rfl (by decide) rfl (by decide) (by rw [Tryz.ntmps44]; simp) fun w0 M n0 => ivc_sound ?_; simp -dsimp only [Tryz.f44, go_sem, zp.1, zp.2.1, zp.2.2.1]
  intro g1 b1 hb1
  refine xcall_v (specEngineOk_p _ x hd hs) (by simp -dsimp only [go_sem, rl_still, zp.2.2.2]) (fun _ => trivial) fun n1 hn1 => ?_
  rcases Bool.eq_false_or_eq_true (engineOk x) with c1 | c1
  rotate_left
  · simp -dsimp only [go_sem, c1]
    rw [codeOf_form (by rw [c1]; rfl)]
  rcases Bool.eq_false_or_eq_true x.down with c2 | c2
  · simp -dsimp only [go_sem, c1, q6, c2]
    rw [codeOf_form (by rw [c1, c2]; rfl)]
  have hc := codeOf_rest (x := x) (told := true) (by rw [c1, c2]; rfl)
  by_cases c3 : (3800 : Int) < x.log.recs.length
  · simp -dsimp only [go_sem, c1, q6, c2, hql, ql0.size, ql0.isNode, ql0.plain, ql0.lenT, c3]
    rw [hc, if_pos c3]
  · simp -dsimp only [go_sem, c1, q6, c2, hql, ql0.size, ql0.isNode, ql0.plain, ql0.lenT, c3]
    rw [hc, if_neg c3]
theorem codeOf_p (d : D) (x : Md.Engine) (told : Bool) (h : IsEngine d x) (hs : Md.szEngine x ≤ 1048576) (hd : d.data) : PCall Tryz.prog 96 [d, .lit (.bool told)] fun _ _ r => r = .lit (.int .i64 (codeOf x told)) := by
  have zp := shp_engine _ _ h
  have hd0 := h
  obtain ⟨q, rfl, hq, q0, q1, q2, q3, q4, q5, q6⟩ := id h
  have q6 : q 6 = _ := q6
  obtain ⟨ql, hql, hqls, ql0, ql1⟩ := id q2
  refine pcall_intro_v Tryz.func96 rfl (by decide) rfl (by decide) (by rw [Tryz.ntmps96]; simp) fun w0 M n0 => ivc_sound ?_; simp -dsimp only [Tryz.f96, go_sem, zp.1, zp.2.1, zp.2.2.1]
  intro g1 b1 hb1
  refine xcall_v (engineOk_p _ x hd0 hs hd) (by simp -dsimp only [go_sem, rl_still, zp.2.2.2]) (fun _ => trivial) fun n1 hn1 => ?_
  rcases Bool.eq_false_or_eq_true (engineOk x) with c1 | c1
  rotate_left
  · simp -dsimp only [go_sem, c1]
    rw [codeOf_form (by rw [c1]; rfl)]
  rcases Bool.eq_false_or_eq_true x.down with c2 | c2
  · simp -dsimp only [go_sem, c1, q6, c2]
    rw [codeOf_form (by rw [c1, c2]; rfl)]
  cases told with
  | false =>
    simp -dsimp only [go_sem, c1, q6, c2]
    rw [codeOf_form (by simp)]
  | true =>
    have hc := codeOf_rest (x := x) (told := true) (by rw [c1, c2]; rfl)
    by_cases c3 : (3800 : Int) < x.log.recs.length
    · simp -dsimp only [go_sem, c1, q6, c2, hql, ql0.size, ql0.isNode, ql0.plain, ql0.lenT, c3]
      rw [hc, if_pos c3]
    · simp -dsimp only [go_sem, c1, q6, c2, hql, ql0.size, ql0.isNode, ql0.plain, ql0.lenT, c3]
      rw [hc, if_neg c3]
theorem cEngine_le (x : Md.Engine) : Md.cEngine x ≤ 10 * Md.szEngine x := by
  have h1 := cPool_le x.pool
  have h2 := cLog_le x.log
  unfold Md.cEngine Md.szEngine
  omega
end Go.Proofs.YtncinhlaabdlaaaGreat.IM
end
