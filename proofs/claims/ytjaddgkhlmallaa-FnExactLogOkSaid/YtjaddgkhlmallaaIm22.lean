/- How calls are met, in the form that the rewriting leaves. Nothing of a program is in it. -/
import Derived.Test.YtjaddgkhlmallaaIm21
namespace Go.Proofs.Ytjaddgkhlmallaa.IM
open Go Go.RowKit
set_option linter.unusedVariables false

section
variable {P : Program} {f m : Nat} {cs : Nat → D} {xs : List Operand} {dst : Option Tmp} {ev : Operand → D} {R : Roots} {n : Nat} {k : Roots → Nat → D → Prop} {Mk : Prop}

/-- a call that reads, and whose answer is known -/
theorem xcall_v {args : List D} {v : D} (h : PCall P f args fun _ _ r => r = v) (hargs : ((xs.map fun x => rl 9 (labView R) (ev x)) ++ (List.range m).map fun i => rl 9 (labView R) (cs i)) = args)
    (hv : ∀ p, v.tags p) (hk : ∀ n1, n ≤ n1 → k R n1 v) : XCallT P f m cs xs dst ev R n k Mk := by
  refine .inl (.inr (hargs ▸ h.mono fun n0 n1 r h01 hr hn => ?_))
  subst hr
  exact ⟨hv _, hk n1 (Nat.le_trans hn h01)⟩

/-- a call that reads -/
theorem xcall_p {args : List D} {Q : Nat → Nat → D → Prop} (h : PCall P f args Q) (hargs : ((xs.map fun x => rl 9 (labView R) (ev x)) ++ (List.range m).map fun i => rl 9 (labView R) (cs i)) = args)
    (hk : ∀ n0 n1 r, n ≤ n0 → n0 ≤ n1 → Q n0 n1 r → r.tags (n0 ≤ ·) ∧ k R n1 r) : XCallT P f m cs xs dst ev R n k Mk :=
  .inl (.inr (hargs ▸ h.mono fun n0 n1 r h01 hr hn => hk n0 n1 r hn h01 hr))

end

theorem iwp_for {P : Program} {w0 : World} {M : Fr} {Q : Exit → St → Prop} {st : St} {c : Code} (n : Nat) (I : Nat → St → Prop) (i0 : Nat) (hi : i0 ≤ n) (h0 : I i0 st)
    (hr : ∀ i st, i ≤ n → I i st → IWp P w0 M c (qthen (fun st' => i < n ∧ Into w0 M st' (I (i + 1))) Q) st) : IWp P w0 M (.loop c) Q st := by
  refine iwp_loop (fun m st => ∃ i, i ≤ n ∧ m = n - i ∧ I i st) (m := n - i0) ⟨i0, hi, rfl, h0⟩ ?_
  rintro m st ⟨i, hin, rfl, hI⟩
  refine iwp_mono (hr i st hin hI) fun x st' hq => ?_
  cases x with
  | normal =>
    obtain ⟨hlt, hinto⟩ := hq
    refine ⟨n - (i + 1), by omega, fun a w hs => ?_⟩
    obtain ⟨st'', h1, h2⟩ := hinto a w hs
    exact ⟨st'', ⟨i + 1, hlt, rfl, h1⟩, h2⟩
  | _ => exact hq

/-- the slots K are as they were -/
def keepL (s s0 : Nat → D) : List Nat → Prop
  | [] => True
  | t :: K => s t = s0 t ∧ keepL s s0 K
@[go_sem] theorem keepL_nil (s s0 : Nat → D) : keepL s s0 [] = True := rfl
@[go_sem] theorem keepL_cons (s s0 : Nat → D) (t : Nat) (K : List Nat) : keepL s s0 (t :: K) = (s t = s0 t ∧ keepL s s0 K) := rfl
theorem keepL_refl (s : Nat → D) (K : List Nat) : keepL s s K := by
  induction K with
  | nil => trivial
  | cons t K ih => exact ⟨rfl, ih⟩

/-- a round's end, where the roots change, too -/
def RoundR (N n : Nat) (s0 : Nat → D) (K : List Nat) (J : Nat → (Nat → D) → Roots → Prop) (st : St) : Prop := ∃ n' s R, n ≤ n' ∧ st = ⟨N, n', s, R⟩ ∧ keepL s s0 K ∧ J n' s R

theorem into_r {w0 : World} {M : Fr} {N n n' : Nat} {R : Roots} {s0 s : Nat → D} {K : List Nat} {J : Nat → (Nat → D) → Roots → Prop} (hn : n ≤ n') (hk : keepL s s0 K) (hJ : J n' s R) : Into w0 M ⟨N, n', s, R⟩ (RoundR N n s0 K J) :=
  Into.of ⟨n', s, R, hn, rfl, hk, hJ⟩

/-- a loop that counts up and changes the roots -/
theorem iwp_forR {P : Program} {w0 : World} {M : Fr} {Q : Exit → St → Prop} {c : Code} {N n : Nat} {R0 : Roots} {s0 : Nat → D} (len : Nat) (K : List Nat) (J : Nat → Nat → (Nat → D) → Roots → Prop) (i0 : Nat) (hi : i0 ≤ len) (h0 : J i0 n s0 R0)
    (hr : ∀ i n' s R, i ≤ len → n ≤ n' → keepL s s0 K → J i n' s R → IWp P w0 M c (qthen (fun st' => i < len ∧ Into w0 M st' (RoundR N n s0 K (J (i + 1)))) Q) ⟨N, n', s, R⟩) : IWp P w0 M (.loop c) Q ⟨N, n, s0, R0⟩ := by
  refine iwp_for len (fun i st => RoundR N n s0 K (J i) st) i0 hi ⟨n, s0, R0, Nat.le_refl _, rfl, keepL_refl _ _, h0⟩ ?_
  rintro i st hi ⟨n', s, R, hn, rfl, hk, hJ⟩
  exact hr i n' s R hi hn hk hJ

/-- a round's end: the slots K are as they were -/
def RoundK (N n : Nat) (R : Roots) (s0 : Nat → D) (K : List Nat) (J : (Nat → D) → Prop) (st : St) : Prop := ∃ n' s, n ≤ n' ∧ st = ⟨N, n', s, R⟩ ∧ keepL s s0 K ∧ J s

theorem into_k {w0 : World} {M : Fr} {N n n' : Nat} {R : Roots} {s0 s : Nat → D} {K : List Nat} {J : (Nat → D) → Prop} (hn : n ≤ n') (hk : keepL s s0 K) (hJ : J s) : Into w0 M ⟨N, n', s, R⟩ (RoundK N n R s0 K J) :=
  Into.of ⟨n', s, hn, rfl, hk, hJ⟩

/-- a loop that counts up and leaves the roots alone -/
theorem iwp_forK {P : Program} {w0 : World} {M : Fr} {Q : Exit → St → Prop} {c : Code} {N n : Nat} {R : Roots} {s0 : Nat → D} (len : Nat) (K : List Nat) (J : Nat → (Nat → D) → Prop) (i0 : Nat) (hi : i0 ≤ len) (h0 : J i0 s0)
    (hr : ∀ i n' s, i ≤ len → n ≤ n' → keepL s s0 K → J i s → IWp P w0 M c (qthen (fun st' => i < len ∧ Into w0 M st' (RoundK N n R s0 K (J (i + 1)))) Q) ⟨N, n', s, R⟩) : IWp P w0 M (.loop c) Q ⟨N, n, s0, R⟩ := by
  refine iwp_for len (fun i st => RoundK N n R s0 K (J i) st) i0 hi ⟨n, s0, Nat.le_refl _, rfl, keepL_refl _ _, h0⟩ ?_
  rintro i st hi ⟨n', s, hn, rfl, hk, hJ⟩
  exact hr i n' s hi hn hk hJ

theorem IsL.sl {α : Type} {sz : Nat} {R : D → α → Prop} {d : D} {xs : List α} (h : IsL sz R d xs) {i : Nat} (hi : i < xs.length) :
    ∃ t zb f, d = .sl t zb xs.length sz f ∧ (∀ i, (f i).still) ∧ ∀ i (h : i < xs.length), R (f i) xs[i] := by
  rcases h with ⟨_, rfl⟩ | ⟨t, zb, f, h1, h2, _, h3⟩
  · exact absurd hi (by simp)
  · exact ⟨t, zb, f, h1, h2, h3⟩

/-- what the elements of a type look like -/
def Shp {α : Type} (R : D → α → Prop) (sz : Nat) (nd : Bool) : Prop := ∀ d x, R d x → d.size = sz ∧ d.isNode = some nd ∧ d.plain ∧ d.still
theorem shp_int : Shp IsInt 1 false := fun d x h => by rw [h]; exact ⟨rfl, rfl, trivial, trivial⟩
theorem shp_byte : Shp IsByte 1 false := fun d x h => by rw [h]; exact ⟨rfl, rfl, trivial, trivial⟩
theorem shp_S {α : Type} {lay : List Nat} {Q : α → (Nat → D) → Prop} {sz : Nat} (h : lay.sum = sz) : Shp (fun d x => IsS lay (Q x) d) sz true := fun d x hx => ⟨by rw [IsS.size hx, h], IsS.isNode hx, IsS.plain hx, IsS.still hx⟩
theorem shp_obj : Shp IsObj 3 true := shp_S rfl
theorem shp_slot : Shp IsSlot 4 true := shp_S rfl
theorem shp_page : Shp IsPage 17 true := shp_S rfl
theorem shp_live : Shp IsLive 3 true := shp_S rfl
theorem shp_rec : Shp IsRec 15 true := shp_S rfl
theorem shp_log : Shp IsLog 2 true := shp_S rfl
theorem shp_seat : Shp IsSeat 20 true := shp_S rfl
theorem shp_pool : Shp IsPool 2 true := shp_S rfl
theorem shp_hold : Shp IsHold 2 true := shp_S rfl
theorem shp_engine : Shp IsEngine 144 true := shp_S rfl

theorem i64_succ {i : Nat} (h : i < 140737488355328) : IntKind.i64.wrap ((i : Int) + 1) = ((i + 1 : Nat) : Int) := by
  rw [IntKind.wrap_i64]
  omega

attribute [go_sem] Int.toNat_natCast Int.natCast_nonneg Int.ofNat_lt Int.ofNat_le

@[go_sem] theorem tags_lit' (v : Value) (p : Nat → Prop) : (D.lit v).tags p = True := rfl

@[go_sem] theorem labView_same (R : Roots) (l g b : Nat) (d : D) : labView (upd R l (some (g, b, d))) l g = .per b d := by simp [labView]
@[go_sem] theorem labView_other (R : Roots) (l l' g : Nat) (x : Option (Nat × Nat × D)) (h : l ≠ l') : labView (upd R l' x) l g = labView R l g := by simp [labView, upd_ne _ _ h]
open Classical in
noncomputable def slV (k : Nat) (F : Relab) (b o i n sz : Nat) (ok ok2 : Prop) : D → D
  | .node (.arr N sz') f => if ok ∧ ok2 ∧ i = 0 ∧ n ≤ N ∧ sz' = sz then .sl b (o == 0) n sz fun i => rl k F (f i) else .any
  | _ => .any
open Classical in
noncomputable def ptV (k : Nat) (F : Relab) (ok : Prop) (d : D) : D := if ok then .cptr (rl k F d) else .any
def wLab : Lab → (Nat → Nat → D) → (Nat → D → D) → D
  | .gone, _, _ => .any
  | .to l g, f, _ => f l g
  | .per b d, _, h => h b d
@[go_sem] theorem wLab_gone (f : Nat → Nat → D) (h : Nat → D → D) : wLab .gone f h = .any := rfl
@[go_sem] theorem wLab_to (l g : Nat) (f : Nat → Nat → D) (h : Nat → D → D) : wLab (.to l g) f h = f l g := rfl
@[go_sem] theorem wLab_per (b : Nat) (d : D) (f : Nat → Nat → D) (h : Nat → D → D) : wLab (.per b d) f h = h b d := rfl
@[go_sem] theorem slV_arr (k : Nat) (F : Relab) (b o i n sz N sz' : Nat) (f : Nat → D) (ok ok2 : Prop) (h : ok ∧ ok2 ∧ i = 0 ∧ n ≤ N ∧ sz' = sz) : slV k F b o i n sz ok ok2 (.node (.arr N sz') f) = .sl b (o == 0) n sz fun i => rl k F (f i) := by
  simp only [slV]; rw [if_pos h]
@[go_sem] theorem ptV_ok (k : Nat) (F : Relab) (ok : Prop) (d : D) (h : ok) : ptV k F ok d = .cptr (rl k F d) := by unfold ptV; rw [if_pos h]
@[go_sem] theorem rl_msl_go (k : Nat) (F : Relab) (l g o : Nat) (p : List Nat) (i n sz : Nat) : rl (k + 1) F (.msl l g o p i n sz) = wLab (F l g) (fun l' g' => .msl l' g' o p i n sz) (fun b d => slV k F b o i n sz (d.inb p) (d.offOf p = o) (d.get p)) := by
  rw [rl_msl]
  cases F l g with
  | per b d =>
    simp only [wLab]
    split
    · rename_i hx; rw [hx]; simp only [slV]; split <;> first | rfl | simp_all
    · rename_i hx
      cases hd : d.get p with
      | node kd f => cases kd with
        | arr N sz' => exact absurd hd (hx _ _ _)
        | agg lay => rfl
      | _ => rfl
  | _ => rfl
@[go_sem] theorem rl_ptr_go (k : Nat) (F : Relab) (l g o : Nat) (p : List Nat) : rl (k + 1) F (.ptr l g o p) = wLab (F l g) (fun l' g' => .ptr l' g' o p) (fun b d => ptV k F (o = 0 ∧ p = []) d) := by
  rw [rl_ptr]
  cases F l g <;> simp [wLab, ptV]

@[go_sem] theorem retOk_cell (P : Program) (st : St) (t T : Nat) : retOk P st (.cell t T) = wRef (st.s t) (fun l g o p => TyOk P T ((st.rd l g).get p) ∧ (st.rd l g).inb p ∧ (st.rd l g).offOf p = o) (fun _ => False) := by
  simp only [retOk, wRef]
  cases st.s t <;> rfl
def rdP (R : Roots) : D → D
  | .ptr l g _ p => (rdR R l g).get p
  | _ => .any
@[go_sem] theorem rdP_ptr (R : Roots) (l g o : Nat) (p : List Nat) : rdP R (.ptr l g o p) = (rdR R l g).get p := rfl
@[go_sem] theorem retD_cell (st : St) (t T : Nat) : retD st (.cell t T) = rdP st.R (st.s t) := by
  simp only [retD, rdP]
  cases st.s t <;> rfl
def stillL : List D → Prop
  | [] => True
  | d :: l => d.still ∧ stillL l
theorem stillL_all {l : List D} : stillL l ↔ ∀ i, (nthD l i).still := by
  induction l with
  | nil => exact ⟨fun _ i => by cases i <;> trivial, fun _ => trivial⟩
  | cons d l ih =>
    constructor
    · rintro ⟨h1, h2⟩ i
      cases i with
      | zero => exact h1
      | succ i => exact ih.1 h2 i
    · intro h; exact ⟨h 0, ih.2 fun i => h (i + 1)⟩
theorem stN {l : List D} (h : stillL l) : ∀ i, (nthD l i).still := stillL_all.1 h
@[go_sem] theorem stillL_nil : stillL [] = True := rfl
@[go_sem] theorem stillL_cons (d : D) (l : List D) : stillL (d :: l) = (d.still ∧ stillL l) := rfl
@[go_sem] theorem still_lit (v : Value) : (D.lit v).still = True := rfl
@[go_sem] theorem still_nil : D.nil.still = True := rfl
@[go_sem] theorem still_any : D.any.still = True := rfl
@[go_sem] theorem still_nodeN (k : Kd) (l : List D) : (D.node k (nthD l)).still = stillL l := by
  apply propext; rw [stillL_all]; rfl
@[go_sem] theorem still_nodeC (k : Kd) (d : D) : (D.node k fun _ => d).still = d.still := by
  apply propext; exact ⟨fun h => h 0, fun h _ => h⟩

theorem ownN_snoc_lit {lo hi n : Nat} {f : Nat → D} {v : Value} (h : OwnN lo hi n f) (hv : f n = .lit v) : OwnN lo hi (n + 1) f :=
  ⟨fun i hi t ht => by
    by_cases hn : i < n
    · exact h.rg i hn t ht
    · obtain rfl : i = n := by omega
      rw [hv] at ht; simp [D.tl] at ht,
   fun i hi => by
    by_cases hn : i < n
    · exact h.nd i hn
    · obtain rfl : i = n := by omega
      rw [hv]; simp [D.tl],
   fun i j hij hj t ht ht' => by
    by_cases hn : j < n
    · exact h.dj i j hij hn t ht ht'
    · obtain rfl : j = n := by omega
      rw [hv] at ht'; simp [D.tl] at ht',
   fun i hi => by
    by_cases hn : i < n
    · exact h.wh i hn
    · obtain rfl : i = n := by omega
      rw [hv]; trivial⟩
theorem ownN_snoc_own {lo mid hi a b n : Nat} {f : Nat → D} (h : OwnN lo mid n f) (hv : Own a b (f n)) (h1 : lo ≤ mid) (h2 : mid ≤ a) (h3 : b ≤ hi) (h4 : a ≤ b) : OwnN lo hi (n + 1) f :=
  (h.snoc (g := f) (hv.mono h2 h3) h1 (by omega) fun _ _ => rfl)
theorem Facts.here {N n n1 l g b : Nat} {s : Nat → D} {R : Roots} {d : D} (h : Facts ⟨N, n, s, upd R l (some (g, b, d))⟩ n1) : b < n1 ∧ b ∉ d.tl :=
  have e : (St.mk N n s (upd R l (some (g, b, d)))).R l = some (g, b, d) := upd_same _ _ _
  ⟨h.lt l g b d e, h.root l g b d l g b d e e⟩
theorem rls_still {k : Nat} {F : Relab} {f : Nat → D} (h : ∀ i, (f i).still) : (fun i => rl k F (f i)) = f := by funext i; exact rl_still (h i)
theorem rlnode_still {k : Nat} {F : Relab} {kd : Kd} {f : Nat → D} (h : ∀ i, (f i).still) : rl k F (.node kd f) = .node kd f := rl_still (show (D.node kd f).still from h)

theorem fin_node {kd : Kd} {f : Nat → D} {k : Nat} {F : Relab} {Q : D → Prop} (hst : ∀ i, (f i).still) (h : (∀ i, (f i).still) → Q (.node kd f)) : Q (rl k F (.node kd f)) := by
  rw [rlnode_still hst]; exact h hst

/-- a row of n that is being filled: the first i are as they are to be -/
structure Fill {α : Type} (R : D → α → Prop) (sz lo hi : Nat) (xs : List α) (n i : Nat) (f : Nat → D) : Prop where
  st : ∀ j, (f j).still
  sh : ∀ j, j < n → (f j).plain ∧ (f j).size = sz
  ok : ∀ j (hj : j < xs.length), j < i → R (f j) xs[j]
  own : OwnN lo hi i f

theorem Fill.start {α : Type} {R : D → α → Prop} {sz lo hi : Nat} {xs : List α} {n : Nat} {f : Nat → D} (h1 : ∀ j, (f j).still) (h2 : ∀ j, j < n → (f j).plain ∧ (f j).size = sz) : Fill R sz lo hi xs n 0 f :=
  ⟨h1, h2, fun j _ hj => absurd hj (by omega), ownN_zero _ _ _⟩
theorem Fill.step {α : Type} {R : D → α → Prop} {sz lo hi mid n0 n1 : Nat} {xs : List α} {n i : Nat} {f : Nat → D} {r : D} {nd : Bool} (h : Fill R sz lo mid xs n i f) (hR : Shp R sz nd) (hlt : i < xs.length) (hr : R r xs[i]) (ho : Own n0 n1 r)
    (h1 : lo ≤ mid) (h2 : mid ≤ n0) (h3 : n1 ≤ hi) (h4 : n0 ≤ n1) : Fill R sz lo hi xs n (i + 1) (upd f i r) := by
  obtain ⟨e1, e2, e3, e4⟩ := hR _ _ hr
  refine ⟨still_upd h.st e4, fun j hj => ?_, fun j hj hji => ?_, ?_⟩
  · unfold upd; split
    · exact ⟨e3, e1⟩
    · exact h.sh j hj
  · unfold upd; split
    · rename_i hji'; subst hji'; exact hr
    · exact h.ok j hj (by omega)
  · refine h.own.snoc (mid := mid) (by rw [upd_same]; exact ho.mono h2 h3) h1 (by omega) fun j hj => by rw [upd_ne _ _ (by omega)]
theorem Fill.mono {α : Type} {R : D → α → Prop} {sz lo hi hi' : Nat} {xs : List α} {n i : Nat} {f : Nat → D} (h : Fill R sz lo hi xs n i f) (h1 : hi ≤ hi') : Fill R sz lo hi' xs n i f := ⟨h.st, h.sh, h.ok, h.own.mono (Nat.le_refl _) h1⟩

theorem Fill.isL {α : Type} {R : D → α → Prop} {sz lo hi n1 b : Nat} {xs : List α} {i : Nat} {f : Nat → D} (h : Fill R sz lo hi xs xs.length i f) (hge : ¬ i < xs.length) (hs : xs.length ≤ 4194304) (h1 : lo ≤ b) (h2 : b < n1) (h3 : hi ≤ n1) (hb : b ∉ (D.node (.arr xs.length sz) f).tl) :
    IsL sz R (.sl b true xs.length sz f) xs ∧ Own lo n1 (.sl b true xs.length sz f) := by
  have ho : OwnN lo hi xs.length f := ⟨fun j hj => h.own.rg j (by omega), fun j hj => h.own.nd j (by omega), fun j k hjk hk => h.own.dj j k hjk (by omega), fun j hj => h.own.wh j (by omega)⟩
  refine ⟨.inr ⟨b, true, f, rfl, h.st, by omega, fun j hj => h.ok j hj (by omega)⟩, own_sl (ho.mono (Nat.le_refl _) h3) h1 h2 fun j hj hx => hb ?_⟩
  simp only [D.tl, List.mem_flatMap, List.mem_range]
  exact ⟨j, hj, hx⟩
theorem Fill.isA {α : Type} {R : D → α → Prop} {sz lo hi n : Nat} {xs : List α} {i : Nat} {f : Nat → D} (h : Fill R sz lo hi xs n i f) (hn : xs.length = n) (hge : ¬ i < n) :
    IsA n sz R (.node (.arr n sz) f) xs ∧ Own lo hi (.node (.arr n sz) f) := by
  refine ⟨⟨hn, f, rfl, h.st, fun j hj => h.ok j hj (by omega)⟩, own_node ⟨fun j hj => h.own.rg j (by have : j < n := hj; omega), fun j hj => h.own.nd j (by have : j < n := hj; omega), fun j k hjk hk => h.own.dj j k hjk (by have : k < n := hk; omega), fun j hj => h.own.wh j (by have : j < n := hj; omega)⟩⟩

/-- how a call whose answer is known is to end -/
def pendV (P : Program) (rs : List ResultVar) (v : D) : Exit → St → Prop
  | .normal, st => (∀ r ∈ rs, retOk P st r) ∧ rl 9 (labView st.R) (retV st rs) = v
  | .ret, st => (∀ r ∈ rs, retOk P st r) ∧ rl 9 (labView st.R) (retV st rs) = v
  | _, _ => False
@[go_sem] theorem pendV_ret (P : Program) (rs : List ResultVar) (v : D) (st : St) : pendV P rs v .ret st = ((∀ r ∈ rs, retOk P st r) ∧ rl 9 (labView st.R) (retV st rs) = v) := rfl
@[go_sem] theorem pendV_normal (P : Program) (rs : List ResultVar) (v : D) (st : St) : pendV P rs v .normal st = ((∀ r ∈ rs, retOk P st r) ∧ rl 9 (labView st.R) (retV st rs) = v) := rfl

theorem pcall_intro_v {P : Program} {f : FuncId} {fn : Func} {c : Code} {rs : List ResultVar} {args : List D} {v : D} (hf : P.funcs[f]? = some fn) (hb : fn.body = some c) (hnm : (fn.name == "runtime.NumGoroutine") = false)
    (hrs : fn.results = rs.toArray) (hlen : rs.length ≤ 4) (hN : args.length ≤ fn.ntmps)
    (h : ∀ w0 M n0, IWp P w0 M c (pendV P rs v) (St.start fn.ntmps n0 args fun _ => none)) : PCall P f args fun _ _ r => r = v := by
  refine pcall_intro hf hb hnm hrs hlen hN fun w0 M n0 hW => iwp_mono (h w0 M n0) fun x st hq => ?_
  cases x with
  | normal => exact ⟨hq.1, fun _ _ _ => hq.2⟩
  | ret => exact ⟨hq.1, fun _ _ _ => hq.2⟩
  | _ => exact hq.elim

end Go.Proofs.Ytjaddgkhlmallaa.IM
