/- Several of my texts in one module (merge.py, shake.py). -/
import Derived.Test.YtncinhlaabdlaaaGreatCkB31
import Derived.Test.YtncinhlaabdlaaaGreatCkB54
import Derived.Test.YtncinhlaabdlaaaGreatCkB57
import Derived.Test.YtncinhlaabdlaaaGreatCkB43
section
namespace Go.Proofs.YtncinhlaabdlaaaGreat.IM
open Go Go.RowKit
set_option linter.unusedVariables false
set_option linter.unusedSimpArgs false
set_option maxHeartbeats 2000000
set_option maxRecDepth 20000
def BDraw (P : Program) (W : Nat → Prop) (D : Nat → Prop) (o : Oper) (st : St) (K : St → Prop) : Prop :=
  o.guard = none ∧ st.dstOk o.dst ∧ ∃ fx xs ts fid c, o.op = .call { callee := .value fx, args := xs, argTypes := ts } ∧ st.ev fx = .fn fid 0 c ∧
    ∃ d0 d rest0 rest Q l g b oo q T T2 R', xs.toList.map st.ev = .ptr l g oo q :: rest0 ∧ rest0.map (rl 9 (labBV st.R l g)) = rest ∧ st.R l = some (g, b, d) ∧ d.still ∧ (∀ b ∈ d0.tl, b ∈ d.tl) ∧ (∀ b ∈ d0.tl, W b) ∧ BCall P fid d0 d rest Q oo q T T2 ∧
      (∀ t, T t → t ∈ d.tl ∨ ∃ x ∈ rest0, t ∈ x.tl) ∧ (∀ t, T2 t → t ∈ d.tl ∨ ∃ x ∈ rest0, t ∈ x.tl) ∧ R' l = none ∧ CarR d0 .any st.R R' ∧
      ∃ s' : Nat → IM.D, (∀ t, s' t = .any ∨ (s' t = st.s t ∧ Carry d0 .any (st.s t) (st.s t))) ∧ (∀ t, D t → s' t = st.s t) ∧
        ∀ n0 n1 d' r, st.n ≤ n0 → n0 ≤ n1 → (∀ t ∈ d.tl, t < n0) → Q n0 n1 d' r → d'.tags (fun b => T2 b ∨ n0 ≤ b) → K (({ N := st.N, n := n1, s := s', R := upd R' l (some (g, b, d')) } : St).put o.dst r)
def vcGM (P : Program) (W D : Nat → Prop) (ops : Array Oper) (o : Oper) (st : St) (K : St → Prop) : Prop := vcG P ops o st K ∨ BDraw P W D o st K
theorem BDraw.mono {P : Program} {W D D' : Nat → Prop} {o : Oper} {st : St} {K K' : St → Prop} (hk : ∀ st, K st → K' st) (hd : ∀ t, D' t → D t) (h : BDraw P W D o st K) : BDraw P W D' o st K' := by
  obtain ⟨h1, h2, fx, xs, ts, fid, c, h3, h4, d0, d, rest0, rest, Q, l, g, b, oo, q, T, T2, R', a1, a2, a3, a4, a5, a6, a7, a8, a9, a10, a11, s', b1, b2, b3⟩ := h
  exact ⟨h1, h2, fx, xs, ts, fid, c, h3, h4, d0, d, rest0, rest, Q, l, g, b, oo, q, T, T2, R', a1, a2, a3, a4, a5, a6, a7, a8, a9, a10, a11, s', b1, fun t ht => b2 t (hd t ht), fun n0 n1 d' r e1 e2 e3 e4 e5 => hk _ (b3 n0 n1 d' r e1 e2 e3 e4 e5)⟩
theorem vcGM_mono {P : Program} {W D : Nat → Prop} {ops : Array Oper} {o : Oper} {st : St} {K K' : St → Prop} (hk : ∀ st, K st → K' st) (h : vcGM P W D ops o st K) : vcGM P W D ops o st K' :=
  h.imp (vcG_mono hk) (BDraw.mono hk fun _ h => h)
section
variable {P : Program} {w0 : World} {M : Fr} {ops : Array Oper} {W : Nat → Prop}
theorem vcGM_wp {D : Nat → Prop} {Q : Exit → Act → World → Prop} {i : Nat} {o : Oper} (hW : ∀ b, W b → w0.heap.size ≤ b ∨ M.m b) (hi : ops[i]? = some o) {st : St} {a : Act} {w : World} {K : St → Prop} (hs : SR w0 M st a w) (hv : vcGM P W D ops o st K) : wpOp P ops Q i (Lift w0 M K) a w := by
  rcases hv with hv | hv
  · exact vcG_wp hi hs hv
  obtain ⟨h1, h2, fx, xs, ts, fid, c, h3, h4, d0, d, rest0, rest, Q', l, g, b, oo, q, T, T2, R', a1, a2, a3, a4, a5, a6, a7, a8, a9, a10, a11, s', b1, b2, b3⟩ := hv
  obtain ⟨e, rfl, hg⟩ := hs
  obtain ⟨dst, op, ty, pos, after, gd⟩ := o
  obtain rfl : gd = none := h1
  obtain rfl : op = _ := h3
  unfold wpOp
  simp only [hi]
  rw [if_pos (by simp [Region.wanted])]
  exact .inl (op_bcall hg fx xs ts h4 h2 hW ⟨d0, d, rest0, rest, Q', l, g, b, oo, q, T, T2, rfl, a1, a2, a3, a4, a5, a6, a7, a8, a9, fun n0 n1 d' r e1 e2 e3 e4 e5 =>
    ⟨s', R', fun t => (b1 t).elim (fun h => by rw [h]; exact .drop _) fun h => by rw [h.1]; exact h.2, a10, a11, Conv.zero (b3 n0 n1 d' r e1 e2 e3 e4 e5)⟩⟩)
def less (D : Nat → Prop) (dst : Option Tmp) : Nat → Prop := fun t => D t ∧ dst ≠ some t
theorem vcGM_put {D : Nat → Prop} {S : Roots → Prop} {oi oj : Oper} {v : IM.D} {st : St} {K : St → Prop} (hap : oi.apart ops oj = true) (hy : YD P ops S oi v st) (hE : ∀ d, oi.dst = some d → D d) (hL : ∀ t ∈ oi.looksAt ops, less D oi.dst t) (h : vcGM P W D ops oj (st.put oi.dst v) K) :
    vcGM P W (less D oi.dst) ops oj st fun st' => YD P ops S oi v st' ∧ K (st'.put oi.dst v) := by
  rcases h with h | h
  · exact .inl (vcG_put hap hy h)
  obtain ⟨k1, k2, k3⟩ := Oper.apart_spec hap
  obtain ⟨h1, h2, fx, xs, ts, fid, c, h3, h4, d0, d, rest0, rest, Q', l, g, b, oo, q, T, T2, R', a1, a2, a3, a4, a5, a6, a7, a8, a9, a10, a11, s', b1, b2, b3⟩ := h
  have hev : ∀ x ∈ oj.op.operands, (st.put oi.dst v).ev x = st.ev x := fun x hx => St.ev_put fun d hd hxd => k1 d hd (mem_looks_op (by rw [← hxd]; exact hx))
  rw [h3] at hev
  have hfx : (st.put oi.dst v).ev fx = st.ev fx := hev fx (by simp [Op.operands, Call.operands])
  have hxs : xs.toList.map (st.put oi.dst v).ev = xs.toList.map st.ev := List.map_congr_left fun x hx => hev x (by simp [Op.operands, Call.operands, Array.mem_toList_iff.1 hx])
  rw [hfx] at h4
  rw [hxs] at a1
  simp only [St.put_R, St.put_n, St.put_N] at a2 a3 a11 b3
  have hs'd : ∀ t, oi.dst ≠ some t → (st.put oi.dst v).s t = st.s t := fun t ht => St.s_put fun d hd e => ht (e ▸ hd)
  let s2 : Nat → IM.D := fun t => if oi.dst = some t then .any else s' t
  have hs2 : ∀ t, oi.dst ≠ some t → s2 t = s' t := fun t ht => if_neg ht
  refine .inr ⟨h1, by simpa [St.dstOk] using h2, fx, xs, ts, fid, c, h3, h4, d0, d, rest0, rest, Q', l, g, b, oo, q, T, T2, R', a1, a2, a3, a4, a5, a6, a7, a8, a9, a10, a11, s2, fun t => ?_, fun t ht => ?_, fun n0 n1 d' r e1 e2 e3 e4 e5 => ⟨?_, ?_⟩⟩
  · by_cases ht : oi.dst = some t
    · exact .inl (if_pos ht)
    · rw [hs2 t ht, ← hs'd t ht]; exact b1 t
  · rw [hs2 t ht.2, ← hs'd t ht.2]; exact b2 t ht.1
  · 
    have hk : ∀ t ∈ oi.looksAt ops, s2 t = st.s t := fun t ht => by
      obtain ⟨q1, q2⟩ := hL t ht
      rw [hs2 t q2, ← hs'd t q2]; exact b2 t q1
    obtain ⟨y0, y⟩ := hy
    have hput : ∀ t ∈ oi.looksAt ops, (({ N := st.N, n := n1, s := s2, R := upd R' l (some (g, b, d')) } : St).put oj.dst r).s t = st.s t := fun t ht => by
      rw [St.s_put fun d hd e => k3 d hd (e ▸ ht)]; exact hk t ht
    have hev2 : ∀ x ∈ oi.op.operands, st.ev x = (({ N := st.N, n := n1, s := s2, R := upd R' l (some (g, b, d')) } : St).put oj.dst r).ev x := fun x hx => by
      cases x with
      | tmp t => exact (hput t (mem_looks_op hx)).symm
      | _ => rfl
    have hnf : st.ev (.const .nilFunc) = (({ N := st.N, n := n1, s := s2, R := upd R' l (some (g, b, d')) } : St).put oj.dst r).ev (.const .nilFunc) := rfl
    refine ⟨by simpa [St.dstOk] using y0, ?_⟩
    split
    · rename_i hg; rw [hg] at y; exact fun R n k hS hk => eff_congr hev2 hnf (y R n k hS hk)
    · rename_i hg
      rw [hg] at y
      simp only at y
      split
      · rename_i t ht
        rw [ht] at y
        refine ⟨by simpa using y.1, ?_⟩
        rw [hput t (mem_looks_guard hg ht)]
        exact y.2.mono (fun h3 R n k hS hk => eff_congr hev2 hnf (h3 R n k hS hk)) id
      · rename_i ht; rw [ht] at y; exact y
  · have hb := b3 n0 n1 d' r e1 e2 e3 e4 e5
    have e : ((({ N := st.N, n := n1, s := s2, R := upd R' l (some (g, b, d')) } : St).put oj.dst r).put oi.dst v) = (({ N := st.N, n := n1, s := s', R := upd R' l (some (g, b, d')) } : St).put oj.dst r) := by
      rw [← St.put_comm _ _ _ k2]
      congr 1
      cases hd : oi.dst with
      | none =>
        show ({ N := st.N, n := n1, s := s2, R := _ } : St) = _
        congr 1
        funext t
        exact hs2 t (by rw [hd]; simp)
      | some d =>
        show ({ N := st.N, n := n1, s := upd s2 d v, R := _ } : St) = _
        congr 1
        funext t
        by_cases ht : t = d
        · subst ht
          rw [upd_same, b2 t (hE t hd), hd]
          exact (upd_same _ _ _).symm
        · rw [upd_ne _ _ ht]
          exact hs2 t (by rw [hd]; intro h; exact ht (Option.some.inj h).symm)
    rw [e]; exact hb
def vcAnyM (P : Program) (W D : Nat → Prop) (ops : Array Oper) (S : Nat → Roots → Prop) (K : St → Prop) : Nat → Array Bool → St → Prop
  | 0, listed, st => Region.ready .any ops listed = [] ∧ K st
  | fuel + 1, listed, st => (Region.ready .any ops listed = [] → K st) ∧
    ∀ i ∈ Region.ready .any ops listed, ∃ o, ops[i]? = some o ∧ vcGM P W D ops o st fun st' => S i st'.R ∧ vcAnyM P W D ops S K fuel (listed.setIfInBounds i true) st'
theorem vcAnyM_sound {D : Nat → Prop} {S : Nat → Roots → Prop} {K : St → Prop} {Q : Exit → Act → World → Prop} (hW : ∀ b, W b → w0.heap.size ≤ b ∨ M.m b) (hK : ∀ st a w, K st → SR w0 M st a w → Q .normal a w) : ∀ (fuel : Nat) (listed : Array Bool) (st : St) (a : Act) (w : World), SR w0 M st a w → vcAnyM P W D ops S K fuel listed st → wpAny P .any ops Q fuel listed a w := by
  intro fuel
  induction fuel with
  | zero => intro listed st a w hs h; exact ⟨h.1, hK _ _ _ h.2 hs⟩
  | succ fuel ih =>
    intro listed st a w hs h
    refine ⟨fun h0 => hK _ _ _ (h.1 h0) hs, fun i hi => ?_⟩
    obtain ⟨o, ho, hv⟩ := h.2 i hi
    refine wpOp_mono ?_ (vcGM_wp hW ho hs hv)
    rintro a' w' ⟨st', ⟨_, h1⟩, h2⟩
    exact ih _ _ _ _ h2 h1
theorem vcAnyM_first {D : Nat → Prop} {S : Nat → Roots → Prop} {S0 : Roots → Prop} {K : St → Prop} {i : Nat} {oi : Oper} {v : IM.D} (hi : ops[i]? = some oi) (hE : ∀ d, oi.dst = some d → D d) (hL : ∀ t ∈ oi.looksAt ops, less D oi.dst t) (hSi : ∀ R, S0 R → S i R)
    (hSj : ∀ j oj R, ops[j]? = some oj → j ≠ i → (∀ e ∈ oj.after, Region.binds .any e = true → e.on ≠ i) → S j R → S0 R) : ∀ (fuel : Nat) (listed : Array Bool) (st : St),
    (∀ j oj, ops[j]? = some oj → j ≠ i → listed.getD j true = false → (∀ e ∈ oj.after, Region.binds .any e = true → e.on ≠ i) → oi.apart ops oj = true) →
    i ∈ Region.ready .any ops listed → YD P ops S0 oi v st → S0 st.R → vcAnyM P W D ops S K fuel (listed.setIfInBounds i true) (st.put oi.dst v) → vcAnyM P W (less D oi.dst) ops S K (fuel + 1) listed st := by
  have weak : ∀ (fuel : Nat) (listed : Array Bool) (st : St), vcAnyM P W D ops S K fuel listed st → vcAnyM P W (less D oi.dst) ops S K fuel listed st := by
    intro fuel
    induction fuel with
    | zero => intro listed st h; exact h
    | succ fuel ih =>
      intro listed st h
      refine ⟨h.1, fun j hj => ?_⟩
      obtain ⟨oj, hoj, h1⟩ := h.2 j hj
      refine ⟨oj, hoj, ?_⟩
      rcases h1 with h1 | h1
      · exact .inl (vcG_mono (fun st' h => ⟨h.1, ih _ _ h.2⟩) h1)
      · exact .inr (BDraw.mono (fun st' h => ⟨h.1, ih _ _ h.2⟩) (fun t ht => ht.1) h1)
  intro fuel
  induction fuel with
  | zero =>
    intro listed st _ hr hy hS H
    refine ⟨fun h => (by rw [h] at hr; cases hr), fun j hj => ?_⟩
    by_cases hji : j = i
    · subst hji; exact ⟨oi, hi, .inl (hy.vcG hS ⟨by simpa using hSi _ hS, H⟩)⟩
    · have := ready_mono hj hji
      rw [H.1] at this
      cases this
  | succ fuel ih =>
    intro listed st hfree hr hy hS H
    refine ⟨fun h => (by rw [h] at hr; cases hr), fun j hj => ?_⟩
    by_cases hji : j = i
    · subst hji; exact ⟨oi, hi, .inl (hy.vcG hS ⟨by simpa using hSi _ hS, weak _ _ _ H⟩)⟩
    · obtain ⟨oj, hoj, h1⟩ := H.2 j (ready_mono hj hji)
      obtain ⟨hjun, oj', hoj', hall⟩ := mem_ready.1 hj
      obtain rfl : oj = oj' := by rw [hoj] at hoj'; exact Option.some.inj hoj'
      have hnot : ∀ e ∈ oj.after, Region.binds .any e = true → e.on ≠ i := fun e he hb heq => by
        have h1 := hall e he hb
        have h0 := (mem_ready.1 hr).1
        rw [heq] at h1
        rcases Nat.lt_or_ge i listed.size with h' | h'
        · simp [h'] at h0 h1; rw [h0] at h1; cases h1
        · simp [Array.getElem?_eq_none h'] at h1
      have hfree' : ∀ k ok, ops[k]? = some ok → k ≠ i → (listed.setIfInBounds j true).getD k true = false →
          (∀ e ∈ ok.after, Region.binds .any e = true → e.on ≠ i) → oi.apart ops ok = true := fun k ok hk hki hun hno => by
        refine hfree k ok hk hki ?_ hno
        by_cases hjk : j = k
        · subst hjk; exact hjun
        · rw [getD_set_ne true hjk] at hun; exact hun
      refine ⟨oj, hoj, vcGM_mono (fun st' h3 => ?_) (vcGM_put (hfree j oj hoj hji hjun hnot) hy hE hL h1)⟩
      obtain ⟨h4, h5, h6⟩ := h3
      rw [St.put_R] at h5
      refine ⟨h5, ih (listed.setIfInBounds j true) st' hfree' (ready_mono hr (Ne.symm hji)) h4 (hSj j oj _ hoj hji hnot h5) ?_⟩
      rw [Array.setIfInBounds_comm _ _ hji]
      exact h6
def vcPlanM (P : Program) (W D : Nat → Prop) (ops : Array Oper) (Ls B : List Nat) (R0 : Roots) (K : St → Prop) : List (Nat × Option Bool) → St → Prop
  | [], st => K st
  | (i, f) :: rest, st =>
    match ops[i]?, f with
    | some o, some true => vcE P ops (if B.contains i then [] else Ls) o st (vcPlanM P W D ops Ls B R0 K rest)
    | some o, some false => vcG P ops o st fun st' => (B.contains i = true ∨ ∀ l ∈ Ls, st'.R l = R0 l) ∧ vcPlanM P W D ops Ls B R0 K rest st'
    | some o, none => BDraw P W D o st fun st' => (B.contains i = true ∨ ∀ l ∈ Ls, st'.R l = R0 l) ∧ vcPlanM P W D ops Ls B R0 K rest st'
    | none, _ => False
def oldP (plan : List (Nat × Option Bool)) : List (Nat × Bool) := plan.map fun x => (x.1, x.2 == some true)
def planD (ops : Array Oper) (D : List Nat) : List (Nat × Option Bool) → Bool
  | [] => true
  | (i, f) :: rest => (f != some true || match ops[i]? with
      | some o => (match o.dst with | some d => D.contains d && rest.all fun x => x.2 != some true || ((ops[x.1]?).bind (·.dst)) != some d | none => true) &&
          (o.looksAt ops).all fun t => D.contains t && (o.dst != some t) && rest.all fun x => x.2 != some true || ((ops[x.1]?).bind (·.dst)) != some t
      | none => false) && planD ops D rest
def stay (ops : Array Oper) (D : List Nat) (rest : List (Nat × Option Bool)) : Nat → Prop := fun t => t ∈ D ∧ ∀ x ∈ rest, x.2 = some true → ((ops[x.1]?).bind (·.dst)) ≠ some t
theorem vcAnyM_weak {D D' : Nat → Prop} {S : Nat → Roots → Prop} {K : St → Prop} (hd : ∀ t, D' t → D t) : ∀ (fuel : Nat) (listed : Array Bool) (st : St), vcAnyM P W D ops S K fuel listed st → vcAnyM P W D' ops S K fuel listed st := by
  intro fuel
  induction fuel with
  | zero => intro listed st h; exact h
  | succ fuel ih =>
    intro listed st h
    refine ⟨h.1, fun j hj => ?_⟩
    obtain ⟨oj, hoj, h1⟩ := h.2 j hj
    refine ⟨oj, hoj, ?_⟩
    rcases h1 with h1 | h1
    · exact .inl (vcG_mono (fun st' h => ⟨h.1, ih _ _ h.2⟩) h1)
    · exact .inr (BDraw.mono (fun st' h => ⟨h.1, ih _ _ h.2⟩) hd h1)
theorem vcPlanM_sound {Ls B D : List Nat} {R0 : Roots} {K : St → Prop} : ∀ (plan : List (Nat × Option Bool)) (fuel : Nat) (listed : Array Bool) (st : St), plan.length ≤ fuel → planOk ops (oldP plan) listed = true → planD ops D plan = true →
    ((oldP plan).all fun x => !x.2 || B.contains x.1 || B.all fun j => edgeTo ops j x.1) = true → tailOk B (oldP plan) = true → (((oldP plan).all fun x => B.contains x.1) = true ∨ ∀ l ∈ Ls, st.R l = R0 l) →
    vcPlanM P W (· ∈ D) ops Ls B R0 K plan st → vcAnyM P W (stay ops D plan) ops (fun j R => B.contains j = true ∨ ∀ l ∈ Ls, R l = R0 l) K fuel listed st := by
  intro plan
  induction plan with
  | nil =>
    intro fuel listed st hf hp hD hb ht hR h
    have hr : Region.ready .any ops listed = [] := by simpa [planOk, oldP] using hp
    cases fuel with
    | zero => exact ⟨hr, h⟩
    | succ fuel => exact ⟨fun _ => h, by rw [hr]; intro i hi; cases hi⟩
  | cons x rest ih =>
    obtain ⟨i, f⟩ := x
    intro fuel listed st hf hp hD hb ht hR h
    cases fuel with
    | zero => simp at hf
    | succ fuel =>
      simp only [List.length_cons, Nat.add_le_add_iff_right] at hf
      have hold : oldP ((i, f) :: rest) = (i, f == some true) :: oldP rest := rfl
      rw [hold] at hp hb ht hR
      simp only [List.all_cons, Bool.and_eq_true] at hb
      have hD2 : planD ops D rest = true := by unfold planD at hD; simp only [Bool.and_eq_true] at hD; exact hD.2
      have ht2 : tailOk B (oldP rest) = true := by
        unfold tailOk at ht
        split at ht
        · exact tailOk_all ht
        · exact ht
      unfold vcPlanM at h
      cases hi : ops[i]? with
      | none => rw [hi] at h; exact h.elim
      | some o =>
        rw [hi] at h
        have late : f ≠ some true → ∀ st' : St, (B.contains i = true ∨ ∀ l ∈ Ls, st'.R l = R0 l) → (((oldP rest).all fun x => B.contains x.1) = true ∨ ∀ l ∈ Ls, st'.R l = R0 l) := by
          intro _ st' h'
          rcases h' with h2 | h2
          · unfold tailOk at ht
            rw [if_pos h2] at ht
            exact .inl ht
          · exact .inr h2
        have hst : f ≠ some true → ∀ t, stay ops D ((i, f) :: rest) t → stay ops D rest t := fun _ t hx => ⟨hx.1, fun y hy => hx.2 y (List.mem_cons_of_mem _ hy)⟩
        have hst2 : f ≠ some true → ∀ t, stay ops D rest t → stay ops D ((i, f) :: rest) t := fun hne t hx => ⟨hx.1, fun y hy he => by
          rcases List.mem_cons.1 hy with rfl | hy
          · exact absurd he hne
          · exact hx.2 y hy he⟩
        cases f with
        | none =>
          have hp : planOk ops ((i, false) :: oldP rest) listed = true := hp
          simp only [planOk, Bool.and_eq_true, beq_iff_eq] at hp
          refine ⟨fun h0 => (by rw [hp.1] at h0; cases h0), fun j hj => ?_⟩
          rw [hp.1] at hj
          obtain rfl := List.mem_singleton.1 hj
          refine ⟨o, hi, .inr (BDraw.mono (fun st' h' => ⟨h'.1, ?_⟩) (fun t ht => ht.1) h)⟩
          exact vcAnyM_weak (hst (by simp)) _ _ _ (ih fuel _ _ hf hp.2 hD2 hb.2 ht2 (late (by simp) _ h'.1) h'.2)
        | some early =>
        cases early with
        | true =>
          have hp : planOk ops ((i, true) :: oldP rest) listed = true := hp
          simp only [planOk, Bool.and_eq_true] at hp
          have hDi : (match o.dst with | some d => D.contains d && rest.all fun x => x.2 != some true || ((ops[x.1]?).bind (·.dst)) != some d | none => true) = true ∧
              ((o.looksAt ops).all fun t => D.contains t && (o.dst != some t) && rest.all fun x => x.2 != some true || ((ops[x.1]?).bind (·.dst)) != some t) = true := by
            unfold planD at hD
            rw [hi] at hD
            simp only [bne_self_eq_false, Bool.false_or, Bool.and_eq_true] at hD
            exact hD.1
          have rst : ∀ t, (rest.all fun x => x.2 != some true || ((ops[x.1]?).bind (·.dst)) != some t) = true → ∀ x ∈ rest, x.2 = some true → ((ops[x.1]?).bind (·.dst)) ≠ some t := fun t h x hx he => by
            have := List.all_eq_true.1 h x hx
            rw [he] at this
            simpa using this
          have hE : ∀ d, o.dst = some d → stay ops D rest d := fun d hd => by
            have := hDi.1
            rw [hd] at this
            simp only [Bool.and_eq_true] at this
            exact ⟨by simpa using this.1, rst d this.2⟩
          have hL : ∀ t ∈ o.looksAt ops, less (stay ops D rest) o.dst t := fun t ht => by
            have := List.all_eq_true.1 hDi.2 t ht
            simp only [Bool.and_eq_true] at this
            exact ⟨⟨by simpa using this.1.1, rst t this.2⟩, by simpa using this.1.2⟩
          have fin : ∀ fuel listed st, vcAnyM P W (less (stay ops D rest) o.dst) ops (fun j R => B.contains j = true ∨ ∀ l ∈ Ls, R l = R0 l) K fuel listed st → vcAnyM P W (stay ops D ((i, some true) :: rest)) ops (fun j R => B.contains j = true ∨ ∀ l ∈ Ls, R l = R0 l) K fuel listed st :=
            vcAnyM_weak fun t hx => ⟨⟨hx.1, fun y hy => hx.2 y (List.mem_cons_of_mem _ hy)⟩, fun hd => by
              have := hx.2 (i, some true) (List.mem_cons_self ..) rfl
              simp only [hi, Option.bind_some] at this
              exact this hd⟩
          refine fin _ _ _ ?_
          by_cases hiB : B.contains i = true
          · have h' : vcE P ops [] o st (vcPlanM P W (· ∈ D) ops Ls B R0 K rest) := by simpa only [hiB, if_true] using h
            obtain ⟨v, hy, hK⟩ := vcE_early (R0 := R0) h' (by simp)
            have hy' : YD P ops (fun _ => True) o v st := by
              unfold YD at hy ⊢
              refine ⟨hy.1, ?_⟩
              have h2 := hy.2
              revert h2
              cases o.guard with
              | none => intro h2; exact fun R n k _ hk => h2 R n k (by simp) hk
              | some jw =>
                obtain ⟨j, want⟩ := jw
                simp only
                cases (ops[j]?).bind (·.dst) with
                | none => exact id
                | some t => exact fun h2 => ⟨h2.1, h2.2.mono (fun h3 R n k _ hk => h3 R n k (by simp) hk) id⟩
            refine vcAnyM_first (S0 := fun _ => True) hi hE hL (fun R _ => .inl hiB) (fun _ _ _ _ _ _ _ => trivial) fuel listed st (Region.free_spec hi hp.1.2) (by simpa using hp.1.1) hy' trivial (ih fuel _ _ hf hp.2 hD2 hb.2 ht2 ?_ hK)
            unfold tailOk at ht
            rw [if_pos hiB] at ht
            exact .inl ht
          · have h' : vcE P ops Ls o st (vcPlanM P W (· ∈ D) ops Ls B R0 K rest) := by simpa only [hiB, if_false, Bool.false_eq_true] using h
            have hR' : ∀ l ∈ Ls, st.R l = R0 l := by
              rcases hR with hR | hR
              · simp only [List.all_cons, Bool.and_eq_true] at hR; exact absurd hR.1 hiB
              · exact hR
            have hbi : (B.all fun j => edgeTo ops j i) = true := by
              have := hb.1
              simp only [beq_self_eq_true, Bool.not_true, Bool.false_or, Bool.or_eq_true] at this
              exact this.resolve_left hiB
            obtain ⟨v, hy, hK⟩ := vcE_early h' hR'
            refine vcAnyM_first (S0 := fun R => ∀ l ∈ Ls, R l = R0 l) hi hE hL (fun R h => .inr h) (fun j oj R hj _ hno hS => ?_) fuel listed st (Region.free_spec hi hp.1.2) (by simpa using hp.1.1) hy hR' (ih fuel _ _ hf hp.2 hD2 hb.2 ht2 (.inr (by simpa using hR')) hK)
            rcases hS with hS | hS
            · have h1 := List.all_eq_true.1 hbi j (by simpa using hS)
              rw [edgeTo_not hj hno] at h1; cases h1
            · exact hS
        | false =>
          have hp : planOk ops ((i, false) :: oldP rest) listed = true := hp
          simp only [planOk, Bool.and_eq_true, beq_iff_eq] at hp
          refine ⟨fun h0 => (by rw [hp.1] at h0; cases h0), fun j hj => ?_⟩
          rw [hp.1] at hj
          obtain rfl := List.mem_singleton.1 hj
          refine ⟨o, hi, .inl (vcG_mono (fun st' h' => ⟨h'.1, ?_⟩) h)⟩
          exact vcAnyM_weak (hst (by simp)) _ _ _ (ih fuel _ _ hf hp.2 hD2 hb.2 ht2 (late (by simp) _ h'.1) h'.2)
theorem iwp_drawM {id : Nat} {Q : Exit → St → Prop} {st : St} (plan : List (Nat × Option Bool)) (Ls D : List Nat) (hm : P.follows .mixedOrders = true) (hp : planOk ops (oldP plan) (Array.replicate ops.size false) = true) (hd : planD ops D plan = true) (hl : plan.length ≤ ops.size) (B : List Nat) (hb : barOk ops B (oldP plan) = true)
    (h : vcPlanM P (wr w0 M) (· ∈ D) ops Ls B st.R (Q .normal) plan st) : IWp P w0 M (.region id ops true) Q st := by
  intro a w hs
  exact wp_region_any hm (vcAnyM_sound (fun b hb => hb) (fun st' a' w' hk hs' => ⟨st', hk, hs'⟩) _ _ st a _ hs.draw (vcPlanM_sound plan _ _ st hl hp hd (Bool.and_eq_true_iff.1 hb).1 (Bool.and_eq_true_iff.1 hb).2 (.inr fun _ _ => rfl) h))
end
def vcMP (P : Program) (W : Nat → Prop) (D : List Nat) (ops : Array Oper) (Ls B : List Nat) (R0 : Roots) (K : St → Prop) (plan : List (Nat × Option Bool)) (st : St) (_ : Tok K := .mk) (_ : Tok ops := .mk) (_ : Tok R0 := .mk) (_ : Tok W := .mk) : Prop := vcPlanM P W (· ∈ D) ops Ls B R0 K plan st
def BDT (P : Program) (W : Nat → Prop) (D : List Nat) (f : Nat) (xs : List Operand) (dst : Option Tmp) (st : St) (K : St → Prop) (_ : Tok K := .mk) (_ : Tok W := .mk) : Prop :=
  ∃ d0 d rest0 rest Q l g b oo q T T2 R', xs.map st.ev = .ptr l g oo q :: rest0 ∧ rest0.map (rl 9 (labBV st.R l g)) = rest ∧ st.R l = some (g, b, d) ∧ d.still ∧ (∀ b ∈ d0.tl, b ∈ d.tl) ∧ (∀ b ∈ d0.tl, W b) ∧ BCall P f d0 d rest Q oo q T T2 ∧
      (∀ t, T t → t ∈ d.tl ∨ ∃ x ∈ rest0, t ∈ x.tl) ∧ (∀ t, T2 t → t ∈ d.tl ∨ ∃ x ∈ rest0, t ∈ x.tl) ∧ R' l = none ∧ CarR d0 .any st.R R' ∧
      ∃ s' : Nat → IM.D, (∀ t, s' t = .any ∨ (s' t = st.s t ∧ Carry d0 .any (st.s t) (st.s t))) ∧ (∀ t, t ∈ D → s' t = st.s t) ∧
        ∀ n0 n1 d' r, st.n ≤ n0 → n0 ≤ n1 → (∀ t ∈ d.tl, t < n0) → Q n0 n1 d' r → d'.tags (fun b => T2 b ∨ n0 ≤ b) → K (({ N := st.N, n := n1, s := s', R := upd R' l (some (g, b, d')) } : St).put dst r)
section
variable {P : Program} {w0 : World} {M : Fr}
theorem iwp_planM {id : Nat} {ops : List Oper} {Q : Exit → St → Prop} {st : St} (plan : List (Nat × Option Bool)) (Ls D : List Nat) (hm : P.follows .mixedOrders = true) (hp : planOk ops.toArray (oldP plan) (Array.replicate ops.toArray.size false) = true) (hd : planD ops.toArray D plan = true) (hl : plan.length ≤ ops.toArray.size) (B : List Nat) (hb : barOk ops.toArray B (oldP plan) = true)
    (h : vcMP P (wr w0 M) D ops.toArray Ls B st.R (fun st => Q .normal st) plan st) : IWpT P w0 M (.region id ops.toArray true) Q st :=
  iwp_drawM plan Ls D hm hp hd hl B hb h
variable (W : Nat → Prop) (D : List Nat) (ops : Array Oper) (Ls B : List Nat) (R0 : Roots) (K : St → Prop) (plan : List (Nat × Option Bool)) (st : St) (dst : Option Tmp) (ty : TypeId) (pos : String) (after : Array Edge)
@[go_sem] theorem vcMP_nil : vcMP P W D ops Ls B R0 K [] st = K st := (rfl)
@[go_sem] theorem vcMP_early (i : Nat) : vcMP P W D ops Ls B R0 K ((i, some true) :: plan) st = wSome (ops[i]?) fun o => wSome (some (if B.contains i = true then [] else Ls)) fun L => vcET P ops L o st fun st => vcMP P W D ops Ls B R0 K plan st := by
  simp only [vcMP, vcPlanM, vcET]
  cases ops[i]? <;> rfl
@[go_sem] theorem vcMP_late (i : Nat) : vcMP P W D ops Ls B R0 K ((i, some false) :: plan) st = wSome (ops[i]?) fun o => vcGT P ops o st fun st => (B.contains i = true ∨ ∀ l ∈ Ls, st.R l = R0 l) ∧ vcMP P W D ops Ls B R0 K plan st := by
  simp only [vcMP, vcPlanM, vcGT]
  cases ops[i]? <;> rfl
def vcBT (P : Program) (W : Nat → Prop) (D : List Nat) (o : Oper) (st : St) (K : St → Prop) (_ : Tok K := .mk) (_ : Tok W := .mk) (_ : Tok o := .mk) : Prop := BDraw P W (· ∈ D) o st K
@[go_sem] theorem vcMP_call (i : Nat) : vcMP P W D ops Ls B R0 K ((i, none) :: plan) st = wSome (ops[i]?) fun o => vcBT P W D o st fun st => (B.contains i = true ∨ ∀ l ∈ Ls, st.R l = R0 l) ∧ vcMP P W D ops Ls B R0 K plan st := by
  simp only [vcMP, vcPlanM, vcBT]
  cases ops[i]? <;> rfl
end
theorem vcBT_of {P : Program} {W : Nat → Prop} {D : List Nat} {K : St → Prop} {st : St} {dst : Option Tmp} {ty : TypeId} {pos : String} {after : Array Edge} {f : Nat} {xs : List Operand} {ts : Array TypeId} (h2 : st.dstOk dst) (h : BDT P W D f xs dst st K) : vcBT P W D ⟨dst, .call { callee := .value (.func f), args := xs.toArray, argTypes := ts }, ty, pos, after, none⟩ st K := by
  obtain ⟨d0, d, rest0, rest, Q, l, g, b, oo, q, T, T2, R', a1, h⟩ := h
  exact ⟨rfl, h2, _, _, _, f, _, rfl, rfl, d0, d, rest0, rest, Q, l, g, b, oo, q, T, T2, R', by rw [List.toList_toArray]; exact a1, h⟩
theorem pickS_in {s b : Nat → D} : ∀ {K : List Nat} {t : Nat}, t ∈ K → pickS s K b t = s t
  | k :: K, t, h => by
    show upd (pickS s K b) k (s k) t = s t
    by_cases ht : t = k
    · subst ht; exact upd_same _ _ _
    · rw [upd_ne _ _ ht]; exact pickS_in ((List.mem_cons.1 h).resolve_left ht)
theorem pickS_or {s : Nat → D} {P : Nat → Prop} : ∀ {K : List Nat}, (∀ t ∈ K, P t) → ∀ t, pickS s K (fun _ => .any) t = .any ∨ (pickS s K (fun _ => .any) t = s t ∧ P t)
  | [], _, t => .inl rfl
  | k :: K, h, t => by
    show upd (pickS s K fun _ => .any) k (s k) t = .any ∨ (upd (pickS s K fun _ => .any) k (s k) t = s t ∧ P t)
    by_cases ht : t = k
    · subst ht; rw [upd_same]; exact .inr ⟨rfl, h _ (List.mem_cons_self ..)⟩
    · rw [upd_ne _ _ ht]; exact pickS_or (fun t ht => h t (List.mem_cons_of_mem _ ht)) t
theorem bdraw {P : Program} {W : Nat → Prop} {D : List Nat} {f : Nat} {xs : List Operand} {dst : Option Tmp} {st : St} {K : St → Prop} {d0 d : IM.D} {rest : List IM.D} {Q : Nat → Nat → IM.D → IM.D → Prop} {l g b o : Nat} {q : List Nat} {T T2 : Nat → Prop} (h : BCall P f d0 d rest Q o q T T2) (hargs : xs.map st.ev = .ptr l g o q :: rest) (hrest : stillL rest) (hR : st.R l = some (g, b, d)) (hst : d.still) (hsub : ∀ b ∈ d0.tl, b ∈ d.tl) (hW : ∀ b ∈ d0.tl, W b)
    (hT : ∀ t, T t → t ∈ d.tl ∨ ∃ x ∈ rest, t ∈ x.tl) (hT2 : ∀ t, T2 t → t ∈ d.tl ∨ ∃ x ∈ rest, t ∈ x.tl) (K0 : List Nat) (R1 : Roots) (hn : R1 l = none) (hD : D.all (K0.contains ·) = true) (hk0 : carL d0 .any st.s K0) (hk1 : CarR d0 .any st.R R1)
    (hk : ∀ n0 n1 d' r, st.n ≤ n0 → n0 ≤ n1 → (∀ t ∈ d.tl, t < n0) → Q n0 n1 d' r → d'.tags (fun b => T2 b ∨ n0 ≤ b) →
      K (({ N := st.N, n := n1, s := pickS st.s K0 (fun _ => .any), R := upd R1 l (some (g, b, d')) } : St).put dst r)) : BDT P W D f xs dst st K :=
  ⟨d0, d, rest, rest, Q, l, g, b, o, q, T, T2, R1, hargs, still_mapBV hrest, hR, hst, hsub, hW, h, hT, hT2, hn, hk1, _, pickS_or (fun t ht => by
    have : ∀ {K : List Nat}, carL d0 .any st.s K → ∀ t ∈ K, Carry d0 .any (st.s t) (st.s t) := by
      intro K
      induction K with
      | nil => intro _ t ht; cases ht
      | cons k K ih =>
        intro h t ht
        rcases List.mem_cons.1 ht with rfl | ht
        · exact h.1
        · exact ih h.2 t ht
    exact this hk0 t ht), fun t ht => pickS_in (by simpa using List.all_eq_true.1 hD t ht), fun n0 n1 d' r e1 e2 e3 e4 e5 => hk n0 n1 d' r e1 e2 e3 e4 e5⟩
end Go.Proofs.YtncinhlaabdlaaaGreat.IM
end
section
namespace Go.Proofs.YtncinhlaabdlaaaGreat.IM
open Go Go.Proofs Go.RowKit
set_option linter.unusedVariables false
set_option linter.unusedSimpArgs false
set_option maxHeartbeats 2000000
set_option maxRecDepth 20000
theorem iwp_frz {P : Program} {w0 : World} {M : Fr} {c : Code} {Q : Exit → St → Prop} {N n l g b : Nat} {s s' : Nat → D} {R R' : Roots} {d : D} (hl : R l = some (g, b, d)) (hs : ∀ t, s' t = rl 9 (fzl l g b d) (s t) ∨ s' t = .any) (hR : ∀ l', R' l' = frzR (fzl l g b d) R l l' ∨ R' l' = none)
    (h : IWp P w0 M c Q ⟨N, n, s', R'⟩) : IWp P w0 M c Q ⟨N, n, s, R⟩ :=
  iwp_into (Into.freeze (st := ⟨N, n, s, R⟩) hl (Into.of (iwp_forget ⟨N, n, s', R'⟩ ⟨rfl, Nat.le_refl _, hs, hR⟩ h)))
theorem frz_no {F : Relab} {s : Nat → D} : ∀ t, (fun _ => D.any : Nat → D) t = rl 9 F (s t) ∨ (fun _ => D.any : Nat → D) t = .any := fun _ => .inr rfl
theorem frz_upd {F : Relab} {s s' : Nat → D} {k : Nat} {v : D} (h : ∀ t, s' t = rl 9 F (s t) ∨ s' t = .any) (hv : rl 9 F (s k) = v) : ∀ t, upd s' k v t = rl 9 F (s t) ∨ upd s' k v t = .any := fun t => by
  by_cases ht : t = k
  · subst ht; rw [upd_same]; exact .inl hv.symm
  · rw [upd_ne _ _ ht]; exact h t
theorem frz_two {F : Relab} {l a ga ba b gb bb : Nat} {A B A' B' : D} (ha : a ≠ l) (hb : b ≠ l) (hA : rl 9 F A = A') (hB : rl 9 F B = B') (pA : A'.plain) (pB : B'.plain) :
    frzR F (upd (upd (fun _ => none) a (some (ga, ba, A))) b (some (gb, bb, B))) l = upd (upd (fun _ => none) a (some (ga, ba, A'))) b (some (gb, bb, B')) := by
  subst hA; subst hB
  rw [frzR_other _ _ _ _ _ _ _ hb pB, frzR_other _ _ _ _ _ _ _ ha pA, frzR_none]
theorem frz_four {F : Relab} {l z gz bz a ga ba b gb bb c gc bc : Nat} {Z A B C Z' A' B' C' : D} (hz : z ≠ l) (ha : a ≠ l) (hb : b ≠ l) (hc : c ≠ l) (hZ : rl 9 F Z = Z') (hA : rl 9 F A = A') (hB : rl 9 F B = B') (hC : rl 9 F C = C') (pZ : Z'.plain) (pA : A'.plain) (pB : B'.plain) (pC : C'.plain) :
    frzR F (upd (upd (upd (upd (fun _ => none) z (some (gz, bz, Z))) a (some (ga, ba, A))) b (some (gb, bb, B))) c (some (gc, bc, C))) l = upd (upd (upd (upd (fun _ => none) z (some (gz, bz, Z'))) a (some (ga, ba, A'))) b (some (gb, bb, B'))) c (some (gc, bc, C')) := by
  subst hC; subst hB
  rw [frzR_other _ _ _ _ _ _ _ hc pC, frzR_other _ _ _ _ _ _ _ hb pB, frz_two hz ha hZ hA pZ pA]
def DropR (b : Nat) (R R' : Roots) : Prop := ∀ j, j ≠ b → R' j = R j ∨ R' j = none
theorem DropR.refl (b : Nat) (R : Roots) : DropR b R R := fun j _ => .inl rfl
theorem DropR.out {b a : Nat} {R R' : Roots} {x : Option (Nat × Nat × D)} (h : DropR b R R') (ha : R' a = none) : DropR b (upd R a x) R' := fun j hj => by
  by_cases hja : j = a
  · subst hja; exact .inr ha
  · rw [upd_ne _ _ hja]; exact h j hj
theorem DropR.over {b : Nat} {R R' : Roots} {x : Option (Nat × Nat × D)} (h : DropR b R R') : DropR b (upd R b x) R' := fun j hj => by rw [upd_ne _ _ hj]; exact h j hj
theorem DropR.fin {b : Nat} {R R' : Roots} {y : Option (Nat × Nat × D)} (h : DropR b R R') (j : Nat) : upd R' b y j = upd R b y j ∨ upd R' b y j = none := by
  by_cases hj : j = b
  · subst hj; rw [upd_same, upd_same]; exact .inl rfl
  · rw [upd_ne _ _ hj, upd_ne _ _ hj]; exact h j hj
theorem DropR.all {b : Nat} {R R' : Roots} (h : DropR b R R') (hb : R' b = none) (j : Nat) : R' j = R j ∨ R' j = none := by
  by_cases hj : j = b
  · subst hj; exact .inr hb
  · exact h j hj
def GrowF {α : Type} (sz : Nat) (Rl : D → α → Prop) (lo hi lab : Nat) (xs : List α) (base : D → Roots) (hd : D) (R : Roots) : Prop :=
  (xs = [] ∧ hd = .nil ∧ R = base .nil) ∨ ∃ g b f, lo ≤ b ∧ b < hi ∧ hd = .msl lab g 0 [] 0 xs.length sz ∧ R = upd (base hd) lab (some (g, b, .node (.arr xs.length sz) f)) ∧ (∀ i, (f i).still) ∧ ∀ i (h : i < xs.length), Rl (f i) xs[i]
theorem row_snoc {α : Type} {Rl : D → α → Prop} {xs : List α} {x : α} {f z : Nat → D} {r : D} (hf : ∀ i (h : i < xs.length), Rl (f i) xs[i]) (hr : Rl r x) : ∀ i (h : i < (xs ++ [x]).length), Rl (catD xs.length f (upd z 0 r) i) (xs ++ [x])[i] := fun i h => by
  unfold catD
  by_cases hi : i < xs.length
  · rw [if_pos hi, List.getElem_append_left hi]; exact hf i hi
  · obtain rfl : i = xs.length := by simp at h; omega
    rw [if_neg hi, Nat.sub_self, upd_same, snoc_get]; exact hr
theorem row_sone {α : Type} {Rl : D → α → Prop} {x : α} {z : Nat → D} {r : D} (hr : Rl r x) : ∀ i (h : i < [x].length), Rl (upd z 0 r i) [x][i] := fun i h => by
  have h : i < 1 := h
  obtain rfl : i = 0 := by omega
  rw [upd_same]; exact hr
theorem filter_take {α : Type} {p : α → Bool} {xs : List α} {i : Nat} (h : i < xs.length) : (xs.take (i + 1)).filter p = (xs.take i).filter p ++ if p xs[i] then [xs[i]] else [] := by
  rw [List.take_succ_eq_append_getElem h, List.filter_append]
  congr 1
  cases hp : p xs[i] <;> simp [hp]
theorem filter_take_yes {α : Type} {p : α → Bool} {xs : List α} {i : Nat} (h : i < xs.length) (hp : p xs[i] = true) : (xs.take (i + 1)).filter p = (xs.take i).filter p ++ [xs[i]] := by rw [filter_take h, if_pos hp]
theorem filter_take_no {α : Type} {p : α → Bool} {xs : List α} {i : Nat} (h : i < xs.length) (hp : p xs[i] = false) : (xs.take (i + 1)).filter p = (xs.take i).filter p := by rw [filter_take h, if_neg (by simp [hp]), List.append_nil]
open Go Go.Proofs
set_option linter.unusedVariables false
set_option linter.unusedSimpArgs false
set_option maxHeartbeats 2000000
set_option maxRecDepth 20000
structure Put2 (lo hi m : Nat) (d e d' : D) : Prop where
  own : Own lo hi d'
  sub : ∀ t ∈ d'.tl, t ∈ d.tl ∨ t ∈ e.tl ∨ m ≤ t
theorem Put2.tags {lo hi m : Nat} {d e d' : D} (h : Put2 lo hi m d e d') : d'.tags (fun b => (b ∈ d.tl ∨ b ∈ e.tl) ∨ m ≤ b) := tags_of_tl (whole_data h.own.wh) fun t ht => by
  rcases h.sub t ht with h | h | h
  · exact .inl (.inl h)
  · exact .inl (.inr h)
  · exact .inr h
theorem Put2.node {lo hi hi' m i : Nat} {k : Kd} {f : Nat → D} {x e : D} (h : Own lo hi (.node k f)) (h0 : i < k.cnt) (hx : Put2 lo hi' m (f i) e x) (h1 : hi ≤ m) (h2 : hi ≤ hi') (hd : ∀ t ∈ e.tl, t ∉ (D.node k f).tl) : Put2 lo hi' m (.node k f) e (.node k (upd f i x)) := by
  have hN := h.node
  have key : ∀ j, j < k.cnt → j ≠ i → ∀ t ∈ (f j).tl, t ∉ x.tl := fun j hj hne t ht ht' => by
    rcases hx.sub t ht' with h3 | h3 | h3
    · rcases Nat.lt_or_gt_of_ne hne with h4 | h4
      · exact hN.dj j i h4 h0 t ht h3
      · exact hN.dj i j h4 hj t h3 ht
    · exact hd t h3 (tl_child hj ht)
    · have := hN.rg j hj t ht; omega
  refine ⟨own_node ⟨fun j hj t ht => ?_, fun j hj => ?_, fun a b hab hb t ht ht' => ?_, fun j hj => ?_⟩, fun t ht => ?_⟩
  · by_cases e : j = i
    · subst e; rw [upd_same] at ht; exact hx.own.rg t ht
    · rw [upd_ne _ _ e] at ht; have := hN.rg j hj t ht; omega
  · by_cases e : j = i
    · subst e; rw [upd_same]; exact hx.own.nd
    · rw [upd_ne _ _ e]; exact hN.nd j hj
  · by_cases e : a = i
    · subst e
      rw [upd_same] at ht; rw [upd_ne _ _ (by omega)] at ht'
      exact key b hb (by omega) t ht' ht
    · rw [upd_ne _ _ e] at ht
      by_cases e2 : b = i
      · subst e2; rw [upd_same] at ht'; exact key a (by omega) e t ht ht'
      · rw [upd_ne _ _ e2] at ht'; exact hN.dj a b hab hb t ht ht'
  · by_cases e : j = i
    · subst e; rw [upd_same]; exact hx.own.wh
    · rw [upd_ne _ _ e]; exact hN.wh j hj
  · rcases tl_put ht with h3 | h3
    · exact .inl h3
    · exact (hx.sub t h3).imp (fun h4 => tl_child h0 h4) id
theorem row_cat {α : Type} {R : D → α → Prop} {sz lo hi m n1 b t : Nat} {nd : Bool} {xs : List α} {x : α} {f z : Nat → D} {r : D} (hR : Shp R sz nd) (hfs : ∀ i, (f i).still) (hf : ∀ i (h : i < xs.length), R (f i) xs[i])
    (ho : Own lo hi (.sl t true xs.length sz f)) (hr : R r x) (hor : Own lo hi r) (hd : ∀ q ∈ r.tl, q ∉ (D.sl t true xs.length sz f).tl) (hz : ∀ j, (z j).still) (hlen : xs.length + 1 ≤ 4194304) (hb : m ≤ b ∨ b = t) (hm : lo ≤ m) (h1 : hi ≤ n1) (hb1 : b < n1)
    (hb2 : b ∉ (D.node (.arr (xs.length + 1) sz) (catD xs.length f (upd z 0 r))).tl) :
    IsL sz R (.sl b true (xs.length + 1) sz (catD xs.length f (upd z 0 r))) (xs ++ [x]) ∧ Put2 lo n1 m (.sl t true xs.length sz f) r (.sl b true (xs.length + 1) sz (catD xs.length f (upd z 0 r))) ∧ ∀ j, (catD xs.length f (upd z 0 r) j).still := by
  have hF := Fill.catA (fill_snoc (x := x) hR hfs hf ho) (z := z) hz hR (by simp) (by rw [snoc_get]; exact hr) hor (fun j hj t' ht hx => hd t' hx (tl_row hj ht))
  have hlo := ho.sl.2.1
  have hL := hF.isLs (b := b) (n1 := n1) (by simp) hlen (by rcases hb with h | h <;> omega) hb1 h1 hb2
  refine ⟨hL.1, ⟨hL.2.1, fun q hq => ?_⟩, hL.2.2⟩
  rcases tl_cat (t0 := t) hq with rfl | h | h
  · rcases hb with h | rfl
    · exact .inr (.inr h)
    · exact .inl (by simp [D.tl])
  · exact .inl h
  · exact .inr (.inl h)
theorem row_one {α : Type} {R : D → α → Prop} {sz lo hi m n1 b : Nat} {nd : Bool} {x : α} {z : Nat → D} {r : D} (hR : Shp R sz nd) (hr : R r x) (hor : Own lo hi r) (hz : ∀ j, (z j).still) (hb : m ≤ b) (hlo : lo ≤ hi) (hm : lo ≤ m) (h1 : hi ≤ n1) (hb1 : b < n1)
    (hb2 : b ∉ (D.node (.arr 1 sz) (upd z 0 r)).tl) : IsL sz R (.sl b true 1 sz (upd z 0 r)) [x] ∧ Put2 lo n1 m .nil r (.sl b true 1 sz (upd z 0 r)) ∧ ∀ j, (upd z 0 r j).still := by
  have hF : Fill R sz lo hi [x] 1 1 (upd z 0 r) := Fill.one (xs := [x]) hz hR (Nat.lt_succ_self 0) hr hor (Nat.le_refl _) (Nat.le_refl _) hlo
  have hL := hF.isLs (b := b) (n1 := n1) rfl (by decide) (by omega) hb1 h1 hb2
  refine ⟨hL.1, ⟨hL.2.1, fun q hq => ?_⟩, hF.st⟩
  simp only [D.tl, List.mem_cons, List.mem_flatMap, List.mem_range] at hq
  rcases hq with rfl | ⟨i, hi, hx⟩
  · exact .inr (.inr hb)
  · obtain rfl : i = 0 := by omega
    rw [upd_same] at hx; exact .inr (.inl hx)
open Go Go.Proofs
set_option linter.unusedVariables false
set_option linter.unusedSimpArgs false
set_option maxHeartbeats 2000000
set_option maxRecDepth 20000
def AddQ (q : Nat → D) (dr : D) (x : Md.Engine) (r : Md.Rec) (lo n0 n1 : Nat) (d' v : D) : Prop :=
  v = .lit (.int .i64 ((x.log.recs.length : Int) + 1)) ∧ ∃ L, d' = .node engK (upd q 2 L) ∧ IsLog L (addLg x.log r) ∧ Own (min lo n0) n1 d' ∧ ∀ t ∈ L.tl, t ∈ (q 2).tl ∨ t ∈ dr.tl ∨ n0 ≤ t
def recD (f : Nat → D) (n : Int) : D := .node (.agg [1, 1, 1, 1, 1, 4, 4, 1, 1]) (upd f 0 (.lit (.int .i64 n)))
theorem tl_lit0 {k : Kd} {f : Nat → D} {i : Nat} {v w : Value} (h : f i = .lit w) : (D.node k (upd f i (.lit v))).tl = (D.node k f).tl := tl_upd (by rw [h]; rfl)
theorem recD_ok {f : Nat → D} {r : Md.Rec} {n : Int} {lo hi : Nat} (h : IsRec (.node (.agg [1, 1, 1, 1, 1, 4, 4, 1, 1]) f) r) (ho : Own lo hi (.node (.agg [1, 1, 1, 1, 1, 4, 4, 1, 1]) f)) :
    IsRec (recD f n) { r with lsn := n } ∧ Own lo hi (recD f n) ∧ (recD f n).tl = (D.node (.agg [1, 1, 1, 1, 1, 4, 4, 1, 1]) f).tl := by
  obtain ⟨f', e, hst, k0, k1, k2, k3, k4, k5, k6, k7, k8⟩ := h
  cases e
  have k0 : f 0 = _ := k0
  have e : (recD f n).tl = (D.node (.agg [1, 1, 1, 1, 1, 4, 4, 1, 1]) f).tl := tl_lit0 k0
  exact ⟨⟨_, rfl, still_upd hst trivial, rfl, k1, k2, k3, k4, k5, k6, k7, k8⟩, ho.rep0 (i := 0) (by decide) rfl trivial, e⟩
theorem isLog_app {ql : Nat → D} {l : Md.Log} {S : D} {rs : List Md.Rec} (hst : ∀ i, (ql i).still) (h1 : IsInt (ql 1) l.sure) (hS : IsL 15 IsRec S rs) : IsLog (.node (.agg [1, 1]) (upd ql 0 S)) ⟨rs, l.sure⟩ :=
  ⟨_, rfl, still_upd hst hS.still, hS, h1⟩
theorem rl_eng2 {q ql : Nat → D} {F : Relab} {m S : D} (hq : ∀ i, (q i).still) (hql : ∀ i, (ql i).still) (h : rl 7 F m = S) : rl 9 F (.node engK (upd q 2 (.node (.agg [1, 1]) (upd ql 0 m)))) = .node engK (upd q 2 (.node (.agg [1, 1]) (upd ql 0 S))) := by
  rw [rl_node, rlsK_upd, rls_still hq, rl_node, rlsK_upd, rls_still hql, h]
theorem sl_eq {t n sz : Nat} {f g : Nat → D} (h : f = g) : D.sl t true n sz f = D.sl t true n sz g := by rw [h]
theorem own_sub {lo hi : Nat} {k : Kd} {f : Nat → D} {i : Nat} (h : Own lo hi (.node k f)) (hi' : i < k.cnt) : Own lo hi (f i) := h.node.own hi'
theorem add_b (q fr : Nat → D) (x : Md.Engine) (r : Md.Rec) (lo hi : Nat) (h : EngF q x) (hr : IsRec (.node (.agg [1, 1, 1, 1, 1, 4, 4, 1, 1]) fr) r) (ho : Own lo hi (.node engK q)) (hor : Own lo hi (.node (.agg [1, 1, 1, 1, 1, 4, 4, 1, 1]) fr))
    (hdj : ∀ t ∈ (D.node (.agg [1, 1, 1, 1, 1, 4, 4, 1, 1]) fr).tl, t ∉ (D.node engK q).tl) (hl : x.log.recs.length ≤ 2097152) :
    BCall Tryz.prog 64 (.node engK q) (.node engK q) [.node (.agg [1, 1, 1, 1, 1, 4, 4, 1, 1]) fr] (AddQ q (.node (.agg [1, 1, 1, 1, 1, 4, 4, 1, 1]) fr) x r lo) 0 [] (fun b => b ∈ (D.node engK q).tl) (fun b => b ∈ (D.node engK q).tl ∨ b ∈ (D.node (.agg [1, 1, 1, 1, 1, 4, 4, 1, 1]) fr).tl) := by
  obtain ⟨ql, hql, hqs, hq0, hq1⟩ := id h.q2
  have hq1 : ql 1 = _ := hq1
  have hrs := shp_rec _ _ hr
  have hfr : fr 0 = .lit (.int .i64 r.lsn) := by obtain ⟨f', e, hst, k0, _⟩ := id hr; cases e; exact k0
  have hrd := (recD_ok (n := (x.log.recs.length : Int) + 1) hr hor)
  have hw : IntKind.i64.wrap ((x.log.recs.length : Int) + 1) = (x.log.recs.length : Int) + 1 := w64 (by omega) (by omega)
  have hrst : (recD fr ((x.log.recs.length : Int) + 1)).still := (shp_rec _ _ hrd.1).2.2.2
  have o2 : Own lo hi (q 2) := own_sub ho (by decide)
  rw [hql] at o2
  have o20 : Own lo hi (ql 0) := own_sub o2 (by decide)
  have fin : ∀ (n0 n1 : Nat) (S m v : D) (F : Relab), rl 7 F m = S → v = .lit (.int .i64 ((x.log.recs.length : Int) + 1)) → Own (min lo n0) n0 (.node engK q) → IsL 15 IsRec S (x.log.recs ++ [{ r with lsn := (x.log.recs.length : Int) + 1 }]) → Put2 (min lo n0) n1 n0 (ql 0) (recD fr ((x.log.recs.length : Int) + 1)) S → n0 ≤ n1 →
      BEnd (AddQ q (.node (.agg [1, 1, 1, 1, 1, 4, 4, 1, 1]) fr) x r lo) (.node engK q) n0 n1 (rl 9 F (.node engK (upd q 2 (.node (.agg [1, 1]) (upd ql 0 m))))) v (fun b => b ∈ (D.node engK q).tl) (fun b => b ∈ (D.node engK q).tl ∨ b ∈ (D.node (.agg [1, 1, 1, 1, 1, 4, 4, 1, 1]) fr).tl) := by
    intro n0 n1 S m v F hm hv ho' hS hP hn
    rw [rl_eng2 h.st hqs hm, hv]
    have o2' := own_sub (i := 2) ho' (by decide)
    have h2t : ∀ t ∈ (recD fr ((x.log.recs.length : Int) + 1)).tl, t ∉ (q 2).tl := fun t ht hx => hdj t (hrd.2.2 ▸ ht) (tl_child (i := 2) (by decide) hx)
    rw [hql] at o2' h2t
    have P1 := Put2.node (i := 0) o2' (by decide) hP (Nat.le_refl _) hn h2t
    rw [← hql] at P1
    have P2 := Put2.node (i := 2) ho' (by decide) P1 (Nat.le_refl _) hn (fun t ht => hdj t (hrd.2.2 ▸ ht))
    have hL := isLog_app hqs hq1 hS
    refine ⟨⟨rfl, _, rfl, hL, P2.own, fun t ht => ?_⟩, plain_node _ _, ?_, trivial⟩
    · rw [← hrd.2.2]; exact P1.sub t ht
    · have := P2.tags; rw [hrd.2.2] at this; exact this
  rcases hq0 with ⟨hq0, hnil⟩ | ⟨t, zb, f, hq0, hfs, hfl, hf⟩
  · refine bcall_intro Tryz.func64 rfl (by decide) rfl (by decide) (by rw [Tryz.ntmps64]; simp) fun w0 M n0 gb hW hS hT hgb => ivc_sound ?_; simp -dsimp only [Tryz.f64, go_sem, h.all, hql, hq0, hq1, hfr, hrs.1, hrs.2.1, hrs.2.2.1]
    have ho' := own_lt ho (hT _ (List.mem_cons_self ..) (whole_data ho.wh))
    have hor' := own_lt hor (hT _ (by simp) (whole_data hor.wh))
    have hrd' := (recD_ok (n := (x.log.recs.length : Int) + 1) hr hor').2.1
    have e1 : IntKind.i64.wrap (((0 : Nat) : Int) + 1) = (x.log.recs.length : Int) + 1 := by rw [hnil]; rfl
    intro g1 b1 hb1
    refine iwp_plan [(0, true), (1, true), (2, true), (3, true), (4, true), (5, true), (6, true), (7, false), (8, false), (9, true), (10, true), (11, true), (12, false)] [3, 1000] rfl (by decide +kernel) (by decide) [9, 10, 11, 12] (by decide +kernel) ?_
    simp -dsimp only [go_sem, h.all, hql, hq0, hq1, hfr, hrs.1, hrs.2.1, hrs.2.2.1, e1]
    intro g2 b2 hb2
    refine ⟨fun y h => h.symm, fun g3 b3 n' hn' hb3 hb4 => ?_⟩
    refine ⟨_, rfl, fun n1 hn1 hfc => ?_⟩
    have hR := row_one (R := IsRec) (sz := 15) (lo := min lo n0) (hi := n0) (m := n0) (n1 := n1) (b := b3) (x := { r with lsn := (x.log.recs.length : Int) + 1 }) (z := fun _ => zRecD) (r := recD fr ((x.log.recs.length : Int) + 1)) shp_rec hrd.1 hrd' (fun _ => still_zRec) (by omega) (by omega) (by omega) (by omega) hfc.here.1 hfc.here.2
    refine fin n0 n1 (.sl b3 true 1 15 (upd (fun _ => zRecD) 0 (recD fr ((x.log.recs.length : Int) + 1)))) _ _ _ ?_ ?_ ho' (by rw [show ∀ y, x.log.recs ++ [y] = [y] from fun y => by rw [hnil]; rfl]; exact hR.1) (by rw [hq0]; exact hR.2.1) (by omega)
    · simp -dsimp only [go_sem]
      exact sl_eq (rls_still hR.2.2)
    · simp -dsimp only [go_sem, e1]
  · obtain rfl : zb = true := by have := o20; rw [hq0] at this; exact this.wh.1
    have ht20 : t ∈ (ql 0).tl := by rw [hq0]; simp [D.tl]
    have ht2 : t ∈ (q 2).tl := by rw [hql]; exact tl_child (i := 0) (by decide) ht20
    have htl : t ∈ (D.node engK q).tl := tl_child (i := 2) (by decide) ht2
    have hx : ∀ z ∈ [D.ptr 1000 0 0 [], .node (.agg [1, 1, 1, 1, 1, 4, 4, 1, 1]) fr], z.free t := fun z hz => by
      simp only [List.mem_cons, List.not_mem_nil, or_false] at hz
      rcases hz with rfl | rfl
      · trivial
      · exact free_nil hor.wh fun hx => hdj t hx htl
    have fr1 : ∀ i, i < (Kd.agg [1, 1]).cnt → i ≠ 0 → (ql i).free t := fun i hi hne => by
      have : i = 1 := by have : i < 2 := hi; omega
      subst this; rw [hq1]; trivial
    have hfree : ∀ i, i < x.log.recs.length → (f i).free t := by have := o20; rw [hq0] at this; exact own_free this
    refine bcall_intro Tryz.func64 rfl (by decide) rfl (by decide) (by rw [Tryz.ntmps64]; simp) fun w0 M n0 gb hW hS hT hgb => iwp_melt (l := 1001) (lq := 1000) (R' := fun _ => none) (xq' := fun g => .node engK (upd q 2 (.node (.agg [1, 1]) (upd ql 0 (.msl 1001 g 0 [] 0 x.log.recs.length 15))))) (hS t htl) rfl hfree rfl (.node _ _ 2 (by decide) (hql ▸ .node _ _ 0 (by decide) (has_eq hq0))) (fun g => ⟨trivial, thaw_upd (hql ▸ thaw_upd (thaw_eq hq0) fr1) fun i hi hne => own_free_ne ho (by decide) ht2 hi hne⟩) (free_nthD hx) (by decide) (fun l' g b x hx _ => by cases hx) fun g => ivc_sound ?_; simp -dsimp only [Tryz.f64, go_sem, h.all, hql, hq0, hq1, hfr, hrs.1, hrs.2.1, hrs.2.2.1]
    have ho' := own_lt ho (hT _ (List.mem_cons_self ..) (whole_data ho.wh))
    have hor' := own_lt hor (hT _ (by simp) (whole_data hor.wh))
    have hrd' := (recD_ok (n := (x.log.recs.length : Int) + 1) hr hor').2.1
    have o20' : Own (min lo n0) n0 (.sl t true x.log.recs.length 15 f) := by
      have a := own_sub (i := 2) ho' (by decide)
      rw [hql] at a
      have b := own_sub (i := 0) a (by decide)
      rw [hq0] at b; exact b
    have htn : t < n0 := o20'.sl.2.2.1
    intro g1 b1 hb1
    refine iwp_plan [(0, true), (1, true), (2, true), (3, true), (4, true), (5, true), (6, true), (7, false), (8, false), (9, true), (10, true), (11, true), (12, false)] [3, 1000] rfl (by decide +kernel) (by decide) [9, 10, 11, 12] (by decide +kernel) ?_
    simp -dsimp only [go_sem, h.all, hql, hq0, hq1, hfr, hrs.1, hrs.2.1, hrs.2.2.1, hw]
    intro g2 b2 hb2
    refine ⟨fun y h => h.symm, by omega, by omega, fun g3 b3 n' hn' hb3 hb4 => ?_⟩
    refine ⟨_, rfl, fun n1 hn1 hfc => ?_⟩
    have hR := row_cat (R := IsRec) (sz := 15) (lo := min lo n0) (hi := n0) (m := n0) (n1 := n1) (b := b3) (t := t) (x := { r with lsn := (x.log.recs.length : Int) + 1 }) (z := fun _ => zRecD) (r := recD fr ((x.log.recs.length : Int) + 1)) shp_rec hfs hf o20' hrd.1 hrd'
      (fun y hy hx => hdj y (hrd.2.2 ▸ hy) (tl_child (i := 2) (by decide) (hql ▸ tl_child (i := 0) (by decide) (hq0 ▸ hx)))) (fun _ => still_zRec) (by omega) (by rcases hb4 with h | h <;> omega) (by omega) (by omega) hfc.here.1 hfc.here.2
    refine fin n0 n1 (.sl b3 true (x.log.recs.length + 1) 15 (catD x.log.recs.length f (upd (fun _ => zRecD) 0 (recD fr ((x.log.recs.length : Int) + 1))))) _ _ _ ?_ ?_ ho' hR.1 (by rw [hq0]; exact hR.2.1) (by omega)
    · simp -dsimp only [go_sem]
      exact sl_eq (rls_still hR.2.2)
    · simp -dsimp only [go_sem, hw]
def SureQ (q : Nat → D) (x : Md.Engine) (n : Int) (lo n0 n1 : Nat) (d' _ : D) : Prop :=
  ∃ L, d' = .node engK (upd q 2 L) ∧ IsLog L (sureL x.log n) ∧ L.tl = (q 2).tl ∧ Eng (min lo n0) n1 n0 (.node engK q) d' (sureE x n)
theorem sure_fin {q ql : Nat → D} {x : Md.Engine} {n z : Int} {lo n0 n1 : Nat} {r : D} {F : Relab} (h : EngF q x) (hql : q 2 = .node (.agg [1, 1]) ql) (hqs : ∀ i, (ql i).still) (hq0 : IsL 15 IsRec (ql 0) x.log.recs) (hq1 : ql 1 = .lit (.int .i64 x.log.sure))
    (ho : Own (min lo n0) n0 (.node engK q)) (hz : z = max x.log.sure (min n x.log.recs.length)) (hn : n0 ≤ n1) (hr : r.tags (fun b => b ∈ (D.node engK q).tl ∨ n0 ≤ b)) :
    BEnd (SureQ q x n lo) (.node engK q) n0 n1 (rl 9 F (.node engK (upd q 2 (.node (.agg [1, 1]) (upd ql 1 (.lit (.int .i64 z))))))) r := by
  have hL : IsLog (.node (.agg [1, 1]) (upd ql 1 (.lit (.int .i64 z)))) (sureL x.log n) := ⟨_, rfl, still_upd hqs trivial, hq0, by rw [hz]; rfl⟩
  have E := h.log hL
  rw [rlnode_still E.st]
  have tE : (D.node (.agg [1, 1]) (upd ql 1 (.lit (.int .i64 z)))).tl = (q 2).tl := by rw [hql]; exact tl_lit0 hq1
  have o2 := own_sub (i := 2) ho (by decide)
  rw [hql] at o2
  have P2 : Put (min lo n0) n1 n0 (q 2) (.node (.agg [1, 1]) (upd ql 1 (.lit (.int .i64 z)))) := ⟨(o2.rep0 (i := 1) (r := .lit (.int .i64 z)) (by decide) rfl trivial).mono (Nat.le_refl _) hn, fun t ht => .inl (tE ▸ ht)⟩
  have P := Put.node (i := 2) ho (by decide) P2 (Nat.le_refl _) hn
  exact Eng.fin ⟨E.is, P⟩ ⟨_, rfl, hL, tE, E.is, P⟩ hr
theorem eng_same2 {q ql : Nat → D} {v : D} (hql : q 2 = .node (.agg [1, 1]) ql) (h1 : ql 1 = v) : D.node engK q = .node engK (upd q 2 (.node (.agg [1, 1]) (upd ql 1 v))) := by rw [upd_self ql 1 v h1, ← hql, upd_self q 2 _ rfl]
theorem sure_b (q : Nat → D) (x : Md.Engine) (n : Int) (lo hi : Nat) (h : EngF q x) (ho : Own lo hi (.node engK q)) (hl : x.log.recs.length ≤ 2097152) :
    BCall Tryz.prog 94 .nil (.node engK q) [.lit (.int .i64 n)] (SureQ q x n lo) := by
  obtain ⟨ql, hql, hqs, hq0, hq1⟩ := id h.q2
  have hq1 : ql 1 = _ := hq1
  refine bcall_intro Tryz.func94 rfl (by decide) rfl (by decide) (by rw [Tryz.ntmps94]; simp) fun w0 M n0 gb hW hS hT hgb => ivc_sound ?_; simp -dsimp only [Tryz.f94, go_sem, h.all, hql, hq0.size, hq0.isNode, hq0.plain, hq0.lenT, hq1]
  have ho' := own_lt ho (hT _ (List.mem_cons_self ..) (whole_data ho.wh))
  refine iwp_plan [(0, true), (1, true), (2, true), (3, true), (4, true), (5, true), (6, true), (7, true), (8, true), (9, true), (10, true), (11, true), (12, true), (13, true), (14, true), (15, true), (16, true), (17, true), (18, false)] [1000] rfl (by decide +kernel) (by decide) [15, 16, 17, 18] (by decide +kernel) ?_
  simp -dsimp only [go_sem, h.all, hql, hq0.size, hq0.isNode, hq0.plain, hq0.lenT, hq1]
  refine ⟨_, rfl, fun n1 hn1 hfc => ?_⟩
  exact sure_fin h hql hqs hq0 hq1 ho' rfl (by omega) ret0_tags
theorem l5Force2_b (q : Nat → D) (x : Md.Engine) (n : Int) (lo hi : Nat) (h : EngF q x) (ho : Own lo hi (.node engK q)) (hl : x.log.recs.length ≤ 2097152) :
    BCall Tryz.prog 87 .nil (.node engK q) [.lit (.int .i64 n)] (SureQ q x n lo) 138 [2] := by
  obtain ⟨ql, hql, hqs, hq0, hq1⟩ := id h.q2
  have hq1 : ql 1 = _ := hq1
  refine bcall_intro Tryz.func87 rfl (by decide) rfl (by decide) (by rw [Tryz.ntmps87]; simp) fun w0 M n0 gb hW hS hT hgb => ivc_sound ?_; simp -dsimp only [Tryz.f87, go_sem]
  have ho' := own_lt ho (hT _ (List.mem_cons_self ..) (whole_data ho.wh))
  by_cases c1 : (x.log.recs.length : Int) < n
  · by_cases c2 : x.log.sure < x.log.recs.length
    · simp -dsimp only [go_sem, h.all, hql, hq0.size, hq0.isNode, hq0.plain, hq0.lenT, hq1, c1, c2]
      exact ⟨_, rfl, fun n1 hn1 hfc => sure_fin h hql hqs hq0 hq1 ho' (by omega) (by omega) ret0_tags⟩
    · simp -dsimp only [go_sem, h.all, hql, hq0.size, hq0.isNode, hq0.plain, hq0.lenT, hq1, c1, c2]
      refine ⟨_, rfl, fun n1 hn1 hfc => ?_⟩
      refine (fun hz => ?_) (sure_fin (n := n) (n1 := n1) (F := labB (upd (fun _ => none) 1000 (some (0, gb, .node engK q)))) (r := .nil) h hql hqs hq0 hq1 ho' (z := x.log.sure) (by omega) (by omega) trivial)
      rw [← eng_same2 hql hq1] at hz
      exact ⟨hz.1, hz.2.1, hz.2.2.1, ret0_tags⟩
  · by_cases c2 : x.log.sure < n
    · simp -dsimp only [go_sem, h.all, hql, hq0.size, hq0.isNode, hq0.plain, hq0.lenT, hq1, c1, c2]
      exact ⟨_, rfl, fun n1 hn1 hfc => sure_fin h hql hqs hq0 hq1 ho' (by omega) (by omega) ret0_tags⟩
    · simp -dsimp only [go_sem, h.all, hql, hq0.size, hq0.isNode, hq0.plain, hq0.lenT, hq1, c1, c2]
      refine ⟨_, rfl, fun n1 hn1 hfc => ?_⟩
      refine (fun hz => ?_) (sure_fin (n := n) (n1 := n1) (F := labB (upd (fun _ => none) 1000 (some (0, gb, .node engK q)))) (r := .nil) h hql hqs hq0 hq1 ho' (z := x.log.sure) (by omega) (by omega) trivial)
      rw [← eng_same2 hql hq1] at hz
      exact ⟨hz.1, hz.2.1, hz.2.2.1, ret0_tags⟩
def LogQ (q : Nat → D) (dr : D) (x : Md.Engine) (r : Md.Rec) (lo n0 n1 : Nat) (d' v : D) : Prop :=
  v = .lit (.int .i64 ((x.log.recs.length : Int) + 1)) ∧ ∃ L T, d' = .node engK (upd (upd q 3 T) 2 L) ∧ IsLog L (addLg x.log r) ∧ IsL 3 IsLive T (setLast x.txs r.tx ((x.log.recs.length : Int) + 1)) ∧ Own (min lo n0) n1 d' ∧ (∀ t ∈ L.tl, t ∈ (q 2).tl ∨ t ∈ dr.tl ∨ n0 ≤ t) ∧ T.tl = (q 3).tl
theorem rl_eng32 {q ql : Nat → D} {F : Relab} {m S mT T : D} (hq : ∀ i, (q i).still) (hql : ∀ i, (ql i).still) (h : rl 7 F m = S) (hT : rl 8 F mT = T) : rl 9 F (.node engK (upd (upd q 3 mT) 2 (.node (.agg [1, 1]) (upd ql 0 m)))) = .node engK (upd (upd q 3 T) 2 (.node (.agg [1, 1]) (upd ql 0 S))) := by
  rw [rl_node, rlsK_upd, rlsK_upd, rls_still hq, rl_node, rlsK_upd, rls_still hql, h, hT]
theorem eng_same3 {q : Nat → D} : upd q 3 (q 3) = q := upd_self q 3 (q 3) rfl
theorem log_fin {q ql fr : Nat → D} {x : Md.Engine} {r : Md.Rec} {lo n0 n1 : Nat} {S T m mT v : D} {F : Relab} (h : EngF q x) (hql : q 2 = .node (.agg [1, 1]) ql) (hqs : ∀ i, (ql i).still) (hq1 : ql 1 = .lit (.int .i64 x.log.sure)) (hr : IsRec (.node (.agg [1, 1, 1, 1, 1, 4, 4, 1, 1]) fr) r)
    (ho : Own (min lo n0) n0 (.node engK q)) (hrt : (recD fr ((x.log.recs.length : Int) + 1)).tl = (D.node (.agg [1, 1, 1, 1, 1, 4, 4, 1, 1]) fr).tl) (hdj : ∀ t ∈ (D.node (.agg [1, 1, 1, 1, 1, 4, 4, 1, 1]) fr).tl, t ∉ (D.node engK q).tl) (hm : rl 7 F m = S) (hmT : rl 8 F mT = T) (hv : v = .lit (.int .i64 ((x.log.recs.length : Int) + 1)))
    (hS : IsL 15 IsRec S (x.log.recs ++ [{ r with lsn := (x.log.recs.length : Int) + 1 }])) (hP : Put2 (min lo n0) n1 n0 (ql 0) (recD fr ((x.log.recs.length : Int) + 1)) S) (hT : IsL 3 IsLive T (setLast x.txs r.tx ((x.log.recs.length : Int) + 1))) (hTt : T.tl = (q 3).tl) (hTw : T.whole) (hn : n0 ≤ n1) :
    BEnd (LogQ q (.node (.agg [1, 1, 1, 1, 1, 4, 4, 1, 1]) fr) x r lo) (.node engK q) n0 n1 (rl 9 F (.node engK (upd (upd q 3 mT) 2 (.node (.agg [1, 1]) (upd ql 0 m))))) v (fun b => b ∈ (D.node engK q).tl) (fun b => b ∈ (D.node engK q).tl ∨ b ∈ (D.node (.agg [1, 1, 1, 1, 1, 4, 4, 1, 1]) fr).tl) := by
  rw [rl_eng32 h.st hqs hm hmT, hv]
  have oT : Own (min lo n0) n0 (.node engK (upd q 3 T)) := own_node (ho.node.upd (i := 3) hTt hTw)
  have eT : (D.node engK (upd q 3 T)).tl = (D.node engK q).tl := tl_upd hTt
  have o2' := own_sub (i := 2) ho (by decide)
  have h2t : ∀ t ∈ (recD fr ((x.log.recs.length : Int) + 1)).tl, t ∉ (q 2).tl := fun t ht hx => hdj t (hrt ▸ ht) (tl_child (i := 2) (by decide) hx)
  rw [hql] at o2' h2t
  have P1 := Put2.node (i := 0) o2' (by decide) hP (Nat.le_refl _) hn h2t
  rw [← hql] at P1
  have e2 : upd q 3 T 2 = q 2 := upd_ne _ _ (by decide)
  have P2 := Put2.node (i := 2) oT (by decide) (e2.symm ▸ P1) (Nat.le_refl _) hn (fun t ht hx => hdj t (hrt ▸ ht) (eT ▸ hx))
  have hL := isLog_app hqs hq1 hS
  refine ⟨⟨rfl, _, _, rfl, hL, hT, P2.own, fun t ht => ?_, hTt⟩, plain_node _ _, ?_, trivial⟩
  · rw [← hrt]; exact P1.sub t ht
  · refine tags_of_tl (whole_data P2.own.wh) fun t ht => ?_
    rcases P2.sub t ht with h | h | h
    · exact .inl (.inl (eT ▸ h))
    · exact .inl (.inr (hrt ▸ h))
    · exact .inr h
theorem has_at {x a b : D} (h : a = b) (hb : Has x b) : Has x a := h ▸ hb
theorem thaw_at {t n sz l g : Nat} {f : Nat → D} {a b c : D} (h : a = b) (hb : Thaw t n sz f l g b c) : Thaw t n sz f l g a c := h ▸ hb
theorem roots_1002 {g3 t3 t l' g b gb : Nat} {A B x : D} (hne : l' ≠ 1000) (hf : B.free t) (hx : (upd (fun _ => none) 1002 (some (g3, t3, B)) : Roots) l' = some (g, b, x)) (hp : B.plain := by trivial) :
    (upd (upd (fun _ => none) 1000 (some (0, gb, A))) 1002 (some (g3, t3, B)) : Roots) l' = some (g, b, x) ∧ x.plain ∧ x.free t := by
  by_cases h : l' = 1002
  · subst h; rw [upd_same] at hx ⊢; cases hx; exact ⟨rfl, hp, hf⟩
  · rw [upd_ne _ _ h] at hx; cases hx
theorem log_fin0 {q ql fr : Nat → D} {x : Md.Engine} {r : Md.Rec} {lo n0 n1 : Nat} {S m v : D} {F : Relab} (h : EngF q x) (hql : q 2 = .node (.agg [1, 1]) ql) (hqs : ∀ i, (ql i).still) (hq1 : ql 1 = .lit (.int .i64 x.log.sure)) (hr : IsRec (.node (.agg [1, 1, 1, 1, 1, 4, 4, 1, 1]) fr) r)
    (ho : Own (min lo n0) n0 (.node engK q)) (hrt : (recD fr ((x.log.recs.length : Int) + 1)).tl = (D.node (.agg [1, 1, 1, 1, 1, 4, 4, 1, 1]) fr).tl) (hdj : ∀ t ∈ (D.node (.agg [1, 1, 1, 1, 1, 4, 4, 1, 1]) fr).tl, t ∉ (D.node engK q).tl) (hm : rl 7 F m = S) (hv : v = .lit (.int .i64 ((x.log.recs.length : Int) + 1)))
    (hS : IsL 15 IsRec S (x.log.recs ++ [{ r with lsn := (x.log.recs.length : Int) + 1 }])) (hP : Put2 (min lo n0) n1 n0 (ql 0) (recD fr ((x.log.recs.length : Int) + 1)) S) (hT : IsL 3 IsLive (q 3) (setLast x.txs r.tx ((x.log.recs.length : Int) + 1))) (hn : n0 ≤ n1) :
    BEnd (LogQ q (.node (.agg [1, 1, 1, 1, 1, 4, 4, 1, 1]) fr) x r lo) (.node engK q) n0 n1 (rl 9 F (.node engK (upd q 2 (.node (.agg [1, 1]) (upd ql 0 m))))) v (fun b => b ∈ (D.node engK q).tl) (fun b => b ∈ (D.node engK q).tl ∨ b ∈ (D.node (.agg [1, 1, 1, 1, 1, 4, 4, 1, 1]) fr).tl) := by
  have e := log_fin (F := F) (T := q 3) (mT := q 3) h hql hqs hq1 hr ho hrt hdj hm (rl_still (h.st 3)) hv hS hP hT rfl (ho.node.wh 3 (by decide)) hn
  rw [eng_same3] at e
  exact e
theorem Facts.at {st : St} {n1 l g b : Nat} {d : D} (h : Facts st n1) (hR : st.R l = some (g, b, d)) : b < n1 ∧ b ∉ d.tl := ⟨h.lt l g b d hR, h.root l g b d l g b d hR hR⟩
theorem free_m3 {lo hi i n t g : Nat} {q : Nat → D} (ho : Own lo hi (.node engK q)) (ht : t ∈ (q 2).tl) (hi' : i < engK.cnt) (hne : i ≠ 2) : (upd q 3 (.msl 1002 g 0 [] 0 n 3) i).free t := by
  by_cases h3 : i = 3
  · subst h3; rw [upd_same]; trivial
  · rw [upd_ne _ _ h3]; exact own_free_ne ho (i0 := 2) (by decide) ht hi' hne
theorem isL_cat {α : Type} {R : D → α → Prop} {sz b : Nat} {xs : List α} {x : α} {f z : Nat → D} {r : D} (hfs : ∀ i, (f i).still) (hf : ∀ i (h : i < xs.length), R (f i) xs[i]) (hr : R r x) (hrs : r.still) (hz : ∀ j, (z j).still) (hlen : xs.length + 1 ≤ 4194304) :
    IsL sz R (.sl b true (xs.length + 1) sz (catD xs.length f (upd z 0 r))) (xs ++ [x]) :=
  .inr ⟨b, true, catD xs.length f (upd z 0 r), by rw [List.length_append]; rfl, still_cat hfs (still_upd hz hrs), by rw [List.length_append]; show xs.length + 1 < _; omega, fun i h => by
    unfold catD
    by_cases hi : i < xs.length
    · rw [if_pos hi, List.getElem_append_left hi]; exact hf i hi
    · obtain rfl : i = xs.length := by simp at h; omega
      rw [if_neg hi, Nat.sub_self, upd_same, snoc_get]; exact hr⟩
theorem isL_one {α : Type} {R : D → α → Prop} {sz b : Nat} {x : α} {z : Nat → D} {r : D} (hrs : r.still) (hr : R r x) (hz : ∀ j, (z j).still) : IsL sz R (.sl b true 1 sz (upd z 0 r)) [x] :=
  .inr ⟨b, true, _, rfl, still_upd hz hrs, by show 1 < 140737488355328; decide, fun i h => by
    have h : i < 1 := h
    obtain rfl : i = 0 := by omega
    rw [upd_same]; exact hr⟩
def liveD (g : Nat → D) (n : Int) : D := .node (.agg [1, 1, 1]) (upd g 1 (.lit (.int .i64 n)))
theorem isL_last {t : Nat} {xs : List Md.Live} {f g : Nat → D} {k : Nat} {n : Int} (hst : ∀ i, (f i).still) (hl : xs.length < 140737488355328) (hf : ∀ i (h : i < xs.length), IsLive (f i) xs[i]) (hk : k < xs.length) (hg : f k = .node (.agg [1, 1, 1]) g) :
    IsL 3 IsLive (.sl t true xs.length 3 (upd f k (liveD g n))) (xs.modify k fun l => { l with last := n }) ∧ (D.sl t true xs.length 3 (upd f k (liveD g n))).tl = (D.sl t true xs.length 3 f).tl ∧ (∀ i, (upd f k (liveD g n) i).still) ∧ ((∀ i, i < xs.length → (f i).whole) → (D.sl t true xs.length 3 (upd f k (liveD g n))).whole) := by
  have hk' := hf k hk
  rw [hg] at hk'
  obtain ⟨g', e, gst, k0, k1, k2⟩ := id hk'
  cases e
  have k1' : g 1 = _ := k1
  have hL : IsLive (liveD g n) { xs[k] with last := n } := ⟨_, rfl, still_upd gst trivial, k0, rfl, k2⟩
  have hs : ∀ i, (upd f k (liveD g n) i).still := still_upd hst (still_upd gst trivial)
  refine ⟨.inr ⟨t, true, _, by rw [List.length_modify], hs, by rw [List.length_modify]; exact hl, fun i h => ?_⟩, ?_, hs, fun hw => ⟨rfl, fun i hi => ?_⟩⟩
  · have h' : i < xs.length := by rwa [List.length_modify] at h
    rw [List.getElem_modify]
    by_cases hi : k = i
    · subst hi; rw [upd_same, if_pos rfl]; exact hL
    · rw [upd_ne _ _ (fun e => hi e.symm), if_neg hi]; exact hf i h'
  · simp only [D.tl]
    congr 1
    refine flat_tl fun j hj => ?_
    by_cases hi : j = k
    · subst hi; rw [upd_same, hg]; exact (tl_lit0 k1')
    · rw [upd_ne _ _ hi]
  · by_cases hk2 : i = k
    · subst hk2; rw [upd_same]; exact hL.wh
    · rw [upd_ne _ _ hk2]; exact hw i hi
theorem liveAt_nil (tx : Int) : liveAt [] tx = -1 := rfl
theorem liveAt_lt {xs : List Md.Live} {tx : Int} (h : 0 ≤ liveAt xs tx) : (liveAt xs tx).toNat < xs.length := by
  unfold liveAt Md.idx at *
  cases e : xs.findIdx? (fun x => x.tx == tx) with
  | none => rw [e] at h; exact absurd h (by decide)
  | some i =>
    have := (List.findIdx?_eq_some_iff_findIdx_eq.1 e).1
    simpa using this
theorem l7Log_b (q fr : Nat → D) (x : Md.Engine) (r : Md.Rec) (lo hi : Nat) (h : EngF q x) (hr : IsRec (.node (.agg [1, 1, 1, 1, 1, 4, 4, 1, 1]) fr) r) (ho : Own lo hi (.node engK q)) (hor : Own lo hi (.node (.agg [1, 1, 1, 1, 1, 4, 4, 1, 1]) fr))
    (hdj : ∀ t ∈ (D.node (.agg [1, 1, 1, 1, 1, 4, 4, 1, 1]) fr).tl, t ∉ (D.node engK q).tl) (hl : x.log.recs.length ≤ 2097152) (hl3 : x.txs.length ≤ 2097152) :
    BCall Tryz.prog 119 (.node engK q) (.node engK q) [.node (.agg [1, 1, 1, 1, 1, 4, 4, 1, 1]) fr] (LogQ q (.node (.agg [1, 1, 1, 1, 1, 4, 4, 1, 1]) fr) x r lo) 0 [] (fun b => b ∈ (D.node engK q).tl) (fun b => b ∈ (D.node engK q).tl ∨ b ∈ (D.node (.agg [1, 1, 1, 1, 1, 4, 4, 1, 1]) fr).tl) := by
  obtain ⟨ql, hql, hqs, hq0, hq1⟩ := id h.q2
  have hq1 : ql 1 = _ := hq1
  have hrs := shp_rec _ _ hr
  have hfr : fr 0 = .lit (.int .i64 r.lsn) := by obtain ⟨f', e, hst, k0, _⟩ := id hr; cases e; exact k0
  have hfr1 : fr 1 = .lit (.int .i64 r.tx) := by obtain ⟨f', e, hst, k0, k1, _⟩ := id hr; cases e; exact k1
  have hrd := (recD_ok (n := (x.log.recs.length : Int) + 1) hr hor)
  have hw : IntKind.i64.wrap ((x.log.recs.length : Int) + 1) = (x.log.recs.length : Int) + 1 := w64 (by omega) (by omega)
  have o2 : Own lo hi (q 2) := own_sub ho (by decide)
  rw [hql] at o2
  have o20 : Own lo hi (ql 0) := own_sub o2 (by decide)
  have o3 : Own lo hi (q 3) := own_sub ho (by decide)
  by_cases hK : 0 ≤ liveAt x.txs r.tx
  · rcases id h.q3 with ⟨e3, hnil3⟩ | ⟨t3, zb3, f3, e3, hfs3, hfl3, hf3⟩
    · rw [hnil3, liveAt_nil] at hK; exact absurd hK (by decide)
    obtain rfl : zb3 = true := by have := o3; rw [e3] at this; exact this.wh.1
    have ht3 : t3 ∈ (q 3).tl := by rw [e3]; simp [D.tl]
    have ht3l : t3 ∈ (D.node engK q).tl := tl_child (i := 3) (by decide) ht3
    have hfree3 : ∀ i, i < x.txs.length → (f3 i).free t3 := by have := o3; rw [e3] at this; exact own_free this
    have hx3 : ∀ z ∈ [D.ptr 1000 0 0 [], .node (.agg [1, 1, 1, 1, 1, 4, 4, 1, 1]) fr], z.free t3 := fun z hz => by
      simp only [List.mem_cons, List.not_mem_nil, or_false] at hz
      rcases hz with rfl | rfl
      · trivial
      · exact free_nil hor.wh fun hx => hdj t3 hx ht3l
    have hKn := liveAt_lt hK
    obtain ⟨K, hK1⟩ := Int.eq_ofNat_of_zero_le hK
    have hK2 : K < x.txs.length := by omega
    obtain ⟨g0, hgk, gst, gk0, gk1, gk2⟩ := id (hf3 K hK2)
    have hg1 : g0 1 = _ := gk1
    rcases hq0 with ⟨hq0, hnil⟩ | ⟨t, zb, f, hq0, hfs, hfl, hf⟩
    · refine bcall_intro Tryz.func119 rfl (by decide) rfl (by decide) (by rw [Tryz.ntmps119]; simp) fun w0 M n0 gb hW hS hT hgb => iwp_melt (l := 1002) (lq := 1000) (R' := fun _ => none) (xq' := fun g3 => .node engK (upd q 3 (.msl 1002 g3 0 [] 0 x.txs.length 3))) (hS t3 ht3l) rfl hfree3 rfl (.node _ _ 3 (by decide) (has_eq e3)) (fun g3 => ⟨trivial, thaw_upd (thaw_eq e3) fun i hi hne => own_free_ne ho (by decide) ht3 hi hne⟩) (free_nthD hx3) (by decide) (fun l' g b x hx _ => by cases hx) fun g => ivc_sound ?_; simp -dsimp only [Tryz.f119, go_sem, h.all, hql, hq0, hq1, hfr, hfr1, hrs.1, hrs.2.1, hrs.2.2.1, e3, hgk, hg1, hK1, hK2, hK]
      have ho' := own_lt ho (hT _ (List.mem_cons_self ..) (whole_data ho.wh))
      have hor' := own_lt hor (hT _ (by simp) (whole_data hor.wh))
      have hrd' := (recD_ok (n := (x.log.recs.length : Int) + 1) hr hor').2.1
      have e1 : IntKind.i64.wrap (((0 : Nat) : Int) + 1) = (x.log.recs.length : Int) + 1 := by rw [hnil]; rfl
      intro g1 b1 hb1
      refine iwp_plan [(0, true), (1, true), (2, true), (3, true), (4, true), (5, true), (6, true), (7, false), (8, false), (9, true), (10, true), (11, true), (12, false)] [3, 1000] rfl (by decide +kernel) (by decide) [9, 10, 11, 12] (by decide +kernel) ?_
      simp -dsimp only [go_sem, h.all, hql, hq0, hq1, hfr, hfr1, hrs.1, hrs.2.1, hrs.2.2.1, e3, hgk, hg1, hK1, hK2, hK, e1]
      intro g2 b2 hb2
      refine ⟨fun y h => h.symm, fun g4 b3 n' hn' hb3 hb4 => ?_⟩
      have hR := fun n1 (hn1 : n' ≤ n1) (a1 : b3 < n1) (a2 : b3 ∉ (D.node (.arr 1 15) (upd (fun _ => zRecD) 0 (recD fr ((x.log.recs.length : Int) + 1)))).tl) => row_one (R := IsRec) (sz := 15) (lo := min lo n0) (hi := n0) (m := n0) (n1 := n1) (b := b3) (x := { r with lsn := (x.log.recs.length : Int) + 1 }) (z := fun _ => zRecD) (r := recD fr ((x.log.recs.length : Int) + 1)) shp_rec hrd.1 hrd' (fun _ => still_zRec) (by omega) (by omega) (by omega) (by omega) a1 a2
      have hSr : ∀ j, (upd (fun _ => zRecD) 0 (recD fr ((x.log.recs.length : Int) + 1)) j).still := still_upd (fun _ => still_zRec) (shp_rec _ _ hrd.1).2.2.2
      have hSI : IsL 15 IsRec (.sl b3 true 1 15 (upd (fun _ => zRecD) 0 (recD fr ((x.log.recs.length : Int) + 1)))) (x.log.recs ++ [{ r with lsn := (x.log.recs.length : Int) + 1 }]) := by rw [show ∀ y, x.log.recs ++ [y] = [y] from fun y => by rw [hnil]; rfl]; exact isL_one (shp_rec _ _ hrd.1).2.2.2 hrd.1 (fun _ => still_zRec)
      have hL := isLog_app hqs hq1 hSI
      have hE := (h.txs (by rw [← e3]; exact h.q3) : EngF (upd q 3 (.sl t3 true x.txs.length 3 f3)) x).log hL
      refine iwp_plan [(0, true), (1, true), (2, true), (3, true), (4, true), (5, false), (6, true)] [3, 1000] rfl (by decide +kernel) (by decide) [6] (by decide +kernel) ?_
      simp -dsimp only [go_sem, h.all, hql, hq0, hq1, hfr, hfr1, hrs.1, hrs.2.1, hrs.2.2.1, e3, hgk, hg1, hK1, hK2, hK, e1]
      refine xcall_v (l7Live_p _ _ r.tx hE.is) ?_ (fun _ => trivial) fun n2 hn2 => ?_
      · simp -dsimp only [go_sem, rl_lit]
        exact congrArg (fun z => [z, D.lit (.int .i64 r.tx)]) (rl_eng32 h.st hqs (by simp -dsimp only [go_sem]; exact sl_eq (rls_still hSr)) (by simp -dsimp only [go_sem]; exact sl_eq (rls_still hfs3)))
      simp -dsimp only [go_sem, h.all, hql, hq0, hq1, hfr, hfr1, hrs.1, hrs.2.1, hrs.2.2.1, e3, hgk, hg1, hK1, hK2, hK, e1]
      refine iwp_plan [(0, true), (1, true), (2, true), (3, true), (4, true), (5, true), (6, true), (7, true), (8, true), (9, false)] [3, 1000] rfl (by decide +kernel) (by decide) [7, 8, 9] (by decide +kernel) ?_
      simp -dsimp only [go_sem, h.all, hql, hq0, hq1, hfr, hfr1, hrs.1, hrs.2.1, hrs.2.2.1, e3, hgk, hg1, hK1, hK2, hK, e1]
      have hLl := isL_last (t := t3) (n := (x.log.recs.length : Int) + 1) hfs3 hfl3 hf3 hK2 hgk
      have hTN : (liveAt x.txs r.tx).toNat = K := by omega
      refine ⟨_, rfl, fun n1 hn1 hfc => ?_⟩
      have hz := hfc.at (l := 22) (by simp -dsimp only [go_sem]; rfl)
      have hR' := hR n1 (by omega) hz.1 hz.2
      refine log_fin (S := .sl b3 true 1 15 (upd (fun _ => zRecD) 0 (recD fr ((x.log.recs.length : Int) + 1)))) (T := .sl t3 true x.txs.length 3 (upd f3 K (liveD g0 ((x.log.recs.length : Int) + 1)))) h hql hqs hq1 hr ho' hrd.2.2 hdj (by simp -dsimp only [go_sem]; exact sl_eq (rls_still hSr)) (by simp -dsimp only [go_sem]; exact sl_eq (rls_still hLl.2.2.1)) (by simp -dsimp only [go_sem, e1]) hSI (by rw [hq0]; exact hR'.2.1) (by unfold setLast; rw [if_pos hK, hTN]; exact hLl.1) (by rw [e3]; exact hLl.2.1) (hLl.2.2.2 fun i hi => (hf3 i hi).wh) (by omega)
    · obtain rfl : zb = true := by have := o20; rw [hq0] at this; exact this.wh.1
      have ht20 : t ∈ (ql 0).tl := by rw [hq0]; simp [D.tl]
      have ht2 : t ∈ (q 2).tl := by rw [hql]; exact tl_child (i := 0) (by decide) ht20
      have htl : t ∈ (D.node engK q).tl := tl_child (i := 2) (by decide) ht2
      have hx : ∀ z ∈ [D.ptr 1000 0 0 [], .node (.agg [1, 1, 1, 1, 1, 4, 4, 1, 1]) fr], z.free t := fun z hz => by
        simp only [List.mem_cons, List.not_mem_nil, or_false] at hz
        rcases hz with rfl | rfl
        · trivial
        · exact free_nil hor.wh fun hx => hdj t hx htl
      have fr1 : ∀ i, i < (Kd.agg [1, 1]).cnt → i ≠ 0 → (ql i).free t := fun i hi hne => by
        have : i = 1 := by have : i < 2 := hi; omega
        subst this; rw [hq1]; trivial
      have hfree : ∀ i, i < x.log.recs.length → (f i).free t := by have := o20; rw [hq0] at this; exact own_free this
      have hfree32 : (D.node (.arr x.txs.length 3) f3).free t := fun i hi => free_nil ((hf3 i hi).wh) (by rw [(hf3 i hi).tl]; simp)
      refine bcall_intro Tryz.func119 rfl (by decide) rfl (by decide) (by rw [Tryz.ntmps119]; simp) fun w0 M n0 gb hW hS hT hgb => iwp_melt (l := 1002) (lq := 1000) (R' := fun _ => none) (xq' := fun g3 => .node engK (upd q 3 (.msl 1002 g3 0 [] 0 x.txs.length 3))) (hS t3 ht3l) rfl hfree3 rfl (.node _ _ 3 (by decide) (has_eq e3)) (fun g3 => ⟨trivial, thaw_upd (thaw_eq e3) fun i hi hne => own_free_ne ho (by decide) ht3 hi hne⟩) (free_nthD hx3) (by decide) (fun l' g b x hx _ => by cases hx) fun g3 => iwp_melt (l := 1001) (lq := 1000) (R' := upd (fun _ => none) 1002 (some (g3, t3, .node (.arr x.txs.length 3) f3))) (xq' := fun g => .node engK (upd (upd q 3 (.msl 1002 g3 0 [] 0 x.txs.length 3)) 2 (.node (.agg [1, 1]) (upd ql 0 (.msl 1001 g 0 [] 0 x.log.recs.length 15))))) (hS t htl) rfl hfree rfl (.node _ _ 2 (by decide) (has_at (show upd q 3 (D.msl 1002 g3 0 [] 0 x.txs.length 3) 2 = .node (.agg [1, 1]) ql from hql) (.node _ _ 0 (by decide) (has_eq hq0)))) (fun g => ⟨trivial, thaw_upd (thaw_at (show upd q 3 (D.msl 1002 g3 0 [] 0 x.txs.length 3) 2 = .node (.agg [1, 1]) ql from hql) (thaw_upd (thaw_eq hq0) fr1)) fun i hi hne => (free_m3 ho ht2 hi hne)⟩) (free_nthD hx) (by decide) (fun l' g b y hy hne => roots_1002 hne hfree32 hy) fun g => ivc_sound ?_; simp -dsimp only [Tryz.f119, go_sem, h.all, hql, hq0, hq1, hfr, hfr1, hrs.1, hrs.2.1, hrs.2.2.1, e3, hgk, hg1, hK1, hK2, hK]
      have ho' := own_lt ho (hT _ (List.mem_cons_self ..) (whole_data ho.wh))
      have hor' := own_lt hor (hT _ (by simp) (whole_data hor.wh))
      have hrd' := (recD_ok (n := (x.log.recs.length : Int) + 1) hr hor').2.1
      have o20' : Own (min lo n0) n0 (.sl t true x.log.recs.length 15 f) := by
        have a := own_sub (i := 2) ho' (by decide)
        rw [hql] at a
        have b := own_sub (i := 0) a (by decide)
        rw [hq0] at b; exact b
      have htn : t < n0 := o20'.sl.2.2.1
      intro g1 b1 hb1
      refine iwp_plan [(0, true), (1, true), (2, true), (3, true), (4, true), (5, true), (6, true), (7, false), (8, false), (9, true), (10, true), (11, true), (12, false)] [3, 1000] rfl (by decide +kernel) (by decide) [9, 10, 11, 12] (by decide +kernel) ?_
      simp -dsimp only [go_sem, h.all, hql, hq0, hq1, hfr, hfr1, hrs.1, hrs.2.1, hrs.2.2.1, e3, hgk, hg1, hK1, hK2, hK, hw]
      intro g2 b2 hb2
      refine ⟨fun y h => h.symm, by omega, by omega, fun g4 b3 n' hn' hb3 hb4 => ?_⟩
      have hR := fun n1 (hn1 : n' ≤ n1) (a1 : b3 < n1) (a2 : b3 ∉ (D.node (.arr (x.log.recs.length + 1) 15) (catD x.log.recs.length f (upd (fun _ => zRecD) 0 (recD fr ((x.log.recs.length : Int) + 1))))).tl) => row_cat (R := IsRec) (sz := 15) (lo := min lo n0) (hi := n0) (m := n0) (n1 := n1) (b := b3) (t := t) (x := { r with lsn := (x.log.recs.length : Int) + 1 }) (z := fun _ => zRecD) (r := recD fr ((x.log.recs.length : Int) + 1)) shp_rec hfs hf o20' hrd.1 hrd'
        (fun y hy hx => hdj y (hrd.2.2 ▸ hy) (tl_child (i := 2) (by decide) (hql ▸ tl_child (i := 0) (by decide) (hq0 ▸ hx)))) (fun _ => still_zRec) (by omega) (by rcases hb4 with h | h <;> omega) (by omega) (by omega) a1 a2
      have hSr : ∀ j, (catD x.log.recs.length f (upd (fun _ => zRecD) 0 (recD fr ((x.log.recs.length : Int) + 1))) j).still := still_cat hfs (still_upd (fun _ => still_zRec) (shp_rec _ _ hrd.1).2.2.2)
      have hSI : IsL 15 IsRec (.sl b3 true (x.log.recs.length + 1) 15 (catD x.log.recs.length f (upd (fun _ => zRecD) 0 (recD fr ((x.log.recs.length : Int) + 1))))) (x.log.recs ++ [{ r with lsn := (x.log.recs.length : Int) + 1 }]) := isL_cat hfs hf hrd.1 (shp_rec _ _ hrd.1).2.2.2 (fun _ => still_zRec) (by omega)
      have hL := isLog_app hqs hq1 hSI
      have hE := (h.txs (by rw [← e3]; exact h.q3) : EngF (upd q 3 (.sl t3 true x.txs.length 3 f3)) x).log hL
      refine iwp_plan [(0, true), (1, true), (2, true), (3, true), (4, true), (5, false), (6, true)] [3, 1000] rfl (by decide +kernel) (by decide) [6] (by decide +kernel) ?_
      simp -dsimp only [go_sem, h.all, hql, hq0, hq1, hfr, hfr1, hrs.1, hrs.2.1, hrs.2.2.1, e3, hgk, hg1, hK1, hK2, hK, hw]
      refine xcall_v (l7Live_p _ _ r.tx hE.is) ?_ (fun _ => trivial) fun n2 hn2 => ?_
      · simp -dsimp only [go_sem, rl_lit]
        exact congrArg (fun z => [z, D.lit (.int .i64 r.tx)]) (rl_eng32 h.st hqs (by simp -dsimp only [go_sem]; exact sl_eq (rls_still hSr)) (by simp -dsimp only [go_sem]; exact sl_eq (rls_still hfs3)))
      simp -dsimp only [go_sem, h.all, hql, hq0, hq1, hfr, hfr1, hrs.1, hrs.2.1, hrs.2.2.1, e3, hgk, hg1, hK1, hK2, hK, hw]
      refine iwp_plan [(0, true), (1, true), (2, true), (3, true), (4, true), (5, true), (6, true), (7, true), (8, true), (9, false)] [3, 1000] rfl (by decide +kernel) (by decide) [7, 8, 9] (by decide +kernel) ?_
      simp -dsimp only [go_sem, h.all, hql, hq0, hq1, hfr, hfr1, hrs.1, hrs.2.1, hrs.2.2.1, e3, hgk, hg1, hK1, hK2, hK, hw]
      have hLl := isL_last (t := t3) (n := (x.log.recs.length : Int) + 1) hfs3 hfl3 hf3 hK2 hgk
      have hTN : (liveAt x.txs r.tx).toNat = K := by omega
      refine ⟨_, rfl, fun n1 hn1 hfc => ?_⟩
      have hz := hfc.at (l := 1001) (by simp -dsimp only [go_sem]; rfl)
      have hR' := hR n1 (by omega) hz.1 hz.2
      refine log_fin (S := .sl b3 true (x.log.recs.length + 1) 15 (catD x.log.recs.length f (upd (fun _ => zRecD) 0 (recD fr ((x.log.recs.length : Int) + 1))))) (T := .sl t3 true x.txs.length 3 (upd f3 K (liveD g0 ((x.log.recs.length : Int) + 1)))) h hql hqs hq1 hr ho' hrd.2.2 hdj (by simp -dsimp only [go_sem]; exact sl_eq (rls_still hSr)) (by simp -dsimp only [go_sem]; exact sl_eq (rls_still hLl.2.2.1)) (by simp -dsimp only [go_sem, hw]) hSI (by rw [hq0]; exact hR'.2.1) (by unfold setLast; rw [if_pos hK, hTN]; exact hLl.1) (by rw [e3]; exact hLl.2.1) (hLl.2.2.2 fun i hi => (hf3 i hi).wh) (by omega)
  · rcases hq0 with ⟨hq0, hnil⟩ | ⟨t, zb, f, hq0, hfs, hfl, hf⟩
    · refine bcall_intro Tryz.func119 rfl (by decide) rfl (by decide) (by rw [Tryz.ntmps119]; simp) fun w0 M n0 gb hW hS hT hgb => ivc_sound ?_; simp -dsimp only [Tryz.f119, go_sem, h.all, hql, hq0, hq1, hfr, hfr1, hrs.1, hrs.2.1, hrs.2.2.1, hK]
      have ho' := own_lt ho (hT _ (List.mem_cons_self ..) (whole_data ho.wh))
      have hor' := own_lt hor (hT _ (by simp) (whole_data hor.wh))
      have hrd' := (recD_ok (n := (x.log.recs.length : Int) + 1) hr hor').2.1
      have e1 : IntKind.i64.wrap (((0 : Nat) : Int) + 1) = (x.log.recs.length : Int) + 1 := by rw [hnil]; rfl
      intro g1 b1 hb1
      refine iwp_plan [(0, true), (1, true), (2, true), (3, true), (4, true), (5, true), (6, true), (7, false), (8, false), (9, true), (10, true), (11, true), (12, false)] [3, 1000] rfl (by decide +kernel) (by decide) [9, 10, 11, 12] (by decide +kernel) ?_
      simp -dsimp only [go_sem, h.all, hql, hq0, hq1, hfr, hfr1, hrs.1, hrs.2.1, hrs.2.2.1, hK, e1]
      intro g2 b2 hb2
      refine ⟨fun y h => h.symm, fun g4 b3 n' hn' hb3 hb4 => ?_⟩
      have hR := fun n1 (hn1 : n' ≤ n1) (a1 : b3 < n1) (a2 : b3 ∉ (D.node (.arr 1 15) (upd (fun _ => zRecD) 0 (recD fr ((x.log.recs.length : Int) + 1)))).tl) => row_one (R := IsRec) (sz := 15) (lo := min lo n0) (hi := n0) (m := n0) (n1 := n1) (b := b3) (x := { r with lsn := (x.log.recs.length : Int) + 1 }) (z := fun _ => zRecD) (r := recD fr ((x.log.recs.length : Int) + 1)) shp_rec hrd.1 hrd' (fun _ => still_zRec) (by omega) (by omega) (by omega) (by omega) a1 a2
      have hSr : ∀ j, (upd (fun _ => zRecD) 0 (recD fr ((x.log.recs.length : Int) + 1)) j).still := still_upd (fun _ => still_zRec) (shp_rec _ _ hrd.1).2.2.2
      have hSI : IsL 15 IsRec (.sl b3 true 1 15 (upd (fun _ => zRecD) 0 (recD fr ((x.log.recs.length : Int) + 1)))) (x.log.recs ++ [{ r with lsn := (x.log.recs.length : Int) + 1 }]) := by rw [show ∀ y, x.log.recs ++ [y] = [y] from fun y => by rw [hnil]; rfl]; exact isL_one (shp_rec _ _ hrd.1).2.2.2 hrd.1 (fun _ => still_zRec)
      have hL := isLog_app hqs hq1 hSI
      have hE := h.log hL
      refine iwp_plan [(0, true), (1, true), (2, true), (3, true), (4, true), (5, false), (6, true)] [3, 1000] rfl (by decide +kernel) (by decide) [6] (by decide +kernel) ?_
      simp -dsimp only [go_sem, h.all, hql, hq0, hq1, hfr, hfr1, hrs.1, hrs.2.1, hrs.2.2.1, hK, e1]
      refine xcall_v (l7Live_p _ _ r.tx hE.is) ?_ (fun _ => trivial) fun n2 hn2 => ?_
      · simp -dsimp only [go_sem, rl_lit]
        exact congrArg (fun z => [z, D.lit (.int .i64 r.tx)]) (rl_eng2 h.st hqs (by simp -dsimp only [go_sem]; exact sl_eq (rls_still hSr)))
      simp -dsimp only [go_sem, h.all, hql, hq0, hq1, hfr, hfr1, hrs.1, hrs.2.1, hrs.2.2.1, hK, e1]
      refine ⟨_, rfl, fun n1 hn1 hfc => ?_⟩
      have hz := hfc.at (l := 22) (by simp -dsimp only [go_sem]; rfl)
      have hR' := hR n1 (by omega) hz.1 hz.2
      exact log_fin0 (S := .sl b3 true 1 15 (upd (fun _ => zRecD) 0 (recD fr ((x.log.recs.length : Int) + 1)))) h hql hqs hq1 hr ho' hrd.2.2 hdj (by simp -dsimp only [go_sem]; exact sl_eq (rls_still hSr)) (by simp -dsimp only [go_sem, e1]) hSI (by rw [hq0]; exact hR'.2.1) (by unfold setLast; rw [if_neg hK]; exact h.q3) (by omega)
    · obtain rfl : zb = true := by have := o20; rw [hq0] at this; exact this.wh.1
      have ht20 : t ∈ (ql 0).tl := by rw [hq0]; simp [D.tl]
      have ht2 : t ∈ (q 2).tl := by rw [hql]; exact tl_child (i := 0) (by decide) ht20
      have htl : t ∈ (D.node engK q).tl := tl_child (i := 2) (by decide) ht2
      have hx : ∀ z ∈ [D.ptr 1000 0 0 [], .node (.agg [1, 1, 1, 1, 1, 4, 4, 1, 1]) fr], z.free t := fun z hz => by
        simp only [List.mem_cons, List.not_mem_nil, or_false] at hz
        rcases hz with rfl | rfl
        · trivial
        · exact free_nil hor.wh fun hx => hdj t hx htl
      have fr1 : ∀ i, i < (Kd.agg [1, 1]).cnt → i ≠ 0 → (ql i).free t := fun i hi hne => by
        have : i = 1 := by have : i < 2 := hi; omega
        subst this; rw [hq1]; trivial
      have hfree : ∀ i, i < x.log.recs.length → (f i).free t := by have := o20; rw [hq0] at this; exact own_free this
      refine bcall_intro Tryz.func119 rfl (by decide) rfl (by decide) (by rw [Tryz.ntmps119]; simp) fun w0 M n0 gb hW hS hT hgb => iwp_melt (l := 1001) (lq := 1000) (R' := fun _ => none) (xq' := fun g => .node engK (upd q 2 (.node (.agg [1, 1]) (upd ql 0 (.msl 1001 g 0 [] 0 x.log.recs.length 15))))) (hS t htl) rfl hfree rfl (.node _ _ 2 (by decide) (has_at hql (.node _ _ 0 (by decide) (has_eq hq0)))) (fun g => ⟨trivial, thaw_upd (thaw_at hql (thaw_upd (thaw_eq hq0) fr1)) fun i hi hne => own_free_ne ho (by decide) ht2 hi hne⟩) (free_nthD hx) (by decide) (fun l' g b x hx _ => by cases hx) fun g => ivc_sound ?_; simp -dsimp only [Tryz.f119, go_sem, h.all, hql, hq0, hq1, hfr, hfr1, hrs.1, hrs.2.1, hrs.2.2.1, hK]
      have ho' := own_lt ho (hT _ (List.mem_cons_self ..) (whole_data ho.wh))
      have hor' := own_lt hor (hT _ (by simp) (whole_data hor.wh))
      have hrd' := (recD_ok (n := (x.log.recs.length : Int) + 1) hr hor').2.1
      have o20' : Own (min lo n0) n0 (.sl t true x.log.recs.length 15 f) := by
        have a := own_sub (i := 2) ho' (by decide)
        rw [hql] at a
        have b := own_sub (i := 0) a (by decide)
        rw [hq0] at b; exact b
      have htn : t < n0 := o20'.sl.2.2.1
      intro g1 b1 hb1
      refine iwp_plan [(0, true), (1, true), (2, true), (3, true), (4, true), (5, true), (6, true), (7, false), (8, false), (9, true), (10, true), (11, true), (12, false)] [3, 1000] rfl (by decide +kernel) (by decide) [9, 10, 11, 12] (by decide +kernel) ?_
      simp -dsimp only [go_sem, h.all, hql, hq0, hq1, hfr, hfr1, hrs.1, hrs.2.1, hrs.2.2.1, hK, hw]
      intro g2 b2 hb2
      refine ⟨fun y h => h.symm, by omega, by omega, fun g4 b3 n' hn' hb3 hb4 => ?_⟩
      have hR := fun n1 (hn1 : n' ≤ n1) (a1 : b3 < n1) (a2 : b3 ∉ (D.node (.arr (x.log.recs.length + 1) 15) (catD x.log.recs.length f (upd (fun _ => zRecD) 0 (recD fr ((x.log.recs.length : Int) + 1))))).tl) => row_cat (R := IsRec) (sz := 15) (lo := min lo n0) (hi := n0) (m := n0) (n1 := n1) (b := b3) (t := t) (x := { r with lsn := (x.log.recs.length : Int) + 1 }) (z := fun _ => zRecD) (r := recD fr ((x.log.recs.length : Int) + 1)) shp_rec hfs hf o20' hrd.1 hrd'
        (fun y hy hx => hdj y (hrd.2.2 ▸ hy) (tl_child (i := 2) (by decide) (hql ▸ tl_child (i := 0) (by decide) (hq0 ▸ hx)))) (fun _ => still_zRec) (by omega) (by rcases hb4 with h | h <;> omega) (by omega) (by omega) a1 a2
      have hSr : ∀ j, (catD x.log.recs.length f (upd (fun _ => zRecD) 0 (recD fr ((x.log.recs.length : Int) + 1))) j).still := still_cat hfs (still_upd (fun _ => still_zRec) (shp_rec _ _ hrd.1).2.2.2)
      have hSI : IsL 15 IsRec (.sl b3 true (x.log.recs.length + 1) 15 (catD x.log.recs.length f (upd (fun _ => zRecD) 0 (recD fr ((x.log.recs.length : Int) + 1))))) (x.log.recs ++ [{ r with lsn := (x.log.recs.length : Int) + 1 }]) := isL_cat hfs hf hrd.1 (shp_rec _ _ hrd.1).2.2.2 (fun _ => still_zRec) (by omega)
      have hL := isLog_app hqs hq1 hSI
      have hE := h.log hL
      refine iwp_plan [(0, true), (1, true), (2, true), (3, true), (4, true), (5, false), (6, true)] [3, 1000] rfl (by decide +kernel) (by decide) [6] (by decide +kernel) ?_
      simp -dsimp only [go_sem, h.all, hql, hq0, hq1, hfr, hfr1, hrs.1, hrs.2.1, hrs.2.2.1, hK, hw]
      refine xcall_v (l7Live_p _ _ r.tx hE.is) ?_ (fun _ => trivial) fun n2 hn2 => ?_
      · simp -dsimp only [go_sem, rl_lit]
        exact congrArg (fun z => [z, D.lit (.int .i64 r.tx)]) (rl_eng2 h.st hqs (by simp -dsimp only [go_sem]; exact sl_eq (rls_still hSr)))
      simp -dsimp only [go_sem, h.all, hql, hq0, hq1, hfr, hfr1, hrs.1, hrs.2.1, hrs.2.2.1, hK, hw]
      refine ⟨_, rfl, fun n1 hn1 hfc => ?_⟩
      have hz := hfc.at (l := 1001) (by simp -dsimp only [go_sem]; rfl)
      have hR' := hR n1 (by omega) hz.1 hz.2
      exact log_fin0 (S := .sl b3 true (x.log.recs.length + 1) 15 (catD x.log.recs.length f (upd (fun _ => zRecD) 0 (recD fr ((x.log.recs.length : Int) + 1))))) h hql hqs hq1 hr ho' hrd.2.2 hdj (by simp -dsimp only [go_sem]; exact sl_eq (rls_still hSr)) (by simp -dsimp only [go_sem, hw]) hSI (by rw [hq0]; exact hR'.2.1) (by unfold setLast; rw [if_neg hK]; exact h.q3) (by omega)
end Go.Proofs.YtncinhlaabdlaaaGreat.IM
end
