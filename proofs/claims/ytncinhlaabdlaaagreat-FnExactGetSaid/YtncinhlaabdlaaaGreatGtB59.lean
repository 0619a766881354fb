/- Several of my texts in one module (merge.py, shake.py). -/
import Derived.Test.YtncinhlaabdlaaaGreatGtB31
import Derived.Test.YtncinhlaabdlaaaGreatGtB54
import Derived.Test.YtncinhlaabdlaaaGreatGtB57
import Derived.Test.YtncinhlaabdlaaaGreatGtB43
section
namespace Go.Proofs.YtncinhlaabdlaaaGreat.IM
open Go Go.RowKit
set_option linter.unusedVariables false
set_option linter.unusedSimpArgs false
set_option maxHeartbeats 2000000
set_option maxRecDepth 20000
def BDraw (P : Program) (W : Nat → Prop) (D : Nat → Prop) (o : Oper) (st : St) (K : St → Prop) : Prop :=
  o.guard = none ∧ st.dstOk o.dst ∧ ∃ fx xs ts fid c, o.op = .call { callee := .value fx, args := xs, argTypes := ts } ∧ st.ev fx = .fn fid 0 c ∧
    ∃ d0 d rest0 rest Q l g b oo q T T2 R', xs.toList.map st.ev = .ptr l g oo q :: rest0 ∧ rest0.map (rl 9 (labBV st.R l g)) = rest ∧ st.R l = some (g, b, d) ∧ d.still ∧ (∀ b ∈ d0.tl, b ∈ d.tl) ∧ (∀ b ∈ d0.tl, W b) ∧ BCall P fid d0 d rest Q oo q T T2 ∧
      (∀ t, T t → t ∈ d.tl ∨ ∃ x ∈ rest0, t ∈ x.tl) ∧ (∀ t, T2 t → t ∈ d.tl ∨ ∃ x ∈ rest0, t ∈ x.tl) ∧ R' l = none ∧ CarR d0 .any st.R R' ∧
      ∃ s' : Nat → IM.D, (∀ t, s' t = .any ∨ (s' t = st.s t ∧ Carry d0 .any (st.s t) (st.s t))) ∧ (∀ t, D t → s' t = st.s t) ∧
        ∀ n0 n1 d' r, st.n ≤ n0 → n0 ≤ n1 → (∀ t ∈ d.tl, t < n0) → Q n0 n1 d' r → d'.tags (fun b => T2 b ∨ n0 ≤ b) → K (({ N := st.N, n := n1, s := s', R := upd R' l (some (g, b, d')) } : St).put o.dst r)
def vcGM (P : Program) (W D : Nat → Prop) (ops : Array Oper) (o : Oper) (st : St) (K : St → Prop) : Prop := vcG P ops o st K ∨ BDraw P W D o st K
theorem BDraw.mono {P : Program} {W D D' : Nat → Prop} {o : Oper} {st : St} {K K' : St → Prop} (hk : ∀ st, K st → K' st) (hd : ∀ t, D' t → D t) (h : BDraw P W D o st K) : BDraw P W D' o st K' := by
  obtain ⟨h1, h2, fx, xs, ts, fid, c, h3, h4, d0, d, rest0, rest, Q, l, g, b, oo, q, T, T2, R', a1, a2, a3, a4, a5, a6, a7, a8, a9, a10, a11, s', b1, b2, b3⟩ := h
  exact ⟨h1, h2, fx, xs, ts, fid, c, h3, h4, d0, d, rest0, rest, Q, l, g, b, oo, q, T, T2, R', a1, a2, a3, a4, a5, a6, a7, a8, a9, a10, a11, s', b1, fun t ht => b2 t (hd t ht), fun n0 n1 d' r e1 e2 e3 e4 e5 => hk _ (b3 n0 n1 d' r e1 e2 e3 e4 e5)⟩
theorem vcGM_mono {P : Program} {W D : Nat → Prop} {ops : Array Oper} {o : Oper} {st : St} {K K' : St → Prop} (hk : ∀ st, K st → K' st) (h : vcGM P W D ops o st K) : vcGM P W D ops o st K' :=
  h.imp (vcG_mono hk) (BDraw.mono hk fun _ h => h)
section
variable {P : Program} {w0 : World} {M : Fr} {ops : Array Oper} {W : Nat → Prop}
theorem vcGM_wp {D : Nat → Prop} {Q : Exit → Act → World → Prop} {i : Nat} {o : Oper} (hW : ∀ b, W b → w0.heap.size ≤ b ∨ M.m b) (hi : ops[i]? = some o) {st : St} {a : Act} {w : World} {K : St → Prop} (hs : SR w0 M st a w) (hv : vcGM P W D ops o st K) : wpOp P ops Q i (Lift w0 M K) a w := by
  rcases hv with hv | hv
  · exact vcG_wp hi hs hv
  obtain ⟨h1, h2, fx, xs, ts, fid, c, h3, h4, d0, d, rest0, rest, Q', l, g, b, oo, q, T, T2, R', a1, a2, a3, a4, a5, a6, a7, a8, a9, a10, a11, s', b1, b2, b3⟩ := hv
  obtain ⟨e, rfl, hg⟩ := hs
  obtain ⟨dst, op, ty, pos, after, gd⟩ := o
  obtain rfl : gd = none := h1
  obtain rfl : op = _ := h3
  unfold wpOp
  simp only [hi]
  rw [if_pos (by simp [Region.wanted])]
  exact .inl (op_bcall hg fx xs ts h4 h2 hW ⟨d0, d, rest0, rest, Q', l, g, b, oo, q, T, T2, rfl, a1, a2, a3, a4, a5, a6, a7, a8, a9, fun n0 n1 d' r e1 e2 e3 e4 e5 =>
    ⟨s', R', fun t => (b1 t).elim (fun h => by rw [h]; exact .drop _) fun h => by rw [h.1]; exact h.2, a10, a11, Conv.zero (b3 n0 n1 d' r e1 e2 e3 e4 e5)⟩⟩)
def less (D : Nat → Prop) (dst : Option Tmp) : Nat → Prop := fun t => D t ∧ dst ≠ some t
theorem vcGM_put {D : Nat → Prop} {S : Roots → Prop} {oi oj : Oper} {v : IM.D} {st : St} {K : St → Prop} (hap : oi.apart ops oj = true) (hy : YD P ops S oi v st) (hE : ∀ d, oi.dst = some d → D d) (hL : ∀ t ∈ oi.looksAt ops, less D oi.dst t) (h : vcGM P W D ops oj (st.put oi.dst v) K) :
    vcGM P W (less D oi.dst) ops oj st fun st' => YD P ops S oi v st' ∧ K (st'.put oi.dst v) := by
  rcases h with h | h
  · exact .inl (vcG_put hap hy h)
  obtain ⟨k1, k2, k3⟩ := Oper.apart_spec hap
  obtain ⟨h1, h2, fx, xs, ts, fid, c, h3, h4, d0, d, rest0, rest, Q', l, g, b, oo, q, T, T2, R', a1, a2, a3, a4, a5, a6, a7, a8, a9, a10, a11, s', b1, b2, b3⟩ := h
  have hev : ∀ x ∈ oj.op.operands, (st.put oi.dst v).ev x = st.ev x := fun x hx => St.ev_put fun d hd hxd => k1 d hd (mem_looks_op (by rw [← hxd]; exact hx))
  rw [h3] at hev
  have hfx : (st.put oi.dst v).ev fx = st.ev fx := hev fx (by simp [Op.operands, Call.operands])
  have hxs : xs.toList.map (st.put oi.dst v).ev = xs.toList.map st.ev := List.map_congr_left fun x hx => hev x (by simp [Op.operands, Call.operands, Array.mem_toList_iff.1 hx])
  rw [hfx] at h4
  rw [hxs] at a1
  simp only [St.put_R, St.put_n, St.put_N] at a2 a3 a11 b3
  have hs'd : ∀ t, oi.dst ≠ some t → (st.put oi.dst v).s t = st.s t := fun t ht => St.s_put fun d hd e => ht (e ▸ hd)
  let s2 : Nat → IM.D := fun t => if oi.dst = some t then .any else s' t
  have hs2 : ∀ t, oi.dst ≠ some t → s2 t = s' t := fun t ht => if_neg ht
  refine .inr ⟨h1, by simpa [St.dstOk] using h2, fx, xs, ts, fid, c, h3, h4, d0, d, rest0, rest, Q', l, g, b, oo, q, T, T2, R', a1, a2, a3, a4, a5, a6, a7, a8, a9, a10, a11, s2, fun t => ?_, fun t ht => ?_, fun n0 n1 d' r e1 e2 e3 e4 e5 => ⟨?_, ?_⟩⟩
  · by_cases ht : oi.dst = some t
    · exact .inl (if_pos ht)
    · rw [hs2 t ht, ← hs'd t ht]; exact b1 t
  · rw [hs2 t ht.2, ← hs'd t ht.2]; exact b2 t ht.1
  · 
    have hk : ∀ t ∈ oi.looksAt ops, s2 t = st.s t := fun t ht => by
      obtain ⟨q1, q2⟩ := hL t ht
      rw [hs2 t q2, ← hs'd t q2]; exact b2 t q1
    obtain ⟨y0, y⟩ := hy
    have hput : ∀ t ∈ oi.looksAt ops, (({ N := st.N, n := n1, s := s2, R := upd R' l (some (g, b, d')) } : St).put oj.dst r).s t = st.s t := fun t ht => by
      rw [St.s_put fun d hd e => k3 d hd (e ▸ ht)]; exact hk t ht
    have hev2 : ∀ x ∈ oi.op.operands, st.ev x = (({ N := st.N, n := n1, s := s2, R := upd R' l (some (g, b, d')) } : St).put oj.dst r).ev x := fun x hx => by
      cases x with
      | tmp t => exact (hput t (mem_looks_op hx)).symm
      | _ => rfl
    have hnf : st.ev (.const .nilFunc) = (({ N := st.N, n := n1, s := s2, R := upd R' l (some (g, b, d')) } : St).put oj.dst r).ev (.const .nilFunc) := rfl
    refine ⟨by simpa [St.dstOk] using y0, ?_⟩
    split
    · rename_i hg; rw [hg] at y; exact fun R n k hS hk => eff_congr hev2 hnf (y R n k hS hk)
    · rename_i hg
      rw [hg] at y
      simp only at y
      split
      · rename_i t ht
        rw [ht] at y
        refine ⟨by simpa using y.1, ?_⟩
        rw [hput t (mem_looks_guard hg ht)]
        exact y.2.mono (fun h3 R n k hS hk => eff_congr hev2 hnf (h3 R n k hS hk)) id
      · rename_i ht; rw [ht] at y; exact y
  · have hb := b3 n0 n1 d' r e1 e2 e3 e4 e5
    have e : ((({ N := st.N, n := n1, s := s2, R := upd R' l (some (g, b, d')) } : St).put oj.dst r).put oi.dst v) = (({ N := st.N, n := n1, s := s', R := upd R' l (some (g, b, d')) } : St).put oj.dst r) := by
      rw [← St.put_comm _ _ _ k2]
      congr 1
      cases hd : oi.dst with
      | none =>
        show ({ N := st.N, n := n1, s := s2, R := _ } : St) = _
        congr 1
        funext t
        exact hs2 t (by rw [hd]; simp)
      | some d =>
        show ({ N := st.N, n := n1, s := upd s2 d v, R := _ } : St) = _
        congr 1
        funext t
        by_cases ht : t = d
        · subst ht
          rw [upd_same, b2 t (hE t hd), hd]
          exact (upd_same _ _ _).symm
        · rw [upd_ne _ _ ht]
          exact hs2 t (by rw [hd]; intro h; exact ht (Option.some.inj h).symm)
    rw [e]; exact hb
def vcAnyM (P : Program) (W D : Nat → Prop) (ops : Array Oper) (S : Nat → Roots → Roots → Prop) (K : St → Prop) : Nat → Array Bool → St → Prop
  | 0, listed, st => Region.ready .any ops listed = [] ∧ K st
  | fuel + 1, listed, st => (Region.ready .any ops listed = [] → K st) ∧
    ∀ i ∈ Region.ready .any ops listed, ∃ o, ops[i]? = some o ∧ vcGM P W D ops o st fun st' => S i st.R st'.R ∧ vcAnyM P W D ops S K fuel (listed.setIfInBounds i true) st'
theorem vcAnyM_sound {D : Nat → Prop} {S : Nat → Roots → Roots → Prop} {K : St → Prop} {Q : Exit → Act → World → Prop} (hW : ∀ b, W b → w0.heap.size ≤ b ∨ M.m b) (hK : ∀ st a w, K st → SR w0 M st a w → Q .normal a w) : ∀ (fuel : Nat) (listed : Array Bool) (st : St) (a : Act) (w : World), SR w0 M st a w → vcAnyM P W D ops S K fuel listed st → wpAny P .any ops Q fuel listed a w := by
  intro fuel
  induction fuel with
  | zero => intro listed st a w hs h; exact ⟨h.1, hK _ _ _ h.2 hs⟩
  | succ fuel ih =>
    intro listed st a w hs h
    refine ⟨fun h0 => hK _ _ _ (h.1 h0) hs, fun i hi => ?_⟩
    obtain ⟨o, ho, hv⟩ := h.2 i hi
    refine wpOp_mono ?_ (vcGM_wp hW ho hs hv)
    rintro a' w' ⟨st', ⟨_, h1⟩, h2⟩
    exact ih _ _ _ _ h2 h1
theorem vcAnyM_first {D : Nat → Prop} {S : Nat → Roots → Roots → Prop} {S0 : Roots → Prop} {K : St → Prop} {i : Nat} {oi : Oper} {v : IM.D} (hi : ops[i]? = some oi) (hE : ∀ d, oi.dst = some d → D d) (hL : ∀ t ∈ oi.looksAt ops, less D oi.dst t) (hSi : ∀ R, S i R R)
    (hSj : ∀ j oj R R', ops[j]? = some oj → j ≠ i → (∀ e ∈ oj.after, Region.binds .any e = true → e.on ≠ i) → S j R R' → S0 R → S0 R') : ∀ (fuel : Nat) (listed : Array Bool) (st : St),
    (∀ j oj, ops[j]? = some oj → j ≠ i → listed.getD j true = false → (∀ e ∈ oj.after, Region.binds .any e = true → e.on ≠ i) → oi.apart ops oj = true) →
    i ∈ Region.ready .any ops listed → YD P ops S0 oi v st → S0 st.R → vcAnyM P W D ops S K fuel (listed.setIfInBounds i true) (st.put oi.dst v) → vcAnyM P W (less D oi.dst) ops S K (fuel + 1) listed st := by
  have weak : ∀ (fuel : Nat) (listed : Array Bool) (st : St), vcAnyM P W D ops S K fuel listed st → vcAnyM P W (less D oi.dst) ops S K fuel listed st := by
    intro fuel
    induction fuel with
    | zero => intro listed st h; exact h
    | succ fuel ih =>
      intro listed st h
      refine ⟨h.1, fun j hj => ?_⟩
      obtain ⟨oj, hoj, h1⟩ := h.2 j hj
      refine ⟨oj, hoj, ?_⟩
      rcases h1 with h1 | h1
      · exact .inl (vcG_mono (fun st' h => ⟨h.1, ih _ _ h.2⟩) h1)
      · exact .inr (BDraw.mono (fun st' h => ⟨h.1, ih _ _ h.2⟩) (fun t ht => ht.1) h1)
  intro fuel
  induction fuel with
  | zero =>
    intro listed st _ hr hy hS H
    refine ⟨fun h => (by rw [h] at hr; cases hr), fun j hj => ?_⟩
    by_cases hji : j = i
    · subst hji; exact ⟨oi, hi, .inl (hy.vcG hS ⟨by simpa using hSi _, H⟩)⟩
    · have := ready_mono hj hji
      rw [H.1] at this
      cases this
  | succ fuel ih =>
    intro listed st hfree hr hy hS H
    refine ⟨fun h => (by rw [h] at hr; cases hr), fun j hj => ?_⟩
    by_cases hji : j = i
    · subst hji; exact ⟨oi, hi, .inl (hy.vcG hS ⟨by simpa using hSi _, weak _ _ _ H⟩)⟩
    · obtain ⟨oj, hoj, h1⟩ := H.2 j (ready_mono hj hji)
      obtain ⟨hjun, oj', hoj', hall⟩ := mem_ready.1 hj
      obtain rfl : oj = oj' := by rw [hoj] at hoj'; exact Option.some.inj hoj'
      have hnot : ∀ e ∈ oj.after, Region.binds .any e = true → e.on ≠ i := fun e he hb heq => by
        have h1 := hall e he hb
        have h0 := (mem_ready.1 hr).1
        rw [heq] at h1
        rcases Nat.lt_or_ge i listed.size with h' | h'
        · simp [h'] at h0 h1; rw [h0] at h1; cases h1
        · simp [Array.getElem?_eq_none h'] at h1
      have hfree' : ∀ k ok, ops[k]? = some ok → k ≠ i → (listed.setIfInBounds j true).getD k true = false →
          (∀ e ∈ ok.after, Region.binds .any e = true → e.on ≠ i) → oi.apart ops ok = true := fun k ok hk hki hun hno => by
        refine hfree k ok hk hki ?_ hno
        by_cases hjk : j = k
        · subst hjk; exact hjun
        · rw [getD_set_ne true hjk] at hun; exact hun
      refine ⟨oj, hoj, vcGM_mono (fun st' h3 => ?_) (vcGM_put (hfree j oj hoj hji hjun hnot) hy hE hL h1)⟩
      obtain ⟨h4, h5, h6⟩ := h3
      rw [St.put_R, St.put_R] at h5
      refine ⟨h5, ih (listed.setIfInBounds j true) st' hfree' (ready_mono hr (Ne.symm hji)) h4 (hSj j oj _ _ hoj hji hnot h5 hS) ?_⟩
      rw [Array.setIfInBounds_comm _ _ hji]
      exact h6
def dryO : Op → Bool
  | .load .. => false
  | .slice .. => false
  | .call .. => false
  | .index .. => false
  | _ => true
def vcPlanM (P : Program) (W D : Nat → Prop) (ops : Array Oper) (Ls B : List Nat) (K : St → Prop) : List (Nat × Option Bool) → St → Prop
  | [], st => K st
  | (i, f) :: rest, st =>
    match ops[i]?, f with
    | some o, some true => vcE P ops (if dryO o.op then [] else Ls) o st (vcPlanM P W D ops Ls B K rest)
    | some o, some false => vcG P ops o st fun st' => (B.contains i = true ∨ ∀ l ∈ Ls, st'.R l = st.R l) ∧ vcPlanM P W D ops Ls B K rest st'
    | some o, none => BDraw P W D o st fun st' => (B.contains i = true ∨ ∀ l ∈ Ls, st'.R l = st.R l) ∧ vcPlanM P W D ops Ls B K rest st'
    | none, _ => False
theorem vcAnyM_weak {D D' : Nat → Prop} {S : Nat → Roots → Roots → Prop} {K : St → Prop} (hd : ∀ t, D' t → D t) : ∀ (fuel : Nat) (listed : Array Bool) (st : St), vcAnyM P W D ops S K fuel listed st → vcAnyM P W D' ops S K fuel listed st := by
  intro fuel
  induction fuel with
  | zero => intro listed st h; exact h
  | succ fuel ih =>
    intro listed st h
    refine ⟨h.1, fun j hj => ?_⟩
    obtain ⟨oj, hoj, h1⟩ := h.2 j hj
    refine ⟨oj, hoj, ?_⟩
    rcases h1 with h1 | h1
    · exact .inl (vcG_mono (fun st' h => ⟨h.1, ih _ _ h.2⟩) h1)
    · exact .inr (BDraw.mono (fun st' h => ⟨h.1, ih _ _ h.2⟩) hd h1)
end
def vcMP (P : Program) (W : Nat → Prop) (D : List Nat) (ops : Array Oper) (Ls B : List Nat) (K : St → Prop) (plan : List (Nat × Option Bool)) (st : St) (_ : Tok K := .mk) (_ : Tok ops := .mk) (_ : Tok W := .mk) : Prop := vcPlanM P W (· ∈ D) ops Ls B K plan st
def BDT (P : Program) (W : Nat → Prop) (D : List Nat) (f : Nat) (xs : List Operand) (dst : Option Tmp) (st : St) (K : St → Prop) (_ : Tok K := .mk) (_ : Tok W := .mk) : Prop :=
  ∃ d0 d rest0 rest Q l g b oo q T T2 R', xs.map st.ev = .ptr l g oo q :: rest0 ∧ rest0.map (rl 9 (labBV st.R l g)) = rest ∧ st.R l = some (g, b, d) ∧ d.still ∧ (∀ b ∈ d0.tl, b ∈ d.tl) ∧ (∀ b ∈ d0.tl, W b) ∧ BCall P f d0 d rest Q oo q T T2 ∧
      (∀ t, T t → t ∈ d.tl ∨ ∃ x ∈ rest0, t ∈ x.tl) ∧ (∀ t, T2 t → t ∈ d.tl ∨ ∃ x ∈ rest0, t ∈ x.tl) ∧ R' l = none ∧ CarR d0 .any st.R R' ∧
      ∃ s' : Nat → IM.D, (∀ t, s' t = .any ∨ (s' t = st.s t ∧ Carry d0 .any (st.s t) (st.s t))) ∧ (∀ t, t ∈ D → s' t = st.s t) ∧
        ∀ n0 n1 d' r, st.n ≤ n0 → n0 ≤ n1 → (∀ t ∈ d.tl, t < n0) → Q n0 n1 d' r → d'.tags (fun b => T2 b ∨ n0 ≤ b) → K (({ N := st.N, n := n1, s := s', R := upd R' l (some (g, b, d')) } : St).put dst r)
section
variable {P : Program} {w0 : World} {M : Fr}
variable (W : Nat → Prop) (D : List Nat) (ops : Array Oper) (Ls B : List Nat) (K : St → Prop) (plan : List (Nat × Option Bool)) (st : St) (dst : Option Tmp) (ty : TypeId) (pos : String) (after : Array Edge)
@[go_sem] theorem vcMP_nil : vcMP P W D ops Ls B K [] st = K st := (rfl)
@[go_sem] theorem vcMP_early (i : Nat) : vcMP P W D ops Ls B K ((i, some true) :: plan) st = wSome (ops[i]?) fun o => wSome (some (if dryO o.op = true then [] else Ls)) fun L => vcET P ops L o st fun st => vcMP P W D ops Ls B K plan st := by
  simp only [vcMP, vcPlanM, vcET]
  cases ops[i]? <;> rfl
@[go_sem] theorem vcMP_late (i : Nat) : vcMP P W D ops Ls B K ((i, some false) :: plan) st = wSome (ops[i]?) fun o => vcGT P ops o st fun st' => (B.contains i = true ∨ ∀ l ∈ Ls, st'.R l = st.R l) ∧ vcMP P W D ops Ls B K plan st' := by
  simp only [vcMP, vcPlanM, vcGT]
  cases ops[i]? <;> rfl
def vcBT (P : Program) (W : Nat → Prop) (D : List Nat) (o : Oper) (st : St) (K : St → Prop) (_ : Tok K := .mk) (_ : Tok W := .mk) (_ : Tok o := .mk) : Prop := BDraw P W (· ∈ D) o st K
@[go_sem] theorem vcMP_call (i : Nat) : vcMP P W D ops Ls B K ((i, none) :: plan) st = wSome (ops[i]?) fun o => vcBT P W D o st fun st' => (B.contains i = true ∨ ∀ l ∈ Ls, st'.R l = st.R l) ∧ vcMP P W D ops Ls B K plan st' := by
  simp only [vcMP, vcPlanM, vcBT]
  cases ops[i]? <;> rfl
end
@[go_sem] theorem dry_load (T : TypeId) (x : Operand) : dryO (.load T x) = false := (rfl)
@[go_sem] theorem dry_call (c : Call) : dryO (.call c) = false := (rfl)
@[go_sem] theorem dry_move (x : Operand) : dryO (.move x) = true := (rfl)
@[go_sem] theorem dry_assign (x : Operand) : dryO (.assign x) = true := (rfl)
@[go_sem] theorem dry_nilCheck (x : Operand) : dryO (.nilCheck x) = true := (rfl)
@[go_sem] theorem dry_fieldAddr (T : TypeId) (x : Operand) (i : Nat) : dryO (.fieldAddr T x i) = true := (rfl)
@[go_sem] theorem dry_indexAddr (T : TypeId) (x y : Operand) : dryO (.indexAddr T x y) = true := (rfl)
@[go_sem] theorem dry_extract (x : Operand) (i : Nat) : dryO (.extract x i) = true := (rfl)
@[go_sem] theorem dry_binOp (b : BinOp) (T : TypeId) (x y : Operand) (U : TypeId) : dryO (.binOp b T x y U) = true := (rfl)
@[go_sem] theorem dry_build (T : TypeId) (ps : Array (Nat × Operand)) : dryO (.build T ps) = true := (rfl)
theorem vcBT_of {P : Program} {W : Nat → Prop} {D : List Nat} {K : St → Prop} {st : St} {dst : Option Tmp} {ty : TypeId} {pos : String} {after : Array Edge} {f : Nat} {xs : List Operand} {ts : Array TypeId} (h2 : st.dstOk dst) (h : BDT P W D f xs dst st K) : vcBT P W D ⟨dst, .call { callee := .value (.func f), args := xs.toArray, argTypes := ts }, ty, pos, after, none⟩ st K := by
  obtain ⟨d0, d, rest0, rest, Q, l, g, b, oo, q, T, T2, R', a1, h⟩ := h
  exact ⟨rfl, h2, _, _, _, f, _, rfl, rfl, d0, d, rest0, rest, Q, l, g, b, oo, q, T, T2, R', by rw [List.toList_toArray]; exact a1, h⟩
theorem pickS_in {s b : Nat → D} : ∀ {K : List Nat} {t : Nat}, t ∈ K → pickS s K b t = s t
  | k :: K, t, h => by
    show upd (pickS s K b) k (s k) t = s t
    by_cases ht : t = k
    · subst ht; exact upd_same _ _ _
    · rw [upd_ne _ _ ht]; exact pickS_in ((List.mem_cons.1 h).resolve_left ht)
theorem pickS_or {s : Nat → D} {P : Nat → Prop} : ∀ {K : List Nat}, (∀ t ∈ K, P t) → ∀ t, pickS s K (fun _ => .any) t = .any ∨ (pickS s K (fun _ => .any) t = s t ∧ P t)
  | [], _, t => .inl rfl
  | k :: K, h, t => by
    show upd (pickS s K fun _ => .any) k (s k) t = .any ∨ (upd (pickS s K fun _ => .any) k (s k) t = s t ∧ P t)
    by_cases ht : t = k
    · subst ht; rw [upd_same]; exact .inr ⟨rfl, h _ (List.mem_cons_self ..)⟩
    · rw [upd_ne _ _ ht]; exact pickS_or (fun t ht => h t (List.mem_cons_of_mem _ ht)) t
theorem bdraw {P : Program} {W : Nat → Prop} {D : List Nat} {f : Nat} {xs : List Operand} {dst : Option Tmp} {st : St} {K : St → Prop} {d0 d : IM.D} {rest : List IM.D} {Q : Nat → Nat → IM.D → IM.D → Prop} {l g b o : Nat} {q : List Nat} {T T2 : Nat → Prop} (h : BCall P f d0 d rest Q o q T T2) (hargs : xs.map st.ev = .ptr l g o q :: rest) (hrest : stillL rest) (hR : st.R l = some (g, b, d)) (hst : d.still) (hsub : ∀ b ∈ d0.tl, b ∈ d.tl) (hW : ∀ b ∈ d0.tl, W b)
    (hT : ∀ t, T t → t ∈ d.tl ∨ ∃ x ∈ rest, t ∈ x.tl) (hT2 : ∀ t, T2 t → t ∈ d.tl ∨ ∃ x ∈ rest, t ∈ x.tl) (K0 : List Nat) (R1 : Roots) (hn : R1 l = none) (hD : D.all (K0.contains ·) = true) (hk0 : carL d0 .any st.s K0) (hk1 : CarR d0 .any st.R R1)
    (hk : ∀ n0 n1 d' r, st.n ≤ n0 → n0 ≤ n1 → (∀ t ∈ d.tl, t < n0) → Q n0 n1 d' r → d'.tags (fun b => T2 b ∨ n0 ≤ b) →
      K (({ N := st.N, n := n1, s := pickS st.s K0 (fun _ => .any), R := upd R1 l (some (g, b, d')) } : St).put dst r)) : BDT P W D f xs dst st K :=
  ⟨d0, d, rest, rest, Q, l, g, b, o, q, T, T2, R1, hargs, still_mapBV hrest, hR, hst, hsub, hW, h, hT, hT2, hn, hk1, _, pickS_or (fun t ht => by
    have : ∀ {K : List Nat}, carL d0 .any st.s K → ∀ t ∈ K, Carry d0 .any (st.s t) (st.s t) := by
      intro K
      induction K with
      | nil => intro _ t ht; cases ht
      | cons k K ih =>
        intro h t ht
        rcases List.mem_cons.1 ht with rfl | ht
        · exact h.1
        · exact ih h.2 t ht
    exact this hk0 t ht), fun t ht => pickS_in (by simpa using List.all_eq_true.1 hD t ht), fun n0 n1 d' r e1 e2 e3 e4 e5 => hk n0 n1 d' r e1 e2 e3 e4 e5⟩
end Go.Proofs.YtncinhlaabdlaaaGreat.IM
end
section
namespace Go.Proofs.YtncinhlaabdlaaaGreat.IM
open Go Go.Proofs
set_option linter.unusedVariables false
set_option linter.unusedSimpArgs false
set_option maxHeartbeats 2000000
set_option maxRecDepth 20000
theorem tl_lit0 {k : Kd} {f : Nat → D} {i : Nat} {v w : Value} (h : f i = .lit w) : (D.node k (upd f i (.lit v))).tl = (D.node k f).tl := tl_upd (by rw [h]; rfl)
theorem sl_eq {t n sz : Nat} {f g : Nat → D} (h : f = g) : D.sl t true n sz f = D.sl t true n sz g := by rw [h]
theorem own_sub {lo hi : Nat} {k : Kd} {f : Nat → D} {i : Nat} (h : Own lo hi (.node k f)) (hi' : i < k.cnt) : Own lo hi (f i) := h.node.own hi'
def SureQ (q : Nat → D) (x : Md.Engine) (n : Int) (lo n0 n1 : Nat) (d' _ : D) : Prop :=
  ∃ L, d' = .node engK (upd q 2 L) ∧ IsLog L (sureL x.log n) ∧ L.tl = (q 2).tl ∧ Eng (min lo n0) n1 n0 (.node engK q) d' (sureE x n)
theorem sure_fin {q ql : Nat → D} {x : Md.Engine} {n z : Int} {lo n0 n1 : Nat} {r : D} {F : Relab} (h : EngF q x) (hql : q 2 = .node (.agg [1, 1]) ql) (hqs : ∀ i, (ql i).still) (hq0 : IsL 15 IsRec (ql 0) x.log.recs) (hq1 : ql 1 = .lit (.int .i64 x.log.sure))
    (ho : Own (min lo n0) n0 (.node engK q)) (hz : z = max x.log.sure (min n x.log.recs.length)) (hn : n0 ≤ n1) (hr : r.tags (fun b => b ∈ (D.node engK q).tl ∨ n0 ≤ b)) :
    BEnd (SureQ q x n lo) (.node engK q) n0 n1 (rl 9 F (.node engK (upd q 2 (.node (.agg [1, 1]) (upd ql 1 (.lit (.int .i64 z))))))) r := by
  have hL : IsLog (.node (.agg [1, 1]) (upd ql 1 (.lit (.int .i64 z)))) (sureL x.log n) := ⟨_, rfl, still_upd hqs trivial, hq0, by rw [hz]; rfl⟩
  have E := h.log hL
  rw [rlnode_still E.st]
  have tE : (D.node (.agg [1, 1]) (upd ql 1 (.lit (.int .i64 z)))).tl = (q 2).tl := by rw [hql]; exact tl_lit0 hq1
  have o2 := own_sub (i := 2) ho (by decide)
  rw [hql] at o2
  have P2 : Put (min lo n0) n1 n0 (q 2) (.node (.agg [1, 1]) (upd ql 1 (.lit (.int .i64 z)))) := ⟨(o2.rep0 (i := 1) (r := .lit (.int .i64 z)) (by decide) rfl trivial).mono (Nat.le_refl _) hn, fun t ht => .inl (tE ▸ ht)⟩
  have P := Put.node (i := 2) ho (by decide) P2 (Nat.le_refl _) hn
  exact Eng.fin ⟨E.is, P⟩ ⟨_, rfl, hL, tE, E.is, P⟩ hr
theorem eng_same2 {q ql : Nat → D} {v : D} (hql : q 2 = .node (.agg [1, 1]) ql) (h1 : ql 1 = v) : D.node engK q = .node engK (upd q 2 (.node (.agg [1, 1]) (upd ql 1 v))) := by rw [upd_self ql 1 v h1, ← hql, upd_self q 2 _ rfl]
theorem sure_b (q : Nat → D) (x : Md.Engine) (n : Int) (lo hi : Nat) (h : EngF q x) (ho : Own lo hi (.node engK q)) (hl : x.log.recs.length ≤ 2097152) :
    BCall Tryz.prog 94 .nil (.node engK q) [.lit (.int .i64 n)] (SureQ q x n lo) := by
  obtain ⟨ql, hql, hqs, hq0, hq1⟩ := id h.q2
  have hq1 : ql 1 = _ := hq1
  refine bcall_intro Tryz.func94 rfl (by decide) rfl (by decide) (by rw [Tryz.ntmps94]; simp) fun w0 M n0 gb hW hS hT hgb => ivc_sound ?_; simp -dsimp only [Tryz.f94, go_sem, h.all, hql, hq0.size, hq0.isNode, hq0.plain, hq0.lenT, hq1]
  have ho' := own_lt ho (hT _ (List.mem_cons_self ..) (whole_data ho.wh))
  refine iwp_plan [(0, true), (1, true), (2, true), (3, true), (4, true), (5, true), (6, true), (7, true), (8, true), (9, true), (10, true), (11, true), (12, true), (13, true), (14, true), (15, true), (16, true), (17, true), (18, false)] [1000] rfl (by decide +kernel) (by decide) [15, 16, 17, 18] (by decide +kernel) ?_
  simp -dsimp only [go_sem, h.all, hql, hq0.size, hq0.isNode, hq0.plain, hq0.lenT, hq1]
  refine ⟨_, rfl, fun n1 hn1 hfc => ?_⟩
  exact sure_fin h hql hqs hq0 hq1 ho' rfl (by omega) ret0_tags
theorem l5Force2_b (q : Nat → D) (x : Md.Engine) (n : Int) (lo hi : Nat) (h : EngF q x) (ho : Own lo hi (.node engK q)) (hl : x.log.recs.length ≤ 2097152) :
    BCall Tryz.prog 87 .nil (.node engK q) [.lit (.int .i64 n)] (SureQ q x n lo) 138 [2] := by
  obtain ⟨ql, hql, hqs, hq0, hq1⟩ := id h.q2
  have hq1 : ql 1 = _ := hq1
  refine bcall_intro Tryz.func87 rfl (by decide) rfl (by decide) (by rw [Tryz.ntmps87]; simp) fun w0 M n0 gb hW hS hT hgb => ivc_sound ?_; simp -dsimp only [Tryz.f87, go_sem]
  have ho' := own_lt ho (hT _ (List.mem_cons_self ..) (whole_data ho.wh))
  by_cases c1 : (x.log.recs.length : Int) < n
  · by_cases c2 : x.log.sure < x.log.recs.length
    · simp -dsimp only [go_sem, h.all, hql, hq0.size, hq0.isNode, hq0.plain, hq0.lenT, hq1, c1, c2]
      exact ⟨_, rfl, fun n1 hn1 hfc => sure_fin h hql hqs hq0 hq1 ho' (by omega) (by omega) ret0_tags⟩
    · simp -dsimp only [go_sem, h.all, hql, hq0.size, hq0.isNode, hq0.plain, hq0.lenT, hq1, c1, c2]
      refine ⟨_, rfl, fun n1 hn1 hfc => ?_⟩
      refine (fun hz => ?_) (sure_fin (n := n) (n1 := n1) (F := labB (upd (fun _ => none) 1000 (some (0, gb, .node engK q)))) (r := .nil) h hql hqs hq0 hq1 ho' (z := x.log.sure) (by omega) (by omega) trivial)
      rw [← eng_same2 hql hq1] at hz
      exact ⟨hz.1, hz.2.1, hz.2.2.1, ret0_tags⟩
  · by_cases c2 : x.log.sure < n
    · simp -dsimp only [go_sem, h.all, hql, hq0.size, hq0.isNode, hq0.plain, hq0.lenT, hq1, c1, c2]
      exact ⟨_, rfl, fun n1 hn1 hfc => sure_fin h hql hqs hq0 hq1 ho' (by omega) (by omega) ret0_tags⟩
    · simp -dsimp only [go_sem, h.all, hql, hq0.size, hq0.isNode, hq0.plain, hq0.lenT, hq1, c1, c2]
      refine ⟨_, rfl, fun n1 hn1 hfc => ?_⟩
      refine (fun hz => ?_) (sure_fin (n := n) (n1 := n1) (F := labB (upd (fun _ => none) 1000 (some (0, gb, .node engK q)))) (r := .nil) h hql hqs hq0 hq1 ho' (z := x.log.sure) (by omega) (by omega) trivial)
      rw [← eng_same2 hql hq1] at hz
      exact ⟨hz.1, hz.2.1, hz.2.2.1, ret0_tags⟩
theorem has_at {x a b : D} (h : a = b) (hb : Has x b) : Has x a := h ▸ hb
theorem thaw_at {t n sz l g : Nat} {f : Nat → D} {a b c : D} (h : a = b) (hb : Thaw t n sz f l g b c) : Thaw t n sz f l g a c := h ▸ hb
theorem Facts.at {st : St} {n1 l g b : Nat} {d : D} (h : Facts st n1) (hR : st.R l = some (g, b, d)) : b < n1 ∧ b ∉ d.tl := ⟨h.lt l g b d hR, h.root l g b d l g b d hR hR⟩
end Go.Proofs.YtncinhlaabdlaaaGreat.IM
end
