/- Regions that the tape orders: the rule. Nothing of a program is in it. -/
import Derived.Test.YtjaddgkhlmallaaIm15
namespace Go.Proofs.Ytjaddgkhlmallaa.IM
open Go Go.RowKit
set_option linter.unusedVariables false

theorem St.ev_put {st : St} {dst : Option Tmp} {v : D} {x : Operand} (h : ∀ d, dst = some d → x ≠ .tmp d) : (st.put dst v).ev x = st.ev x := by
  cases dst with
  | none => rfl
  | some d =>
    cases x with
    | tmp t =>
      have hne : t ≠ d := fun e => h d rfl (e ▸ rfl)
      exact upd_ne _ _ hne
    | _ => rfl

theorem St.s_put {st : St} {dst : Option Tmp} {v : D} {t : Nat} (h : ∀ d, dst = some d → t ≠ d) : (st.put dst v).s t = st.s t := by
  cases dst with
  | none => rfl
  | some d => exact upd_ne _ _ (h d rfl)

@[simp] theorem St.put_N (st : St) (dst : Option Tmp) (v : D) : (st.put dst v).N = st.N := by cases dst <;> rfl
@[simp] theorem St.put_n (st : St) (dst : Option Tmp) (v : D) : (st.put dst v).n = st.n := by cases dst <;> rfl
@[simp] theorem St.put_R (st : St) (dst : Option Tmp) (v : D) : (st.put dst v).R = st.R := by cases dst <;> rfl
theorem St.put_with (st : St) (dst : Option Tmp) (v : D) (n : Nat) (R : Roots) : (St.mk (st.put dst v).N n (st.put dst v).s R) = (St.mk st.N n st.s R).put dst v := by cases dst <;> rfl
theorem St.put_comm (st : St) {x y : Option Tmp} (v u : D) (h : ∀ d, x = some d → y ≠ some d) : (st.put x v).put y u = (st.put y u).put x v := by
  cases x with
  | none => rfl
  | some d =>
    cases y with
    | none => rfl
    | some e =>
      have hne : d ≠ e := fun he => h d rfl (he ▸ rfl)
      show ({ st with s := upd (upd st.s d v) e u } : St) = { st with s := upd (upd st.s e u) d v }
      rw [upd_comm _ _ _ hne]

section
variable {P : Program} {ops : Array Oper}

/-- in this state the operation yields v, whatever the roots are, if only S holds of them -/
def YD (P : Program) (ops : Array Oper) (S : Roots → Prop) (o : Oper) (v : D) (st : St) : Prop :=
  st.dstOk o.dst ∧
  match o.guard with
  | none => ∀ (R : Roots) (n : Nat) (k : Roots → Nat → D → Prop), S R → k R n v → eff P o.op o.dst st.ev R n k
  | some (j, want) =>
    match (ops[j]?).bind (·.dst) with
    | some t => t < st.N ∧ Tst (st.s t) want (∀ (R : Roots) (n : Nat) (k : Roots → Nat → D → Prop), S R → k R n v → eff P o.op o.dst st.ev R n k) (v = und)
    | none => False

theorem YD.vcG {S : Roots → Prop} {o : Oper} {v : D} {st : St} {K : St → Prop} (h : YD P ops S o v st) (hS : S st.R) (hK : K (st.put o.dst v)) : vcG P ops o st K := by
  obtain ⟨h0, h⟩ := h
  unfold IM.vcG
  split
  · rename_i hg; rw [hg] at h; exact ⟨h0, h _ _ _ hS hK⟩
  · rename_i hg
    rw [hg] at h
    simp only at h
    split
    · rename_i ht
      rw [ht] at h
      exact ⟨h.1, h.2.mono (fun h3 => ⟨h0, h3 _ _ _ hS hK⟩) fun h4 => ⟨h0, by rw [← h4]; exact hK⟩⟩
    · rename_i ht; rw [ht] at h; exact h

theorem mem_looks_op {o : Oper} {d : Nat} (h : Operand.tmp d ∈ o.op.operands) : d ∈ o.looksAt ops :=
  List.mem_append_left _ (List.mem_filterMap.2 ⟨.tmp d, by simpa using h, rfl⟩)
theorem mem_looks_guard {o : Oper} {j : Nat} {want : Bool} {d : Nat} (hg : o.guard = some (j, want)) (h : (ops[j]?).bind (·.dst) = some d) : d ∈ o.looksAt ops := by
  simp [Oper.looksAt, hg, h]

theorem YD.of_put {S : Roots → Prop} {o : Oper} {v : D} {st : St} (h : YD P ops S o v st) (dst : Option Tmp) (u : D) (n : Nat) (R : Roots) (hd : ∀ d, dst = some d → d ∉ o.looksAt ops) :
    YD P ops S o v ((St.mk st.N n st.s R).put dst u) := by
  obtain ⟨h0, h⟩ := h
  have hev : ∀ x ∈ o.op.operands, st.ev x = ((St.mk st.N n st.s R).put dst u).ev x := fun x hx => by
    rw [St.ev_put fun d hd' hxd => hd d hd' (mem_looks_op (by rw [← hxd]; exact hx))]; cases x <;> rfl
  have hnf : st.ev (.const .nilFunc) = ((St.mk st.N n st.s R).put dst u).ev (.const .nilFunc) := by cases dst <;> rfl
  refine ⟨by simpa [St.dstOk] using h0, ?_⟩
  split
  · rename_i hg; rw [hg] at h; exact fun R n k hS hk => eff_congr hev hnf (h R n k hS hk)
  · rename_i hg
    rw [hg] at h
    simp only at h
    split
    · rename_i t ht
      rw [ht] at h
      refine ⟨by simpa using h.1, ?_⟩
      rw [St.s_put fun d hd' htd => hd d hd' (mem_looks_guard hg (htd ▸ ht))]
      exact h.2.mono (fun h3 R n k hS hk => eff_congr hev hnf (h3 R n k hS hk)) id
    · rename_i ht; rw [ht] at h; exact h

theorem vcG_put {S : Roots → Prop} {oi oj : Oper} {v : D} {st : St} {K : St → Prop} (hap : oi.apart ops oj = true) (hy : YD P ops S oi v st) (h : vcG P ops oj (st.put oi.dst v) K) :
    vcG P ops oj st fun st' => YD P ops S oi v st' ∧ K (st'.put oi.dst v) := by
  obtain ⟨h1, h2, h3⟩ := Oper.apart_spec hap
  have hev : ∀ x ∈ oj.op.operands, (st.put oi.dst v).ev x = st.ev x := fun x hx => St.ev_put fun d hd hxd => h1 d hd (mem_looks_op (by rw [← hxd]; exact hx))
  have hnf : (st.put oi.dst v).ev (.const .nilFunc) = st.ev (.const .nilFunc) := St.ev_put fun d _ h => by cases h
  have step : vcOp P oj (st.put oi.dst v) K → vcOp P oj st fun st' => YD P ops S oi v st' ∧ K (st'.put oi.dst v) := by
    rintro ⟨hd, he⟩
    refine ⟨by simpa [St.dstOk] using hd, ?_⟩
    have he := eff_congr hev hnf he
    simp only [St.put_R, St.put_n] at he
    refine eff_mono (fun R' n' r hk => ⟨hy.of_put _ _ _ _ h3, ?_⟩) he
    rw [St.put_with] at hk
    rw [← St.put_comm _ _ _ h2]
    exact hk
  unfold IM.vcG at *
  split
  · rename_i hg; rw [hg] at h; exact step h
  · rename_i hg
    rw [hg] at h
    simp only at h
    split
    · rename_i t ht
      rw [ht] at h
      obtain ⟨h4, h5⟩ := h
      rw [St.s_put fun d hd htd => h1 d hd (mem_looks_guard hg (htd ▸ ht))] at h5
      refine ⟨by simpa using h4, h5.mono step fun h7 => ⟨by simpa [St.dstOk] using h7.1, hy.of_put _ _ _ _ h3, ?_⟩⟩
      rw [← St.put_comm _ _ _ h2]
      exact h7.2
    · rename_i ht; rw [ht] at h; exact h

theorem vcAny_first {S : Roots → Prop} {K : St → Prop} {i : Nat} {oi : Oper} {v : D} (hi : ops[i]? = some oi) : ∀ (fuel : Nat) (listed : Array Bool) (st : St),
    (∀ j oj, ops[j]? = some oj → j ≠ i → listed.getD j true = false → (∀ e ∈ oj.after, Region.binds .any e = true → e.on ≠ i) → oi.apart ops oj = true) →
    i ∈ Region.ready .any ops listed → YD P ops S oi v st → S st.R → vcAny P ops S K fuel (listed.setIfInBounds i true) (st.put oi.dst v) → vcAny P ops S K (fuel + 1) listed st := by
  intro fuel
  induction fuel with
  | zero =>
    intro listed st _ hr hy hS H
    refine ⟨fun h => (by rw [h] at hr; cases hr), fun j hj => ?_⟩
    by_cases hji : j = i
    · subst hji; exact ⟨oi, hi, hy.vcG hS ⟨by simpa using hS, H⟩⟩
    · have := ready_mono hj hji
      rw [H.1] at this
      cases this
  | succ fuel ih =>
    intro listed st hfree hr hy hS H
    refine ⟨fun h => (by rw [h] at hr; cases hr), fun j hj => ?_⟩
    by_cases hji : j = i
    · subst hji; exact ⟨oi, hi, hy.vcG hS ⟨by simpa using hS, H⟩⟩
    · obtain ⟨oj, hoj, h1⟩ := H.2 j (ready_mono hj hji)
      obtain ⟨hjun, oj', hoj', hall⟩ := mem_ready.1 hj
      obtain rfl : oj = oj' := by rw [hoj] at hoj'; exact Option.some.inj hoj'
      have hnot : ∀ e ∈ oj.after, Region.binds .any e = true → e.on ≠ i := fun e he hb heq => by
        have h1 := hall e he hb
        have h0 := (mem_ready.1 hr).1
        rw [heq] at h1
        rcases Nat.lt_or_ge i listed.size with h' | h'
        · simp [h'] at h0 h1; rw [h0] at h1; cases h1
        · simp [Array.getElem?_eq_none h'] at h1
      have hfree' : ∀ k ok, ops[k]? = some ok → k ≠ i → (listed.setIfInBounds j true).getD k true = false →
          (∀ e ∈ ok.after, Region.binds .any e = true → e.on ≠ i) → oi.apart ops ok = true := fun k ok hk hki hun hno => by
        refine hfree k ok hk hki ?_ hno
        by_cases hjk : j = k
        · subst hjk; exact hjun
        · rw [getD_set_ne true hjk] at hun; exact hun
      refine ⟨oj, hoj, vcG_mono (fun st' h3 => ?_) (vcG_put (hfree j oj hoj hji hjun hnot) hy h1)⟩
      obtain ⟨h4, h5, h6⟩ := h3
      rw [St.put_R] at h5
      refine ⟨h5, ih (listed.setIfInBounds j true) st' hfree' (ready_mono hr (Ne.symm hji)) h4 h5 ?_⟩
      rw [Array.setIfInBounds_comm _ _ hji]
      exact h6

/-- an operation that is taken early -/
def vcE (P : Program) (ops : Array Oper) (Ls : List Nat) (o : Oper) (st : St) (K : St → Prop) : Prop :=
  match o.guard with
  | none => earlyOp Ls o.op st.ev ∧ vcOp P o st K
  | some (j, want) =>
    match (ops[j]?).bind (·.dst) with
    | some t => t < st.N ∧ Tst (st.s t) want (earlyOp Ls o.op st.ev ∧ vcOp P o st K) (st.dstOk o.dst ∧ K (st.put o.dst und))
    | none => False

theorem vcE_early {Ls : List Nat} {o : Oper} {st : St} {K : St → Prop} {R0 : Roots} (h : vcE P ops Ls o st K) (hR : ∀ l ∈ Ls, st.R l = R0 l) :
    ∃ v, YD P ops (fun R => ∀ l ∈ Ls, R l = R0 l) o v st ∧ K (st.put o.dst v) := by
  have step : earlyOp Ls o.op st.ev ∧ vcOp P o st K → ∃ v, (st.dstOk o.dst ∧ ∀ (R : Roots) (n : Nat) (k : Roots → Nat → D → Prop), (∀ l ∈ Ls, R l = R0 l) → k R n v → eff P o.op o.dst st.ev R n k) ∧ K (st.put o.dst v) := by
    rintro ⟨he, hd, hv⟩
    obtain ⟨v, h1, h2⟩ := eff_early he hv
    exact ⟨v, ⟨hd, fun R n k hS hk => h2 R n k (fun l hl => by rw [hS l hl, hR l hl]) hk⟩, h1⟩
  unfold vcE at h
  unfold YD
  split at h
  · rename_i hg; obtain ⟨v, h1, h2⟩ := step h; exact ⟨v, by simpa only [hg] using h1, h2⟩
  · rename_i j want hg
    split at h
    · rename_i t ht
      obtain ⟨h1, ⟨b, h2, h3, h4⟩ | ⟨f, h2, h5, h6⟩⟩ := h
      · by_cases hb : b = want
        · obtain ⟨v, ⟨h5, h6⟩, h7⟩ := step (h3 hb)
          refine ⟨v, ⟨h5, ?_⟩, h7⟩
          exact ⟨h1, .inl ⟨b, h2, fun _ => h6, fun hb' => by subst hb; cases b <;> simp at hb'⟩⟩
        · obtain ⟨h5, h6⟩ := h4 (by cases b <;> cases want <;> simp_all)
          refine ⟨und, ⟨h5, ?_⟩, h6⟩
          exact ⟨h1, .inl ⟨b, h2, fun hb' => absurd hb' hb, fun _ => rfl⟩⟩
      · exact ⟨und, ⟨h5, h1, .inr ⟨f, h2, rfl⟩⟩, h6⟩
    · exact h.elim

/-- an order in which to go through a region: what is marked is taken early -/
def vcPlan (P : Program) (ops : Array Oper) (Ls : List Nat) (R0 : Roots) (K : St → Prop) : List (Nat × Bool) → St → Prop
  | [], st => K st
  | (i, early) :: rest, st =>
    match ops[i]?, early with
    | some o, true => vcE P ops Ls o st (vcPlan P ops Ls R0 K rest)
    | some o, false => vcG P ops o st fun st' => (∀ l ∈ Ls, st'.R l = R0 l) ∧ vcPlan P ops Ls R0 K rest st'
    | none, _ => False

def planOk (ops : Array Oper) : List (Nat × Bool) → Array Bool → Bool
  | [], listed => (Region.ready .any ops listed).isEmpty
  | (i, true) :: rest, listed => (Region.ready .any ops listed).contains i && Region.free .any ops listed i && planOk ops rest (listed.setIfInBounds i true)
  | (i, false) :: rest, listed => (Region.ready .any ops listed == [i]) && planOk ops rest (listed.setIfInBounds i true)

theorem vcPlan_sound {Ls : List Nat} {R0 : Roots} {K : St → Prop} : ∀ (plan : List (Nat × Bool)) (fuel : Nat) (listed : Array Bool) (st : St), plan.length ≤ fuel → planOk ops plan listed = true → (∀ l ∈ Ls, st.R l = R0 l) →
    vcPlan P ops Ls R0 K plan st → vcAny P ops (fun R => ∀ l ∈ Ls, R l = R0 l) K fuel listed st := by
  intro plan
  induction plan with
  | nil =>
    intro fuel listed st hf hp hR h
    have hr : Region.ready .any ops listed = [] := by simpa [planOk] using hp
    cases fuel with
    | zero => exact ⟨hr, h⟩
    | succ fuel => exact ⟨fun _ => h, by rw [hr]; intro i hi; cases hi⟩
  | cons x rest ih =>
    obtain ⟨i, early⟩ := x
    intro fuel listed st hf hp hR h
    cases fuel with
    | zero => simp at hf
    | succ fuel =>
      simp only [List.length_cons, Nat.add_le_add_iff_right] at hf
      unfold vcPlan at h
      cases hi : ops[i]? with
      | none => rw [hi] at h; exact h.elim
      | some o =>
        rw [hi] at h
        cases early with
        | true =>
          simp only [planOk, Bool.and_eq_true] at hp
          obtain ⟨v, hy, hK⟩ := vcE_early h hR
          exact vcAny_first hi fuel listed st (Region.free_spec hi hp.1.2) (by simpa using hp.1.1) hy hR (ih fuel _ _ hf hp.2 (by simpa using hR) hK)
        | false =>
          simp only [planOk, Bool.and_eq_true, beq_iff_eq] at hp
          refine ⟨fun h0 => (by rw [hp.1] at h0; cases h0), fun j hj => ?_⟩
          rw [hp.1] at hj
          obtain rfl := List.mem_singleton.1 hj
          exact ⟨o, hi, vcG_mono (fun st' h' => ⟨h'.1, ih fuel _ _ hf hp.2 h'.1 h'.2⟩) h⟩

end

section
variable {P : Program} {w0 : World} {M : Fr} {ops : Array Oper}

def Env.draw (e : Env) : Env := { e with w := { e.w with drawn := e.w.drawn + 1 } }
theorem Env.draw_le (e : Env) : e.le e.draw := ⟨Nat.le_refl _, fun _ h => h, fun _ _ => rfl, fun _ _ _ d _ h => ⟨d, h⟩, fun _ _ _ _ _ _ C _ z h => ⟨C, z, h, rfl⟩⟩
theorem SR.draw {st : St} {a : Act} {w : World} (h : SR w0 M st a w) : SR w0 M st a { w with drawn := w.drawn + 1 } := by
  obtain ⟨e, rfl, hg⟩ := h
  exact ⟨e.draw, rfl, hg.R, hg.N, hg.df, fun t => VRep_le e.draw_le (hg.slot t), fun l g b d hl => by
    obtain ⟨h1, h2, h3, C, T, cs, h4, h5, h6⟩ := hg.root l g b d hl
    exact ⟨h1, h2, h3, C, T, cs, h4, Rep_le e.draw_le h5, h6⟩, hg.own, hg.inj, hg.P, ⟨hg.keep.os, hg.keep.tape, hg.keep.output, hg.keep.size, hg.keep.block, hg.keep.cell⟩, hg.n, hg.per⟩

theorem iwp_draw {id : Nat} {Q : Exit → St → Prop} {st : St} (plan : List (Nat × Bool)) (Ls : List Nat) (hm : P.follows .mixedOrders = true) (hp : planOk ops plan (Array.replicate ops.size false) = true) (hl : plan.length ≤ ops.size)
    (h : vcPlan P ops Ls st.R (Q .normal) plan st) : IWp P w0 M (.region id ops true) Q st := by
  intro a w hs
  exact wp_region_any hm (vcAny_sound (fun st' a' w' hk hs' => ⟨st', hk, hs'⟩) _ _ st a _ hs.draw (vcPlan_sound plan _ _ st hl hp (fun _ _ => rfl) h))

end
end Go.Proofs.Ytjaddgkhlmallaa.IM
