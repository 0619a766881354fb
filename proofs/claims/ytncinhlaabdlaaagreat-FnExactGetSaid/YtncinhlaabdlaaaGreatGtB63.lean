/- Several of my texts in one module (merge.py, shake.py). -/
import Derived.Test.YtncinhlaabdlaaaGreatGtB59
import Derived.Test.YtncinhlaabdlaaaGreatGtB62
import Derived.Test.YtncinhlaabdlaaaGreatGtB60
import Derived.Test.YtncinhlaabdlaaaGreatGtA4
import Derived.Test.YtncinhlaabdlaaaGreatGtA5
import Derived.Test.YtncinhlaabdlaaaGreatGtB54
section
namespace Go.Proofs.YtncinhlaabdlaaaGreat.IM
open Go Go.RowKit
set_option linter.unusedVariables false
set_option linter.unusedSimpArgs false
set_option maxHeartbeats 2000000
set_option maxRecDepth 20000
def Pl.earlies : Pl → List Nat
  | .done => []
  | .early i r => i :: r.earlies
  | .late _ r => r.earlies
  | .fork _ r _ s => r.earlies ++ s.earlies
  | .fork3 _ r _ s _ u => r.earlies ++ s.earlies ++ u.earlies
def dryAt (ops : Array Oper) (i : Nat) : Bool := match ops[i]? with | some o => dryO o.op | none => false
def plBar (ops : Array Oper) (B : List Nat) (p : Pl) : Bool := p.earlies.all fun i => dryAt ops i || B.all fun j => edgeTo ops j i
def notDst (ops : Array Oper) (es : List Nat) (t : Nat) : Bool := es.all fun k => ((ops[k]?).bind (·.dst)) != some t
def plD (ops : Array Oper) (D : List Nat) : Pl → Bool
  | .done => true
  | .early i r => (match ops[i]? with
      | some o => (match o.dst with | some d => D.contains d && notDst ops r.earlies d | none => true) && (o.looksAt ops).all fun t => D.contains t && (o.dst != some t) && notDst ops r.earlies t
      | none => false) && plD ops D r
  | .late _ r => plD ops D r
  | .fork _ r _ s => plD ops D r && plD ops D s
  | .fork3 .. => false
def stayP (ops : Array Oper) (D : List Nat) (p : Pl) : Nat → Prop := fun t => t ∈ D ∧ ∀ k ∈ p.earlies, ((ops[k]?).bind (·.dst)) ≠ some t
def vcS (P : Program) (W D : Nat → Prop) (ops : Array Oper) (C : List Nat) (i : Nat) (o : Oper) (st : St) (K : St → Prop) : Prop := if C.contains i = true then BDraw P W D o st K else vcG P ops o st K
def vcPlM (P : Program) (W D : Nat → Prop) (ops : Array Oper) (Ls B C : List Nat) (K : St → Prop) : Pl → St → Prop
  | .done, st => K st
  | .early i r, st => match ops[i]? with
    | some o => vcE P ops (if dryO o.op then [] else Ls) o st (vcPlM P W D ops Ls B C K r)
    | none => False
  | .late i r, st => match ops[i]? with
    | some o => vcS P W D ops C i o st fun st' => (B.contains i = true ∨ ∀ l ∈ Ls, st'.R l = st.R l) ∧ vcPlM P W D ops Ls B C K r st'
    | none => False
  | .fork i r j s, st => (match ops[i]? with
    | some o => vcS P W D ops C i o st fun st' => (B.contains i = true ∨ ∀ l ∈ Ls, st'.R l = st.R l) ∧ vcPlM P W D ops Ls B C K r st'
    | none => False) ∧ match ops[j]? with
    | some o => vcS P W D ops C j o st fun st' => (B.contains j = true ∨ ∀ l ∈ Ls, st'.R l = st.R l) ∧ vcPlM P W D ops Ls B C K s st'
    | none => False
  | .fork3 .., _ => False
theorem notDst_spec {ops : Array Oper} {es : List Nat} {t : Nat} (h : notDst ops es t = true) : ∀ k ∈ es, ((ops[k]?).bind (·.dst)) ≠ some t := fun k hk he => by
  have := List.all_eq_true.1 h k hk
  rw [he] at this
  simp at this
section
variable {P : Program} {w0 : World} {M : Fr} {ops : Array Oper} {W : Nat → Prop}
theorem vcS_gm {D D' : Nat → Prop} {C : List Nat} {i : Nat} {o : Oper} {st : St} {K K' : St → Prop} (hk : ∀ st, K st → K' st) (hd : ∀ t, D' t → D t) (h : vcS P W D ops C i o st K) : vcGM P W D' ops o st K' := by
  unfold vcS at h
  split at h
  · exact .inr (BDraw.mono hk hd h)
  · exact .inl (vcG_mono hk h)
theorem vcPlM_sound {Ls B C D : List Nat} {K : St → Prop} : ∀ (p : Pl) (fuel : Nat) (listed : Array Bool) (st : St), p.len ≤ fuel → plOk ops p listed = true → plD ops D p = true → plBar ops B p = true →
    vcPlM P W (· ∈ D) ops Ls B C K p st → vcAnyM P W (stayP ops D p) ops (fun j R R' => B.contains j = true ∨ ∀ l ∈ Ls, R' l = R l) K fuel listed st := by
  intro p
  induction p with
  | done =>
    intro fuel listed st hf hp hD hb h
    have hr : Region.ready .any ops listed = [] := by simpa [plOk] using hp
    cases fuel with
    | zero => exact ⟨hr, h⟩
    | succ fuel => exact ⟨fun _ => h, by rw [hr]; intro i hi; cases hi⟩
  | early i rest ih =>
    intro fuel listed st hf hp hD hb h
    cases fuel with
    | zero => simp [Pl.len] at hf
    | succ fuel =>
      simp only [Pl.len, Nat.add_le_add_iff_right] at hf
      simp only [plOk, Bool.and_eq_true] at hp
      unfold plBar at hb
      simp only [Pl.earlies, List.all_cons, Bool.and_eq_true] at hb
      have hb2 : plBar ops B rest = true := hb.2
      have hD2 : plD ops D rest = true := by unfold plD at hD; simp only [Bool.and_eq_true] at hD; exact hD.2
      unfold vcPlM at h
      cases hi : ops[i]? with
      | none => rw [hi] at h; exact h.elim
      | some o =>
        rw [hi] at h
        have hDi : (match o.dst with | some d => D.contains d && notDst ops rest.earlies d | none => true) = true ∧ ((o.looksAt ops).all fun t => D.contains t && (o.dst != some t) && notDst ops rest.earlies t) = true := by
          unfold plD at hD
          rw [hi] at hD
          simp only [Bool.and_eq_true] at hD
          exact hD.1
        have hE : ∀ d, o.dst = some d → stayP ops D rest d := fun d hd => by
          have := hDi.1
          rw [hd] at this
          simp only [Bool.and_eq_true] at this
          exact ⟨by simpa using this.1, notDst_spec this.2⟩
        have hL : ∀ t ∈ o.looksAt ops, less (stayP ops D rest) o.dst t := fun t ht => by
          have := List.all_eq_true.1 hDi.2 t ht
          simp only [Bool.and_eq_true] at this
          exact ⟨⟨by simpa using this.1.1, notDst_spec this.2⟩, by simpa using this.1.2⟩
        have fin : ∀ fuel listed st, vcAnyM P W (less (stayP ops D rest) o.dst) ops (fun j R R' => B.contains j = true ∨ ∀ l ∈ Ls, R' l = R l) K fuel listed st → vcAnyM P W (stayP ops D (.early i rest)) ops (fun j R R' => B.contains j = true ∨ ∀ l ∈ Ls, R' l = R l) K fuel listed st :=
          vcAnyM_weak fun t hx => ⟨⟨hx.1, fun y hy => hx.2 y (List.mem_cons_of_mem _ hy)⟩, fun hd => by
            have := hx.2 i (List.mem_cons_self ..)
            simp only [hi, Option.bind_some] at this
            exact this hd⟩
        refine fin _ _ _ ?_
        obtain ⟨v, hy, hK⟩ := vcE_early (R0 := st.R) h (fun _ _ => rfl)
        refine vcAnyM_first (S0 := fun R => ∀ l ∈ (if dryO o.op = true then [] else Ls), R l = st.R l) hi hE hL (fun R => .inr fun _ _ => rfl) (fun j oj R R' hj _ hno hS h0 => ?_) fuel listed st (Region.free_spec hi hp.1.2) (by simpa using hp.1.1) hy (fun _ _ => rfl) (ih fuel _ _ hf hp.2 hD2 hb2 hK)
        by_cases hdry : dryO o.op = true
        · intro l hl; rw [if_pos hdry] at hl; cases hl
        · rw [if_neg hdry] at h0 ⊢
          rcases hS with hS | hS
          · have hbi := hb.1
            unfold dryAt at hbi
            simp only [hi, Bool.or_eq_true] at hbi
            have h1 := List.all_eq_true.1 (hbi.resolve_left hdry) j (by simpa using hS)
            rw [edgeTo_not hj hno] at h1; cases h1
          · intro l hl; rw [hS l hl]; exact h0 l hl
  | late i rest ih =>
    intro fuel listed st hf hp hD hb h
    cases fuel with
    | zero => simp [Pl.len] at hf
    | succ fuel =>
      simp only [Pl.len, Nat.add_le_add_iff_right] at hf
      simp only [plOk, Bool.and_eq_true, beq_iff_eq] at hp
      unfold vcPlM at h
      cases hi : ops[i]? with
      | none => rw [hi] at h; exact h.elim
      | some o =>
        rw [hi] at h
        refine ⟨fun h0 => (by rw [hp.1] at h0; cases h0), fun j hj => ?_⟩
        rw [hp.1] at hj
        obtain rfl := List.mem_singleton.1 hj
        exact ⟨o, hi, vcS_gm (fun st' h' => ⟨h'.1, ih fuel _ _ hf hp.2 hD hb h'.2⟩) (fun t ht => ht.1) h⟩
  | fork i r j s ih1 ih2 =>
    intro fuel listed st hf hp hD hb h
    cases fuel with
    | zero => simp [Pl.len] at hf
    | succ fuel =>
      simp only [Pl.len, Nat.add_le_add_iff_right] at hf
      simp only [plOk, Bool.and_eq_true, Bool.or_eq_true, beq_iff_eq] at hp
      unfold plBar at hb
      simp only [Pl.earlies, List.all_append, Bool.and_eq_true] at hb
      unfold plD at hD
      simp only [Bool.and_eq_true] at hD
      unfold vcPlM at h
      obtain ⟨ha, hb'⟩ := h
      refine ⟨fun h0 => (by rcases hp.1.1 with h1 | h1 <;> (rw [h1] at h0; cases h0)), fun q hq => ?_⟩
      have hq' : q = i ∨ q = j := by
        rcases hp.1.1 with h1 | h1
        · rw [h1] at hq; simpa using hq
        · rw [h1] at hq; rcases List.mem_cons.1 hq with rfl | hq
          · exact .inr rfl
          · exact .inl (by simpa using hq)
      rcases hq' with rfl | rfl
      · cases hi : ops[q]? with
        | none => rw [hi] at ha; exact ha.elim
        | some o =>
          rw [hi] at ha
          refine ⟨o, rfl, vcS_gm (fun st' h' => ⟨h'.1, ?_⟩) (fun t ht => ht.1) ha⟩
          exact vcAnyM_weak (fun t ht => ⟨ht.1, fun k hk => ht.2 k (List.mem_append_left _ hk)⟩) _ _ _ (ih1 fuel _ _ (by omega) hp.1.2 hD.1 hb.1 h'.2)
      · cases hi : ops[q]? with
        | none => rw [hi] at hb'; exact hb'.elim
        | some o =>
          rw [hi] at hb'
          refine ⟨o, rfl, vcS_gm (fun st' h' => ⟨h'.1, ?_⟩) (fun t ht => ht.1) hb'⟩
          exact vcAnyM_weak (fun t ht => ⟨ht.1, fun k hk => ht.2 k (List.mem_append_right _ hk)⟩) _ _ _ (ih2 fuel _ _ (by omega) hp.2 hD.2 hb.2 h'.2)
  | fork3 i r j s k u ih1 ih2 ih3 =>
    intro fuel listed st hf hp hD
    exact absurd hD (by simp [plD])
theorem iwp_drawMT {id : Nat} {Q : Exit → St → Prop} {st : St} (p : Pl) (Ls D : List Nat) (hm : P.follows .mixedOrders = true) (hp : plOk ops p (Array.replicate ops.size false) = true) (hd : plD ops D p = true) (hl : p.len ≤ ops.size) (B C : List Nat) (hb : plBar ops B p = true)
    (h : vcPlM P (wr w0 M) (· ∈ D) ops Ls B C (Q .normal) p st) : IWp P w0 M (.region id ops true) Q st := by
  intro a w hs
  exact wp_region_any hm (vcAnyM_sound (fun b hb => hb) (fun st' a' w' hk hs' => ⟨st', hk, hs'⟩) _ _ st a _ hs.draw (vcPlM_sound p _ _ st hl hp hd hb h))
end
def vcMF (P : Program) (W : Nat → Prop) (D : List Nat) (ops : Array Oper) (Ls B C : List Nat) (K : St → Prop) (p : Pl) (st : St) (_ : Tok K := .mk) (_ : Tok ops := .mk) (_ : Tok W := .mk) : Prop := vcPlM P W (· ∈ D) ops Ls B C K p st
section
variable {P : Program} {w0 : World} {M : Fr}
theorem iwp_planMT {id : Nat} {ops : List Oper} {Q : Exit → St → Prop} {st : St} (p : Pl) (Ls D : List Nat) (hm : P.follows .mixedOrders = true) (hp : plOk ops.toArray p (Array.replicate ops.toArray.size false) = true) (hd : plD ops.toArray D p = true) (hl : p.len ≤ ops.toArray.size) (B C : List Nat) (hb : plBar ops.toArray B p = true)
    (h : vcMF P (wr w0 M) D ops.toArray Ls B C (fun st => Q .normal st) p st) : IWpT P w0 M (.region id ops.toArray true) Q st :=
  iwp_drawMT p Ls D hm hp hd hl B C hb h
variable (W : Nat → Prop) (D : List Nat) (ops : Array Oper) (Ls B C : List Nat) (K : St → Prop) (r s : Pl) (st : St)
@[go_sem] theorem vcMF_done : vcMF P W D ops Ls B C K .done st = K st := (rfl)
@[go_sem] theorem vcMF_early (i : Nat) : vcMF P W D ops Ls B C K (.early i r) st = wSome (ops[i]?) fun o => wSome (some (if dryO o.op = true then [] else Ls)) fun L => vcET P ops L o st fun st => vcMF P W D ops Ls B C K r st := by
  simp only [vcMF, vcPlM, vcET]
  cases ops[i]? <;> rfl
@[go_sem] theorem vcMF_late (i : Nat) : vcMF P W D ops Ls B C K (.late i r) st = wSome (ops[i]?) fun o => if C.contains i = true then vcBT P W D o st fun st' => (B.contains i = true ∨ ∀ l ∈ Ls, st'.R l = st.R l) ∧ vcMF P W D ops Ls B C K r st' else vcGT P ops o st fun st' => (B.contains i = true ∨ ∀ l ∈ Ls, st'.R l = st.R l) ∧ vcMF P W D ops Ls B C K r st' := by
  simp only [vcMF, vcPlM, vcGT, vcS, vcBT]
  cases ops[i]? <;> rfl
@[go_sem] theorem vcMF_fork (i j : Nat) : vcMF P W D ops Ls B C K (.fork i r j s) st = (vcMF P W D ops Ls B C K (.late i r) st ∧ vcMF P W D ops Ls B C K (.late j s) st) := (rfl)
end
theorem fork_m {P : Program} {W : Nat → Prop} {D : List Nat} {ops : Array Oper} {Ls B C : List Nat} {K : St → Prop} {p : Pl} {st : St} (Pp : St → Prop) (hK : ∀ st, Pp st → K st)
    (h : ∀ K' : St → Prop, (∀ st, Pp st → K' st) → vcMF P W D ops Ls B C K' p st) : vcMF P W D ops Ls B C K p st := h K hK
end Go.Proofs.YtncinhlaabdlaaaGreat.IM
end
section
namespace Go.Proofs.YtncinhlaabdlaaaGreat.IM
open Go Go.Proofs
set_option linter.unusedVariables false
set_option linter.unusedSimpArgs false
set_option maxHeartbeats 2000000
set_option maxRecDepth 20000
theorem rl_engP {q qq : Nat → D} {F : Relab} (hq : ∀ i, (q i).still) : rl 9 F (.node engK (upd q 1 (.node (.agg [1, 1]) qq))) = .node engK (upd q 1 (.node (.agg [1, 1]) fun i => rl 7 F (qq i))) := by
  rw [rl_node, rlsK_upd, rls_still hq, rl_node]
theorem tags_engP {q : Nat → D} {P : D} {lo hi : Nat} {p : Nat → Prop} (ho : Own lo hi (.node engK q)) (h1 : ∀ t ∈ (D.node engK q).tl, p t) (h2 : P.tags p) : (D.node engK (upd q 1 P)).tags p := fun i hi => by
  by_cases e : i = 1
  · subst e; rw [upd_same]; exact h2
  · rw [upd_ne _ _ e]
    exact tags_of_tl (whole_data (ho.node.wh i hi)) fun t ht => h1 t (tl_child (i := i) hi ht)
def VQe (q : Nat → D) (x : Md.Pool) (lo hi : Nat) (_ _ : Nat) (d' r : D) : Prop := ∃ P, d' = .node engK (upd q 1 P) ∧ IsPool P (vicGo 3 x).1 ∧ Own lo hi P ∧ (∀ t ∈ P.tl, t ∈ (q 1).tl) ∧ r = .lit (.int .i64 (vicGo 3 x).2)
theorem vic_ende {x p : Md.Pool} {t N n0 n1 lo hi : Nat} {F : Relab} {f fe q qp qq : Nat → D} {r : D} (hq : ∀ i, (q i).still) (hoq : Own lo hi (.node engK q)) (hq1 : q 1 = .node (.agg [1, 1]) qp) (hq0 : qp 0 = .sl t true N 20 f) (e0 : rl 7 F (qq 0) = .sl t true N 20 fe) (e1 : rl 7 F (qq 1) = .lit (.int .i64 (nxt p.hand))) (hqq : ∀ j, (qq j).still ∨ j = 0)
    (hF : VF f p N fe) (hN : p.seats.length = N) (hs : N < 140737488355328) (ho : Own lo hi (.sl t true N 20 f)) (hgo : vicGo 3 x = (⟨p.seats, nxt p.hand⟩, p.hand)) (hr : r = .lit (.int .i64 p.hand)) :
    BEnd (VQe q x lo hi) (.node engK q) n0 n1 (rl 9 F (.node engK (upd q 1 (.node (.agg [1, 1]) qq)))) r := by
  subst hr
  rw [rl_engP hq]
  have hg := (grow_fin (x := ⟨p.seats, nxt p.hand⟩) (n0 := lo) (n1 := hi) e0 e1 hqq (hF.isL hN hs) (hF.own ho)).out
  have htl := tl_pool e0 e1
  have hsub : ∀ b ∈ (D.sl t true N 20 f).tl, b ∈ (q 1).tl := fun b hb => by rw [hq1]; exact tl_child (k := .agg [1, 1]) (i := 0) (by decide) (by rw [hq0]; exact hb)
  have hsub2 : ∀ b ∈ (D.sl t true N 20 fe).tl, b ∈ (q 1).tl := fun b hb => hsub b (tl_of_tags (whole_data (hF.own ho).wh) hF.tags b hb)
  have hT2 : (D.node (.agg [1, 1]) fun i => rl 7 F (qq i)).tags (fun b => b ∈ (D.node engK q).tl ∨ n0 ≤ b) := tags_of_tl (whole_data hg.2.wh) fun b hb => .inl (tl_child (k := engK) (i := 1) (by decide) (hsub2 b (htl ▸ hb)))
  exact ⟨⟨_, rfl, by rw [hgo]; exact hg.1, hg.2, fun b hb => hsub2 b (htl ▸ hb), by rw [hgo]⟩, plain_node _ _, tags_engP hoq (fun b hb => .inl hb) hT2, trivial⟩
theorem l6Victim_e (q qp : Nat → D) (y : Md.Engine) (t lo hi : Nat) (f : Nat → D) (h : EngF q y) (e1 : q 1 = .node (.agg [1, 1]) qp) (e0 : qp 0 = .sl t true y.pool.seats.length 20 f) (eh : qp 1 = .lit (.int .i64 y.pool.hand)) (es : ∀ j, (qp j).still) (hfs : ∀ i, (f i).still) (hfl : y.pool.seats.length < 140737488355328)
    (hf : ∀ i (h : i < y.pool.seats.length), IsSeat (f i) y.pool.seats[i]) (hoq : Own lo hi (.node engK q)) (hpo : Md.poolOk y.pool = true) (h3 : y.pool.seats.length = 3) :
    BCall Tryz.prog 222 (.sl t true y.pool.seats.length 20 f) (.node engK q) [] (VQe q y.pool lo hi) 136 [1] := by
  have o1 := own_sub (i := 1) hoq (by decide)
  rw [e1] at o1
  have ho := own_sub (i := 0) o1 (by decide)
  rw [e0] at ho
  have hpf : ∀ i, i < (Kd.agg [1, 1]).cnt → i ≠ 0 → (qp i).free t := fun i hi hne => by
    have : i = 1 := by have : i < 2 := hi; omega
    subst this; rw [eh]; trivial
  have ht2 : t ∈ (q 1).tl := by rw [e1]; exact tl_child (i := 0) (by decide) (e0 ▸ (by simp [D.tl]))
  have hx : ∀ z ∈ [D.ptr 1000 0 136 [1]], z.free t := fun z hz => by
    simp only [List.mem_cons, List.not_mem_nil, or_false] at hz
    rcases hz with rfl
    trivial
  refine bcall_intro Tryz.func222 rfl (by decide) rfl (by decide) (by rw [Tryz.ntmps222]; simp) fun w0 M n0 gb hW hS hT hgb => iwp_melt (l := 1001) (lq := 1000) (R' := fun _ => none) (xq' := fun g => .node engK (upd q 1 (.node (.agg [1, 1]) (upd qp 0 (.msl 1001 g 0 [] 0 y.pool.seats.length 20))))) (hS t (by simp [D.tl])) rfl (own_free ho) rfl (.node _ _ 1 (by decide) (has_at e1 (.node _ _ 0 (by decide) (has_eq e0)))) (fun g => ⟨trivial, thaw_upd (thaw_at e1 (thaw_upd (thaw_eq e0) hpf)) fun i hi hne => own_free_ne hoq (i0 := 1) (by decide) ht2 hi hne⟩) (free_nthD hx) (by decide) (fun l' g b x hx _ => by cases hx) fun g => ivc_sound ?_; simp -dsimp only [Tryz.f222, go_sem]
  refine iwp_forR 3 [0] (fun i n' s R => ∃ p fe qq, VInv y.pool i p ∧ VF f p y.pool.seats.length fe ∧ qq 0 = .msl 1001 g 0 [] 0 y.pool.seats.length 20 ∧ qq 1 = .lit (.int .i64 p.hand) ∧ (∀ j, (qq j).still ∨ j = 0) ∧ R = upd (upd (fun _ => none) 1000 (some (0, gb, .node engK (upd q 1 (.node (.agg [1, 1]) qq))))) 1001 (some (g, t, .node (.arr y.pool.seats.length 20) fe))) 0 (Nat.zero_le _)
    ⟨y.pool, f, upd qp 0 (.msl 1001 g 0 [] 0 y.pool.seats.length 20), VInv.start hpo h3, ⟨hfs, hf, fun _ _ => rfl, ho.wh.2⟩, by simp -dsimp only [go_sem], by simp -dsimp only [go_sem, eh], gs_upd fun j => .inl (es j), by simp -dsimp only [go_sem]⟩ ?_
  rintro i n' s R hile hn hk ⟨p, fe, qq, hv, hF, hq0', hq1, hqq, rfl⟩
  refine ivc_sound ?_
  simp -dsimp only [go_sem] at hk
  have hkl := hv.kl
  have hlen := hv.len
  have hh0 := hv.h0
  have hh1 : p.hand < (y.pool.seats.length : Int) := by have := hv.l3; have := hv.h1; omega
  have hw : IntKind.i64.wrap (p.hand + 1) = p.hand + 1 := w64 (by omega) (by omega)
  have hse := hF.ok _ hkl
  have hfg := hse
  obtain ⟨ge, hge, ges, s0, s1, s2, s3⟩ := hfg
  have s3 : ge 3 = _ := s3
  have hkn : p.hand.toNat < y.pool.seats.length := by omega
  have hshort : y.pool.seats.length < 140737488355328 := by omega
  rcases Bool.eq_false_or_eq_true (p.seats[p.hand.toNat].hot) with hot | hot
  · have hi3 := hv.lt hot
    simp -dsimp only [go_sem, hk, hq0', hq1, hh0, hh1, hw, hge, s3, hot, hkn, hi3]
    exact into_r (by omega) (by simp -dsimp only [go_sem, hk]) ⟨vicStep p, _, _, hv.step hot, hF.cool hkl hlen hge, by simp -dsimp only [go_sem, hq0'], by simp -dsimp only [go_sem]; rfl, gs_upd1 hqq, rfl⟩
  · simp -dsimp only [go_sem, hk, hq0', hq1, hh0, hh1, hw, hge, s3, hot, hkn]
    refine ⟨_, rfl, fun n1 hn1 hfc => ?_⟩
    refine vic_ende (p := p) h.st hoq e1 e0 ?_ ?_ (gs_upd1 hqq) hF hlen hshort ho (hv.stop hot) ?_
    · simp -dsimp only [go_sem, hq0']
      rw [rls_still hF.st]
    · simp -dsimp only [go_sem, rl_lit]
      rfl
    · simp -dsimp only [go_sem, rl_lit]
def BrQe (q : Nat → D) (x : Md.Pool) (no : Int) (y : Md.Page) (lo : Nat) (n0 n1 : Nat) (d' r : D) : Prop := ∃ P a, d' = .node engK (upd q 1 P) ∧ r = .tup 2 (nthD [a, .lit (.bool (bringDo x no y).2.2)]) ∧ IsPool P (bringDo x no y).1 ∧ IsSeat a (bringDo x no y).2.1 ∧ Own2 (min lo n0) n1 P a ∧ (∀ t ∈ P.tl, t ∈ (q 1).tl ∨ n0 ≤ t) ∧ (∀ t ∈ a.tl, t ∈ (q 1).tl ∨ n0 ≤ t)
theorem br_ende {x : Md.Pool} {no : Int} {y : Md.Page} {lo n0 n1 l2 h2 : Nat} {F : Relab} {q qq : Nat → D} {sd a r : D} {ss : List Md.Seat} {hd : Int} (hq : ∀ i, (q i).still) (hoq : Own l2 h2 (.node engK q))
    (e0 : rl 7 F (qq 0) = sd) (e1 : rl 7 F (qq 1) = .lit (.int .i64 hd)) (hqq : ∀ j, (qq j).still ∨ j = 0) (hP : (bringDo x no y).1 = ⟨ss, hd⟩) (hL : IsL 20 IsSeat sd ss) (hA : IsSeat a (bringDo x no y).2.1)
    (hO : Own2 (min lo n0) n1 sd a) (ht : ∀ t ∈ sd.tl, t ∈ (q 1).tl ∨ n0 ≤ t) (ht2 : ∀ t ∈ a.tl, t ∈ (q 1).tl ∨ n0 ≤ t) (hr : r = .tup 2 (nthD [a, .lit (.bool (bringDo x no y).2.2)])) :
    BEnd (BrQe q x no y lo) (.node engK q) n0 n1 (rl 9 F (.node engK (upd q 1 (.node (.agg [1, 1]) qq)))) r := by
  subst hr
  rw [rl_engP hq]
  have hg := (grow_fin (x := ⟨ss, hd⟩) (n0 := min lo n0) (n1 := n1) e0 e1 hqq hL hO.oa).out
  have htl := tl_pool e0 e1
  have up : ∀ t, t ∈ (q 1).tl ∨ n0 ≤ t → t ∈ (D.node engK q).tl ∨ n0 ≤ t := fun t ht => ht.imp (fun h => tl_child (k := engK) (i := 1) (by decide) h) id
  have hT2 : (D.node (.agg [1, 1]) fun i => rl 7 F (qq i)).tags (fun b => b ∈ (D.node engK q).tl ∨ n0 ≤ b) := tags_of_tl (whole_data hg.2.wh) fun b hb => up b (ht b (htl ▸ hb))
  refine ⟨⟨_, a, rfl, rfl, by rw [hP]; exact hg.1, hA, ⟨hg.2, hO.ob, fun t h1 => hO.ap t (htl ▸ h1)⟩, fun t h1 => ht t (htl ▸ h1), ht2⟩, plain_node _ _, tags_engP hoq (fun b hb => .inl hb) hT2, fun i hi => ?_⟩
  match i, hi with
  | 0, _ => exact tags_of_tl (whole_data hO.ob.wh) fun t ht => up t (ht2 t ht)
  | 1, _ => trivial
theorem l6Bring_e (q : Nat → D) (d2 : D) (z : Md.Engine) (no : Int) (y : Md.Page) (lo hi : Nat) (h : EngF q z) (h2 : IsPage d2 y) (hoq : Own lo hi (.node engK q)) (hfr : ∀ t ∈ (q 1).tl, d2.free t) (hs2 : Md.szPage y ≤ 1048576) (hpo : Md.poolOk z.pool = true) :
    BCall Tryz.prog 183 (q 1) (.node engK q) [.lit (.int .i64 no), d2] (BrQe q z.pool no y lo) 136 [1] := by
  have hh := poolOk_hand hpo
  have eq2 := shp_page _ _ h2
  have y1 := eq2.1
  have y2 := eq2.2.1
  have y3 := eq2.2.2.1
  have y4 := eq2.2.2.2
  obtain ⟨qp, e1, es, hq0, eh⟩ := id h.q1
  have eh : qp 1 = _ := eh
  have o1 := own_sub (i := 1) hoq (by decide)
  rw [e1] at o1
  rcases hq0 with ⟨e0, hnil⟩ | ⟨t, zb, f, e0, hfs, hfl, hf⟩
  · have h3 : z.pool.seats.length < 3 := by rw [hnil]; decide
    have h3' : (((0 : Nat) : Int) < 3) := by decide
    refine bcall_intro Tryz.func183 rfl (by decide) rfl (by decide) (by rw [Tryz.ntmps183]; simp) fun w0 M n0 gb hW hS hT hgb => ivc_sound ?_; simp -dsimp only [Tryz.f183, go_sem, e1, e0, eh, y1, y2, y3]
    have hoq' := own_lt hoq (hT _ (List.mem_cons_self ..) (whole_data hoq.wh))
    intro g1 b1 hb1 g2 b2 hb2
    refine xcall_p (l3Copy_p _ _ h2 hs2) (by simp -dsimp only [go_sem, rl_still, y4]) fun m0 p0 r0 hm0 hp0 hr0 => ?_
    have rq := shp_page _ _ hr0.1
    refine ⟨hr0.2.tags, ?_⟩
    simp -dsimp only [go_sem, h3', e1, e0, eh, rq.1, rq.2.1, rq.2.2.1]
    intro g3 b3 hb3
    refine iwp_plan [(0, true), (1, true), (2, true), (3, true), (4, true), (5, true), (6, false), (7, false), (8, true), (9, true), (10, false)] [8, 1000] rfl (by decide +kernel) (by decide) [8, 9, 10] (by decide +kernel) ?_
    simp -dsimp only [go_sem, h3', e1, e0, eh, rq.1, rq.2.1, rq.2.2.1]
    intro g4 b4 hb4
    refine ⟨fun y h => h.symm, fun g5 b5 n' hn' hb5 hb6 => ⟨_, rfl, fun n1 hn1 hfc => ?_⟩⟩
    have hb := hfc.here.1
    have hpg := isSeat_U (no := no) hr0.1
    have hpo' := own_seatU (no := no) hr0.2
    have hF : Fill IsSeat 20 m0 p0 [newSeat no y] 1 1 (upd (fun _ => zSeatD) 0 (seatU no r0 true)) := Fill.one (xs := [newSeat no y]) (fun _ => still_zSeat) shp_seat (Nat.lt_succ_self 0) hpg hpo' (Nat.le_refl _) (Nat.le_refl _) (by omega)
    have hL := hF.isL (b := b5) (n1 := n1) (Nat.lt_irrefl _) (by decide : 1 ≤ 4194304) (by omega) hb (by omega) hfc.here.2
    refine br_ende (sd := .sl b5 true 1 20 (upd (fun _ => zSeatD) 0 (seatU no r0 true))) (a := zSeatD) (hd := z.pool.hand) h.st hoq' ?_ ?_ (gs_upd fun j => .inl (es j)) (by rw [bringDo_app h3, hnil]; rfl) hL.1 (by rw [bringDo_app h3]; exact isSeat_z) (Own2.plain (hL.2.mono (by omega) (by omega)) tl_zSeat whole_zSeat) (fun t ht => .inr (by have := hL.2.rg t ht; omega)) (fun t ht => by rw [tl_zSeat] at ht; simp at ht) ?_
    · simp -dsimp only [go_sem, e0]
      exact congrArg (D.sl b5 true 1 20) (rls_still hF.st)
    · simp -dsimp only [go_sem, eh, rl_lit]
    · rw [bringDo_app h3]
      exact congrArg (fun a => D.tup 2 (nthD [a, .lit (.bool false)])) (rl_still (d := zSeatD) still_zSeat)
  · have hoS : Own lo hi (.sl t zb z.pool.seats.length 20 f) := by
      have := own_sub (i := 0) o1 (by decide)
      rw [e0] at this
      exact this
    obtain rfl : zb = true := hoS.wh.1
    have hx1 : ∀ b ∈ (D.sl t true z.pool.seats.length 20 f).tl, b ∈ (q 1).tl := fun b hb => by rw [e1]; exact tl_child (k := .agg [1, 1]) (i := 0) (by decide) (by rw [e0]; exact hb)
    have hx : ∀ b ∈ (D.sl t true z.pool.seats.length 20 f).tl, b ∈ (D.node engK q).tl := fun b hb => tl_child (k := engK) (i := 1) (by decide) (hx1 b hb)
    have ht2 : t ∈ (q 1).tl := hx1 t (by simp [D.tl])
    have htl : t ∈ (D.node engK q).tl := hx t (by simp [D.tl])
    have hpf : ∀ i, i < (Kd.agg [1, 1]).cnt → i ≠ 0 → (qp i).free t := fun i hi hne => by
      have : i = 1 := by have : i < 2 := hi; omega
      subst this; rw [eh]; trivial
    have hfree := own_free hoS
    by_cases h3 : z.pool.seats.length < 3
    · have h3' : ((z.pool.seats.length : Int) < 3) := by omega
      have hx0 : ∀ z ∈ [D.ptr 1000 0 136 [1], .lit (.int .i64 no), d2], z.free t := fun z hz => by
        simp only [List.mem_cons, List.not_mem_nil, or_false] at hz
        rcases hz with rfl | rfl | rfl
        · trivial
        · trivial
        · exact hfr t ht2
      refine bcall_intro Tryz.func183 rfl (by decide) rfl (by decide) (by rw [Tryz.ntmps183]; simp) fun w0 M n0 gb hW hS hT hgb => iwp_melt (l := 1001) (lq := 1000) (R' := fun _ => none) (xq' := fun g => .node engK (upd q 1 (.node (.agg [1, 1]) (upd qp 0 (.msl 1001 g 0 [] 0 z.pool.seats.length 20))))) (hS t ht2) rfl hfree rfl (.node _ _ 1 (by decide) (has_at e1 (.node _ _ 0 (by decide) (has_eq e0)))) (fun g => ⟨trivial, thaw_upd (thaw_at e1 (thaw_upd (thaw_eq e0) hpf)) fun i hi hne => own_free_ne hoq (i0 := 1) (by decide) ht2 hi hne⟩) (free_nthD hx0) (by decide) (fun l' g b x hx _ => by cases hx) fun g => ivc_sound ?_; simp -dsimp only [Tryz.f183, go_sem, e1, e0, eh, y1, y2, y3]
      have hoq' := own_lt hoq (hT _ (List.mem_cons_self ..) (whole_data hoq.wh))
      have ho' : Own (min lo n0) n0 (.sl t true z.pool.seats.length 20 f) := by
        have a := own_sub (i := 1) hoq' (by decide)
        rw [e1] at a
        have a := own_sub (i := 0) a (by decide)
        rw [e0] at a; exact a
      intro g1 b1 hb1 g2 b2 hb2
      refine xcall_p (l3Copy_p _ _ h2 hs2) (by simp -dsimp only [go_sem, rl_still, y4]) fun m0 p0 r0 hm0 hp0 hr0 => ?_
      have hm0' : b2 + 1 ≤ m0 := hm0
      have rq := shp_page _ _ hr0.1
      refine ⟨hr0.2.tags, ?_⟩
      simp -dsimp only [go_sem, h3', e1, e0, eh, rq.1, rq.2.1, rq.2.2.1]
      intro g3 b3 hb3
      refine iwp_plan [(0, true), (1, true), (2, true), (3, true), (4, true), (5, true), (6, false), (7, false), (8, true), (9, true), (10, false)] [8, 1000] rfl (by decide +kernel) (by decide) [8, 9, 10] (by decide +kernel) ?_
      simp -dsimp only [go_sem, h3', e1, e0, eh, rq.1, rq.2.1, rq.2.2.1]
      intro g4 b4 hb4
      refine ⟨fun y h => h.symm, by omega, by omega, fun g5 b5 n' hn' hb5 hb6 => ⟨_, rfl, fun n1 hn1 hfc => ?_⟩⟩
      have hb7 : min lo n0 ≤ b5 := by
        rcases hb6 with h | h
        · omega
        · have := ho'.rg t (by simp [D.tl]); omega
      have hF := Fill.cat (fill_snoc (x := newSeat no y) shp_seat hfs hf ho') (z := fun _ => zSeatD) (hi := p0) (fun _ => still_zSeat) shp_seat (by simp) (by rw [snoc_get]; exact isSeat_U (no := no) hr0.1) (own_seatU (no := no) hr0.2) (by omega) (by omega) (Nat.le_refl _) (by omega)
      have hL := hF.isLs (b := b5) (n1 := n1) (by simp) (by omega) (by omega) hfc.here.1 (by omega) hfc.here.2
      refine br_ende (sd := .sl b5 true (z.pool.seats.length + 1) 20 (catD z.pool.seats.length f (upd (fun _ => zSeatD) 0 (seatU no r0 true)))) (a := zSeatD) (hd := z.pool.hand) h.st hoq' ?_ ?_ (gs_upd fun j => .inl (es j)) (by rw [bringDo_app h3]) hL.1 (by rw [bringDo_app h3]; exact isSeat_z) (Own2.plain (hL.2.1.mono (by omega) (by omega)) tl_zSeat whole_zSeat) (fun t' ht' => ?_) (fun t ht => by rw [tl_zSeat] at ht; simp at ht) ?_
      · simp -dsimp only [go_sem, e0]
        exact congrArg (D.sl b5 true (z.pool.seats.length + 1) 20) (rls_still hL.2.2)
      · simp -dsimp only [go_sem, eh, rl_lit]
      · rcases tl_cat (t0 := t) ht' with rfl | h | h
        · rcases hb6 with h | h
          · exact .inr (by omega)
          · subst h; exact .inl ht2
        · exact .inl (hx1 _ h)
        · exact .inr (by have := (own_seatU (no := no) hr0.2).rg _ h; omega)
      · rw [bringDo_app h3]
        exact congrArg (fun a => D.tup 2 (nthD [a, .lit (.bool false)])) (rl_still (d := zSeatD) still_zSeat)
    · have h3' : ¬ ((z.pool.seats.length : Int) < 3) := by omega
      have h33 : z.pool.seats.length = 3 := by omega
      refine bcall_intro Tryz.func183 rfl (by decide) rfl (by decide) (by rw [Tryz.ntmps183]; simp) fun w0 M n0 gb hW hS hT hgb => ivc_sound ?_; simp -dsimp only [Tryz.f183, go_sem, e1, e0, eh, y1, y2, y3]
      have hoq' := own_lt hoq (hT _ (List.mem_cons_self ..) (whole_data hoq.wh))
      have ho' : Own (min lo n0) n0 (.sl t true z.pool.seats.length 20 f) := by
        have a := own_sub (i := 1) hoq' (by decide)
        rw [e1] at a
        have a := own_sub (i := 0) a (by decide)
        rw [e0] at a; exact a
      intro g1 b1 hb1 g2 b2 hb2
      refine xcall_p (l3Copy_p _ _ h2 hs2) (by simp -dsimp only [go_sem, rl_still, y4]) fun m0 p0 r0 hm0 hp0 hr0 => ?_
      have hm0' : b2 + 1 ≤ m0 := hm0
      have rq := shp_page _ _ hr0.1
      refine ⟨hr0.2.tags, ?_⟩
      simp -dsimp only [go_sem, h3', e1, e0, eh, rq.1, rq.2.1, rq.2.2.1]
      intro g3 b3 hb3
      have hzt : ∀ p : Nat → Prop, zSeatD.tags p := fun p => tags_of_tl (whole_data whole_zSeat) fun t ht => by rw [tl_zSeat] at ht; simp at ht
      have hU := isSeat_U (no := no) hr0.1
      have hUo := own_seatU (no := no) hr0.2
      have hUp := shp_seat _ _ hU
      refine xcall_bw (rest0 := []) (l := 1000) (g := 0) (b := gb) (l6Victim_e q qp z t (min lo n0) n0 f h e1 e0 eh es hfs hfl hf hoq' hpo h33) (by simp -dsimp only [go_sem]) rfl (by simp -dsimp only [go_sem]) h.is.still hx (fun b hb => hS b (hx1 b hb)) (fun t ht => .inl ht) (fun t ht => .inl ht) [0, 6, 7, 8] (upd (upd (fun _ => none) 6 (some (g2, b2, zSeatD))) 8 (some (g3, b3, seatU no r0 true))) (by simp -dsimp only [go_sem]) fun n5 n6 d' r hn5 hn6 ht hq htd =>
        ⟨by simp -dsimp only [go_sem], ((CarR.skip (CarR.skip (CarR.none _ _ _) rfl) rfl).upd (show zSeatD.plain from trivial) (.apart _ (hzt _))).upd (show (seatU no r0 true).plain from trivial) (carry_own ho' hUo (.inl (by omega))), ?_⟩
      obtain ⟨PV, rfl, v1, v2, hsub0, rfl⟩ := hq
      have vk := vicGo_rg 3 z.pool hh.1 hh.2.1
      have vl := vicGo_lenP hh.1 hh.2.1
      obtain ⟨qv, rfl, qvs, v10, v11⟩ := v1
      have v11 : qv 1 = _ := v11
      obtain ⟨t', zb', f', qv0, hfs', hf'⟩ := v10.sl (i := 0) (by omega)
      have hoV : Own (min lo n0) n0 (.sl t' zb' (vicGo 3 z.pool).1.seats.length 20 f') := by
        have := v2.node.own (i := 0) (by decide)
        rw [qv0] at this
        exact this
      obtain rfl : zb' = true := hoV.wh.1
      have ht' := hoV.rg t' (by simp [D.tl])
      have hsub : ∀ b ∈ (D.sl t' true (vicGo 3 z.pool).1.seats.length 20 f').tl, b ∈ (q 1).tl := fun b hb => hsub0 b (tl_child (k := .agg [1, 1]) (i := 0) (by decide) (by rw [qv0]; exact hb))
      have hWt : ∀ b ∈ (D.sl t' true (vicGo 3 z.pool).1.seats.length 20 f').tl, wr w0 M b := fun b hb => hS b (hsub b hb)
      have hUf : (seatU no r0 true).free t' := free_nil hUo.wh fun hb => by have := hUo.rg _ hb; omega
      have hZf : zSeatD.free t' := free_nil whole_zSeat (by rw [tl_zSeat]; simp)
      have hkl : (vicGo 3 z.pool).2.toNat < (vicGo 3 z.pool).1.seats.length := by omega
      have hpf' : ∀ i, i < (Kd.agg [1, 1]).cnt → i ≠ 0 → (qv i).free t' := fun i hi hne => by
        have : i = 1 := by have : i < 2 := hi; omega
        subst this; rw [v11]; trivial
      have ht1' : t' ∈ (q 1).tl := hsub t' (by simp [D.tl])
      have hpe : ∀ i, i < engK.cnt → i ≠ 1 → (upd q 1 (.node (.agg [1, 1]) qv) i).free t' := fun i hi hne => by rw [upd_ne _ _ hne]; exact own_free_ne hoq' (i0 := 1) (by decide) ht1' hi hne
      refine conv_root (l := 1001) (lq := 1000) (gq := 0) (bq := gb) (R' := upd (upd (fun _ => none) 6 (some (g2, b2, zSeatD))) 8 (some (g3, b3, seatU no r0 true))) (xq' := fun g => .node engK (upd (upd q 1 (.node (.agg [1, 1]) qv)) 1 (.node (.agg [1, 1]) (upd qv 0 (.msl 1001 g 0 [] 0 (vicGo 3 z.pool).1.seats.length 20)))))
        (hWt t' (by simp [D.tl])) (by simp -dsimp only [go_sem]) (own_free hoV) (by simp -dsimp only [go_sem]) (.node _ _ 1 (by decide) (has_at (upd_same _ _ _) (.node _ _ 0 (by decide) (has_eq qv0)))) (fun g => ⟨plain_node _ _, thaw_upd (thaw_at (upd_same _ _ _) (thaw_upd (thaw_eq qv0) hpf')) hpe⟩) (free_put (free_pick fun j hj => ?_) trivial) (by decide) (fun l' g b z hz hne => ⟨?_, roots2 ⟨show zSeatD.plain from trivial, hZf⟩ ⟨show (seatU no r0 true).plain from trivial, hUf⟩ _ _ _ _ hz⟩) fun g => ?_
      · simp only [List.mem_cons, List.not_mem_nil, or_false] at hj
        rcases hj with rfl | rfl | rfl | rfl
        · exact (show (D.ptr 1000 0 136 [1]).free t' from trivial)
        · exact (show (D.ptr 6 g2 0 []).free t' from trivial)
        · exact (show (D.lit (.bool false)).free t' from trivial)
        · exact (show (D.ptr 8 g3 0 []).free t' from trivial)
      · rw [upd_ne _ _ hne]; exact hz
      have hh0 := vk.1
      have hh1 : (vicGo 3 z.pool).2 < ((vicGo 3 z.pool).1.seats.length : Int) := by omega
      have hse := hf' _ hkl
      have sp := shp_seat _ _ hse
      simp -dsimp only [go_sem, v11, hh0, hh1, hkl, sp.1, sp.2.1, sp.2.2.1, hUp.1, hUp.2.1, hUp.2.2.1]
      intro g10 b10 hb10
      refine iwp_plan [(0, true), (1, true), (2, true), (3, true), (4, true), (5, true), (6, true), (7, false)] [8, 1000] rfl (by decide +kernel) (by decide) [6, 7] (by decide +kernel) ?_
      simp -dsimp only [go_sem, v11, hh0, hh1, hkl, sp.1, sp.2.1, sp.2.2.1, hUp.1, hUp.2.1, hUp.2.2.1]
      have hn5' : b3 + 1 ≤ n5 := hn5
      have hn6' : n5 ≤ n6 := hn6
      have hb10' : n6 ≤ b10 := hb10
      refine ⟨trivial, rfl, _, rfl, fun n1 hn1 hfc => ?_⟩
      have hsw := own_swap hoV hUo (by omega) (by omega) hkl
      have hst2 : ∀ j, (upd f' (vicGo 3 z.pool).2.toNat (seatU no r0 true) j).still := still_upd hfs' hUp.2.2.2
      have hge : (vicGo 3 z.pool).1.seats[(vicGo 3 z.pool).2.toNat]? = some ((vicGo 3 z.pool).1.seats[(vicGo 3 z.pool).2.toNat]) := List.getElem?_eq_getElem hkl
      refine br_ende (sd := .sl t' true (vicGo 3 z.pool).1.seats.length 20 (upd f' (vicGo 3 z.pool).2.toNat (seatU no r0 true))) (a := f' (vicGo 3 z.pool).2.toNat) (hd := (vicGo 3 z.pool).1.hand) h.st hoq' ?_ ?_ (gs_upd fun j => .inl (qvs j)) (by rw [bringDo_vic h3]) (isL_set hfs' hUp.2.2.2 hf' hU (by omega)) (by rw [bringDo_vic h3, hge]; exact hse) (hsw.mono (Nat.le_refl _) (by omega)) (fun b hb => (tl_sl_upd hb).elim (fun h => .inl (hsub b h)) fun h => .inr (by have := hUo.rg b h; omega)) (fun b hb => .inl (hsub b (tl_row hkl hb))) ?_
      · simp -dsimp only [go_sem, qv0]
        rw [rls_still hst2]
      · simp -dsimp only [go_sem, v11, rl_lit]
      · rw [bringDo_vic h3, rl_still sp.2.2.2]
theorem rl_pool {qp : Nat → D} {F : Relab} {m S : D} (hql : ∀ i, (qp i).still) (h : rl 8 F m = S) : rl 9 F (.node (.agg [1, 1]) (upd qp 0 m)) = .node (.agg [1, 1]) (upd qp 0 S) := by
  rw [rl_node, rlsK_upd, rls_still hql, h]
theorem eng_own1 {q : Nat → D} {P : D} {lo n0 nn : Nat} (ho : Own lo n0 (.node engK q)) (hP : Own lo nn P) (hn : n0 ≤ nn) (ht : ∀ t ∈ P.tl, t ∈ (q 1).tl ∨ n0 ≤ t) : Put lo nn n0 (.node engK q) (.node engK (upd q 1 P)) :=
  Put.node (i := 1) ho (by decide) ⟨hP, ht⟩ (Nat.le_refl _) hn
theorem l7Fetch_b (q : Nat → D) (x : Md.Engine) (k : Nat) (n : Int) (lo hi : Nat) (h : EngF q x) (ho : Own lo hi (.node engK q)) (hF : FOk n x) (hk7 : k ≤ 7) (hl : x.log.recs.length ≤ 2097152) :
    BCall Tryz.prog 108 (q 1) (.node engK q) [.lit (.int .i64 k)] (FetQ q x k lo) := by
  have q1 := shp_pool _ _ h.q1
  by_cases hs : 0 ≤ Md.seated x.pool k
  · obtain ⟨qp, f, w, u, us, t, zb, K, V⟩ := eng_seat h hs
    have hsK : (0 : Int) ≤ (K : Int) := by omega
    have wsh : IsSeat (.node (.agg [1, 17, 1, 1]) w) (seatAt x k) := ⟨w, rfl, V.ws, V.w0, V.pg, V.w2, V.w3⟩
    have o1 := own_sub (i := 1) ho (by decide)
    rw [V.e1] at o1
    have o2 := own_sub (i := 0) o1 (by decide)
    rw [V.e0] at o2
    obtain rfl : zb = true := o2.wh.1
    have ht2 : t ∈ (q 1).tl := by rw [V.e1]; exact tl_child (i := 0) (by decide) (V.e0 ▸ (by simp [D.tl]))
    have htl : t ∈ (D.node engK q).tl := tl_child (i := 1) (by decide) ht2
    have fr1 : ∀ i, i < (Kd.agg [1, 1]).cnt → i ≠ 0 → (qp i).free t := fun i hi hne => by
      have : i = 1 := by have : i < 2 := hi; omega
      subst this; rw [V.eh]; trivial
    have hx0 : ∀ z ∈ [D.ptr 1000 0 0 [], .lit (.int .i64 k)], z.free t := fun z hz => by
      simp only [List.mem_cons, List.not_mem_nil, or_false] at hz
      rcases hz with rfl | rfl <;> trivial
    refine bcall_intro Tryz.func108 rfl (by decide) rfl (by decide) (by rw [Tryz.ntmps108]; simp) fun w0 M n0 gb hW hS hT hgb => iwp_melt (l := 1001) (lq := 1000) (R' := fun _ => none) (xq' := fun g => .node engK (upd q 1 (.node (.agg [1, 1]) (upd qp 0 (.msl 1001 g 0 [] 0 x.pool.seats.length 20))))) (hS t ht2) rfl (own_free o2) rfl (.node _ _ 1 (by decide) (has_at V.e1 (.node _ _ 0 (by decide) (has_eq V.e0)))) (fun g => ⟨trivial, thaw_upd (thaw_at V.e1 (thaw_upd (thaw_eq V.e0) fr1)) fun i hi hne => own_free_ne ho (i0 := 1) (by decide) ht2 hi hne⟩) (free_nthD hx0) (by decide) (fun l' g b x hx _ => by cases hx) fun g => ivc_sound ?_; simp -dsimp only [Tryz.f108, go_sem, h.all]
    have ho' := own_lt ho (hT _ (List.mem_cons_self ..) (whole_data ho.wh))
    refine xcall_v (specSeated_p _ x.pool k h.q1) ?_ (fun _ => trivial) fun n2 hn2 => ?_
    · simp -dsimp only [go_sem, rl_lit]
      exact congrArg (fun z => [z, D.lit (.int .i64 k)]) ((rl_pool V.es (by simp -dsimp only [go_sem]; exact sl_eq (rls_still V.fs))).trans (by rw [V.e1, upd_self qp 0 _ V.e0]))
    have hn2' : n0 ≤ n2 := hn2
    simp -dsimp only [go_sem, h.all, V.k, V.kli, V.kl, hsK, V.ek, V.w3]
    refine ⟨_, rfl, fun n1 hn1 hfc => ?_⟩
    have hn1' : n2 ≤ n1 := hn1
    have hKl := V.kl
    have hr : IsSeat (.node (.agg [1, 17, 1, 1]) (upd w 3 (.lit (.bool true)))) { x.pool.seats[K] with hot := true } := by
      rw [← V.at_]; exact ⟨_, rfl, still_upd V.ws trivial, V.w0, V.pg, V.w2, rfl⟩
    have hwK := o2.wh.2 K V.kl
    rw [V.ek] at hwK
    have SF := seat_field wsh hwK V.w3 hr
    have SM := seat_mod (u := fun s => { s with hot := true }) h ho' V.e1 V.eh V.es V.e0 V.fs V.fl V.fr V.kl hr SF.1 (by rw [V.ek]; exact SF.2.1) SF.2.2
    rw [rl_eng1 (S := .sl t true x.pool.seats.length 20 (upd f K (.node (.agg [1, 17, 1, 1]) (upd w 3 (.lit (.bool true)))))) h.st V.es (by simp -dsimp only [go_sem]; exact sl_eq (rls_still (still_upd V.fs SF.1)))]
    have hus : used x.pool k = ⟨x.pool.seats.modify K fun s => { s with hot := true }, x.pool.hand⟩ := by
      unfold used
      rw [if_pos hs, show (Md.seated x.pool k).toNat = K by have := V.k; omega]
    have hfe : fetchE x k = { x with pool := used x.pool k } := by unfold fetchE; rw [if_pos hs]
    have hfin : Eng (min lo n0) n1 n0 (.node engK q) (.node engK (upd q 1 (.node (.agg [1, 1]) (upd qp 0 (.sl t true x.pool.seats.length 20 (upd f K (.node (.agg [1, 17, 1, 1]) (upd w 3 (.lit (.bool true)))))))))) (fetchE x k) :=
      ⟨by rw [hfe, hus]; exact SM.1.is, SM.2.mono (Nat.le_refl _) (by omega) (Nat.le_refl _)⟩
    refine Eng.fin hfin ⟨?_, hfin⟩ (by simp -dsimp only [go_sem, rl_lit])
    rw [hfe]
    show _ = D.lit (.int .i64 (Md.seated (used x.pool k) k))
    rw [seated_used hs, V.k]
  · obtain ⟨fd, hd0, hdl, hdst, hdf⟩ := h.dk
    have hk8 : k < 8 := by omega
    have hk8i : (k : Int) < 8 := by omega
    have hkd : k < x.disk.length := by omega
    have hy := hdf k hkd
    have yp := shp_page _ _ hy
    have hyo := (hF.dok k hkd).1
    have hsy := szPage_ok hy hyo
    have hdk : diskAt x k = x.disk[k] := by unfold diskAt; exact getD_at hkd
    have hfe : fetchE x k = broughtE x (bringDo x.pool k x.disk[k]) := by unfold fetchE; rw [if_neg hs, hdk]
    have hB := brought hF.pool (by omega) (by omega) hyo (by omega : Md.seated x.pool k < 0)
    refine bcall_intro Tryz.func108 rfl (by decide) rfl (by decide) (by rw [Tryz.ntmps108]; simp) fun w0 M n0 gb hW hS hT hgb => ivc_sound ?_; simp -dsimp only [Tryz.f108, go_sem, h.all, q1.1, q1.2.1, q1.2.2.1]
    have ho' := own_lt ho (hT _ (List.mem_cons_self ..) (whole_data ho.wh))
    refine xcall_v (specSeated_p _ x.pool k h.q1) (by simp -dsimp only [go_sem, rl_still, q1.2.2.2, rl_lit]) (fun _ => trivial) fun n2 hn2 => ?_
    have hn2' : n0 ≤ n2 := hn2
    simp -dsimp only [go_sem, h.all, hs]
    refine iwp_planMT (.early 0 (.early 1 (.early 2 (.early 3 (.early 4 (.early 5 (.early 6 (.early 7 (.early 8 (.early 9 (.fork 10 (.early 11 (.early 12 (.early 13 (.late 14 (.late 15 (.early 16 .done)))))) 14 (.late 10 (.early 11 (.early 12 (.early 13 (.late 15 (.early 16 .done))))))))))))))))) [1000] [26, 0, 27, 28, 29, 1, 30, 31, 32, 33, 34, 35, 25, 36, 37, 38, 7] rfl (by decide +kernel) (by decide +kernel) (by decide) [10] [10] (by decide +kernel) ?_
    refine fork_m (fun st => ∃ nn g6 b6 s R P S, st = { N := 53, n := nn, s := s, R := R } ∧ R = upd (upd (fun _ => none) 1000 (some (0, gb, .node engK (upd q 1 P)))) 6 (some (g6, b6, S)) ∧ n2 ≤ nn ∧
      s 0 = .ptr 1000 0 0 [] ∧ s 1 = .lit (.int .i64 k) ∧ s 6 = .ptr 6 g6 0 [] ∧ s 7 = .lit (.bool (bringDo x.pool k x.disk[k]).2.2) ∧
      IsPool P (bringDo x.pool k x.disk[k]).1 ∧ IsSeat S (bringDo x.pool k x.disk[k]).2.1 ∧ Own2 (min lo n0) nn P S ∧ (∀ t ∈ P.tl, t ∈ (q 1).tl ∨ n0 ≤ t)) ?_ ?_
    · rintro st ⟨nn, g6, b6, s, R, P, S, rfl, rfl, hnn, v0, v1, v6, v7, hP, hS', hO, hPt⟩
      have pp := shp_pool _ _ hP
      have sp := shp_seat _ _ hS'
      have E1 := h.pool hP
      have P1 := eng_own1 ho' hO.oa (by omega) hPt
      obtain ⟨w, hw, hws, wz, w1, w2, w3⟩ := id hS'
      have w2 : w 2 = _ := w2
      subst hw
      have fin0 : ∀ (v : D) (n3 : Nat) (F : Relab), nn ≤ n3 → ¬ ((bringDo x.pool k x.disk[k]).2.2 = true ∧ (bringDo x.pool k x.disk[k]).2.1.dirty = true) → v = .lit (.int .i64 (Md.seated (bringDo x.pool k x.disk[k]).1 k)) → BEnd (FetQ q x k lo) (.node engK q) n0 n3 (rl 9 F (.node engK (upd q 1 P))) v := fun v n3 F hn3 hc hv =>
        fet_end (by rw [hfe]; unfold broughtE; rw [if_neg hc]) E1 (P1.mono (Nat.le_refl _) hn3 (Nat.le_refl _)) hv
      rcases Bool.eq_false_or_eq_true (bringDo x.pool k x.disk[k]).2.2 with c1 | c1
      rotate_left
      · simp -dsimp only [go_sem, v0, v1, v6, v7, pp.1, pp.2.1, pp.2.2.1, h.all, c1]
        refine xcall_v (specSeated_p _ _ k hP) (by simp -dsimp only [go_sem, rl_still, pp.2.2.2, rl_lit]) (fun _ => trivial) fun n3 hn3 => ?_
        simp -dsimp only [go_sem, v0, v1, v6, v7]
        have hn3' : nn ≤ n3 := hn3
        exact ⟨_, rfl, fun n1 hn1 hfc => fin0 _ _ _ (by have : n3 ≤ n1 := hn1; omega) (by simp [c1]) (by simp -dsimp only [go_sem, rl_lit])⟩
      rcases Bool.eq_false_or_eq_true (bringDo x.pool k x.disk[k]).2.1.dirty with c2 | c2
      rotate_left
      · simp -dsimp only [go_sem, v0, v1, v6, v7, pp.1, pp.2.1, pp.2.2.1, h.all, c1, w2, c2]
        refine xcall_v (specSeated_p _ _ k hP) (by simp -dsimp only [go_sem, rl_still, pp.2.2.2, rl_lit]) (fun _ => trivial) fun n3 hn3 => ?_
        simp -dsimp only [go_sem, v0, v1, v6, v7]
        have hn3' : nn ≤ n3 := hn3
        exact ⟨_, rfl, fun n1 hn1 hfc => fin0 _ _ _ (by have : n3 ≤ n1 := hn1; omega) (by simp [c2]) (by simp -dsimp only [go_sem, rl_lit])⟩
      obtain ⟨_, j, hj, hno, hpp⟩ := hB.gone c2
      have hjj := (poolOk_iff.1 hF.pool).2.2.2.1 j hj
      obtain ⟨k2, hk2⟩ := Int.eq_ofNat_of_zero_le (show 0 ≤ (bringDo x.pool k x.disk[k]).2.1.no by omega)
      have hsz : Md.szPage (bringDo x.pool k x.disk[k]).2.1.p ≤ 1048576 := by
        have := szPage_ok w1 (by rw [hpp]; exact hjj.2.2)
        omega
      simp -dsimp only [go_sem, v0, v1, v6, v7, pp.1, pp.2.1, pp.2.2.1, h.all, c1, w2, c2, sp.1, sp.2.1, sp.2.2.1]
      refine xcall_cs (l := 1000) (g := 0) (b := gb) (l7Write_b _ w _ (bringDo x.pool k x.disk[k]).2.1 k2 (min lo n0) nn E1 hS' P1.own hk2 (by omega) hsz hl) (by simp -dsimp only [go_sem, v0]) ⟨hS'.still, trivial⟩ (by simp -dsimp only [go_sem]) E1.is.still fun m2 m3 d2 r2 hm2 hm3 hQ2 => ?_
      obtain ⟨hrf, L, D', rfl, hL, hD', hE2⟩ := hQ2
      have hm2' : nn ≤ m2 := hm2
      simp -dsimp only [go_sem, v0, v1, v6, v7, pp.1, pp.2.1, pp.2.2.1]
      refine xcall_v (specSeated_p _ _ k hP) (by simp -dsimp only [go_sem, v0, v1, rl_still, pp.2.2.2, rl_lit]) (fun _ => trivial) fun n3 hn3 => ?_
      simp -dsimp only [go_sem, v0, v1, v6, v7]
      have hn3' : m3 ≤ n3 := hn3
      refine ⟨_, rfl, fun n1 hn1 hfc => ?_⟩
      have hn1' : n3 ≤ n1 := hn1
      exact fet_end (by rw [hfe]; unfold broughtE; rw [if_pos ⟨c1, c2⟩]) (isEngine_f hE2.is) (P1.trans (hE2.put.mono (Nat.le_min.2 ⟨Nat.le_refl _, by omega⟩) (by omega) (Nat.le_refl _)) (by omega)) (by simp -dsimp only [go_sem, rl_lit]; rfl)
    · intro K hK
      simp -dsimp only [go_sem, h.all, hd0, hk8, hk8i, yp.1, yp.2.1, yp.2.2.1]
      have hdt : ∀ t ∈ (fd k).tl, t ∉ (q 1).tl := fun t ht hx => ho'.node.dj 0 1 (by decide) (by decide) t (by rw [hd0]; exact tl_child (i := k) (show k < (Kd.arr 8 17).cnt from hk8) ht) hx
      have ho0 := own_sub (i := 0) ho' (by decide)
      rw [hd0] at ho0
      have hfd := own_sub (i := k) ho0 (show k < (Kd.arr 8 17).cnt from hk8)
      have hcar : Carry (q 1) .any (fd k) (fd k) := .apart _ (tags_of_tl (whole_data hfd.wh) hdt)
      refine ⟨?_, ?_⟩
      · refine vcBT_of (by simp -dsimp only [go_sem]) (bdraw (l := 1000) (g := 0) (b := gb) (l6Bring_e q (fd k) x k x.disk[k] (min lo n0) n0 h hy ho' (fun t ht => free_nil hfd.wh fun hx => hdt t hx ht) (by omega) hF.pool) (by simp -dsimp only [go_sem]) ⟨trivial, yp.2.2.2, trivial⟩ (by simp -dsimp only [go_sem]) h.is.still (fun b hb => tl_child (k := engK) (i := 1) (by decide) hb) hS (fun t ht => .inl ht) (fun t ht => .inl ht) [26, 0, 27, 28, 29, 1, 30, 31, 32, 33, 34, 35, 25, 36, 37, 38, 7] (fun _ => none) rfl (by decide) ?_ (CarR.none _ _ _) fun m0 m1 d' r hm0 hm1 hlt hQ htg => ?_)
        · simp -dsimp only [go_sem]
          exact ⟨hcar, .drop _, .drop _, .drop _, .drop _, .drop _⟩
        · obtain ⟨P, S, rfl, rfl, hP, hS', hO, hPt, hSt⟩ := hQ
          have pp := shp_pool _ _ hP
          have sp := shp_seat _ _ hS'
          simp -dsimp only [go_sem, sp.1, sp.2.1, sp.2.2.1]
          intro g b hb
          have hm0' : n2 ≤ m0 := hm0
          exact hK _ ⟨_, _, _, _, _, P, S, rfl, rfl, (by omega), by simp -dsimp only [go_sem], by simp -dsimp only [go_sem], by simp -dsimp only [go_sem], by simp -dsimp only [go_sem], hP, hS', hO.mono (by omega) (by omega), fun t ht => (hPt t ht).imp id fun h => by omega⟩
      · intro g6 b6 hb6
        refine vcBT_of (by simp -dsimp only [go_sem]) (bdraw (l := 1000) (g := 0) (b := gb) (l6Bring_e q (fd k) x k x.disk[k] (min lo n0) n0 h hy ho' (fun t ht => free_nil hfd.wh fun hx => hdt t hx ht) (by omega) hF.pool) (by simp -dsimp only [go_sem]) ⟨trivial, yp.2.2.2, trivial⟩ (by simp -dsimp only [go_sem]) h.is.still (fun b hb => tl_child (k := engK) (i := 1) (by decide) hb) hS (fun t ht => .inl ht) (fun t ht => .inl ht) [26, 0, 27, 28, 29, 1, 30, 31, 32, 33, 34, 35, 25, 36, 37, 38, 7, 6] (upd (fun _ => none) 6 (some (g6, b6, zSeatD))) (by simp -dsimp only [go_sem]) (by decide) ?_ ((CarR.skip (CarR.none _ _ _) rfl).upd (show zSeatD.plain from trivial) (.apart _ (tags_of_tl (whole_data whole_zSeat) fun t ht => absurd ht (by show t ∉ zSeatD.tl; rw [tl_zSeat]; simp)))) fun m0 m1 d' r hm0 hm1 hlt hQ htg => ?_)
        · simp -dsimp only [go_sem]
          exact ⟨hcar, .drop _, .drop _, .drop _, .drop _, .drop _⟩
        · obtain ⟨P, S, rfl, rfl, hP, hS', hO, hPt, hSt⟩ := hQ
          have pp := shp_pool _ _ hP
          have sp := shp_seat _ _ hS'
          simp -dsimp only [go_sem, sp.1, sp.2.1, sp.2.2.1]
          refine ⟨trivial, rfl, ?_⟩
          have hm0' : b6 + 1 ≤ m0 := hm0
          exact hK _ ⟨_, g6, b6, _, _, P, S, rfl, upd_comm _ _ _ (by decide), (by omega), by simp -dsimp only [go_sem], by simp -dsimp only [go_sem], by simp -dsimp only [go_sem], by simp -dsimp only [go_sem], hP, hS', hO.mono (by omega) (by omega), fun t ht => (hPt t ht).imp id fun h => by omega⟩
def getDo (x : Md.Engine) (oid : Int) : Md.Engine × Md.Slot × Int := if codeOf x (Md.inB oid 1 31) = 0 then (fetchE x (oid / 4), slotAt (fetchE x (oid / 4)) oid, 0) else (x, Md.zSlot, codeOf x (Md.inB oid 1 31))
theorem get_no {x : Md.Engine} {oid : Int} (h : codeOf x (Md.inB oid 1 31) ≠ 0) : getDo x oid = (x, Md.zSlot, codeOf x (Md.inB oid 1 31)) := if_neg h
theorem get_yes {x : Md.Engine} {oid : Int} (h : codeOf x (Md.inB oid 1 31) = 0) : getDo x oid = (fetchE x (oid / 4), slotAt (fetchE x (oid / 4)) oid, 0) := if_pos h
def GetR (x : Md.Engine) (oid : Int) (n0 n1 : Nat) (r : D) : Prop := Three (fun a b => IsEngine a (getDo x oid).1 ∧ IsSlot b (getDo x oid).2.1 ∧ Own2 n0 n1 a b) (.lit (.int .i64 (getDo x oid).2.2)) r
theorem own_z {a : D} {lo hi : Nat} (h : Own lo hi a) : Own2 lo hi a zSlotD := Own2.plain h (by rfl) whole_zSlot
theorem specGet_p (d : D) (x : Md.Engine) (oid : Int) (h : IsEngine d x) (hs : Md.szEngine x ≤ 1048576) (hd : d.data) : PCall Tryz.prog 34 [d, .lit (.int .i64 oid)] (GetR x oid) := by
  have hp := h
  have eq := shp_engine _ _ h
  have e4 := eq.2.2.2
  have e1 := eq.1
  have e2 := eq.2.1
  have e3 := eq.2.2.1
  refine pcall_intro_t Tryz.func34 rfl (by decide) rfl (by decide) (by rw [Tryz.ntmps34]; simp) fun w0 M n0 hW hT => ivc_sound ?_; simp -dsimp only [Tryz.f34, go_sem, e1, e2, e3]
  intro g1 b1 hb1 g2 b2 hb2 g3 b3 hb3
  refine xcall_p (l7Copy_p _ _ hp hs) (by simp -dsimp only [go_sem, rl_still, e4]) fun m0 p0 r0 hm0 hp0 hr0 => ?_
  have hm0' : b3 + 1 ≤ m0 := hm0
  refine ⟨hr0.2.tags, ?_⟩
  obtain ⟨q, rfl, hq⟩ := hr0.1.node
  have ho := hr0.2
  have rq := shp_engine _ _ hr0.1
  simp -dsimp only [go_sem, rq.1, rq.2.1, rq.2.2.1, e1, e2, e3]
  intro g7 b7 hb7
  have hb7' : p0 ≤ b7 := hb7
  refine xcall_v (l7Code_p _ x hp hs) (by simp -dsimp only [go_sem, rl_still, e4]) (fun _ => trivial) fun n2 hn2 => ?_
  have hn2' : b7 + 1 ≤ n2 := hn2
  have zs := shp_slot _ _ isSlot_z
  have ct := code_told (x := x) (b := Md.inB oid 1 31)
  have no : ∀ (c : Int), codeOf x (Md.inB oid 1 31) = c → c ≠ 0 → ∀ (n1 : Nat), p0 ≤ n1 → ∀ b, b = zSlotD → GetR x oid n0 n1 (.tup 3 (nthD [.node engK q, b, .lit (.int .i64 c)])) := fun c hc hne n1 hn1 b hb => by
    subst hb
    have hg := get_no (x := x) (oid := oid) (by rw [hc]; exact hne)
    exact Three.of (by rw [hg]; exact ⟨hr0.1, isSlot_z, own_z (ho.mono (by omega) hn1)⟩) (by rw [hg, hc])
  by_cases h1 : codeOf x true = 1
  · have h1b : ((1 : Int) == 1) = true := rfl
    have hc : codeOf x (Md.inB oid 1 31) = 1 := by cases e : Md.inB oid 1 31 with
                                                    | true => exact h1
                                                    | false => exact codeOf_form (by simp)
    simp -dsimp only [go_sem, rq.1, rq.2.1, rq.2.2.1, h1, h1b, zs.1, zs.2.1, zs.2.2.1]
    intro n1 hn1 hfc
    have hn1' : n2 ≤ n1 := hn1
    rw [rl_still rq.2.2.2]
    exact no 1 hc (by decide) n1 (by omega) _ (rl_still still_zSlot)
  have h1b : (codeOf x true == 1) = false := by simpa using h1
  simp -dsimp only [go_sem, rq.1, rq.2.1, rq.2.2.1, h1b]
  refine xcall_v (l1In_p oid 1 31) (by simp -dsimp only [go_sem, rl_lit]) (fun _ => trivial) fun n3 hn3 => ?_
  have hn3' : n2 ≤ n3 := hn3
  rcases Bool.eq_false_or_eq_true (Md.inB oid 1 31) with hin | hin
  rotate_left
  · have hc : codeOf x (Md.inB oid 1 31) = 1 := by rw [ct, hin]; rfl
    simp -dsimp only [go_sem, rq.1, rq.2.1, rq.2.2.1, hin, zs.1, zs.2.1, zs.2.2.1]
    intro n1 hn1 hfc
    have hn1' : n3 ≤ n1 := hn1
    rw [rl_still rq.2.2.2]
    exact no 1 hc (by decide) n1 (by omega) _ (rl_still still_zSlot)
  have hc : codeOf x (Md.inB oid 1 31) = codeOf x true := by rw [hin]
  by_cases c0 : codeOf x true = 0
  rotate_left
  · have c0l : (codeOf x true != 0) = true := by simpa using c0
    simp -dsimp only [go_sem, rq.1, rq.2.1, rq.2.2.1, hin, c0l, zs.1, zs.2.1, zs.2.2.1]
    intro n1 hn1 hfc
    have hn1' : n3 ≤ n1 := hn1
    rw [rl_still rq.2.2.2]
    exact no _ hc c0 n1 (by omega) _ (rl_still still_zSlot)
  have c0l : ((0 : Int) != 0) = false := rfl
  have hin' := (inB_iff _ _ _).1 hin
  obtain ⟨o, ho0⟩ := Int.eq_ofNat_of_zero_le (show 0 ≤ oid by omega)
  subst ho0
  obtain ⟨hok, hlen, _, _⟩ := code0_ok' c0
  have hF := eng_fok hok (hq.dk.choose_spec.2.1)
  have hwq : IntKind.i64.wrap ((o : Int).tdiv 4) = ((o / 4 : Nat) : Int) := by rw [Int.tdiv_eq_ediv_of_nonneg (by omega)]; rw [w64 (by omega) (by omega)]; omega
  have hwr : (o : Int).tmod 4 = ((o % 4 : Nat) : Int) := by rw [Int.tmod_eq_emod_of_nonneg (by omega)]; omega
  have e4' : ((o : Int) / 4) = ((o / 4 : Nat) : Int) := by omega
  have hm4 : (o % 4 : Nat) < 4 := Nat.mod_lt _ (by decide)
  have hm4i : ((o % 4 : Nat) : Int) < 4 := by omega
  have hft := fetched (no := ((o / 4 : Nat) : Int)) hF (by omega) (by omega)
  simp -dsimp only [go_sem, rq.1, rq.2.1, rq.2.2.1, hin, c0, c0l, hwq]
  have hq1o := own_sub (i := 1) ho (by decide)
  refine xcall_bw (l := 7) (g := g7) (b := b7) (l7Fetch_b q x (o / 4) _ m0 p0 hq ho hF (by omega) (by omega)) (by simp -dsimp only [go_sem]) (still_mapBV ⟨trivial, trivial⟩) (by simp -dsimp only [go_sem]) hr0.1.still (fun b hb => tl_child (k := engK) (i := 1) (by decide) hb) (fun t ht => hW t (by have := hq1o.rg t ht; omega)) (fun t ht => .inl ht) (fun t ht => .inl ht) [4, 5, 7, 1] (upd (upd (fun _ => none) 4 (some (g2, b2, .node engK cpZ))) 5 (some (g3, b3, zSlotD))) (by simp -dsimp only [go_sem]) fun m2 m3 d' r hm2 hm3 hlt hQ htg => ?_
  obtain ⟨rfl, hE⟩ := hQ
  refine ⟨by simp -dsimp only [go_sem], ((((CarR.none _ _ _).skip rfl).upd (plain_node _ _) (carry_cpZ _ _)).upd (show zSlotD.plain from trivial) (.apart _ (tags_of_tl (whole_data whole_zSlot) fun t ht => absurd ht (by show t ∉ zSlotD.tl; simp [show zSlotD.tl = [] from rfl])))).skip rfl, Conv.zero ?_⟩
  have hm2' : n3 ≤ m2 := hm2
  obtain ⟨q', rfl, hq'⟩ := hE.is.node
  obtain ⟨qp, f, w, u, us, t, zb, K, V⟩ := eng_seat hq' hft.s0
  have hidx : o % 4 < (seatAt (fetchE x ((o / 4 : Nat) : Int)) ((o / 4 : Nat) : Int)).p.slots.length := by rw [V.sl4]; exact hm4
  have hsl := V.sr (o % 4) hidx
  have slp := shp_slot _ _ hsl
  have hsz : Md.szSlot (seatAt (fetchE x ((o / 4 : Nat) : Int)) ((o / 4 : Nat) : Int)).p.slots[o % 4] ≤ 10 := by
    refine szSlot_ok ?_
    have hp := ((poolOk_iff.1 hft.ok.pool).2.2.2.1 K V.kl).2.2
    rw [← V.at_] at hp
    simp only [Md.pageOk, Md.slotsOk, Bool.and_eq_true, List.all_eq_true] at hp
    exact hp.2 _ (List.getElem_mem _)
  have rp := shp_engine _ _ hE.is
  simp -dsimp only [go_sem, V.k]
  refine iwp_plan [(0, true), (1, true), (2, true), (3, true), (4, true), (5, true), (6, true), (7, true), (8, true), (9, true), (10, true), (11, true), (12, false), (13, false), (14, false), (15, true)] [7] rfl (by decide +kernel) (by decide) [] (by decide +kernel) ?_
  simp -dsimp only [go_sem, hwr, V.k, V.e1, V.e0, V.ek, V.w1, V.u1, V.kl, V.kli, hm4, hm4i, slp.1, slp.2.1, slp.2.2.1]
  refine xcall_p (l3CopySlot_p _ _ hsl (by omega)) (by simp -dsimp only [go_sem, rl_still, slp.2.2.2]) fun m4 p4 r4 hm4 hp4 hr4 => ?_
  have hm4' : m3 ≤ m4 := hm4
  refine ⟨hr4.2.tags, ?_⟩
  have r4p := shp_slot _ _ hr4.1
  simp -dsimp only [go_sem, r4p.1, r4p.2.1, r4p.2.2.1, rp.1, rp.2.1, rp.2.2.1]
  refine ⟨trivial, rfl, fun n1 hn1 hfc => ?_⟩
  have hn1' : p4 ≤ n1 := hn1
  rw [rl_still rp.2.2.2, rl_still r4p.2.2.2]
  have hg := get_yes (x := x) (oid := (o : Int)) (hc.trans c0)
  refine Three.of ⟨by rw [hg, e4']; exact hE.is, ?_, Own2.of (hE.put.own.mono (by omega) (Nat.le_refl _)) (hr4.2.mono (Nat.le_refl _) hn1') hm4' (by omega) (by omega)⟩ (by rw [hg])
  rw [hg]
  show IsSlot _ (slotAt (fetchE x ((o : Int) / 4)) o)
  unfold slotAt
  rw [e4', show ((o : Int) % 4).toNat = o % 4 by omega, getD_at hidx]
  exact hr4.1
theorem get_p (d : D) (x : Md.Engine) (oid : Int) (h : IsEngine d x) (hs : Md.szEngine x ≤ 1048576) (hd : d.data) : PCall Tryz.prog 35 [d, .lit (.int .i64 oid)] (GetR x oid) := by
  have hp := h
  have eq := shp_engine _ _ h
  have e4 := eq.2.2.2
  have e1 := eq.1
  have e2 := eq.2.1
  have e3 := eq.2.2.1
  refine pcall_intro_t Tryz.func35 rfl (by decide) rfl (by decide) (by rw [Tryz.ntmps35]; simp) fun w0 M n0 hW hT => ivc_sound ?_; simp -dsimp only [Tryz.f35, go_sem, e1, e2, e3]
  intro g1 b1 hb1 g2 b2 hb2 g3 b3 hb3
  refine xcall_p (cloneEngine_p _ _ hp hs) (by simp -dsimp only [go_sem, rl_still, e4]) fun m0 p0 r0 hm0 hp0 hr0 => ?_
  have hm0' : b3 + 1 ≤ m0 := hm0
  refine ⟨hr0.2.tags, ?_⟩
  obtain ⟨q, rfl, hq⟩ := hr0.1.node
  have ho := hr0.2
  have rq := shp_engine _ _ hr0.1
  simp -dsimp only [go_sem, rq.1, rq.2.1, rq.2.2.1, e1, e2, e3]
  intro g7 b7 hb7
  have hb7' : p0 ≤ b7 := hb7
  have zs := shp_slot _ _ isSlot_z
  refine iwp_plan [(0, true), (1, true), (2, false), (3, false), (4, true)] [2] rfl (by decide +kernel) (by decide) [] (by decide +kernel) ?_
  simp -dsimp only [go_sem, rq.1, rq.2.1, rq.2.2.1, e1, e2, e3]
  refine xcall_v (isOid_p oid) (by simp -dsimp only [go_sem, rl_lit]) (fun _ => trivial) fun n2 hn2 => ?_
  have hn2' : b7 + 1 ≤ n2 := hn2
  simp -dsimp only [go_sem, rq.1, rq.2.1, rq.2.2.1, e1, e2, e3]
  refine xcall_v (codeOf_p _ x (Md.inB oid 1 31) hp hs hd) (by simp -dsimp only [go_sem, rl_still, e4, rl_lit]) (fun _ => trivial) fun n3 hn3 => ?_
  have hn3' : n2 ≤ n3 := hn3
  by_cases c0 : codeOf x (Md.inB oid 1 31) = 0
  rotate_left
  · have c0l : (codeOf x (Md.inB oid 1 31) != 0) = true := by simpa using c0
    simp -dsimp only [go_sem, rq.1, rq.2.1, rq.2.2.1, c0l, zs.1, zs.2.1, zs.2.2.1]
    intro n1 hn1 hfc
    have hn1' : n3 ≤ n1 := hn1
    rw [rl_still rq.2.2.2]
    have hg := get_no c0
    have fin : ∀ b, b = zSlotD → GetR x oid n0 n1 (.tup 3 (nthD [.node engK q, b, .lit (.int .i64 (codeOf x (Md.inB oid 1 31)))])) := fun b hb => by
      subst hb
      exact Three.of (by rw [hg]; exact ⟨hr0.1, isSlot_z, own_z (ho.mono (by omega) (by omega))⟩) (by rw [hg])
    exact fin _ (rl_still still_zSlot)
  have c0l : (codeOf x (Md.inB oid 1 31) != 0) = false := by simpa using c0
  obtain ⟨hok, hlen, hin, _⟩ := code0_ok' c0
  have hin' := (inB_iff _ _ _).1 hin
  obtain ⟨o, ho0⟩ := Int.eq_ofNat_of_zero_le (show 0 ≤ oid by omega)
  subst ho0
  have hF := eng_fok hok (hq.dk.choose_spec.2.1)
  have c00 : ((0 : Int) != 0) = false := rfl
  simp -dsimp only [go_sem, rq.1, rq.2.1, rq.2.2.1, c0, c0l, c00]
  refine xcall_cs (l := 7) (g := g7) (b := b7) (slotOf_b q x o _ m0 p0 hq ho hF (by omega) (by omega)) (by simp -dsimp only [go_sem]) (by trivial) (by simp -dsimp only [go_sem]) hq.is.still fun m2 m3 d2 r2 hm2 hm3 hQ2 => ?_
  obtain ⟨hsl, hE, hO, hnew⟩ := hQ2
  have hm2' : n3 ≤ m2 := hm2
  have rp := shp_engine _ _ hE.is
  have sp := shp_slot _ _ hsl
  simp -dsimp only [go_sem, rp.1, rp.2.1, rp.2.2.1, sp.1, sp.2.1, sp.2.2.1]
  intro g9 b9 hb9
  refine iwp_plan [(0, true), (1, true), (2, false), (3, false), (4, true)] [7, 9] rfl (by decide +kernel) (by decide) [] (by decide +kernel) ?_
  simp -dsimp only [go_sem, rp.1, rp.2.1, rp.2.2.1, sp.1, sp.2.1, sp.2.2.1]
  intro n1 hn1 hfc
  have hn1' : b9 + 1 ≤ n1 := hn1
  have hb9' : m3 ≤ b9 := hb9
  rw [rl_still rp.2.2.2, rl_still sp.2.2.2]
  have hg := get_yes c0
  exact Three.of ⟨by rw [hg]; exact hE.is, by rw [hg]; exact hsl, hO.mono (by omega) (by omega)⟩ (by rw [hg])
theorem sumBy_memG {α : Type} {f : α → Nat} : ∀ {l : List α} {a : α}, a ∈ l → f a ≤ Md.sumBy f l
  | b :: l, a, h => by
    have e : Md.sumBy f (b :: l) = f b + Md.sumBy f l := by simp [Md.sumBy]
    rw [e]
    rcases List.mem_cons.1 h with rfl | h
    · omega
    · have := sumBy_memG (f := f) h; omega
theorem sumBy_setG {α : Type} {f : α → Nat} : ∀ {l : List α} {k : Nat} {a : α}, Md.sumBy f (l.set k a) ≤ Md.sumBy f l + f a
  | [], _, _ => by simp [Md.sumBy]
  | b :: l, 0, a => by simp [Md.sumBy]; omega
  | b :: l, k + 1, a => by
    have e : Md.sumBy f (b :: l) = f b + Md.sumBy f l := by simp [Md.sumBy]
    have e2 : Md.sumBy f ((b :: l).set (k + 1) a) = f b + Md.sumBy f (l.set k a) := by simp [Md.sumBy]
    have := sumBy_setG (f := f) (l := l) (k := k) (a := a)
    omega
theorem c_fetch {n : Int} {x : Md.Engine} {no : Int} (hF : FOk n x) (h0 : 0 ≤ no) (h7 : no ≤ 7) : Md.cEngine (fetchE x no) ≤ 11 * Md.szEngine x + 12 := by
  have h := cEngine_le x
  have e2 : Md.cEngine x = Md.sumBy Md.szPage x.disk + Md.cPool x.pool + Md.cLog x.log + 3 * x.txs.length + 2 * x.holds.length := rfl
  have hft := fetched hF h0 h7
  have hl3 := (poolOk_iff.1 hft.ok.pool).1
  have hcp : Md.cPool (fetchE x no).pool = 4 * (fetchE x no).pool.seats.length := Md.cSeats_eq _
  have e : Md.cEngine (fetchE x no) = Md.sumBy Md.szPage (fetchE x no).disk + Md.cPool (fetchE x no).pool + Md.cLog (fetchE x no).log + 3 * (fetchE x no).txs.length + 2 * (fetchE x no).holds.length := rfl
  have hcl : Md.cLog (fetchE x no).log = Md.cLog x.log := by unfold Md.cLog; rw [hft.recs]
  rw [e, hcp, hcl, hft.txs, hft.holds]
  have hd : Md.sumBy Md.szPage (fetchE x no).disk ≤ Md.sumBy Md.szPage x.disk + Md.szEngine x := by
    unfold fetchE
    by_cases hs : 0 ≤ Md.seated x.pool no
    · rw [if_pos hs]; exact Nat.le_add_right _ _
    · rw [if_neg hs]
      obtain ⟨hpl, hpe, hpo, _⟩ := hF.page h0 h7
      have hB := brought hF.pool h0 h7 hpo (by omega : Md.seated x.pool no < 0)
      unfold broughtE
      split
      · rename_i hc
        obtain ⟨_, j, hj, _, hpp⟩ := hB.gone hc.2
        have h2 := sumBy_setG (f := Md.szPage) (l := x.disk) (k := (bringDo x.pool no (diskAt x no)).2.1.no.toNat) (a := (bringDo x.pool no (diskAt x no)).2.1.p)
        have h3 : Md.szPage (bringDo x.pool no (diskAt x no)).2.1.p ≤ Md.sumBy Md.szSeat x.pool.seats := by
          rw [hpp]; exact sumBy_memG (f := Md.szSeat) (List.getElem_mem hj)
        have h4 : Md.sumBy Md.szSeat x.pool.seats ≤ Md.szEngine x := by unfold Md.szEngine Md.szPool Md.szSeats; omega
        show Md.sumBy Md.szPage (x.disk.set _ _) ≤ _
        omega
      · exact Nat.le_add_right _ _
  omega
theorem sz_slotAt {n : Int} {y x : Md.Engine} {oid : Int} (hft : Fetched n x y (oid / 4)) : Md.szSlot (slotAt y oid) ≤ 10 := by
  have hlt := seated_lt hft.s0
  have hp := ((poolOk_iff.1 hft.ok.pool).2.2.2.1 _ hlt).2.2
  have hat : seatAt y (oid / 4) = y.pool.seats[(Md.seated y.pool (oid / 4)).toNat] := getD_at hlt
  rw [← hat] at hp
  simp only [Md.pageOk, Md.slotsOk, Bool.and_eq_true, List.all_eq_true] at hp
  unfold slotAt
  by_cases hk : (oid % 4).toNat < (seatAt y (oid / 4)).p.slots.length
  · rw [getD_at hk]; exact szSlot_ok (hp.2 _ (List.getElem_mem _))
  · rw [List.getD_eq_getElem?_getD, List.getElem?_eq_none (by omega)]; exact Nat.zero_le _
theorem c_get {d : D} {x : Md.Engine} (hd : IsEngine d x) (oid : Int) : Md.cEngine (getDo x oid).1 ≤ 11 * Md.szEngine x + 12 ∧ Md.szSlot (getDo x oid).2.1 ≤ 10 := by
  have h := cEngine_le x
  by_cases c0 : codeOf x (Md.inB oid 1 31) = 0
  · rw [get_yes c0]
    obtain ⟨hok, hlen, hin, _⟩ := code0_ok' c0
    have hin' := (inB_iff _ _ _).1 hin
    obtain ⟨q, rfl, hq⟩ := hd.node
    have hF := eng_fok hok (hq.dk.choose_spec.2.1)
    exact ⟨c_fetch hF (by omega) (by omega), sz_slotAt (fetched hF (by omega) (by omega))⟩
  · rw [get_no c0]
    exact ⟨by show Md.cEngine x ≤ _; omega, Nat.zero_le _⟩
theorem lawGet (d : D) (x : Md.Engine) (oid : Int) (h : IsEngine d x) : PCall Tryz.prog 10 [d, .lit (.int .i64 oid)] fun _ _ r => r = .lit (.bool true) := by
  have e := shp_engine _ _ h
  have e1 := e.1
  have e2 := e.2.1
  have e3 := e.2.2.1
  have e4 := e.2.2.2
  refine pcall_intro_vt Tryz.func10 rfl (by decide) rfl (by decide) (by rw [Tryz.ntmps10]; simp) fun w0 M n0 hW hT => ivc_sound ?_; simp -dsimp only [Tryz.f10, go_sem, e1, e2, e3]
  have dT : d.tags (· < n0) := hT d (by simp) h.data
  intro g1 b1 hb1
  refine xcall_v (szEngine_p _ _ h 1048576 (by decide) (by decide)) (by simp -dsimp only [go_sem, rl_still, e4]) (fun _ => trivial) fun n1 hn1 => ?_
  simp -dsimp only [go_sem]
  intro hb
  have hs : Md.szEngine x ≤ 1048576 := by
    have := Md.szR_le _ _ hb
    omega
  simp -dsimp only [go_sem, e1, e2, e3]
  refine xcall_p (toEngine_p _ _ h hs) (by simp -dsimp only [go_sem, rl_still, e4]) fun rlo rhi r hrlo hrhi hr => ?_
  have ro := hr.2
  have ri := hr.1
  have rp := shp_engine _ _ ri
  have rp1 := rp.1
  have rp2 := rp.2.1
  have rp3 := rp.2.2.1
  have rp4 := rp.2.2.2
  refine ⟨ro.tags, ?_⟩
  simp -dsimp only [go_sem, e1, e2, e3, rp1, rp2, rp3]
  refine xcall_p (specGet_p _ _ oid ri hs ri.data) (by simp -dsimp only [go_sem, rl_still, rp4]) fun vlo vhi vw hvlo hvhi hvw => ?_
  obtain ⟨v, vs, rfl, hv⟩ := hvw.out
  have vo := hv.2.2
  have vi := hv.1
  have vsi := hv.2.1
  have vp := shp_engine _ _ vi
  have vp1 := vp.1
  have vp2 := vp.2.1
  have vp3 := vp.2.2.1
  have vp4 := vp.2.2.2
  have vq := shp_slot _ _ vsi
  have vq1 := vq.1
  have vq2 := vq.2.1
  have vq3 := vq.2.2.1
  have vq4 := vq.2.2.2
  refine ⟨tags_three vo.oa.tags vo.ob.tags, ?_⟩
  simp -dsimp only [go_sem, e1, e2, e3, rp1, rp2, rp3, vp1, vp2, vp3, vq1, vq2, vq3]
  intro g b hb g7 b7 hb7
  refine xcall_p (toEngine_p _ _ h hs) (by simp -dsimp only [go_sem, rl_still, e4]) fun xvlo xvhi xv hxvlo hxvhi hxv => ?_
  have xvo := hxv.2
  have xvi := hxv.1
  have xvp := shp_engine _ _ xvi
  have xvp1 := xvp.1
  have xvp2 := xvp.2.1
  have xvp3 := xvp.2.2.1
  have xvp4 := xvp.2.2.2
  refine ⟨xvo.tags, ?_⟩
  simp -dsimp only [go_sem, e1, e2, e3, rp1, rp2, rp3, vp1, vp2, vp3, vq1, vq2, vq3, xvp1, xvp2, xvp3]
  intro g12 b12 hb12
  refine xcall_p (get_p _ _ oid xvi hs xvi.data) (by simp -dsimp only [go_sem, rl_still, xvp4]) fun ylo yhi yw hylo hyhi hyw => ?_
  obtain ⟨y, ys, rfl, hy⟩ := hyw.out
  have yo := hy.2.2
  have yi := hy.1
  have ysi := hy.2.1
  have yp := shp_engine _ _ yi
  have yp1 := yp.1
  have yp2 := yp.2.1
  have yp3 := yp.2.2.1
  have yp4 := yp.2.2.2
  have yq := shp_slot _ _ ysi
  have yq1 := yq.1
  have yq2 := yq.2.1
  have yq3 := yq.2.2.1
  have yq4 := yq.2.2.2
  refine ⟨tags_three yo.oa.tags yo.ob.tags, ?_⟩
  simp -dsimp only [go_sem, e1, e2, e3, rp1, rp2, rp3, vp1, vp2, vp3, vq1, vq2, vq3, xvp1, xvp2, xvp3, yp1, yp2, yp3, yq1, yq2, yq3]
  intro g14 b14 hb14 g15 b15 hb15
  refine xcall_v (eqEngine_p _ _ _ yi vi) (by simp -dsimp only [go_sem, rl_still, yp4, vp4]) (fun _ => trivial) fun n4 hn4 => ?_
  simp -dsimp only [go_sem, e1, e2, e3, rp1, rp2, rp3, vp1, vp2, vp3, vq1, vq2, vq3, xvp1, xvp2, xvp3, yp1, yp2, yp3, yq1, yq2, yq3, bne_self_eq_false, Bool.not_true, Bool.not_false, Bool.false_eq_true, Bool.true_eq_false, false_imp_iff, true_and, and_true, forall_const, reduceCtorEq]
  refine xcall_v (eqSlot_p _ _ _ ysi vsi) (by simp -dsimp only [go_sem, rl_still, yq4, vq4]) (fun _ => trivial) fun n4 hn4 => ?_
  simp -dsimp only [go_sem, e1, e2, e3, rp1, rp2, rp3, vp1, vp2, vp3, vq1, vq2, vq3, xvp1, xvp2, xvp3, yp1, yp2, yp3, yq1, yq2, yq3, bne_self_eq_false, Bool.not_true, Bool.not_false, Bool.false_eq_true, Bool.true_eq_false, false_imp_iff, true_and, and_true, forall_const, reduceCtorEq]
  refine iwp_plan [(0, true), (1, true), (2, false), (3, false), (4, true)] [2, 9] rfl (by decide +kernel) (by decide) [] (by decide +kernel) ?_
  simp -dsimp only [go_sem, e1, e2, e3, rp1, rp2, rp3, vp1, vp2, vp3, vq1, vq2, vq3, xvp1, xvp2, xvp3, yp1, yp2, yp3, yq1, yq2, yq3]
  refine xcall_p (toEngine_p _ _ h hs) (by simp -dsimp only [go_sem, rl_still, e4]) fun zlo zhi z hzlo hzhi hz => ?_
  have zo := hz.2
  have zi := hz.1
  have zp := shp_engine _ _ zi
  have zp1 := zp.1
  have zp2 := zp.2.1
  have zp3 := zp.2.2.1
  have zp4 := zp.2.2.2
  refine ⟨zo.tags, ?_⟩
  simp -dsimp only [go_sem, e1, e2, e3, rp1, rp2, rp3, vp1, vp2, vp3, vq1, vq2, vq3, xvp1, xvp2, xvp3, yp1, yp2, yp3, yq1, yq2, yq3, zp1, zp2, zp3]
  refine xcall_v (eqEngine_p _ _ _ xvi zi) (by simp -dsimp only [go_sem, rl_still, xvp4, zp4]) (fun _ => trivial) fun n4 hn4 => ?_
  simp -dsimp only [go_sem, e1, e2, e3, rp1, rp2, rp3, vp1, vp2, vp3, vq1, vq2, vq3, xvp1, xvp2, xvp3, yp1, yp2, yp3, yq1, yq2, yq3, zp1, zp2, zp3, bne_self_eq_false, Bool.not_true, Bool.not_false, Bool.false_eq_true, Bool.true_eq_false, false_imp_iff, true_and, and_true, forall_const, reduceCtorEq]
  have hcb := cEngine_le x
  have hz := c_get xvi oid
  have hzz1 := hz.1
  have hzz2 := hz.2
  refine xcall_mk (markEngine_p xv x (1) _ _ xvi (xvo) (by decide) (by omega)) (by simp -dsimp only [go_sem, e1, e2, e3, rp1, rp2, rp3, vp1, vp2, vp3, vq1, vq2, vq3, xvp1, xvp2, xvp3, yp1, yp2, yp3, yq1, yq2, yq3, zp1, zp2, zp3]) xvp3 xvp4 ⟨trivial, trivial⟩ (fun t ht => hW t (by have := (xvo).rg t ht; omega)) [1, 2, 6, 7, 8, 9, 10, 11, 12, 13] (fun _ _ => .any) (fun E => upd (upd (upd (upd (upd (upd (fun _ => none) 2 (some (g1, b1, d))) 6 (some (g, b, v))) 7 (some (g7, b7, vs))) 9 (some (g12, b12, E))) 10 (some (g14, b14, y))) 11 (some (g15, b15, ys))) fun m1 nm1 hnm1 hm1 =>
      ⟨by simp -dsimp only [go_sem, e1, e2, e3, rp1, rp2, rp3, vp1, vp2, vp3, vq1, vq2, vq3, xvp1, xvp2, xvp3, yp1, yp2, yp3, yq1, yq2, yq3, zp1, zp2, zp3], carry_any, ((((((CarR.none _ _ _).upd e3 (carry_lo xvo (by omega) dT)).upd vp3 (carry_own xvo vo.oa (.inr (by omega)))).upd vq3 (carry_own xvo vo.ob (.inr (by omega)))).upd (shp_engine _ _ hm1.rel).2.2.1 .here).upd yp3 (carry_own xvo yo.oa (.inl (by omega)))).upd yq3 (carry_own xvo yo.ob (.inl (by omega))), ?_⟩
  have m1p := shp_engine _ _ hm1.rel
  have m1p1 := m1p.1
  have m1p2 := m1p.2.1
  have m1p3 := m1p.2.2.1
  have m1p4 := m1p.2.2.2
  have m1o := hm1.own (xvo)
  have m1i := hm1.rel
  have hk : ¬ (1 + (Md.cEngine x : Nat) < (0 : Int)) := by omega
  simp -dsimp only [go_sem, e1, e2, e3, rp1, rp2, rp3, vp1, vp2, vp3, vq1, vq2, vq3, xvp1, xvp2, xvp3, yp1, yp2, yp3, yq1, yq2, yq3, zp1, zp2, zp3, m1p1, m1p2, m1p3, hk, bne_self_eq_false, Bool.not_true, Bool.not_false, Bool.false_eq_true, Bool.true_eq_false, false_imp_iff, true_and, and_true, forall_const, reduceCtorEq, decide_false]
  refine xcall_v (eqEngine_p _ _ _ yi vi) (by simp -dsimp only [go_sem, rl_still, yp4, vp4]) (fun _ => trivial) fun n4 hn4 => ?_
  simp -dsimp only [go_sem, e1, e2, e3, rp1, rp2, rp3, vp1, vp2, vp3, vq1, vq2, vq3, xvp1, xvp2, xvp3, yp1, yp2, yp3, yq1, yq2, yq3, zp1, zp2, zp3, m1p1, m1p2, m1p3, hk, decide_false, bne_self_eq_false, Bool.not_true, Bool.not_false, Bool.false_eq_true, Bool.true_eq_false, false_imp_iff, true_and, and_true, forall_const, reduceCtorEq]
  refine xcall_v (eqSlot_p _ _ _ ysi vsi) (by simp -dsimp only [go_sem, rl_still, yq4, vq4]) (fun _ => trivial) fun n4 hn4 => ?_
  simp -dsimp only [go_sem, e1, e2, e3, rp1, rp2, rp3, vp1, vp2, vp3, vq1, vq2, vq3, xvp1, xvp2, xvp3, yp1, yp2, yp3, yq1, yq2, yq3, zp1, zp2, zp3, m1p1, m1p2, m1p3, hk, decide_false, bne_self_eq_false, Bool.not_true, Bool.not_false, Bool.false_eq_true, Bool.true_eq_false, false_imp_iff, true_and, and_true, forall_const, reduceCtorEq]
  refine xcall_mk (markEngine_p y _ (1) _ _ yi (yo.oa) (by decide) (by omega)) (by simp -dsimp only [go_sem, e1, e2, e3, rp1, rp2, rp3, vp1, vp2, vp3, vq1, vq2, vq3, xvp1, xvp2, xvp3, yp1, yp2, yp3, yq1, yq2, yq3, zp1, zp2, zp3, m1p1, m1p2, m1p3, hk]) yp3 yp4 ⟨trivial, trivial⟩ (fun t ht => hW t (by have := (yo.oa).rg t ht; omega)) [1, 2, 6, 7, 8, 9, 10, 11, 12, 13] (fun _ _ => .any) (fun E => upd (upd (upd (upd (upd (upd (fun _ => none) 2 (some (g1, b1, d))) 6 (some (g, b, v))) 7 (some (g7, b7, vs))) 9 (some (g12, b12, m1))) 10 (some (g14, b14, E))) 11 (some (g15, b15, ys))) fun m3 nm3 hnm3 hm3 =>
      ⟨by simp -dsimp only [go_sem, e1, e2, e3, rp1, rp2, rp3, vp1, vp2, vp3, vq1, vq2, vq3, xvp1, xvp2, xvp3, yp1, yp2, yp3, yq1, yq2, yq3, zp1, zp2, zp3, m1p1, m1p2, m1p3, hk], carry_any, ((((((CarR.none _ _ _).upd e3 (carry_lo yo.oa (by omega) dT)).upd vp3 (carry_own yo.oa vo.oa (.inr (by omega)))).upd vq3 (carry_own yo.oa vo.ob (.inr (by omega)))).upd m1p3 (carry_own yo.oa m1o (.inr (by omega)))).upd (shp_engine _ _ hm3.rel).2.2.1 .here).upd yq3 (carry_two yo), ?_⟩
  have m3p := shp_engine _ _ hm3.rel
  have m3p1 := m3p.1
  have m3p2 := m3p.2.1
  have m3p3 := m3p.2.2.1
  have m3p4 := m3p.2.2.2
  have m3o := hm3.own (yo.oa)
  have m3i := hm3.rel
  simp -dsimp only [go_sem, e1, e2, e3, rp1, rp2, rp3, vp1, vp2, vp3, vq1, vq2, vq3, xvp1, xvp2, xvp3, yp1, yp2, yp3, yq1, yq2, yq3, zp1, zp2, zp3, m1p1, m1p2, m1p3, hk, m3p1, m3p2, m3p3]
  have m3s : Own2 _ _ m3 ys := ⟨m3o, yo.ob, fun t ht => yo.ap t (hm3.tl ▸ ht)⟩
  refine xcall_mk (markSlot_p ys _ (1 + (Md.cEngine (getDo x oid).1 : Nat)) _ _ ysi (yo.ob) (by omega) (by omega)) (by simp -dsimp only [go_sem, e1, e2, e3, rp1, rp2, rp3, vp1, vp2, vp3, vq1, vq2, vq3, xvp1, xvp2, xvp3, yp1, yp2, yp3, yq1, yq2, yq3, zp1, zp2, zp3, m1p1, m1p2, m1p3, hk, m3p1, m3p2, m3p3]) yq3 yq4 ⟨trivial, trivial⟩ (fun t ht => hW t (by have := (yo.ob).rg t ht; omega)) [1, 2, 6, 7, 8, 9, 10, 11, 12, 13] (fun _ _ => .any) (fun E => upd (upd (upd (upd (upd (upd (fun _ => none) 2 (some (g1, b1, d))) 6 (some (g, b, v))) 7 (some (g7, b7, vs))) 9 (some (g12, b12, m1))) 10 (some (g14, b14, m3))) 11 (some (g15, b15, E))) fun m4 nm4 hnm4 hm4 =>
      ⟨by simp -dsimp only [go_sem, e1, e2, e3, rp1, rp2, rp3, vp1, vp2, vp3, vq1, vq2, vq3, xvp1, xvp2, xvp3, yp1, yp2, yp3, yq1, yq2, yq3, zp1, zp2, zp3, m1p1, m1p2, m1p3, hk, m3p1, m3p2, m3p3], carry_any, ((((((CarR.none _ _ _).upd e3 (carry_lo yo.ob (by omega) dT)).upd vp3 (carry_own yo.ob vo.oa (.inr (by omega)))).upd vq3 (carry_own yo.ob vo.ob (.inr (by omega)))).upd m1p3 (carry_own yo.ob m1o (.inr (by omega)))).upd m3p3 (carry_two' m3s)).upd (shp_slot _ _ hm4.rel).2.2.1 .here, ?_⟩
  have m4p := shp_slot _ _ hm4.rel
  have m4p1 := m4p.1
  have m4p2 := m4p.2.1
  have m4p3 := m4p.2.2.1
  have m4p4 := m4p.2.2.2
  have m4o := hm4.own (yo.ob)
  have m4i := hm4.rel
  simp -dsimp only [go_sem, e1, e2, e3, rp1, rp2, rp3, vp1, vp2, vp3, vq1, vq2, vq3, xvp1, xvp2, xvp3, yp1, yp2, yp3, yq1, yq2, yq3, zp1, zp2, zp3, m1p1, m1p2, m1p3, hk, m3p1, m3p2, m3p3, m4p1, m4p2, m4p3]
  refine xcall_v (heldEngine_p _ (getDo x oid).1 (1) m3i (by decide) (by omega)) (by simp -dsimp only [go_sem, rl_still, m3p4]) (fun _ => trivial) fun n7 hn7 => ?_
  have hk2 : ¬ (1 + (Md.cEngine (getDo x oid).1 : Nat) < (0 : Int)) := by omega
  have hk3 : ¬ (1 + (Md.cEngine (getDo x oid).1 : Nat) + (Md.szSlot (getDo x oid).2.1 : Nat) < (0 : Int)) := by omega
  simp -dsimp only [go_sem, e1, e2, e3, rp1, rp2, rp3, vp1, vp2, vp3, vq1, vq2, vq3, xvp1, xvp2, xvp3, yp1, yp2, yp3, yq1, yq2, yq3, zp1, zp2, zp3, m1p1, m1p2, m1p3, hk, m3p1, m3p2, m3p3, m4p1, m4p2, m4p3, hk2, hk3, bne_self_eq_false, Bool.not_true, Bool.not_false, Bool.false_eq_true, Bool.true_eq_false, false_imp_iff, true_and, and_true, forall_const, reduceCtorEq, decide_false]
  refine xcall_v (heldSlot_p _ (getDo x oid).2.1 (1 + (Md.cEngine (getDo x oid).1 : Nat)) m4i (by omega) (by omega)) (by simp -dsimp only [go_sem, rl_still, m4p4]) (fun _ => trivial) fun n8 hn8 => ?_
  simp -dsimp only [go_sem, e1, e2, e3, rp1, rp2, rp3, vp1, vp2, vp3, vq1, vq2, vq3, xvp1, xvp2, xvp3, yp1, yp2, yp3, yq1, yq2, yq3, zp1, zp2, zp3, m1p1, m1p2, m1p3, hk, m3p1, m3p2, m3p3, m4p1, m4p2, m4p3, hk2, hk3, bne_self_eq_false, Bool.not_true, Bool.not_false, Bool.false_eq_true, Bool.true_eq_false, false_imp_iff, true_and, and_true, forall_const, reduceCtorEq, decide_false]
  refine xcall_p (toEngine_p _ _ h hs) (by simp -dsimp only [go_sem, rl_still, e4]) fun r2lo r2hi r2 hr2lo hr2hi hr2 => ?_
  have r2o := hr2.2
  have r2i := hr2.1
  have r2p := shp_engine _ _ r2i
  have r2p1 := r2p.1
  have r2p2 := r2p.2.1
  have r2p3 := r2p.2.2.1
  have r2p4 := r2p.2.2.2
  refine ⟨r2o.tags, ?_⟩
  simp -dsimp only [go_sem, e1, e2, e3, rp1, rp2, rp3, vp1, vp2, vp3, vq1, vq2, vq3, xvp1, xvp2, xvp3, yp1, yp2, yp3, yq1, yq2, yq3, zp1, zp2, zp3, m1p1, m1p2, m1p3, hk, m3p1, m3p2, m3p3, m4p1, m4p2, m4p3, hk2, hk3, r2p1, r2p2, r2p3]
  refine xcall_p (get_p _ _ oid r2i hs r2i.data) (by simp -dsimp only [go_sem, rl_still, r2p4]) fun hvlo hvhi hvw hhvlo hhvhi hhvw => ?_
  obtain ⟨hv, hvs, rfl, hhv⟩ := hhvw.out
  have hvo := hhv.2.2
  have hvi := hhv.1
  have hvsi := hhv.2.1
  have hvp := shp_engine _ _ hvi
  have hvp1 := hvp.1
  have hvp2 := hvp.2.1
  have hvp3 := hvp.2.2.1
  have hvp4 := hvp.2.2.2
  have hvq := shp_slot _ _ hvsi
  have hvq1 := hvq.1
  have hvq2 := hvq.2.1
  have hvq3 := hvq.2.2.1
  have hvq4 := hvq.2.2.2
  refine ⟨tags_three hvo.oa.tags hvo.ob.tags, ?_⟩
  simp -dsimp only [go_sem, e1, e2, e3, rp1, rp2, rp3, vp1, vp2, vp3, vq1, vq2, vq3, xvp1, xvp2, xvp3, yp1, yp2, yp3, yq1, yq2, yq3, zp1, zp2, zp3, m1p1, m1p2, m1p3, hk, m3p1, m3p2, m3p3, m4p1, m4p2, m4p3, hk2, hk3, r2p1, r2p2, r2p3, hvp1, hvp2, hvp3, hvq1, hvq2, hvq3]
  intro g19 b19 hb19 g20 b20 hb20
  refine xcall_v (eqEngine_p _ _ _ hvi vi) (by simp -dsimp only [go_sem, rl_still, hvp4, vp4]) (fun _ => trivial) fun n4 hn4 => ?_
  simp -dsimp only [go_sem, e1, e2, e3, rp1, rp2, rp3, vp1, vp2, vp3, vq1, vq2, vq3, xvp1, xvp2, xvp3, yp1, yp2, yp3, yq1, yq2, yq3, zp1, zp2, zp3, m1p1, m1p2, m1p3, hk, m3p1, m3p2, m3p3, m4p1, m4p2, m4p3, hk2, hk3, r2p1, r2p2, r2p3, hvp1, hvp2, hvp3, hvq1, hvq2, hvq3, decide_false, bne_self_eq_false, Bool.not_true, Bool.not_false, Bool.false_eq_true, Bool.true_eq_false, false_imp_iff, true_and, and_true, forall_const, reduceCtorEq]
  refine xcall_v (eqSlot_p _ _ _ hvsi vsi) (by simp -dsimp only [go_sem, rl_still, hvq4, vq4]) (fun _ => trivial) fun n4 hn4 => ?_
  simp -dsimp only [go_sem, e1, e2, e3, rp1, rp2, rp3, vp1, vp2, vp3, vq1, vq2, vq3, xvp1, xvp2, xvp3, yp1, yp2, yp3, yq1, yq2, yq3, zp1, zp2, zp3, m1p1, m1p2, m1p3, hk, m3p1, m3p2, m3p3, m4p1, m4p2, m4p3, hk2, hk3, r2p1, r2p2, r2p3, hvp1, hvp2, hvp3, hvq1, hvq2, hvq3, decide_false, bne_self_eq_false, Bool.not_true, Bool.not_false, Bool.false_eq_true, Bool.true_eq_false, false_imp_iff, true_and, and_true, forall_const, reduceCtorEq]
  refine xcall_v (heldEngine_p _ (getDo x oid).1 (1) m3i (by decide) (by omega)) (by simp -dsimp only [go_sem, rl_still, m3p4]) (fun _ => trivial) fun n9 hn9 => ?_
  simp -dsimp only [go_sem, e1, e2, e3, rp1, rp2, rp3, vp1, vp2, vp3, vq1, vq2, vq3, xvp1, xvp2, xvp3, yp1, yp2, yp3, yq1, yq2, yq3, zp1, zp2, zp3, m1p1, m1p2, m1p3, hk, m3p1, m3p2, m3p3, m4p1, m4p2, m4p3, hk2, hk3, r2p1, r2p2, r2p3, hvp1, hvp2, hvp3, hvq1, hvq2, hvq3, bne_self_eq_false, Bool.not_true, Bool.not_false, Bool.false_eq_true, Bool.true_eq_false, false_imp_iff, true_and, and_true, forall_const, reduceCtorEq, decide_false]
  refine xcall_v (heldSlot_p _ (getDo x oid).2.1 (1 + (Md.cEngine (getDo x oid).1 : Nat)) m4i (by omega) (by omega)) (by simp -dsimp only [go_sem, rl_still, m4p4]) (fun _ => trivial) fun n10 hn10 => ?_
  simp -dsimp only [go_sem, e1, e2, e3, rp1, rp2, rp3, vp1, vp2, vp3, vq1, vq2, vq3, xvp1, xvp2, xvp3, yp1, yp2, yp3, yq1, yq2, yq3, zp1, zp2, zp3, m1p1, m1p2, m1p3, hk, m3p1, m3p2, m3p3, m4p1, m4p2, m4p3, hk2, hk3, r2p1, r2p2, r2p3, hvp1, hvp2, hvp3, hvq1, hvq2, hvq3, bne_self_eq_false, Bool.not_true, Bool.not_false, Bool.false_eq_true, Bool.true_eq_false, false_imp_iff, true_and, and_true, forall_const, reduceCtorEq, decide_false]
end Go.Proofs.YtncinhlaabdlaaaGreat.IM
end
