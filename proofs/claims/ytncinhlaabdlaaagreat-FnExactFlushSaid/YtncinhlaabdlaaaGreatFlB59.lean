/- Several of my texts in one module (merge.py, shake.py). -/
import Derived.Test.YtncinhlaabdlaaaGreatFlB31
import Derived.Test.YtncinhlaabdlaaaGreatFlB54
import Derived.Test.YtncinhlaabdlaaaGreatFlB57
import Derived.Test.YtncinhlaabdlaaaGreatFlB43
section
namespace Go.Proofs.YtncinhlaabdlaaaGreat.IM
open Go Go.RowKit
set_option linter.unusedVariables false
set_option linter.unusedSimpArgs false
set_option maxHeartbeats 2000000
set_option maxRecDepth 20000
def BDraw (P : Program) (W : Nat → Prop) (D : Nat → Prop) (o : Oper) (st : St) (K : St → Prop) : Prop :=
  o.guard = none ∧ st.dstOk o.dst ∧ ∃ fx xs ts fid c, o.op = .call { callee := .value fx, args := xs, argTypes := ts } ∧ st.ev fx = .fn fid 0 c ∧
    ∃ d0 d rest0 rest Q l g b oo q T T2 R', xs.toList.map st.ev = .ptr l g oo q :: rest0 ∧ rest0.map (rl 9 (labBV st.R l g)) = rest ∧ st.R l = some (g, b, d) ∧ d.still ∧ (∀ b ∈ d0.tl, b ∈ d.tl) ∧ (∀ b ∈ d0.tl, W b) ∧ BCall P fid d0 d rest Q oo q T T2 ∧
      (∀ t, T t → t ∈ d.tl ∨ ∃ x ∈ rest0, t ∈ x.tl) ∧ (∀ t, T2 t → t ∈ d.tl ∨ ∃ x ∈ rest0, t ∈ x.tl) ∧ R' l = none ∧ CarR d0 .any st.R R' ∧
      ∃ s' : Nat → IM.D, (∀ t, s' t = .any ∨ (s' t = st.s t ∧ Carry d0 .any (st.s t) (st.s t))) ∧ (∀ t, D t → s' t = st.s t) ∧
        ∀ n0 n1 d' r, st.n ≤ n0 → n0 ≤ n1 → (∀ t ∈ d.tl, t < n0) → Q n0 n1 d' r → d'.tags (fun b => T2 b ∨ n0 ≤ b) → K (({ N := st.N, n := n1, s := s', R := upd R' l (some (g, b, d')) } : St).put o.dst r)
theorem BDraw.mono {P : Program} {W D D' : Nat → Prop} {o : Oper} {st : St} {K K' : St → Prop} (hk : ∀ st, K st → K' st) (hd : ∀ t, D' t → D t) (h : BDraw P W D o st K) : BDraw P W D' o st K' := by
  obtain ⟨h1, h2, fx, xs, ts, fid, c, h3, h4, d0, d, rest0, rest, Q, l, g, b, oo, q, T, T2, R', a1, a2, a3, a4, a5, a6, a7, a8, a9, a10, a11, s', b1, b2, b3⟩ := h
  exact ⟨h1, h2, fx, xs, ts, fid, c, h3, h4, d0, d, rest0, rest, Q, l, g, b, oo, q, T, T2, R', a1, a2, a3, a4, a5, a6, a7, a8, a9, a10, a11, s', b1, fun t ht => b2 t (hd t ht), fun n0 n1 d' r e1 e2 e3 e4 e5 => hk _ (b3 n0 n1 d' r e1 e2 e3 e4 e5)⟩
section
variable {P : Program} {w0 : World} {M : Fr} {ops : Array Oper} {W : Nat → Prop}
def dryO : Op → Bool
  | .load .. => false
  | .slice .. => false
  | .call .. => false
  | .index .. => false
  | _ => true
def vcPlanM (P : Program) (W D : Nat → Prop) (ops : Array Oper) (Ls B : List Nat) (K : St → Prop) : List (Nat × Option Bool) → St → Prop
  | [], st => K st
  | (i, f) :: rest, st =>
    match ops[i]?, f with
    | some o, some true => vcE P ops (if dryO o.op then [] else Ls) o st (vcPlanM P W D ops Ls B K rest)
    | some o, some false => vcG P ops o st fun st' => (B.contains i = true ∨ ∀ l ∈ Ls, st'.R l = st.R l) ∧ vcPlanM P W D ops Ls B K rest st'
    | some o, none => BDraw P W D o st fun st' => (B.contains i = true ∨ ∀ l ∈ Ls, st'.R l = st.R l) ∧ vcPlanM P W D ops Ls B K rest st'
    | none, _ => False
end
def vcMP (P : Program) (W : Nat → Prop) (D : List Nat) (ops : Array Oper) (Ls B : List Nat) (K : St → Prop) (plan : List (Nat × Option Bool)) (st : St) (_ : Tok K := .mk) (_ : Tok ops := .mk) (_ : Tok W := .mk) : Prop := vcPlanM P W (· ∈ D) ops Ls B K plan st
section
variable {P : Program} {w0 : World} {M : Fr}
variable (W : Nat → Prop) (D : List Nat) (ops : Array Oper) (Ls B : List Nat) (K : St → Prop) (plan : List (Nat × Option Bool)) (st : St) (dst : Option Tmp) (ty : TypeId) (pos : String) (after : Array Edge)
@[go_sem] theorem vcMP_nil : vcMP P W D ops Ls B K [] st = K st := (rfl)
@[go_sem] theorem vcMP_early (i : Nat) : vcMP P W D ops Ls B K ((i, some true) :: plan) st = wSome (ops[i]?) fun o => wSome (some (if dryO o.op = true then [] else Ls)) fun L => vcET P ops L o st fun st => vcMP P W D ops Ls B K plan st := by
  simp only [vcMP, vcPlanM, vcET]
  cases ops[i]? <;> rfl
@[go_sem] theorem vcMP_late (i : Nat) : vcMP P W D ops Ls B K ((i, some false) :: plan) st = wSome (ops[i]?) fun o => vcGT P ops o st fun st' => (B.contains i = true ∨ ∀ l ∈ Ls, st'.R l = st.R l) ∧ vcMP P W D ops Ls B K plan st' := by
  simp only [vcMP, vcPlanM, vcGT]
  cases ops[i]? <;> rfl
def vcBT (P : Program) (W : Nat → Prop) (D : List Nat) (o : Oper) (st : St) (K : St → Prop) (_ : Tok K := .mk) (_ : Tok W := .mk) (_ : Tok o := .mk) : Prop := BDraw P W (· ∈ D) o st K
@[go_sem] theorem vcMP_call (i : Nat) : vcMP P W D ops Ls B K ((i, none) :: plan) st = wSome (ops[i]?) fun o => vcBT P W D o st fun st' => (B.contains i = true ∨ ∀ l ∈ Ls, st'.R l = st.R l) ∧ vcMP P W D ops Ls B K plan st' := by
  simp only [vcMP, vcPlanM, vcBT]
  cases ops[i]? <;> rfl
end
@[go_sem] theorem dry_load (T : TypeId) (x : Operand) : dryO (.load T x) = false := (rfl)
@[go_sem] theorem dry_call (c : Call) : dryO (.call c) = false := (rfl)
@[go_sem] theorem dry_move (x : Operand) : dryO (.move x) = true := (rfl)
@[go_sem] theorem dry_assign (x : Operand) : dryO (.assign x) = true := (rfl)
@[go_sem] theorem dry_nilCheck (x : Operand) : dryO (.nilCheck x) = true := (rfl)
@[go_sem] theorem dry_fieldAddr (T : TypeId) (x : Operand) (i : Nat) : dryO (.fieldAddr T x i) = true := (rfl)
@[go_sem] theorem dry_indexAddr (T : TypeId) (x y : Operand) : dryO (.indexAddr T x y) = true := (rfl)
@[go_sem] theorem dry_extract (x : Operand) (i : Nat) : dryO (.extract x i) = true := (rfl)
@[go_sem] theorem dry_binOp (b : BinOp) (T : TypeId) (x y : Operand) (U : TypeId) : dryO (.binOp b T x y U) = true := (rfl)
@[go_sem] theorem dry_build (T : TypeId) (ps : Array (Nat × Operand)) : dryO (.build T ps) = true := (rfl)
end Go.Proofs.YtncinhlaabdlaaaGreat.IM
end
section
namespace Go.Proofs.YtncinhlaabdlaaaGreat.IM
open Go Go.Proofs
set_option linter.unusedVariables false
set_option linter.unusedSimpArgs false
set_option maxHeartbeats 2000000
set_option maxRecDepth 20000
theorem tl_lit0 {k : Kd} {f : Nat → D} {i : Nat} {v w : Value} (h : f i = .lit w) : (D.node k (upd f i (.lit v))).tl = (D.node k f).tl := tl_upd (by rw [h]; rfl)
theorem sl_eq {t n sz : Nat} {f g : Nat → D} (h : f = g) : D.sl t true n sz f = D.sl t true n sz g := by rw [h]
theorem own_sub {lo hi : Nat} {k : Kd} {f : Nat → D} {i : Nat} (h : Own lo hi (.node k f)) (hi' : i < k.cnt) : Own lo hi (f i) := h.node.own hi'
def SureQ (q : Nat → D) (x : Md.Engine) (n : Int) (lo n0 n1 : Nat) (d' _ : D) : Prop :=
  ∃ L, d' = .node engK (upd q 2 L) ∧ IsLog L (sureL x.log n) ∧ L.tl = (q 2).tl ∧ Eng (min lo n0) n1 n0 (.node engK q) d' (sureE x n)
theorem sure_fin {q ql : Nat → D} {x : Md.Engine} {n z : Int} {lo n0 n1 : Nat} {r : D} {F : Relab} (h : EngF q x) (hql : q 2 = .node (.agg [1, 1]) ql) (hqs : ∀ i, (ql i).still) (hq0 : IsL 15 IsRec (ql 0) x.log.recs) (hq1 : ql 1 = .lit (.int .i64 x.log.sure))
    (ho : Own (min lo n0) n0 (.node engK q)) (hz : z = max x.log.sure (min n x.log.recs.length)) (hn : n0 ≤ n1) (hr : r.tags (fun b => b ∈ (D.node engK q).tl ∨ n0 ≤ b)) :
    BEnd (SureQ q x n lo) (.node engK q) n0 n1 (rl 9 F (.node engK (upd q 2 (.node (.agg [1, 1]) (upd ql 1 (.lit (.int .i64 z))))))) r := by
  have hL : IsLog (.node (.agg [1, 1]) (upd ql 1 (.lit (.int .i64 z)))) (sureL x.log n) := ⟨_, rfl, still_upd hqs trivial, hq0, by rw [hz]; rfl⟩
  have E := h.log hL
  rw [rlnode_still E.st]
  have tE : (D.node (.agg [1, 1]) (upd ql 1 (.lit (.int .i64 z)))).tl = (q 2).tl := by rw [hql]; exact tl_lit0 hq1
  have o2 := own_sub (i := 2) ho (by decide)
  rw [hql] at o2
  have P2 : Put (min lo n0) n1 n0 (q 2) (.node (.agg [1, 1]) (upd ql 1 (.lit (.int .i64 z)))) := ⟨(o2.rep0 (i := 1) (r := .lit (.int .i64 z)) (by decide) rfl trivial).mono (Nat.le_refl _) hn, fun t ht => .inl (tE ▸ ht)⟩
  have P := Put.node (i := 2) ho (by decide) P2 (Nat.le_refl _) hn
  exact Eng.fin ⟨E.is, P⟩ ⟨_, rfl, hL, tE, E.is, P⟩ hr
theorem eng_same2 {q ql : Nat → D} {v : D} (hql : q 2 = .node (.agg [1, 1]) ql) (h1 : ql 1 = v) : D.node engK q = .node engK (upd q 2 (.node (.agg [1, 1]) (upd ql 1 v))) := by rw [upd_self ql 1 v h1, ← hql, upd_self q 2 _ rfl]
theorem sure_b (q : Nat → D) (x : Md.Engine) (n : Int) (lo hi : Nat) (h : EngF q x) (ho : Own lo hi (.node engK q)) (hl : x.log.recs.length ≤ 2097152) :
    BCall Tryz.prog 94 .nil (.node engK q) [.lit (.int .i64 n)] (SureQ q x n lo) := by
  obtain ⟨ql, hql, hqs, hq0, hq1⟩ := id h.q2
  have hq1 : ql 1 = _ := hq1
  refine bcall_intro Tryz.func94 rfl (by decide) rfl (by decide) (by rw [Tryz.ntmps94]; simp) fun w0 M n0 gb hW hS hT hgb => ivc_sound ?_; simp -dsimp only [Tryz.f94, go_sem, h.all, hql, hq0.size, hq0.isNode, hq0.plain, hq0.lenT, hq1]
  have ho' := own_lt ho (hT _ (List.mem_cons_self ..) (whole_data ho.wh))
  refine iwp_plan [(0, true), (1, true), (2, true), (3, true), (4, true), (5, true), (6, true), (7, true), (8, true), (9, true), (10, true), (11, true), (12, true), (13, true), (14, true), (15, true), (16, true), (17, true), (18, false)] [1000] rfl (by decide +kernel) (by decide) [15, 16, 17, 18] (by decide +kernel) ?_
  simp -dsimp only [go_sem, h.all, hql, hq0.size, hq0.isNode, hq0.plain, hq0.lenT, hq1]
  refine ⟨_, rfl, fun n1 hn1 hfc => ?_⟩
  exact sure_fin h hql hqs hq0 hq1 ho' rfl (by omega) ret0_tags
theorem l5Force2_b (q : Nat → D) (x : Md.Engine) (n : Int) (lo hi : Nat) (h : EngF q x) (ho : Own lo hi (.node engK q)) (hl : x.log.recs.length ≤ 2097152) :
    BCall Tryz.prog 87 .nil (.node engK q) [.lit (.int .i64 n)] (SureQ q x n lo) 138 [2] := by
  obtain ⟨ql, hql, hqs, hq0, hq1⟩ := id h.q2
  have hq1 : ql 1 = _ := hq1
  refine bcall_intro Tryz.func87 rfl (by decide) rfl (by decide) (by rw [Tryz.ntmps87]; simp) fun w0 M n0 gb hW hS hT hgb => ivc_sound ?_; simp -dsimp only [Tryz.f87, go_sem]
  have ho' := own_lt ho (hT _ (List.mem_cons_self ..) (whole_data ho.wh))
  by_cases c1 : (x.log.recs.length : Int) < n
  · by_cases c2 : x.log.sure < x.log.recs.length
    · simp -dsimp only [go_sem, h.all, hql, hq0.size, hq0.isNode, hq0.plain, hq0.lenT, hq1, c1, c2]
      exact ⟨_, rfl, fun n1 hn1 hfc => sure_fin h hql hqs hq0 hq1 ho' (by omega) (by omega) ret0_tags⟩
    · simp -dsimp only [go_sem, h.all, hql, hq0.size, hq0.isNode, hq0.plain, hq0.lenT, hq1, c1, c2]
      refine ⟨_, rfl, fun n1 hn1 hfc => ?_⟩
      refine (fun hz => ?_) (sure_fin (n := n) (n1 := n1) (F := labB (upd (fun _ => none) 1000 (some (0, gb, .node engK q)))) (r := .nil) h hql hqs hq0 hq1 ho' (z := x.log.sure) (by omega) (by omega) trivial)
      rw [← eng_same2 hql hq1] at hz
      exact ⟨hz.1, hz.2.1, hz.2.2.1, ret0_tags⟩
  · by_cases c2 : x.log.sure < n
    · simp -dsimp only [go_sem, h.all, hql, hq0.size, hq0.isNode, hq0.plain, hq0.lenT, hq1, c1, c2]
      exact ⟨_, rfl, fun n1 hn1 hfc => sure_fin h hql hqs hq0 hq1 ho' (by omega) (by omega) ret0_tags⟩
    · simp -dsimp only [go_sem, h.all, hql, hq0.size, hq0.isNode, hq0.plain, hq0.lenT, hq1, c1, c2]
      refine ⟨_, rfl, fun n1 hn1 hfc => ?_⟩
      refine (fun hz => ?_) (sure_fin (n := n) (n1 := n1) (F := labB (upd (fun _ => none) 1000 (some (0, gb, .node engK q)))) (r := .nil) h hql hqs hq0 hq1 ho' (z := x.log.sure) (by omega) (by omega) trivial)
      rw [← eng_same2 hql hq1] at hz
      exact ⟨hz.1, hz.2.1, hz.2.2.1, ret0_tags⟩
theorem has_at {x a b : D} (h : a = b) (hb : Has x b) : Has x a := h ▸ hb
theorem thaw_at {t n sz l g : Nat} {f : Nat → D} {a b c : D} (h : a = b) (hb : Thaw t n sz f l g b c) : Thaw t n sz f l g a c := h ▸ hb
theorem Facts.at {st : St} {n1 l g b : Nat} {d : D} (h : Facts st n1) (hR : st.R l = some (g, b, d)) : b < n1 ∧ b ∉ d.tl := ⟨h.lt l g b d hR, h.root l g b d l g b d hR hR⟩
end Go.Proofs.YtncinhlaabdlaaaGreat.IM
end
