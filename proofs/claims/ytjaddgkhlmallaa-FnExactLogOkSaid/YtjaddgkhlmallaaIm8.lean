/- Calls that read and make, and the rules for code, over abstract states. Nothing of a program is in it. -/
import Derived.Test.YtjaddgkhlmallaaIm6
namespace Go.Proofs.Ytjaddgkhlmallaa.IM
open Go Go.RowKit
set_option linter.unusedVariables false

/-! ### a value under other labels -/
/-- values that hold no address of a root -/
def D.still : D → Prop
  | .lit _ => True
  | .nil => True
  | .sl _ _ _ _ f => ∀ i, (f i).still
  | .opq _ _ _ => True
  | .node _ f => ∀ i, (f i).still
  | .ptr _ _ _ _ => False
  | .cptr d => d.still
  | .msl _ _ _ _ _ _ _ => False
  | .fn _ _ c => ∀ i, (c i).still
  | .tup _ f => ∀ i, (f i).still
  | .any => True

inductive Lab where
  | gone
  | to (l g : Nat)
  | per (b : Nat) (d : D)

/-- label and stamp ↦ what becomes of the root -/
abbrev Relab := Nat → Nat → Lab

open Classical in
noncomputable def rl : Nat → Relab → D → D
  | 0, _, d => if d.still then d else .any
  | k + 1, F, d => if d.still then d else
    match d with
    | .lit v => .lit v
    | .nil => .nil
    | .sl t zb n sz f => .sl t zb n sz fun i => rl k F (f i)
    | .opq v S φ => .opq v S φ
    | .node kd f => .node kd fun i => rl k F (f i)
    | .cptr d => .cptr (rl k F d)
    | .fn f n c => .fn f n fun i => rl k F (c i)
    | .tup n f => .tup n fun i => rl k F (f i)
    | .any => .any
    | .ptr l g o p =>
      match F l g with
      | .gone => .any
      | .to l' g' => .ptr l' g' o p
      | .per _ d => if o = 0 ∧ p = [] then .cptr (rl k F d) else .any
    | .msl l g o p i n sz =>
      match F l g with
      | .gone => .any
      | .to l' g' => .msl l' g' o p i n sz
      | .per b d =>
        match d.get p with
        | .node (.arr N sz') f => if d.inb p ∧ d.offOf p = o ∧ i = 0 ∧ n ≤ N ∧ sz' = sz then .sl b (o == 0) n sz fun i => rl k F (f i) else .any
        | _ => .any

theorem rl_still {k : Nat} {F : Relab} {d : D} (h : d.still) : rl k F d = d := by
  cases k <;> simp [rl, h]
theorem rl_lit (k : Nat) (F : Relab) (v : Value) : rl k F (.lit v) = .lit v := rl_still trivial
theorem rl_nil (k : Nat) (F : Relab) : rl k F .nil = .nil := rl_still trivial
theorem rl_any (k : Nat) (F : Relab) : rl k F .any = .any := rl_still trivial
theorem rl_node (k : Nat) (F : Relab) (kd : Kd) (f : Nat → D) : rl (k + 1) F (.node kd f) = .node kd fun i => rl k F (f i) := by
  by_cases h : (D.node kd f).still
  · rw [rl_still h]; congr 1; funext i; exact (rl_still (h i)).symm
  · simp [rl, h]
theorem rl_opq (k : Nat) (F : Relab) (v : Value) (S : Nat → Prop) (φ : World → Prop) : rl k F (.opq v S φ) = .opq v S φ := rl_still trivial
theorem rl_sl (k : Nat) (F : Relab) (t : Nat) (zb : Bool) (n sz : Nat) (f : Nat → D) : rl (k + 1) F (.sl t zb n sz f) = .sl t zb n sz fun i => rl k F (f i) := by
  by_cases h : (D.sl t zb n sz f).still
  · rw [rl_still h]; congr 1; funext i; exact (rl_still (h i)).symm
  · simp [rl, h]
theorem rl_tup (k : Nat) (F : Relab) (n : Nat) (f : Nat → D) : rl (k + 1) F (.tup n f) = .tup n fun i => rl k F (f i) := by
  by_cases h : (D.tup n f).still
  · rw [rl_still h]; congr 1; funext i; exact (rl_still (h i)).symm
  · simp [rl, h]
theorem rl_cptr (k : Nat) (F : Relab) (d : D) : rl (k + 1) F (.cptr d) = .cptr (rl k F d) := by
  by_cases h : d.still
  · rw [rl_still (show (D.cptr d).still from h), rl_still h]
  · simp [rl, D.still, h]
theorem rl_fn (k : Nat) (F : Relab) (g n : Nat) (f : Nat → D) : rl (k + 1) F (.fn g n f) = .fn g n fun i => rl k F (f i) := by
  by_cases h : (D.fn g n f).still
  · rw [rl_still h]; congr 1; funext i; exact (rl_still (h i)).symm
  · simp [rl, h]
theorem rl_ptr (k : Nat) (F : Relab) (l g o : Nat) (p : List Nat) : rl (k + 1) F (.ptr l g o p) = match F l g with
      | .gone => .any
      | .to l' g' => .ptr l' g' o p
      | .per _ d => if o = 0 ∧ p = [] then .cptr (rl k F d) else .any := by simp [rl, D.still]
open Classical in
theorem rl_msl (k : Nat) (F : Relab) (l g o : Nat) (p : List Nat) (i n sz : Nat) : rl (k + 1) F (.msl l g o p i n sz) = match F l g with
      | .gone => .any
      | .to l' g' => .msl l' g' o p i n sz
      | .per b d =>
        match d.get p with
        | .node (.arr N sz') f => if d.inb p ∧ d.offOf p = o ∧ i = 0 ∧ n ≤ N ∧ sz' = sz then .sl b (o == 0) n sz fun i => rl k F (f i) else .any
        | _ => .any := by simp [rl, D.still]

/-- what holds of an environment behind any state -/
structure EnvOk (e : Env) : Prop where
  root : ∀ l g b d, e.R l = some (g, b, d) → g < e.G ∧ RootOk e b d
  P : ∀ b, e.P b → b < e.w.heap.size

theorem lt_of_block {w : World} {b : Nat} {x : Obj} (h : w.heap[b]? = some x) : b < w.heap.size := by
  rcases Nat.lt_or_ge b w.heap.size with h' | h'
  · exact h'
  · rw [Array.getElem?_eq_none h'] at h; cases h

theorem flat_prefix {m N : Nat} {ps : Nat → List Value} (h : m ≤ N) {j : Nat} {v : Value} (hj : (flat m ps)[j]? = some v) : (flat N ps)[j]? = some v := by
  obtain ⟨q, rfl⟩ : ∃ q, N = m + q := ⟨N - m, by omega⟩
  clear h
  induction q with
  | zero => exact hj
  | succ q ihq =>
    rw [← Nat.add_assoc, flat_succ, List.getElem?_append_left]
    · exact ihq
    · exact (List.getElem?_eq_some_iff.1 ihq).1

theorem Rep_still {e e' : Env} (hw : e'.w = e.w) (hP : ∀ b, e.P b → e'.P b) {d : D} : ∀ {cs : List Value}, d.still → Rep e d cs → Rep e' d cs := by
  induction d with
  | lit v => intro cs _ h; exact h
  | nil => intro cs _ h; exact h
  | sl t zb n sz f ih =>
    intro cs hs h
    obtain ⟨o, c, ps, h1, h2, h3, h4, h5⟩ := h
    exact ⟨o, c, ps, h1, h2, hP _ h3, fun i hi => ⟨(h4 i hi).1, ih i (hs i) (h4 i hi).2⟩, by rw [hw]; exact h5⟩
  | opq v S φ =>
    intro cs hs h
    obtain ⟨h1, h2, h3, h4⟩ := h
    exact ⟨h1, h2, fun b hb => hP _ (h3 b hb), by rw [hw]; exact h4⟩
  | node k f ih =>
    intro cs hs h
    obtain ⟨ps, h1, h2⟩ := h
    exact ⟨ps, fun i hi => ⟨(h1 i hi).1, ih i (hs i) (h1 i hi).2⟩, h2⟩
  | cptr d ih =>
    intro cs hs h
    obtain ⟨b, o, ds, h1, h2, h3, h4⟩ := h
    exact ⟨b, o, ds, h1, hP _ h2, ih hs h3, by rw [hw]; exact h4⟩
  | fn f n c ih =>
    intro cs hs h
    obtain ⟨vs, h1, h2, h3⟩ := h
    exact ⟨vs, h1, h2, fun i hi => ⟨(h3 i hi).1, ih i (hs i) (h3 i hi).2⟩⟩
  | tup n f => intro cs _ h; exact h.elim
  | any => intro cs _ h; exact h
  | ptr _ _ _ _ => intro cs hs; exact hs.elim
  | msl _ _ _ _ _ _ _ => intro cs hs; exact hs.elim

theorem VRep_still {e e' : Env} (hw : e'.w = e.w) (hP : ∀ b, e.P b → e'.P b) {d : D} : ∀ {v : Value}, d.still → VRep e d v → VRep e' d v := by
  induction d with
  | node k f => intro v hs h; obtain ⟨cs, h1, h2⟩ := h; exact ⟨cs, h1, Rep_still hw hP hs h2⟩
  | tup n f ih => intro v hs h; obtain ⟨vs, h1, h2, h3⟩ := h; exact ⟨vs, h1, h2, fun i hi => ih i (hs i) (h3 i hi)⟩
  | any => intro v _ h; trivial
  | lit u => intro v hs h; exact Rep_still (d := .lit u) hw hP hs h
  | nil => intro v hs h; exact Rep_still (d := .nil) hw hP hs h
  | sl t zb n sz f => intro v hs h; exact Rep_still (d := .sl t zb n sz f) hw hP hs h
  | opq u S φ => intro v hs h; exact Rep_still (d := .opq u S φ) hw hP hs h
  | cptr d => intro v hs h; exact Rep_still (d := .cptr d) hw hP hs h
  | fn f n c => intro v hs h; exact Rep_still (d := .fn f n c) hw hP hs h
  | ptr _ _ _ _ => intro v hs; exact hs.elim
  | msl _ _ _ _ _ _ _ => intro v hs; exact hs.elim

/-- what a relabelling must keep to -/
structure RelabOk (e e' : Env) (F : Relab) : Prop where
  w : e'.w = e.w
  P : ∀ b, e.P b → e'.P b
  to_ : ∀ l g l' g', F l g = .to l' g' → g < e.G → g' < e'.G ∧ ∀ b d, e'.R l' = some (g', b, d) → ∃ d', e.R l = some (g, b, d')
  per : ∀ l g b d, F l g = .per b d → e.R l = some (g, b, d) ∧ RootOk e b d ∧ e'.P b

theorem rl_leaf (k : Nat) (F : Relab) {d : D} (h : d.isNode ≠ some true) : (rl k F d).isNode ≠ some true := by
  by_cases hs : d.still
  · rw [rl_still hs]; exact h
  · cases k with
    | zero => simp [rl, hs, D.isNode]
    | succ k =>
      cases d with
      | node kd f => exact absurd rfl h
      | ptr l g o p =>
        rw [rl_ptr]; split <;> (try split) <;> simp [D.isNode]
      | msl l g o p i n sz =>
        rw [rl_msl]; split <;> (try split) <;> (try split) <;> simp [D.isNode]
      | cptr d => rw [rl_cptr]; simp [D.isNode]
      | fn f n c => rw [rl_fn]; simp [D.isNode]
      | sl t zb n sz f => rw [rl_sl]; simp [D.isNode]
      | tup n f => rw [rl_tup]; simp [D.isNode]
      | _ => exact absurd trivial hs

theorem Rep_rl {e e' : Env} {F : Relab} (ho : RelabOk e e' F) : ∀ (k : Nat) (d : D) (cs : List Value), Rep e d cs → Rep e' (rl k F d) cs := by
  intro k
  induction k with
  | zero =>
    intro d cs h
    by_cases hs : d.still
    · rw [rl_still hs]; exact Rep_still ho.w ho.P hs h
    · simp only [rl, hs, if_false]; exact Rep_leaf h
  | succ k ih =>
    intro d cs h
    cases d with
    | lit v => rw [rl_lit]; exact h
    | nil => rw [rl_nil]; exact h
    | any => rw [rl_any]; exact h
    | opq v S φ =>
      rw [rl_opq]
      exact Rep_still (d := .opq v S φ) ho.w ho.P trivial h
    | sl t zb n sz f =>
      rw [rl_sl]
      obtain ⟨o, c, ps, h1, h2, h3, h4, h5⟩ := h
      exact ⟨o, c, ps, h1, h2, ho.P _ h3, fun i hi => ⟨(h4 i hi).1, ih _ _ (h4 i hi).2⟩, by rw [ho.w]; exact h5⟩
    | node kd f =>
      rw [rl_node]
      obtain ⟨ps, h1, h2⟩ := h
      exact ⟨ps, fun i hi => ⟨(h1 i hi).1, ih _ _ (h1 i hi).2⟩, h2⟩
    | ptr l g o p =>
      rw [rl_ptr]
      have hany : Rep e' .any cs := Rep_leaf h
      obtain ⟨hg, a, hcs, hq⟩ := h
      split
      · exact hany
      · rename_i l' g' hF
        obtain ⟨h1, h2⟩ := ho.to_ _ _ _ _ hF hg
        refine ⟨h1, a, hcs, fun b d hd => ?_⟩
        obtain ⟨d', hd'⟩ := h2 _ _ hd
        exact hq _ _ hd'
      · rename_i b d hF
        obtain ⟨hR, hro, hP⟩ := ho.per _ _ _ _ hF
        split
        · rename_i hc
          obtain ⟨rfl, rfl⟩ := hc
          obtain rfl := hq _ _ hR
          obtain ⟨C, T, ds, r1, r2, r3⟩ := hro.row
          exact ⟨b, 0, ds, hcs, hP, ih _ _ r2, C, T, _, by rw [ho.w]; exact r1, fun j v hj => by rw [Nat.zero_add]; exact r3 j v hj⟩
        · exact hany
    | cptr d =>
      rw [rl_cptr]
      obtain ⟨b, o, ds, h1, h2, h3, h4⟩ := h
      exact ⟨b, o, ds, h1, ho.P _ h2, ih _ _ h3, by rw [ho.w]; exact h4⟩
    | msl l g o p i n sz =>
      rw [rl_msl]
      have hany : Rep e' .any cs := Rep_leaf h
      obtain ⟨hg, a, c, hcs, hc, hq⟩ := h
      split
      · exact hany
      · rename_i l' g' hF
        obtain ⟨h1, h2⟩ := ho.to_ _ _ _ _ hF hg
        refine ⟨h1, a, c, hcs, hc, fun b d hd => ?_⟩
        obtain ⟨d', hd'⟩ := h2 _ _ hd
        rw [ho.w]
        exact hq _ _ hd'
      · rename_i b d hF
        obtain ⟨hR, hro, hP⟩ := ho.per _ _ _ _ hF
        split
        · rename_i N sz' f hget
          split
          · rename_i hcond
            obtain ⟨hin, hoff, rfl, hn, rfl⟩ := hcond
            obtain ⟨rfl, C', T', z', hh, hcap⟩ := hq _ _ hR
            obtain ⟨C, T, ds, r1, r2, r3⟩ := hro.row
            obtain ⟨es, q1, q2, q3⟩ := Rep_get p d ds r2 hin
            rw [hget] at q1
            obtain ⟨ps, hps, rfl⟩ := q1
            refine ⟨o, c, ps, hcs, hc, hP, fun i hi => ⟨(hps i (Nat.lt_of_lt_of_le hi hn)).1, ih _ _ (hps i (Nat.lt_of_lt_of_le hi hn)).2⟩, ⟨C, T, _, by rw [ho.w]; exact r1, fun j v hj => ?_⟩, fun hz => ?_⟩
            · have hj' := flat_prefix (N := N) hn hj
              have hlt := (List.getElem?_eq_some_iff.1 hj').1
              refine r3 _ v ?_
              rw [← hoff, q3 j hlt]
              exact hj'
            · rw [r1] at hh
              simp only [Option.some.injEq, Obj.cells.injEq] at hh
              obtain ⟨rfl, rfl, rfl⟩ := hh
              have ho0 : o = 0 := by simpa using hz
              exact ⟨ho0, C, T, by rw [ho.w]; exact r1, by omega⟩
          · exact hany
        · exact hany
    | fn f n c =>
      rw [rl_fn]
      obtain ⟨vs, h1, h2, h3⟩ := h
      exact ⟨vs, h1, h2, fun i hi => ⟨rl_leaf k F (h3 i hi).1, ih _ _ (h3 i hi).2⟩⟩
    | tup n f => exact h.elim

theorem VRep_of_Rep {e : Env} {d : D} {v : Value} (hn : d.isNode ≠ some true) (h : Rep e d [v]) : VRep e d v := by
  cases d with
  | node k f => exact absurd rfl hn
  | tup n f => exact h.elim
  | any => trivial
  | _ => exact h

theorem VRep_rl {e e' : Env} {F : Relab} (ho : RelabOk e e' F) : ∀ (k : Nat) (d : D) (v : Value), VRep e d v → VRep e' (rl k F d) v := by
  intro k
  induction k with
  | zero =>
    intro d v h
    cases d with
    | node kd f =>
      obtain ⟨cs, h1, h2⟩ := h
      have h3 := Rep_rl ho 0 _ _ h2
      by_cases hs : (D.node kd f).still
      · rw [rl_still hs] at h3 ⊢; exact ⟨cs, h1, h3⟩
      · simp only [rl, hs, if_false]; trivial
    | tup n f =>
      by_cases hs : (D.tup n f).still
      · rw [rl_still hs]; exact VRep_still ho.w ho.P hs h
      · simp only [rl, hs, if_false]; trivial
    | any => rw [rl_any]; trivial
    | _ => exact VRep_of_Rep (rl_leaf 0 F (by simp [D.isNode])) (Rep_rl ho 0 _ _ h)
  | succ k ih =>
    intro d v h
    cases d with
    | node kd f => rw [rl_node]; obtain ⟨cs, h1, h2⟩ := h; have := Rep_rl ho (k + 1) (.node kd f) _ h2; rw [rl_node] at this; exact ⟨cs, h1, this⟩
    | tup n f => rw [rl_tup]; obtain ⟨vs, h1, h2, h3⟩ := h; exact ⟨vs, h1, h2, fun i hi => ih _ _ (h3 i hi)⟩
    | any => rw [rl_any]; trivial
    | _ => exact VRep_of_Rep (rl_leaf (k + 1) F (by simp [D.isNode])) (Rep_rl ho (k + 1) _ _ h)

/-! ### code -/
def LiftQ (w0 : World) (M : Fr) (Q : Exit → St → Prop) (x : Exit) (a : Act) (w : World) : Prop := ∃ st, Q x st ∧ SR w0 M st a w

def IWp (P : Program) (w0 : World) (M : Fr) (c : Code) (Q : Exit → St → Prop) (st : St) : Prop :=
  ∀ a w, SR w0 M st a w → c.wp P (LiftQ w0 M Q) a w

def qthen (K : St → Prop) (Q : Exit → St → Prop) : Exit → St → Prop
  | .normal, st => K st
  | x, st => Q x st
def qblock (id : Nat) (Q : Exit → St → Prop) : Exit → St → Prop
  | .exit id', st => if id' = id then Q .normal st else Q (.exit id') st
  | x, st => Q x st

section code
variable {P : Program} {w0 : World} {M : Fr} {Q : Exit → St → Prop} {st : St}

theorem iwp_mono {c : Code} {Q' : Exit → St → Prop} (h : IWp P w0 M c Q st) (hq : ∀ x st, Q x st → Q' x st) : IWp P w0 M c Q' st :=
  fun a w hs => wp_mono (h a w hs) fun x a w ⟨st, q, s⟩ => ⟨st, hq _ _ q, s⟩

theorem iwp_skip (h : Q .normal st) : IWp P w0 M .skip Q st := fun a w hs => wp_skip ⟨st, h, hs⟩
theorem iwp_exit {id : Nat} (h : Q (.exit id) st) : IWp P w0 M (.exit id) Q st := fun a w hs => wp_exit ⟨st, h, hs⟩
theorem iwp_ret (h : Q .ret st) : IWp P w0 M .ret Q st := fun a w hs => wp_ret ⟨st, h, hs⟩

theorem iwp_seq {x y : Code} (h : IWp P w0 M x (qthen (IWp P w0 M y Q) Q) st) : IWp P w0 M (.seq x y) Q st := by
  intro a w hs
  refine wp_seq (wp_mono (h a w hs) fun e a w hq => ?_)
  obtain ⟨st', q, s⟩ := hq
  cases e with
  | normal => exact q a w s
  | exit id => exact ⟨st', q, s⟩
  | goto l => exact ⟨st', q, s⟩
  | ret => exact ⟨st', q, s⟩
  | panic c => exact ⟨st', q, s⟩
  | outgrown => exact ⟨st', q, s⟩

theorem iwp_block {id : Nat} {c : Code} (h : IWp P w0 M c (qblock id Q) st) : IWp P w0 M (.block id c) Q st := by
  intro a w hs
  refine wp_block (wp_mono (h a w hs) fun e a w hq => ?_)
  obtain ⟨st', q, s⟩ := hq
  cases e with
  | normal => exact ⟨st', q, s⟩
  | exit id' =>
    simp only [qblock] at q
    simp only [Exit.inBlock]
    split
    · rename_i hid; rw [if_pos hid] at q; exact ⟨st', q, s⟩
    · rename_i hid; rw [if_neg hid] at q; exact ⟨st', q, s⟩
  | goto l => exact ⟨st', q, s⟩
  | ret => exact ⟨st', q, s⟩
  | panic c => exact ⟨st', q, s⟩
  | outgrown => exact ⟨st', q, s⟩

/-- the test's slot holds what was found -/
def St.know (st : St) (x : Operand) (t : Bool) : St :=
  match x with
  | .tmp k => { st with s := upd st.s k (.lit (.bool t)) }
  | _ => st

theorem SR.know {a : Act} {w : World} {x : Operand} {t : Bool} (h : SR w0 M st a w) (hx : st.ev x = .lit (.bool t)) : SR w0 M (st.know x t) a w := by
  obtain ⟨e, he, hg⟩ := h
  refine ⟨e, he, ?_⟩
  cases x with
  | tmp k =>
    refine ⟨hg.R, hg.N, hg.df, fun j => ?_, hg.root, hg.own, hg.inj, hg.P, hg.keep, hg.n, hg.per⟩
    show VRep e (upd st.s k (.lit (.bool t)) j) _
    by_cases hj : j = k
    · subst hj; rw [upd_same]
      have := hg.slot j
      rw [show st.s j = _ from hx] at this; exact this
    · rw [upd_ne _ _ hj]; exact hg.slot j
  | _ => exact hg

theorem iwp_cond {c : Operand} {x y : Code} {t : Bool} (hc : st.ev c = .lit (.bool t)) (h1 : t = true → IWp P w0 M x Q (st.know c true)) (h0 : t = false → IWp P w0 M y Q (st.know c false)) : IWp P w0 M (.cond c x y) Q st := by
  intro a w hs
  have hv : a.eval c = .bool t := by
    obtain ⟨e, he, hg⟩ := hs
    have := hg.ev c; rw [hc] at this
    exact (VRep_lit this).1
  cases t with
  | true => exact wp_cond_true hv (h1 rfl a w (hs.know hc))
  | false => exact wp_cond_false hv (h0 rfl a w (hs.know hc))

/-- what may be forgotten -/
structure St.le (st st' : St) : Prop where
  N : st'.N = st.N
  n : st'.n ≤ st.n
  s : ∀ t, st'.s t = st.s t ∨ st'.s t = .any
  R : ∀ l, st'.R l = st.R l ∨ st'.R l = none

theorem SR.forget {a : Act} {w : World} {st' : St} (h : SR w0 M st a w) (hle : st.le st') : SR w0 M st' a w := by
  obtain ⟨e, he, hg⟩ := h
  have hR : ∀ l x, st'.R l = some x → st.R l = some x := fun l x hx => by
    rcases hle.R l with h | h
    · rw [← h]; exact hx
    · rw [h] at hx; cases hx
  have hel : e.le { e with R := st'.R } := ⟨Nat.le_refl _, fun _ h => h, fun _ _ => rfl, fun l g b d _ hl => ⟨d, by rw [hg.R]; exact hR _ _ hl⟩, fun _ _ _ _ _ _ C _ z h => ⟨C, z, h, rfl⟩⟩
  refine ⟨{ e with R := st'.R }, he, rfl, by rw [hle.N]; exact hg.N, hg.df, fun t => ?_, fun l g b d hl => ?_, fun l g b d hl => hg.own _ _ _ _ (hR _ _ hl), fun l l' g g' b d d' h1 h2 => hg.inj _ _ _ _ _ _ _ (hR _ _ h1) (hR _ _ h2), hg.P, hg.keep, Nat.le_trans hle.n hg.n, hg.per⟩
  · rcases hle.s t with h | h
    · rw [h]; exact VRep_le hel (hg.slot t)
    · rw [h]; trivial
  · obtain ⟨h1, h2⟩ := hg.root _ _ _ _ (hR _ _ hl)
    refine ⟨h1, h2.np, h2.plain, ?_⟩
    obtain ⟨C, T, cs, r1, r2, r3⟩ := h2.row
    exact ⟨C, T, cs, r1, Rep_le hel r2, r3⟩

theorem iwp_forget {c : Code} (st' : St) (hle : st.le st') (h : IWp P w0 M c Q st') : IWp P w0 M c Q st :=
  fun a w hs => h a w (hs.forget hle)

/-- what a state may be told as -/
def Into (w0 : World) (M : Fr) (st : St) (K : St → Prop) : Prop := ∀ a w, SR w0 M st a w → ∃ st', K st' ∧ SR w0 M st' a w

theorem Into.of {K : St → Prop} (h : K st) : Into w0 M st K := fun a w hs => ⟨st, h, hs⟩
theorem Into.le {K : St → Prop} (st' : St) (hle : st.le st') (h : Into w0 M st' K) : Into w0 M st K := fun a w hs => h a w (hs.forget hle)
theorem iwp_into {c : Code} (h : Into w0 M st (IWp P w0 M c Q)) : IWp P w0 M c Q st := fun a w hs => by
  obtain ⟨st', h1, h2⟩ := h a w hs
  exact h1 a w h2

/-- a root under another label -/
theorem Into.move {K : St → Prop} {l l' t g b o i n sz : Nat} {p : List Nat} {d : D} (hne : l' ≠ l) (hR : st.R l = some (g, b, d)) (ht : st.s t = .msl l g o p i n sz)
    (h : ∀ G, Into w0 M { N := st.N, n := st.n, s := upd st.s t (.msl l' G o p i n sz), R := upd (upd st.R l none) l' (some (G, b, d)) } K) : Into w0 M st K := by
  rintro a w ⟨e, rfl, hg⟩
  have hsp : ∀ l0 x, upd (upd st.R l none) l' (some (e.G, b, d)) l0 = some x → (l0 = l' ∧ x = (e.G, b, d)) ∨ (l0 ≠ l ∧ st.R l0 = some x) := by
    intro l0 x hx
    by_cases h1 : l0 = l'
    · subst h1; rw [upd_same] at hx; exact .inl ⟨rfl, (Option.some.inj hx).symm⟩
    · rw [upd_ne _ _ h1] at hx
      by_cases h2 : l0 = l
      · subst h2; rw [upd_same] at hx; cases hx
      · rw [upd_ne _ _ h2] at hx; exact .inr ⟨h2, hx⟩
  have hle : e.le ⟨upd (upd st.R l none) l' (some (e.G, b, d)), e.G + 1, e.P, e.w⟩ := by
    refine ⟨Nat.le_succ _, fun _ h => h, fun _ _ => rfl, fun l0 g0 b0 d0 hg0 hl0 => ?_, fun _ _ _ _ _ _ C _ z h => ⟨C, z, h, rfl⟩⟩
    rcases hsp _ _ hl0 with ⟨rfl, h1⟩ | ⟨_, h1⟩
    · simp only [Prod.mk.injEq] at h1; omega
    · exact ⟨d0, by rw [hg.R]; exact h1⟩
  refine h e.G a e.w ⟨⟨upd (upd st.R l none) l' (some (e.G, b, d)), e.G + 1, e.P, e.w⟩, rfl, rfl, hg.N, hg.df, fun k => ?_, fun l0 g0 b0 d0 hl0 => ?_, fun l0 g0 b0 d0 hl0 => ?_, fun l1 l2 g1 g2 b' d1 d2 h1 h2 => ?_, hg.P, hg.keep, hg.n, hg.per⟩
  · by_cases hk : k = t
    · subst hk
      show VRep _ (upd st.s k _ k) _
      rw [upd_same]
      have := hg.slot k
      rw [ht] at this
      obtain ⟨hgg, ad, c, h1, h2, h3⟩ := this
      refine ⟨Nat.lt_succ_self _, ad, c, h1, h2, fun b' d' hb' => ?_⟩
      have hb2 : upd (upd st.R l none) l' (some (e.G, b, d)) l' = some (e.G, b', d') := hb'
      rw [upd_same] at hb2
      simp only [Option.some.injEq, Prod.mk.injEq] at hb2
      obtain ⟨_, rfl, rfl⟩ := hb2
      exact h3 b d (by rw [hg.R]; exact hR)
    · show VRep _ (upd st.s t _ k) _
      rw [upd_ne _ _ hk]
      exact VRep_le hle (hg.slot k)
  · rcases hsp _ _ hl0 with ⟨rfl, h1⟩ | ⟨_, h1⟩
    · simp only [Prod.mk.injEq] at h1
      obtain ⟨rfl, rfl, rfl⟩ := h1
      obtain ⟨_, hro⟩ := hg.root _ _ _ _ hR
      obtain ⟨C, T, cs, r1, r2, r3⟩ := hro.row
      exact ⟨Nat.lt_succ_self _, hro.np, hro.plain, C, T, cs, r1, Rep_le hle r2, r3⟩
    · obtain ⟨hg0, hro⟩ := hg.root _ _ _ _ h1
      obtain ⟨C, T, cs, r1, r2, r3⟩ := hro.row
      exact ⟨Nat.lt_succ_of_lt hg0, hro.np, hro.plain, C, T, cs, r1, Rep_le hle r2, r3⟩
  · rcases hsp _ _ hl0 with ⟨rfl, h1⟩ | ⟨_, h1⟩
    · simp only [Prod.mk.injEq] at h1
      obtain ⟨rfl, rfl, rfl⟩ := h1
      exact hg.own _ _ _ _ hR
    · exact hg.own _ _ _ _ h1
  · rcases hsp _ _ h1 with ⟨e1, q1⟩ | ⟨e1, q1⟩ <;> rcases hsp _ _ h2 with ⟨e2, q2⟩ | ⟨e2, q2⟩
    · rw [e1, e2]
    · simp only [Prod.mk.injEq] at q1
      obtain ⟨rfl, rfl, rfl⟩ := q1
      exact absurd (hg.inj _ _ _ _ _ _ _ hR q2).symm e2
    · simp only [Prod.mk.injEq] at q2
      obtain ⟨rfl, rfl, rfl⟩ := q2
      exact absurd (hg.inj _ _ _ _ _ _ _ q1 hR) e1
    · exact hg.inj _ _ _ _ _ _ _ q1 q2

theorem iwp_loop {c : Code} (I : Nat → St → Prop) {m : Nat} (h0 : I m st) (hr : ∀ m st, I m st → IWp P w0 M c (qthen (fun st' => ∃ m', m' < m ∧ Into w0 M st' (I m')) Q) st) : IWp P w0 M (.loop c) Q st := by
  intro a w hs b k cs
  have key : ∀ m st a w, I m st → SR w0 M st a w → ∃ e a' w', LiftQ w0 M Q e a' w' ∧ Arrives P (lone (b.at a (.code c :: .inLoop c :: k)) cs w) b k cs e a' w' := by
    intro m
    induction m using Nat.strongRecOn with
    | _ m ih =>
      intro st a w hI hs
      obtain ⟨e, a₁, w₁, ⟨st', q, s⟩, harr⟩ := hr m st hI a w hs b (.inLoop c :: k) cs
      cases e with
      | normal =>
        obtain ⟨m', hlt, hin⟩ := q
        obtain ⟨st'', hI', s'⟩ := hin _ _ s
        obtain ⟨e₂, a₂, w₂, hq₂, harr₂⟩ := ih m' hlt st'' a₁ w₁ hI' s'
        exact ⟨e₂, a₂, w₂, hq₂, .of_steps (Steps.trans harr (.one step_inLoop)) harr₂⟩
      | exit id => exact ⟨_, a₁, w₁, ⟨st', q, s⟩, .pass (x := .inLoop c) rfl (fun _ _ => .inl (by simp)) harr⟩
      | goto l => exact ⟨_, a₁, w₁, ⟨st', q, s⟩, .pass (x := .inLoop c) rfl (fun _ _ => .inl (by simp)) harr⟩
      | ret => exact ⟨_, a₁, w₁, ⟨st', q, s⟩, .pass (x := .inLoop c) rfl (fun _ _ => .inl (by simp)) harr⟩
      | panic ch => exact ⟨_, a₁, w₁, ⟨st', q, s⟩, .pass (x := .inLoop c) rfl (fun _ _ => .inl (by simp)) harr⟩
      | outgrown => exact ⟨_, a₁, w₁, ⟨st', q, s⟩, .pass (x := .inLoop c) rfl (fun _ _ => .inl (by simp)) harr⟩
  obtain ⟨e, a', w', hq, harr⟩ := key m st a w h0 hs
  exact ⟨e, a', w', hq, .of_steps (.one step_loop) harr⟩

end code
end Go.Proofs.Ytjaddgkhlmallaa.IM
