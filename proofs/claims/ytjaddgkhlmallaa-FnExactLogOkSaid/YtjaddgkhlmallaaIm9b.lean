/- Calls that write over blocks that plain data leads to. Nothing of a program is in it. -/
import Derived.Test.YtjaddgkhlmallaaIm9
namespace Go.Proofs.Ytjaddgkhlmallaa.IM
open Go Go.RowKit
set_option linter.unusedVariables false

/-- what may be written -/
def wr (w0 : World) (M : Fr) : Nat → Prop := fun b => w0.heap.size ≤ b ∨ M.m b
/-- the same blocks at the same places; what stands in the blocks may be another -/
def D.skel : D → D → Prop
  | .lit v, .lit v' => v = v'
  | .nil, .nil => True
  | .sl t zb n sz _, .sl t' zb' n' sz' _ => t' = t ∧ zb = true ∧ zb' = true ∧ n' = n ∧ sz' = sz
  | .node k f, .node k' f' => k' = k ∧ ∀ i, i < k.cnt → (f i).skel (f' i)
  | _, _ => False

theorem skel_rep {e e' : Env} (hcell : ∀ (k : Nat) (C : Array Value) (T : TypeId) (z : Nat × Nat), e.w.heap[k]? = some (Obj.cells C T z) → ∃ C' : Array Value, e'.w.heap[k]? = some (Obj.cells C' T z) ∧ C'.size = C.size) {d : D} :
    ∀ {d' : D} {cs us : List Value}, Rep e d cs → Rep e' d' us → d.skel d' → Rep e' d' cs := by
  induction d with
  | lit v =>
    intro d' cs us h h' hs
    cases d' with
    | lit v' => obtain rfl : v = v' := hs; exact h
    | _ => exact hs.elim
  | nil =>
    intro d' cs us h h' hs
    cases d' with
    | nil => exact h
    | _ => exact hs.elim
  | sl t zb n sz f ih =>
    intro d' cs us h h' hs
    cases d' with
    | sl t' zb' n' sz' f' =>
      obtain ⟨rfl, rfl, rfl, rfl, rfl⟩ := hs
      obtain ⟨o, c, ps, h1, h2, h3, h4, h5, h6⟩ := h
      obtain ⟨o', c', ps', k1, k2, k3, k4, k5, k6⟩ := h'
      obtain ⟨rfl, C, T, h7, h8⟩ := h6 rfl
      obtain ⟨rfl, C1, T1, k7, k8⟩ := k6 rfl
      obtain ⟨C', h9, h10⟩ := hcell _ _ _ _ h7
      exact ⟨0, c, ps', h1, h2, k3, k4, k5, fun _ => ⟨rfl, C', T, h9, by omega⟩⟩
    | _ => exact hs.elim
  | node k f ih =>
    intro d' cs us h h' hs
    cases d' with
    | node k' f' =>
      obtain ⟨rfl, hs⟩ := hs
      obtain ⟨ps, h1, rfl⟩ := h
      obtain ⟨us', k1, rfl⟩ := h'
      exact ⟨ps, fun i hi => ⟨(h1 i hi).1, ih i (h1 i hi).2 (k1 i hi).2 (hs i hi)⟩, rfl⟩
    | _ => exact hs.elim
  | _ => intro d' cs us h h' hs; simp [D.skel] at hs

/-- a call that writes over the blocks that its first argument leads to, and hands back a known number -/
def MCall (P : Program) (f : FuncId) (d : D) (rest : List D) (v : Value) (Qd : D → Prop) : Prop :=
  Enters P f ∧ Leaf v ∧ ∀ (w : World) (p : Nat → Prop) (vs : Array Value), vs.size = rest.length + 1 → (∀ b, p b → b < w.heap.size) → (∀ b, b ∈ d.tl → p b) →
    (∀ i x, (d :: rest)[i]? = some x → VRep ⟨fun _ => none, 1, p, w⟩ x (vs.getD i undef)) →
    Calls P f vs w fun en w' => en = .returned v ∧ Keep w (· ∈ d.tl) w' ∧ ∃ d' p' u, Qd d' ∧ d.skel d' ∧ d'.tags (· ∈ d.tl) ∧ VRep ⟨fun _ => none, 1, p', w'⟩ d' u

/-- what a value is behind such a call -/
inductive Carry (d d' : D) : D → D → Prop
  | here : Carry d d' d d'
  | apart (x : D) : x.tags (fun b => b ∉ d.tl) → Carry d d' x x
  | drop (x : D) : Carry d d' x .any
  | ptr (l g o : Nat) (p : List Nat) : Carry d d' (.ptr l g o p) (.ptr l g o p)
  | msl (l g o : Nat) (p : List Nat) (i n sz : Nat) : Carry d d' (.msl l g o p i n sz) (.msl l g o p i n sz)
  | node (k : Kd) (f f' : Nat → D) : (∀ i, i < k.cnt → Carry d d' (f i) (f' i)) → Carry d d' (.node k f) (.node k f')
  | sl (t : Nat) (zb : Bool) (n sz : Nat) (f f' : Nat → D) : t ∉ d.tl → (∀ i, i < n → Carry d d' (f i) (f' i)) → Carry d d' (.sl t zb n sz f) (.sl t zb n sz f')

/-- two environments: blocks outside S are the same -/
structure Past (S : Nat → Prop) (e e' : Env) : Prop where
  P : ∀ b, e.P b → e'.P b
  lt : ∀ b, e.P b → b < e.w.heap.size
  keep : Keep e.w S e'.w
  G : e.G ≤ e'.G
  R : ∀ l g b x, e'.R l = some (g, b, x) → ∃ x', e.R l = some (g, b, x')
  own : ∀ l g b x, e.R l = some (g, b, x) → ¬ S b

theorem rep_apart {S : Nat → Prop} {e e' : Env} (hp : Past S e e') {x : D} : ∀ {cs : List Value}, x.tags (fun b => ¬ S b) → Rep e x cs → Rep e' x cs := by
  induction x with
  | lit v => intro cs _ h; exact h
  | nil => intro cs _ h; exact h
  | opq v S' φ =>
    intro cs ht h
    obtain ⟨h1, h2, h3, h4, h5⟩ := h
    exact ⟨h1, h2, fun b hb => hp.P _ (h3 b hb), h5 _ _ (fun b hb => hp.keep.block b (hp.lt _ (h3 b hb)) (ht b hb)) h4, h5⟩
  | sl t zb n sz f ih =>
    intro cs ht h
    obtain ⟨o, c, ps, h1, h2, h3, h4, h5, h6⟩ := h
    have hb := hp.keep.block t (hp.lt _ h3) ht.1
    exact ⟨o, c, ps, h1, h2, hp.P _ h3, fun i hi => ⟨(h4 i hi).1, ih i (ht.2 i hi) (h4 i hi).2⟩, h5.of_block hb, fun hz => (h6 hz).of_block hb⟩
  | node k f ih =>
    intro cs ht h
    obtain ⟨ps, h1, h2⟩ := h
    exact ⟨ps, fun i hi => ⟨(h1 i hi).1, ih i (ht i hi) (h1 i hi).2⟩, h2⟩
  | tup n f => intro cs _ h; exact h.elim
  | any => intro cs _ h; exact h
  | _ => intro cs ht; exact ht.elim

theorem rep_carry {d d' : D} {e e' : Env} (hp : Past (· ∈ d.tl) e e') (hh : ∀ cs, Rep e d cs → Rep e' d' cs) {x x' : D} (hc : Carry d d' x x') : ∀ {cs : List Value}, Rep e x cs → Rep e' x' cs := by
  induction hc with
  | here => intro cs h; exact hh cs h
  | apart x hx => intro cs h; exact rep_apart hp hx h
  | drop x => intro cs h; exact Rep_leaf h
  | ptr l g o p =>
    intro cs h
    obtain ⟨hg, a, h1, h2⟩ := h
    refine ⟨Nat.lt_of_lt_of_le hg hp.G, a, h1, fun b x hx => ?_⟩
    obtain ⟨x', hx'⟩ := hp.R _ _ _ _ hx
    exact h2 b x' hx'
  | msl l g o p i n sz =>
    intro cs h
    obtain ⟨hg, a, c, h1, h2, h3⟩ := h
    refine ⟨Nat.lt_of_lt_of_le hg hp.G, a, c, h1, h2, fun b x hx => ?_⟩
    obtain ⟨x', hx'⟩ := hp.R _ _ _ _ hx
    obtain ⟨q1, C, T, z, q2, q3⟩ := h3 b x' hx'
    obtain ⟨C', q4, q5⟩ := hp.keep.cell _ _ _ _ q2
    exact ⟨q1, C', T, z, q4, by omega⟩
  | node k f f' _ ih =>
    intro cs h
    obtain ⟨ps, h1, h2⟩ := h
    exact ⟨ps, fun i hi => ⟨(h1 i hi).1, ih i hi (h1 i hi).2⟩, h2⟩
  | sl t zb n sz f f' ht _ ih =>
    intro cs h
    obtain ⟨o, c, ps, h1, h2, h3, h4, h5, h6⟩ := h
    have hb := hp.keep.block t (hp.lt _ h3) ht
    exact ⟨o, c, ps, h1, h2, hp.P _ h3, fun i hi => ⟨(h4 i hi).1, ih i hi (h4 i hi).2⟩, h5.of_block hb, fun hz => (h6 hz).of_block hb⟩

theorem vrep_apart {S : Nat → Prop} {e e' : Env} (hp : Past S e e') {x : D} : ∀ {v : Value}, x.tags (fun b => ¬ S b) → VRep e x v → VRep e' x v := by
  induction x with
  | node k f => intro v ht h; obtain ⟨cs, h1, h2⟩ := h; exact ⟨cs, h1, rep_apart hp ht h2⟩
  | tup n f ih => intro v ht h; obtain ⟨vs, h1, h2, h3⟩ := h; exact ⟨vs, h1, h2, fun i hi => ih i (ht i hi) (h3 i hi)⟩
  | any => intro v _ h; trivial
  | lit u => intro v ht h; exact rep_apart (x := .lit u) hp ht h
  | nil => intro v ht h; exact rep_apart (x := .nil) hp ht h
  | sl t zb n sz f => intro v ht h; exact rep_apart (x := .sl t zb n sz f) hp ht h
  | opq u S' φ => intro v ht h; exact rep_apart (x := .opq u S' φ) hp ht h
  | _ => intro v ht; exact ht.elim

theorem skel_node {d d' : D} (h : d.skel d') : d'.isNode = d.isNode := by
  cases d <;> cases d' <;> first | rfl | exact h.elim

theorem vrep_carry {d d' : D} {e e' : Env} (hp : Past (· ∈ d.tl) e e') (hs : d.skel d') (hh : ∀ cs, Rep e d cs → Rep e' d' cs) {x x' : D} (hc : Carry d d' x x') {v : Value} (h : VRep e x v) : VRep e' x' v := by
  cases hc with
  | here =>
    cases d with
    | node k f =>
      obtain ⟨cs, rfl, h2⟩ := h
      have h3 := hh _ h2
      cases d' with
      | node k' f' => exact ⟨cs, rfl, h3⟩
      | _ => exact hs.elim
    | lit u =>
      have h3 := hh [v] h
      cases d' with
      | lit u' => exact h3
      | _ => exact hs.elim
    | nil =>
      have h3 := hh [v] h
      cases d' with
      | nil => exact h3
      | _ => exact hs.elim
    | sl t zb n sz f =>
      have h3 := hh [v] h
      cases d' with
      | sl t zb n sz f => exact h3
      | _ => exact hs.elim
    | _ => simp [D.skel] at hs
  | apart x hx => exact vrep_apart hp hx h
  | drop x => trivial
  | ptr l g o p => exact rep_carry hp hh (Carry.ptr l g o p) h
  | msl l g o p i n sz => exact rep_carry hp hh (Carry.msl l g o p i n sz) h
  | node k f f' hf => obtain ⟨cs, h1, h2⟩ := h; exact ⟨cs, h1, rep_carry hp hh (Carry.node k f f' hf) h2⟩
  | sl t zb n sz f f' ht hf => exact rep_carry hp hh (Carry.sl t zb n sz f f' ht hf) h

theorem rep_any_of_vrep {e : Env} {d : D} {v : Value} (hp : d.plain) (h : VRep e d v) : ∃ cs, Rep e d cs := ⟨_, VRep_cells hp h⟩
theorem skel_plain {d d' : D} (h : d.skel d') : d'.plain := by
  cases d <;> cases d' <;> first | trivial | exact h.elim

/-- a call that is handed a value to own: it may write over its blocks, and what it hands back may lie in them -/
def ACall (P : Program) (f : FuncId) (d : D) (rest : List D) (Q : Nat → Nat → D → Prop) : Prop :=
  Enters P f ∧ ∀ (w : World) (p : Nat → Prop) (vs : Array Value), vs.size = rest.length + 1 → (∀ b, p b → b < w.heap.size) → (∀ b, b ∈ d.tl → p b) →
    (∀ i x, (d :: rest)[i]? = some x → VRep ⟨fun _ => none, 1, p, w⟩ x (vs.getD i undef)) →
    Calls P f vs w fun en w' => ∃ v r p', en = .returned v ∧ Keep w (· ∈ d.tl) w' ∧ Q w.heap.size w'.heap.size r ∧ (∀ b, p' b → b < w'.heap.size) ∧ r.tags (fun b => b ∈ d.tl ∨ w.heap.size ≤ b) ∧ VRep ⟨fun _ => none, 1, p', w'⟩ r v

/-- what such a call leads to: what hangs on the blocks is gone -/
def AEff (P : Program) (W : Nat → Prop) (f m : Nat) (xs : List Operand) (dst : Option Tmp) (st : St) (K : St → Prop) : Prop :=
  ∃ d rest Q, m = 0 ∧ xs.map st.ev = d :: rest ∧ d.still ∧ (∀ x ∈ rest, x.still) ∧ (∀ b ∈ d.tl, W b) ∧ ACall P f d rest Q ∧
    ∀ n0 n1 r, st.n ≤ n0 → n0 ≤ n1 → (∀ t ∈ d.tl, t < n0) → Q n0 n1 r → ∃ (s' : Nat → D) (R' : Roots), (∀ t, Carry d .any (st.s t) (s' t)) ∧
      (∀ l, match R' l with | none => True | some (g, b, x') => x'.plain ∧ ∃ x, st.R l = some (g, b, x) ∧ Carry d .any x x') ∧
      K (({ N := st.N, n := n1, s := s', R := R' } : St).put dst r)

/-- what such a call leads to: slots and roots as they are behind it -/
def MEff (P : Program) (W : Nat → Prop) (f m : Nat) (xs : List Operand) (dst : Option Tmp) (st : St) (K : St → Prop) : Prop :=
  ∃ d rest v Qd, m = 0 ∧ xs.map st.ev = d :: rest ∧ d.still ∧ (∀ x ∈ rest, x.still) ∧ (∀ b ∈ d.tl, W b) ∧ MCall P f d rest v Qd ∧
    ∀ d' n1, st.n ≤ n1 → Qd d' → d.skel d' → ∃ (s' : Nat → D) (R' : Roots), (∀ t, Carry d d' (st.s t) (s' t)) ∧
      (∀ l, match R' l with | none => True | some (g, b, x') => x'.plain ∧ ∃ x, st.R l = some (g, b, x) ∧ Carry d d' x x') ∧
      K (({ N := st.N, n := n1, s := s', R := R' } : St).put dst (.lit v))

/-! ### a slice that is to be written becomes a root -/
/-- it does not hang on block t -/
def D.free (t : Nat) : D → Prop
  | .sl t' _ n _ f => t' ≠ t ∧ ∀ i, i < n → (f i).free t
  | .opq _ S _ => ¬ S t
  | .node k f => ∀ i, i < k.cnt → (f i).free t
  | .tup n f => ∀ i, i < n → (f i).free t
  | .fn _ n c => ∀ i, i < n → (c i).free t
  | .cptr _ => False
  | _ => True

/-- plain data -/
def D.dat : D → Prop
  | .sl _ _ n _ f => ∀ i, i < n → (f i).dat
  | .node k f => ∀ i, i < k.cnt → (f i).dat
  | .tup n f => ∀ i, i < n → (f i).dat
  | .lit _ => True
  | .nil => True
  | .any => True
  | _ => False
theorem free_of_tl {t : Nat} {d : D} : d.dat → t ∉ d.tl → d.free t := by
  induction d with
  | sl t' zb n sz f ih =>
    intro hd h
    simp only [D.tl, List.mem_cons, List.mem_flatMap, List.mem_range, not_or, not_exists, not_and] at h
    exact ⟨fun e => h.1 e.symm, fun i hi => ih i (hd i hi) fun hx => h.2 i hi hx⟩
  | node k f ih =>
    intro hd h i hi
    refine ih i (hd i hi) fun hx => h ?_
    simp only [D.tl, List.mem_flatMap, List.mem_range]; exact ⟨i, hi, hx⟩
  | tup n f ih =>
    intro hd h i hi
    refine ih i (hd i hi) fun hx => h ?_
    simp only [D.tl, List.mem_flatMap, List.mem_range]; exact ⟨i, hi, hx⟩
  | lit v => intro _ _; trivial
  | nil => intro _ _; trivial
  | any => intro _ _; trivial
  | _ => intro hd; exact hd.elim

inductive Thaw (t n sz : Nat) (f : Nat → D) (l g : Nat) : D → D → Prop
  | here : Thaw t n sz f l g (.sl t true n sz f) (.msl l g 0 [] 0 n sz)
  | free (x : D) : x.free t → Thaw t n sz f l g x x
  | drop (x : D) : Thaw t n sz f l g x .any
  | node (k : Kd) (h h' : Nat → D) : (∀ i, i < k.cnt → Thaw t n sz f l g (h i) (h' i)) → Thaw t n sz f l g (.node k h) (.node k h')
  | tup (m : Nat) (h h' : Nat → D) : (∀ i, i < m → Thaw t n sz f l g (h i) (h' i)) → Thaw t n sz f l g (.tup m h) (.tup m h')

inductive Has (x : D) : D → Prop
  | here : Has x x
  | node (k : Kd) (h : Nat → D) (i : Nat) : i < k.cnt → Has x (h i) → Has x (.node k h)
  | tup (m : Nat) (h : Nat → D) (i : Nat) : i < m → Has x (h i) → Has x (.tup m h)

def ThawK (W : Nat → Prop) (st : St) (K : St → Prop) : Prop :=
  ∃ t n sz f l, W t ∧ st.R l = none ∧ (∀ i, i < n → (f i).free t) ∧ (∃ j, Has (.sl t true n sz f) (st.s j)) ∧ ∀ g, ∃ (s' : Nat → D) (R' : Roots), (∀ j, Thaw t n sz f l g (st.s j) (s' j)) ∧
    (∀ l', R' l' = none ∨ (l' = l ∧ R' l' = some (g, t, .node (.arr n sz) f)) ∨ (l' ≠ l ∧ ∃ g0 b x x', st.R l' = some (g0, b, x) ∧ R' l' = some (g0, b, x') ∧ x'.plain ∧ Thaw t n sz f l g x x')) ∧
    K { N := st.N, n := st.n, s := s', R := R' }
def ConvN (W : Nat → Prop) (K : St → Prop) : Nat → St → Prop
  | 0, st => K st
  | m + 1, st => ThawK W st (ConvN W K m)
def Conv (W : Nat → Prop) (K : St → Prop) (st : St) : Prop := ∃ m, ConvN W K m st

structure Melt (t l : Nat) (e e' : Env) : Prop where
  w : e'.w = e.w
  P : ∀ b, e.P b → b ≠ t → e'.P b
  G : e'.G = e.G + 1
  R : ∀ l' g b x, e'.R l' = some (g, b, x) → g < e.G → ∃ x', e.R l' = some (g, b, x')

theorem rep_free {t l : Nat} {e e' : Env} (hm : Melt t l e e') {d : D} : ∀ {cs : List Value}, d.free t → Rep e d cs → Rep e' d cs := by
  induction d with
  | lit v => intro cs _ h; exact h
  | nil => intro cs _ h; exact h
  | any => intro cs _ h; exact h
  | tup n f => intro cs _ h; exact h.elim
  | cptr d => intro cs hf; exact hf.elim
  | opq v S φ =>
    intro cs hf h
    obtain ⟨h1, h2, h3, h4, h5⟩ := h
    exact ⟨h1, h2, fun b hb => hm.P _ (h3 b hb) (by rintro rfl; exact hf hb), by rw [hm.w]; exact h4, h5⟩
  | sl t' zb n sz f ih =>
    intro cs hf h
    obtain ⟨o, c, ps, h1, h2, h3, h4, h5, h6⟩ := h
    exact ⟨o, c, ps, h1, h2, hm.P _ h3 hf.1, fun i hi => ⟨(h4 i hi).1, ih i (hf.2 i hi) (h4 i hi).2⟩, by rw [hm.w]; exact h5, by rw [hm.w]; exact h6⟩
  | node k f ih =>
    intro cs hf h
    obtain ⟨ps, h1, h2⟩ := h
    exact ⟨ps, fun i hi => ⟨(h1 i hi).1, ih i (hf i hi) (h1 i hi).2⟩, h2⟩
  | ptr l' g o p =>
    intro cs _ h
    obtain ⟨hg, a, h1, h2⟩ := h
    refine ⟨by rw [hm.G]; omega, a, h1, fun b x hx => ?_⟩
    obtain ⟨x', hx'⟩ := hm.R _ _ _ _ hx hg
    exact h2 b x' hx'
  | msl l' g o p i n sz =>
    intro cs _ h
    obtain ⟨hg, a, c, h1, h2, h3⟩ := h
    refine ⟨by rw [hm.G]; omega, a, c, h1, h2, fun b x hx => ?_⟩
    obtain ⟨x', hx'⟩ := hm.R _ _ _ _ hx hg
    obtain ⟨q1, C, T, z, q2, q3⟩ := h3 b x' hx'
    exact ⟨q1, C, T, z, by rw [hm.w]; exact q2, q3⟩
  | fn f n c ih =>
    intro cs hf h
    obtain ⟨vs, h1, h2, h3⟩ := h
    exact ⟨vs, h1, h2, fun i hi => ⟨(h3 i hi).1, ih i (hf i hi) (h3 i hi).2⟩⟩

theorem vrep_free {t l : Nat} {e e' : Env} (hm : Melt t l e e') {d : D} : ∀ {v : Value}, d.free t → VRep e d v → VRep e' d v := by
  induction d with
  | node k f => intro v hf h; obtain ⟨cs, h1, h2⟩ := h; exact ⟨cs, h1, rep_free hm hf h2⟩
  | tup n f ih => intro v hf h; obtain ⟨vs, h1, h2, h3⟩ := h; exact ⟨vs, h1, h2, fun i hi => ih i (hf i hi) (h3 i hi)⟩
  | any => intro v _ h; trivial
  | cptr d => intro v hf; exact hf.elim
  | lit u => intro v hf h; exact rep_free (d := .lit u) hm hf h
  | nil => intro v hf h; exact rep_free (d := .nil) hm hf h
  | sl t zb n sz f => intro v hf h; exact rep_free (d := .sl t zb n sz f) hm hf h
  | opq u S φ => intro v hf h; exact rep_free (d := .opq u S φ) hm hf h
  | ptr l g o p => intro v hf h; exact rep_free (d := .ptr l g o p) hm hf h
  | msl l g o p i n sz => intro v hf h; exact rep_free (d := .msl l g o p i n sz) hm hf h
  | fn f n c => intro v hf h; exact rep_free (d := .fn f n c) hm hf h

theorem rep_thaw {t n sz l g : Nat} {f : Nat → D} {e e' : Env} (hm : Melt t l e e') (hg : g = e.G) (hl : ∀ b x, e'.R l = some (g, b, x) → b = t) {x x' : D} (ht : Thaw t n sz f l g x x') : ∀ {cs : List Value}, Rep e x cs → Rep e' x' cs := by
  induction ht with
  | here =>
    intro cs h
    obtain ⟨o, c, ps, h1, h2, h3, h4, h5, h6⟩ := h
    obtain ⟨rfl, C, T, h7, h8⟩ := h6 rfl
    refine ⟨by rw [hm.G, hg]; omega, _, c, h1, h2, fun b x hx => ?_⟩
    obtain rfl := hl b x hx
    exact ⟨rfl, C, T, _, by rw [hm.w]; exact h7, by omega⟩
  | free x hx => intro cs h; exact rep_free hm hx h
  | drop x => intro cs h; exact Rep_leaf h
  | node k h h' _ ih =>
    intro cs hr
    obtain ⟨ps, h1, h2⟩ := hr
    exact ⟨ps, fun i hi => ⟨(h1 i hi).1, ih i hi (h1 i hi).2⟩, h2⟩
  | tup m h h' _ _ => intro cs hr; exact hr.elim
theorem vrep_thaw {t n sz l g : Nat} {f : Nat → D} {e e' : Env} (hm : Melt t l e e') (hg : g = e.G) (hl : ∀ b x, e'.R l = some (g, b, x) → b = t) {x x' : D} (ht : Thaw t n sz f l g x x') : ∀ {v : Value}, VRep e x v → VRep e' x' v := by
  induction ht with
  | here => intro v h; exact rep_thaw hm hg hl (Thaw.here (f := f)) h
  | free x hx => intro v h; exact vrep_free hm hx h
  | drop x => intro v h; trivial
  | node k h h' hh _ => intro v hr; obtain ⟨cs, h1, h2⟩ := hr; exact ⟨cs, h1, rep_thaw hm hg hl (Thaw.node k h h' hh) h2⟩
  | tup m h h' _ ih =>
    intro v hr
    obtain ⟨vs, h1, h2, h3⟩ := hr
    exact ⟨vs, h1, h2, fun i hi => ih i hi (h3 i hi)⟩
theorem rep_has {e : Env} {x d : D} (h : Has x d) : ∀ {cs : List Value}, Rep e d cs → ∃ cs', Rep e x cs' := by
  induction h with
  | here => intro cs h; exact ⟨cs, h⟩
  | node k h i hi _ ih => intro cs hr; obtain ⟨ps, h1, h2⟩ := hr; exact ih (h1 i hi).2
  | tup m h i hi _ ih => intro cs hr; exact hr.elim
theorem vrep_has {e : Env} {x d : D} (hp : x.plain) (h : Has x d) : ∀ {v : Value}, VRep e d v → ∃ cs', Rep e x cs' := by
  induction h with
  | here => intro v h; exact ⟨_, VRep_cells hp h⟩
  | node k h i hi hh _ => intro v hr; obtain ⟨cs, _, h2⟩ := hr; exact rep_has (Has.node k h i hi hh) h2
  | tup m h i hi _ ih => intro v hr; obtain ⟨vs, h1, h2, h3⟩ := hr; exact ih (h3 i hi)

theorem SR.thaw {w0 : World} {M : Fr} {st : St} {a : Act} {w : World} {K : St → Prop} {W : Nat → Prop} (hW : ∀ b, W b → w0.heap.size ≤ b ∨ M.m b) (hs : SR w0 M st a w) (h : ThawK W st K) : Lift w0 M K a w := by
  obtain ⟨e, rfl, hg⟩ := hs
  obtain ⟨t, n, sz, f, l, hWt, hRl, hfr, ⟨j0, hhas⟩, h⟩ := h
  obtain ⟨s', R', hs', hR', hK⟩ := h e.G
  obtain ⟨cs, o, c, ps, h1, h2, h3, h4, h5, h6⟩ := vrep_has (x := .sl t true n sz f) trivial hhas (hg.slot j0)
  obtain ⟨rfl, C, T, h7, h8⟩ := h6 rfl
  have hsp : ∀ l' g b x, R' l' = some (g, b, x) → (l' = l ∧ g = e.G ∧ b = t ∧ x = .node (.arr n sz) f) ∨ (l' ≠ l ∧ x.plain ∧ ∃ x0, st.R l' = some (g, b, x0) ∧ Thaw t n sz f l e.G x0 x) := by
    intro l' g b x hl'
    rcases hR' l' with h | ⟨h, h'⟩ | ⟨h, g0, b0, x0, x', q1, q2, q3, q4⟩
    · rw [h] at hl'; cases hl'
    · rw [h'] at hl'
      simp only [Option.some.injEq, Prod.mk.injEq] at hl'
      exact .inl ⟨h, hl'.1.symm, hl'.2.1.symm, hl'.2.2.symm⟩
    · rw [q2] at hl'
      simp only [Option.some.injEq, Prod.mk.injEq] at hl'
      obtain ⟨rfl, rfl, rfl⟩ := hl'
      exact .inr ⟨h, q3, x0, q1, q4⟩
  have hm : Melt t l e ⟨R', e.G + 1, fun b => e.P b ∧ b ≠ t, e.w⟩ := by
    refine ⟨rfl, fun b hb hne => ⟨hb, hne⟩, rfl, fun l' g b x hx hgl => ?_⟩
    rcases hsp l' g b x hx with ⟨_, h, _⟩ | ⟨_, _, x0, h, _⟩
    · omega
    · exact ⟨x0, by rw [hg.R]; exact h⟩
  have hl : ∀ b x, R' l = some (e.G, b, x) → b = t := by
    intro b x hx
    rcases hsp _ _ _ _ hx with ⟨_, _, h, _⟩ | ⟨h, _⟩
    · exact h
    · exact absurd rfl h
  have hnt : ∀ l' g b x, st.R l' = some (g, b, x) → b ≠ t := by
    rintro l' g b x hx rfl
    exact (hg.envroot hx).np h3
  refine ⟨_, hK, ⟨R', e.G + 1, fun b => e.P b ∧ b ≠ t, e.w⟩, rfl, rfl, hg.N, hg.df, fun j => vrep_thaw hm rfl hl (hs' j) (hg.slot j), ?_, ?_, ?_, fun b hb => hg.P b hb.1, hg.keep, hg.n, fun b hb => hg.per b hb.1⟩
  · intro l' g b x hx
    rcases hsp _ _ _ _ hx with ⟨rfl, rfl, rfl, rfl⟩ | ⟨hne, hxp, x0, q1, q2⟩
    · refine ⟨Nat.lt_succ_self _, fun hp => hp.2 rfl, trivial, C, T, flat n ps, h7, ⟨ps, fun i hi => ⟨(h4 i hi).1, rep_free hm (hfr i hi) (h4 i hi).2⟩, rfl⟩, fun j v hj => ?_⟩
      obtain ⟨C1, T1, z1, r1, r2⟩ := h5
      rw [h7] at r1
      simp only [Option.some.injEq, Obj.cells.injEq] at r1
      obtain ⟨rfl, _⟩ := r1
      simpa using r2 j v hj
    · obtain ⟨hgg, hro⟩ := hg.root _ _ _ _ q1
      obtain ⟨C1, T1, cs1, r1, r2, r3⟩ := hro.row
      exact ⟨Nat.lt_succ_of_lt hgg, fun hp => hro.np hp.1, hxp, C1, T1, cs1, r1, rep_thaw hm rfl hl q2 r2, r3⟩
  · intro l' g b x hx
    rcases hsp _ _ _ _ hx with ⟨rfl, rfl, rfl, rfl⟩ | ⟨hne, hxp, x0, q1, q2⟩
    · exact hW _ hWt
    · exact hg.own _ _ _ _ q1
  · intro l1 l2 g1 g2 b x1 x2 hx1 hx2
    rcases hsp _ _ _ _ hx1 with ⟨k1, k2, k3, k4⟩ | ⟨hne, hxp, x0, q1, q2⟩ <;> rcases hsp _ _ _ _ hx2 with ⟨k1', k2', k3', k4'⟩ | ⟨hne', hxp', x0', q1', q2'⟩
    · rw [k1, k1']
    · exact absurd k3 (hnt _ _ _ _ q1')
    · exact absurd k3' (hnt _ _ _ _ q1)
    · exact hg.inj _ _ _ _ _ _ _ q1 q1'

theorem SR.conv {w0 : World} {M : Fr} {a : Act} {w : World} {K : St → Prop} {W : Nat → Prop} (hW : ∀ b, W b → w0.heap.size ≤ b ∨ M.m b) : ∀ (m : Nat) (st : St), SR w0 M st a w → ConvN W K m st → Lift w0 M K a w
  | 0, st, hs, h => ⟨st, h, hs⟩
  | m + 1, st, hs, h => by
    obtain ⟨st', h1, h2⟩ := hs.thaw hW h
    exact SR.conv hW m st' h2 h1

section ops
variable {P : Program} {w0 : World} {M : Fr} {st : St} {e : Env} {a : Act} {K : St → Prop} {Q : Exit → Act → World → Prop}
variable {dst : Option Tmp} {ty : TypeId} {pos : String} {after : Array Edge} {gd : Option (Nat × Bool)}

theorem still_rl {F : Relab} {l : List D} (h : ∀ x ∈ l, x.still) : l.map (rl 9 F) = l := by
  induction l with
  | nil => rfl
  | cons x l ih => rw [List.map_cons, ih (fun y hy => h y (by simp [hy])), rl_still (h x (by simp))]

theorem op_mcall (h : Good w0 M st e a) (fx : Operand) (xs : Array Operand) (ts : Array TypeId) {fid n : Nat} {c : Nat → D} (hf : st.ev fx = .fn fid n c) (hd : st.dstOk dst)
    {W : Nat → Prop} (hW : ∀ b, W b → w0.heap.size ≤ b ∨ M.m b) (hc : MEff P W fid n xs.toList dst st K) :
    (Oper.mk dst (.call { callee := .value fx, args := xs, argTypes := ts }) ty pos after gd).wp P a e.w (Lift w0 M K) Q := by
  obtain ⟨d, rest, v, Qd, rfl, hxs, hst, hrest, hWd, ⟨hent, hlv, hcalls⟩, hK⟩ := hc
  have ok : RelabOk e ⟨fun _ => none, 1, e.P, e.w⟩ (fun _ _ => .gone) := ⟨rfl, fun _ h => h, fun l g l' g' hF => (by cases hF), fun l g b d hF => (by cases hF)⟩
  obtain ⟨vs, hrun, hsz, hargs⟩ := enter_rl (P := P) (dst := dst) (ty := ty) (pos := pos) (after := after) (gd := gd) h fx xs ts hf hent ok
  have hstill : ∀ x ∈ d :: rest, x.still := by
    intro x hx
    rcases List.mem_cons.1 hx with rfl | hx
    · exact hst
    · exact hrest x hx
  have hl : (xs.toList.map fun x => rl 9 (fun _ _ => Lab.gone) (st.ev x)) ++ (List.range 0).map (fun i => rl 9 (fun _ _ => Lab.gone) (c i)) = d :: rest := by
    rw [List.range_zero, List.map_nil, List.append_nil]
    have : (xs.toList.map fun x => rl 9 (fun _ _ => Lab.gone) (st.ev x)) = (xs.toList.map st.ev).map (rl 9 fun _ _ => Lab.gone) := by rw [List.map_map]; rfl
    rw [this, hxs, still_rl hstill]
  rw [hl] at hsz hargs
  have h0 : VRep ⟨fun _ => none, 1, e.P, e.w⟩ d (vs.getD 0 undef) := hargs 0 d rfl
  unfold Oper.wp
  rw [hrun, Oper.upon_enter]
  refine (hcalls e.w e.P vs (by simpa using hsz) h.P (fun b hb => VRep_tl h0 b hb) hargs).mono ?_
  rintro en w' ⟨rfl, hk, d', p', u, hQ, hsk, htg, hu⟩
  obtain ⟨s', R', hs, hR, hKK⟩ := hK d' w'.heap.size (Nat.le_trans h.n hk.size) hQ hsk
  let e2 : Env := ⟨R', e.G, e.P, w'⟩
  have hRsub : ∀ l g b x', R' l = some (g, b, x') → x'.plain ∧ ∃ x, st.R l = some (g, b, x) ∧ Carry d d' x x' := by
    intro l g b x' hl
    have := hR l
    rw [hl] at this
    exact this
  have hown : ∀ l g b x, e.R l = some (g, b, x) → ¬ b ∈ d.tl := by
    intro l g b x hl hb
    rw [h.R] at hl
    exact (h.envroot hl).np (VRep_tl h0 b hb)
  have hp : Past (· ∈ d.tl) e e2 := ⟨fun _ h => h, h.P, hk, Nat.le_refl _, fun l g b x hl => by
    obtain ⟨_, x', h1, _⟩ := hRsub l g b x hl
    exact ⟨x', by rw [h.R]; exact h1⟩, hown⟩
  have hpl : d'.plain := skel_plain hsk
  have hu2 : VRep ⟨fun _ => none, 0, e.P, w'⟩ d' u := VRep_tags (fun b hb _ => VRep_tl h0 b hb) htg hu
  have hle0 : Env.le ⟨fun _ => none, 0, e.P, w'⟩ e2 := ⟨Nat.zero_le _, fun b hb => hb, fun _ _ => rfl, fun l g b d hg' => absurd hg' (Nat.not_lt_zero _), fun l g b d hg' => absurd hg' (Nat.not_lt_zero _)⟩
  obtain ⟨us, hus⟩ := rep_any_of_vrep hpl (VRep_le hle0 hu2)
  have hh : ∀ cs, Rep e d cs → Rep e2 d' cs := fun cs hcs => skel_rep hk.cell hcs hus hsk
  have hW' : ∀ b, b ∈ d.tl → w0.heap.size ≤ b ∨ M.m b := fun b hb => hW b (hWd b hb)
  refine ⟨_, hKK, e2, rfl, Good.put (st := { N := st.N, n := w'.heap.size, s := s', R := R' }) ?_ (by simpa [St.dstOk] using hd) ⟨hlv, rfl⟩⟩
  refine ⟨rfl, h.N, h.df, fun t => vrep_carry hp hsk hh (hs t) (h.slot t), ?_, ?_, ?_, fun b hb => Nat.lt_of_lt_of_le (h.P b hb) hk.size, h.keep.trans' hk hW', Nat.le_refl _, h.per⟩
  · intro l g b x' hl
    obtain ⟨hxp, x, h1, h2⟩ := hRsub l g b x' hl
    obtain ⟨hg, hro⟩ := h.root _ _ _ _ h1
    obtain ⟨C, T, cs, r1, r2, r3⟩ := hro.row
    have hb := hk.block b (lt_of_block r1) (hown l g b x (by rw [h.R]; exact h1))
    exact ⟨hg, hro.np, hxp, C, T, cs, hb.trans r1, rep_carry hp hh h2 r2, r3⟩
  · intro l g b x' hl
    obtain ⟨_, x, h1, _⟩ := hRsub l g b x' hl
    exact h.own _ _ _ _ h1
  · intro l l' g g' b x x' hl hl'
    obtain ⟨_, y, h1, _⟩ := hRsub _ _ _ _ hl
    obtain ⟨_, y', h2, _⟩ := hRsub _ _ _ _ hl'
    exact h.inj _ _ _ _ _ _ _ h1 h2

theorem vrep_carry_any {d : D} {e e' : Env} (hp : Past (· ∈ d.tl) e e') {x x' : D} (hc : Carry d .any x x') {v : Value} (h : VRep e x v) : VRep e' x' v := by
  have hh : ∀ cs, Rep e d cs → Rep e' .any cs := fun cs hcs => Rep_leaf hcs
  cases hc with
  | here => trivial
  | apart x hx => exact vrep_apart hp hx h
  | drop x => trivial
  | ptr l g o p => exact rep_carry hp hh (Carry.ptr l g o p) h
  | msl l g o p i n sz => exact rep_carry hp hh (Carry.msl l g o p i n sz) h
  | node k f f' hf => obtain ⟨cs, h1, h2⟩ := h; exact ⟨cs, h1, rep_carry hp hh (Carry.node k f f' hf) h2⟩
  | sl t zb n sz f f' ht hf => exact rep_carry hp hh (Carry.sl t zb n sz f f' ht hf) h

theorem op_acall (h : Good w0 M st e a) (fx : Operand) (xs : Array Operand) (ts : Array TypeId) {fid n : Nat} {c : Nat → D} (hf : st.ev fx = .fn fid n c) (hd : st.dstOk dst)
    {W : Nat → Prop} (hW : ∀ b, W b → w0.heap.size ≤ b ∨ M.m b) (hc : AEff P W fid n xs.toList dst st K) :
    (Oper.mk dst (.call { callee := .value fx, args := xs, argTypes := ts }) ty pos after gd).wp P a e.w (Lift w0 M K) Q := by
  obtain ⟨d, rest, Qr, rfl, hxs, hst, hrest, hWd, ⟨hent, hcalls⟩, hK⟩ := hc
  have ok : RelabOk e ⟨fun _ => none, 1, e.P, e.w⟩ (fun _ _ => .gone) := ⟨rfl, fun _ h => h, fun l g l' g' hF => (by cases hF), fun l g b d hF => (by cases hF)⟩
  obtain ⟨vs, hrun, hsz, hargs⟩ := enter_rl (P := P) (dst := dst) (ty := ty) (pos := pos) (after := after) (gd := gd) h fx xs ts hf hent ok
  have hstill : ∀ x ∈ d :: rest, x.still := by
    intro x hx
    rcases List.mem_cons.1 hx with rfl | hx
    · exact hst
    · exact hrest x hx
  have hl : (xs.toList.map fun x => rl 9 (fun _ _ => Lab.gone) (st.ev x)) ++ (List.range 0).map (fun i => rl 9 (fun _ _ => Lab.gone) (c i)) = d :: rest := by
    rw [List.range_zero, List.map_nil, List.append_nil]
    have : (xs.toList.map fun x => rl 9 (fun _ _ => Lab.gone) (st.ev x)) = (xs.toList.map st.ev).map (rl 9 fun _ _ => Lab.gone) := by rw [List.map_map]; rfl
    rw [this, hxs, still_rl hstill]
  rw [hl] at hsz hargs
  have h0 : VRep ⟨fun _ => none, 1, e.P, e.w⟩ d (vs.getD 0 undef) := hargs 0 d rfl
  unfold Oper.wp
  rw [hrun, Oper.upon_enter]
  refine (hcalls e.w e.P vs (by simpa using hsz) h.P (fun b hb => VRep_tl h0 b hb) hargs).mono ?_
  rintro en w' ⟨v, r, p', rfl, hk, hQ, hp', htg, hr⟩
  obtain ⟨s', R', hs, hR, hKK⟩ := hK e.w.heap.size w'.heap.size r h.n hk.size (fun t ht => h.P t (VRep_tl h0 t ht)) hQ
  let e2 : Env := ⟨R', e.G, fun b => e.P b ∨ (e.w.heap.size ≤ b ∧ b < w'.heap.size), w'⟩
  have hRsub : ∀ l g b x', R' l = some (g, b, x') → x'.plain ∧ ∃ x, st.R l = some (g, b, x) ∧ Carry d .any x x' := by
    intro l g b x' hl
    have := hR l
    rw [hl] at this
    exact this
  have hown : ∀ l g b x, e.R l = some (g, b, x) → ¬ b ∈ d.tl := by
    intro l g b x hl hb
    rw [h.R] at hl
    exact (h.envroot hl).np (VRep_tl h0 b hb)
  have hp : Past (· ∈ d.tl) e e2 := ⟨fun _ h => .inl h, h.P, hk, Nat.le_refl _, fun l g b x hl => by
    obtain ⟨_, x', h1, _⟩ := hRsub l g b x hl
    exact ⟨x', by rw [h.R]; exact h1⟩, hown⟩
  have hh : ∀ cs, Rep e d cs → Rep e2 .any cs := fun cs hcs => Rep_leaf hcs
  have hW' : ∀ b, b ∈ d.tl → w0.heap.size ≤ b ∨ M.m b := fun b hb => hW b (hWd b hb)
  have hr2 : VRep ⟨fun _ => none, 0, e2.P, w'⟩ r v := VRep_tags (P' := e2.P) (fun b hb hP => hb.elim (fun h' => Or.inl (VRep_tl h0 b h')) fun h' => Or.inr ⟨h', hp' b hP⟩) htg hr
  have hle0 : Env.le ⟨fun _ => none, 0, e2.P, w'⟩ e2 := ⟨Nat.zero_le _, fun b hb => hb, fun _ _ => rfl, fun l g b d hg' => absurd hg' (Nat.not_lt_zero _), fun l g b d hg' => absurd hg' (Nat.not_lt_zero _)⟩
  refine ⟨_, hKK, e2, rfl, Good.put (st := { N := st.N, n := w'.heap.size, s := s', R := R' }) ?_ (by simpa [St.dstOk] using hd) (VRep_le hle0 hr2)⟩
  refine ⟨rfl, h.N, h.df, fun t => vrep_carry_any hp (hs t) (h.slot t), ?_, ?_, ?_, ?_, h.keep.trans' hk hW', Nat.le_refl _, ?_⟩
  · intro l g b x' hl
    obtain ⟨hxp, x, h1, h2⟩ := hRsub l g b x' hl
    obtain ⟨hg, hro⟩ := h.root _ _ _ _ h1
    obtain ⟨C, T, cs, r1, r2, r3⟩ := hro.row
    have hlt := lt_of_block r1
    have hb := hk.block b hlt (hown l g b x (by rw [h.R]; exact h1))
    refine ⟨hg, ?_, hxp, C, T, cs, hb.trans r1, rep_carry hp hh h2 r2, r3⟩
    rintro (hP | hP)
    · exact hro.np hP
    · omega
  · intro l g b x' hl
    obtain ⟨_, x, h1, _⟩ := hRsub l g b x' hl
    exact h.own _ _ _ _ h1
  · intro l l' g g' b x x' hl hl'
    obtain ⟨_, y, h1, _⟩ := hRsub _ _ _ _ hl
    obtain ⟨_, y', h2, _⟩ := hRsub _ _ _ _ hl'
    exact h.inj _ _ _ _ _ _ _ h1 h2
  · rintro b (hb | hb)
    · exact Nat.lt_of_lt_of_le (h.P b hb) hk.size
    · exact hb.2
  · rintro b (hb | hb)
    · exact h.per b hb
    · exact .inl (Nat.le_trans h.keep.size hb.1)

end ops
end Go.Proofs.Ytjaddgkhlmallaa.IM
