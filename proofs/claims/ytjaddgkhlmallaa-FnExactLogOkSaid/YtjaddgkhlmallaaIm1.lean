/- The abstract values of a Go run, and what it means that cells of a world stand for them. Plain definitions and laws; nothing of a program is in it. -/
import Derived.Calls
import Derived.Orders
import Derived.Tactics
import Derived.Below
namespace Go.Proofs.Ytjaddgkhlmallaa.IM
open Go Go.RowKit

/-- the shape of a node: a struct with its fields' sizes, or a row of n of one size -/
inductive Kd where
  | agg (lay : List Nat)
  | arr (n sz : Nat)

def Kd.cnt : Kd → Nat | .agg lay => lay.length | .arr n _ => n
def Kd.sz : Kd → Nat → Nat | .agg lay, i => lay.getD i 0 | .arr _ sz, _ => sz
def Kd.off : Kd → Nat → Nat | .agg lay, i => (lay.take i).sum | .arr _ sz, i => i * sz
def Kd.all : Kd → Nat | .agg lay => lay.sum | .arr n sz => n * sz

@[simp] theorem Kd.off_zero (k : Kd) : k.off 0 = 0 := by cases k <;> simp [Kd.off]
theorem Kd.off_succ (k : Kd) (i : Nat) (h : i < k.cnt) : k.off (i + 1) = k.off i + k.sz i := by
  cases k with
  | agg lay =>
    simp only [Kd.off, Kd.sz, Kd.cnt] at *
    rw [List.take_succ_eq_append_getElem h, List.sum_append, List.getD_eq_getElem?_getD, List.getElem?_eq_getElem h]
    simp
  | arr n sz => simp only [Kd.off, Kd.sz]; rw [Nat.add_mul]; simp
theorem Kd.off_cnt (k : Kd) : k.off k.cnt = k.all := by
  cases k with
  | agg lay => simp [Kd.off, Kd.cnt, Kd.all]
  | arr n sz => simp [Kd.off, Kd.cnt, Kd.all]
theorem Kd.off_le (k : Kd) : ∀ (j i : Nat), i ≤ j → j ≤ k.cnt → k.off i ≤ k.off j := by
  intro j
  induction j with
  | zero => intro i h _; rw [Nat.le_zero.1 h]; exact Nat.le_refl _
  | succ j ih =>
    intro i h hj
    rcases Nat.lt_or_ge i (j + 1) with h' | h'
    · rw [Kd.off_succ k j (by omega)]
      exact Nat.le_trans (ih i (by omega) (by omega)) (Nat.le_add_right _ _)
    · rw [show i = j + 1 by omega]; exact Nat.le_refl _

/-- an abstract value -/
inductive D where
  | lit (v : Value)
  | nil
  | sl (t : Nat) (zb : Bool) (n sz : Nat) (f : Nat → D)
  | node (k : Kd) (f : Nat → D)
  | ptr (l g o : Nat) (p : List Nat)
  | cptr (d : D)
  | msl (l g o : Nat) (p : List Nat) (i n sz : Nat)
  | fn (f : FuncId) (n : Nat) (c : Nat → D)
  | tup (n : Nat) (f : Nat → D)
  | opq (v : Value) (S : Nat → Prop) (φ : World → Prop)
  | any

def D.size : D → Nat
  | .node k _ => k.all
  | .tup _ _ => 0
  | .any => 0
  | _ => 1
def D.kd : D → Kd
  | .node k _ => k
  | _ => .agg []
def D.chd : D → Nat → D
  | .node _ f, i => f i
  | _, _ => .any
def D.get : D → List Nat → D
  | d, [] => d
  | d, i :: p => (d.chd i).get p
def D.offOf : D → List Nat → Nat
  | _, [] => 0
  | d, i :: p => d.kd.off i + (d.chd i).offOf p
def D.inb : D → List Nat → Prop
  | _, [] => True
  | d, i :: p => i < d.kd.cnt ∧ (d.chd i).inb p
def D.set : D → List Nat → D → D
  | _, [], v => v
  | d, i :: p, v => .node d.kd fun j => if j = i then (d.chd i).set p v else d.chd j

def D.isNode : D → Option Bool
  | .node _ _ => some true
  | .tup _ _ => none
  | .any => none
  | _ => some false

/-- what stands in one cell -/
def Leaf : Value → Prop
  | .agg _ => False
  | .tuple _ => False
  | _ => True
theorem Leaf.cells {v : Value} (h : Leaf v) : v.cells = #[v] := by cases v <;> first | rfl | exact h.elim

/-- the roots: label ↦ (stamp, block, content) -/
abbrev Roots := Nat → Option (Nat × Nat × D)

structure Env where
  R : Roots
  G : Nat
  P : Nat → Prop
  w : World

/-- the cells from offset o of block b are these -/
def At (w : World) (b o : Nat) (cs : List Value) : Prop :=
  ∃ C T z, w.heap[b]? = some (.cells C T z) ∧ ∀ j v, cs[j]? = some v → C[o + j]? = some v

/-- a slice that begins with its block, which can be written -/
def Whole (w : World) (t o c sz : Nat) : Prop := o = 0 ∧ ∃ C T, w.heap[t]? = some (.cells C T (0, 0)) ∧ c * sz ≤ C.size

def flat (n : Nat) (ps : Nat → List Value) : List Value := (List.range n).flatMap ps

@[simp] theorem flat_zero (ps : Nat → List Value) : flat 0 ps = [] := rfl
theorem flat_succ (n : Nat) (ps : Nat → List Value) : flat (n + 1) ps = flat n ps ++ ps n := by
  simp [flat, List.range_succ]
theorem flat_congr {n : Nat} {ps qs : Nat → List Value} (h : ∀ i, i < n → ps i = qs i) : flat n ps = flat n qs := by
  induction n with
  | zero => rfl
  | succ n ih => rw [flat_succ, flat_succ, ih (fun i hi => h i (by omega)), h n (by omega)]
theorem flat_length (k : Kd) (ps : Nat → List Value) : ∀ n, n ≤ k.cnt → (∀ i, i < n → (ps i).length = k.sz i) → (flat n ps).length = k.off n := by
  intro n
  induction n with
  | zero => intro _ _; simp
  | succ n ih =>
    intro hn h
    rw [flat_succ, List.length_append, ih (by omega) (fun i hi => h i (by omega)), h n (by omega), Kd.off_succ k n (by omega)]
theorem flat_get (k : Kd) (ps : Nat → List Value) : ∀ n, n ≤ k.cnt → (∀ i, i < n → (ps i).length = k.sz i) → ∀ i, i < n → ∀ j, j < k.sz i → (flat n ps)[k.off i + j]? = (ps i)[j]? := by
  intro n
  induction n with
  | zero => intro _ _ i hi; omega
  | succ n ih =>
    intro hn h i hi j hj
    have hl := flat_length k ps n (by omega) (fun i hi => h i (by omega))
    rw [flat_succ]
    rcases Nat.lt_or_ge i n with h1 | h1
    · rw [List.getElem?_append_left]
      · exact ih (by omega) (fun i hi => h i (by omega)) i h1 j hj
      · rw [hl]
        have := Kd.off_le k n (i + 1) (by omega) (by omega)
        rw [Kd.off_succ k i (by omega)] at this
        omega
    · have : i = n := by omega
      subst this
      rw [List.getElem?_append_right (by omega), hl]
      congr 1
      omega

/-- the cells stand for the abstract value -/
def Rep (e : Env) : D → List Value → Prop
  | .lit v, cs => Leaf v ∧ cs = [v]
  | .nil, cs => ∃ a, cs = [.slice a 0 0]
  | .sl t zb n sz f, cs => ∃ o c ps, cs = [.slice (some ⟨t, o, none⟩) n c] ∧ n ≤ c ∧ e.P t ∧ (∀ i, i < n → (ps i).length = sz ∧ Rep e (f i) (ps i)) ∧ At e.w t o (flat n ps) ∧ (zb = true → Whole e.w t o c sz)
  | .node k f, cs => ∃ ps, (∀ i, i < k.cnt → (ps i).length = k.sz i ∧ Rep e (f i) (ps i)) ∧ cs = flat k.cnt ps
  | .ptr l g o _, cs => g < e.G ∧ ∃ a, cs = [.pointer (some a)] ∧ ∀ b d, e.R l = some (g, b, d) → a = ⟨b, o, none⟩
  | .cptr d, cs => ∃ b o ds, cs = [.pointer (some ⟨b, o, none⟩)] ∧ e.P b ∧ Rep e d ds ∧ At e.w b o ds
  | .msl l g o _ _ n sz, cs => g < e.G ∧ ∃ a c, cs = [.slice (some a) n c] ∧ n ≤ c ∧ ∀ b d, e.R l = some (g, b, d) → a = ⟨b, o, none⟩ ∧ ∃ C T z, e.w.heap[b]? = some (.cells C T z) ∧ o + c * sz ≤ C.size
  | .fn f n c, cs => ∃ vs : Array Value, cs = [.func (.func f) #[] vs] ∧ vs.size = n ∧ ∀ i, i < n → (c i).isNode ≠ some true ∧ Rep e (c i) [vs.getD i undef]
  | .tup _ _, _ => False
  | .opq v S φ, cs => Leaf v ∧ cs = [v] ∧ (∀ b, S b → e.P b) ∧ φ e.w ∧ ∀ w w' : World, (∀ b, S b → w'.heap[b]? = w.heap[b]?) → φ w → φ w'
  | .any, cs => ∀ v ∈ cs, Leaf v

def VRep (e : Env) : D → Value → Prop
  | .node k f, v => ∃ cs, v = .agg cs ∧ Rep e (.node k f) cs.toList
  | .tup n f, v => ∃ vs, v = .tuple vs ∧ vs.size = n ∧ ∀ i, i < n → VRep e (f i) (vs.getD i undef)
  | .any, _ => True
  | .lit u, v => Rep e (.lit u) [v]
  | .nil, v => Rep e .nil [v]
  | .sl t zb n sz f, v => Rep e (.sl t zb n sz f) [v]
  | .opq u S φ, v => Rep e (.opq u S φ) [v]
  | .ptr l g o p, v => Rep e (.ptr l g o p) [v]
  | .cptr d, v => Rep e (.cptr d) [v]
  | .msl l g o p i n sz, v => Rep e (.msl l g o p i n sz) [v]
  | .fn f n c, v => Rep e (.fn f n c) [v]

/-- a value that a place can hold -/
def D.plain : D → Prop
  | .tup _ _ => False
  | .any => False
  | _ => True

theorem Rep_length {e : Env} {d : D} {cs : List Value} (hp : d.plain) (h : Rep e d cs) : cs.length = d.size := by
  cases d with
  | lit v => simp [Rep] at h; simp [h.2, D.size]
  | nil => obtain ⟨a, rfl⟩ := h; rfl
  | sl t zb n sz f => obtain ⟨o, c, ps, rfl, _⟩ := h; rfl
  | opq v S φ => obtain ⟨_, rfl, _⟩ := h; rfl
  | node k f =>
    obtain ⟨ps, h1, rfl⟩ := h
    rw [flat_length k ps k.cnt (Nat.le_refl _) (fun i hi => (h1 i hi).1), Kd.off_cnt]; rfl
  | ptr l g o p => obtain ⟨_, a, rfl, _⟩ := h; rfl
  | cptr d => obtain ⟨b, o, ds, rfl, _⟩ := h; rfl
  | msl l g o p i n sz => obtain ⟨_, a, c, rfl, _⟩ := h; rfl
  | fn f n c => obtain ⟨vs, rfl, _⟩ := h; rfl
  | tup n f => exact hp.elim
  | any => exact hp.elim

theorem VRep_cells {e : Env} {d : D} {v : Value} (hp : d.plain) (h : VRep e d v) : Rep e d v.cells.toList := by
  cases d with
  | node k f => obtain ⟨cs, rfl, h⟩ := h; exact h
  | tup n f => exact hp.elim
  | any => exact hp.elim
  | lit u => have h' := h; simp [VRep, Rep] at h; obtain ⟨hl, rfl⟩ := h; rw [Leaf.cells hl]; exact h'
  | nil => have h' := h; obtain ⟨a, ha⟩ := h; obtain rfl : v = _ := by simpa using ha
           exact h'
  | opq u S φ =>
    have h' := h
    obtain ⟨hl, ha, _⟩ := h
    obtain rfl : v = _ := by simpa using ha
    rw [Leaf.cells hl]; exact h'
  | sl t zb n sz f =>
    have h' := h
    obtain ⟨o, c, ps, ha, _⟩ := h
    obtain rfl : v = _ := by simpa using ha
    exact h'
  | ptr l g o p => have h' := h; obtain ⟨_, a, ha, _⟩ := h; obtain rfl : v = _ := by simpa using ha
                   exact h'
  | cptr d => have h' := h; obtain ⟨b, o, ds, ha, _⟩ := h; obtain rfl : v = _ := by simpa using ha
              exact h'
  | msl l g o p i n sz => have h' := h; obtain ⟨_, a, c, ha, _⟩ := h; obtain rfl : v = _ := by simpa using ha
                          exact h'
  | fn f n c => have h' := h; obtain ⟨vs, ha, _⟩ := h; obtain rfl : v = _ := by simpa using ha
                exact h'

theorem flat_mem {n : Nat} {ps : Nat → List Value} {v : Value} (h : v ∈ flat n ps) : ∃ i, i < n ∧ v ∈ ps i := by
  simp only [flat, List.mem_flatMap, List.mem_range] at h
  exact h

theorem Rep_leaf {e : Env} {d : D} : ∀ {cs : List Value}, Rep e d cs → ∀ v ∈ cs, Leaf v := by
  induction d with
  | lit v => intro cs h u hu; obtain ⟨h1, rfl⟩ := h; simp at hu; exact hu ▸ h1
  | nil => intro cs h u hu; obtain ⟨a, rfl⟩ := h; simp at hu; subst hu; trivial
  | opq v S φ => intro cs h u hu; obtain ⟨h1, rfl, _⟩ := h; simp at hu; exact hu ▸ h1
  | sl t zb n sz f => intro cs h u hu; obtain ⟨o, c, ps, rfl, _⟩ := h; simp at hu; subst hu; trivial
  | node k f ih =>
    intro cs h u hu
    obtain ⟨ps, h1, rfl⟩ := h
    obtain ⟨i, hi, hm⟩ := flat_mem hu
    exact ih i (h1 i hi).2 u hm
  | ptr l g o p => intro cs h u hu; obtain ⟨_, a, rfl, _⟩ := h; simp at hu; subst hu; trivial
  | cptr d => intro cs h u hu; obtain ⟨b, o, ds, rfl, _⟩ := h; simp at hu; subst hu; trivial
  | msl l g o p i n sz => intro cs h u hu; obtain ⟨_, a, c, rfl, _⟩ := h; simp at hu; subst hu; trivial
  | fn f n c => intro cs h u hu; obtain ⟨vs, rfl, _⟩ := h; simp at hu; subst hu; trivial
  | tup n f => intro cs h; exact h.elim
  | any => intro cs h; exact h

/-- one who knows e' knows all that e told -/
structure Env.le (e e' : Env) : Prop where
  G : e.G ≤ e'.G
  P : ∀ b, e.P b → e'.P b
  at_ : ∀ b, e.P b → e'.w.heap[b]? = e.w.heap[b]?
  R : ∀ l g b d, g < e.G → e'.R l = some (g, b, d) → ∃ d', e.R l = some (g, b, d')
  size : ∀ (l g b : Nat) (d : D), g < e.G → e'.R l = some (g, b, d) → ∀ (C : Array Value) T z, e.w.heap[b]? = some (Obj.cells C T z) → ∃ (C' : Array Value) (z' : Nat × Nat), e'.w.heap[b]? = some (Obj.cells C' T z') ∧ C'.size = C.size

theorem Env.le.refl (e : Env) : e.le e := ⟨Nat.le_refl _, fun _ h => h, fun _ _ => rfl, fun _ _ _ d _ h => ⟨d, h⟩, fun _ _ _ _ _ _ C _ z h => ⟨C, z, h, rfl⟩⟩

theorem At.of_block {w w' : World} {b o : Nat} {cs : List Value} (h : At w b o cs) (hb : w'.heap[b]? = w.heap[b]?) : At w' b o cs := by
  obtain ⟨C, T, z, h1, h2⟩ := h
  exact ⟨C, T, z, hb.trans h1, h2⟩

theorem Whole.of_block {w w' : World} {t o c sz : Nat} (h : Whole w t o c sz) (hb : w'.heap[t]? = w.heap[t]?) : Whole w' t o c sz := by
  obtain ⟨h1, C, T, h2, h3⟩ := h
  exact ⟨h1, C, T, hb.trans h2, h3⟩

theorem Rep_le {e e' : Env} (hle : e.le e') {d : D} : ∀ {cs : List Value}, Rep e d cs → Rep e' d cs := by
  induction d with
  | lit v => intro cs h; exact h
  | nil => intro cs h; exact h
  | sl t zb n sz f ih =>
    intro cs h
    obtain ⟨o, c, ps, h1, h2, h3, h4, h5, h6⟩ := h
    exact ⟨o, c, ps, h1, h2, hle.P _ h3, fun i hi => ⟨(h4 i hi).1, ih i (h4 i hi).2⟩, h5.of_block (hle.at_ _ h3), fun hz => (h6 hz).of_block (hle.at_ _ h3)⟩
  | opq v S φ =>
    intro cs h
    obtain ⟨h1, h2, h3, h4, h5⟩ := h
    exact ⟨h1, h2, fun b hb => hle.P _ (h3 b hb), h5 _ _ (fun b hb => hle.at_ _ (h3 b hb)) h4, h5⟩
  | node k f ih =>
    intro cs h
    obtain ⟨ps, h1, h2⟩ := h
    exact ⟨ps, fun i hi => ⟨(h1 i hi).1, ih i (h1 i hi).2⟩, h2⟩
  | ptr l g o p =>
    intro cs h
    obtain ⟨hg, a, h1, h2⟩ := h
    refine ⟨Nat.lt_of_lt_of_le hg hle.G, a, h1, fun b d hd => ?_⟩
    obtain ⟨d', hd'⟩ := hle.R _ _ _ _ hg hd
    exact h2 b d' hd'
  | cptr d ih =>
    intro cs h
    obtain ⟨b, o, ds, h1, h2, h3, h4⟩ := h
    exact ⟨b, o, ds, h1, hle.P _ h2, ih h3, h4.of_block (hle.at_ _ h2)⟩
  | msl l g o p i n sz =>
    intro cs h
    obtain ⟨hg, a, c, h1, h2, h3⟩ := h
    refine ⟨Nat.lt_of_lt_of_le hg hle.G, a, c, h1, h2, fun b d hd => ?_⟩
    obtain ⟨d', hd'⟩ := hle.R _ _ _ _ hg hd
    obtain ⟨q1, C, T, z, q2, q3⟩ := h3 b d' hd'
    obtain ⟨C', z', q4, q5⟩ := hle.size _ _ _ _ hg hd _ _ _ q2
    exact ⟨q1, C', T, z', q4, by omega⟩
  | fn f n c ih =>
    intro cs h
    obtain ⟨vs, h1, h2, h3⟩ := h
    exact ⟨vs, h1, h2, fun i hi => ⟨(h3 i hi).1, ih i (h3 i hi).2⟩⟩
  | tup n f => intro cs h; exact h.elim
  | any => intro cs h; exact h

theorem VRep_le {e e' : Env} (hle : e.le e') {d : D} : ∀ {v : Value}, VRep e d v → VRep e' d v := by
  induction d with
  | node k f => intro v h; obtain ⟨cs, h1, h2⟩ := h; exact ⟨cs, h1, Rep_le hle h2⟩
  | tup n f ih => intro v h; obtain ⟨vs, h1, h2, h3⟩ := h; exact ⟨vs, h1, h2, fun i hi => ih i (h3 i hi)⟩
  | any => intro v h; trivial
  | lit u => intro v h; exact Rep_le (d := .lit u) hle h
  | nil => intro v h; exact Rep_le (d := .nil) hle h
  | sl t zb n sz f => intro v h; exact Rep_le (d := .sl t zb n sz f) hle h
  | opq u S φ => intro v h; exact Rep_le (d := .opq u S φ) hle h
  | ptr l g o p => intro v h; exact Rep_le (d := .ptr l g o p) hle h
  | cptr d => intro v h; exact Rep_le (d := .cptr d) hle h
  | msl l g o p i n sz => intro v h; exact Rep_le (d := .msl l g o p i n sz) hle h
  | fn f n c => intro v h; exact Rep_le (d := .fn f n c) hle h

/-- a part of what stands in a block -/
theorem Rep_get {e : Env} : ∀ (p : List Nat) (d : D) (cs : List Value), Rep e d cs → d.inb p → ∃ ds, Rep e (d.get p) ds ∧ d.offOf p + ds.length ≤ cs.length ∧ ∀ j, j < ds.length → cs[d.offOf p + j]? = ds[j]? := by
  intro p
  induction p with
  | nil => intro d cs h _; exact ⟨cs, h, by simp [D.offOf], fun j hj => by simp [D.offOf]⟩
  | cons i p ih =>
    intro d cs h hin
    cases d with
    | node k f =>
      obtain ⟨hi, hin⟩ := hin
      obtain ⟨ps, h1, rfl⟩ := h
      obtain ⟨ds, r1, r2, r3⟩ := ih (f i) (ps i) (h1 i hi).2 hin
      have hl := flat_length k ps k.cnt (Nat.le_refl _) (fun i hi => (h1 i hi).1)
      have hs : k.off (i + 1) ≤ k.off k.cnt := Kd.off_le k k.cnt (i + 1) hi (Nat.le_refl _)
      rw [Kd.off_succ k i hi] at hs
      have hlen := (h1 i hi).1
      refine ⟨ds, r1, ?_, ?_⟩
      · show k.off i + (f i).offOf p + ds.length ≤ _
        omega
      · intro j hj
        show (flat k.cnt ps)[k.off i + (f i).offOf p + j]? = _
        rw [Nat.add_assoc, flat_get k ps k.cnt (Nat.le_refl _) (fun i hi => (h1 i hi).1) i hi _ (by omega)]
        exact r3 j hj
    | _ => exact absurd hin.1 (by simp [D.kd, Kd.cnt])

end Go.Proofs.Ytjaddgkhlmallaa.IM
