/- Several of my texts in one module (merge.py, shake.py). -/
import Derived.Calls
import Derived.Orders
import Derived.Tactics
import Derived.Below
import Derived.Laws.Sem
import Derived.Laws.World
import Derived.Laws.Rows
import Derived.Laws.Tables
import Derived.Laws.AppendOwn
import Derived.Laws.OwnMore
import Derived.Laws.MakeOwn
import Derived.Laws.Slices
import Derived.Deep.AppendSrc
import Derived.Lib.AppendStr
import Derived.Laws.BytesString
section
namespace Go.Proofs.YtncinhlaabdlaaaGreat.IM
open Go Go.RowKit
inductive Kd where
  | agg (lay : List Nat)
  | arr (n sz : Nat)
def Kd.cnt : Kd → Nat | .agg lay => lay.length | .arr n _ => n
def Kd.sz : Kd → Nat → Nat | .agg lay, i => lay.getD i 0 | .arr _ sz, _ => sz
def Kd.off : Kd → Nat → Nat | .agg lay, i => (lay.take i).sum | .arr _ sz, i => i * sz
def Kd.all : Kd → Nat | .agg lay => lay.sum | .arr n sz => n * sz
@[simp] theorem Kd.off_zero (k : Kd) : k.off 0 = 0 := by cases k <;> simp [Kd.off]
theorem Kd.off_succ (k : Kd) (i : Nat) (h : i < k.cnt) : k.off (i + 1) = k.off i + k.sz i := by
  cases k with
  | agg lay =>
    simp only [Kd.off, Kd.sz, Kd.cnt] at *
    rw [List.take_succ_eq_append_getElem h, List.sum_append, List.getD_eq_getElem?_getD, List.getElem?_eq_getElem h]
    simp
  | arr n sz => simp only [Kd.off, Kd.sz]; rw [Nat.add_mul]; simp
theorem Kd.off_cnt (k : Kd) : k.off k.cnt = k.all := by
  cases k with
  | agg lay => simp [Kd.off, Kd.cnt, Kd.all]
  | arr n sz => simp [Kd.off, Kd.cnt, Kd.all]
theorem Kd.off_le (k : Kd) : ∀ (j i : Nat), i ≤ j → j ≤ k.cnt → k.off i ≤ k.off j := by
  intro j
  induction j with
  | zero => intro i h _; rw [Nat.le_zero.1 h]; exact Nat.le_refl _
  | succ j ih =>
    intro i h hj
    rcases Nat.lt_or_ge i (j + 1) with h' | h'
    · rw [Kd.off_succ k j (by omega)]
      exact Nat.le_trans (ih i (by omega) (by omega)) (Nat.le_add_right _ _)
    · rw [show i = j + 1 by omega]; exact Nat.le_refl _
inductive D where
  | lit (v : Value)
  | nil
  | sl (t : Nat) (zb : Bool) (n sz : Nat) (f : Nat → D)
  | node (k : Kd) (f : Nat → D)
  | ptr (l g o : Nat) (p : List Nat)
  | cptr (d : D)
  | msl (l g o : Nat) (p : List Nat) (i n sz : Nat)
  | fn (f : FuncId) (n : Nat) (c : Nat → D)
  | tup (n : Nat) (f : Nat → D)
  | opq (v : Value) (S : Nat → Prop) (φ : World → Prop)
  | any
def D.size : D → Nat
  | .node k _ => k.all
  | .tup _ _ => 0
  | .any => 0
  | _ => 1
def D.kd : D → Kd
  | .node k _ => k
  | _ => .agg []
def D.chd : D → Nat → D
  | .node _ f, i => f i
  | _, _ => .any
def D.get : D → List Nat → D
  | d, [] => d
  | d, i :: p => (d.chd i).get p
def D.offOf : D → List Nat → Nat
  | _, [] => 0
  | d, i :: p => d.kd.off i + (d.chd i).offOf p
def D.inb : D → List Nat → Prop
  | _, [] => True
  | d, i :: p => i < d.kd.cnt ∧ (d.chd i).inb p
def D.set : D → List Nat → D → D
  | _, [], v => v
  | d, i :: p, v => .node d.kd fun j => if j = i then (d.chd i).set p v else d.chd j
def D.isNode : D → Option Bool
  | .node _ _ => some true
  | .tup _ _ => none
  | .any => none
  | _ => some false
def Leaf : Value → Prop
  | .agg _ => False
  | .tuple _ => False
  | _ => True
theorem Leaf.cells {v : Value} (h : Leaf v) : v.cells = #[v] := by cases v <;> first | rfl | exact h.elim
abbrev Roots := Nat → Option (Nat × Nat × D)
structure Env where
  R : Roots
  G : Nat
  P : Nat → Prop
  w : World
def At (w : World) (b o : Nat) (cs : List Value) : Prop :=
  ∃ C T z, w.heap[b]? = some (.cells C T z) ∧ ∀ j v, cs[j]? = some v → C[o + j]? = some v
def Whole (w : World) (t o c sz : Nat) : Prop := o = 0 ∧ ∃ C T, w.heap[t]? = some (.cells C T (0, 0)) ∧ c * sz ≤ C.size
def flat (n : Nat) (ps : Nat → List Value) : List Value := (List.range n).flatMap ps
@[simp] theorem flat_zero (ps : Nat → List Value) : flat 0 ps = [] := rfl
theorem flat_succ (n : Nat) (ps : Nat → List Value) : flat (n + 1) ps = flat n ps ++ ps n := by
  simp [flat, List.range_succ]
theorem flat_congr {n : Nat} {ps qs : Nat → List Value} (h : ∀ i, i < n → ps i = qs i) : flat n ps = flat n qs := by
  induction n with
  | zero => rfl
  | succ n ih => rw [flat_succ, flat_succ, ih (fun i hi => h i (by omega)), h n (by omega)]
theorem flat_length (k : Kd) (ps : Nat → List Value) : ∀ n, n ≤ k.cnt → (∀ i, i < n → (ps i).length = k.sz i) → (flat n ps).length = k.off n := by
  intro n
  induction n with
  | zero => intro _ _; simp
  | succ n ih =>
    intro hn h
    rw [flat_succ, List.length_append, ih (by omega) (fun i hi => h i (by omega)), h n (by omega), Kd.off_succ k n (by omega)]
theorem flat_get (k : Kd) (ps : Nat → List Value) : ∀ n, n ≤ k.cnt → (∀ i, i < n → (ps i).length = k.sz i) → ∀ i, i < n → ∀ j, j < k.sz i → (flat n ps)[k.off i + j]? = (ps i)[j]? := by
  intro n
  induction n with
  | zero => intro _ _ i hi; omega
  | succ n ih =>
    intro hn h i hi j hj
    have hl := flat_length k ps n (by omega) (fun i hi => h i (by omega))
    rw [flat_succ]
    rcases Nat.lt_or_ge i n with h1 | h1
    · rw [List.getElem?_append_left]
      · exact ih (by omega) (fun i hi => h i (by omega)) i h1 j hj
      · rw [hl]
        have := Kd.off_le k n (i + 1) (by omega) (by omega)
        rw [Kd.off_succ k i (by omega)] at this
        omega
    · have : i = n := by omega
      subst this
      rw [List.getElem?_append_right (by omega), hl]
      congr 1
      omega
def Rep (e : Env) : D → List Value → Prop
  | .lit v, cs => Leaf v ∧ cs = [v]
  | .nil, cs => ∃ a, cs = [.slice a 0 0]
  | .sl t zb n sz f, cs => ∃ o c ps, cs = [.slice (some ⟨t, o, none⟩) n c] ∧ n ≤ c ∧ e.P t ∧ (∀ i, i < n → (ps i).length = sz ∧ Rep e (f i) (ps i)) ∧ At e.w t o (flat n ps) ∧ (zb = true → Whole e.w t o c sz)
  | .node k f, cs => ∃ ps, (∀ i, i < k.cnt → (ps i).length = k.sz i ∧ Rep e (f i) (ps i)) ∧ cs = flat k.cnt ps
  | .ptr l g o _, cs => g < e.G ∧ ∃ a, cs = [.pointer (some a)] ∧ ∀ b d, e.R l = some (g, b, d) → a = ⟨b, o, none⟩
  | .cptr d, cs => ∃ b o ds, cs = [.pointer (some ⟨b, o, none⟩)] ∧ e.P b ∧ Rep e d ds ∧ At e.w b o ds
  | .msl l g o _ _ n sz, cs => g < e.G ∧ ∃ a c, cs = [.slice (some a) n c] ∧ n ≤ c ∧ ∀ b d, e.R l = some (g, b, d) → a = ⟨b, o, none⟩ ∧ ∃ C T z, e.w.heap[b]? = some (.cells C T z) ∧ o + c * sz ≤ C.size
  | .fn f n c, cs => ∃ vs : Array Value, cs = [.func (.func f) #[] vs] ∧ vs.size = n ∧ ∀ i, i < n → (c i).isNode ≠ some true ∧ Rep e (c i) [vs.getD i undef]
  | .tup _ _, _ => False
  | .opq v S φ, cs => Leaf v ∧ cs = [v] ∧ (∀ b, S b → e.P b) ∧ φ e.w ∧ ∀ w w' : World, (∀ b, S b → w'.heap[b]? = w.heap[b]?) → φ w → φ w'
  | .any, cs => ∀ v ∈ cs, Leaf v
def VRep (e : Env) : D → Value → Prop
  | .node k f, v => ∃ cs, v = .agg cs ∧ Rep e (.node k f) cs.toList
  | .tup n f, v => ∃ vs, v = .tuple vs ∧ vs.size = n ∧ ∀ i, i < n → VRep e (f i) (vs.getD i undef)
  | .any, _ => True
  | .lit u, v => Rep e (.lit u) [v]
  | .nil, v => Rep e .nil [v]
  | .sl t zb n sz f, v => Rep e (.sl t zb n sz f) [v]
  | .opq u S φ, v => Rep e (.opq u S φ) [v]
  | .ptr l g o p, v => Rep e (.ptr l g o p) [v]
  | .cptr d, v => Rep e (.cptr d) [v]
  | .msl l g o p i n sz, v => Rep e (.msl l g o p i n sz) [v]
  | .fn f n c, v => Rep e (.fn f n c) [v]
def D.plain : D → Prop
  | .tup _ _ => False
  | .any => False
  | _ => True
theorem Rep_length {e : Env} {d : D} {cs : List Value} (hp : d.plain) (h : Rep e d cs) : cs.length = d.size := by
  cases d with
  | lit v => simp [Rep] at h; simp [h.2, D.size]
  | nil => obtain ⟨a, rfl⟩ := h; rfl
  | sl t zb n sz f => obtain ⟨o, c, ps, rfl, _⟩ := h; rfl
  | opq v S φ => obtain ⟨_, rfl, _⟩ := h; rfl
  | node k f =>
    obtain ⟨ps, h1, rfl⟩ := h
    rw [flat_length k ps k.cnt (Nat.le_refl _) (fun i hi => (h1 i hi).1), Kd.off_cnt]; rfl
  | ptr l g o p => obtain ⟨_, a, rfl, _⟩ := h; rfl
  | cptr d => obtain ⟨b, o, ds, rfl, _⟩ := h; rfl
  | msl l g o p i n sz => obtain ⟨_, a, c, rfl, _⟩ := h; rfl
  | fn f n c => obtain ⟨vs, rfl, _⟩ := h; rfl
  | tup n f => exact hp.elim
  | any => exact hp.elim
theorem VRep_cells {e : Env} {d : D} {v : Value} (hp : d.plain) (h : VRep e d v) : Rep e d v.cells.toList := by
  cases d with
  | node k f => obtain ⟨cs, rfl, h⟩ := h; exact h
  | tup n f => exact hp.elim
  | any => exact hp.elim
  | lit u => have h' := h; simp [VRep, Rep] at h; obtain ⟨hl, rfl⟩ := h; rw [Leaf.cells hl]; exact h'
  | nil => have h' := h; obtain ⟨a, ha⟩ := h; obtain rfl : v = _ := by simpa using ha
           exact h'
  | opq u S φ =>
    have h' := h
    obtain ⟨hl, ha, _⟩ := h
    obtain rfl : v = _ := by simpa using ha
    rw [Leaf.cells hl]; exact h'
  | sl t zb n sz f =>
    have h' := h
    obtain ⟨o, c, ps, ha, _⟩ := h
    obtain rfl : v = _ := by simpa using ha
    exact h'
  | ptr l g o p => have h' := h; obtain ⟨_, a, ha, _⟩ := h; obtain rfl : v = _ := by simpa using ha
                   exact h'
  | cptr d => have h' := h; obtain ⟨b, o, ds, ha, _⟩ := h; obtain rfl : v = _ := by simpa using ha
              exact h'
  | msl l g o p i n sz => have h' := h; obtain ⟨_, a, c, ha, _⟩ := h; obtain rfl : v = _ := by simpa using ha
                          exact h'
  | fn f n c => have h' := h; obtain ⟨vs, ha, _⟩ := h; obtain rfl : v = _ := by simpa using ha
                exact h'
theorem flat_mem {n : Nat} {ps : Nat → List Value} {v : Value} (h : v ∈ flat n ps) : ∃ i, i < n ∧ v ∈ ps i := by
  simp only [flat, List.mem_flatMap, List.mem_range] at h
  exact h
theorem Rep_leaf {e : Env} {d : D} : ∀ {cs : List Value}, Rep e d cs → ∀ v ∈ cs, Leaf v := by
  induction d with
  | lit v => intro cs h u hu; obtain ⟨h1, rfl⟩ := h; simp at hu; exact hu ▸ h1
  | nil => intro cs h u hu; obtain ⟨a, rfl⟩ := h; simp at hu; subst hu; trivial
  | opq v S φ => intro cs h u hu; obtain ⟨h1, rfl, _⟩ := h; simp at hu; exact hu ▸ h1
  | sl t zb n sz f => intro cs h u hu; obtain ⟨o, c, ps, rfl, _⟩ := h; simp at hu; subst hu; trivial
  | node k f ih =>
    intro cs h u hu
    obtain ⟨ps, h1, rfl⟩ := h
    obtain ⟨i, hi, hm⟩ := flat_mem hu
    exact ih i (h1 i hi).2 u hm
  | ptr l g o p => intro cs h u hu; obtain ⟨_, a, rfl, _⟩ := h; simp at hu; subst hu; trivial
  | cptr d => intro cs h u hu; obtain ⟨b, o, ds, rfl, _⟩ := h; simp at hu; subst hu; trivial
  | msl l g o p i n sz => intro cs h u hu; obtain ⟨_, a, c, rfl, _⟩ := h; simp at hu; subst hu; trivial
  | fn f n c => intro cs h u hu; obtain ⟨vs, rfl, _⟩ := h; simp at hu; subst hu; trivial
  | tup n f => intro cs h; exact h.elim
  | any => intro cs h; exact h
structure Env.le (e e' : Env) : Prop where
  G : e.G ≤ e'.G
  P : ∀ b, e.P b → e'.P b
  at_ : ∀ b, e.P b → e'.w.heap[b]? = e.w.heap[b]?
  R : ∀ l g b d, g < e.G → e'.R l = some (g, b, d) → ∃ d', e.R l = some (g, b, d')
  size : ∀ (l g b : Nat) (d : D), g < e.G → e'.R l = some (g, b, d) → ∀ (C : Array Value) T z, e.w.heap[b]? = some (Obj.cells C T z) → ∃ (C' : Array Value) (z' : Nat × Nat), e'.w.heap[b]? = some (Obj.cells C' T z') ∧ C'.size = C.size
theorem Env.le.refl (e : Env) : e.le e := ⟨Nat.le_refl _, fun _ h => h, fun _ _ => rfl, fun _ _ _ d _ h => ⟨d, h⟩, fun _ _ _ _ _ _ C _ z h => ⟨C, z, h, rfl⟩⟩
theorem At.of_block {w w' : World} {b o : Nat} {cs : List Value} (h : At w b o cs) (hb : w'.heap[b]? = w.heap[b]?) : At w' b o cs := by
  obtain ⟨C, T, z, h1, h2⟩ := h
  exact ⟨C, T, z, hb.trans h1, h2⟩
theorem Whole.of_block {w w' : World} {t o c sz : Nat} (h : Whole w t o c sz) (hb : w'.heap[t]? = w.heap[t]?) : Whole w' t o c sz := by
  obtain ⟨h1, C, T, h2, h3⟩ := h
  exact ⟨h1, C, T, hb.trans h2, h3⟩
theorem Rep_le {e e' : Env} (hle : e.le e') {d : D} : ∀ {cs : List Value}, Rep e d cs → Rep e' d cs := by
  induction d with
  | lit v => intro cs h; exact h
  | nil => intro cs h; exact h
  | sl t zb n sz f ih =>
    intro cs h
    obtain ⟨o, c, ps, h1, h2, h3, h4, h5, h6⟩ := h
    exact ⟨o, c, ps, h1, h2, hle.P _ h3, fun i hi => ⟨(h4 i hi).1, ih i (h4 i hi).2⟩, h5.of_block (hle.at_ _ h3), fun hz => (h6 hz).of_block (hle.at_ _ h3)⟩
  | opq v S φ =>
    intro cs h
    obtain ⟨h1, h2, h3, h4, h5⟩ := h
    exact ⟨h1, h2, fun b hb => hle.P _ (h3 b hb), h5 _ _ (fun b hb => hle.at_ _ (h3 b hb)) h4, h5⟩
  | node k f ih =>
    intro cs h
    obtain ⟨ps, h1, h2⟩ := h
    exact ⟨ps, fun i hi => ⟨(h1 i hi).1, ih i (h1 i hi).2⟩, h2⟩
  | ptr l g o p =>
    intro cs h
    obtain ⟨hg, a, h1, h2⟩ := h
    refine ⟨Nat.lt_of_lt_of_le hg hle.G, a, h1, fun b d hd => ?_⟩
    obtain ⟨d', hd'⟩ := hle.R _ _ _ _ hg hd
    exact h2 b d' hd'
  | cptr d ih =>
    intro cs h
    obtain ⟨b, o, ds, h1, h2, h3, h4⟩ := h
    exact ⟨b, o, ds, h1, hle.P _ h2, ih h3, h4.of_block (hle.at_ _ h2)⟩
  | msl l g o p i n sz =>
    intro cs h
    obtain ⟨hg, a, c, h1, h2, h3⟩ := h
    refine ⟨Nat.lt_of_lt_of_le hg hle.G, a, c, h1, h2, fun b d hd => ?_⟩
    obtain ⟨d', hd'⟩ := hle.R _ _ _ _ hg hd
    obtain ⟨q1, C, T, z, q2, q3⟩ := h3 b d' hd'
    obtain ⟨C', z', q4, q5⟩ := hle.size _ _ _ _ hg hd _ _ _ q2
    exact ⟨q1, C', T, z', q4, by omega⟩
  | fn f n c ih =>
    intro cs h
    obtain ⟨vs, h1, h2, h3⟩ := h
    exact ⟨vs, h1, h2, fun i hi => ⟨(h3 i hi).1, ih i (h3 i hi).2⟩⟩
  | tup n f => intro cs h; exact h.elim
  | any => intro cs h; exact h
theorem VRep_le {e e' : Env} (hle : e.le e') {d : D} : ∀ {v : Value}, VRep e d v → VRep e' d v := by
  induction d with
  | node k f => intro v h; obtain ⟨cs, h1, h2⟩ := h; exact ⟨cs, h1, Rep_le hle h2⟩
  | tup n f ih => intro v h; obtain ⟨vs, h1, h2, h3⟩ := h; exact ⟨vs, h1, h2, fun i hi => ih i (h3 i hi)⟩
  | any => intro v h; trivial
  | lit u => intro v h; exact Rep_le (d := .lit u) hle h
  | nil => intro v h; exact Rep_le (d := .nil) hle h
  | sl t zb n sz f => intro v h; exact Rep_le (d := .sl t zb n sz f) hle h
  | opq u S φ => intro v h; exact Rep_le (d := .opq u S φ) hle h
  | ptr l g o p => intro v h; exact Rep_le (d := .ptr l g o p) hle h
  | cptr d => intro v h; exact Rep_le (d := .cptr d) hle h
  | msl l g o p i n sz => intro v h; exact Rep_le (d := .msl l g o p i n sz) hle h
  | fn f n c => intro v h; exact Rep_le (d := .fn f n c) hle h
theorem Rep_get {e : Env} : ∀ (p : List Nat) (d : D) (cs : List Value), Rep e d cs → d.inb p → ∃ ds, Rep e (d.get p) ds ∧ d.offOf p + ds.length ≤ cs.length ∧ ∀ j, j < ds.length → cs[d.offOf p + j]? = ds[j]? := by
  intro p
  induction p with
  | nil => intro d cs h _; exact ⟨cs, h, by simp [D.offOf], fun j hj => by simp [D.offOf]⟩
  | cons i p ih =>
    intro d cs h hin
    cases d with
    | node k f =>
      obtain ⟨hi, hin⟩ := hin
      obtain ⟨ps, h1, rfl⟩ := h
      obtain ⟨ds, r1, r2, r3⟩ := ih (f i) (ps i) (h1 i hi).2 hin
      have hl := flat_length k ps k.cnt (Nat.le_refl _) (fun i hi => (h1 i hi).1)
      have hs : k.off (i + 1) ≤ k.off k.cnt := Kd.off_le k k.cnt (i + 1) hi (Nat.le_refl _)
      rw [Kd.off_succ k i hi] at hs
      have hlen := (h1 i hi).1
      refine ⟨ds, r1, ?_, ?_⟩
      · show k.off i + (f i).offOf p + ds.length ≤ _
        omega
      · intro j hj
        show (flat k.cnt ps)[k.off i + (f i).offOf p + j]? = _
        rw [Nat.add_assoc, flat_get k ps k.cnt (Nat.le_refl _) (fun i hi => (h1 i hi).1) i hi _ (by omega)]
        exact r3 j hj
    | _ => exact absurd hin.1 (by simp [D.kd, Kd.cnt])
def splice (cs : List Value) (o : Nat) (vs : List Value) : List Value := cs.take o ++ vs ++ cs.drop (o + vs.length)
theorem splice_length {cs vs : List Value} {o : Nat} (h : o + vs.length ≤ cs.length) : (splice cs o vs).length = cs.length := by
  simp [splice]; omega
theorem splice_get {cs vs : List Value} {o : Nat} (h : o + vs.length ≤ cs.length) (j : Nat) :
    (splice cs o vs)[j]? = if o ≤ j ∧ j < o + vs.length then vs[j - o]? else cs[j]? := by
  unfold splice
  have ht : (cs.take o).length = o := by simp; omega
  rcases Nat.lt_or_ge j o with h1 | h1
  · rw [if_neg (by omega), List.append_assoc, List.getElem?_append_left (by omega), List.getElem?_take, if_pos h1]
  · rw [List.append_assoc, List.getElem?_append_right (by omega), ht]
    rcases Nat.lt_or_ge j (o + vs.length) with h2 | h2
    · rw [if_pos ⟨h1, h2⟩, List.getElem?_append_left (by omega)]
    · rw [if_neg (by omega), List.getElem?_append_right (by omega), List.getElem?_drop]
      congr 1; omega
theorem splice_append_left {A B vs : List Value} {o : Nat} (h : o + vs.length ≤ A.length) : splice (A ++ B) o vs = splice A o vs ++ B := by
  unfold splice
  rw [List.take_append_of_le_length (by omega), List.drop_append_of_le_length (by omega)]
  simp
theorem splice_append_right {A B vs : List Value} {o : Nat} : splice (A ++ B) (A.length + o) vs = A ++ splice B o vs := by
  unfold splice
  rw [List.take_length_add_append, Nat.add_assoc, List.drop_length_add_append]
  simp
theorem splice_all {cs vs : List Value} (h : vs.length = cs.length) : splice cs 0 vs = vs := by
  unfold splice; rw [Nat.zero_add, h]; simp
theorem flat_splice (k : Kd) (ps : Nat → List Value) (i o : Nat) (vs : List Value) : ∀ n, n ≤ k.cnt → (∀ j, j < n → (ps j).length = k.sz j) → i < n → o + vs.length ≤ (ps i).length →
    splice (flat n ps) (k.off i + o) vs = flat n (fun j => if j = i then splice (ps j) o vs else ps j) := by
  intro n
  induction n with
  | zero => intro _ _ h; omega
  | succ n ih =>
    intro hn h hi ho
    have hl := flat_length k ps n (by omega) (fun i hi => h i (by omega))
    rw [flat_succ, flat_succ]
    rcases Nat.lt_or_ge i n with h1 | h1
    · have hs := Kd.off_le k n (i + 1) (by omega) (by omega)
      rw [Kd.off_succ k i (by omega)] at hs
      have := h i hi
      rw [splice_append_left (by omega), ih (by omega) (fun i hi => h i (by omega)) h1 ho, if_neg (show ¬ (n = i) by omega)]
    · obtain rfl : i = n := by omega
      rw [← hl, splice_append_right, if_pos rfl]
      congr 1
      exact flat_congr fun j hj => by rw [if_neg (show ¬ (j = i) by omega)]
theorem Rep_set {e : Env} {v : D} {vs : List Value} (hv : Rep e v vs) : ∀ (p : List Nat) (d : D) (cs : List Value), Rep e d cs → d.inb p → (d.get p).plain → vs.length = (d.get p).size →
    d.offOf p + vs.length ≤ cs.length ∧ Rep e (d.set p v) (splice cs (d.offOf p) vs) := by
  intro p
  induction p with
  | nil =>
    intro d cs h _ hp hl
    have := Rep_length hp h
    have hlen : vs.length = cs.length := by rw [hl]; exact this.symm
    refine ⟨by simp [D.offOf, hlen], ?_⟩
    show Rep e v (splice cs 0 vs)
    rw [splice_all hlen]; exact hv
  | cons i p ih =>
    intro d cs h hin hp hl
    cases d with
    | node k f =>
      obtain ⟨hi, hin⟩ := hin
      obtain ⟨ps, h1, rfl⟩ := h
      have hl' := flat_length k ps k.cnt (Nat.le_refl _) (fun i hi => (h1 i hi).1)
      have hs : k.off (i + 1) ≤ k.off k.cnt := Kd.off_le k k.cnt (i + 1) hi (Nat.le_refl _)
      rw [Kd.off_succ k i hi] at hs
      obtain ⟨r1, r2⟩ := ih (f i) (ps i) (h1 i hi).2 hin hp hl
      have hlen := (h1 i hi).1
      refine ⟨?_, ?_⟩
      · show k.off i + (f i).offOf p + vs.length ≤ _
        omega
      · show Rep e (.node k fun j => if j = i then (f i).set p v else f j) (splice (flat k.cnt ps) (k.off i + (f i).offOf p) vs)
        rw [flat_splice k ps i _ vs k.cnt (Nat.le_refl _) (fun i hi => (h1 i hi).1) hi r1]
        refine ⟨_, fun j hj => ?_, rfl⟩
        by_cases hji : j = i
        · subst hji
          rw [if_pos rfl]
          exact ⟨by rw [splice_length r1]; exact hlen, by simpa using r2⟩
        · rw [if_neg hji]
          exact ⟨(h1 j hj).1, by simpa [hji] using (h1 j hj).2⟩
    | _ => exact absurd hin.1 (by simp [D.kd, Kd.cnt])
theorem addr_add (b o i : Nat) : (⟨b, o, none⟩ : Addr).add i = ⟨b, o + i, none⟩ := by
  unfold Addr.add; split
  · subst i; rfl
  · rfl
theorem At.cell {w : World} {b o : Nat} {cs : List Value} (h : At w b o cs) {j : Nat} {v : Value} (hj : cs[j]? = some v) : w.cell? ⟨b, o + j, none⟩ = some v := by
  obtain ⟨C, T, z, h1, h2⟩ := h
  unfold World.cell?
  rw [h1]
  exact h2 j v hj
theorem run_loadCellsFrom (P : Program) {w : World} {b o : Nat} {cs : List Value} (h : At w b o cs) : ∀ (n i : Nat) (acc : Array Value), i + n ≤ cs.length →
    (loadCellsFrom ⟨b, o, none⟩ i n acc).run P w = .ok (acc ++ ((cs.drop i).take n).toArray) w := by
  intro n
  induction n with
  | zero => intro i acc _; simp [loadCellsFrom]
  | succ n ih =>
    intro i acc hi
    have hget : cs[i]? = some cs[i] := List.getElem?_eq_getElem (by omega)
    have hc := h.cell hget
    simp only [loadCellsFrom]
    rw [Sem.run_bind]
    have hl : (load (Addr.add ⟨b, o, none⟩ i)).run P w = .ok cs[i] w := by
      rw [addr_add]; simp [load, Sem.run, hc]
    rw [hl, Result.andThen_ok, ih (i + 1) _ (by omega)]
    congr 1
    rw [List.drop_eq_getElem_cons (i := i) (by omega), List.take_succ_cons]
    simp
theorem run_loadCells (P : Program) {w : World} {b o : Nat} {cs : List Value} (h : At w b o cs) : (loadCells ⟨b, o, none⟩ cs.length).run P w = .ok cs.toArray w := by
  unfold loadCells
  rw [run_loadCellsFrom P h cs.length 0 #[] (by omega)]
  simp
def World.putRow (w : World) (b o : Nat) (vs : List Value) : World :=
  { w with heap := w.heap.modify b fun
      | .cells C T z => .cells ((splice C.toList o vs).toArray) T z
      | x => x }
theorem putRow_other (w : World) (b o k : Nat) (vs : List Value) (h : k ≠ b) : (World.putRow w b o vs).heap[k]? = w.heap[k]? := by
  simp only [World.putRow, Array.getElem?_modify]
  rw [if_neg (by omega)]
theorem putRow_same {w : World} {b o : Nat} {C : Array Value} {T : TypeId} {z : Nat × Nat} (vs : List Value) (h : w.heap[b]? = some (.cells C T z)) :
    (World.putRow w b o vs).heap[b]? = some (.cells ((splice C.toList o vs).toArray) T z) := by
  simp only [World.putRow, Array.getElem?_modify, if_pos]
  rw [h]; rfl
@[simp] theorem putRow_size (w : World) (b o : Nat) (vs : List Value) : (World.putRow w b o vs).heap.size = w.heap.size := by simp [World.putRow]
theorem World.ext_heap {w w' : World} (h1 : w'.heap = w.heap) (h2 : w'.tape = w.tape) (h3 : w'.drawn = w.drawn) (h4 : w'.os = w.os) (h5 : w'.output = w.output) : w' = w := by
  cases w; cases w'; simp_all
theorem putRow_nil (w : World) (b o : Nat) {C : Array Value} {T : TypeId} {z : Nat × Nat} (h : w.heap[b]? = some (.cells C T z)) : World.putRow w b o [] = w := by
  refine World.ext_heap ?_ rfl rfl rfl rfl
  apply Array.ext_getElem?
  intro k
  by_cases hk : k = b
  · subst hk
    rw [putRow_same [] h, h]
    simp [splice]
  · rw [putRow_other _ _ _ _ _ hk]
theorem putRow_cons {w : World} {b o : Nat} {C : Array Value} {T : TypeId} {z : Nat × Nat} (h : w.heap[b]? = some (.cells C T z)) (v : Value) (vs : List Value) (ho : o + vs.length + 1 ≤ C.size) :
    World.putRow (w.setCell ⟨b, o, none⟩ v) b (o + 1) vs = World.putRow w b o (v :: vs) := by
  have hs : (w.setCell ⟨b, o, none⟩ v).heap[b]? = some (.cells (C.setIfInBounds o v) T z) := by
    simp only [World.setCell, Array.getElem?_modify, if_pos]
    rw [h]; simp
  refine World.ext_heap ?_ rfl rfl rfl rfl
  apply Array.ext_getElem?
  intro k
  by_cases hk : k = b
  · subst hk
    rw [putRow_same vs hs, putRow_same (v :: vs) h]
    congr 2
    congr 1
    apply List.ext_getElem?
    intro j
    have e1 : (C.setIfInBounds o v).toList = C.toList.set o v := by simp
    rw [e1, splice_get (by simp; omega), splice_get (by simp; omega)]
    by_cases hj : j = o
    · subst hj
      rw [if_neg (by omega), if_pos (by simp), List.getElem?_set_self (by simp; omega)]
      simp
    · by_cases hj2 : o + 1 ≤ j ∧ j < o + 1 + vs.length
      · rw [if_pos hj2, if_pos (by simp; omega)]
        rw [show j - o = (j - (o + 1)) + 1 by omega]
        simp
      · rw [if_neg hj2, if_neg (by simp; omega), List.getElem?_set_ne (by omega)]
  · rw [putRow_other _ _ _ _ _ hk, putRow_other _ _ _ _ _ hk]
    exact Below.heap_setCell w ⟨b, o, none⟩ v k hk
theorem Leaf.oneCell {v : Value} (h : Leaf v) : v.oneCell' = true := by cases v <;> first | rfl | exact h.elim
theorem run_storeCells (P : Program) : ∀ (vs : List Value) (w : World) (b o i : Nat) (C : Array Value) (T : TypeId), w.heap[b]? = some (.cells C T (0, 0)) → o + i + vs.length ≤ C.size → (∀ v ∈ vs, Leaf v) →
    (storeCells ⟨b, o, none⟩ vs i).run P w = .ok () (World.putRow w b (o + i) vs) := by
  intro vs
  induction vs with
  | nil => intro w b o i C T h _ _; simp [storeCells, putRow_nil w b (o + i) h]
  | cons v vs ih =>
    intro w b o i C T h hl hv
    simp only [List.length_cons] at hl
    simp only [storeCells]
    rw [Sem.run_bind]
    have hc : w.cell? ⟨b, o + i, none⟩ = some C[o + i] := by
      unfold World.cell?; rw [h]; simp
    have hf : w.frozen? ⟨b, o + i, none⟩ = false := by
      unfold World.frozen?; rw [h]; simp
    have hst : (store (Addr.add ⟨b, o, none⟩ i) v).run P w = .ok () (w.setCell ⟨b, o + i, none⟩ v) := by
      rw [addr_add, run_store P w _ v _ (Leaf.oneCell (hv v (by simp)))]
      simp [hc, hf]
    rw [hst, Result.andThen_ok]
    have hs : (w.setCell ⟨b, o + i, none⟩ v).heap[b]? = some (.cells (C.setIfInBounds (o + i) v) T (0, 0)) := by
      simp only [World.setCell, Array.getElem?_modify, if_pos]
      rw [h]; simp
    rw [ih (w.setCell ⟨b, o + i, none⟩ v) b o (i + 1) _ T hs (by simp; omega) (fun u hu => hv u (by simp [hu]))]
    rw [← Nat.add_assoc, putRow_cons h v vs (by omega)]
set_option linter.unusedVariables false
structure St where
  N : Nat
  n : Nat
  s : Nat → D
  R : Roots
def upd {α : Type} (f : Nat → α) (t : Nat) (x : α) : Nat → α := fun k => if k = t then x else f k
@[simp] theorem upd_same {α : Type} (f : Nat → α) (t : Nat) (x : α) : upd f t x t = x := by simp [upd]
theorem upd_ne {α : Type} (f : Nat → α) {t k : Nat} (x : α) (h : k ≠ t) : upd f t x k = f k := by simp [upd, h]
def St.put (st : St) (dst : Option Tmp) (d : D) : St :=
  match dst with
  | some t => { st with s := upd st.s t d }
  | none => st
def St.dstOk (st : St) (dst : Option Tmp) : Prop := ∀ t, dst = some t → t < st.N
def D.ofV : Value → D
  | .slice none 0 0 => .nil
  | .agg _ => .any
  | .tuple _ => .any
  | v => .lit v
def St.ev (st : St) : Operand → D
  | .tmp t => st.s t
  | .const v => D.ofV v
  | .global _ => .any
  | .func f => .fn f 0 fun _ => .any
structure Keep (w0 : World) (M : Nat → Prop) (w : World) : Prop where
  os : w.os = w0.os
  tape : w.tape = w0.tape
  output : w.output = w0.output
  size : w0.heap.size ≤ w.heap.size
  block : ∀ k, k < w0.heap.size → ¬ M k → w.heap[k]? = w0.heap[k]?
  cell : ∀ (k : Nat) (C : Array Value) (T : TypeId) (z : Nat × Nat), w0.heap[k]? = some (Obj.cells C T z) → ∃ C' : Array Value, w.heap[k]? = some (Obj.cells C' T z) ∧ C'.size = C.size
structure Fr where
  m : Nat → Prop
  p : Nat → Prop
structure RootOk (e : Env) (b : Nat) (d : D) : Prop where
  np : ¬ e.P b
  plain : d.plain
  row : ∃ (C : Array Value) (T : TypeId) (cs : List Value), e.w.heap[b]? = some (.cells C T (0, 0)) ∧ Rep e d cs ∧ ∀ (j : Nat) (v : Value), cs[j]? = some v → C[j]? = some v
structure Good (w0 : World) (M : Fr) (st : St) (e : Env) (a : Act) : Prop where
  R : e.R = st.R
  N : a.tmps.size = st.N
  df : a.defers = []
  slot : ∀ t, VRep e (st.s t) (a.tmps.getD t undef)
  root : ∀ l g b d, st.R l = some (g, b, d) → g < e.G ∧ RootOk e b d
  own : ∀ l g b d, st.R l = some (g, b, d) → w0.heap.size ≤ b ∨ M.m b
  inj : ∀ l l' g g' b d d', st.R l = some (g, b, d) → st.R l' = some (g', b, d') → l = l'
  P : ∀ b, e.P b → b < e.w.heap.size
  keep : Keep w0 M.m e.w
  n : st.n ≤ e.w.heap.size
  per : ∀ b, e.P b → w0.heap.size ≤ b ∨ M.p b ∨ M.m b
def SR (w0 : World) (M : Fr) (st : St) (a : Act) (w : World) : Prop := ∃ e, e.w = w ∧ Good w0 M st e a
def Lift (w0 : World) (M : Fr) (K : St → Prop) (a : Act) (w : World) : Prop := ∃ st, K st ∧ SR w0 M st a w
theorem VRep_ofV (e : Env) (v : Value) : VRep e (D.ofV v) v := by
  unfold D.ofV
  split
  · exact ⟨none, rfl⟩
  · trivial
  · trivial
  · rename_i h1 h2 h3
    refine ⟨?_, rfl⟩
    cases v <;> first | trivial | exact absurd rfl (h2 _) | exact absurd rfl (h3 _)
theorem Good.ev {w0 : World} {M : Fr} {st : St} {e : Env} {a : Act} (h : Good w0 M st e a) (x : Operand) : VRep e (st.ev x) (a.eval x) := by
  cases x with
  | tmp t => exact h.slot t
  | const v => exact VRep_ofV e v
  | global g => trivial
  | func f => exact ⟨#[], rfl, rfl, fun i hi => absurd hi (by omega)⟩
theorem Good.put {w0 : World} {M : Fr} {st : St} {e : Env} {a : Act} (h : Good w0 M st e a) {dst : Option Tmp} (hd : st.dstOk dst) {d : D} {v : Value} (hv : VRep e d v) :
    Good w0 M (st.put dst d) e (a.put dst v) := by
  cases dst with
  | none => exact h
  | some t =>
    have ht := hd t rfl
    refine ⟨h.R, by simpa [Act.put, St.put] using h.N, h.df, ?_, h.root, h.own, h.inj, h.P, h.keep, h.n, h.per⟩
    intro k
    show VRep e (upd st.s t d k) ((a.tmps.setIfInBounds t v).getD k undef)
    by_cases hk : k = t
    · subst hk
      rw [upd_same]
      have : (a.tmps.setIfInBounds k v).getD k undef = v := by
        simp [h.N, ht]
      rw [this]; exact hv
    · rw [upd_ne _ _ hk]
      have : (a.tmps.setIfInBounds t v).getD k undef = a.tmps.getD k undef := by
        simp [Array.getElem?_setIfInBounds_ne (Ne.symm hk)]
      rw [this]; exact h.slot k
theorem Good.lift {w0 : World} {M : Fr} {st : St} {e : Env} {a : Act} (h : Good w0 M st e a) {dst : Option Tmp} (hd : st.dstOk dst) {d : D} {v : Value} (hv : VRep e d v) {K : St → Prop}
    (hK : K (st.put dst d)) : Lift w0 M K (a.put dst v) e.w := ⟨_, hK, e, rfl, h.put hd hv⟩
theorem wp_value {P : Program} {o : Oper} {a : Act} {w w' : World} {v : Value} {next : Act → World → Prop} {Q : Exit → Act → World → Prop}
    (h : (execOp a.eval o).run P w = .ok (.value v) w') (hn : next (a.put o.dst v) w') : o.wp P a w next Q := by
  unfold Oper.wp; rw [h]; exact hn
theorem wp_skipped {P : Program} {o : Oper} {a : Act} {w w' : World} {next : Act → World → Prop} {Q : Exit → Act → World → Prop}
    (h : (execOp a.eval o).run P w = .ok .skip w') (hn : next (a.put o.dst undef) w') : o.wp P a w next Q := by
  unfold Oper.wp; rw [h]; exact hn
def tsz (P : Program) (T : TypeId) : Option Nat := (P.info? T).map (·.size)
def tbytes (P : Program) (T : TypeId) : Option Nat := (P.info? T).map (·.bytes)
def tagg (P : Program) (T : TypeId) : Option Bool := (P.underlying T).map fun | .struct _ => true | .array _ _ => true | _ => false
def tint (P : Program) (T : TypeId) : Option IntKind := (P.underlying T).bind fun | .int k => some k | _ => none
def telem (P : Program) (T : TypeId) : Option TypeId := (P.underlying T).bind fun | .slice e => some e | _ => none
def tarr (P : Program) (T : TypeId) : Option (Nat × TypeId) := (P.underlying T).bind fun | .array n e => some (n, e) | _ => none
def tfield (P : Program) (T : TypeId) (f : Nat) : Option (Nat × TypeId) := (P.underlying T).bind fun | .struct fs => (fs[f]?).map fun x => (x.offset, x.type) | _ => none
theorem run_typeInfo {P : Program} {w : World} {T : TypeId} {i : TypeInfo} (h : P.info? T = some i) : (typeInfo T).run P w = .ok i w := by
  unfold typeInfo
  rw [Sem.run_bind, run_program, Result.andThen_ok, h]; rfl
theorem run_underlying {P : Program} {w : World} {T : TypeId} {d : TypeDesc} (h : P.underlying T = some d) : (underlying T).run P w = .ok d w := by
  unfold underlying
  rw [Sem.run_bind, run_program, Result.andThen_ok, h]; rfl
theorem run_sizeOf {P : Program} {w : World} {T : TypeId} {n : Nat} (h : tsz P T = some n) : (sizeOf T).run P w = .ok n w := by
  unfold tsz at h
  cases hi : P.info? T with
  | none => rw [hi] at h; cases h
  | some i =>
    rw [hi] at h
    unfold sizeOf
    rw [Sem.run_bind, run_typeInfo hi, Result.andThen_ok]
    simp at h ⊢; exact h
theorem run_isAgg {P : Program} {w : World} {T : TypeId} {b : Bool} (h : tagg P T = some b) : (isAgg T).run P w = .ok b w := by
  unfold tagg at h
  cases hi : P.underlying T with
  | none => rw [hi] at h; cases h
  | some d =>
    rw [hi] at h
    unfold isAgg
    rw [Sem.run_bind, run_underlying hi, Result.andThen_ok]
    cases d <;> simp at h <;> subst h <;> rfl
def Loaded (isNode : Bool) (d : D) : Prop :=
  match d with
  | .node _ _ => isNode = true
  | .tup _ _ => False
  | .any => False
  | _ => isNode = false
theorem run_loadVar {P : Program} {w : World} {T : TypeId} {b o : Nat} {cs : List Value} {e : Env} {d : D} {ag : Bool} (hw : e.w = w) (ht : tagg P T = some ag) (hs : tsz P T = some d.size) (hl : Loaded ag d)
    (hr : Rep e d cs) (hat : At w b o cs) : ∃ v, (loadVar T ⟨b, o, none⟩).run P w = .ok v w ∧ VRep e d v := by
  have hp : d.plain := by cases d <;> first | trivial | exact hl.elim
  have hlen := Rep_length hp hr
  unfold loadVar
  rw [Sem.run_bind, run_isAgg ht, Result.andThen_ok]
  cases d with
  | node k f =>
    obtain rfl : ag = true := hl
    rw [if_pos rfl]
    refine ⟨.agg cs.toArray, ?_, ⟨cs.toArray, rfl, hr⟩⟩
    rw [Sem.run_bind, run_sizeOf hs, Result.andThen_ok, Sem.run_bind, ← hlen, run_loadCells P hat, Result.andThen_ok, Sem.run_pure]
  | tup n f => exact hl.elim
  | any => exact hl.elim
  | _ =>
    obtain rfl : ag = false := hl
    rw [if_neg (by simp)]
    simp only [D.size] at hlen
    obtain ⟨v, rfl⟩ := List.length_eq_one_iff.1 hlen
    have hc := hat.cell (j := 0) (v := v) rfl
    refine ⟨v, ?_, hr⟩
    simp only [Nat.add_zero] at hc
    simp [load, Sem.run, hc]
def TyOk (P : Program) (T : TypeId) (d : D) : Prop := tsz P T = some d.size ∧ tagg P T = d.isNode ∧ d.isNode.isSome = true
theorem TyOk.loaded {P : Program} {T : TypeId} {d : D} (h : TyOk P T d) : ∃ ag, tagg P T = some ag ∧ Loaded ag d := by
  obtain ⟨_, h2, h3⟩ := h
  cases d <;> simp [D.isNode] at h3 <;> exact ⟨_, h2, rfl⟩
theorem TyOk.plain {P : Program} {T : TypeId} {d : D} (h : TyOk P T d) : d.plain := by
  obtain ⟨_, h2, h3⟩ := h
  cases d <;> simp [D.isNode] at h3 <;> trivial
def St.rd (st : St) (l g : Nat) : D :=
  match st.R l with
  | some (g', _, d) => if g' = g then d else .any
  | none => .any
def St.blk (st : St) (l : Nat) : Nat :=
  match st.R l with
  | some (_, b, _) => b
  | none => 0
theorem rd_spec {st : St} {l g : Nat} {p : List Nat} (h : ((st.rd l g).get p).plain) : st.R l = some (g, st.blk l, st.rd l g) := by
  have hany : ∀ p, D.get .any p = .any := by
    intro p; induction p with
    | nil => rfl
    | cons i p ih => exact ih
  unfold St.rd St.blk at *
  cases hR : st.R l with
  | none => rw [hR] at h; simp only [hany] at h; exact h.elim
  | some x =>
    obtain ⟨g', b, d⟩ := x
    rw [hR] at h
    by_cases hg : g' = g
    · subst hg; simp
    · simp only [if_neg hg, hany] at h; exact h.elim
def isBoolT (P : Program) (T : TypeId) : Bool := match P.underlying T with | some .bool => true | _ => false
theorem isBoolT_spec {P : Program} {T : TypeId} (h : isBoolT P T = true) : P.underlying T = some .bool := by
  unfold isBoolT at h
  cases hP : P.underlying T with
  | none => rw [hP] at h; cases h
  | some d => rw [hP] at h; cases d <;> first | rfl | cases h
def bin (P : Program) (T : TypeId) (op : BinOp) : Value → Value → Option Value
  | .int k a, .int k' b =>
    match op with
    | .shl => if b < 0 then none else some (.int k (k.wrap (a * 2 ^ min b.toNat k.bits)))
    | .shr => if b < 0 then none else some (.int k (a / 2 ^ min b.toNat k.bits))
    | _ => if k = k' then
        match op with
        | .add => some (.int k (k.wrap (a + b)))
        | .sub => some (.int k (k.wrap (a - b)))
        | .mul => some (.int k (k.wrap (a * b)))
        | .quo => if b = 0 then none else some (.int k (k.wrap (a.tdiv b)))
        | .rem => if b = 0 then none else some (.int k (a.tmod b))
        | .and => some (.int k (bits .and k a b))
        | .or => some (.int k (bits .or k a b))
        | .xor => some (.int k (bits .xor k a b))
        | .eql => some (.bool (a == b))
        | .neq => some (.bool (a != b))
        | .lss => some (.bool (decide (a < b)))
        | .leq => some (.bool (decide (a ≤ b)))
        | .gtr => some (.bool (decide (b < a)))
        | .geq => some (.bool (decide (b ≤ a)))
        | _ => none
      else none
  | .bool a, .bool b =>
    match op with
    | .eql => if isBoolT P T = true then some (.bool (a == b)) else none
    | .neq => if isBoolT P T = true then some (.bool (a != b)) else none
    | _ => none
  | .string a, .string b =>
    match op with
    | .eql => some (.bool (a.toList == b.toList))
    | .neq => some (.bool (!(a.toList == b.toList)))
    | _ => none
  | _, _ => none
theorem run_equalIn_bool {P : Program} {T : TypeId} {w : World} (n : Nat) (hu : P.underlying T = some .bool) (a b : Bool) : (Op.equalIn (n + 1) T (.bool a) (.bool b)).run P w = .ok (a == b) w := by
  unfold Op.equalIn
  rw [Sem.run_bind, run_underlying hu, Result.andThen_ok]
  rfl
theorem run_equal_bool {P : Program} {T : TypeId} {w : World} (hu : P.underlying T = some .bool) (a b : Bool) : (Op.equal T (.bool a) (.bool b)).run P w = .ok (a == b) w :=
  run_equalIn_bool 9999 hu a b
theorem bin_sound {P : Program} {T : TypeId} {op : BinOp} {u v r : Value} (h : bin P T op u v = some r) (x y : Operand) (w : World) :
    Leaf r ∧ (do eqGuard op T x y u v; binOp op T u v : Sem Value).run P w = .ok r w := by
  cases u <;> cases v <;> simp only [bin, reduceCtorEq] at h
  case bool.bool a b =>
    cases op <;> simp only [reduceCtorEq] at h
    all_goals
      by_cases hb : isBoolT P T = true
      · rw [if_pos hb] at h
        simp only [Option.some.injEq] at h; subst h
        refine ⟨trivial, ?_⟩
        simp only [eqGuard, binOp]
        rw [Sem.run_bind]
        show (Result.ok () w).andThen _ = _
        rw [Result.andThen_ok, Sem.run_bind, run_equal_bool (isBoolT_spec hb), Result.andThen_ok]
        rfl
      · rw [if_neg hb] at h; cases h
  case int.int k a k' b =>
    cases op <;> simp only [] at h
    case shl => 
      split at h
      · cases h
      · rename_i hb
        simp only [Option.some.injEq] at h; subst h
        refine ⟨trivial, ?_⟩
        simp only [eqGuard, binOp, Op.shift, if_neg hb]
        rfl
    case shr =>
      split at h
      · cases h
      · rename_i hb
        simp only [Option.some.injEq] at h; subst h
        refine ⟨trivial, ?_⟩
        simp only [eqGuard, binOp, Op.shift, if_neg hb]
        have hpos : (0 : Int) ≤ 2 ^ (min b.toNat k.bits) := Int.le_of_lt (Int.pow_pos (by decide))
        rw [← Int.fdiv_eq_ediv_of_nonneg a hpos]
        rfl
    all_goals (
      split at h
      · subst k'
        try (split at h)
        all_goals first
          | (cases h; done)
          | (simp only [Option.some.injEq] at h; subst h
             refine ⟨trivial, ?_⟩
             simp_all [eqGuard, binOp, Op.intArith, Op.intDiv, Op.intBits, Op.intCmp, bits]
             try rfl)
      · cases h)
  case string.string a b =>
    cases op <;> simp only [Option.some.injEq, reduceCtorEq] at h <;> subst h <;> refine ⟨trivial, ?_⟩ <;> simp [eqGuard, binOp, Op.stringOp]
section ops
variable {P : Program} {w0 : World} {M : Fr} {st : St} {e : Env} {a : Act} {K : St → Prop} {Q : Exit → Act → World → Prop}
variable {dst : Option Tmp} {ty : TypeId} {pos : String} {after : Array Edge} {gd : Option (Nat × Bool)}
theorem op_move (h : Good w0 M st e a) (x : Operand) (hd : st.dstOk dst) (hK : K (st.put dst (st.ev x))) :
    (Oper.mk dst (.move x) ty pos after gd).wp P a e.w (Lift w0 M K) Q :=
  wp_value (v := a.eval x) rfl (h.lift hd (h.ev x) hK)
theorem op_assign (h : Good w0 M st e a) (x : Operand) (hd : st.dstOk dst) (hK : K (st.put dst (st.ev x))) :
    (Oper.mk dst (.assign x) ty pos after gd).wp P a e.w (Lift w0 M K) Q :=
  wp_value (v := a.eval x) rfl (h.lift hd (h.ev x) hK)
theorem leaf_int (k : IntKind) (n : Int) : Leaf (.int k n) := trivial
theorem leaf_bool (b : Bool) : Leaf (.bool b) := trivial
theorem VRep_mk {e : Env} {v : Value} (h : Leaf v) : VRep e (.lit v) v := ⟨h, rfl⟩
theorem VRep_lit {e : Env} {u v : Value} (h : VRep e (.lit u) v) : v = u ∧ Leaf u := by
  obtain ⟨h1, h2⟩ := h
  simp at h2; exact ⟨h2, h1⟩
theorem op_pick (h : Good w0 M st e a) (c x y : Operand) {t : Bool} (hc : st.ev c = .lit (.bool t)) (hd : st.dstOk dst) (hK : K (st.put dst (if t then st.ev x else st.ev y))) :
    (Oper.mk dst (.pick c x y) ty pos after gd).wp P a e.w (Lift w0 M K) Q := by
  have hv := h.ev c; rw [hc] at hv
  have hcv := (VRep_lit hv).1
  refine wp_value (v := if t then a.eval x else a.eval y) (w' := e.w) ?_ (h.lift hd ?_ hK)
  · simp only [execOp]; rw [hcv]
    cases t <;> rfl
  · cases t
    · exact h.ev y
    · exact h.ev x
theorem op_not (h : Good w0 M st e a) (T : TypeId) (x : Operand) {t : Bool} (hx : st.ev x = .lit (.bool t)) (hd : st.dstOk dst) (hK : K (st.put dst (.lit (.bool (!t))))) :
    (Oper.mk dst (.unOp .not T x) ty pos after gd).wp P a e.w (Lift w0 M K) Q := by
  have hv := h.ev x; rw [hx] at hv
  have hxv := (VRep_lit hv).1
  refine wp_value (v := .bool (!t)) (w' := e.w) ?_ (h.lift hd (VRep_mk (leaf_bool _)) hK)
  simp only [execOp]; rw [hxv]; rfl
theorem op_neg (h : Good w0 M st e a) (T : TypeId) (x : Operand) {k : IntKind} {n : Int} (hx : st.ev x = .lit (.int k n)) (hd : st.dstOk dst) (hK : K (st.put dst (.lit (.int k (k.wrap (0 - n)))))) :
    (Oper.mk dst (.unOp .neg T x) ty pos after gd).wp P a e.w (Lift w0 M K) Q := by
  have hv := h.ev x; rw [hx] at hv
  have hxv := (VRep_lit hv).1
  refine wp_value (v := .int k (k.wrap (0 - n))) (w' := e.w) ?_ (h.lift hd (VRep_mk (leaf_int _ _)) hK)
  simp only [execOp]; rw [hxv]; rfl
theorem op_bin (h : Good w0 M st e a) (op : BinOp) (T T2 : TypeId) (x y : Operand) {u v r : Value} (hx : st.ev x = .lit u) (hy : st.ev y = .lit v) (hb : bin P T op u v = some r) (hd : st.dstOk dst)
    (hK : K (st.put dst (.lit r))) : (Oper.mk dst (.binOp op T x y T2) ty pos after gd).wp P a e.w (Lift w0 M K) Q := by
  have hv := h.ev x; rw [hx] at hv
  have hw := h.ev y; rw [hy] at hw
  obtain ⟨hl, hr⟩ := bin_sound hb x y e.w
  refine wp_value (v := r) (w' := e.w) ?_ (h.lift hd (VRep_mk hl) hK)
  simp only [execOp]; rw [(VRep_lit hv).1, (VRep_lit hw).1]
  rw [Sem.run_bind, hr]; rfl
theorem op_conv (h : Good w0 M st e a) (S T : TypeId) (x : Operand) {k k' : IntKind} {n : Int} (hx : st.ev x = .lit (.int k' n)) (hS : (P.underlying S).isSome = true) (hT : tint P T = some k) (hd : st.dstOk dst)
    (hK : K (st.put dst (.lit (.int k (k.wrap n))))) : (Oper.mk dst (.convert S T x) ty pos after gd).wp P a e.w (Lift w0 M K) Q := by
  have hv := h.ev x; rw [hx] at hv
  have hxv := (VRep_lit hv).1
  refine wp_value (v := .int k (k.wrap n)) (w' := e.w) ?_ (h.lift hd (VRep_mk (leaf_int _ _)) hK)
  obtain ⟨s, hs⟩ := Option.isSome_iff_exists.1 hS
  have hu : P.underlying T = some (.int k) := by
    unfold tint at hT
    cases hP : P.underlying T with
    | none => rw [hP] at hT; cases hT
    | some d => rw [hP] at hT; cases d <;> simp at hT; subst hT; rfl
  simp only [execOp]; rw [hxv, Sem.run_bind]
  have : (convert S T (.int k' n)).run P e.w = .ok (.int k (k.wrap n)) e.w := by
    unfold convert
    rw [Sem.run_bind, run_underlying hs, Result.andThen_ok, Sem.run_bind, run_underlying hu, Result.andThen_ok]
    rfl
  rw [this]; rfl
theorem op_extract (h : Good w0 M st e a) (x : Operand) {i n : Nat} {f : Nat → D} (hx : st.ev x = .tup n f) (hi : i < n) (hd : st.dstOk dst) (hK : K (st.put dst (f i))) :
    (Oper.mk dst (.extract x i) ty pos after gd).wp P a e.w (Lift w0 M K) Q := by
  have hv := h.ev x; rw [hx] at hv
  obtain ⟨vs, hxv, hn, hf⟩ := hv
  refine wp_value (v := vs.getD i undef) (w' := e.w) ?_ (h.lift hd (hf i hi) hK)
  simp only [execOp]; rw [hxv]
  have : vs[i]? = some (vs.getD i undef) := by
    rw [Array.getElem?_eq_getElem (by omega)]; simp [show i < vs.size by omega]
  simp only [Instr.extract, this]; rfl
def D.isRef : D → Prop
  | .ptr _ _ _ _ => True
  | .cptr _ => True
  | .fn _ _ _ => True
  | _ => False
theorem op_nilCheck (h : Good w0 M st e a) (x : Operand) (hx : (st.ev x).isRef) (hd : st.dstOk dst) (hK : K (st.put dst (st.ev x))) :
    (Oper.mk dst (.nilCheck x) ty pos after gd).wp P a e.w (Lift w0 M K) Q := by
  have hv := h.ev x
  refine wp_value (v := a.eval x) (w' := e.w) ?_ (h.lift hd hv hK)
  simp only [execOp]
  generalize st.ev x = d at hx hv
  cases d <;> first | exact hx.elim | skip
  · obtain ⟨_, b, hb, _⟩ := hv; simp at hb; rw [hb]; rfl
  · obtain ⟨b, o, ds, hb, _⟩ := hv; simp at hb; rw [hb]; rfl
  · obtain ⟨vs, hb, _⟩ := hv; simp at hb; rw [hb]; rfl
theorem run_tfield {P : Program} {T : TypeId} {f o : Nat} {t : TypeId} (h : tfield P T f = some (o, t)) : ∃ fs x, P.underlying T = some (.struct fs) ∧ fs[f]? = some x ∧ x.offset = o ∧ x.type = t := by
  unfold tfield at h
  cases hP : P.underlying T with
  | none => rw [hP] at h; cases h
  | some d =>
    rw [hP] at h
    cases d <;> simp at h
    rename_i fs
    obtain ⟨x, h1, h2, h3⟩ := h
    exact ⟨fs, x, rfl, h1, h2, h3⟩
theorem run_fieldAt {P : Program} {w : World} {T : TypeId} {f o n : Nat} {t : TypeId} (h : tfield P T f = some (o, t)) (hn : tsz P t = some n) (h0 : n ≠ 0) (ad : Addr) :
    (Instr.fieldAt T (.pointer (some ad)) f).run P w = .ok (.pointer (some (ad.add o))) w := by
  obtain ⟨fs, x, hu, hx, rfl, rfl⟩ := run_tfield h
  unfold Instr.fieldAt
  rw [Sem.run_bind, run_underlying hu, Result.andThen_ok]
  simp only [hx]
  rw [Sem.run_bind]
  show (Result.ok _ w).andThen _ = _
  rw [Result.andThen_ok, Sem.run_bind]
  have : (fieldPlace ad x).run P w = .ok (ad.add x.offset) w := by
    unfold fieldPlace
    rw [Sem.run_bind, run_sizeOf hn, Result.andThen_ok, if_neg h0]; rfl
  rw [this]; rfl
theorem op_fieldAddr_ptr (h : Good w0 M st e a) (T : TypeId) (x : Operand) {f l g o o' n : Nat} {p : List Nat} {t : TypeId} (hx : st.ev x = .ptr l g o p) (hf : tfield P T f = some (o', t)) (hn : tsz P t = some n) (h0 : n ≠ 0)
    (hd : st.dstOk dst) (hK : K (st.put dst (.ptr l g (o + o') (p ++ [f])))) : (Oper.mk dst (.fieldAddr T x f) ty pos after gd).wp P a e.w (Lift w0 M K) Q := by
  have hv := h.ev x; rw [hx] at hv
  obtain ⟨hg, ad, hxv, hq⟩ := hv
  simp at hxv
  refine wp_value (v := .pointer (some (ad.add o'))) (w' := e.w) ?_ (h.lift (d := .ptr l g (o + o') (p ++ [f])) hd ⟨hg, _, rfl, ?_⟩ hK)
  · simp only [execOp]; rw [hxv, Sem.run_bind, run_fieldAt hf hn h0]; rfl
  · intro b d hb
    rw [hq b d hb, addr_add]
end ops
end Go.Proofs.YtncinhlaabdlaaaGreat.IM
end
section
namespace Go.Proofs.YtncinhlaabdlaaaGreat.IM
open Go Go.RowKit
set_option linter.unusedVariables false
theorem run_telem {P : Program} {T E : TypeId} (h : telem P T = some E) : P.underlying T = some (.slice E) := by
  unfold telem at h
  cases hP : P.underlying T with
  | none => rw [hP] at h; cases h
  | some d => rw [hP] at h; cases d <;> simp at h; subst h; rfl
theorem run_tarr {P : Program} {T E : TypeId} {n : Nat} (h : tarr P T = some (n, E)) : P.underlying T = some (.array n E) := by
  unfold tarr at h
  cases hP : P.underlying T with
  | none => rw [hP] at h; cases h
  | some d => rw [hP] at h; cases d <;> simp at h; obtain ⟨rfl, rfl⟩ := h; rfl
theorem run_indexAt_slice {P : Program} {w : World} {T E : TypeId} {sz n c : Nat} {ad : Addr} {k : IntKind} {i : Int} (ht : telem P T = some E) (hs : tsz P E = some sz) (h0 : 0 ≤ i) (h1 : i < n) :
    (Instr.indexAt T (.slice (some ad) n c) (.int k i)).run P w = .ok (.pointer (some (ad.add (i.toNat * sz)))) w := by
  have hu := run_telem ht
  unfold Instr.indexAt
  rw [Sem.run_bind]
  show (Result.ok _ w).andThen _ = _
  rw [Result.andThen_ok, Sem.run_bind, run_underlying hu, Result.andThen_ok, Sem.run_bind]
  show (Result.ok _ w).andThen _ = _
  rw [Result.andThen_ok, Sem.run_bind]
  simp only [run_underlying hu, Result.andThen_ok]
  rw [if_pos ⟨h0, h1⟩, Sem.run_bind, run_sizeOf hs, Result.andThen_ok]; rfl
theorem run_indexAt_arr {P : Program} {w : World} {T E : TypeId} {sz n : Nat} {ad : Addr} {k : IntKind} {i : Int} (ht : tarr P T = some (n, E)) (hs : tsz P E = some sz) (h0 : 0 ≤ i) (h1 : i < n) :
    (Instr.indexAt T (.pointer (some ad)) (.int k i)).run P w = .ok (.pointer (some (ad.add (i.toNat * sz)))) w := by
  have hu := run_tarr ht
  unfold Instr.indexAt
  rw [Sem.run_bind]
  show (Result.ok _ w).andThen _ = _
  rw [Result.andThen_ok, Sem.run_bind, run_underlying hu, Result.andThen_ok, Sem.run_bind]
  simp only [Instr.sureAddr, run_underlying hu, Sem.run_bind, Sem.run_pure, Result.andThen_ok]
  rw [if_pos ⟨h0, h1⟩, Sem.run_bind, run_sizeOf hs, Result.andThen_ok]; rfl
theorem At.part {w : World} {b o q : Nat} {cs ds : List Value} (h : At w b o cs) (hd : ∀ j, j < ds.length → cs[q + j]? = ds[j]?) : At w b (o + q) ds := by
  obtain ⟨C, T, z, h1, h2⟩ := h
  refine ⟨C, T, z, h1, fun j v hj => ?_⟩
  have hlt : j < ds.length := by
    rcases Nat.lt_or_ge j ds.length with h | h
    · exact h
    · rw [List.getElem?_eq_none h] at hj; cases hj
  rw [Nat.add_assoc]
  exact h2 _ v (by rw [hd j hlt]; exact hj)
section ops
variable {P : Program} {w0 : World} {M : Fr} {st : St} {e : Env} {a : Act} {K : St → Prop} {Q : Exit → Act → World → Prop}
variable {dst : Option Tmp} {ty : TypeId} {pos : String} {after : Array Edge} {gd : Option (Nat × Bool)}
theorem op_fieldAddr_cptr (h : Good w0 M st e a) (T : TypeId) (x : Operand) {f o' n : Nat} {t : TypeId} {k : Kd} {c : Nat → D} (hx : st.ev x = .cptr (.node k c)) (hf : tfield P T f = some (o', t)) (hn : tsz P t = some n) (h0 : n ≠ 0)
    (hd : st.dstOk dst) (hfk : f < k.cnt) (ho : k.off f = o') (hK : K (st.put dst (.cptr (c f)))) : (Oper.mk dst (.fieldAddr T x f) ty pos after gd).wp P a e.w (Lift w0 M K) Q := by
  have hv := h.ev x; rw [hx] at hv
  obtain ⟨b, o, ds, hxv, hP, ⟨ps, hps, rfl⟩, hat⟩ := hv
  simp at hxv
  refine wp_value (v := .pointer (some ⟨b, o + o', none⟩)) (w' := e.w) ?_ (h.lift (d := .cptr (c f)) hd ⟨b, o + o', ps f, rfl, hP, (hps f hfk).2, ?_⟩ hK)
  · simp only [execOp]; rw [hxv, Sem.run_bind, run_fieldAt hf hn h0, addr_add]; rfl
  · subst ho
    exact hat.part fun j hj => flat_get k ps k.cnt (Nat.le_refl _) (fun i hi => (hps i hi).1) f hfk j (by rw [← (hps f hfk).1]; exact hj)
theorem op_indexAddr_msl (h : Good w0 M st e a) (T : TypeId) (x y : Operand) {l g o j n sz : Nat} {p : List Nat} {E : TypeId} {k : IntKind} {i : Int} (hx : st.ev x = .msl l g o p j n sz) (hy : st.ev y = .lit (.int k i))
    (ht : telem P T = some E) (hs : tsz P E = some sz) (h0 : 0 ≤ i) (h1 : i < n) (hd : st.dstOk dst) 
    (hK : K (st.put dst (.ptr l g (o + i.toNat * sz) (p ++ [j + i.toNat])))) : (Oper.mk dst (.indexAddr T x y) ty pos after gd).wp P a e.w (Lift w0 M K) Q := by
  have hv := h.ev x; rw [hx] at hv
  have hw := h.ev y; rw [hy] at hw
  obtain ⟨hg, ad, c, hxv, hc, hq⟩ := hv
  simp at hxv
  refine wp_value (v := .pointer (some (ad.add (i.toNat * sz)))) (w' := e.w) ?_ (h.lift (d := .ptr l g (o + i.toNat * sz) (p ++ [j + i.toNat])) hd ⟨hg, _, rfl, ?_⟩ hK)
  · simp only [execOp]; rw [hxv, (VRep_lit hw).1, Sem.run_bind, run_indexAt_slice ht hs h0 h1]; rfl
  · intro b d hb
    rw [(hq b d hb).1, addr_add]
theorem op_indexAddr_sl (h : Good w0 M st e a) (T : TypeId) (x y : Operand) {t n sz : Nat} {zb : Bool} {f : Nat → D} {E : TypeId} {k : IntKind} {i : Int} (hx : st.ev x = .sl t zb n sz f) (hy : st.ev y = .lit (.int k i))
    (ht : telem P T = some E) (hs : tsz P E = some sz) (h0 : 0 ≤ i) (h1 : i < n) (hd : st.dstOk dst)
    (hK : K (st.put dst (.cptr (f i.toNat)))) : (Oper.mk dst (.indexAddr T x y) ty pos after gd).wp P a e.w (Lift w0 M K) Q := by
  have hv := h.ev x; rw [hx] at hv
  have hw := h.ev y; rw [hy] at hw
  obtain ⟨o, c, ps, hxv, hc, hP, hps, hat, _⟩ := hv
  simp at hxv
  have hin : i.toNat < n := by omega
  refine wp_value (v := .pointer (some ⟨t, o + i.toNat * sz, none⟩)) (w' := e.w) ?_ (h.lift (d := .cptr (f i.toNat)) hd ⟨t, o + i.toNat * sz, ps i.toNat, rfl, hP, (hps _ hin).2, ?_⟩ hK)
  · simp only [execOp]; rw [hxv, (VRep_lit hw).1, Sem.run_bind, run_indexAt_slice ht hs h0 h1, addr_add]; rfl
  · exact hat.part fun j hj => flat_get (.arr n sz) ps n (Nat.le_refl _) (fun i hi => (hps i hi).1) _ hin j (by have := (hps _ hin).1; simp only [Kd.sz]; omega)
theorem op_indexAddr_arr (h : Good w0 M st e a) (T : TypeId) (x y : Operand) {l g o n sz : Nat} {p : List Nat} {E : TypeId} {k : IntKind} {i : Int} (hx : st.ev x = .ptr l g o p) (hy : st.ev y = .lit (.int k i))
    (ht : tarr P T = some (n, E)) (hs : tsz P E = some sz) (h0 : 0 ≤ i) (h1 : i < n) (hd : st.dstOk dst) 
    (hK : K (st.put dst (.ptr l g (o + i.toNat * sz) (p ++ [i.toNat])))) : (Oper.mk dst (.indexAddr T x y) ty pos after gd).wp P a e.w (Lift w0 M K) Q := by
  have hv := h.ev x; rw [hx] at hv
  have hw := h.ev y; rw [hy] at hw
  obtain ⟨hg, ad, hxv, hq⟩ := hv
  simp at hxv
  refine wp_value (v := .pointer (some (ad.add (i.toNat * sz)))) (w' := e.w) ?_ (h.lift (d := .ptr l g (o + i.toNat * sz) (p ++ [i.toNat])) hd ⟨hg, _, rfl, ?_⟩ hK)
  · simp only [execOp]; rw [hxv, (VRep_lit hw).1, Sem.run_bind, run_indexAt_arr ht hs h0 h1]; rfl
  · intro b d hb
    rw [hq b d hb, addr_add]
theorem op_indexAddr_carr (h : Good w0 M st e a) (T : TypeId) (x y : Operand) {n sz : Nat} {f : Nat → D} {E : TypeId} {k : IntKind} {i : Int} (hx : st.ev x = .cptr (.node (.arr n sz) f)) (hy : st.ev y = .lit (.int k i))
    (ht : tarr P T = some (n, E)) (hs : tsz P E = some sz) (h0 : 0 ≤ i) (h1 : i < n) (hd : st.dstOk dst)
    (hK : K (st.put dst (.cptr (f i.toNat)))) : (Oper.mk dst (.indexAddr T x y) ty pos after gd).wp P a e.w (Lift w0 M K) Q := by
  have hv := h.ev x; rw [hx] at hv
  have hw := h.ev y; rw [hy] at hw
  obtain ⟨b, o, ds, hxv, hP, ⟨ps, hps, rfl⟩, hat⟩ := hv
  simp at hxv
  have hin : i.toNat < n := by omega
  refine wp_value (v := .pointer (some ⟨b, o + i.toNat * sz, none⟩)) (w' := e.w) ?_ (h.lift (d := .cptr (f i.toNat)) hd ⟨b, o + i.toNat * sz, ps i.toNat, rfl, hP, (hps _ hin).2, ?_⟩ hK)
  · simp only [execOp]; rw [hxv, (VRep_lit hw).1, Sem.run_bind, run_indexAt_arr ht hs h0 h1, addr_add]; rfl
  · exact hat.part fun j hj => flat_get (.arr n sz) ps n (Nat.le_refl _) (fun i hi => (hps i hi).1) _ hin j (by have := (hps _ hin).1; simp only [Kd.sz] at this ⊢; omega)
theorem Good.root_at (h : Good w0 M st e a) {l g b : Nat} {d : D} (hR : st.R l = some (g, b, d)) {p : List Nat} (hin : d.inb p) : ∃ ds, Rep e (d.get p) ds ∧ At e.w b (d.offOf p) ds := by
  obtain ⟨_, hro⟩ := h.root _ _ _ _ hR
  obtain ⟨C, T, cs, hb, hrep, hcs⟩ := hro.row
  obtain ⟨ds, r1, r2, r3⟩ := Rep_get p d cs hrep hin
  have hat : At e.w b 0 cs := ⟨C, T, _, hb, fun j v hj => by rw [Nat.zero_add]; exact hcs j v hj⟩
  have := hat.part (q := d.offOf p) r3
  rw [Nat.zero_add] at this
  exact ⟨ds, r1, this⟩
theorem op_load_ptr (h : Good w0 M st e a) (T : TypeId) (x : Operand) {l g o : Nat} {p : List Nat} (hx : st.ev x = .ptr l g o p) (ht : TyOk P T ((st.rd l g).get p)) (hin : (st.rd l g).inb p) (ho : (st.rd l g).offOf p = o)
    (hd : st.dstOk dst) (hK : K (st.put dst ((st.rd l g).get p))) : (Oper.mk dst (.load T x) ty pos after gd).wp P a e.w (Lift w0 M K) Q := by
  have hv := h.ev x; rw [hx] at hv
  obtain ⟨hg, ad, hxv, hq⟩ := hv
  simp at hxv
  have hR := rd_spec (st := st) (l := l) (g := g) (p := p) ht.plain
  have had := hq (st.blk l) (st.rd l g) (by rw [h.R]; exact hR)
  subst had
  obtain ⟨ds, hr, hat⟩ := h.root_at hR hin
  rw [ho] at hat
  obtain ⟨ag, hag, hlo⟩ := ht.loaded
  obtain ⟨v, hrun, hvr⟩ := run_loadVar (P := P) rfl hag ht.1 hlo hr hat
  refine wp_value (v := v) (w' := e.w) ?_ (h.lift hd hvr hK)
  simp only [execOp]; rw [hxv, Sem.run_bind]
  have : (Instr.loadAt T (.pointer (some ⟨st.blk l, o, none⟩))).run P e.w = .ok v e.w := by
    unfold Instr.loadAt
    rw [Sem.run_bind]
    show (Result.ok _ e.w).andThen _ = _
    rw [Result.andThen_ok, hrun]
  rw [this]; rfl
theorem op_load_cptr (h : Good w0 M st e a) (T : TypeId) (x : Operand) {d : D} (hx : st.ev x = .cptr d) (ht : TyOk P T d)
    (hd : st.dstOk dst) (hK : K (st.put dst d)) : (Oper.mk dst (.load T x) ty pos after gd).wp P a e.w (Lift w0 M K) Q := by
  have hv := h.ev x; rw [hx] at hv
  obtain ⟨b, o, ds, hxv, hP, hr, hat⟩ := hv
  simp at hxv
  obtain ⟨ag, hag, hlo⟩ := ht.loaded
  obtain ⟨v, hrun, hvr⟩ := run_loadVar (P := P) rfl hag ht.1 hlo hr hat
  refine wp_value (v := v) (w' := e.w) ?_ (h.lift hd hvr hK)
  simp only [execOp]; rw [hxv, Sem.run_bind]
  have : (Instr.loadAt T (.pointer (some ⟨b, o, none⟩))).run P e.w = .ok v e.w := by
    unfold Instr.loadAt
    rw [Sem.run_bind]
    show (Result.ok _ e.w).andThen _ = _
    rw [Result.andThen_ok, hrun]
  rw [this]; rfl
def D.len : D → Option Nat
  | .nil => some 0
  | .sl _ _ n _ _ => some n
  | .msl _ _ _ _ _ n _ => some n
  | _ => none
theorem op_len (h : Good w0 M st e a) (T : TypeId) (x : Operand) {n : Nat} {E : TypeId} (hx : (st.ev x).len = some n) (ht : telem P T = some E) (hd : st.dstOk dst) (hK : K (st.put dst (.lit (.int .i64 n)))) :
    (Oper.mk dst (.call { callee := .builtin .len, args := #[x], argTypes := #[T] }) ty pos after gd).wp P a e.w (Lift w0 M K) Q := by
  have hv := h.ev x
  obtain ⟨b, c, hxv⟩ : ∃ b c, a.eval x = .slice b n c := by
    generalize st.ev x = d at hx hv
    cases d <;> simp [D.len] at hx
    · subst hx; obtain ⟨b, hb⟩ := hv; simp at hb; exact ⟨_, _, hb⟩
    · subst hx; obtain ⟨o, c, ps, hb, _⟩ := hv; simp at hb; exact ⟨_, _, hb⟩
    · subst hx; obtain ⟨_, ad, c, hb, _⟩ := hv; simp at hb; exact ⟨_, _, hb⟩
  refine wp_value (v := .int .i64 n) (w' := e.w) ?_ (h.lift hd (VRep_mk (leaf_int _ _)) hK)
  simp only [execOp, resolve]
  rw [Sem.run_bind]
  show (Result.ok _ e.w).andThen _ = _
  rw [Result.andThen_ok]
  simp only [List.map_toArray, List.map_cons, List.map_nil]
  rw [hxv]
  simp [invoke, builtin, Builtin.len_, run_underlying (run_telem ht), goInt]
theorem op_len_str (h : Good w0 M st e a) (T : TypeId) (x : Operand) {s : ByteArray} (hx : st.ev x = .lit (.string s)) (ht : P.underlying T = some .string) (hd : st.dstOk dst) (hK : K (st.put dst (.lit (.int .i64 s.size)))) :
    (Oper.mk dst (.call { callee := .builtin .len, args := #[x], argTypes := #[T] }) ty pos after gd).wp P a e.w (Lift w0 M K) Q := by
  have hv := h.ev x; rw [hx] at hv
  have hxv := (VRep_lit hv).1
  refine wp_value (v := .int .i64 s.size) (w' := e.w) ?_ (h.lift hd (VRep_mk (leaf_int _ _)) hK)
  simp only [execOp, resolve]
  rw [Sem.run_bind]
  show (Result.ok _ e.w).andThen _ = _
  rw [Result.andThen_ok]
  simp only [List.map_toArray, List.map_cons, List.map_nil]
  rw [hxv]
  simp [invoke, builtin, Builtin.len_, run_underlying ht, goInt]
theorem op_makeFunc (h : Good w0 M st e a) (f : FuncId) (cap : Array Operand) (hd : st.dstOk dst) (hK : K (st.put dst (.fn f cap.size fun i => st.ev (cap.getD i (.const .nilFunc))))) (hc : ∀ i, i < cap.size → (st.ev (cap.getD i (.const .nilFunc))).isRef) :
    (Oper.mk dst (.makeFunc (.func f) #[] cap) ty pos after gd).wp P a e.w (Lift w0 M K) Q := by
  refine wp_value (v := .func (.func f) #[] (cap.map a.eval)) (w' := e.w) (by simp [execOp, Instr.makeFunc]) (h.lift (d := .fn f cap.size _) hd ⟨cap.map a.eval, rfl, by simp, fun i hi => ?_⟩ hK)
  have h1 : (cap.map a.eval).getD i undef = a.eval (cap.getD i (.const .nilFunc)) := by simp [hi]
  rw [h1]
  have hv := h.ev (cap.getD i (.const .nilFunc))
  have hr := hc i hi
  generalize st.ev (cap.getD i (.const .nilFunc)) = d at hv hr
  cases d <;> first | exact hr.elim | exact ⟨by simp [D.isNode], hv⟩
end ops
end Go.Proofs.YtncinhlaabdlaaaGreat.IM
end
section
namespace Go.Proofs.YtncinhlaabdlaaaGreat.IM
open Go Go.RowKit
set_option linter.unusedVariables false
def St.wr (st : St) (l : Nat) (d : D) : St :=
  { st with R := upd st.R l ((st.R l).map fun x => (x.1, x.2.1, d)) }
theorem Keep.put {w0 w : World} {M : Nat → Prop} (h : Keep w0 M w) {b : Nat} (hb : w0.heap.size ≤ b ∨ M b) (o : Nat) (vs : List Value) (hc : ∀ (C : Array Value) (T : TypeId) (z : Nat × Nat), w.heap[b]? = some (Obj.cells C T z) → o + vs.length ≤ C.size) : Keep w0 M (World.putRow w b o vs) := by
  refine ⟨h.os, h.tape, h.output, by simpa using h.size, fun k hk hm => ?_, fun k C T z hC => ?_⟩
  rotate_left
  · obtain ⟨C', h1, h2⟩ := h.cell k C T z hC
    by_cases hkb : k = b
    · subst hkb
      refine ⟨_, putRow_same vs h1, ?_⟩
      have := hc _ _ _ h1
      rw [List.size_toArray, splice_length (by simpa using this)]
      simpa using h2
    · exact ⟨C', by rw [putRow_other _ _ _ _ _ hkb]; exact h1, h2⟩
  have hne : k ≠ b := by
    rintro rfl
    rcases hb with hb | hb
    · omega
    · exact hm hb
  rw [putRow_other _ _ _ _ _ hne]
  exact h.block k hk hm
section ops
variable {P : Program} {w0 : World} {M : Fr} {st : St} {e : Env} {a : Act} {K : St → Prop} {Q : Exit → Act → World → Prop}
variable {dst : Option Tmp} {ty : TypeId} {pos : String} {after : Array Edge} {gd : Option (Nat × Bool)}
theorem Good.store (h : Good w0 M st e a) {l g b : Nat} {d : D} (hR : st.R l = some (g, b, d)) {p : List Nat} (hin : d.inb p) (hp : (d.get p).plain) {v : D} {vs : List Value} (hvp : v.plain) (hv : Rep e v vs) (hs : vs.length = (d.get p).size) :
    ∃ C T, e.w.heap[b]? = some (.cells C T (0, 0)) ∧ d.offOf p + vs.length ≤ C.size ∧
      Good w0 M (st.wr l (d.set p v)) ⟨(st.wr l (d.set p v)).R, e.G, e.P, World.putRow e.w b (d.offOf p) vs⟩ a := by
  obtain ⟨hg, hro⟩ := h.root _ _ _ _ hR
  obtain ⟨C, T, cs, hb, hrep, hcs⟩ := hro.row
  have hlen : cs.length ≤ C.size := by
    rcases Nat.eq_zero_or_pos cs.length with h0 | h0
    · omega
    · have := hcs (cs.length - 1) cs[cs.length - 1] (List.getElem?_eq_getElem (by omega))
      have := (Array.getElem?_eq_some_iff.1 this).1
      omega
  have hR' : (st.wr l (d.set p v)).R = upd st.R l (some (g, b, d.set p v)) := by simp [St.wr, hR]
  have hle : e.le ⟨(st.wr l (d.set p v)).R, e.G, e.P, World.putRow e.w b (d.offOf p) vs⟩ := by
    refine ⟨Nat.le_refl _, fun _ h => h, fun k hk => ?_, fun l' g' b' d' hg' hl' => ?_, fun _ _ k _ _ _ C' T' z hk => ?_⟩
    · exact putRow_other _ _ _ _ _ (by rintro rfl; exact hro.np hk)
    · show ∃ d'', e.R l' = some (g', b', d'')
      have hl'' : upd st.R l (some (g, b, d.set p v)) l' = some (g', b', d') := by rw [← hR']; exact hl'
      rw [h.R]
      by_cases hll : l' = l
      · subst hll
        rw [upd_same] at hl''
        simp only [Option.some.injEq, Prod.mk.injEq] at hl''
        exact ⟨d, by rw [hR, hl''.1, hl''.2.1]⟩
      · rw [upd_ne _ _ hll] at hl''; exact ⟨d', hl''⟩
    · by_cases hkb : k = b
      · subst hkb
        have hk2 : e.w.heap[k]? = some (.cells C' T' z) := hk
        rw [hb] at hk2
        simp only [Option.some.injEq, Obj.cells.injEq] at hk2
        obtain ⟨rfl, rfl, rfl⟩ := hk2
        obtain ⟨r1, _⟩ := Rep_set hv p d cs hrep hin hp hs
        exact ⟨_, _, putRow_same vs hb, by simp [splice_length (cs := C.toList) (vs := vs) (o := d.offOf p) (by simp; omega)]⟩
      · exact ⟨C', z, by rw [← hk]; exact putRow_other _ _ _ _ _ hkb, rfl⟩
  obtain ⟨r1, r2⟩ := Rep_set (Rep_le hle hv) p d cs (Rep_le hle hrep) hin hp hs
  refine ⟨C, T, hb, by omega, ⟨rfl, h.N, h.df, fun t => VRep_le hle (h.slot t), ?_, ?_, ?_, ?_, ?_, ?_, ?_⟩⟩
  · intro l' g' b' d' hl'
    have hl'' : upd st.R l (some (g, b, d.set p v)) l' = some (g', b', d') := by rw [← hR']; exact hl'
    by_cases hll : l' = l
    · subst hll
      rw [upd_same] at hl''
      simp only [Option.some.injEq, Prod.mk.injEq] at hl''
      obtain ⟨rfl, rfl, rfl⟩ := hl''
      refine ⟨hg, hro.np, ?_, _, T, _, putRow_same vs hb, r2, ?_⟩
      · cases p with
        | nil =>
          have : (D.set d [] v) = v := by cases d <;> rfl
          rw [this]
          exact hvp
        | cons i p => trivial
      · intro j u hj
        rw [splice_get (by omega)] at hj
        simp only [List.getElem?_toArray]
        rw [splice_get (by simp; omega)]
        split at hj
        · rename_i hc; rw [if_pos hc]; exact hj
        · rename_i hc; rw [if_neg hc, Array.getElem?_toList]; exact hcs j u hj
    · rw [upd_ne _ _ hll] at hl''
      obtain ⟨hg', hro'⟩ := h.root _ _ _ _ hl''
      refine ⟨hg', hro'.np, hro'.plain, ?_⟩
      obtain ⟨C', T', cs', hb', hrep', hcs'⟩ := hro'.row
      have hne : b' ≠ b := by rintro rfl; exact hll (h.inj _ _ _ _ _ _ _ hl'' hR)
      exact ⟨C', T', cs', by rw [← hb']; exact putRow_other _ _ _ _ _ hne, Rep_le hle hrep', hcs'⟩
  · intro l' g' b' d' hl'
    have hl'' : upd st.R l (some (g, b, d.set p v)) l' = some (g', b', d') := by rw [← hR']; exact hl'
    by_cases hll : l' = l
    · subst hll
      rw [upd_same] at hl''
      simp only [Option.some.injEq, Prod.mk.injEq] at hl''
      rw [← hl''.2.1]; exact h.own _ _ _ _ hR
    · rw [upd_ne _ _ hll] at hl''; exact h.own _ _ _ _ hl''
  · intro l1 l2 g1 g2 b' d1 d2 h1 h2
    have h1' : upd st.R l (some (g, b, d.set p v)) l1 = some (g1, b', d1) := by rw [← hR']; exact h1
    have h2' : upd st.R l (some (g, b, d.set p v)) l2 = some (g2, b', d2) := by rw [← hR']; exact h2
    have back : ∀ l3 g3 d3, upd st.R l (some (g, b, d.set p v)) l3 = some (g3, b', d3) → ∃ d4, st.R l3 = some (g3, b', d4) := by
      intro l3 g3 d3 h3
      by_cases hll : l3 = l
      · subst hll
        rw [upd_same] at h3
        simp only [Option.some.injEq, Prod.mk.injEq] at h3
        exact ⟨d, by rw [hR, h3.1, h3.2.1]⟩
      · rw [upd_ne _ _ hll] at h3; exact ⟨d3, h3⟩
    obtain ⟨d4, h4⟩ := back _ _ _ h1'
    obtain ⟨d5, h5⟩ := back _ _ _ h2'
    exact h.inj _ _ _ _ _ _ _ h4 h5
  · intro k hk; simpa using h.P k hk
  · exact h.keep.put (h.own _ _ _ _ hR) _ _ fun C1 T1 z1 h1 => by
      have h2 := hb.symm.trans h1
      simp only [Option.some.injEq, Obj.cells.injEq] at h2
      obtain ⟨rfl, _⟩ := h2
      omega
  · simpa [St.wr] using h.n
  · exact h.per
theorem run_storeVar {P : Program} {w : World} {T : TypeId} {b o : Nat} {v : Value} {C : Array Value} {T' : TypeId} (hs : tsz P T = some v.cells.size) (hb : w.heap[b]? = some (.cells C T' (0, 0))) (ho : o + v.cells.size ≤ C.size)
    (hl : ∀ u ∈ v.cells.toList, Leaf u) : (storeVar T ⟨b, o, none⟩ v).run P w = .ok () (World.putRow w b o v.cells.toList) := by
  unfold storeVar
  rw [Sem.run_bind, run_sizeOf hs, Result.andThen_ok]
  simp only [ne_eq, not_true_eq_false, if_false]
  have := run_storeCells P v.cells.toList w b o 0 C T' hb (by simpa using ho) hl
  simpa using this
theorem op_store (h : Good w0 M st e a) (T : TypeId) (x y : Operand) {l g o n : Nat} {p : List Nat} (hx : st.ev x = .ptr l g o p) (hp : ((st.rd l g).get p).plain) (hin : (st.rd l g).inb p) (ho : (st.rd l g).offOf p = o)
    (ht : tsz P T = some n) (hs1 : ((st.rd l g).get p).size = n) (hvp : (st.ev y).plain) (hs2 : (st.ev y).size = n) (hd : st.dstOk dst)
    (hK : K ((st.wr l ((st.rd l g).set p (st.ev y))).put dst .any)) : (Oper.mk dst (.store T x y) ty pos after gd).wp P a e.w (Lift w0 M K) Q := by
  have hv := h.ev x; rw [hx] at hv
  obtain ⟨hg, ad, hxv, hq⟩ := hv
  simp at hxv
  have hR := rd_spec (st := st) (l := l) (g := g) (p := p) hp
  have had := hq (st.blk l) (st.rd l g) (by rw [h.R]; exact hR)
  subst had
  have hy := VRep_cells hvp (h.ev y)
  have hlen := Rep_length hvp hy
  obtain ⟨C, T', hb, hsz, hgood⟩ := h.store hR hin hp hvp hy (by rw [hlen, hs1, hs2])
  rw [ho] at hsz hgood
  have hcs : (a.eval y).cells.size = n := by rw [← hs2, ← hlen]; simp
  refine wp_skipped (w' := World.putRow e.w (st.blk l) o (a.eval y).cells.toList) ?_ ⟨_, hK, _, rfl, hgood.put (by simpa [St.dstOk, St.wr] using hd) trivial⟩
  simp only [execOp]; rw [hxv, Sem.run_bind]
  have : (Instr.storeAt T (.pointer (some ⟨st.blk l, o, none⟩)) (a.eval y)).run P e.w = .ok () (World.putRow e.w (st.blk l) o (a.eval y).cells.toList) := by
    unfold Instr.storeAt
    rw [Sem.run_bind]
    show (Result.ok _ e.w).andThen _ = _
    rw [Result.andThen_ok]
    exact run_storeVar (by rw [ht, hcs]) hb (by simpa using hsz) (Rep_leaf hy)
  rw [this]; rfl
def St.new (st : St) (l g b : Nat) (d : D) : St := { st with n := b + 1, R := upd st.R l (some (g, b, d)) }
theorem Keep.alloc {w0 w : World} {M : Nat → Prop} (h : Keep w0 M w) (o : Obj) : Keep w0 M (w.alloc o) :=
  ⟨h.os, h.tape, h.output, by have := h.size; simp; omega, fun k hk hm => by rw [heap_alloc_old _ _ _ (by have := h.size; omega)]; exact h.block k hk hm, fun k C T z hC => by
    obtain ⟨C', h1, h2⟩ := h.cell k C T z hC
    have hlt : k < w.heap.size := by
      rcases Nat.lt_or_ge k w.heap.size with h | h
      · exact h
      · rw [Array.getElem?_eq_none h] at h1; cases h1
    exact ⟨C', by rw [heap_alloc_old _ _ _ hlt]; exact h1, h2⟩⟩
theorem Good.newRootC (h : Good w0 M st e a) (l : Nat) {d : D} {cs : Array Value} {ds : List Value} (T : TypeId) (hp : d.plain) (hr : Rep e d ds) (hpre : ∀ (j : Nat) (v : Value), ds[j]? = some v → cs[j]? = some v) :
    Good w0 M (st.new l e.G e.w.heap.size d) ⟨(st.new l e.G e.w.heap.size d).R, e.G + 1, e.P, e.w.alloc (.cells cs T (0, 0))⟩ a := by
  have hle : e.le ⟨(st.new l e.G e.w.heap.size d).R, e.G + 1, e.P, e.w.alloc (.cells cs T (0, 0))⟩ := by
    refine ⟨Nat.le_succ _, fun _ h => h, fun k hk => heap_alloc_old _ _ _ (h.P k hk), fun l' g' b' d' hg' hl' => ?_, fun _ _ k _ _ _ C' T' z hk => ?_⟩
    · have hl'' : upd st.R l (some (e.G, e.w.heap.size, d)) l' = some (g', b', d') := hl'
      rw [h.R]
      by_cases hll : l' = l
      · subst hll
        rw [upd_same] at hl''
        simp only [Option.some.injEq, Prod.mk.injEq] at hl''
        omega
      · rw [upd_ne _ _ hll] at hl''; exact ⟨d', hl''⟩
    · have hlt : k < e.w.heap.size := by
        rcases Nat.lt_or_ge k e.w.heap.size with h | h
        · exact h
        · rw [Array.getElem?_eq_none h] at hk; cases hk
      exact ⟨C', z, by rw [← hk]; exact heap_alloc_old _ _ _ hlt, rfl⟩
  refine ⟨rfl, h.N, h.df, fun t => VRep_le hle (h.slot t), ?_, ?_, ?_, ?_, ?_, ?_, ?_⟩
  · intro l' g' b' d' hl'
    have hl'' : upd st.R l (some (e.G, e.w.heap.size, d)) l' = some (g', b', d') := hl'
    by_cases hll : l' = l
    · subst hll
      rw [upd_same] at hl''
      simp only [Option.some.injEq, Prod.mk.injEq] at hl''
      obtain ⟨rfl, rfl, rfl⟩ := hl''
      exact ⟨Nat.lt_succ_self _, fun hP => by have := h.P _ hP; omega, hp, cs, T, ds, heap_alloc_new _ _, Rep_le hle hr, hpre⟩
    · rw [upd_ne _ _ hll] at hl''
      obtain ⟨hg', hro'⟩ := h.root _ _ _ _ hl''
      refine ⟨Nat.lt_succ_of_lt hg', hro'.np, hro'.plain, ?_⟩
      obtain ⟨C', T', cs', hb', hrep', hcs'⟩ := hro'.row
      have hlt : b' < e.w.heap.size := by
        rcases Nat.lt_or_ge b' e.w.heap.size with h | h
        · exact h
        · rw [Array.getElem?_eq_none h] at hb'; cases hb'
      exact ⟨C', T', cs', by rw [← hb']; exact heap_alloc_old _ _ _ hlt, Rep_le hle hrep', hcs'⟩
  · intro l' g' b' d' hl'
    have hl'' : upd st.R l (some (e.G, e.w.heap.size, d)) l' = some (g', b', d') := hl'
    by_cases hll : l' = l
    · subst hll
      rw [upd_same] at hl''
      simp only [Option.some.injEq, Prod.mk.injEq] at hl''
      rw [← hl''.2.1]; exact .inl h.keep.size
    · rw [upd_ne _ _ hll] at hl''; exact h.own _ _ _ _ hl''
  · have lt : ∀ l3 g3 b3 d3, st.R l3 = some (g3, b3, d3) → b3 < e.w.heap.size := by
      intro l3 g3 b3 d3 h3
      obtain ⟨_, hro⟩ := h.root _ _ _ _ h3
      obtain ⟨C', T', cs', hb', _⟩ := hro.row
      rcases Nat.lt_or_ge b3 e.w.heap.size with h | h
      · exact h
      · rw [Array.getElem?_eq_none h] at hb'; cases hb'
    intro l1 l2 g1 g2 b' d1 d2 h1 h2
    have h1' : upd st.R l (some (e.G, e.w.heap.size, d)) l1 = some (g1, b', d1) := h1
    have h2' : upd st.R l (some (e.G, e.w.heap.size, d)) l2 = some (g2, b', d2) := h2
    by_cases hl1 : l1 = l <;> by_cases hl2 : l2 = l
    · omega
    · subst hl1
      rw [upd_same] at h1'; rw [upd_ne _ _ hl2] at h2'
      simp only [Option.some.injEq, Prod.mk.injEq] at h1'
      have := lt _ _ _ _ h2'; omega
    · subst hl2
      rw [upd_same] at h2'; rw [upd_ne _ _ hl1] at h1'
      simp only [Option.some.injEq, Prod.mk.injEq] at h2'
      have := lt _ _ _ _ h1'; omega
    · rw [upd_ne _ _ hl1] at h1'; rw [upd_ne _ _ hl2] at h2'
      exact h.inj _ _ _ _ _ _ _ h1' h2'
  · intro k hk; have := h.P k hk; simp; omega
  · exact h.keep.alloc _
  · simp [St.new]
  · exact h.per
theorem Good.newRoot (h : Good w0 M st e a) (l : Nat) {d : D} {cs : Array Value} (T : TypeId) (hp : d.plain) (hr : Rep e d cs.toList) :
    Good w0 M (st.new l e.G e.w.heap.size d) ⟨(st.new l e.G e.w.heap.size d).R, e.G + 1, e.P, e.w.alloc (.cells cs T (0, 0))⟩ a :=
  h.newRootC l T hp hr fun j v hj => by simpa using hj
def ZeroOk (P : Program) (T : TypeId) (z : D) : Prop := z.plain ∧ ∃ i v, P.info? T = some i ∧ i.zero = some v ∧ ∀ e, VRep e z v
theorem op_alloc (h : Good w0 M st e a) (T : TypeId) {l : Nat} {z : D} (hl : dst = some l) (hd : st.dstOk dst) (hz : ZeroOk P T z) (hK : ∀ g b, st.n ≤ b → K ((st.new l g b z).put (some l) (.ptr l g 0 []))) :
    (Oper.mk dst (.alloc T) ty pos after gd).wp P a e.w (Lift w0 M K) Q := by
  subst hl
  obtain ⟨hzp, i, v, hi, hv, hz⟩ := hz
  have hr := VRep_cells hzp (hz e)
  have hgood := h.newRoot l (cs := v.cells) T hzp hr
  refine wp_value (v := .pointer (some ⟨e.w.heap.size, 0, none⟩)) (w' := e.w.alloc (.cells v.cells T (0, 0))) ?_ ⟨_, hK e.G e.w.heap.size h.n, _, rfl, hgood.put (by simpa [St.dstOk, St.new] using hd) ?_⟩
  · simp only [execOp, Instr.alloc]
    rw [Sem.run_bind, Sem.run_bind]
    have : (zeroValue T).run P e.w = .ok v e.w := by
      unfold zeroValue
      rw [Sem.run_bind, run_typeInfo hi, Result.andThen_ok, hv]; rfl
    rw [this, Result.andThen_ok]
    rfl
  · refine ⟨Nat.lt_succ_self _, _, rfl, fun b d hb => ?_⟩
    have hb' : upd st.R l (some (e.G, e.w.heap.size, z)) l = some (e.G, b, d) := hb
    rw [upd_same] at hb'
    simp only [Option.some.injEq, Prod.mk.injEq] at hb'
    rw [hb'.2.1]
theorem op_box (h : Good w0 M st e a) (T : TypeId) (x : Operand) {l : Nat} (hl : dst = some l) (hd : st.dstOk dst) (hp : (st.ev x).plain) (hK : ∀ g b, st.n ≤ b → K ((st.new l g b (st.ev x)).put (some l) (.ptr l g 0 []))) :
    (Oper.mk dst (.box T x) ty pos after gd).wp P a e.w (Lift w0 M K) Q := by
  subst hl
  have hr := VRep_cells hp (h.ev x)
  have hgood := h.newRoot l (cs := (a.eval x).cells) T hp hr
  refine wp_value (v := .pointer (some ⟨e.w.heap.size, 0, none⟩)) (w' := e.w.alloc (.cells (a.eval x).cells T (0, 0))) rfl ⟨_, hK e.G e.w.heap.size h.n, _, rfl, hgood.put (by simpa [St.dstOk, St.new] using hd) ?_⟩
  refine ⟨Nat.lt_succ_self _, _, rfl, fun b d hb => ?_⟩
  have hb' : upd st.R l (some (e.G, e.w.heap.size, st.ev x)) l = some (e.G, b, d) := hb
  rw [upd_same] at hb'
  simp only [Option.some.injEq, Prod.mk.injEq] at hb'
  rw [hb'.2.1]
end ops
end Go.Proofs.YtncinhlaabdlaaaGreat.IM
end
section
namespace Go.Proofs.YtncinhlaabdlaaaGreat.IM
open Go Go.RowKit
set_option linter.unusedVariables false
theorem fold_set : ∀ (vs : List Value) (off : Nat) (cs : Array Value), off + vs.length ≤ cs.size →
    ∀ j0, ((vs.zipIdx j0).foldl (fun (cs : Array Value) (x : Value × Nat) => cs.setIfInBounds (off - j0 + x.2) x.1) cs).toList = if j0 ≤ off then splice cs.toList off vs else ((vs.zipIdx j0).foldl (fun (cs : Array Value) (x : Value × Nat) => cs.setIfInBounds (off - j0 + x.2) x.1) cs).toList := by
  intro vs
  induction vs with
  | nil => intro off cs h j0; split <;> simp [splice]
  | cons v vs ih =>
    intro off cs h j0
    split
    · rename_i hj
      simp only [List.zipIdx_cons, List.foldl_cons]
      have h1 : off - j0 + j0 = off := by omega
      rw [h1]
      have h2 := ih (off + 1) (cs.setIfInBounds off v) (by simp at h ⊢; omega) (j0 + 1)
      rw [if_pos (by omega)] at h2
      have h3 : off + 1 - (j0 + 1) = off - j0 := by omega
      rw [h3] at h2
      rw [h2]
      apply List.ext_getElem?
      intro k
      simp only [List.length_cons] at h
      rw [splice_get (by simp; omega), splice_get (by simp; omega)]
      simp only [Array.toList_setIfInBounds, List.getElem?_set, List.length_cons, Array.length_toList]
      by_cases h5 : off = k
      · subst h5
        rw [if_neg (by omega), if_pos rfl, if_pos (by omega), if_pos (by omega)]
        simp
      · by_cases h6 : off + 1 ≤ k ∧ k < off + 1 + vs.length
        · rw [if_pos h6, if_pos (by omega)]
          have : k - off = (k - (off + 1)) + 1 := by omega
          rw [this]; simp
        · rw [if_neg h6, if_neg h5, if_neg (by omega)]
    · rfl
theorem fold_cells (v : Value) (off : Nat) (cs : Array Value) (h : off + v.cells.size ≤ cs.size) :
    (v.cells.zipIdx.foldl (fun (cs : Array Value) (x : Value × Nat) => cs.setIfInBounds (off + x.2) x.1) cs).toList = splice cs.toList off v.cells.toList := by
  have h1 := fold_set v.cells.toList off cs (by simpa using h) 0
  rw [if_pos (Nat.zero_le _)] at h1
  rw [← h1, ← Array.foldl_toList]
  simp
def buildD (pl : Nat → Option (Nat × Nat)) (ev : Operand → D) : D → List (Nat × Operand) → (D → Prop) → Prop
  | d, [], k => k d
  | d, (i, x) :: rest, k => i < d.kd.cnt ∧ pl i = some (d.kd.off i, (ev x).size) ∧ (d.chd i).plain ∧ (d.chd i).size = (ev x).size ∧ (ev x).plain ∧ buildD pl ev (d.set [i] (ev x)) rest k
theorem run_fill {e : Env} {st : St} {w0 : World} {M : Fr} {a : Act} (h : Good w0 M st e a) (pl : Nat → Option (Nat × Nat)) (k : D → Prop) : ∀ (parts : List (Nat × Operand)) (d : D) (cells : Array Value), Rep e d cells.toList →
    buildD pl st.ev d parts k → ∃ d' cells', Instr.fill pl cells (parts.map fun x => (x.1, a.eval x.2)) = some cells' ∧ Rep e d' cells'.toList ∧ cells'.size = cells.size ∧ k d' := by
  intro parts
  induction parts with
  | nil => intro d cells hr hb; exact ⟨d, cells, rfl, hr, rfl, hb⟩
  | cons p parts ih =>
    obtain ⟨i, x⟩ := p
    intro d cells hr hb
    obtain ⟨h1, h2, h3, h4, h5, h6⟩ := hb
    have hv := VRep_cells h5 (h.ev x)
    have hsz : (a.eval x).cells.toList.length = (st.ev x).size := Rep_length h5 hv
    have hset := Rep_set hv [i] d cells.toList hr ⟨h1, trivial⟩ h3 (by rw [hsz]; exact h4.symm)
    have hoff : d.offOf [i] = d.kd.off i := by simp [D.offOf]
    rw [hoff] at hset
    simp only [Array.length_toList] at hset hsz
    obtain ⟨d', cells', q1, q2, q3, q4⟩ := ih (d.set [i] (st.ev x)) ((a.eval x).cells.zipIdx.foldl (fun (cs : Array Value) (y : Value × Nat) => cs.setIfInBounds (d.kd.off i + y.2) y.1) cells)
      (by rw [fold_cells _ _ _ hset.1]; exact hset.2) h6
    refine ⟨d', cells', ?_, q2, ?_, q4⟩
    · simp only [List.map_cons, Instr.fill, h2]
      rw [if_neg]
      · exact q1
      · simp only [hsz, ne_eq, not_true_eq_false, decide_false, Bool.false_or, decide_eq_true_eq]; omega
    · rw [q3]
      have := congrArg List.length (fold_cells (a.eval x) (d.kd.off i) cells hset.1)
      rw [splice_length (by simpa using hset.1)] at this
      simpa using this
def tplaces (P : Program) (T : TypeId) : Option (List (Nat × Nat)) := (P.underlying T).bind fun | .struct fs => fs.toList.mapM (fun f => (P.info? f.type).map fun i => (f.offset, i.size)) | _ => none
section ops
variable {P : Program} {w0 : World} {M : Fr} {st : St} {e : Env} {a : Act} {K : St → Prop} {Q : Exit → Act → World → Prop}
variable {dst : Option Tmp} {ty : TypeId} {pos : String} {after : Array Edge} {gd : Option (Nat × Bool)}
theorem op_build (h : Good w0 M st e a) (T : TypeId) (parts : Array (Nat × Operand)) {pl : List (Nat × Nat)} {z : D} (hp : tplaces P T = some pl) (hz : ZeroOk P T z) (hd : st.dstOk dst)
    (hb : buildD (fun i => pl[i]?) st.ev z parts.toList fun d => d.isNode = some true ∧ K (st.put dst d)) :
    (Oper.mk dst (.build T parts) ty pos after gd).wp P a e.w (Lift w0 M K) Q := by
  obtain ⟨hzp, i, v, hi, hv, hz⟩ := hz
  obtain ⟨d', cells', q1, q2, q3, q4, q5⟩ := run_fill h (fun i => pl[i]?) _ parts.toList z v.cells (VRep_cells hzp (hz e)) hb
  have hbuilt : P.built T (parts.map fun (i, x) => (i, a.eval x)).toList = some cells' := by
    unfold tplaces at hp
    cases hu : P.underlying T with
    | none => rw [hu] at hp; cases hp
    | some d =>
      rw [hu] at hp
      cases d with
      | struct fs =>
        simp only [Option.bind_some] at hp
        unfold Program.built
        simp only [hi, hu, hv, hp]
        simpa using q1
      | _ => cases hp
  refine wp_value (v := .agg cells') (w' := e.w) ?_ (h.lift hd ?_ q5)
  · simp only [execOp]
    have hr : (Instr.build T (parts.map fun x => (x.1, a.eval x.2))).run P e.w = .ok (.agg cells') e.w := run_build e.w T _ _ hbuilt
    rw [Sem.run_bind, hr]
    rfl
  · cases d' with
    | node k f => exact ⟨cells', rfl, q2⟩
    | tup n f => cases q4
    | any => cases q4
    | _ => cases q4
theorem telem_spec {T E : TypeId} (h : telem P T = some E) : P.underlying T = some (.slice E) := by
  unfold telem at h
  cases hu : P.underlying T with
  | none => rw [hu] at h; cases h
  | some d => rw [hu] at h; cases d <;> simp at h; subst h; rfl
theorem run_equal_nil {T E : TypeId} {w : World} (hu : P.underlying T = some (.slice E)) (a : Option Addr) (n c : Nat) : (Op.equal T (.slice a n c) (.slice none 0 0)).run P w = .ok a.isNone w := by
  show (Op.equalIn 10000 T _ _).run P w = _
  unfold Op.equalIn
  rw [Sem.run_bind, run_underlying hu, Result.andThen_ok]
  cases a <;> rfl
def nilD : D → Option (Option Bool)
  | .nil => some none
  | .sl _ _ _ _ _ => some (some false)
  | .msl _ _ _ _ _ _ _ => some (some false)
  | _ => none
theorem op_eqNil (h : Good w0 M st e a) (T T2 : TypeId) {E : TypeId} (x : Operand) (neg : Bool) {r : Option Bool} (hT : telem P T = some E) (hx : nilD (st.ev x) = some r) (hd : st.dstOk dst)
    (hK : ∀ b : Bool, (r = none ∨ r = some b) → K (st.put dst (.lit (.bool (b != neg))))) :
    (Oper.mk dst (.binOp (if neg then .neq else .eql) T x (.const (.slice none 0 0)) T2) ty pos after gd).wp P a e.w (Lift w0 M K) Q := by
  have hv := h.ev x
  have hs : ∃ ad n c, a.eval x = .slice ad n c ∧ (r = none ∨ r = some ad.isNone) := by
    revert hv hx
    generalize st.ev x = d
    intro hx hv
    cases d with
    | nil =>
      simp only [nilD, Option.some.injEq] at hx
      obtain ⟨ad, hv⟩ := hv
      simp only [List.cons.injEq, and_true] at hv
      exact ⟨ad, 0, 0, hv, .inl hx.symm⟩
    | sl t zb n sz f =>
      simp only [nilD, Option.some.injEq] at hx
      obtain ⟨o, c, ps, hv, _⟩ := hv
      simp only [List.cons.injEq, and_true] at hv
      exact ⟨_, n, c, hv, .inr hx.symm⟩
    | msl l g o p i n sz =>
      simp only [nilD, Option.some.injEq] at hx
      obtain ⟨_, ad, c, hv, _⟩ := hv
      simp only [List.cons.injEq, and_true] at hv
      exact ⟨_, n, c, hv, .inr hx.symm⟩
    | _ => cases hx
  obtain ⟨ad, n, c, hxv, hr⟩ := hs
  have hrun := run_equal_nil (w := e.w) (telem_spec hT) ad n c
  have hK := hK ad.isNone hr
  have hr : (do eqGuard (if neg then .neq else .eql) T x (.const (.slice none 0 0)) (.slice ad n c) (.slice none 0 0); binOp (if neg then .neq else .eql) T (.slice ad n c) (.slice none 0 0) : Sem Value).run P e.w = .ok (.bool (ad.isNone != neg)) e.w := by
    cases neg with
    | false =>
      simp only [eqGuard, binOp, Bool.false_eq_true, if_false]
      rw [Sem.run_bind]
      show (Result.ok () e.w).andThen _ = _
      rw [Result.andThen_ok, Sem.run_bind, hrun, Result.andThen_ok]
      simp
    | true =>
      simp only [eqGuard, binOp, if_true]
      rw [Sem.run_bind]
      show (Result.ok () e.w).andThen _ = _
      rw [Result.andThen_ok, Sem.run_bind, hrun, Result.andThen_ok]
      simp
  refine wp_value (v := .bool (ad.isNone != neg)) (w' := e.w) ?_ (h.lift hd (VRep_mk (v := .bool _) trivial) hK)
  simp only [execOp]
  rw [hxv, Sem.run_bind]
  exact (congrArg (fun r => Result.andThen r _) hr).trans rfl
theorem flat_const (n : Nat) (zs : List Value) (j : Nat) (v : Value) (h : (flat n fun _ => zs)[j]? = some v) : j < n * zs.length ∧ zs[j % zs.length]? = some v := by
  induction n generalizing v with
  | zero => simp at h
  | succ n ih =>
    have hl : (flat n fun _ => zs).length = n * zs.length := by
      clear ih h
      induction n with
      | zero => simp
      | succ n ih => rw [flat_succ, List.length_append, ih, Nat.succ_mul]
    rw [flat_succ] at h
    rcases Nat.lt_or_ge j (n * zs.length) with h1 | h1
    · rw [List.getElem?_append_left (by omega)] at h
      obtain ⟨q1, q2⟩ := ih _ h
      exact ⟨by rw [Nat.succ_mul]; omega, q2⟩
    · rw [List.getElem?_append_right (by omega), hl] at h
      have hlt := (List.getElem?_eq_some_iff.1 h).1
      refine ⟨by rw [Nat.succ_mul]; omega, ?_⟩
      have : j = (j - n * zs.length) + zs.length * n := by have := Nat.mul_comm zs.length n; omega
      rw [this, Nat.add_mul_mod_self_left, Nat.mod_eq_of_lt hlt]
      exact h
theorem op_makeSlice (h : Good w0 M st e a) (T : TypeId) (x y : Operand) {l : Nat} {E : TypeId} {z : D} {k k' : IntKind} {n c : Int} {by_ : Nat} (hT : telem P T = some E) (hz : ZeroOk P E z) (hby : tbytes P E = some by_) (hsz : tsz P E = some z.size)
    (hx : st.ev x = .lit (.int k n)) (hy : st.ev y = .lit (.int k' c)) (h0 : 0 ≤ n) (hnc : n ≤ c) (hb : (by_ : Int) * c ≤ 281474976710656) (h63 : c ≤ 9223372036854775807) (hl : dst = some l) (hd : st.dstOk dst)
    (hK : ∀ g b, st.n ≤ b → K ((st.new l g b (.node (.arr n.toNat z.size) fun _ => z)).put (some l) (.msl l g 0 [] 0 n.toNat z.size))) :
    (Oper.mk dst (.makeSlice T x y) ty pos after gd).wp P a e.w (Lift w0 M K) Q := by
  subst hl
  obtain ⟨hzp, i, v, hi, hv, hz⟩ := hz
  have hr := VRep_cells hzp (hz e)
  have hlen : v.cells.toList.length = z.size := Rep_length hzp hr
  have hxv := (VRep_lit (by have := h.ev x; rw [hx] at this; exact this)).1
  have hyv := (VRep_lit (by have := h.ev y; rw [hy] at this; exact this)).1
  have his : i.size = z.size := by unfold tsz at hsz; rw [hi] at hsz; simpa using hsz
  have hib : i.bytes = by_ := by unfold tbytes at hby; rw [hi] at hby; simpa using hby
  have hrun := run_make (P := P) e.w T E i v (telem_spec hT) hi hv k k' n c h0 hnc (by rw [hib]; exact hb) h63
  have hgood := h.newRootC (d := .node (.arr n.toNat z.size) fun _ => z) (cs := madeCells v.cells (c.toNat * i.size)) (ds := flat n.toNat fun _ => v.cells.toList) l E trivial
    ⟨fun _ => v.cells.toList, fun j hj => ⟨hlen, hr⟩, rfl⟩ (fun j u hj => by
      obtain ⟨q1, q2⟩ := flat_const _ _ _ _ hj
      rw [hlen] at q1 q2
      have hle : n.toNat * z.size ≤ c.toNat * z.size := Nat.mul_le_mul_right _ (by omega)
      have hzs : v.cells.size = z.size := by simpa using hlen
      have hmod := (List.getElem?_eq_some_iff.1 q2)
      obtain ⟨q3, q4⟩ := hmod
      simp only [madeCells, his, Array.getElem?_map, hzs]
      rw [Array.getElem?_eq_getElem (by simp; omega)]
      simp only [Array.getElem_range, Option.map_some, Option.some.injEq]
      rw [getElem!_pos v.cells (j % z.size) (by simpa using q3)]
      simpa using q4)
  refine wp_value (v := .slice (some ⟨e.w.heap.size, 0, none⟩) n.toNat c.toNat) (w' := e.w.alloc (.cells (madeCells v.cells (c.toNat * i.size)) E (0, 0))) ?_ ⟨_, hK e.G e.w.heap.size h.n, _, rfl, hgood.put (by simpa [St.dstOk, St.new] using hd) ?_⟩
  · simp only [execOp]
    rw [hxv, hyv, Sem.run_bind, hrun]
    rfl
  · refine ⟨Nat.lt_succ_self _, _, c.toNat, rfl, by omega, fun b d hb => ?_⟩
    have hb' : upd st.R l (some (e.G, e.w.heap.size, .node (.arr n.toNat z.size) fun _ => z)) l = some (e.G, b, d) := hb
    rw [upd_same] at hb'
    simp only [Option.some.injEq, Prod.mk.injEq] at hb'
    obtain ⟨_, rfl, _⟩ := hb'
    refine ⟨rfl, _, E, _, heap_alloc_new _ _, ?_⟩
    rw [size_madeCells, his]; omega
theorem made_flat (zs : Array Value) (n : Nat) : (madeCells zs (n * zs.size)).toList = flat n fun _ => zs.toList := by
  have hl : (flat n fun _ => zs.toList).length = n * zs.size := by
    induction n with
    | zero => simp
    | succ n ih => rw [flat_succ, List.length_append, ih, Nat.succ_mul]; simp
  apply List.ext_getElem?
  intro j
  rcases Nat.lt_or_ge j (n * zs.size) with hj | hj
  · have hj' : j < (flat n fun _ => zs.toList).length := by omega
    obtain ⟨q1, q2⟩ := flat_const n zs.toList j _ (List.getElem?_eq_getElem hj')
    rw [List.getElem?_eq_getElem hj', ← q2]
    simp only [Array.length_toList, Array.getElem?_toList] at q2 ⊢
    simp only [madeCells, Array.getElem?_map]
    rw [Array.getElem?_eq_getElem (by simpa using hj)]
    have q3 := (Array.getElem?_eq_some_iff.1 q2).1
    simp only [Array.getElem_range, Option.map_some]
    rw [getElem!_pos zs (j % zs.size) q3, Array.getElem?_eq_getElem q3]
  · rw [List.getElem?_eq_none (by rw [Array.length_toList, size_madeCells]; exact hj), List.getElem?_eq_none (by omega)]
theorem op_buildSlice (h : Good w0 M st e a) (T : TypeId) (len : Nat) (parts : Array (Nat × Operand)) {l : Nat} {E : TypeId} {z : D} (hT : telem P T = some E) (hz : ZeroOk P E z) (hsz : tsz P E = some z.size)
    (hlim : len * z.size ≤ 16777216) (hl : dst = some l) (hd : st.dstOk dst)
    (hb : buildD (fun i => some (i * z.size, z.size)) st.ev (.node (.arr len z.size) fun _ => z) parts.toList fun d => d.plain ∧ ∀ g b, st.n ≤ b → K ((st.new l g b d).put (some l) (.msl l g 0 [] 0 len z.size))) :
    (Oper.mk dst (.buildSlice T len parts) ty pos after gd).wp P a e.w (Lift w0 M K) Q := by
  subst hl
  obtain ⟨hzp, i, v, hi, hv, hz⟩ := hz
  have hr := VRep_cells hzp (hz e)
  have hlen : v.cells.toList.length = z.size := Rep_length hzp hr
  have his : i.size = z.size := by unfold tsz at hsz; rw [hi] at hsz; simpa using hsz
  have hzs : v.cells.size = z.size := by simpa using hlen
  have h0 : Rep e (.node (.arr len z.size) fun _ => z) (madeCells v.cells (len * z.size)).toList := by
    rw [← hzs, made_flat, hzs]
    exact ⟨fun _ => v.cells.toList, fun j hj => ⟨hlen, hr⟩, rfl⟩
  obtain ⟨d', cells', q1, q2, q3, q4, q5⟩ := run_fill h (fun i => some (i * z.size, z.size)) _ parts.toList _ _ h0 hb
  rw [size_madeCells] at q3
  have hgood := h.newRoot (d := d') (cs := cells') l E q4 q2
  refine wp_value (v := .slice (some ⟨e.w.heap.size, 0, none⟩) len len) (w' := e.w.alloc (.cells cells' E (0, 0))) ?_ ⟨_, q5 e.G e.w.heap.size h.n, _, rfl, hgood.put (by simpa [St.dstOk, St.new] using hd) ?_⟩
  · have hrun : (Instr.buildSlice T len (parts.map fun x => (x.1, a.eval x.2))).run P e.w = .ok (.slice (some ⟨e.w.heap.size, 0, none⟩) len len) (e.w.alloc (.cells cells' E (0, 0))) := by
      have hnl : ¬ (16777216 < len * z.size) := by omega
      have hq1 : Instr.fill (fun i => some (i * z.size, z.size)) (madeCells v.cells (len * z.size)) (parts.map fun x => (x.1, a.eval x.2)).toList = some cells' := by simpa using q1
      unfold madeCells at hq1
      by_cases hn : len * z.size = 0
      · simp [Instr.buildSlice, run_underlying (telem_spec hT), sizeOf, typeInfo, hi, his, hn, newRow] at hq1 ⊢
        rw [Array.range_zero'] at hq1 ⊢
        simp at hq1
        simp [hq1]
      · simp [Instr.buildSlice, run_underlying (telem_spec hT), sizeOf, typeInfo, zeroValue, hi, hv, his, hn, hnl, newRow] at hq1 ⊢
        simp [hq1]
    simp only [execOp]
    rw [Sem.run_bind, hrun]
    rfl
  · refine ⟨Nat.lt_succ_self _, _, len, rfl, Nat.le_refl _, fun b d hb => ?_⟩
    have hb' : upd st.R l (some (e.G, e.w.heap.size, d')) l = some (e.G, b, d) := hb
    rw [upd_same] at hb'
    simp only [Option.some.injEq, Prod.mk.injEq] at hb'
    obtain ⟨_, rfl, _⟩ := hb'
    refine ⟨rfl, _, E, _, heap_alloc_new _ _, ?_⟩
    rw [q3]; omega
end ops
end Go.Proofs.YtncinhlaabdlaaaGreat.IM
end
section
namespace Go.Proofs.YtncinhlaabdlaaaGreat.IM
open Go Go.RowKit
set_option linter.unusedVariables false
def D.still : D → Prop
  | .lit _ => True
  | .nil => True
  | .sl _ _ _ _ f => ∀ i, (f i).still
  | .opq _ _ _ => True
  | .node _ f => ∀ i, (f i).still
  | .ptr _ _ _ _ => False
  | .cptr d => d.still
  | .msl _ _ _ _ _ _ _ => False
  | .fn _ _ c => ∀ i, (c i).still
  | .tup _ f => ∀ i, (f i).still
  | .any => True
inductive Lab where
  | gone
  | to (l g : Nat)
  | per (b : Nat) (d : D)
abbrev Relab := Nat → Nat → Lab
open Classical in
noncomputable def rl : Nat → Relab → D → D
  | 0, _, d => if d.still then d else .any
  | k + 1, F, d => if d.still then d else
    match d with
    | .lit v => .lit v
    | .nil => .nil
    | .sl t zb n sz f => .sl t zb n sz fun i => rl k F (f i)
    | .opq v S φ => .opq v S φ
    | .node kd f => .node kd fun i => rl k F (f i)
    | .cptr d => .cptr (rl k F d)
    | .fn f n c => .fn f n fun i => rl k F (c i)
    | .tup n f => .tup n fun i => rl k F (f i)
    | .any => .any
    | .ptr l g o p =>
      match F l g with
      | .gone => .any
      | .to l' g' => .ptr l' g' o p
      | .per _ d => if o = 0 ∧ p = [] then .cptr (rl k F d) else .any
    | .msl l g o p i n sz =>
      match F l g with
      | .gone => .any
      | .to l' g' => .msl l' g' o p i n sz
      | .per b d =>
        match d.get p with
        | .node (.arr N sz') f => if d.inb p ∧ d.offOf p = o ∧ i = 0 ∧ n ≤ N ∧ sz' = sz then .sl b (o == 0) n sz fun i => rl k F (f i) else .any
        | _ => .any
theorem rl_still {k : Nat} {F : Relab} {d : D} (h : d.still) : rl k F d = d := by
  cases k <;> simp [rl, h]
theorem rl_lit (k : Nat) (F : Relab) (v : Value) : rl k F (.lit v) = .lit v := rl_still trivial
theorem rl_nil (k : Nat) (F : Relab) : rl k F .nil = .nil := rl_still trivial
theorem rl_any (k : Nat) (F : Relab) : rl k F .any = .any := rl_still trivial
theorem rl_node (k : Nat) (F : Relab) (kd : Kd) (f : Nat → D) : rl (k + 1) F (.node kd f) = .node kd fun i => rl k F (f i) := by
  by_cases h : (D.node kd f).still
  · rw [rl_still h]; congr 1; funext i; exact (rl_still (h i)).symm
  · simp [rl, h]
theorem rl_opq (k : Nat) (F : Relab) (v : Value) (S : Nat → Prop) (φ : World → Prop) : rl k F (.opq v S φ) = .opq v S φ := rl_still trivial
theorem rl_sl (k : Nat) (F : Relab) (t : Nat) (zb : Bool) (n sz : Nat) (f : Nat → D) : rl (k + 1) F (.sl t zb n sz f) = .sl t zb n sz fun i => rl k F (f i) := by
  by_cases h : (D.sl t zb n sz f).still
  · rw [rl_still h]; congr 1; funext i; exact (rl_still (h i)).symm
  · simp [rl, h]
theorem rl_tup (k : Nat) (F : Relab) (n : Nat) (f : Nat → D) : rl (k + 1) F (.tup n f) = .tup n fun i => rl k F (f i) := by
  by_cases h : (D.tup n f).still
  · rw [rl_still h]; congr 1; funext i; exact (rl_still (h i)).symm
  · simp [rl, h]
theorem rl_cptr (k : Nat) (F : Relab) (d : D) : rl (k + 1) F (.cptr d) = .cptr (rl k F d) := by
  by_cases h : d.still
  · rw [rl_still (show (D.cptr d).still from h), rl_still h]
  · simp [rl, D.still, h]
theorem rl_fn (k : Nat) (F : Relab) (g n : Nat) (f : Nat → D) : rl (k + 1) F (.fn g n f) = .fn g n fun i => rl k F (f i) := by
  by_cases h : (D.fn g n f).still
  · rw [rl_still h]; congr 1; funext i; exact (rl_still (h i)).symm
  · simp [rl, h]
theorem rl_ptr (k : Nat) (F : Relab) (l g o : Nat) (p : List Nat) : rl (k + 1) F (.ptr l g o p) = match F l g with
      | .gone => .any
      | .to l' g' => .ptr l' g' o p
      | .per _ d => if o = 0 ∧ p = [] then .cptr (rl k F d) else .any := by simp [rl, D.still]
open Classical in
theorem rl_msl (k : Nat) (F : Relab) (l g o : Nat) (p : List Nat) (i n sz : Nat) : rl (k + 1) F (.msl l g o p i n sz) = match F l g with
      | .gone => .any
      | .to l' g' => .msl l' g' o p i n sz
      | .per b d =>
        match d.get p with
        | .node (.arr N sz') f => if d.inb p ∧ d.offOf p = o ∧ i = 0 ∧ n ≤ N ∧ sz' = sz then .sl b (o == 0) n sz fun i => rl k F (f i) else .any
        | _ => .any := by simp [rl, D.still]
theorem lt_of_block {w : World} {b : Nat} {x : Obj} (h : w.heap[b]? = some x) : b < w.heap.size := by
  rcases Nat.lt_or_ge b w.heap.size with h' | h'
  · exact h'
  · rw [Array.getElem?_eq_none h'] at h; cases h
theorem flat_prefix {m N : Nat} {ps : Nat → List Value} (h : m ≤ N) {j : Nat} {v : Value} (hj : (flat m ps)[j]? = some v) : (flat N ps)[j]? = some v := by
  obtain ⟨q, rfl⟩ : ∃ q, N = m + q := ⟨N - m, by omega⟩
  clear h
  induction q with
  | zero => exact hj
  | succ q ihq =>
    rw [← Nat.add_assoc, flat_succ, List.getElem?_append_left]
    · exact ihq
    · exact (List.getElem?_eq_some_iff.1 ihq).1
theorem Rep_still {e e' : Env} (hw : e'.w = e.w) (hP : ∀ b, e.P b → e'.P b) {d : D} : ∀ {cs : List Value}, d.still → Rep e d cs → Rep e' d cs := by
  induction d with
  | lit v => intro cs _ h; exact h
  | nil => intro cs _ h; exact h
  | sl t zb n sz f ih =>
    intro cs hs h
    obtain ⟨o, c, ps, h1, h2, h3, h4, h5⟩ := h
    exact ⟨o, c, ps, h1, h2, hP _ h3, fun i hi => ⟨(h4 i hi).1, ih i (hs i) (h4 i hi).2⟩, by rw [hw]; exact h5⟩
  | opq v S φ =>
    intro cs hs h
    obtain ⟨h1, h2, h3, h4⟩ := h
    exact ⟨h1, h2, fun b hb => hP _ (h3 b hb), by rw [hw]; exact h4⟩
  | node k f ih =>
    intro cs hs h
    obtain ⟨ps, h1, h2⟩ := h
    exact ⟨ps, fun i hi => ⟨(h1 i hi).1, ih i (hs i) (h1 i hi).2⟩, h2⟩
  | cptr d ih =>
    intro cs hs h
    obtain ⟨b, o, ds, h1, h2, h3, h4⟩ := h
    exact ⟨b, o, ds, h1, hP _ h2, ih hs h3, by rw [hw]; exact h4⟩
  | fn f n c ih =>
    intro cs hs h
    obtain ⟨vs, h1, h2, h3⟩ := h
    exact ⟨vs, h1, h2, fun i hi => ⟨(h3 i hi).1, ih i (hs i) (h3 i hi).2⟩⟩
  | tup n f => intro cs _ h; exact h.elim
  | any => intro cs _ h; exact h
  | ptr _ _ _ _ => intro cs hs; exact hs.elim
  | msl _ _ _ _ _ _ _ => intro cs hs; exact hs.elim
theorem VRep_still {e e' : Env} (hw : e'.w = e.w) (hP : ∀ b, e.P b → e'.P b) {d : D} : ∀ {v : Value}, d.still → VRep e d v → VRep e' d v := by
  induction d with
  | node k f => intro v hs h; obtain ⟨cs, h1, h2⟩ := h; exact ⟨cs, h1, Rep_still hw hP hs h2⟩
  | tup n f ih => intro v hs h; obtain ⟨vs, h1, h2, h3⟩ := h; exact ⟨vs, h1, h2, fun i hi => ih i (hs i) (h3 i hi)⟩
  | any => intro v _ h; trivial
  | lit u => intro v hs h; exact Rep_still (d := .lit u) hw hP hs h
  | nil => intro v hs h; exact Rep_still (d := .nil) hw hP hs h
  | sl t zb n sz f => intro v hs h; exact Rep_still (d := .sl t zb n sz f) hw hP hs h
  | opq u S φ => intro v hs h; exact Rep_still (d := .opq u S φ) hw hP hs h
  | cptr d => intro v hs h; exact Rep_still (d := .cptr d) hw hP hs h
  | fn f n c => intro v hs h; exact Rep_still (d := .fn f n c) hw hP hs h
  | ptr _ _ _ _ => intro v hs; exact hs.elim
  | msl _ _ _ _ _ _ _ => intro v hs; exact hs.elim
structure RelabOk (e e' : Env) (F : Relab) : Prop where
  w : e'.w = e.w
  P : ∀ b, e.P b → e'.P b
  to_ : ∀ l g l' g', F l g = .to l' g' → g < e.G → g' < e'.G ∧ ∀ b d, e'.R l' = some (g', b, d) → ∃ d', e.R l = some (g, b, d')
  per : ∀ l g b d, F l g = .per b d → e.R l = some (g, b, d) ∧ RootOk e b d ∧ e'.P b
theorem rl_leaf (k : Nat) (F : Relab) {d : D} (h : d.isNode ≠ some true) : (rl k F d).isNode ≠ some true := by
  by_cases hs : d.still
  · rw [rl_still hs]; exact h
  · cases k with
    | zero => simp [rl, hs, D.isNode]
    | succ k =>
      cases d with
      | node kd f => exact absurd rfl h
      | ptr l g o p =>
        rw [rl_ptr]; split <;> (try split) <;> simp [D.isNode]
      | msl l g o p i n sz =>
        rw [rl_msl]; split <;> (try split) <;> (try split) <;> simp [D.isNode]
      | cptr d => rw [rl_cptr]; simp [D.isNode]
      | fn f n c => rw [rl_fn]; simp [D.isNode]
      | sl t zb n sz f => rw [rl_sl]; simp [D.isNode]
      | tup n f => rw [rl_tup]; simp [D.isNode]
      | _ => exact absurd trivial hs
theorem Rep_rl {e e' : Env} {F : Relab} (ho : RelabOk e e' F) : ∀ (k : Nat) (d : D) (cs : List Value), Rep e d cs → Rep e' (rl k F d) cs := by
  intro k
  induction k with
  | zero =>
    intro d cs h
    by_cases hs : d.still
    · rw [rl_still hs]; exact Rep_still ho.w ho.P hs h
    · simp only [rl, hs, if_false]; exact Rep_leaf h
  | succ k ih =>
    intro d cs h
    cases d with
    | lit v => rw [rl_lit]; exact h
    | nil => rw [rl_nil]; exact h
    | any => rw [rl_any]; exact h
    | opq v S φ =>
      rw [rl_opq]
      exact Rep_still (d := .opq v S φ) ho.w ho.P trivial h
    | sl t zb n sz f =>
      rw [rl_sl]
      obtain ⟨o, c, ps, h1, h2, h3, h4, h5⟩ := h
      exact ⟨o, c, ps, h1, h2, ho.P _ h3, fun i hi => ⟨(h4 i hi).1, ih _ _ (h4 i hi).2⟩, by rw [ho.w]; exact h5⟩
    | node kd f =>
      rw [rl_node]
      obtain ⟨ps, h1, h2⟩ := h
      exact ⟨ps, fun i hi => ⟨(h1 i hi).1, ih _ _ (h1 i hi).2⟩, h2⟩
    | ptr l g o p =>
      rw [rl_ptr]
      have hany : Rep e' .any cs := Rep_leaf h
      obtain ⟨hg, a, hcs, hq⟩ := h
      split
      · exact hany
      · rename_i l' g' hF
        obtain ⟨h1, h2⟩ := ho.to_ _ _ _ _ hF hg
        refine ⟨h1, a, hcs, fun b d hd => ?_⟩
        obtain ⟨d', hd'⟩ := h2 _ _ hd
        exact hq _ _ hd'
      · rename_i b d hF
        obtain ⟨hR, hro, hP⟩ := ho.per _ _ _ _ hF
        split
        · rename_i hc
          obtain ⟨rfl, rfl⟩ := hc
          obtain rfl := hq _ _ hR
          obtain ⟨C, T, ds, r1, r2, r3⟩ := hro.row
          exact ⟨b, 0, ds, hcs, hP, ih _ _ r2, C, T, _, by rw [ho.w]; exact r1, fun j v hj => by rw [Nat.zero_add]; exact r3 j v hj⟩
        · exact hany
    | cptr d =>
      rw [rl_cptr]
      obtain ⟨b, o, ds, h1, h2, h3, h4⟩ := h
      exact ⟨b, o, ds, h1, ho.P _ h2, ih _ _ h3, by rw [ho.w]; exact h4⟩
    | msl l g o p i n sz =>
      rw [rl_msl]
      have hany : Rep e' .any cs := Rep_leaf h
      obtain ⟨hg, a, c, hcs, hc, hq⟩ := h
      split
      · exact hany
      · rename_i l' g' hF
        obtain ⟨h1, h2⟩ := ho.to_ _ _ _ _ hF hg
        refine ⟨h1, a, c, hcs, hc, fun b d hd => ?_⟩
        obtain ⟨d', hd'⟩ := h2 _ _ hd
        rw [ho.w]
        exact hq _ _ hd'
      · rename_i b d hF
        obtain ⟨hR, hro, hP⟩ := ho.per _ _ _ _ hF
        split
        · rename_i N sz' f hget
          split
          · rename_i hcond
            obtain ⟨hin, hoff, rfl, hn, rfl⟩ := hcond
            obtain ⟨rfl, C', T', z', hh, hcap⟩ := hq _ _ hR
            obtain ⟨C, T, ds, r1, r2, r3⟩ := hro.row
            obtain ⟨es, q1, q2, q3⟩ := Rep_get p d ds r2 hin
            rw [hget] at q1
            obtain ⟨ps, hps, rfl⟩ := q1
            refine ⟨o, c, ps, hcs, hc, hP, fun i hi => ⟨(hps i (Nat.lt_of_lt_of_le hi hn)).1, ih _ _ (hps i (Nat.lt_of_lt_of_le hi hn)).2⟩, ⟨C, T, _, by rw [ho.w]; exact r1, fun j v hj => ?_⟩, fun hz => ?_⟩
            · have hj' := flat_prefix (N := N) hn hj
              have hlt := (List.getElem?_eq_some_iff.1 hj').1
              refine r3 _ v ?_
              rw [← hoff, q3 j hlt]
              exact hj'
            · rw [r1] at hh
              simp only [Option.some.injEq, Obj.cells.injEq] at hh
              obtain ⟨rfl, rfl, rfl⟩ := hh
              have ho0 : o = 0 := by simpa using hz
              exact ⟨ho0, C, T, by rw [ho.w]; exact r1, by omega⟩
          · exact hany
        · exact hany
    | fn f n c =>
      rw [rl_fn]
      obtain ⟨vs, h1, h2, h3⟩ := h
      exact ⟨vs, h1, h2, fun i hi => ⟨rl_leaf k F (h3 i hi).1, ih _ _ (h3 i hi).2⟩⟩
    | tup n f => exact h.elim
theorem VRep_of_Rep {e : Env} {d : D} {v : Value} (hn : d.isNode ≠ some true) (h : Rep e d [v]) : VRep e d v := by
  cases d with
  | node k f => exact absurd rfl hn
  | tup n f => exact h.elim
  | any => trivial
  | _ => exact h
theorem VRep_rl {e e' : Env} {F : Relab} (ho : RelabOk e e' F) : ∀ (k : Nat) (d : D) (v : Value), VRep e d v → VRep e' (rl k F d) v := by
  intro k
  induction k with
  | zero =>
    intro d v h
    cases d with
    | node kd f =>
      obtain ⟨cs, h1, h2⟩ := h
      have h3 := Rep_rl ho 0 _ _ h2
      by_cases hs : (D.node kd f).still
      · rw [rl_still hs] at h3 ⊢; exact ⟨cs, h1, h3⟩
      · simp only [rl, hs, if_false]; trivial
    | tup n f =>
      by_cases hs : (D.tup n f).still
      · rw [rl_still hs]; exact VRep_still ho.w ho.P hs h
      · simp only [rl, hs, if_false]; trivial
    | any => rw [rl_any]; trivial
    | _ => exact VRep_of_Rep (rl_leaf 0 F (by simp [D.isNode])) (Rep_rl ho 0 _ _ h)
  | succ k ih =>
    intro d v h
    cases d with
    | node kd f => rw [rl_node]; obtain ⟨cs, h1, h2⟩ := h; have := Rep_rl ho (k + 1) (.node kd f) _ h2; rw [rl_node] at this; exact ⟨cs, h1, this⟩
    | tup n f => rw [rl_tup]; obtain ⟨vs, h1, h2, h3⟩ := h; exact ⟨vs, h1, h2, fun i hi => ih _ _ (h3 i hi)⟩
    | any => rw [rl_any]; trivial
    | _ => exact VRep_of_Rep (rl_leaf (k + 1) F (by simp [D.isNode])) (Rep_rl ho (k + 1) _ _ h)
def LiftQ (w0 : World) (M : Fr) (Q : Exit → St → Prop) (x : Exit) (a : Act) (w : World) : Prop := ∃ st, Q x st ∧ SR w0 M st a w
def IWp (P : Program) (w0 : World) (M : Fr) (c : Code) (Q : Exit → St → Prop) (st : St) : Prop :=
  ∀ a w, SR w0 M st a w → c.wp P (LiftQ w0 M Q) a w
def qthen (K : St → Prop) (Q : Exit → St → Prop) : Exit → St → Prop
  | .normal, st => K st
  | x, st => Q x st
def qblock (id : Nat) (Q : Exit → St → Prop) : Exit → St → Prop
  | .exit id', st => if id' = id then Q .normal st else Q (.exit id') st
  | x, st => Q x st
section code
variable {P : Program} {w0 : World} {M : Fr} {Q : Exit → St → Prop} {st : St}
theorem iwp_mono {c : Code} {Q' : Exit → St → Prop} (h : IWp P w0 M c Q st) (hq : ∀ x st, Q x st → Q' x st) : IWp P w0 M c Q' st :=
  fun a w hs => wp_mono (h a w hs) fun x a w ⟨st, q, s⟩ => ⟨st, hq _ _ q, s⟩
theorem iwp_skip (h : Q .normal st) : IWp P w0 M .skip Q st := fun a w hs => wp_skip ⟨st, h, hs⟩
theorem iwp_exit {id : Nat} (h : Q (.exit id) st) : IWp P w0 M (.exit id) Q st := fun a w hs => wp_exit ⟨st, h, hs⟩
theorem iwp_ret (h : Q .ret st) : IWp P w0 M .ret Q st := fun a w hs => wp_ret ⟨st, h, hs⟩
theorem iwp_seq {x y : Code} (h : IWp P w0 M x (qthen (IWp P w0 M y Q) Q) st) : IWp P w0 M (.seq x y) Q st := by
  intro a w hs
  refine wp_seq (wp_mono (h a w hs) fun e a w hq => ?_)
  obtain ⟨st', q, s⟩ := hq
  cases e with
  | normal => exact q a w s
  | exit id => exact ⟨st', q, s⟩
  | goto l => exact ⟨st', q, s⟩
  | ret => exact ⟨st', q, s⟩
  | panic c => exact ⟨st', q, s⟩
  | outgrown => exact ⟨st', q, s⟩
theorem iwp_block {id : Nat} {c : Code} (h : IWp P w0 M c (qblock id Q) st) : IWp P w0 M (.block id c) Q st := by
  intro a w hs
  refine wp_block (wp_mono (h a w hs) fun e a w hq => ?_)
  obtain ⟨st', q, s⟩ := hq
  cases e with
  | normal => exact ⟨st', q, s⟩
  | exit id' =>
    simp only [qblock] at q
    simp only [Exit.inBlock]
    split
    · rename_i hid; rw [if_pos hid] at q; exact ⟨st', q, s⟩
    · rename_i hid; rw [if_neg hid] at q; exact ⟨st', q, s⟩
  | goto l => exact ⟨st', q, s⟩
  | ret => exact ⟨st', q, s⟩
  | panic c => exact ⟨st', q, s⟩
  | outgrown => exact ⟨st', q, s⟩
def St.know (st : St) (x : Operand) (t : Bool) : St :=
  match x with
  | .tmp k => { st with s := upd st.s k (.lit (.bool t)) }
  | _ => st
theorem SR.know {a : Act} {w : World} {x : Operand} {t : Bool} (h : SR w0 M st a w) (hx : st.ev x = .lit (.bool t)) : SR w0 M (st.know x t) a w := by
  obtain ⟨e, he, hg⟩ := h
  refine ⟨e, he, ?_⟩
  cases x with
  | tmp k =>
    refine ⟨hg.R, hg.N, hg.df, fun j => ?_, hg.root, hg.own, hg.inj, hg.P, hg.keep, hg.n, hg.per⟩
    show VRep e (upd st.s k (.lit (.bool t)) j) _
    by_cases hj : j = k
    · subst hj; rw [upd_same]
      have := hg.slot j
      rw [show st.s j = _ from hx] at this; exact this
    · rw [upd_ne _ _ hj]; exact hg.slot j
  | _ => exact hg
theorem iwp_cond {c : Operand} {x y : Code} {t : Bool} (hc : st.ev c = .lit (.bool t)) (h1 : t = true → IWp P w0 M x Q (st.know c true)) (h0 : t = false → IWp P w0 M y Q (st.know c false)) : IWp P w0 M (.cond c x y) Q st := by
  intro a w hs
  have hv : a.eval c = .bool t := by
    obtain ⟨e, he, hg⟩ := hs
    have := hg.ev c; rw [hc] at this
    exact (VRep_lit this).1
  cases t with
  | true => exact wp_cond_true hv (h1 rfl a w (hs.know hc))
  | false => exact wp_cond_false hv (h0 rfl a w (hs.know hc))
structure St.le (st st' : St) : Prop where
  N : st'.N = st.N
  n : st'.n ≤ st.n
  s : ∀ t, st'.s t = st.s t ∨ st'.s t = .any
  R : ∀ l, st'.R l = st.R l ∨ st'.R l = none
theorem SR.forget {a : Act} {w : World} {st' : St} (h : SR w0 M st a w) (hle : st.le st') : SR w0 M st' a w := by
  obtain ⟨e, he, hg⟩ := h
  have hR : ∀ l x, st'.R l = some x → st.R l = some x := fun l x hx => by
    rcases hle.R l with h | h
    · rw [← h]; exact hx
    · rw [h] at hx; cases hx
  have hel : e.le { e with R := st'.R } := ⟨Nat.le_refl _, fun _ h => h, fun _ _ => rfl, fun l g b d _ hl => ⟨d, by rw [hg.R]; exact hR _ _ hl⟩, fun _ _ _ _ _ _ C _ z h => ⟨C, z, h, rfl⟩⟩
  refine ⟨{ e with R := st'.R }, he, rfl, by rw [hle.N]; exact hg.N, hg.df, fun t => ?_, fun l g b d hl => ?_, fun l g b d hl => hg.own _ _ _ _ (hR _ _ hl), fun l l' g g' b d d' h1 h2 => hg.inj _ _ _ _ _ _ _ (hR _ _ h1) (hR _ _ h2), hg.P, hg.keep, Nat.le_trans hle.n hg.n, hg.per⟩
  · rcases hle.s t with h | h
    · rw [h]; exact VRep_le hel (hg.slot t)
    · rw [h]; trivial
  · obtain ⟨h1, h2⟩ := hg.root _ _ _ _ (hR _ _ hl)
    refine ⟨h1, h2.np, h2.plain, ?_⟩
    obtain ⟨C, T, cs, r1, r2, r3⟩ := h2.row
    exact ⟨C, T, cs, r1, Rep_le hel r2, r3⟩
theorem iwp_forget {c : Code} (st' : St) (hle : st.le st') (h : IWp P w0 M c Q st') : IWp P w0 M c Q st :=
  fun a w hs => h a w (hs.forget hle)
def Into (w0 : World) (M : Fr) (st : St) (K : St → Prop) : Prop := ∀ a w, SR w0 M st a w → ∃ st', K st' ∧ SR w0 M st' a w
theorem Into.of {K : St → Prop} (h : K st) : Into w0 M st K := fun a w hs => ⟨st, h, hs⟩
theorem Into.le {K : St → Prop} (st' : St) (hle : st.le st') (h : Into w0 M st' K) : Into w0 M st K := fun a w hs => h a w (hs.forget hle)
theorem iwp_into {c : Code} (h : Into w0 M st (IWp P w0 M c Q)) : IWp P w0 M c Q st := fun a w hs => by
  obtain ⟨st', h1, h2⟩ := h a w hs
  exact h1 a w h2
theorem Into.move {K : St → Prop} {l l' t g b o i n sz : Nat} {p : List Nat} {d : D} (hne : l' ≠ l) (hR : st.R l = some (g, b, d)) (ht : st.s t = .msl l g o p i n sz)
    (h : ∀ G, Into w0 M { N := st.N, n := st.n, s := upd st.s t (.msl l' G o p i n sz), R := upd (upd st.R l none) l' (some (G, b, d)) } K) : Into w0 M st K := by
  rintro a w ⟨e, rfl, hg⟩
  have hsp : ∀ l0 x, upd (upd st.R l none) l' (some (e.G, b, d)) l0 = some x → (l0 = l' ∧ x = (e.G, b, d)) ∨ (l0 ≠ l ∧ st.R l0 = some x) := by
    intro l0 x hx
    by_cases h1 : l0 = l'
    · subst h1; rw [upd_same] at hx; exact .inl ⟨rfl, (Option.some.inj hx).symm⟩
    · rw [upd_ne _ _ h1] at hx
      by_cases h2 : l0 = l
      · subst h2; rw [upd_same] at hx; cases hx
      · rw [upd_ne _ _ h2] at hx; exact .inr ⟨h2, hx⟩
  have hle : e.le ⟨upd (upd st.R l none) l' (some (e.G, b, d)), e.G + 1, e.P, e.w⟩ := by
    refine ⟨Nat.le_succ _, fun _ h => h, fun _ _ => rfl, fun l0 g0 b0 d0 hg0 hl0 => ?_, fun _ _ _ _ _ _ C _ z h => ⟨C, z, h, rfl⟩⟩
    rcases hsp _ _ hl0 with ⟨rfl, h1⟩ | ⟨_, h1⟩
    · simp only [Prod.mk.injEq] at h1; omega
    · exact ⟨d0, by rw [hg.R]; exact h1⟩
  refine h e.G a e.w ⟨⟨upd (upd st.R l none) l' (some (e.G, b, d)), e.G + 1, e.P, e.w⟩, rfl, rfl, hg.N, hg.df, fun k => ?_, fun l0 g0 b0 d0 hl0 => ?_, fun l0 g0 b0 d0 hl0 => ?_, fun l1 l2 g1 g2 b' d1 d2 h1 h2 => ?_, hg.P, hg.keep, hg.n, hg.per⟩
  · by_cases hk : k = t
    · subst hk
      show VRep _ (upd st.s k _ k) _
      rw [upd_same]
      have := hg.slot k
      rw [ht] at this
      obtain ⟨hgg, ad, c, h1, h2, h3⟩ := this
      refine ⟨Nat.lt_succ_self _, ad, c, h1, h2, fun b' d' hb' => ?_⟩
      have hb2 : upd (upd st.R l none) l' (some (e.G, b, d)) l' = some (e.G, b', d') := hb'
      rw [upd_same] at hb2
      simp only [Option.some.injEq, Prod.mk.injEq] at hb2
      obtain ⟨_, rfl, rfl⟩ := hb2
      exact h3 b d (by rw [hg.R]; exact hR)
    · show VRep _ (upd st.s t _ k) _
      rw [upd_ne _ _ hk]
      exact VRep_le hle (hg.slot k)
  · rcases hsp _ _ hl0 with ⟨rfl, h1⟩ | ⟨_, h1⟩
    · simp only [Prod.mk.injEq] at h1
      obtain ⟨rfl, rfl, rfl⟩ := h1
      obtain ⟨_, hro⟩ := hg.root _ _ _ _ hR
      obtain ⟨C, T, cs, r1, r2, r3⟩ := hro.row
      exact ⟨Nat.lt_succ_self _, hro.np, hro.plain, C, T, cs, r1, Rep_le hle r2, r3⟩
    · obtain ⟨hg0, hro⟩ := hg.root _ _ _ _ h1
      obtain ⟨C, T, cs, r1, r2, r3⟩ := hro.row
      exact ⟨Nat.lt_succ_of_lt hg0, hro.np, hro.plain, C, T, cs, r1, Rep_le hle r2, r3⟩
  · rcases hsp _ _ hl0 with ⟨rfl, h1⟩ | ⟨_, h1⟩
    · simp only [Prod.mk.injEq] at h1
      obtain ⟨rfl, rfl, rfl⟩ := h1
      exact hg.own _ _ _ _ hR
    · exact hg.own _ _ _ _ h1
  · rcases hsp _ _ h1 with ⟨e1, q1⟩ | ⟨e1, q1⟩ <;> rcases hsp _ _ h2 with ⟨e2, q2⟩ | ⟨e2, q2⟩
    · rw [e1, e2]
    · simp only [Prod.mk.injEq] at q1
      obtain ⟨rfl, rfl, rfl⟩ := q1
      exact absurd (hg.inj _ _ _ _ _ _ _ hR q2).symm e2
    · simp only [Prod.mk.injEq] at q2
      obtain ⟨rfl, rfl, rfl⟩ := q2
      exact absurd (hg.inj _ _ _ _ _ _ _ q1 hR) e1
    · exact hg.inj _ _ _ _ _ _ _ q1 q2
theorem iwp_loop {c : Code} (I : Nat → St → Prop) {m : Nat} (h0 : I m st) (hr : ∀ m st, I m st → IWp P w0 M c (qthen (fun st' => ∃ m', m' < m ∧ Into w0 M st' (I m')) Q) st) : IWp P w0 M (.loop c) Q st := by
  intro a w hs b k cs
  have key : ∀ m st a w, I m st → SR w0 M st a w → ∃ e a' w', LiftQ w0 M Q e a' w' ∧ Arrives P (lone (b.at a (.code c :: .inLoop c :: k)) cs w) b k cs e a' w' := by
    intro m
    induction m using Nat.strongRecOn with
    | _ m ih =>
      intro st a w hI hs
      obtain ⟨e, a₁, w₁, ⟨st', q, s⟩, harr⟩ := hr m st hI a w hs b (.inLoop c :: k) cs
      cases e with
      | normal =>
        obtain ⟨m', hlt, hin⟩ := q
        obtain ⟨st'', hI', s'⟩ := hin _ _ s
        obtain ⟨e₂, a₂, w₂, hq₂, harr₂⟩ := ih m' hlt st'' a₁ w₁ hI' s'
        exact ⟨e₂, a₂, w₂, hq₂, .of_steps (Steps.trans harr (.one step_inLoop)) harr₂⟩
      | exit id => exact ⟨_, a₁, w₁, ⟨st', q, s⟩, .pass (x := .inLoop c) rfl (fun _ _ => .inl (by simp)) harr⟩
      | goto l => exact ⟨_, a₁, w₁, ⟨st', q, s⟩, .pass (x := .inLoop c) rfl (fun _ _ => .inl (by simp)) harr⟩
      | ret => exact ⟨_, a₁, w₁, ⟨st', q, s⟩, .pass (x := .inLoop c) rfl (fun _ _ => .inl (by simp)) harr⟩
      | panic ch => exact ⟨_, a₁, w₁, ⟨st', q, s⟩, .pass (x := .inLoop c) rfl (fun _ _ => .inl (by simp)) harr⟩
      | outgrown => exact ⟨_, a₁, w₁, ⟨st', q, s⟩, .pass (x := .inLoop c) rfl (fun _ _ => .inl (by simp)) harr⟩
  obtain ⟨e, a', w', hq, harr⟩ := key m st a w h0 hs
  exact ⟨e, a', w', hq, .of_steps (.one step_loop) harr⟩
end code
end Go.Proofs.YtncinhlaabdlaaaGreat.IM
end
section
namespace Go.Proofs.YtncinhlaabdlaaaGreat.IM
open Go Go.RowKit
set_option linter.unusedVariables false
def D.tags (p : Nat → Prop) : D → Prop
  | .lit _ => True
  | .nil => True
  | .sl t _ n _ f => p t ∧ ∀ i, i < n → (f i).tags p
  | .opq _ S _ => ∀ b, S b → p b
  | .node k f => ∀ i, i < k.cnt → (f i).tags p
  | .tup n f => ∀ i, i < n → (f i).tags p
  | .any => True
  | _ => False
theorem Rep_tags {e : Env} {p P' : Nat → Prop} (hp : ∀ b, p b → e.P b → P' b) {d : D} : ∀ {cs : List Value}, d.tags p → Rep e d cs → Rep ⟨fun _ => none, 0, P', e.w⟩ d cs := by
  induction d with
  | lit v => intro cs _ h; exact h
  | nil => intro cs _ h; exact h
  | opq v S φ =>
    intro cs ht h
    obtain ⟨h1, h2, h3, h4⟩ := h
    exact ⟨h1, h2, fun b hb => hp _ (ht b hb) (h3 b hb), h4⟩
  | sl t zb n sz f ih =>
    intro cs ht h
    obtain ⟨o, c, ps, h1, h2, h3, h4, h5⟩ := h
    exact ⟨o, c, ps, h1, h2, hp _ ht.1 h3, fun i hi => ⟨(h4 i hi).1, ih i (ht.2 i hi) (h4 i hi).2⟩, h5⟩
  | node k f ih =>
    intro cs ht h
    obtain ⟨ps, h1, h2⟩ := h
    exact ⟨ps, fun i hi => ⟨(h1 i hi).1, ih i (ht i hi) (h1 i hi).2⟩, h2⟩
  | tup n f => intro cs _ h; exact h.elim
  | any => intro cs _ h; exact h
  | _ => intro cs ht; exact ht.elim
theorem VRep_tags {e : Env} {p P' : Nat → Prop} (hp : ∀ b, p b → e.P b → P' b) {d : D} : ∀ {v : Value}, d.tags p → VRep e d v → VRep ⟨fun _ => none, 0, P', e.w⟩ d v := by
  induction d with
  | node k f => intro v ht h; obtain ⟨cs, h1, h2⟩ := h; exact ⟨cs, h1, Rep_tags hp ht h2⟩
  | tup n f ih => intro v ht h; obtain ⟨vs, h1, h2, h3⟩ := h; exact ⟨vs, h1, h2, fun i hi => ih i (ht i hi) (h3 i hi)⟩
  | any => intro v _ h; trivial
  | lit u => intro v ht h; exact Rep_tags (d := .lit u) hp ht h
  | nil => intro v ht h; exact Rep_tags (d := .nil) hp ht h
  | sl t zb n sz f => intro v ht h; exact Rep_tags (d := .sl t zb n sz f) hp ht h
  | opq u S φ => intro v ht h; exact Rep_tags (d := .opq u S φ) hp ht h
  | _ => intro v ht; exact ht.elim
def D.tl : D → List Nat
  | .sl t _ n _ f => t :: (List.range n).flatMap fun i => (f i).tl
  | .node k f => (List.range k.cnt).flatMap fun i => (f i).tl
  | .tup n f => (List.range n).flatMap fun i => (f i).tl
  | .cptr d => d.tl
  | .fn _ n c => (List.range n).flatMap fun i => (c i).tl
  | _ => []
theorem Rep_tl {e : Env} {d : D} : ∀ {cs : List Value}, Rep e d cs → ∀ x ∈ d.tl, e.P x := by
  induction d with
  | sl t zb n sz f ih =>
    intro cs h x hx
    obtain ⟨o, c, ps, h1, h2, h3, h4, h5⟩ := h
    simp only [D.tl, List.mem_cons, List.mem_flatMap, List.mem_range] at hx
    rcases hx with rfl | ⟨i, hi, hx⟩
    · exact h3
    · exact ih i (h4 i hi).2 x hx
  | node k f ih =>
    intro cs h x hx
    obtain ⟨ps, h1, h2⟩ := h
    simp only [D.tl, List.mem_flatMap, List.mem_range] at hx
    obtain ⟨i, hi, hx⟩ := hx
    exact ih i (h1 i hi).2 x hx
  | cptr d ih => intro cs h x hx; obtain ⟨b, o, ds, _, _, h3, _⟩ := h; exact ih h3 x hx
  | fn f n c ih =>
    intro cs h x hx
    obtain ⟨vs, h1, h2, h3⟩ := h
    simp only [D.tl, List.mem_flatMap, List.mem_range] at hx
    obtain ⟨i, hi, hx⟩ := hx
    exact ih i (h3 i hi).2 x hx
  | tup n f => intro cs h; exact h.elim
  | _ => intro cs h x hx; simp [D.tl] at hx
theorem VRep_tl {e : Env} {d : D} : ∀ {v : Value}, VRep e d v → ∀ x ∈ d.tl, e.P x := by
  induction d with
  | tup n f ih =>
    intro v h x hx
    obtain ⟨vs, h1, h2, h3⟩ := h
    simp only [D.tl, List.mem_flatMap, List.mem_range] at hx
    obtain ⟨i, hi, hx⟩ := hx
    exact ih i (h3 i hi) x hx
  | node k f => intro v h; obtain ⟨cs, _, h⟩ := h; exact Rep_tl h
  | any => intro v h x hx; simp [D.tl] at hx
  | sl t zb n sz f => intro v h; exact Rep_tl (d := .sl t zb n sz f) h
  | cptr d => intro v h; exact Rep_tl (d := .cptr d) h
  | fn f n c => intro v h; exact Rep_tl (d := .fn f n c) h
  | _ => intro v h x hx; simp [D.tl] at hx
structure Facts (st : St) (n1 : Nat) : Prop where
  slot : ∀ l g b d, st.R l = some (g, b, d) → ∀ t, b ∉ (st.s t).tl
  root : ∀ l g b d l' g' b' d', st.R l = some (g, b, d) → st.R l' = some (g', b', d') → b ∉ d'.tl
  inj : ∀ l g b d l' g' b' d', st.R l = some (g, b, d) → st.R l' = some (g', b', d') → l ≠ l' → b ≠ b'
  lt : ∀ l g b d, st.R l = some (g, b, d) → b < n1
  tag : ∀ t, ∀ x ∈ (st.s t).tl, x < n1
  rtag : ∀ l g b d, st.R l = some (g, b, d) → ∀ x ∈ d.tl, x < n1
def blkR (R : Roots) : Option Nat → Option Nat
  | none => none
  | some l => (R l).map fun x => x.2.1
def bsOk (R : Roots) (ls : List Nat) (n n1 m : Nat) (bs : Nat → Nat) : Prop := ∀ j, j < m → bs j < n1 ∧ (n ≤ bs j ∨ ∃ l ∈ ls, blkR R (some l) = some (bs j))
def Enters (P : Program) (f : FuncId) : Prop := ∃ fn, P.funcs[f]? = some fn ∧ fn.body.isNone = false ∧ (fn.name == "runtime.NumGoroutine") = false
def InsR (gb : Nat → Nat) (ds : List D) : Roots := fun l => if l < 1000 then none else (ds[l - 1000]?).map fun d => (0, gb (l - 1000), d)
theorem InsR_some {gb : Nat → Nat} {ds : List D} {l g b : Nat} {d : D} (h : InsR gb ds l = some (g, b, d)) : ∃ i, l = 1000 + i ∧ i < ds.length ∧ ds[i]? = some d ∧ g = 0 ∧ b = gb i := by
  unfold InsR at h
  split at h
  · cases h
  · rename_i hl
    cases hd : ds[l - 1000]? with
    | none => rw [hd] at h; cases h
    | some d' =>
      rw [hd] at h
      simp only [Option.map_some, Option.some.injEq, Prod.mk.injEq] at h
      obtain ⟨rfl, rfl, rfl⟩ := h
      exact ⟨l - 1000, by omega, (List.getElem?_eq_some_iff.1 hd).1, hd, rfl, rfl⟩
def ICall (P : Program) (f : FuncId) (args ins : List D) (Q : Nat → Nat → List D → D → Prop) : Prop :=
  Enters P f ∧ ∀ (w : World) (p : Nat → Prop) (gb : Nat → Nat) (vs : Array Value), vs.size = args.length → (∀ b, p b → b < w.heap.size) →
    (∀ i d, ins[i]? = some d → RootOk ⟨InsR gb ins, 1, p, w⟩ (gb i) d) → (∀ i j, i < ins.length → j < ins.length → gb i = gb j → i = j) →
    (∀ i d, args[i]? = some d → VRep ⟨InsR gb ins, 1, p, w⟩ d (vs.getD i undef)) →
    Calls P f vs w fun en w' => ∃ v r outs gb' p', en = .returned v ∧ Q w.heap.size w'.heap.size outs r ∧
      Keep w (fun b => ∃ i, i < ins.length ∧ b = gb i) w' ∧ (∀ b, p b → p' b) ∧
      (∀ b, p' b → b < w'.heap.size ∧ (p b ∨ w.heap.size ≤ b ∨ ∃ i, i < ins.length ∧ b = gb i)) ∧
      (∀ i d, outs[i]? = some d → RootOk ⟨InsR gb' outs, 1, p', w'⟩ (gb' i) d ∧ (w.heap.size ≤ gb' i ∨ ∃ j, j < ins.length ∧ gb' i = gb j)) ∧
      (∀ i j, i < outs.length → j < outs.length → gb' i = gb' j → i = j) ∧
      VRep ⟨InsR gb' outs, 1, p', w'⟩ r v
def PCall (P : Program) (f : FuncId) (args : List D) (Q : Nat → Nat → D → Prop) : Prop := ICall P f args [] fun n n' outs r => outs = [] ∧ Q n n' r
theorem ICall.mono {P : Program} {f : FuncId} {args ins : List D} {Q Q' : Nat → Nat → List D → D → Prop} (h : ICall P f args ins Q) (hq : ∀ n n' outs r, n ≤ n' → Q n n' outs r → Q' n n' outs r) : ICall P f args ins Q' :=
  ⟨h.1, fun w p gb vs h2 h3 h4 h5 h6 => (h.2 w p gb vs h2 h3 h4 h5 h6).mono fun en w' ⟨v, r, outs, gb', p', q1, q2, q3, q4⟩ => ⟨v, r, outs, gb', p', q1, hq _ _ _ _ q3.size q2, q3, q4⟩⟩
theorem PCall.mono {P : Program} {f : FuncId} {args : List D} {Q Q' : Nat → Nat → D → Prop} (h : PCall P f args Q) (hq : ∀ n n' r, n ≤ n' → Q n n' r → Q' n n' r) : PCall P f args Q' :=
  ICall.mono h fun n n' outs r hn ⟨h1, h2⟩ => ⟨h1, hq _ _ _ hn h2⟩
def labIn (R : Roots) (ls : List Nat) : Relab := fun l g =>
  match R l with
  | some (g', _, _) => if g' = g then (match ls.idxOf? l with | some i => .to (1000 + i) 0 | none => .gone) else .gone
  | none => .gone
def labView (R : Roots) : Relab := fun l g =>
  match R l with
  | some (g', b, d) => if g' = g then .per b d else .gone
  | none => .gone
def labOut (m : Nat) (lab : Nat → Nat) (G : Nat) : Relab := fun l g => if 1000 ≤ l ∧ l < 1000 + m ∧ g = 0 then .to (lab (l - 1000)) G else .gone
def outLab (dst : Option Tmp) (ls : List Nat) (j : Nat) : Nat := ls.getD j (2000 + 50 * dst.getD 0 + j)
def cntR (R : Roots) (l : Nat) : D := match R l with
  | some (_, _, d) => d
  | none => .any
def remL (R : Roots) : List Nat → Roots
  | [] => R
  | l :: ls => upd (remL R ls) l none
noncomputable def addL (R : Roots) (F : Relab) (G : Nat) (lab bs : Nat → Nat) : Nat → List D → Roots
  | _, [] => R
  | j, d :: ds => upd (addL R F G lab bs (j + 1) ds) (lab j) (some (G, bs j, rl 9 F d))
theorem Good.envroot {w0 : World} {M : Fr} {st : St} {e : Env} {a : Act} (h : Good w0 M st e a) {l g b : Nat} {d : D} (hl : st.R l = some (g, b, d)) : RootOk e b d := (h.root l g b d hl).2
theorem Good.facts {w0 : World} {M : Fr} {st : St} {e : Env} {a : Act} (h : Good w0 M st e a) : Facts st e.w.heap.size := by
  refine ⟨fun l g b d hl t hx => (h.envroot hl).np (VRep_tl (h.slot t) b hx), fun l g b d l' g' b' d' hl hl' hx => ?_, fun l g b d l' g' b' d' hl hl' hne hb => ?_, fun l g b d hl => ?_, fun t x hx => h.P x (VRep_tl (h.slot t) x hx), fun l g b d hl x hx => ?_⟩
  · obtain ⟨C, T, cs, r1, r2, r3⟩ := (h.envroot hl').row
    exact (h.envroot hl).np (Rep_tl r2 b hx)
  · subst hb; exact hne (h.inj _ _ _ _ _ _ _ hl hl')
  · obtain ⟨C, T, cs, r1, r2, r3⟩ := (h.envroot hl).row
    exact lt_of_block r1
  · obtain ⟨C, T, cs, r1, r2, r3⟩ := (h.envroot hl).row
    exact h.P x (Rep_tl r2 x hx)
theorem Into.facts {w0 : World} {M : Fr} {st : St} {K : St → Prop} (h : ∀ n1, st.n ≤ n1 → Facts st n1 → Into w0 M { N := st.N, n := n1, s := st.s, R := st.R } K) : Into w0 M st K := by
  rintro a w ⟨e, rfl, hg⟩
  exact h e.w.heap.size hg.n hg.facts a e.w ⟨e, rfl, hg.R, hg.N, hg.df, hg.slot, hg.root, hg.own, hg.inj, hg.P, hg.keep, Nat.le_refl _, hg.per⟩
theorem Keep.trans' {w0 w w' : World} {M I : Nat → Prop} (h : Keep w0 M w) (k : Keep w I w') (hI : ∀ b, I b → w0.heap.size ≤ b ∨ M b) : Keep w0 M w' :=
  ⟨k.os.trans h.os, k.tape.trans h.tape, k.output.trans h.output, Nat.le_trans h.size k.size, fun i hi hm =>
    (k.block i (Nat.lt_of_lt_of_le hi h.size) (fun x => (hI i x).elim (fun h' => by omega) hm)).trans (h.block i hi hm), fun i C T z hC => by
    obtain ⟨C1, h1, h2⟩ := h.cell i C T z hC
    obtain ⟨C2, h3, h4⟩ := k.cell i C1 T z h1
    exact ⟨C2, h3, h4.trans h2⟩⟩
theorem remL_some {R : Roots} {ls : List Nat} {l : Nat} {x : Nat × Nat × D} (h : remL R ls l = some x) : l ∉ ls ∧ R l = some x := by
  induction ls with
  | nil => exact ⟨by simp, h⟩
  | cons k ls ih =>
    simp only [remL] at h
    by_cases hk : l = k
    · subst hk; rw [upd_same] at h; cases h
    · rw [upd_ne _ _ hk] at h
      obtain ⟨h1, h2⟩ := ih h
      exact ⟨by simp [hk, h1], h2⟩
theorem addL_some {R : Roots} {F : Relab} {G : Nat} {lab bs : Nat → Nat} : ∀ (ds : List D) (j : Nat) {l : Nat} {x : Nat × Nat × D}, addL R F G lab bs j ds l = some x →
    (∃ i d, ds[i]? = some d ∧ l = lab (j + i) ∧ x = (G, bs (j + i), rl 9 F d)) ∨ R l = some x := by
  intro ds
  induction ds with
  | nil => intro j l x h; exact .inr h
  | cons d ds ih =>
    intro j l x h
    simp only [addL] at h
    by_cases hk : l = lab j
    · subst hk; rw [upd_same] at h
      simp only [Option.some.injEq] at h
      exact .inl ⟨0, d, rfl, rfl, h.symm⟩
    · rw [upd_ne _ _ hk] at h
      rcases ih (j + 1) h with ⟨i, d', h1, h2, h3⟩ | h
      · exact .inl ⟨i + 1, d', by simpa using h1, by rw [h2]; congr 1; omega, by rw [h3]; congr 3; omega⟩
      · exact .inr h
theorem nodup_inj {ls : List Nat} (hnd : ls.Nodup) {i j : Nat} (hi : i < ls.length) (hj : j < ls.length) (h : ls[i] = ls[j]) : i = j := by
  have hp := List.pairwise_iff_getElem.1 hnd
  rcases Nat.lt_trichotomy i j with h1 | h1 | h1
  · exact absurd h (hp i j hi hj h1)
  · exact h1
  · exact absurd h.symm (hp j i hj hi h1)
section ops
variable {P : Program} {w0 : World} {M : Fr} {st : St} {e : Env} {a : Act} {K : St → Prop} {Q : Exit → Act → World → Prop}
variable {dst : Option Tmp} {ty : TypeId} {pos : String} {after : Array Edge} {gd : Option (Nat × Bool)}
theorem idxOf?_spec {ls : List Nat} {l i : Nat} (h : ls.idxOf? l = some i) : ls[i]? = some l := by
  rw [List.idxOf?_eq_some_iff] at h
  obtain ⟨hi, h1, _⟩ := h
  simpa [hi] using h1
theorem relab_in (h : Good w0 M st e a) (ls : List Nat) (hls : ∀ l ∈ ls, (st.R l).isSome = true) (ins : List D) (gb : Nat → Nat)
    (hgb : ∀ i l, ls[i]? = some l → ∀ g b d, st.R l = some (g, b, d) → gb i = b) :
    RelabOk e ⟨InsR gb ins, 1, e.P, e.w⟩ (labIn st.R ls) := by
  refine ⟨rfl, fun _ h => h, fun l g l' g' hF hg => ?_, fun l g b d hF => ?_⟩
  · unfold labIn at hF
    split at hF
    · rename_i g1 b1 d1 hR
      split at hF
      · rename_i hgg
        subst hgg
        split at hF
        · rename_i i hi
          simp only [Lab.to.injEq] at hF
          obtain ⟨rfl, rfl⟩ := hF
          refine ⟨Nat.one_pos, fun b d hb => ?_⟩
          obtain ⟨i', h1, h2, h3, _, rfl⟩ := InsR_some hb
          obtain rfl : i' = i := by omega
          rw [hgb _ _ (idxOf?_spec hi) _ _ _ hR, h.R, hR]
          exact ⟨_, rfl⟩
        · cases hF
      · cases hF
    · cases hF
  · unfold labIn at hF
    split at hF
    · split at hF
      · split at hF <;> cases hF
      · cases hF
    · cases hF
theorem enter_rl (h : Good w0 M st e a) (fx : Operand) (xs : Array Operand) (ts : Array TypeId) {fid n : Nat} {c : Nat → D} (hf : st.ev fx = .fn fid n c) (hent : Enters P fid) {e1 : Env} {F : Relab} (ok : RelabOk e e1 F) :
    ∃ vs : Array Value, (execOp a.eval (Oper.mk dst (.call { callee := .value fx, args := xs, argTypes := ts }) ty pos after gd)).run P e.w = .ok (.enter fid vs) e.w ∧
      vs.size = ((xs.toList.map fun x => rl 9 F (st.ev x)) ++ (List.range n).map fun i => rl 9 F (c i)).length ∧
      ∀ i d, ((xs.toList.map fun x => rl 9 F (st.ev x)) ++ (List.range n).map fun i => rl 9 F (c i))[i]? = some d → VRep e1 d (vs.getD i undef) := by
  have hv := h.ev fx; rw [hf] at hv
  obtain ⟨cap, hcv, hcn, hcs⟩ := hv
  simp at hcv
  obtain ⟨fn, hfn, hbody, hname⟩ := hent
  refine ⟨xs.map a.eval ++ cap, ?_, by simp [hcn], ?_⟩
  · simp only [execOp, resolve]
    rw [hcv]
    simp only [Deferred.ofValue]
    rw [Sem.run_bind, Sem.run_pure, Result.andThen_ok]
    simp only [invoke, callFunc]
    rw [Sem.run_bind, run_program, Result.andThen_ok]
    simp [hfn, hname, hbody]
  · intro i d hi
    rcases Nat.lt_or_ge i xs.size with h1 | h1
    · rw [List.getElem?_append_left (by simpa using h1)] at hi
      simp only [List.getElem?_map, Array.getElem?_toList, Array.getElem?_eq_getElem h1, Option.map_some, Option.some.injEq] at hi
      subst hi
      have : (xs.map a.eval ++ cap).getD i undef = a.eval xs[i] := by
        simp [Array.getElem?_append_left, h1]
      rw [this]
      exact VRep_rl ok 9 _ _ (h.ev xs[i])
    · rw [List.getElem?_append_right (by simpa using h1)] at hi
      simp only [List.length_map, Array.length_toList, List.getElem?_map] at hi
      rcases Nat.lt_or_ge (i - xs.size) n with h2 | h2
      · rw [List.getElem?_range h2] at hi
        simp only [Option.map_some, Option.some.injEq] at hi
        subst hi
        have hr := hcs (i - xs.size) h2
        have : (xs.map a.eval ++ cap).getD i undef = cap.getD (i - xs.size) undef := by
          simp [Array.getElem?_append_right, h1]
        rw [this]
        exact VRep_of_Rep (rl_leaf 9 F hr.1) (Rep_rl ok 9 _ _ hr.2)
      · rw [List.getElem?_eq_none (by simpa using h2)] at hi; cases hi
theorem op_icall (h : Good w0 M st e a) (fx : Operand) (xs : Array Operand) (ts : Array TypeId) {fid n : Nat} {c : Nat → D} (hf : st.ev fx = .fn fid n c) (hd : st.dstOk dst)
    (ls : List Nat) (hnd : ls.Nodup) (hls : ∀ l ∈ ls, (st.R l).isSome = true) (hpl : ∀ l ∈ ls, (rl 9 (labIn st.R ls) (cntR st.R l)).plain)
    (hc : ICall P fid ((xs.toList.map fun x => rl 9 (labIn st.R ls) (st.ev x)) ++ (List.range n).map fun i => rl 9 (labIn st.R ls) (c i)) (ls.map fun l => rl 9 (labIn st.R ls) (cntR st.R l))
      fun n0 n1 outs r => st.n ≤ n0 → ((List.range outs.length).map (outLab dst ls)).Nodup ∧ ∀ G bs, bsOk st.R ls st.n n1 outs.length bs → (∀ d ∈ outs, (rl 9 (labOut outs.length (outLab dst ls) G) d).plain) ∧
        K (({ N := st.N, n := n1, s := st.s, R := addL (remL st.R ls) (labOut outs.length (outLab dst ls) G) G (outLab dst ls) bs 0 outs } : St).put dst (rl 9 (labOut outs.length (outLab dst ls) G) r))) :
    (Oper.mk dst (.call { callee := .value fx, args := xs, argTypes := ts }) ty pos after gd).wp P a e.w (Lift w0 M K) Q := by
  obtain ⟨hent, hcalls⟩ := hc
  have hblk : ∀ i l, ls[i]? = some l → ∃ g b d, st.R l = some (g, b, d) := fun i l hl => by
    have := hls l (List.mem_of_getElem? hl)
    rw [Option.isSome_iff_exists] at this
    obtain ⟨⟨g, b, d⟩, hx⟩ := this
    exact ⟨g, b, d, hx⟩
  let gb : Nat → Nat := fun i => match (ls[i]?).bind st.R with | some (_, b, _) => b | none => 0
  have hgb : ∀ i l, ls[i]? = some l → ∀ g b d, st.R l = some (g, b, d) → gb i = b := fun i l hl g b d hR => by simp [gb, hl, hR]
  have ok := relab_in h ls hls (ls.map fun l => rl 9 (labIn st.R ls) (cntR st.R l)) gb hgb
  obtain ⟨vs, hrun, hsz, hargs⟩ := enter_rl (P := P) (dst := dst) (ty := ty) (pos := pos) (after := after) (gd := gd) h fx xs ts hf hent ok
  unfold Oper.wp
  rw [hrun, Oper.upon_enter]
  have hins : ∀ (i : Nat) (d : D), (ls.map fun l => rl 9 (labIn st.R ls) (cntR st.R l))[i]? = some d → RootOk ⟨InsR gb (ls.map fun l => rl 9 (labIn st.R ls) (cntR st.R l)), 1, e.P, e.w⟩ (gb i) d := by
    intro i d hi
    rw [List.getElem?_map, Option.map_eq_some_iff] at hi
    obtain ⟨l, hl, rfl⟩ := hi
    obtain ⟨g, b, d, hR⟩ := hblk i l hl
    have hro := h.envroot hR
    rw [hgb i l hl g b d hR]
    have hcd : cntR st.R l = d := by simp [cntR, hR]
    refine ⟨hro.np, hpl l (List.mem_of_getElem? hl), ?_⟩
    obtain ⟨C, T, cs, r1, r2, r3⟩ := hro.row
    rw [hcd]
    exact ⟨C, T, cs, r1, Rep_rl ok 9 _ _ r2, r3⟩
  have hinj : ∀ i j, i < ls.length → j < ls.length → gb i = gb j → i = j := by
    intro i j hi hj hij
    obtain ⟨g, b, d, hR⟩ := hblk i ls[i] (by simp [hi])
    obtain ⟨g', b', d', hR'⟩ := hblk j ls[j] (by simp [hj])
    rw [hgb i ls[i] (by simp [hi]) g b d hR, hgb j ls[j] (by simp [hj]) g' b' d' hR'] at hij
    subst hij
    have := h.inj _ _ _ _ _ _ _ hR hR'
    exact nodup_inj hnd hi hj this
  have hlen : (ls.map fun l => rl 9 (labIn st.R ls) (cntR st.R l)).length = ls.length := by simp
  refine (hcalls e.w e.P gb vs hsz h.P hins (by rw [hlen]; exact hinj) hargs).mono ?_
  rintro en w' ⟨v, r, outs, gb', p', rfl, hq, hk, hp1, hp2, houts, hinj', hr⟩
  rw [hlen] at hk hp2
  simp only [hlen] at houts
  obtain ⟨hnd', hq⟩ := hq h.n
  obtain ⟨hplain, hq⟩ := hq e.G gb' (by
    intro j hj
    obtain ⟨hro, hb⟩ := houts j outs[j] (List.getElem?_eq_getElem hj)
    obtain ⟨C, T, cs, r1, _⟩ := hro.row
    refine ⟨lt_of_block r1, hb.elim (fun h' => .inl (Nat.le_trans h.n h')) fun ⟨i, hi, h'⟩ => .inr ⟨ls[i], List.getElem_mem hi, ?_⟩⟩
    obtain ⟨g, b, d, hR⟩ := hblk i ls[i] (by simp [hi])
    simp only [blkR, hR, Option.map_some]
    rw [h', hgb i ls[i] (by simp [hi]) g b d hR])
  have hI : ∀ b, (∃ i, i < ls.length ∧ b = gb i) → w0.heap.size ≤ b ∨ M.m b := by
    rintro b ⟨i, hi, rfl⟩
    obtain ⟨g, b, d, hR⟩ := hblk i ls[i] (by simp [hi])
    rw [hgb i ls[i] (by simp [hi]) g b d hR]
    exact h.own _ _ _ _ hR
  have hold : ∀ l g b d, remL st.R ls l = some (g, b, d) → st.R l = some (g, b, d) ∧ b < e.w.heap.size ∧ ¬ (∃ i, i < ls.length ∧ b = gb i) := by
    intro l g b d hl
    obtain ⟨h1, h2⟩ := remL_some hl
    obtain ⟨C, T, cs, r1, _⟩ := (h.envroot h2).row
    refine ⟨h2, lt_of_block r1, ?_⟩
    rintro ⟨i, hi, rfl⟩
    obtain ⟨g', b', d', hR'⟩ := hblk i ls[i] (by simp [hi])
    rw [hgb i ls[i] (by simp [hi]) g' b' d' hR'] at h2
    exact h1 (by rw [h.inj _ _ _ _ _ _ _ h2 hR']; exact List.getElem_mem hi)
  have hlab : ∀ i j, i < outs.length → j < outs.length → outLab dst ls i = outLab dst ls j → i = j := by
    intro i j hi hj hij
    exact nodup_inj hnd' (by simpa using hi) (by simpa using hj) (by simpa using hij)
  let e2 : Env := ⟨addL (remL st.R ls) (labOut outs.length (outLab dst ls) e.G) e.G (outLab dst ls) gb' 0 outs, e.G + 1, p', w'⟩
  have hsp : ∀ l g b d, e2.R l = some (g, b, d) → (∃ i d0, outs[i]? = some d0 ∧ l = outLab dst ls i ∧ g = e.G ∧ b = gb' i ∧ d = rl 9 (labOut outs.length (outLab dst ls) e.G) d0) ∨ remL st.R ls l = some (g, b, d) := by
    intro l g b d hl
    rcases addL_some outs 0 hl with ⟨i, d0, h1, h2, h3⟩ | h1
    · simp only [Nat.zero_add, Prod.mk.injEq] at h2 h3
      exact .inl ⟨i, d0, h1, h2, h3⟩
    · exact .inr h1
  have hole : ∀ b, e.P b → ¬ ∃ i, i < ls.length ∧ b = gb i := by
    rintro b hb ⟨i, hi, rfl⟩
    exact (hins i _ (by rw [List.getElem?_map, List.getElem?_eq_getElem hi]; rfl)).np hb
  have hle : e.le e2 := by
    refine ⟨Nat.le_succ _, hp1, fun b hb => hk.block b (h.P b hb) (hole b hb), fun l g b d hg hl => ?_, fun l g b d hg hl C T z hb => ?_⟩
    · rcases hsp l g b d hl with ⟨i, d0, _, _, h1, _⟩ | h1
      · omega
      · rw [h.R]; exact ⟨d, (hold _ _ _ _ h1).1⟩
    · rcases hsp l g b d hl with ⟨i, d0, _, _, h1, _⟩ | h1
      · omega
      · obtain ⟨q1, q2, q3⟩ := hold _ _ _ _ h1
        exact ⟨C, z, by rw [← hb]; exact hk.block b q2 q3, rfl⟩
  have ok2 : RelabOk ⟨InsR gb' outs, 1, p', w'⟩ e2 (labOut outs.length (outLab dst ls) e.G) := by
    refine ⟨rfl, fun _ h => h, fun l g l' g' hF hg => ?_, fun l g b d hF => ?_⟩
    · unfold labOut at hF
      split at hF
      · rename_i hc
        simp only [Lab.to.injEq] at hF
        obtain ⟨rfl, rfl⟩ := hF
        refine ⟨Nat.lt_succ_self _, fun b d hb => ?_⟩
        obtain ⟨h1, h2, rfl⟩ := hc
        rcases hsp _ _ _ _ hb with ⟨i, d0, q1, q2, _, q3, _⟩ | q
        · have hi : i < outs.length := (List.getElem?_eq_some_iff.1 q1).1
          have := hlab (l - 1000) i (by omega) hi q2
          subst this
          refine ⟨d0, ?_⟩
          show InsR gb' outs l = some (0, b, d0)
          unfold InsR
          rw [if_neg (by omega), q1, q3]
          rfl
        · obtain ⟨q1, _⟩ := hold _ _ _ _ q
          have := (h.root _ _ _ _ q1).1
          omega
      · cases hF
    · unfold labOut at hF; split at hF <;> cases hF
  refine ⟨_, hq, e2, rfl, Good.put (st := { N := st.N, n := w'.heap.size, s := st.s, R := e2.R }) ?_ (by simpa [St.dstOk] using hd) (VRep_rl ok2 9 _ _ hr)⟩
  refine ⟨rfl, h.N, h.df, fun t => VRep_le hle (h.slot t), ?_, ?_, ?_, fun b hb => (hp2 b hb).1, h.keep.trans' hk hI, Nat.le_refl _, ?_⟩
  · intro l g b d hl
    rcases hsp l g b d hl with ⟨i, d0, h1, h2, rfl, rfl, rfl⟩ | h1
    · obtain ⟨hro, _⟩ := houts i d0 h1
      obtain ⟨C, T, cs, r1, r2, r3⟩ := hro.row
      exact ⟨Nat.lt_succ_self _, hro.np, hplain _ (List.mem_of_getElem? h1), C, T, cs, r1, Rep_rl ok2 9 _ _ r2, r3⟩
    · obtain ⟨q1, q2, q3⟩ := hold _ _ _ _ h1
      obtain ⟨hg, hro⟩ := h.root _ _ _ _ q1
      obtain ⟨C, T, cs, r1, r2, r3⟩ := hro.row
      refine ⟨Nat.lt_succ_of_lt hg, ?_, hro.plain, C, T, cs, (hk.block b q2 q3).trans r1, Rep_le hle r2, r3⟩
      intro hpb
      rcases (hp2 b hpb).2 with h' | h' | h'
      · exact hro.np h'
      · omega
      · exact q3 h'
  · intro l g b d hl
    rcases hsp l g b d hl with ⟨i, d0, h1, h2, rfl, rfl, rfl⟩ | h1
    · rcases (houts i d0 h1).2 with h' | ⟨j, hj, h'⟩
      · exact .inl (Nat.le_trans h.keep.size h')
      · exact hI _ ⟨j, hj, h'⟩
    · exact h.own _ _ _ _ (hold _ _ _ _ h1).1
  · intro l l' g g' b d d' hl hl'
    have cross : ∀ i d0, outs[i]? = some d0 → ∀ l g d, remL st.R ls l = some (g, gb' i, d) → False := by
      intro i d0 hi l g d hl
      obtain ⟨q1, q2, q3⟩ := hold _ _ _ _ hl
      rcases (houts i d0 hi).2 with h' | ⟨j, hj, h'⟩
      · omega
      · exact q3 ⟨j, hj, h'⟩
    rcases hsp l g b d hl with ⟨i, d0, h1, h2, h3, h4, h5⟩ | h1 <;> rcases hsp l' g' b d' hl' with ⟨i', d0', h1', h2', h3', h4', h5'⟩ | h1'
    · have := hinj' i i' (List.getElem?_eq_some_iff.1 h1).1 (List.getElem?_eq_some_iff.1 h1').1 (h4.symm.trans h4')
      rw [h2, h2', this]
    · subst h4; exact (cross i d0 h1 _ _ _ h1').elim
    · subst h4'; exact (cross i' d0' h1' _ _ _ h1).elim
    · exact h.inj _ _ _ _ _ _ _ (hold _ _ _ _ h1).1 (hold _ _ _ _ h1').1
  · intro b hb
    rcases (hp2 b hb).2 with h' | h' | h'
    · exact h.per b h'
    · exact .inl (Nat.le_trans h.keep.size h')
    · rcases hI b h' with h'' | h''
      · exact .inl h''
      · exact .inr (.inr h'')
theorem relab_view (h : Good w0 M st e a) : RelabOk e ⟨fun _ => none, 1, fun b => e.P b ∨ ∃ l g d, st.R l = some (g, b, d), e.w⟩ (labView st.R) := by
  refine ⟨rfl, fun _ h => .inl h, fun l g l' g' hF hg => ?_, fun l g b d hF => ?_⟩
  · unfold labView at hF; split at hF
    · split at hF <;> cases hF
    · cases hF
  · unfold labView at hF; split at hF
    · rename_i g1 b1 d1 hR
      split at hF
      · rename_i hgg
        subst hgg
        simp only [Lab.per.injEq] at hF
        obtain ⟨rfl, rfl⟩ := hF
        exact ⟨by rw [h.R]; exact hR, h.envroot hR, .inr ⟨l, _, _, hR⟩⟩
      · cases hF
    · cases hF
theorem op_vcall (h : Good w0 M st e a) (fx : Operand) (xs : Array Operand) (ts : Array TypeId) {fid n : Nat} {c : Nat → D} (hf : st.ev fx = .fn fid n c) (hd : st.dstOk dst)
    (hc : PCall P fid ((xs.toList.map fun x => rl 9 (labView st.R) (st.ev x)) ++ (List.range n).map fun i => rl 9 (labView st.R) (c i))
      fun n0 n1 r => st.n ≤ n0 → r.tags (n0 ≤ ·) ∧ K (({ N := st.N, n := n1, s := st.s, R := st.R } : St).put dst r)) :
    (Oper.mk dst (.call { callee := .value fx, args := xs, argTypes := ts }) ty pos after gd).wp P a e.w (Lift w0 M K) Q := by
  obtain ⟨hent, hcalls⟩ := hc
  have ok := relab_view h
  obtain ⟨vs, hrun, hsz, hargs⟩ := enter_rl (P := P) (dst := dst) (ty := ty) (pos := pos) (after := after) (gd := gd) h fx xs ts hf hent ok
  unfold Oper.wp
  rw [hrun, Oper.upon_enter]
  have hnil : InsR (fun _ => 0) [] = fun _ => none := by funext l; simp [InsR]
  refine (hcalls e.w (fun b => e.P b ∨ ∃ l g d, st.R l = some (g, b, d)) (fun _ => 0) vs hsz ?_ (by simp) (by simp) (by rw [hnil]; exact hargs)).mono ?_
  · rintro b (hb | ⟨l, g, d, hl⟩)
    · exact h.P b hb
    · obtain ⟨C, T, cs, r1, _⟩ := (h.envroot hl).row; exact lt_of_block r1
  · rintro en w' ⟨v, r, outs, gb', p', rfl, ⟨rfl, hq⟩, hk, hp1, hp2, houts, hinj', hr⟩
    obtain ⟨htag, hK⟩ := hq h.n
    have hk0 : Keep e.w (fun _ => False) w' := ⟨hk.os, hk.tape, hk.output, hk.size, fun k hk1 _ => hk.block k hk1 (by simp), hk.cell⟩
    let e2 : Env := ⟨e.R, e.G, fun b => e.P b ∨ (e.w.heap.size ≤ b ∧ b < w'.heap.size), w'⟩
    have hle : e.le e2 := ⟨Nat.le_refl _, fun _ h => .inl h, fun b hb => hk0.block b (h.P b hb) id, fun l g b d _ hl => ⟨d, hl⟩,
      fun l g b d _ hl C T z hb => ⟨C, z, by rw [← hb]; exact hk0.block b (lt_of_block hb) id, rfl⟩⟩
    refine ⟨_, hK, e2, rfl, Good.put (st := { N := st.N, n := w'.heap.size, s := st.s, R := st.R }) ?_ (by simpa [St.dstOk] using hd) ?_⟩
    · refine ⟨h.R, h.N, h.df, fun t => VRep_le hle (h.slot t), ?_, h.own, h.inj, ?_, h.keep.trans' hk0 (fun _ h => h.elim), Nat.le_refl _, ?_⟩
      · intro l g b d hl
        obtain ⟨h1, hro⟩ := h.root _ _ _ _ hl
        obtain ⟨C, T, cs, r1, r2, r3⟩ := hro.row
        have hlt := lt_of_block r1
        refine ⟨h1, ?_, hro.plain, C, T, cs, (hk0.block b hlt id).trans r1, Rep_le hle r2, r3⟩
        rintro (hp | hp)
        · exact hro.np hp
        · omega
      · rintro b (hb | hb)
        · exact Nat.lt_of_lt_of_le (h.P b hb) hk.size
        · exact hb.2
      · rintro b (hb | hb)
        · exact h.per b hb
        · exact .inl (Nat.le_trans h.keep.size hb.1)
    · have hr' := VRep_tags (P' := e2.P) (fun b hb hP => Or.inr ⟨hb, (hp2 b hP).1⟩) htag hr
      refine VRep_le ?_ hr'
      exact ⟨Nat.zero_le _, fun b hb => hb, fun _ _ => rfl, fun l g b d hg' => absurd hg' (Nat.not_lt_zero _), fun l g b d hg' => absurd hg' (Nat.not_lt_zero _)⟩
end ops
end Go.Proofs.YtncinhlaabdlaaaGreat.IM
end
section
namespace Go.Proofs.YtncinhlaabdlaaaGreat.IM
open Go Go.RowKit
set_option linter.unusedVariables false
def wr (w0 : World) (M : Fr) : Nat → Prop := fun b => w0.heap.size ≤ b ∨ M.m b
def D.skel : D → D → Prop
  | .lit v, .lit v' => v = v'
  | .nil, .nil => True
  | .sl t zb n sz _, .sl t' zb' n' sz' _ => t' = t ∧ zb = true ∧ zb' = true ∧ n' = n ∧ sz' = sz
  | .node k f, .node k' f' => k' = k ∧ ∀ i, i < k.cnt → (f i).skel (f' i)
  | .tup n f, .tup n' f' => n' = n ∧ ∀ i, i < n → (f i).skel (f' i)
  | _, _ => False
theorem skel_rep {e e' : Env} (hcell : ∀ (k : Nat) (C : Array Value) (T : TypeId) (z : Nat × Nat), e.w.heap[k]? = some (Obj.cells C T z) → ∃ C' : Array Value, e'.w.heap[k]? = some (Obj.cells C' T z) ∧ C'.size = C.size) {d : D} :
    ∀ {d' : D} {cs us : List Value}, Rep e d cs → Rep e' d' us → d.skel d' → Rep e' d' cs := by
  induction d with
  | lit v =>
    intro d' cs us h h' hs
    cases d' with
    | lit v' => obtain rfl : v = v' := hs; exact h
    | _ => exact hs.elim
  | nil =>
    intro d' cs us h h' hs
    cases d' with
    | nil => exact h
    | _ => exact hs.elim
  | sl t zb n sz f ih =>
    intro d' cs us h h' hs
    cases d' with
    | sl t' zb' n' sz' f' =>
      obtain ⟨rfl, rfl, rfl, rfl, rfl⟩ := hs
      obtain ⟨o, c, ps, h1, h2, h3, h4, h5, h6⟩ := h
      obtain ⟨o', c', ps', k1, k2, k3, k4, k5, k6⟩ := h'
      obtain ⟨rfl, C, T, h7, h8⟩ := h6 rfl
      obtain ⟨rfl, C1, T1, k7, k8⟩ := k6 rfl
      obtain ⟨C', h9, h10⟩ := hcell _ _ _ _ h7
      exact ⟨0, c, ps', h1, h2, k3, k4, k5, fun _ => ⟨rfl, C', T, h9, by omega⟩⟩
    | _ => exact hs.elim
  | node k f ih =>
    intro d' cs us h h' hs
    cases d' with
    | node k' f' =>
      obtain ⟨rfl, hs⟩ := hs
      obtain ⟨ps, h1, rfl⟩ := h
      obtain ⟨us', k1, rfl⟩ := h'
      exact ⟨ps, fun i hi => ⟨(h1 i hi).1, ih i (h1 i hi).2 (k1 i hi).2 (hs i hi)⟩, rfl⟩
    | _ => exact hs.elim
  | tup n f ih => intro d' cs us h; exact h.elim
  | _ => intro d' cs us h h' hs; simp [D.skel] at hs
def MCall (P : Program) (f : FuncId) (d : D) (rest : List D) (v : Value) (Qd : D → Prop) : Prop :=
  Enters P f ∧ Leaf v ∧ ∀ (w : World) (p : Nat → Prop) (vs : Array Value), vs.size = rest.length + 1 → (∀ b, p b → b < w.heap.size) → (∀ b, b ∈ d.tl → p b) →
    (∀ i x, (d :: rest)[i]? = some x → VRep ⟨fun _ => none, 1, p, w⟩ x (vs.getD i undef)) →
    Calls P f vs w fun en w' => en = .returned v ∧ Keep w (· ∈ d.tl) w' ∧ ∃ d' p' u, Qd d' ∧ d.skel d' ∧ d'.tags (· ∈ d.tl) ∧ VRep ⟨fun _ => none, 1, p', w'⟩ d' u
inductive Carry (d d' : D) : D → D → Prop
  | here : Carry d d' d d'
  | apart (x : D) : x.tags (fun b => b ∉ d.tl) → Carry d d' x x
  | drop (x : D) : Carry d d' x .any
  | ptr (l g o : Nat) (p : List Nat) : Carry d d' (.ptr l g o p) (.ptr l g o p)
  | msl (l g o : Nat) (p : List Nat) (i n sz : Nat) : Carry d d' (.msl l g o p i n sz) (.msl l g o p i n sz)
  | node (k : Kd) (f f' : Nat → D) : (∀ i, i < k.cnt → Carry d d' (f i) (f' i)) → Carry d d' (.node k f) (.node k f')
  | sl (t : Nat) (zb : Bool) (n sz : Nat) (f f' : Nat → D) : t ∉ d.tl → (∀ i, i < n → Carry d d' (f i) (f' i)) → Carry d d' (.sl t zb n sz f) (.sl t zb n sz f')
  | all (x : D) : d.tl = [] → Carry d d' x x
def CarR (d d' : D) (R R' : Roots) : Prop := ∀ l, match R' l with
  | none => True
  | some (g, b, x') => (x'.plain ∨ R l = some (g, b, x')) ∧ ∃ x, R l = some (g, b, x) ∧ Carry d d' x x'
theorem CarR.none (d d' : D) (R : Roots) : CarR d d' R (fun _ => Option.none) := fun _ => trivial
theorem CarR.upd {d d' : D} {R R' : Roots} (h : CarR d d' R R') {l g b : Nat} {x x' : D} (hp : x'.plain) (hx : Carry d d' x x') : CarR d d' (IM.upd R l (some (g, b, x))) (IM.upd R' l (some (g, b, x'))) := by
  intro l'
  by_cases hl : l' = l
  · subst hl
    rw [upd_same, upd_same]
    exact ⟨.inl hp, x, rfl, hx⟩
  · rw [upd_ne _ _ hl, upd_ne _ _ hl]
    exact h l'
structure Past (S : Nat → Prop) (e e' : Env) : Prop where
  P : ∀ b, e.P b → e'.P b
  block : ∀ b, e.P b → ¬ S b → e'.w.heap[b]? = e.w.heap[b]?
  cell : ∀ (k : Nat) (C : Array Value) (T : TypeId) (z : Nat × Nat), e.w.heap[k]? = some (Obj.cells C T z) → ∃ C' : Array Value, e'.w.heap[k]? = some (Obj.cells C' T z) ∧ C'.size = C.size
  G : e.G ≤ e'.G
  R : ∀ l g b x, e'.R l = some (g, b, x) → ∃ x', e.R l = some (g, b, x')
theorem Past.le {S : Nat → Prop} {e e' : Env} (hp : Past S e e') (hS : ∀ b, ¬ S b) : e.le e' :=
  ⟨hp.G, hp.P, fun b hb => hp.block b hb (hS b), fun l g b d _ h => hp.R l g b d h, fun l g b d _ _ C T z hC => by
    obtain ⟨C', h1, h2⟩ := hp.cell _ _ _ _ hC
    exact ⟨C', z, h1, h2⟩⟩
theorem no_tl {d : D} (h : d.tl = []) (b : Nat) : ¬ b ∈ d.tl := by rw [h]; simp
theorem rep_apart {S : Nat → Prop} {e e' : Env} (hp : Past S e e') {x : D} : ∀ {cs : List Value}, x.tags (fun b => ¬ S b) → Rep e x cs → Rep e' x cs := by
  induction x with
  | lit v => intro cs _ h; exact h
  | nil => intro cs _ h; exact h
  | opq v S' φ =>
    intro cs ht h
    obtain ⟨h1, h2, h3, h4, h5⟩ := h
    exact ⟨h1, h2, fun b hb => hp.P _ (h3 b hb), h5 _ _ (fun b hb => hp.block b (h3 b hb) (ht b hb)) h4, h5⟩
  | sl t zb n sz f ih =>
    intro cs ht h
    obtain ⟨o, c, ps, h1, h2, h3, h4, h5, h6⟩ := h
    have hb := hp.block t h3 ht.1
    exact ⟨o, c, ps, h1, h2, hp.P _ h3, fun i hi => ⟨(h4 i hi).1, ih i (ht.2 i hi) (h4 i hi).2⟩, h5.of_block hb, fun hz => (h6 hz).of_block hb⟩
  | node k f ih =>
    intro cs ht h
    obtain ⟨ps, h1, h2⟩ := h
    exact ⟨ps, fun i hi => ⟨(h1 i hi).1, ih i (ht i hi) (h1 i hi).2⟩, h2⟩
  | tup n f => intro cs _ h; exact h.elim
  | any => intro cs _ h; exact h
  | _ => intro cs ht; exact ht.elim
theorem rep_carry {d d' : D} {e e' : Env} (hp : Past (· ∈ d.tl) e e') (hh : ∀ cs, Rep e d cs → Rep e' d' cs) {x x' : D} (hc : Carry d d' x x') : ∀ {cs : List Value}, Rep e x cs → Rep e' x' cs := by
  induction hc with
  | here => intro cs h; exact hh cs h
  | apart x hx => intro cs h; exact rep_apart hp hx h
  | drop x => intro cs h; exact Rep_leaf h
  | ptr l g o p =>
    intro cs h
    obtain ⟨hg, a, h1, h2⟩ := h
    refine ⟨Nat.lt_of_lt_of_le hg hp.G, a, h1, fun b x hx => ?_⟩
    obtain ⟨x', hx'⟩ := hp.R _ _ _ _ hx
    exact h2 b x' hx'
  | msl l g o p i n sz =>
    intro cs h
    obtain ⟨hg, a, c, h1, h2, h3⟩ := h
    refine ⟨Nat.lt_of_lt_of_le hg hp.G, a, c, h1, h2, fun b x hx => ?_⟩
    obtain ⟨x', hx'⟩ := hp.R _ _ _ _ hx
    obtain ⟨q1, C, T, z, q2, q3⟩ := h3 b x' hx'
    obtain ⟨C', q4, q5⟩ := hp.cell _ _ _ _ q2
    exact ⟨q1, C', T, z, q4, by omega⟩
  | node k f f' _ ih =>
    intro cs h
    obtain ⟨ps, h1, h2⟩ := h
    exact ⟨ps, fun i hi => ⟨(h1 i hi).1, ih i hi (h1 i hi).2⟩, h2⟩
  | sl t zb n sz f f' ht _ ih =>
    intro cs h
    obtain ⟨o, c, ps, h1, h2, h3, h4, h5, h6⟩ := h
    have hb := hp.block t h3 ht
    exact ⟨o, c, ps, h1, h2, hp.P _ h3, fun i hi => ⟨(h4 i hi).1, ih i hi (h4 i hi).2⟩, h5.of_block hb, fun hz => (h6 hz).of_block hb⟩
  | all x h0 => intro cs h; exact Rep_le (hp.le fun b => no_tl h0 b) h
theorem vrep_apart {S : Nat → Prop} {e e' : Env} (hp : Past S e e') {x : D} : ∀ {v : Value}, x.tags (fun b => ¬ S b) → VRep e x v → VRep e' x v := by
  induction x with
  | node k f => intro v ht h; obtain ⟨cs, h1, h2⟩ := h; exact ⟨cs, h1, rep_apart hp ht h2⟩
  | tup n f ih => intro v ht h; obtain ⟨vs, h1, h2, h3⟩ := h; exact ⟨vs, h1, h2, fun i hi => ih i (ht i hi) (h3 i hi)⟩
  | any => intro v _ h; trivial
  | lit u => intro v ht h; exact rep_apart (x := .lit u) hp ht h
  | nil => intro v ht h; exact rep_apart (x := .nil) hp ht h
  | sl t zb n sz f => intro v ht h; exact rep_apart (x := .sl t zb n sz f) hp ht h
  | opq u S' φ => intro v ht h; exact rep_apart (x := .opq u S' φ) hp ht h
  | _ => intro v ht; exact ht.elim
theorem vrep_carry {d d' : D} {e e' : Env} (hdp : d.plain) (hp : Past (· ∈ d.tl) e e') (hs : d.skel d') (hh : ∀ cs, Rep e d cs → Rep e' d' cs) {x x' : D} (hc : Carry d d' x x') {v : Value} (h : VRep e x v) : VRep e' x' v := by
  cases hc with
  | here =>
    cases d with
    | node k f =>
      obtain ⟨cs, rfl, h2⟩ := h
      have h3 := hh _ h2
      cases d' with
      | node k' f' => exact ⟨cs, rfl, h3⟩
      | _ => exact hs.elim
    | lit u =>
      have h3 := hh [v] h
      cases d' with
      | lit u' => exact h3
      | _ => exact hs.elim
    | nil =>
      have h3 := hh [v] h
      cases d' with
      | nil => exact h3
      | _ => exact hs.elim
    | sl t zb n sz f =>
      have h3 := hh [v] h
      cases d' with
      | sl t zb n sz f => exact h3
      | _ => exact hs.elim
    | tup n f =>
      exact (hdp : False).elim
    | _ => simp [D.skel] at hs
  | apart x hx => exact vrep_apart hp hx h
  | drop x => trivial
  | ptr l g o p => exact rep_carry hp hh (Carry.ptr l g o p) h
  | msl l g o p i n sz => exact rep_carry hp hh (Carry.msl l g o p i n sz) h
  | node k f f' hf => obtain ⟨cs, h1, h2⟩ := h; exact ⟨cs, h1, rep_carry hp hh (Carry.node k f f' hf) h2⟩
  | sl t zb n sz f f' ht hf => exact rep_carry hp hh (Carry.sl t zb n sz f f' ht hf) h
  | all x h0 => exact VRep_le (hp.le fun b => no_tl h0 b) h
theorem rep_any_of_vrep {e : Env} {d : D} {v : Value} (hp : d.plain) (h : VRep e d v) : ∃ cs, Rep e d cs := ⟨_, VRep_cells hp h⟩
theorem skel_plain {d d' : D} (hp : d.plain) (h : d.skel d') : d'.plain := by
  cases d <;> cases d' <;> first | trivial | exact h.elim | exact hp.elim
def ACall (P : Program) (f : FuncId) (d : D) (rest : List D) (Q : Nat → Nat → D → Prop) : Prop :=
  Enters P f ∧ ∀ (w : World) (p : Nat → Prop) (vs : Array Value), vs.size = rest.length + 1 → (∀ b, p b → b < w.heap.size) → (∀ b, b ∈ d.tl → p b) →
    (∀ i x, (d :: rest)[i]? = some x → VRep ⟨fun _ => none, 1, p, w⟩ x (vs.getD i undef)) →
    Calls P f vs w fun en w' => ∃ v r p', en = .returned v ∧ Keep w (· ∈ d.tl) w' ∧ Q w.heap.size w'.heap.size r ∧ (∀ b, p' b → b < w'.heap.size) ∧ r.tags (fun b => b ∈ d.tl ∨ w.heap.size ≤ b) ∧ VRep ⟨fun _ => none, 1, p', w'⟩ r v
def BCall (P : Program) (f : FuncId) (d0 d : D) (rest : List D) (Q : Nat → Nat → D → D → Prop) (o : Nat := 0) (q : List Nat := []) (T : Nat → Prop := fun b => b ∈ d.tl) (T2 : Nat → Prop := fun b => b ∈ d.tl) : Prop :=
  Enters P f ∧ ∀ (w : World) (p : Nat → Prop) (gb : Nat) (vs : Array Value), vs.size = rest.length + 1 → (∀ b, p b → b < w.heap.size) → (∀ b, b ∈ d0.tl → p b) →
    RootOk ⟨InsR (fun _ => gb) [d], 1, p, w⟩ gb d →
    (∀ i x, (D.ptr 1000 0 o q :: rest)[i]? = some x → VRep ⟨InsR (fun _ => gb) [d], 1, p, w⟩ x (vs.getD i undef)) →
    Calls P f vs w fun en w' => ∃ v r d' p', en = .returned v ∧ Keep w (fun b => b = gb ∨ b ∈ d0.tl) w' ∧ Q w.heap.size w'.heap.size d' r ∧ (∀ b, p' b → b < w'.heap.size) ∧
      d'.tags (fun b => T2 b ∨ w.heap.size ≤ b) ∧ r.tags (fun b => T b ∨ w.heap.size ≤ b) ∧ RootOk ⟨fun _ => none, 1, p', w'⟩ gb d' ∧ VRep ⟨fun _ => none, 1, p', w'⟩ r v
def D.free (t : Nat) : D → Prop
  | .sl t' _ n _ f => t' ≠ t ∧ ∀ i, i < n → (f i).free t
  | .opq _ S _ => ¬ S t
  | .node k f => ∀ i, i < k.cnt → (f i).free t
  | .tup n f => ∀ i, i < n → (f i).free t
  | .fn _ n c => ∀ i, i < n → (c i).free t
  | .cptr _ => False
  | _ => True
def D.dat : D → Prop
  | .sl _ _ n _ f => ∀ i, i < n → (f i).dat
  | .node k f => ∀ i, i < k.cnt → (f i).dat
  | .tup n f => ∀ i, i < n → (f i).dat
  | .lit _ => True
  | .nil => True
  | .any => True
  | _ => False
theorem free_of_tl {t : Nat} {d : D} : d.dat → t ∉ d.tl → d.free t := by
  induction d with
  | sl t' zb n sz f ih =>
    intro hd h
    simp only [D.tl, List.mem_cons, List.mem_flatMap, List.mem_range, not_or, not_exists, not_and] at h
    exact ⟨fun e => h.1 e.symm, fun i hi => ih i (hd i hi) fun hx => h.2 i hi hx⟩
  | node k f ih =>
    intro hd h i hi
    refine ih i (hd i hi) fun hx => h ?_
    simp only [D.tl, List.mem_flatMap, List.mem_range]; exact ⟨i, hi, hx⟩
  | tup n f ih =>
    intro hd h i hi
    refine ih i (hd i hi) fun hx => h ?_
    simp only [D.tl, List.mem_flatMap, List.mem_range]; exact ⟨i, hi, hx⟩
  | lit v => intro _ _; trivial
  | nil => intro _ _; trivial
  | any => intro _ _; trivial
  | _ => intro hd; exact hd.elim
inductive Thaw (t n sz : Nat) (f : Nat → D) (l g : Nat) : D → D → Prop
  | here : Thaw t n sz f l g (.sl t true n sz f) (.msl l g 0 [] 0 n sz)
  | free (x : D) : x.free t → Thaw t n sz f l g x x
  | drop (x : D) : Thaw t n sz f l g x .any
  | node (k : Kd) (h h' : Nat → D) : (∀ i, i < k.cnt → Thaw t n sz f l g (h i) (h' i)) → Thaw t n sz f l g (.node k h) (.node k h')
  | tup (m : Nat) (h h' : Nat → D) : (∀ i, i < m → Thaw t n sz f l g (h i) (h' i)) → Thaw t n sz f l g (.tup m h) (.tup m h')
inductive Has (x : D) : D → Prop
  | here : Has x x
  | node (k : Kd) (h : Nat → D) (i : Nat) : i < k.cnt → Has x (h i) → Has x (.node k h)
  | tup (m : Nat) (h : Nat → D) (i : Nat) : i < m → Has x (h i) → Has x (.tup m h)
def ThawK (W : Nat → Prop) (st : St) (K : St → Prop) : Prop :=
  ∃ t n sz f l, W t ∧ st.R l = none ∧ (∀ i, i < n → (f i).free t) ∧ (∃ j, Has (.sl t true n sz f) (st.s j)) ∧ ∀ g, ∃ (s' : Nat → D) (R' : Roots), (∀ j, Thaw t n sz f l g (st.s j) (s' j)) ∧
    (∀ l', R' l' = none ∨ (l' = l ∧ R' l' = some (g, t, .node (.arr n sz) f)) ∨ (l' ≠ l ∧ ∃ g0 b x x', st.R l' = some (g0, b, x) ∧ R' l' = some (g0, b, x') ∧ x'.plain ∧ Thaw t n sz f l g x x')) ∧
    K { N := st.N, n := st.n, s := s', R := R' }
def ThawR (W : Nat → Prop) (st : St) (K : St → Prop) : Prop :=
  ∃ t n sz f l, W t ∧ st.R l = none ∧ (∀ i, i < n → (f i).free t) ∧ (∃ lq gq bq xq, st.R lq = some (gq, bq, xq) ∧ Has (.sl t true n sz f) xq) ∧ ∀ g, ∃ (s' : Nat → D) (R' : Roots), (∀ j, Thaw t n sz f l g (st.s j) (s' j)) ∧
    (∀ l', R' l' = none ∨ (l' = l ∧ R' l' = some (g, t, .node (.arr n sz) f)) ∨ (l' ≠ l ∧ ∃ g0 b x x', st.R l' = some (g0, b, x) ∧ R' l' = some (g0, b, x') ∧ x'.plain ∧ Thaw t n sz f l g x x')) ∧
    K { N := st.N, n := st.n, s := s', R := R' }
def ConvN (W : Nat → Prop) (K : St → Prop) : Nat → St → Prop
  | 0, st => K st
  | m + 1, st => ThawK W st (ConvN W K m) ∨ ThawR W st (ConvN W K m)
def Conv (W : Nat → Prop) (K : St → Prop) (st : St) : Prop := ∃ m, ConvN W K m st
def labBV (R : Roots) (l g : Nat) : Relab := fun l' g' => if l' = l then (if g' = g then .to 1000 0 else .gone) else labView R l' g'
def BEff (P : Program) (W : Nat → Prop) (f m : Nat) (xs : List Operand) (dst : Option Tmp) (st : St) (K : St → Prop) : Prop :=
  ∃ d0 d rest0 rest Q l g b o q T T2, m = 0 ∧ xs.map st.ev = .ptr l g o q :: rest0 ∧ rest0.map (rl 9 (labBV st.R l g)) = rest ∧ st.R l = some (g, b, d) ∧ d.still ∧ (∀ b ∈ d0.tl, b ∈ d.tl) ∧ (∀ b ∈ d0.tl, W b) ∧ BCall P f d0 d rest Q o q T T2 ∧ (∀ t, T t → t ∈ d.tl ∨ ∃ x ∈ rest0, t ∈ x.tl) ∧ (∀ t, T2 t → t ∈ d.tl ∨ ∃ x ∈ rest0, t ∈ x.tl) ∧
    ∀ n0 n1 d' r, st.n ≤ n0 → n0 ≤ n1 → (∀ t ∈ d.tl, t < n0) → Q n0 n1 d' r → d'.tags (fun b => T2 b ∨ n0 ≤ b) → ∃ (s' : Nat → D) (R' : Roots), (∀ t, Carry d0 .any (st.s t) (s' t)) ∧
      R' l = none ∧ CarR d0 .any st.R R' ∧
      Conv W K (({ N := st.N, n := n1, s := s', R := upd R' l (some (g, b, d')) } : St).put dst r)
def AEff (P : Program) (W : Nat → Prop) (f m : Nat) (xs : List Operand) (dst : Option Tmp) (st : St) (K : St → Prop) : Prop :=
  ∃ d rest Q, m = 0 ∧ xs.map st.ev = d :: rest ∧ d.still ∧ (∀ x ∈ rest, x.still) ∧ (∀ b ∈ d.tl, W b) ∧ ACall P f d rest Q ∧
    ∀ n0 n1 r, st.n ≤ n0 → n0 ≤ n1 → (∀ t ∈ d.tl, t < n0) → Q n0 n1 r → ∃ (s' : Nat → D) (R' : Roots), (∀ t, Carry d .any (st.s t) (s' t)) ∧
      CarR d .any st.R R' ∧
      K (({ N := st.N, n := n1, s := s', R := R' } : St).put dst r)
def MEff (P : Program) (W : Nat → Prop) (f m : Nat) (xs : List Operand) (dst : Option Tmp) (st : St) (K : St → Prop) : Prop :=
  ∃ d rest v Qd, m = 0 ∧ xs.map st.ev = d :: rest ∧ d.plain ∧ d.still ∧ (∀ x ∈ rest, x.still) ∧ (∀ b ∈ d.tl, W b) ∧ MCall P f d rest v Qd ∧
    ∀ d' n1, st.n ≤ n1 → Qd d' → d.skel d' → ∃ (s' : Nat → D) (R' : Roots), (∀ t, Carry d d' (st.s t) (s' t)) ∧
      CarR d d' st.R R' ∧
      K (({ N := st.N, n := n1, s := s', R := R' } : St).put dst (.lit v))
structure Melt (t l : Nat) (e e' : Env) : Prop where
  w : e'.w = e.w
  P : ∀ b, e.P b → b ≠ t → e'.P b
  G : e'.G = e.G + 1
  R : ∀ l' g b x, e'.R l' = some (g, b, x) → g < e.G → ∃ x', e.R l' = some (g, b, x')
theorem rep_free {t l : Nat} {e e' : Env} (hm : Melt t l e e') {d : D} : ∀ {cs : List Value}, d.free t → Rep e d cs → Rep e' d cs := by
  induction d with
  | lit v => intro cs _ h; exact h
  | nil => intro cs _ h; exact h
  | any => intro cs _ h; exact h
  | tup n f => intro cs _ h; exact h.elim
  | cptr d => intro cs hf; exact hf.elim
  | opq v S φ =>
    intro cs hf h
    obtain ⟨h1, h2, h3, h4, h5⟩ := h
    exact ⟨h1, h2, fun b hb => hm.P _ (h3 b hb) (by rintro rfl; exact hf hb), by rw [hm.w]; exact h4, h5⟩
  | sl t' zb n sz f ih =>
    intro cs hf h
    obtain ⟨o, c, ps, h1, h2, h3, h4, h5, h6⟩ := h
    exact ⟨o, c, ps, h1, h2, hm.P _ h3 hf.1, fun i hi => ⟨(h4 i hi).1, ih i (hf.2 i hi) (h4 i hi).2⟩, by rw [hm.w]; exact h5, by rw [hm.w]; exact h6⟩
  | node k f ih =>
    intro cs hf h
    obtain ⟨ps, h1, h2⟩ := h
    exact ⟨ps, fun i hi => ⟨(h1 i hi).1, ih i (hf i hi) (h1 i hi).2⟩, h2⟩
  | ptr l' g o p =>
    intro cs _ h
    obtain ⟨hg, a, h1, h2⟩ := h
    refine ⟨by rw [hm.G]; omega, a, h1, fun b x hx => ?_⟩
    obtain ⟨x', hx'⟩ := hm.R _ _ _ _ hx hg
    exact h2 b x' hx'
  | msl l' g o p i n sz =>
    intro cs _ h
    obtain ⟨hg, a, c, h1, h2, h3⟩ := h
    refine ⟨by rw [hm.G]; omega, a, c, h1, h2, fun b x hx => ?_⟩
    obtain ⟨x', hx'⟩ := hm.R _ _ _ _ hx hg
    obtain ⟨q1, C, T, z, q2, q3⟩ := h3 b x' hx'
    exact ⟨q1, C, T, z, by rw [hm.w]; exact q2, q3⟩
  | fn f n c ih =>
    intro cs hf h
    obtain ⟨vs, h1, h2, h3⟩ := h
    exact ⟨vs, h1, h2, fun i hi => ⟨(h3 i hi).1, ih i (hf i hi) (h3 i hi).2⟩⟩
theorem vrep_free {t l : Nat} {e e' : Env} (hm : Melt t l e e') {d : D} : ∀ {v : Value}, d.free t → VRep e d v → VRep e' d v := by
  induction d with
  | node k f => intro v hf h; obtain ⟨cs, h1, h2⟩ := h; exact ⟨cs, h1, rep_free hm hf h2⟩
  | tup n f ih => intro v hf h; obtain ⟨vs, h1, h2, h3⟩ := h; exact ⟨vs, h1, h2, fun i hi => ih i (hf i hi) (h3 i hi)⟩
  | any => intro v _ h; trivial
  | cptr d => intro v hf; exact hf.elim
  | lit u => intro v hf h; exact rep_free (d := .lit u) hm hf h
  | nil => intro v hf h; exact rep_free (d := .nil) hm hf h
  | sl t zb n sz f => intro v hf h; exact rep_free (d := .sl t zb n sz f) hm hf h
  | opq u S φ => intro v hf h; exact rep_free (d := .opq u S φ) hm hf h
  | ptr l g o p => intro v hf h; exact rep_free (d := .ptr l g o p) hm hf h
  | msl l g o p i n sz => intro v hf h; exact rep_free (d := .msl l g o p i n sz) hm hf h
  | fn f n c => intro v hf h; exact rep_free (d := .fn f n c) hm hf h
theorem rep_thaw {t n sz l g : Nat} {f : Nat → D} {e e' : Env} (hm : Melt t l e e') (hg : g = e.G) (hl : ∀ b x, e'.R l = some (g, b, x) → b = t) {x x' : D} (ht : Thaw t n sz f l g x x') : ∀ {cs : List Value}, Rep e x cs → Rep e' x' cs := by
  induction ht with
  | here =>
    intro cs h
    obtain ⟨o, c, ps, h1, h2, h3, h4, h5, h6⟩ := h
    obtain ⟨rfl, C, T, h7, h8⟩ := h6 rfl
    refine ⟨by rw [hm.G, hg]; omega, _, c, h1, h2, fun b x hx => ?_⟩
    obtain rfl := hl b x hx
    exact ⟨rfl, C, T, _, by rw [hm.w]; exact h7, by omega⟩
  | free x hx => intro cs h; exact rep_free hm hx h
  | drop x => intro cs h; exact Rep_leaf h
  | node k h h' _ ih =>
    intro cs hr
    obtain ⟨ps, h1, h2⟩ := hr
    exact ⟨ps, fun i hi => ⟨(h1 i hi).1, ih i hi (h1 i hi).2⟩, h2⟩
  | tup m h h' _ _ => intro cs hr; exact hr.elim
theorem vrep_thaw {t n sz l g : Nat} {f : Nat → D} {e e' : Env} (hm : Melt t l e e') (hg : g = e.G) (hl : ∀ b x, e'.R l = some (g, b, x) → b = t) {x x' : D} (ht : Thaw t n sz f l g x x') : ∀ {v : Value}, VRep e x v → VRep e' x' v := by
  induction ht with
  | here => intro v h; exact rep_thaw hm hg hl (Thaw.here (f := f)) h
  | free x hx => intro v h; exact vrep_free hm hx h
  | drop x => intro v h; trivial
  | node k h h' hh _ => intro v hr; obtain ⟨cs, h1, h2⟩ := hr; exact ⟨cs, h1, rep_thaw hm hg hl (Thaw.node k h h' hh) h2⟩
  | tup m h h' _ ih =>
    intro v hr
    obtain ⟨vs, h1, h2, h3⟩ := hr
    exact ⟨vs, h1, h2, fun i hi => ih i hi (h3 i hi)⟩
theorem rep_has {e : Env} {x d : D} (h : Has x d) : ∀ {cs : List Value}, Rep e d cs → ∃ cs', Rep e x cs' := by
  induction h with
  | here => intro cs h; exact ⟨cs, h⟩
  | node k h i hi _ ih => intro cs hr; obtain ⟨ps, h1, h2⟩ := hr; exact ih (h1 i hi).2
  | tup m h i hi _ ih => intro cs hr; exact hr.elim
theorem vrep_has {e : Env} {x d : D} (hp : x.plain) (h : Has x d) : ∀ {v : Value}, VRep e d v → ∃ cs', Rep e x cs' := by
  induction h with
  | here => intro v h; exact ⟨_, VRep_cells hp h⟩
  | node k h i hi hh _ => intro v hr; obtain ⟨cs, _, h2⟩ := hr; exact rep_has (Has.node k h i hi hh) h2
  | tup m h i hi _ ih => intro v hr; obtain ⟨vs, h1, h2, h3⟩ := hr; exact ih (h3 i hi)
theorem SR.thaw {w0 : World} {M : Fr} {st : St} {a : Act} {w : World} {K : St → Prop} {W : Nat → Prop} (hW : ∀ b, W b → w0.heap.size ≤ b ∨ M.m b) (hs : SR w0 M st a w) (h : ThawK W st K) : Lift w0 M K a w := by
  obtain ⟨e, rfl, hg⟩ := hs
  obtain ⟨t, n, sz, f, l, hWt, hRl, hfr, ⟨j0, hhas⟩, h⟩ := h
  obtain ⟨s', R', hs', hR', hK⟩ := h e.G
  obtain ⟨cs, o, c, ps, h1, h2, h3, h4, h5, h6⟩ := vrep_has (x := .sl t true n sz f) trivial hhas (hg.slot j0)
  obtain ⟨rfl, C, T, h7, h8⟩ := h6 rfl
  have hsp : ∀ l' g b x, R' l' = some (g, b, x) → (l' = l ∧ g = e.G ∧ b = t ∧ x = .node (.arr n sz) f) ∨ (l' ≠ l ∧ x.plain ∧ ∃ x0, st.R l' = some (g, b, x0) ∧ Thaw t n sz f l e.G x0 x) := by
    intro l' g b x hl'
    rcases hR' l' with h | ⟨h, h'⟩ | ⟨h, g0, b0, x0, x', q1, q2, q3, q4⟩
    · rw [h] at hl'; cases hl'
    · rw [h'] at hl'
      simp only [Option.some.injEq, Prod.mk.injEq] at hl'
      exact .inl ⟨h, hl'.1.symm, hl'.2.1.symm, hl'.2.2.symm⟩
    · rw [q2] at hl'
      simp only [Option.some.injEq, Prod.mk.injEq] at hl'
      obtain ⟨rfl, rfl, rfl⟩ := hl'
      exact .inr ⟨h, q3, x0, q1, q4⟩
  have hm : Melt t l e ⟨R', e.G + 1, fun b => e.P b ∧ b ≠ t, e.w⟩ := by
    refine ⟨rfl, fun b hb hne => ⟨hb, hne⟩, rfl, fun l' g b x hx hgl => ?_⟩
    rcases hsp l' g b x hx with ⟨_, h, _⟩ | ⟨_, _, x0, h, _⟩
    · omega
    · exact ⟨x0, by rw [hg.R]; exact h⟩
  have hl : ∀ b x, R' l = some (e.G, b, x) → b = t := by
    intro b x hx
    rcases hsp _ _ _ _ hx with ⟨_, _, h, _⟩ | ⟨h, _⟩
    · exact h
    · exact absurd rfl h
  have hnt : ∀ l' g b x, st.R l' = some (g, b, x) → b ≠ t := by
    rintro l' g b x hx rfl
    exact (hg.envroot hx).np h3
  refine ⟨_, hK, ⟨R', e.G + 1, fun b => e.P b ∧ b ≠ t, e.w⟩, rfl, rfl, hg.N, hg.df, fun j => vrep_thaw hm rfl hl (hs' j) (hg.slot j), ?_, ?_, ?_, fun b hb => hg.P b hb.1, hg.keep, hg.n, fun b hb => hg.per b hb.1⟩
  · intro l' g b x hx
    rcases hsp _ _ _ _ hx with ⟨rfl, rfl, rfl, rfl⟩ | ⟨hne, hxp, x0, q1, q2⟩
    · refine ⟨Nat.lt_succ_self _, fun hp => hp.2 rfl, trivial, C, T, flat n ps, h7, ⟨ps, fun i hi => ⟨(h4 i hi).1, rep_free hm (hfr i hi) (h4 i hi).2⟩, rfl⟩, fun j v hj => ?_⟩
      obtain ⟨C1, T1, z1, r1, r2⟩ := h5
      rw [h7] at r1
      simp only [Option.some.injEq, Obj.cells.injEq] at r1
      obtain ⟨rfl, _⟩ := r1
      simpa using r2 j v hj
    · obtain ⟨hgg, hro⟩ := hg.root _ _ _ _ q1
      obtain ⟨C1, T1, cs1, r1, r2, r3⟩ := hro.row
      exact ⟨Nat.lt_succ_of_lt hgg, fun hp => hro.np hp.1, hxp, C1, T1, cs1, r1, rep_thaw hm rfl hl q2 r2, r3⟩
  · intro l' g b x hx
    rcases hsp _ _ _ _ hx with ⟨rfl, rfl, rfl, rfl⟩ | ⟨hne, hxp, x0, q1, q2⟩
    · exact hW _ hWt
    · exact hg.own _ _ _ _ q1
  · intro l1 l2 g1 g2 b x1 x2 hx1 hx2
    rcases hsp _ _ _ _ hx1 with ⟨k1, k2, k3, k4⟩ | ⟨hne, hxp, x0, q1, q2⟩ <;> rcases hsp _ _ _ _ hx2 with ⟨k1', k2', k3', k4'⟩ | ⟨hne', hxp', x0', q1', q2'⟩
    · rw [k1, k1']
    · exact absurd k3 (hnt _ _ _ _ q1')
    · exact absurd k3' (hnt _ _ _ _ q1)
    · exact hg.inj _ _ _ _ _ _ _ q1 q1'
theorem SR.thawR {w0 : World} {M : Fr} {st : St} {a : Act} {w : World} {K : St → Prop} {W : Nat → Prop} (hW : ∀ b, W b → w0.heap.size ≤ b ∨ M.m b) (hs : SR w0 M st a w) (h : ThawR W st K) : Lift w0 M K a w := by
  obtain ⟨e, rfl, hg⟩ := hs
  obtain ⟨t, n, sz, f, l, hWt, hRl, hfr, ⟨lq, gq, bq, xq, hRq, hhas⟩, h⟩ := h
  obtain ⟨s', R', hs', hR', hK⟩ := h e.G
  obtain ⟨Cq, Tq, csq, rq1, rq2, rq3⟩ := (hg.root _ _ _ _ hRq).2.row
  obtain ⟨cs, o, c, ps, h1, h2, h3, h4, h5, h6⟩ := rep_has hhas rq2
  obtain ⟨rfl, C, T, h7, h8⟩ := h6 rfl
  have hsp : ∀ l' g b x, R' l' = some (g, b, x) → (l' = l ∧ g = e.G ∧ b = t ∧ x = .node (.arr n sz) f) ∨ (l' ≠ l ∧ x.plain ∧ ∃ x0, st.R l' = some (g, b, x0) ∧ Thaw t n sz f l e.G x0 x) := by
    intro l' g b x hl'
    rcases hR' l' with h | ⟨h, h'⟩ | ⟨h, g0, b0, x0, x', q1, q2, q3, q4⟩
    · rw [h] at hl'; cases hl'
    · rw [h'] at hl'
      simp only [Option.some.injEq, Prod.mk.injEq] at hl'
      exact .inl ⟨h, hl'.1.symm, hl'.2.1.symm, hl'.2.2.symm⟩
    · rw [q2] at hl'
      simp only [Option.some.injEq, Prod.mk.injEq] at hl'
      obtain ⟨rfl, rfl, rfl⟩ := hl'
      exact .inr ⟨h, q3, x0, q1, q4⟩
  have hm : Melt t l e ⟨R', e.G + 1, fun b => e.P b ∧ b ≠ t, e.w⟩ := by
    refine ⟨rfl, fun b hb hne => ⟨hb, hne⟩, rfl, fun l' g b x hx hgl => ?_⟩
    rcases hsp l' g b x hx with ⟨_, h, _⟩ | ⟨_, _, x0, h, _⟩
    · omega
    · exact ⟨x0, by rw [hg.R]; exact h⟩
  have hl : ∀ b x, R' l = some (e.G, b, x) → b = t := by
    intro b x hx
    rcases hsp _ _ _ _ hx with ⟨_, _, h, _⟩ | ⟨h, _⟩
    · exact h
    · exact absurd rfl h
  have hnt : ∀ l' g b x, st.R l' = some (g, b, x) → b ≠ t := by
    rintro l' g b x hx rfl
    exact (hg.envroot hx).np h3
  refine ⟨_, hK, ⟨R', e.G + 1, fun b => e.P b ∧ b ≠ t, e.w⟩, rfl, rfl, hg.N, hg.df, fun j => vrep_thaw hm rfl hl (hs' j) (hg.slot j), ?_, ?_, ?_, fun b hb => hg.P b hb.1, hg.keep, hg.n, fun b hb => hg.per b hb.1⟩
  · intro l' g b x hx
    rcases hsp _ _ _ _ hx with ⟨rfl, rfl, rfl, rfl⟩ | ⟨hne, hxp, x0, q1, q2⟩
    · refine ⟨Nat.lt_succ_self _, fun hp => hp.2 rfl, trivial, C, T, flat n ps, h7, ⟨ps, fun i hi => ⟨(h4 i hi).1, rep_free hm (hfr i hi) (h4 i hi).2⟩, rfl⟩, fun j v hj => ?_⟩
      obtain ⟨C1, T1, z1, r1, r2⟩ := h5
      rw [h7] at r1
      simp only [Option.some.injEq, Obj.cells.injEq] at r1
      obtain ⟨rfl, _⟩ := r1
      simpa using r2 j v hj
    · obtain ⟨hgg, hro⟩ := hg.root _ _ _ _ q1
      obtain ⟨C1, T1, cs1, r1, r2, r3⟩ := hro.row
      exact ⟨Nat.lt_succ_of_lt hgg, fun hp => hro.np hp.1, hxp, C1, T1, cs1, r1, rep_thaw hm rfl hl q2 r2, r3⟩
  · intro l' g b x hx
    rcases hsp _ _ _ _ hx with ⟨rfl, rfl, rfl, rfl⟩ | ⟨hne, hxp, x0, q1, q2⟩
    · exact hW _ hWt
    · exact hg.own _ _ _ _ q1
  · intro l1 l2 g1 g2 b x1 x2 hx1 hx2
    rcases hsp _ _ _ _ hx1 with ⟨k1, k2, k3, k4⟩ | ⟨hne, hxp, x0, q1, q2⟩ <;> rcases hsp _ _ _ _ hx2 with ⟨k1', k2', k3', k4'⟩ | ⟨hne', hxp', x0', q1', q2'⟩
    · rw [k1, k1']
    · exact absurd k3 (hnt _ _ _ _ q1')
    · exact absurd k3' (hnt _ _ _ _ q1)
    · exact hg.inj _ _ _ _ _ _ _ q1 q1'
theorem SR.conv {w0 : World} {M : Fr} {a : Act} {w : World} {K : St → Prop} {W : Nat → Prop} (hW : ∀ b, W b → w0.heap.size ≤ b ∨ M.m b) : ∀ (m : Nat) (st : St), SR w0 M st a w → ConvN W K m st → Lift w0 M K a w
  | 0, st, hs, h => ⟨st, h, hs⟩
  | m + 1, st, hs, h => by
    rcases h with h | h
    · obtain ⟨st', h1, h2⟩ := hs.thaw hW h
      exact SR.conv hW m st' h2 h1
    · obtain ⟨st', h1, h2⟩ := hs.thawR hW h
      exact SR.conv hW m st' h2 h1
section ops
variable {P : Program} {w0 : World} {M : Fr} {st : St} {e : Env} {a : Act} {K : St → Prop} {Q : Exit → Act → World → Prop}
variable {dst : Option Tmp} {ty : TypeId} {pos : String} {after : Array Edge} {gd : Option (Nat × Bool)}
theorem still_rl {F : Relab} {l : List D} (h : ∀ x ∈ l, x.still) : l.map (rl 9 F) = l := by
  induction l with
  | nil => rfl
  | cons x l ih => rw [List.map_cons, ih (fun y hy => h y (by simp [hy])), rl_still (h x (by simp))]
theorem op_mcall (h : Good w0 M st e a) (fx : Operand) (xs : Array Operand) (ts : Array TypeId) {fid n : Nat} {c : Nat → D} (hf : st.ev fx = .fn fid n c) (hd : st.dstOk dst)
    {W : Nat → Prop} (hW : ∀ b, W b → w0.heap.size ≤ b ∨ M.m b) (hc : MEff P W fid n xs.toList dst st K) :
    (Oper.mk dst (.call { callee := .value fx, args := xs, argTypes := ts }) ty pos after gd).wp P a e.w (Lift w0 M K) Q := by
  obtain ⟨d, rest, v, Qd, rfl, hxs, hdp, hst, hrest, hWd, ⟨hent, hlv, hcalls⟩, hK⟩ := hc
  have ok : RelabOk e ⟨fun _ => none, 1, e.P, e.w⟩ (fun _ _ => .gone) := ⟨rfl, fun _ h => h, fun l g l' g' hF => (by cases hF), fun l g b d hF => (by cases hF)⟩
  obtain ⟨vs, hrun, hsz, hargs⟩ := enter_rl (P := P) (dst := dst) (ty := ty) (pos := pos) (after := after) (gd := gd) h fx xs ts hf hent ok
  have hstill : ∀ x ∈ d :: rest, x.still := by
    intro x hx
    rcases List.mem_cons.1 hx with rfl | hx
    · exact hst
    · exact hrest x hx
  have hl : (xs.toList.map fun x => rl 9 (fun _ _ => Lab.gone) (st.ev x)) ++ (List.range 0).map (fun i => rl 9 (fun _ _ => Lab.gone) (c i)) = d :: rest := by
    rw [List.range_zero, List.map_nil, List.append_nil]
    have : (xs.toList.map fun x => rl 9 (fun _ _ => Lab.gone) (st.ev x)) = (xs.toList.map st.ev).map (rl 9 fun _ _ => Lab.gone) := by rw [List.map_map]; rfl
    rw [this, hxs, still_rl hstill]
  rw [hl] at hsz hargs
  have h0 : VRep ⟨fun _ => none, 1, e.P, e.w⟩ d (vs.getD 0 undef) := hargs 0 d rfl
  unfold Oper.wp
  rw [hrun, Oper.upon_enter]
  refine (hcalls e.w e.P vs (by simpa using hsz) h.P (fun b hb => VRep_tl h0 b hb) hargs).mono ?_
  rintro en w' ⟨rfl, hk, d', p', u, hQ, hsk, htg, hu⟩
  obtain ⟨s', R', hs, hR, hKK⟩ := hK d' w'.heap.size (Nat.le_trans h.n hk.size) hQ hsk
  let e2 : Env := ⟨R', e.G, e.P, w'⟩
  have hRsub : ∀ l g b x', R' l = some (g, b, x') → x'.plain ∧ ∃ x, st.R l = some (g, b, x) ∧ Carry d d' x x' := by
    intro l g b x' hl
    have := hR l
    rw [hl] at this
    exact ⟨this.1.elim id fun h' => (h.envroot h').plain, this.2⟩
  have hown : ∀ l g b x, e.R l = some (g, b, x) → ¬ b ∈ d.tl := by
    intro l g b x hl hb
    rw [h.R] at hl
    exact (h.envroot hl).np (VRep_tl h0 b hb)
  have hp : Past (· ∈ d.tl) e e2 := ⟨fun _ h => h, fun b hb hs => hk.block b (h.P b hb) hs, hk.cell, Nat.le_refl _, fun l g b x hl => by
    obtain ⟨_, x', h1, _⟩ := hRsub l g b x hl
    exact ⟨x', by rw [h.R]; exact h1⟩⟩
  have hpl : d'.plain := skel_plain hdp hsk
  have hu2 : VRep ⟨fun _ => none, 0, e.P, w'⟩ d' u := VRep_tags (fun b hb _ => VRep_tl h0 b hb) htg hu
  have hle0 : Env.le ⟨fun _ => none, 0, e.P, w'⟩ e2 := ⟨Nat.zero_le _, fun b hb => hb, fun _ _ => rfl, fun l g b d hg' => absurd hg' (Nat.not_lt_zero _), fun l g b d hg' => absurd hg' (Nat.not_lt_zero _)⟩
  obtain ⟨us, hus⟩ := rep_any_of_vrep hpl (VRep_le hle0 hu2)
  have hh : ∀ cs, Rep e d cs → Rep e2 d' cs := fun cs hcs => skel_rep hk.cell hcs hus hsk
  have hW' : ∀ b, b ∈ d.tl → w0.heap.size ≤ b ∨ M.m b := fun b hb => hW b (hWd b hb)
  refine ⟨_, hKK, e2, rfl, Good.put (st := { N := st.N, n := w'.heap.size, s := s', R := R' }) ?_ (by simpa [St.dstOk] using hd) ⟨hlv, rfl⟩⟩
  refine ⟨rfl, h.N, h.df, fun t => vrep_carry hdp hp hsk hh (hs t) (h.slot t), ?_, ?_, ?_, fun b hb => Nat.lt_of_lt_of_le (h.P b hb) hk.size, h.keep.trans' hk hW', Nat.le_refl _, h.per⟩
  · intro l g b x' hl
    obtain ⟨hxp, x, h1, h2⟩ := hRsub l g b x' hl
    obtain ⟨hg, hro⟩ := h.root _ _ _ _ h1
    obtain ⟨C, T, cs, r1, r2, r3⟩ := hro.row
    have hb := hk.block b (lt_of_block r1) (hown l g b x (by rw [h.R]; exact h1))
    exact ⟨hg, hro.np, hxp, C, T, cs, hb.trans r1, rep_carry hp hh h2 r2, r3⟩
  · intro l g b x' hl
    obtain ⟨_, x, h1, _⟩ := hRsub l g b x' hl
    exact h.own _ _ _ _ h1
  · intro l l' g g' b x x' hl hl'
    obtain ⟨_, y, h1, _⟩ := hRsub _ _ _ _ hl
    obtain ⟨_, y', h2, _⟩ := hRsub _ _ _ _ hl'
    exact h.inj _ _ _ _ _ _ _ h1 h2
theorem vrep_carry_any {d : D} {e e' : Env} (hp : Past (· ∈ d.tl) e e') {x x' : D} (hc : Carry d .any x x') {v : Value} (h : VRep e x v) : VRep e' x' v := by
  have hh : ∀ cs, Rep e d cs → Rep e' .any cs := fun cs hcs => Rep_leaf hcs
  cases hc with
  | here => trivial
  | apart x hx => exact vrep_apart hp hx h
  | drop x => trivial
  | ptr l g o p => exact rep_carry hp hh (Carry.ptr l g o p) h
  | msl l g o p i n sz => exact rep_carry hp hh (Carry.msl l g o p i n sz) h
  | node k f f' hf => obtain ⟨cs, h1, h2⟩ := h; exact ⟨cs, h1, rep_carry hp hh (Carry.node k f f' hf) h2⟩
  | sl t zb n sz f f' ht hf => exact rep_carry hp hh (Carry.sl t zb n sz f f' ht hf) h
  | all x h0 => exact VRep_le (hp.le fun b => no_tl h0 b) h
theorem op_acall (h : Good w0 M st e a) (fx : Operand) (xs : Array Operand) (ts : Array TypeId) {fid n : Nat} {c : Nat → D} (hf : st.ev fx = .fn fid n c) (hd : st.dstOk dst)
    {W : Nat → Prop} (hW : ∀ b, W b → w0.heap.size ≤ b ∨ M.m b) (hc : AEff P W fid n xs.toList dst st K) :
    (Oper.mk dst (.call { callee := .value fx, args := xs, argTypes := ts }) ty pos after gd).wp P a e.w (Lift w0 M K) Q := by
  obtain ⟨d, rest, Qr, rfl, hxs, hst, hrest, hWd, ⟨hent, hcalls⟩, hK⟩ := hc
  have ok : RelabOk e ⟨fun _ => none, 1, e.P, e.w⟩ (fun _ _ => .gone) := ⟨rfl, fun _ h => h, fun l g l' g' hF => (by cases hF), fun l g b d hF => (by cases hF)⟩
  obtain ⟨vs, hrun, hsz, hargs⟩ := enter_rl (P := P) (dst := dst) (ty := ty) (pos := pos) (after := after) (gd := gd) h fx xs ts hf hent ok
  have hstill : ∀ x ∈ d :: rest, x.still := by
    intro x hx
    rcases List.mem_cons.1 hx with rfl | hx
    · exact hst
    · exact hrest x hx
  have hl : (xs.toList.map fun x => rl 9 (fun _ _ => Lab.gone) (st.ev x)) ++ (List.range 0).map (fun i => rl 9 (fun _ _ => Lab.gone) (c i)) = d :: rest := by
    rw [List.range_zero, List.map_nil, List.append_nil]
    have : (xs.toList.map fun x => rl 9 (fun _ _ => Lab.gone) (st.ev x)) = (xs.toList.map st.ev).map (rl 9 fun _ _ => Lab.gone) := by rw [List.map_map]; rfl
    rw [this, hxs, still_rl hstill]
  rw [hl] at hsz hargs
  have h0 : VRep ⟨fun _ => none, 1, e.P, e.w⟩ d (vs.getD 0 undef) := hargs 0 d rfl
  unfold Oper.wp
  rw [hrun, Oper.upon_enter]
  refine (hcalls e.w e.P vs (by simpa using hsz) h.P (fun b hb => VRep_tl h0 b hb) hargs).mono ?_
  rintro en w' ⟨v, r, p', rfl, hk, hQ, hp', htg, hr⟩
  obtain ⟨s', R', hs, hR, hKK⟩ := hK e.w.heap.size w'.heap.size r h.n hk.size (fun t ht => h.P t (VRep_tl h0 t ht)) hQ
  let e2 : Env := ⟨R', e.G, fun b => e.P b ∨ (e.w.heap.size ≤ b ∧ b < w'.heap.size), w'⟩
  have hRsub : ∀ l g b x', R' l = some (g, b, x') → x'.plain ∧ ∃ x, st.R l = some (g, b, x) ∧ Carry d .any x x' := by
    intro l g b x' hl
    have := hR l
    rw [hl] at this
    exact ⟨this.1.elim id fun h' => (h.envroot h').plain, this.2⟩
  have hown : ∀ l g b x, e.R l = some (g, b, x) → ¬ b ∈ d.tl := by
    intro l g b x hl hb
    rw [h.R] at hl
    exact (h.envroot hl).np (VRep_tl h0 b hb)
  have hp : Past (· ∈ d.tl) e e2 := ⟨fun _ h => .inl h, fun b hb hs => hk.block b (h.P b hb) hs, hk.cell, Nat.le_refl _, fun l g b x hl => by
    obtain ⟨_, x', h1, _⟩ := hRsub l g b x hl
    exact ⟨x', by rw [h.R]; exact h1⟩⟩
  have hh : ∀ cs, Rep e d cs → Rep e2 .any cs := fun cs hcs => Rep_leaf hcs
  have hW' : ∀ b, b ∈ d.tl → w0.heap.size ≤ b ∨ M.m b := fun b hb => hW b (hWd b hb)
  have hr2 : VRep ⟨fun _ => none, 0, e2.P, w'⟩ r v := VRep_tags (P' := e2.P) (fun b hb hP => hb.elim (fun h' => Or.inl (VRep_tl h0 b h')) fun h' => Or.inr ⟨h', hp' b hP⟩) htg hr
  have hle0 : Env.le ⟨fun _ => none, 0, e2.P, w'⟩ e2 := ⟨Nat.zero_le _, fun b hb => hb, fun _ _ => rfl, fun l g b d hg' => absurd hg' (Nat.not_lt_zero _), fun l g b d hg' => absurd hg' (Nat.not_lt_zero _)⟩
  refine ⟨_, hKK, e2, rfl, Good.put (st := { N := st.N, n := w'.heap.size, s := s', R := R' }) ?_ (by simpa [St.dstOk] using hd) (VRep_le hle0 hr2)⟩
  refine ⟨rfl, h.N, h.df, fun t => vrep_carry_any hp (hs t) (h.slot t), ?_, ?_, ?_, ?_, h.keep.trans' hk hW', Nat.le_refl _, ?_⟩
  · intro l g b x' hl
    obtain ⟨hxp, x, h1, h2⟩ := hRsub l g b x' hl
    obtain ⟨hg, hro⟩ := h.root _ _ _ _ h1
    obtain ⟨C, T, cs, r1, r2, r3⟩ := hro.row
    have hlt := lt_of_block r1
    have hb := hk.block b hlt (hown l g b x (by rw [h.R]; exact h1))
    refine ⟨hg, ?_, hxp, C, T, cs, hb.trans r1, rep_carry hp hh h2 r2, r3⟩
    rintro (hP | hP)
    · exact hro.np hP
    · omega
  · intro l g b x' hl
    obtain ⟨_, x, h1, _⟩ := hRsub l g b x' hl
    exact h.own _ _ _ _ h1
  · intro l l' g g' b x x' hl hl'
    obtain ⟨_, y, h1, _⟩ := hRsub _ _ _ _ hl
    obtain ⟨_, y', h2, _⟩ := hRsub _ _ _ _ hl'
    exact h.inj _ _ _ _ _ _ _ h1 h2
  · rintro b (hb | hb)
    · exact Nat.lt_of_lt_of_le (h.P b hb) hk.size
    · exact hb.2
  · rintro b (hb | hb)
    · exact h.per b hb
    · exact .inl (Nat.le_trans h.keep.size hb.1)
theorem op_bcall (h : Good w0 M st e a) (fx : Operand) (xs : Array Operand) (ts : Array TypeId) {fid n : Nat} {c : Nat → D} (hf : st.ev fx = .fn fid n c) (hd : st.dstOk dst)
    {W : Nat → Prop} (hW : ∀ b, W b → w0.heap.size ≤ b ∨ M.m b) (hc : BEff P W fid n xs.toList dst st K) :
    (Oper.mk dst (.call { callee := .value fx, args := xs, argTypes := ts }) ty pos after gd).wp P a e.w (Lift w0 M K) Q := by
  obtain ⟨d0, d, rest0, rest, Qr, l, g, b, o, q, T, T2, rfl, hxs, hrest, hRl, hst, hsubd, hWd, ⟨hent, hcalls⟩, hTT, hTT2, hK⟩ := hc
  have hro0 := h.envroot hRl
  obtain ⟨C0, T0, cs0, q1, q2, q3⟩ := hro0.row
  have hblt := lt_of_block q1
  have okv := relab_view h
  let pv : Nat → Prop := fun x => e.P x ∨ ∃ l' g' d', l' ≠ l ∧ st.R l' = some (g', x, d')
  have ok : RelabOk e ⟨InsR (fun _ => b) [d], 1, pv, e.w⟩ (labBV st.R l g) := by
    refine ⟨rfl, fun _ h => .inl h, fun l1 g1 l' g' hF hg => ?_, fun l1 g1 b1 d1 hF => ?_⟩
    · unfold labBV at hF
      split at hF
      · rename_i hl
        subst hl
        split at hF
        · rename_i hgg
          subst hgg
          simp only [Lab.to.injEq] at hF
          obtain ⟨rfl, rfl⟩ := hF
          refine ⟨Nat.one_pos, fun b1 d1 hb => ?_⟩
          have hb' : InsR (fun _ => b) [d] 1000 = some (0, b1, d1) := hb
          obtain ⟨i', h1, h2, h3, _, h4⟩ := InsR_some hb'
          subst h4
          exact ⟨d, by rw [h.R]; exact hRl⟩
        · cases hF
      · unfold labView at hF; split at hF
        · split at hF <;> cases hF
        · cases hF
    · unfold labBV at hF
      split at hF
      · split at hF <;> cases hF
      · rename_i hne
        obtain ⟨k1, k2, _⟩ := okv.per l1 g1 b1 d1 hF
        exact ⟨k1, k2, .inr ⟨l1, g1, d1, hne, by rw [← h.R]; exact k1⟩⟩
  obtain ⟨vs, hrun, hsz, hargs⟩ := enter_rl (P := P) (dst := dst) (ty := ty) (pos := pos) (after := after) (gd := gd) h fx xs ts hf hent ok
  have hl : (xs.toList.map fun x => rl 9 (labBV st.R l g) (st.ev x)) ++ (List.range 0).map (fun i => rl 9 (labBV st.R l g) (c i)) = .ptr 1000 0 o q :: rest := by
    rw [List.range_zero, List.map_nil, List.append_nil]
    have : (xs.toList.map fun x => rl 9 (labBV st.R l g) (st.ev x)) = (xs.toList.map st.ev).map (rl 9 (labBV st.R l g)) := by rw [List.map_map]; rfl
    rw [this, hxs, List.map_cons, hrest, rl_ptr]
    simp [labBV]
  rw [hl] at hsz hargs
  have hdP : ∀ t ∈ d.tl, e.P t := fun t ht => Rep_tl q2 t ht
  have hroE : RootOk ⟨InsR (fun _ => b) [d], 1, pv, e.w⟩ b d := ⟨fun hp => hp.elim hro0.np fun ⟨l', g', d', hne, hx⟩ => hne (h.inj _ _ _ _ _ _ _ hx hRl), hro0.plain, C0, T0, cs0, q1, Rep_still (e := e) (e' := ⟨InsR (fun _ => b) [d], 1, pv, e.w⟩) rfl (fun _ h => .inl h) hst q2, q3⟩
  unfold Oper.wp
  rw [hrun, Oper.upon_enter]
  have hpv : ∀ x, pv x → x < e.w.heap.size := by
    rintro x (hx | ⟨l', g', d', _, hx⟩)
    · exact h.P x hx
    · obtain ⟨C1, T1, cs1, r1, _⟩ := (h.envroot hx).row; exact lt_of_block r1
  refine (hcalls e.w pv b vs (by simpa using hsz) hpv (fun t ht => .inl (hdP t (hsubd t ht))) hroE hargs).mono ?_
  rintro en w' ⟨v, r, d', p', rfl, hk, hQ, hp', htd, htr, hro', hr⟩
  obtain ⟨s', R', hs, hRn, hR, hKK⟩ := hK e.w.heap.size w'.heap.size d' r h.n hk.size (fun t ht => h.P t (hdP t ht)) hQ htd
  let e2 : Env := ⟨upd R' l (some (g, b, d')), e.G, fun x => e.P x ∨ (e.w.heap.size ≤ x ∧ x < w'.heap.size), w'⟩
  have hRsub : ∀ l' g' b' x', R' l' = some (g', b', x') → l' ≠ l ∧ x'.plain ∧ ∃ x, st.R l' = some (g', b', x) ∧ Carry d0 .any x x' := by
    intro l' g' b' x' hl'
    refine ⟨fun e => (by subst e; rw [hRn] at hl'; cases hl'), ?_⟩
    have := hR l'
    rw [hl'] at this
    exact ⟨this.1.elim id fun h' => (h.envroot h').plain, this.2⟩
  have hsp : ∀ l' g' b' x', upd R' l (some (g, b, d')) l' = some (g', b', x') → (l' = l ∧ g' = g ∧ b' = b ∧ x' = d') ∨ (l' ≠ l ∧ R' l' = some (g', b', x')) := by
    intro l' g' b' x' hl'
    by_cases hll : l' = l
    · subst hll
      rw [upd_same] at hl'
      simp only [Option.some.injEq, Prod.mk.injEq] at hl'
      obtain ⟨rfl, rfl, rfl⟩ := hl'
      exact .inl ⟨rfl, rfl, rfl, rfl⟩
    · rw [upd_ne _ _ hll] at hl'; exact .inr ⟨hll, hl'⟩
  have hp : Past (· ∈ d0.tl) e e2 := ⟨fun _ h => .inl h, fun x hx hs => hk.block x (h.P x hx) (by
      rintro (rfl | hx')
      · exact hro0.np hx
      · exact hs hx'), hk.cell, Nat.le_refl _, fun l' g' b' x' hl' => by
    rcases hsp _ _ _ _ hl' with ⟨rfl, rfl, rfl, rfl⟩ | ⟨_, h1⟩
    · exact ⟨d, by rw [h.R]; exact hRl⟩
    · obtain ⟨_, _, x, h2, _⟩ := hRsub _ _ _ _ h1
      exact ⟨x, by rw [h.R]; exact h2⟩⟩
  have hh : ∀ cs, Rep e d0 cs → Rep e2 .any cs := fun cs hcs => Rep_leaf hcs
  have hW' : ∀ x, (x = b ∨ x ∈ d0.tl) → w0.heap.size ≤ x ∨ M.m x := by
    rintro x (rfl | hx)
    · exact h.own _ _ _ _ hRl
    · exact hW x (hWd x hx)
  have hTP : ∀ T : Nat → Prop, (∀ t, T t → t ∈ d.tl ∨ ∃ x ∈ rest0, t ∈ x.tl) → ∀ t, T t → e.P t := fun T hTT t ht => (hTT t ht).elim (hdP t) fun ⟨x, hx, htx⟩ => by
    have hm : x ∈ xs.toList.map st.ev := by rw [hxs]; exact List.mem_cons_of_mem _ hx
    obtain ⟨y, _, rfl⟩ := List.mem_map.1 hm
    exact VRep_tl (h.ev y) t htx
  have htg : ∀ t, (T2 t ∨ e.w.heap.size ≤ t) → p' t → e2.P t := fun t ht hP => ht.elim (fun h' => .inl (hTP T2 hTT2 t h')) fun h' => .inr ⟨h', hp' t hP⟩
  have htgT : ∀ t, (T t ∨ e.w.heap.size ≤ t) → p' t → e2.P t := fun t ht hP => ht.elim (fun h' => .inl (hTP T hTT t h')) fun h' => .inr ⟨h', hp' t hP⟩
  have hr2 : VRep ⟨fun _ => none, 0, e2.P, w'⟩ r v := VRep_tags (P' := e2.P) htgT htr hr
  have hle0 : Env.le ⟨fun _ => none, 0, e2.P, w'⟩ e2 := ⟨Nat.zero_le _, fun b hb => hb, fun _ _ => rfl, fun l g b d hg' => absurd hg' (Nat.not_lt_zero _), fun l g b d hg' => absurd hg' (Nat.not_lt_zero _)⟩
  obtain ⟨mc, hKK⟩ := hKK
  refine SR.conv hW mc _ ⟨e2, rfl, Good.put (st := { N := st.N, n := w'.heap.size, s := s', R := upd R' l (some (g, b, d')) }) ?_ (by simpa [St.dstOk] using hd) (VRep_le hle0 hr2)⟩ hKK
  refine ⟨rfl, h.N, h.df, fun t => vrep_carry_any hp (hs t) (h.slot t), ?_, ?_, ?_, ?_, h.keep.trans' hk hW', Nat.le_refl _, ?_⟩
  · intro l' g' b' x' hl'
    rcases hsp _ _ _ _ hl' with ⟨rfl, rfl, rfl, rfl⟩ | ⟨hne, h1⟩
    · obtain ⟨C, T, cs, r1, r2, r3⟩ := hro'.row
      refine ⟨(h.root _ _ _ _ hRl).1, ?_, hro'.plain, C, T, cs, r1, Rep_le hle0 (Rep_tags (P' := e2.P) htg htd r2), r3⟩
      rintro (hP | hP)
      · exact hro0.np hP
      · omega
    · obtain ⟨_, hxp, x, h2, h3⟩ := hRsub _ _ _ _ h1
      obtain ⟨hg', hro⟩ := h.root _ _ _ _ h2
      obtain ⟨C, T, cs, r1, r2, r3⟩ := hro.row
      have hlt := lt_of_block r1
      have hb := hk.block b' hlt (by
        rintro (rfl | hx)
        · exact hne (h.inj _ _ _ _ _ _ _ h2 hRl)
        · exact hro.np (hdP _ (hsubd _ hx)))
      refine ⟨hg', ?_, hxp, C, T, cs, hb.trans r1, rep_carry hp hh h3 r2, r3⟩
      rintro (hP | hP)
      · exact hro.np hP
      · omega
  · intro l' g' b' x' hl'
    rcases hsp _ _ _ _ hl' with ⟨rfl, rfl, rfl, rfl⟩ | ⟨hne, h1⟩
    · exact h.own _ _ _ _ hRl
    · obtain ⟨_, _, x, h2, _⟩ := hRsub _ _ _ _ h1
      exact h.own _ _ _ _ h2
  · intro l1 l2 g1 g2 b' x x' hl1 hl2
    have key : ∀ l' g' b' x', upd R' l (some (g, b, d')) l' = some (g', b', x') → ∃ y, st.R l' = some (g', b', y) := by
      intro l' g' b' x' hl'
      rcases hsp _ _ _ _ hl' with ⟨rfl, rfl, rfl, rfl⟩ | ⟨_, h1⟩
      · exact ⟨_, hRl⟩
      · obtain ⟨_, _, x, h2, _⟩ := hRsub _ _ _ _ h1
        exact ⟨x, h2⟩
    obtain ⟨y, h1⟩ := key _ _ _ _ hl1
    obtain ⟨y', h2⟩ := key _ _ _ _ hl2
    exact h.inj _ _ _ _ _ _ _ h1 h2
  · rintro x (hx | hx)
    · exact Nat.lt_of_lt_of_le (h.P x hx) hk.size
    · exact hx.2
  · rintro x (hx | hx)
    · exact h.per x hx
    · exact .inl (Nat.le_trans h.keep.size hx.1)
end ops
end Go.Proofs.YtncinhlaabdlaaaGreat.IM
end
section
namespace Go.Proofs.YtncinhlaabdlaaaGreat.IM
open Go Go.RowKit
set_option linter.unusedVariables false
theorem Good.remade {w0 : World} {M : Fr} {st : St} {e : Env} {a : Act} (h : Good w0 M st e a) {R1 : Roots} {S : Nat → Prop} {w' : World} (hsub : ∀ l x, R1 l = some x → st.R l = some x)
    (hS : ∀ l g b d, R1 l = some (g, b, d) → ¬ S b) (hSP : ∀ b, S b → ¬ e.P b) (hSo : ∀ b, S b → w0.heap.size ≤ b ∨ M.m b) (hk : Keep e.w S w') {l' b' : Nat} {d' : D} (hb : S b' ∨ e.w.heap.size ≤ b') (hp : d'.plain)
    {C : Array Value} {T : TypeId} {ds : List Value} (hC : w'.heap[b']? = some (.cells C T (0, 0))) (hd : ∀ e2 : Env, e.le e2 → e2.w = w' → Rep e2 d' ds) (hpre : ∀ (j : Nat) (v : Value), ds[j]? = some v → C[j]? = some v) {n' : Nat} (hn : n' ≤ w'.heap.size) :
    e.le ⟨upd R1 l' (some (e.G, b', d')), e.G + 1, e.P, w'⟩ ∧ Good w0 M { N := st.N, n := n', s := st.s, R := upd R1 l' (some (e.G, b', d')) } ⟨upd R1 l' (some (e.G, b', d')), e.G + 1, e.P, w'⟩ a := by
  have hsp : ∀ l g b d, upd R1 l' (some (e.G, b', d')) l = some (g, b, d) → (l = l' ∧ g = e.G ∧ b = b' ∧ d = d') ∨ (R1 l = some (g, b, d)) := by
    intro l g b d hl
    by_cases hll : l = l'
    · subst hll; rw [upd_same] at hl
      simp only [Option.some.injEq, Prod.mk.injEq] at hl
      exact .inl ⟨rfl, hl.1.symm, hl.2.1.symm, hl.2.2.symm⟩
    · rw [upd_ne _ _ hll] at hl; exact .inr hl
  have hblt : ∀ l g b d, R1 l = some (g, b, d) → b < e.w.heap.size := fun l g b d hl => by
    obtain ⟨C, T, cs, r1, _⟩ := (h.envroot (hsub _ _ hl)).row
    exact lt_of_block r1
  have hnb : ∀ l g b d, R1 l = some (g, b, d) → b ≠ b' := fun l g b d hl hbb => by
    subst hbb
    rcases hb with h' | h'
    · exact hS _ _ _ _ hl h'
    · have := hblt _ _ _ _ hl; omega
  have hle : e.le ⟨upd R1 l' (some (e.G, b', d')), e.G + 1, e.P, w'⟩ := by
    refine ⟨Nat.le_succ _, fun _ h => h, fun k hkP => hk.block k (h.P k hkP) (fun hs => hSP k hs hkP), fun l g b d hg hl => ?_, fun l g b d hg hl C T z hz => ?_⟩
    · rcases hsp _ _ _ _ hl with ⟨_, h1, _⟩ | h1
      · omega
      · exact ⟨d, by rw [h.R]; exact hsub _ _ h1⟩
    · rcases hsp _ _ _ _ hl with ⟨_, h1, _⟩ | h1
      · omega
      · exact ⟨C, z, by rw [← hz]; exact hk.block b (hblt _ _ _ _ h1) (hS _ _ _ _ h1), rfl⟩
  refine ⟨hle, rfl, h.N, h.df, fun t => VRep_le hle (h.slot t), ?_, ?_, ?_, ?_, h.keep.trans' hk hSo, hn, h.per⟩
  · intro l g b d hl
    rcases hsp _ _ _ _ hl with ⟨rfl, rfl, rfl, rfl⟩ | h1
    · refine ⟨Nat.lt_succ_self _, fun hP => ?_, hp, C, T, ds, hC, hd _ hle rfl, hpre⟩
      rcases hb with h' | h'
      · exact hSP _ h' hP
      · have := h.P _ hP; omega
    · obtain ⟨hg, hro⟩ := h.root _ _ _ _ (hsub _ _ h1)
      obtain ⟨C', T', cs, r1, r2, r3⟩ := hro.row
      exact ⟨Nat.lt_succ_of_lt hg, hro.np, hro.plain, C', T', cs, (hk.block b (lt_of_block r1) (hS _ _ _ _ h1)).trans r1, Rep_le hle r2, r3⟩
  · intro l g b d hl
    rcases hsp _ _ _ _ hl with ⟨rfl, rfl, rfl, rfl⟩ | h1
    · rcases hb with h' | h'
      · exact hSo _ h'
      · exact .inl (Nat.le_trans h.keep.size h')
    · exact h.own _ _ _ _ (hsub _ _ h1)
  · intro l l2 g g2 b d d2 hl hl2
    rcases hsp _ _ _ _ hl with ⟨h1, h2, h3, h4⟩ | h1 <;> rcases hsp _ _ _ _ hl2 with ⟨k1, k2, k3, k4⟩ | k1
    · rw [h1, k1]
    · exact (hnb _ _ _ _ k1 h3).elim
    · exact (hnb _ _ _ _ h1 k3).elim
    · exact h.inj _ _ _ _ _ _ _ (hsub _ _ h1) (hsub _ _ k1)
  · exact fun b hP => Nat.lt_of_lt_of_le (h.P b hP) hk.size
def headD (R : Roots) (z : Nat) : D → Option (Option Nat × Nat × (Nat → D))
  | .nil => some (none, 0, fun _ => .any)
  | .msl l g 0 [] 0 n sz =>
    match R l with
    | some (g', _, .node (.arr N sz') f) => if g' = g ∧ n ≤ N ∧ sz' = sz ∧ sz = z then some (some l, n, f) else none
    | _ => none
  | _ => none
def dropL (R : Roots) : Option Nat → Roots
  | none => R
  | some l => upd R l none
def catD (n : Nat) (f f' : Nat → D) : Nat → D := fun i => if i < n then f i else f' (i - n)
theorem flat_add (n m : Nat) (ps qs : Nat → List Value) : flat (n + m) (fun i => if i < n then ps i else qs (i - n)) = flat n ps ++ flat m qs := by
  induction m with
  | zero => simp; exact flat_congr fun i hi => by rw [if_pos hi]
  | succ m ih =>
    rw [← Nat.add_assoc, flat_succ, ih, flat_succ, List.append_assoc]
    congr 2
    rw [if_neg (by omega)]; congr 1; omega
theorem flat_len (n sz : Nat) (ps : Nat → List Value) (h : ∀ i, i < n → (ps i).length = sz) : (flat n ps).length = n * sz := by
  induction n with
  | zero => simp
  | succ n ih => rw [flat_succ, List.length_append, ih (fun i hi => h i (by omega)), h n (by omega), Nat.succ_mul]
theorem at_cells {w : World} {b o : Nat} {cs : List Value} (h : At w b o cs) : ∀ j v, cs[j]? = some v → w.cell? ((⟨b, o, none⟩ : Addr).add j) = some v := by
  intro j v hj
  rw [addr_add]; exact h.cell hj
theorem flat_mem_leaf {e : Env} {n z : Nat} {f : Nat → D} {ps : Nat → List Value} (h : ∀ i, i < n → (ps i).length = z ∧ Rep e (f i) (ps i)) : ∀ u ∈ flat n ps, Leaf u := by
  intro u hu
  obtain ⟨i, hi, hm⟩ := flat_mem hu
  exact Rep_leaf (h i hi).2 u hm
def byteAt (s : ByteArray) (i : Nat) : Int := match s[i]? with | some b => (b.toNat : Int) | none => 0
def strT (P : Program) (T : TypeId) : Bool := match P.underlying T with | some .string => true | _ => false
theorem strT_spec {P : Program} {T : TypeId} (h : strT P T = true) : P.underlying T = some .string := by
  unfold strT at h
  cases hP : P.underlying T with
  | none => rw [hP] at h; cases h
  | some d => rw [hP] at h; cases d <;> first | rfl | cases h
def srcD (R : Roots) : D → Option (Nat × Option Nat × (Nat → D))
  | .nil => some (0, none, fun _ => .any)
  | .sl _ _ m sz f => some (m, some sz, f)
  | .lit (.string s) => some (s.size, some 1, fun i => .lit (.int .u8 (byteAt s i)))
  | .msl l g 0 [] 0 m sz =>
    match R l with
    | some (g', _, .node (.arr N sz') f) => if g' = g ∧ m ≤ N ∧ sz' = sz then some (m, some sz, f) else none
    | _ => none
  | _ => none
def srcT (P : Program) (T T' : TypeId) : D → Prop
  | .lit _ => strT P T' = true
  | _ => T' = T
theorem byteCells_flat (s : ByteArray) : byteCells s = flat s.size fun i => [.int .u8 (byteAt s i)] := by
  have hl : (flat s.size fun i => [Value.int .u8 (byteAt s i)]).length = s.size := by rw [flat_len s.size 1 _ fun _ _ => rfl, Nat.mul_one]
  apply List.ext_getElem?
  intro j
  rcases Nat.lt_or_ge j s.size with hj | hj
  · have h1 : (flat s.size fun i => [Value.int .u8 (byteAt s i)])[j]? = [Value.int .u8 (byteAt s j)][0]? := by
      have := flat_get (.arr s.size 1) (fun i => [Value.int .u8 (byteAt s i)]) s.size (Nat.le_refl _) (fun _ _ => rfl) j hj 0 (by simp [Kd.sz])
      simpa [Kd.off] using this
    rw [h1]
    have hs : s[j]? = some s[j] := getElem?_pos s j hj
    have hd : s.data.toList[j]? = some s[j] := by
      rw [List.getElem?_eq_getElem (by rw [Array.length_toList]; exact hj)]
      rfl
    simp [byteCells, byteAt, hs, hd]
  · rw [List.getElem?_eq_none (by rw [byteCells_length]; exact hj), List.getElem?_eq_none (by omega)]
theorem srcD_spec {P : Program} {w0 : World} {M : Fr} {st : St} {e : Env} {a : Act} (h : Good w0 M st e a) {T T' E : TypeId} (hT : telem P T = some E) {d : D} {v : Value} (hv : VRep e d v) (ht : srcT P T T' d) {z m : Nat} {sz : Option Nat} {f : Nat → D} (hs : srcD st.R d = some (m, sz, f)) (hz : ∀ y, sz = some y → y = z) :
    ∃ qs : Nat → List Value, Src P z T' v m (flat m qs) e.w ∧ ∀ i, i < m → (qs i).length = z ∧ Rep e (f i) (qs i) := by
  have hTs := telem_spec hT
  unfold srcD at hs
  split at hs
  · simp only [Option.some.injEq, Prod.mk.injEq] at hs
    obtain ⟨rfl, rfl, rfl⟩ := hs
    obtain ⟨ad, hv⟩ := hv
    simp only [List.cons.injEq, and_true] at hv
    obtain rfl : T' = T := ht
    subst hv
    refine ⟨fun _ => [], ?_, fun i hi => absurd hi (by omega)⟩
    cases ad with
    | none => exact Src.ofNil e.w hTs 0
    | some ad => exact Src.ofSlice e.w hTs ad 0 0 [] (by simp) (by simp) (by simp)
  · simp only [Option.some.injEq, Prod.mk.injEq] at hs
    obtain ⟨rfl, rfl, rfl⟩ := hs
    obtain ⟨o, c, ps, hv, hc, hP, h4, h5, _⟩ := hv
    simp only [List.cons.injEq, and_true] at hv
    obtain rfl : T' = T := ht
    obtain rfl := hz _ rfl
    subst hv
    exact ⟨ps, Src.ofSlice e.w hTs _ _ c _ (flat_len _ _ _ fun i hi => (h4 i hi).1) (at_cells h5) fun u hu => Leaf.oneCell (flat_mem_leaf h4 u hu), h4⟩
  · rename_i s
    simp only [Option.some.injEq, Prod.mk.injEq] at hs
    obtain ⟨rfl, rfl, rfl⟩ := hs
    obtain rfl := hz _ rfl
    obtain ⟨rfl, _⟩ := VRep_lit hv
    refine ⟨fun i => [.int .u8 (byteAt s i)], ?_, fun i hi => ⟨rfl, trivial, rfl⟩⟩
    rw [← byteCells_flat]
    exact Src.ofString e.w (strT_spec ht) s
  · split at hs
    · rename_i g' b N sz' f' hR
      split at hs
      · rename_i hc
        obtain ⟨rfl, hn, rfl⟩ := hc
        simp only [Option.some.injEq, Prod.mk.injEq] at hs
        obtain ⟨rfl, rfl, rfl⟩ := hs
        obtain ⟨_, ad, c, hv, hc, hq⟩ := hv
        simp only [List.cons.injEq, and_true] at hv
        obtain ⟨rfl, _⟩ := hq _ _ (by rw [h.R]; exact hR)
        obtain ⟨C, T0, ds, r1, ⟨ps, hps, rfl⟩, r3⟩ := (h.root _ _ _ _ hR).2.row
        obtain rfl : T' = T := ht
        obtain rfl := hz _ rfl
        subst hv
        have h4 := fun i (hi : i < _) => hps i (Nat.lt_of_lt_of_le hi hn)
        have hat : At e.w b 0 (flat _ ps) := ⟨C, T0, _, r1, fun j u hj => by rw [Nat.zero_add]; exact r3 j u (flat_prefix hn hj)⟩
        exact ⟨ps, Src.ofSlice e.w hTs _ _ c _ (flat_len _ _ _ fun i hi => (h4 i hi).1) (at_cells hat) fun u hu => Leaf.oneCell (flat_mem_leaf h4 u hu), h4⟩
      · cases hs
    · cases hs
  · cases hs
theorem run_append_zero {P : Program} {w : World} (t tx ty e : TypeId) (i : TypeInfo) (ht : P.underlying t = some (.slice e)) (hi : P.info? e = some i) (base : Option Addr) (n c : Nat) {x : Value} {news : List Value} (hs : Src P i.size tx x 0 news w) (hnc : n ≤ c) :
    (Builtin.append_ #[t, tx] ty #[.slice base n c, x]).run P w = .ok (.slice base n c) w := by
  have hn : news = [] := List.eq_nil_of_length_eq_zero (by rw [hs.newsLen, Nat.zero_mul])
  subst hn
  have hc := hs.cells
  rcases hs.kind with ⟨e', hk⟩ | hk <;> cases base <;> simp [Builtin.append_, run_underlying ht, run_underlying hk, sizeOf, typeInfo, hi, hs.len, hnc, hc, storeCells]
theorem run_append_into {P : Program} (w : World) (t tx ty e T : TypeId) (i : TypeInfo) (ht : P.underlying t = some (.slice e)) (hi : P.info? e = some i)
    (g sLen sCap : Nat) (cur : Array Value) (hg : w.heap[g]? = some (.cells cur T (0, 0)))
    (x : Value) (m : Nat) (news : List Value) (hs : Src P i.size tx x m news w) (h1 : ∀ u ∈ news, Leaf u)
    (hroom : sLen + m ≤ sCap) (hfit : sLen * i.size + news.length ≤ cur.size) :
    (Builtin.append_ #[t, tx] ty #[.slice (some ⟨g, 0, none⟩) sLen sCap, x]).run P w =
      .ok (.slice (some ⟨g, 0, none⟩) (sLen + m) sCap) (World.putRow w g (sLen * i.size) news) := by
  have hst := run_storeCells P news w g (sLen * i.size) 0 cur T hg (by simpa using hfit) h1
  simp only [Nat.add_zero] at hst
  rcases hs.kind with ⟨e', hk⟩ | hk <;> simp [Builtin.append_, run_underlying ht, run_underlying hk, sizeOf, typeInfo, hi, hs.len, hroom, hs.cells, addr_add, hst]
theorem keep_new {w : World} (o : Obj) (S : Nat → Prop) : Keep w S (w.drew.alloc o) :=
  ⟨rfl, rfl, rfl, by simp, fun k hk _ => heap_alloc_old w.drew o k hk, fun k C T z hC => ⟨C, by
    have hlt : k < w.heap.size := by
      rcases Nat.lt_or_ge k w.heap.size with h | h
      · exact h
      · rw [Array.getElem?_eq_none h] at hC; cases hC
    rw [heap_alloc_old w.drew o k hlt]; exact hC, rfl⟩⟩
theorem keep_row {w : World} (b o : Nat) (vs : List Value) {C0 : Array Value} {T0 : TypeId} {z0 : Nat × Nat} (h0 : w.heap[b]? = some (Obj.cells C0 T0 z0)) (hc : o + vs.length ≤ C0.size) : Keep w (fun k => k = b) (World.putRow w b o vs) :=
  ⟨rfl, rfl, rfl, by simp, fun k _ hm => putRow_other _ _ _ _ _ hm, fun k C T z hC => by
    by_cases hkb : k = b
    · subst hkb
      rw [h0] at hC
      simp only [Option.some.injEq, Obj.cells.injEq] at hC
      obtain ⟨rfl, rfl, rfl⟩ := hC
      refine ⟨_, putRow_same vs h0, ?_⟩
      rw [List.size_toArray, splice_length (by simpa using hc)]
      simp
    · exact ⟨C, by rw [putRow_other _ _ _ _ _ hkb]; exact hC, rfl⟩⟩
section ops
variable {P : Program} {w0 : World} {M : Fr} {st : St} {e : Env} {a : Act} {K : St → Prop} {Q : Exit → Act → World → Prop}
variable {dst : Option Tmp} {ty : TypeId} {pos : String} {after : Array Edge} {gd : Option (Nat × Bool)}
theorem Rep_cat {e : Env} {n m sz : Nat} {f f' : Nat → D} {ps qs : Nat → List Value} (h1 : ∀ i, i < n → (ps i).length = sz ∧ Rep e (f i) (ps i)) (h2 : ∀ i, i < m → (qs i).length = sz ∧ Rep e (f' i) (qs i)) :
    Rep e (.node (.arr (n + m) sz) (catD n f f')) (flat n ps ++ flat m qs) := by
  refine ⟨fun i => if i < n then ps i else qs (i - n), fun i hi => ?_, (flat_add n m ps qs).symm⟩
  unfold catD
  have hi' : i < n + m := hi
  by_cases hn : i < n
  · simp only [if_pos hn]; exact h1 i hn
  · simp only [if_neg hn]; exact h2 (i - n) (by omega)
theorem headD_spec (h : Good w0 M st e a) {d : D} {v : Value} (hv : VRep e d v) {z n : Nat} {lo : Option Nat} {f : Nat → D} (hs : headD st.R z d = some (lo, n, f)) :
    (lo = none ∧ d = .nil ∧ n = 0 ∧ ∃ ad, v = .slice ad 0 0) ∨
    ∃ l g b d0 c C T ps, lo = some l ∧ st.R l = some (g, b, d0) ∧ v = .slice (some ⟨b, 0, none⟩) n c ∧ n ≤ c ∧ e.w.heap[b]? = some (.cells C T (0, 0)) ∧ c * z ≤ C.size ∧
      (∀ i, i < n → (ps i).length = z ∧ Rep e (f i) (ps i)) ∧ ∀ (j : Nat) (u : Value), (flat n ps)[j]? = some u → C[j]? = some u := by
  unfold headD at hs
  split at hs
  · simp only [Option.some.injEq, Prod.mk.injEq] at hs
    obtain ⟨rfl, rfl, rfl⟩ := hs
    obtain ⟨ad, hv⟩ := hv
    simp only [List.cons.injEq, and_true] at hv
    exact .inl ⟨rfl, rfl, rfl, ad, hv⟩
  · split at hs
    · rename_i g' b N sz' f' hR
      split at hs
      · rename_i hc
        obtain ⟨rfl, hn, rfl, rfl⟩ := hc
        simp only [Option.some.injEq, Prod.mk.injEq] at hs
        obtain ⟨rfl, rfl, rfl⟩ := hs
        obtain ⟨_, ad, c, hv, hc, hq⟩ := hv
        simp only [List.cons.injEq, and_true] at hv
        obtain ⟨rfl, C', T', z', hh, hcap⟩ := hq _ _ (by rw [h.R]; exact hR)
        obtain ⟨C, T, ds, r1, ⟨ps, hps, rfl⟩, r3⟩ := (h.root _ _ _ _ hR).2.row
        rw [r1] at hh
        simp only [Option.some.injEq, Obj.cells.injEq] at hh
        obtain ⟨rfl, rfl, rfl⟩ := hh
        exact .inr ⟨_, _, b, _, c, C, T, ps, rfl, hR, hv, hc, r1, by omega, fun i hi => hps i (Nat.lt_of_lt_of_le hi hn), fun j u hj => r3 j u (flat_prefix hn hj)⟩
      · cases hs
    · cases hs
  · cases hs
theorem exec_append (P : Program) (w w' : World) (ρ : Operand → Value) (s x : Operand) (T T' ty : TypeId) (pos : String) (after : Array Edge) (gd : Option (Nat × Bool)) {v : Value}
    (h : (Builtin.append_ #[T, T'] ty #[ρ s, ρ x]).run P w = .ok v w') :
    (execOp ρ (Oper.mk dst (.call { callee := .builtin .append, args := #[s, x], argTypes := #[T, T'] }) ty pos after gd)).run P w = .ok (.value v) w' := by
  simp only [execOp, resolve]
  rw [Sem.run_bind]
  show (Result.ok _ w).andThen _ = _
  rw [Result.andThen_ok]
  simp only [List.map_toArray, List.map_cons, List.map_nil]
  simp only [invoke, builtin]
  rw [Sem.run_bind, h]
  rfl
theorem op_append (h : Good w0 M st e a) (s x : Operand) (T T' : TypeId) {l : Nat} {E : TypeId} {z : D} {by_ n m : Nat} {lo : Option Nat} {f f' : Nat → D} {sz : Option Nat}
    (hT : telem P T = some E) (hz : ZeroOk P E z) (hby : tbytes P E = some by_) (hsz : tsz P E = some z.size)
    (hs : headD st.R z.size (st.ev s) = some (lo, n, f)) (hxt : srcT P T T' (st.ev x)) (hx : srcD st.R (st.ev x) = some (m, sz, f')) (hszm : ∀ y, sz = some y → y = z.size)
    (hb : (n + m) * by_ ≤ 140737488355328) (h63 : n + m ≤ 9223372036854775807) (hl : dst = some l) (hd : st.dstOk dst)
    (hK0 : lo = none → m = 0 → K (st.put (some l) .nil))
    (hK : (lo = none → 0 < m) → ∀ g b n', st.n ≤ n' → b < n' → (st.n ≤ b ∨ blkR st.R lo = some b) →
      K (({ N := st.N, n := n', s := st.s, R := upd st.R (lo.getD l) (some (g, b, .node (.arr (n + m) z.size) (catD n f f'))) } : St).put (some l) (.msl (lo.getD l) g 0 [] 0 (n + m) z.size))) :
    (Oper.mk dst (.call { callee := .builtin .append, args := #[s, x], argTypes := #[T, T'] }) ty pos after gd).wp P a e.w (Lift w0 M K) Q := by
  subst hl
  obtain ⟨hzp, i, zv, hi, hv, hz⟩ := hz
  have hzlen : zv.cells.toList.length = z.size := Rep_length hzp (VRep_cells hzp (hz e))
  have his : i.size = z.size := by unfold tsz at hsz; rw [hi] at hsz; simpa using hsz
  have hib : i.bytes = by_ := by unfold tbytes at hby; rw [hi] at hby; simpa using hby
  have hTs := telem_spec hT
  obtain ⟨qs, hsrc, hqs⟩ := srcD_spec h hT (h.ev x) hxt hx hszm
  rw [← his] at hsrc
  have hnl : (flat m qs).length = m * i.size := hsrc.newsLen
  have hdrop : ∀ l' y, dropL st.R lo l' = some y → st.R l' = some y := by
    intro l' y hy
    cases lo with
    | none => exact hy
    | some l0 =>
      by_cases hll : l' = l0
      · subst hll; simp only [dropL, upd_same] at hy; cases hy
      · simp only [dropL] at hy; rwa [upd_ne _ _ hll] at hy
  have finish : ∀ (S : Nat → Prop) (w' : World) (b' c' : Nat) (C : Array Value) (T1 : TypeId) (ds : List Value), (∀ l' g b d, dropL st.R lo l' = some (g, b, d) → ¬ S b) → (∀ b, S b → ¬ e.P b) → (∀ b, S b → w0.heap.size ≤ b ∨ M.m b) →
      Keep e.w S w' → (S b' ∨ e.w.heap.size ≤ b') → w'.heap[b']? = some (.cells C T1 (0, 0)) → (∀ e2 : Env, e.le e2 → e2.w = w' → Rep e2 (.node (.arr (n + m) z.size) (catD n f f')) ds) → (∀ (j : Nat) (v : Value), ds[j]? = some v → C[j]? = some v) →
      n + m ≤ c' → c' * z.size ≤ C.size → (lo = none → 0 < m) → (Builtin.append_ #[T, T'] ty #[a.eval s, a.eval x]).run P e.w = .ok (.slice (some ⟨b', 0, none⟩) (n + m) c') w' → (st.n ≤ b' ∨ blkR st.R lo = some b') →
      (Oper.mk (some l) (.call { callee := .builtin .append, args := #[s, x], argTypes := #[T, T'] }) ty pos after gd).wp P a e.w (Lift w0 M K) Q := by
    intro S w' b' c' C T1 ds h1 h2 h3 h4 h5 h6 h7 h8 h9 h10 h11 h12 h13
    obtain ⟨hle, hg⟩ := h.remade (d' := .node (.arr (n + m) z.size) (catD n f f')) (l' := lo.getD l) hdrop h1 h2 h3 h4 h5 trivial h6 h7 h8 (Nat.le_refl _)
    have hup : ∀ X, upd (dropL st.R lo) (lo.getD l) X = upd st.R (lo.getD l) X := by
      intro X
      cases lo with
      | none => rfl
      | some l0 =>
        funext k
        simp only [dropL, Option.getD_some, upd]
        split <;> rfl
    rw [hup] at hle hg
    refine wp_value (exec_append P e.w w' a.eval s x T T' ty pos after gd h12) ⟨_, hK h11 e.G b' w'.heap.size (Nat.le_trans h.n h4.size) (lt_of_block h6) h13, _, rfl, hg.put (by simpa [St.dstOk] using hd) ?_⟩
    refine ⟨Nat.lt_succ_self _, _, c', rfl, h9, fun b d hb' => ?_⟩
    have hb2 : upd st.R (lo.getD l) (some (e.G, b', .node (.arr (n + m) z.size) (catD n f f'))) (lo.getD l) = some (e.G, b, d) := hb'
    rw [upd_same] at hb2
    simp only [Option.some.injEq, Prod.mk.injEq] at hb2
    obtain ⟨_, rfl, _⟩ := hb2
    exact ⟨rfl, C, T1, _, h6, by omega⟩
  have h1z : zv.cells.size = z.size := by simpa using hzlen
  rcases headD_spec h (h.ev s) hs with ⟨rfl, hnil, rfl, ad1, hsv⟩ | ⟨l0, g0, b0, d0, c0, C, T0, ps, rfl, hR0, hsv, hc0, hb0, hcap, hps, hpre⟩
  · rcases Nat.eq_zero_or_pos m with rfl | hm
    · refine wp_value (exec_append P e.w e.w a.eval s x T T' ty pos after gd (v := .slice ad1 0 0) ?_) (h.lift hd (d := .nil) ⟨ad1, rfl⟩ (hK0 rfl rfl))
      rw [hsv]; exact run_append_zero T T' ty E i hTs hi ad1 0 0 hsrc (Nat.le_refl _)
    · have hge := grownCap_ge e.w (0 + m) 0 E
      have hfit : Builtin.nextslicecap (0 + m) 0 * i.bytes ≤ 281474976710656 := growslice_fits (by omega) (by rw [hib]; exact hb)
      have hold : (Builtin.firstCells i.size 0 (.slice ad1 0 0)).run P e.w.drew = .ok ([] : List Value).toArray e.w.drew := by
        cases ad1 with
        | none => exact run_firstCells_none _ _ _ _ _
        | some ad => exact run_firstCells_some _ _ _ ad 0 0 [] (by simp) (by simp)
      have hrun := run_append_grow_src (P := P) e.w T T' ty E i zv hTs hi hv ad1 0 0 [] hold (a.eval x) m (flat m qs) hsrc (by omega) (by omega) hfit
      rw [← hsv] at hrun
      refine finish (fun _ => False) _ e.w.heap.size (grownCap e.w (0 + m) 0 E) _ E (flat 0 (fun _ => []) ++ flat m qs) (fun _ _ _ _ _ h => h) (fun _ h => h.elim) (fun _ h => h.elim) (keep_new _ _) (.inr (Nat.le_refl _)) (heap_alloc_new e.w.drew _)
        (fun e2 hle he2 => Rep_cat (fun j hj => absurd hj (by omega)) (fun j hj => ⟨(hqs j hj).1, Rep_le hle (hqs j hj).2⟩)) (fun j v hj => ?_) hge ?_ (fun _ => hm) hrun (.inl h.n)
      · simp only [flat_zero, List.nil_append] at hj ⊢
        rw [Array.getElem?_append_left (by have := (List.getElem?_eq_some_iff.1 hj).1; simpa using this)]
        simpa using hj
      · have h2 := Nat.add_mul (0 + m) (grownCap e.w (0 + m) 0 E - (0 + m)) z.size
        rw [Nat.add_sub_cancel' hge] at h2
        simp only [Nat.zero_add] at h2 ⊢
        simp only [Array.size_append, List.size_toArray, size_zeroCells, List.nil_append, hnl, his, h1z]
        omega
  · have hnol : ∀ l' g b d, dropL st.R (some l0) l' = some (g, b, d) → ¬ (b = b0) := by
      rintro l' g b d hl' rfl
      have hne : l' ≠ l0 := by
        rintro rfl
        simp only [dropL, upd_same] at hl'
        cases hl'
      exact hne (h.inj _ _ _ _ _ _ _ (hdrop _ _ hl') hR0)
    have hnp : ∀ b, b = b0 → ¬ e.P b := by rintro b rfl; exact (h.envroot hR0).np
    have hown : ∀ b, b = b0 → w0.heap.size ≤ b ∨ M.m b := by rintro b rfl; exact h.own _ _ _ _ hR0
    have hol : (flat n ps).length = n * z.size := flat_len n _ ps fun j hj => (hps j hj).1
    have hrep : ∀ e2 : Env, e.le e2 → Rep e2 (.node (.arr (n + m) z.size) (catD n f f')) (flat n ps ++ flat m qs) := fun e2 hle =>
      Rep_cat (fun j hj => ⟨(hps j hj).1, Rep_le hle (hps j hj).2⟩) (fun j hj => ⟨(hqs j hj).1, Rep_le hle (hqs j hj).2⟩)
    rcases Nat.eq_zero_or_pos m with rfl | hm
    · refine finish (fun b => b = b0) e.w b0 c0 C T0 (flat n ps ++ flat 0 qs) hnol hnp hown ⟨rfl, rfl, rfl, Nat.le_refl _, fun _ _ _ => rfl, fun _ C _ _ h => ⟨C, h, rfl⟩⟩ (.inl rfl) hb0
        (fun e2 hle he2 => hrep e2 hle) (fun j v hj => hpre j v (by simpa using hj)) hc0 hcap (fun h => by cases h) ?_ (.inr (by simp [blkR, hR0]))
      rw [hsv]; exact run_append_zero T T' ty E i hTs hi _ n c0 hsrc hc0
    · rcases Nat.lt_or_ge c0 (n + m) with hg | hg
      · have hge := grownCap_ge e.w (n + m) c0 E
        have hfit : Builtin.nextslicecap (n + m) c0 * i.bytes ≤ 281474976710656 := growslice_fits hg (by rw [hib]; exact hb)
        have hat0 : At e.w.drew b0 0 (flat n ps) := ⟨C, T0, _, hb0, fun j v hj => by rw [Nat.zero_add]; exact hpre j v hj⟩
        have hold : (Builtin.firstCells i.size n (.slice (some ⟨b0, 0, none⟩) n c0)).run P e.w.drew = .ok (flat n ps).toArray e.w.drew :=
          run_firstCells_some _ _ _ _ n c0 _ (by rw [his]; exact hol) (at_cells hat0)
        have hrun := run_append_grow_src (P := P) e.w T T' ty E i zv hTs hi hv (some ⟨b0, 0, none⟩) n c0 (flat n ps) hold (a.eval x) m (flat m qs) hsrc hg (by omega) hfit
        rw [← hsv] at hrun
        refine finish (fun _ => False) _ e.w.heap.size (grownCap e.w (n + m) c0 E) _ E (flat n ps ++ flat m qs) (fun _ _ _ _ _ h => h) (fun _ h => h.elim) (fun _ h => h.elim) (keep_new _ _) (.inr (Nat.le_refl _)) (heap_alloc_new e.w.drew _)
          (fun e2 hle he2 => hrep e2 hle) (fun j v hj => ?_) hge ?_ (fun h => by cases h) hrun (.inl h.n)
        · rw [Array.getElem?_append_left (by have := (List.getElem?_eq_some_iff.1 hj).1; simpa using this)]
          simpa using hj
        · have h2 := Nat.add_mul (n + m) (grownCap e.w (n + m) c0 E - (n + m)) z.size
          rw [Nat.add_sub_cancel' hge] at h2
          have h3 := Nat.add_mul n m z.size
          simp only [Array.size_append, List.size_toArray, List.length_append, size_zeroCells, hnl, hol, his, h1z]
          omega
      · have hle1 : (n + m) * z.size ≤ c0 * z.size := Nat.mul_le_mul_right _ hg
        have h3 := Nat.add_mul n m z.size
        have hfit : n * i.size + (flat m qs).length ≤ C.size := by rw [hnl, his]; omega
        have hrun := run_append_into (P := P) e.w T T' ty E T0 i hTs hi b0 n c0 C hb0 (a.eval x) m (flat m qs) hsrc (flat_mem_leaf hqs) hg hfit
        rw [← hsv, his] at hrun
        rw [his] at hfit hnl
        refine finish (fun b => b = b0) _ b0 c0 _ T0 (flat n ps ++ flat m qs) hnol hnp hown (keep_row _ _ _ hb0 hfit) (.inl rfl) (putRow_same _ hb0) (fun e2 hle he2 => hrep e2 hle) (fun j v hj => ?_) hg ?_ (fun h => by cases h) hrun (.inr (by simp [blkR, hR0]))
        · simp only [List.getElem?_toArray]
          rw [splice_get (by simpa using hfit)]
          rcases Nat.lt_or_ge j (n * z.size) with hj1 | hj1
          · rw [if_neg (by omega), Array.getElem?_toList]
            rw [List.getElem?_append_left (by omega)] at hj
            exact hpre j v hj
          · rw [List.getElem?_append_right (by omega), hol] at hj
            have := (List.getElem?_eq_some_iff.1 hj).1
            rw [if_pos ⟨hj1, by omega⟩]
            exact hj
        · simp only [List.size_toArray]
          rw [splice_length (by simpa using hfit)]
          simpa using hcap
end ops
end Go.Proofs.YtncinhlaabdlaaaGreat.IM
end
section
namespace Go.Proofs.YtncinhlaabdlaaaGreat.IM
open Go Go.RowKit
set_option linter.unusedVariables false
def intD : D → Option Int
  | .lit (.int _ i) => some i
  | _ => none
theorem intD_spec {d : D} {i : Int} (h : intD d = some i) : ∃ k, d = .lit (.int k i) := by
  unfold intD at h
  split at h
  · simp only [Option.some.injEq] at h; subst h; exact ⟨_, rfl⟩
  · cases h
def lowI : Option D → Option Int
  | none => some 0
  | some d => intD d
def highI (n : Nat) : Option D → Option Int
  | none => some n
  | some d => intD d
theorem flat_cut {n i m sz : Nat} {ps : Nat → List Value} (hlen : ∀ q, q < n → (ps q).length = sz) (him : i + m ≤ n) {j : Nat} {v : Value} (hj : (flat m fun q => ps (i + q))[j]? = some v) : (flat n ps)[i * sz + j]? = some v := by
  refine flat_prefix him ?_
  have h1 := flat_add i m ps (fun q => ps (i + q))
  have h2 : flat (i + m) ps = flat (i + m) (fun q => if q < i then ps q else ps (i + (q - i))) := flat_congr fun q _ => by
    by_cases hq : q < i
    · rw [if_pos hq]
    · rw [if_neg hq]; congr 1; omega
  rw [h2, h1, List.getElem?_append_right (by rw [flat_len i sz ps fun q hq => hlen q (by omega)]; omega), flat_len i sz ps fun q hq => hlen q (by omega)]
  rw [Nat.add_sub_cancel_left]; exact hj
section ops
variable {P : Program} {w0 : World} {M : Fr} {st : St} {e : Env} {a : Act} {K : St → Prop} {Q : Exit → Act → World → Prop}
variable {dst : Option Tmp} {ty : TypeId} {pos : String} {after : Array Edge} {gd : Option (Nat × Bool)}
theorem Good.evInt (h : Good w0 M st e a) {x : Operand} {i : Int} (hx : intD (st.ev x) = some i) : ∃ k, a.eval x = .int k i := by
  obtain ⟨k, hk⟩ := intD_spec hx
  have := h.ev x
  rw [hk] at this
  exact ⟨k, (VRep_lit this).1⟩
theorem run_bounds (h : Good w0 M st e a) (b : Bool) {len cap : Nat} {lo hi : Option Operand} {i j : Int} (hl : lowI (lo.map st.ev) = some i) (hh : highI len (hi.map st.ev) = some j) (h0 : 0 ≤ i) (h1 : i ≤ j) (h2 : j ≤ cap) :
    (Instr.sliceBounds b len cap (lo.map a.eval) (hi.map a.eval) none).run P e.w = .ok (i.toNat, j.toNat, cap) e.w := by
  have hj : ((j.toNat : Nat) : Int) = j := by omega
  have hlo : ∀ (c : BoundsCode), lo = none ∧ i = 0 ∨ ∃ x v, lo = some x ∧ a.eval x = v ∧ (Instr.sliceBound v j.toNat c).run P e.w = .ok i.toNat e.w := by
    intro c
    cases lo with
    | none => simp only [Option.map_none, lowI, Option.some.injEq] at hl; exact .inl ⟨rfl, hl.symm⟩
    | some x =>
      obtain ⟨k, hk⟩ := h.evInt (x := x) hl
      exact .inr ⟨x, _, rfl, hk, run_sliceBound e.w k i j.toNat c h0 (by omega)⟩
  have hhi : ∀ (c : BoundsCode), hi = none ∧ j = len ∨ ∃ x v, hi = some x ∧ a.eval x = v ∧ (Instr.sliceBound v cap c).run P e.w = .ok j.toNat e.w := by
    intro c
    cases hi with
    | none => simp only [Option.map_none, highI, Option.some.injEq] at hh; exact .inl ⟨rfl, hh.symm⟩
    | some x =>
      obtain ⟨k, hk⟩ := h.evInt (x := x) hh
      exact .inr ⟨x, _, rfl, hk, run_sliceBound e.w k j cap c (by omega) h2⟩
  unfold Instr.sliceBounds
  rcases hhi (if b then .sliceAcap else .sliceAlen) with ⟨rfl, hj0⟩ | ⟨x, v, rfl, rfl, hx⟩ <;> rcases hlo .sliceB with ⟨rfl, rfl⟩ | ⟨y, u, rfl, rfl, hy⟩
  · have : len = j.toNat := by omega
    subst this
    simp
  · have : len = j.toNat := by omega
    subst this
    simp [hy]
  · simp [hx]
  · simp [hx, hy]
theorem run_bounds3 (h : Good w0 M st e a) {len cap : Nat} {lo : Option Operand} {hx mx : Operand} {i : Int} (hl : lowI (lo.map st.ev) = some i) (hh : intD (st.ev hx) = some i) (hm : intD (st.ev mx) = some i) (h0 : 0 ≤ i) (h2 : i ≤ cap) :
    (Instr.sliceBounds true len cap (lo.map a.eval) (some (a.eval hx)) (some (a.eval mx))).run P e.w = .ok (i.toNat, i.toNat, i.toNat) e.w := by
  have hj : ((i.toNat : Nat) : Int) = i := by omega
  obtain ⟨k1, e1⟩ := h.evInt hh
  obtain ⟨k2, e2⟩ := h.evInt hm
  have r2 : (Instr.sliceBound (.int k2 i) cap .slice3Acap).run P e.w = .ok i.toNat e.w := run_sliceBound e.w k2 i cap _ h0 h2
  have r1 : (Instr.sliceBound (.int k1 i) i.toNat .slice3B).run P e.w = .ok i.toNat e.w := run_sliceBound e.w k1 i _ _ h0 (by omega)
  unfold Instr.sliceBounds
  rw [e1, e2]
  cases lo with
  | none =>
    simp only [Option.map_none, lowI, Option.some.injEq] at hl
    subst hl
    simp at r1 r2
    simp [r1, r2]
  | some y =>
    obtain ⟨k3, e3⟩ := h.evInt (x := y) hl
    have r3 : (Instr.sliceBound (.int k3 i) i.toNat .slice3C).run P e.w = .ok i.toNat e.w := run_sliceBound e.w k3 i _ _ h0 (by omega)
    simp [e3, r1, r2, r3]
theorem exec_slice (P : Program) (w : World) (ρ : Operand → Value) (T : TypeId) (x : Operand) (lo hi mx : Option Operand) {v : Value}
    (h : (Instr.sliceAt T (ρ x) (lo.map ρ) (hi.map ρ) (mx.map ρ)).run P w = .ok v w) : (execOp ρ (Oper.mk dst (.slice T x lo hi mx) ty pos after gd)).run P w = .ok (.value v) w := by
  simp only [execOp]
  rw [Sem.run_bind, h]
  rfl
theorem run_sliceAt_sl {T E : TypeId} {w : World} {sz : Nat} (hT : telem P T = some E) (hs : tsz P E = some sz) (ad : Option Addr) (n c : Nat) (lo hi mx : Option Value) {i j m : Nat} (hb : (Instr.sliceBounds true n c lo hi mx).run P w = .ok (i, j, m) w) :
    (Instr.sliceAt T (.slice ad n c) lo hi mx).run P w = .ok (.slice (if m = i then ad else ad.map (·.add (i * sz))) (j - i) (m - i)) w := by
  simp [Instr.sliceAt, Instr.slice, run_underlying (telem_spec hT), hb, run_sizeOf hs]
theorem op_slice_sl (h : Good w0 M st e a) (T : TypeId) (x : Operand) (lo hi : Option Operand) {t n sz : Nat} {zb : Bool} {f : Nat → D} {E : TypeId} {i j : Int} (hx : st.ev x = .sl t zb n sz f) (hT : telem P T = some E) (hs : tsz P E = some sz)
    (hl : lowI (lo.map st.ev) = some i) (hh : highI n (hi.map st.ev) = some j) (h0 : 0 ≤ i) (h1 : i ≤ j) (h2 : j ≤ n) (hd : st.dstOk dst) (hK : K (st.put dst (.sl t (zb && i == 0) (j - i).toNat sz fun q => f (i.toNat + q)))) :
    (Oper.mk dst (.slice T x lo hi none) ty pos after gd).wp P a e.w (Lift w0 M K) Q := by
  have hv := h.ev x; rw [hx] at hv
  obtain ⟨o, c, ps, hxv, hc, hP, hps, hat, hwh⟩ := hv
  simp at hxv
  have hrun := run_sliceAt_sl (w := e.w) hT hs (some ⟨t, o, none⟩) n c _ _ _ (run_bounds h true hl hh h0 h1 (by omega : j ≤ (c : Int)))
  refine wp_value (exec_slice P e.w a.eval T x lo hi none (by rw [hxv]; exact hrun)) (h.lift hd ?_ hK)
  have hn : j.toNat - i.toNat = (j - i).toNat := by omega
  by_cases hci : c = i.toNat
  · refine ⟨o, 0, fun q => ps (i.toNat + q), ?_, by omega, hP, fun q hq => hps _ (by omega), ?_, fun hz => ?_⟩
    · rw [if_pos hci, hn]; congr 2; omega
    rotate_left
    · simp only [Bool.and_eq_true, beq_iff_eq] at hz
      obtain ⟨h1, C, T', h2, h3⟩ := hwh hz.1
      exact ⟨h1, C, T', h2, by omega⟩
    · obtain ⟨C, T', z, r1, _⟩ := hat
      refine ⟨C, T', z, r1, fun q v hq => ?_⟩
      have : (j - i).toNat = 0 := by omega
      rw [this] at hq; simp at hq
  · refine ⟨o + i.toNat * sz, c - i.toNat, fun q => ps (i.toNat + q), ?_, by omega, hP, fun q hq => hps _ (by omega), ?_, fun hz => ?_⟩
    rotate_left 2
    · simp only [Bool.and_eq_true, beq_iff_eq] at hz
      obtain ⟨hz1, rfl⟩ := hz
      obtain ⟨h1, C, T', h2, h3⟩ := hwh hz1
      exact ⟨by simpa using h1, C, T', h2, by simpa using h3⟩
    · rw [if_neg hci, hn, Option.map_some, addr_add]
    · obtain ⟨C, T', z, r1, r2⟩ := hat
      refine ⟨C, T', z, r1, fun q v hq => ?_⟩
      rw [Nat.add_assoc]
      exact r2 _ v (flat_cut (fun q hq => (hps q hq).1) (by omega) hq)
theorem op_slice_msl (h : Good w0 M st e a) (T : TypeId) (x : Operand) (lo hi : Option Operand) {l g o i0 n sz : Nat} {p : List Nat} {E : TypeId} {i j : Int} (hx : st.ev x = .msl l g o p i0 n sz) (hT : telem P T = some E) (hs : tsz P E = some sz)
    (hl : lowI (lo.map st.ev) = some i) (hh : highI n (hi.map st.ev) = some j) (h0 : 0 ≤ i) (h1 : i ≤ j) (h2 : j ≤ n) (hd : st.dstOk dst)
    (hK0 : i = 0 → K (st.put dst (.msl l g o p i0 j.toNat sz))) (hK : 0 < i → K (st.put dst (.msl l g (o + i.toNat * sz) p (i0 + i.toNat) (j - i).toNat sz)) ∧ (i = n → K (st.put dst .nil))) :
    (Oper.mk dst (.slice T x lo hi none) ty pos after gd).wp P a e.w (Lift w0 M K) Q := by
  have hv := h.ev x; rw [hx] at hv
  obtain ⟨hg, ad, c, hxv, hc, hq⟩ := hv
  simp at hxv
  have hrun := run_sliceAt_sl (w := e.w) hT hs (some ad) n c _ _ _ (run_bounds h true hl hh h0 h1 (by omega : j ≤ (c : Int)))
  have hn : j.toNat - i.toNat = (j - i).toNat := by omega
  rcases Int.lt_or_eq_of_le h0 with hi0 | hi0
  · by_cases hci : c = i.toNat
    · refine wp_value (exec_slice P e.w a.eval T x lo hi none (by rw [hxv]; exact hrun)) (h.lift (d := .nil) hd ?_ ((hK hi0).2 (by omega)))
      refine ⟨some ad, ?_⟩
      rw [if_pos hci, hn]
      have h1 : (j - i).toNat = 0 := by omega
      have h2 : c - i.toNat = 0 := by omega
      rw [h1, h2]
    · refine wp_value (exec_slice P e.w a.eval T x lo hi none (by rw [hxv]; exact hrun)) (h.lift (d := .msl l g (o + i.toNat * sz) p (i0 + i.toNat) (j - i).toNat sz) hd ?_ (hK hi0).1)
      refine ⟨hg, _, c - i.toNat, by rw [if_neg hci, hn, Option.map_some], by omega, fun b d hb => ?_⟩
      obtain ⟨rfl, C, T', z, r1, r2⟩ := hq b d hb
      refine ⟨by rw [addr_add], C, T', z, r1, ?_⟩
      have h3 : i.toNat * sz + (c - i.toNat) * sz = c * sz := by rw [← Nat.add_mul]; congr 1; omega
      omega
  · refine wp_value (exec_slice P e.w a.eval T x lo hi none (by rw [hxv]; exact hrun)) (h.lift (d := .msl l g o p i0 j.toNat sz) hd ?_ (hK0 hi0.symm))
    subst hi0
    refine ⟨hg, ad, c, ?_, by omega, hq⟩
    simp only [Int.toNat_zero, Nat.sub_zero, Nat.zero_mul, Option.map_some]
    have : ad.add 0 = ad := by unfold Addr.add; simp
    rw [this]; simp
theorem op_slice_nil (h : Good w0 M st e a) (T : TypeId) (x : Operand) (lo hi : Option Operand) {E : TypeId} {sz : Nat} (hx : st.ev x = .nil) (hT : telem P T = some E) (hs : tsz P E = some sz)
    (hl : lowI (lo.map st.ev) = some 0) (hh : highI 0 (hi.map st.ev) = some 0) (hd : st.dstOk dst) (hK : K (st.put dst .nil)) :
    (Oper.mk dst (.slice T x lo hi none) ty pos after gd).wp P a e.w (Lift w0 M K) Q := by
  have hv := h.ev x; rw [hx] at hv
  obtain ⟨ad, hxv⟩ := hv
  simp at hxv
  have hrun := run_sliceAt_sl (w := e.w) hT hs ad 0 0 _ _ _ (run_bounds h true hl hh (by omega) (by omega) (by omega))
  refine wp_value (exec_slice P e.w a.eval T x lo hi none (by rw [hxv]; exact hrun)) (h.lift (d := .nil) hd ⟨ad, ?_⟩ hK)
  simp
theorem op_slice_zero (h : Good w0 M st e a) (T : TypeId) (x : Operand) (lo : Option Operand) (hx' mx : Operand) {E : TypeId} {n sz : Nat} {i : Int} (hx : (st.ev x).len = some n) (hT : telem P T = some E) (hs : tsz P E = some sz)
    (hl : lowI (lo.map st.ev) = some i) (hh : intD (st.ev hx') = some i) (hm : intD (st.ev mx) = some i) (h0 : 0 ≤ i) (h2 : i ≤ n) (hd : st.dstOk dst) (hK : K (st.put dst .nil)) :
    (Oper.mk dst (.slice T x lo (some hx') (some mx)) ty pos after gd).wp P a e.w (Lift w0 M K) Q := by
  have hv := h.ev x
  obtain ⟨b, c, hxv, hc⟩ : ∃ b c, a.eval x = .slice b n c ∧ n ≤ c := by
    generalize st.ev x = d at hx hv
    cases d <;> simp [D.len] at hx
    · subst hx; obtain ⟨b, hb⟩ := hv; simp at hb; exact ⟨_, _, hb, Nat.le_refl _⟩
    · subst hx; obtain ⟨o, c, ps, hb, hc, _⟩ := hv; simp at hb; exact ⟨_, _, hb, hc⟩
    · subst hx; obtain ⟨_, ad, c, hb, hc, _⟩ := hv; simp at hb; exact ⟨_, _, hb, hc⟩
  have hrun := run_sliceAt_sl (w := e.w) hT hs b n c _ _ _ (run_bounds3 (len := n) h hl hh hm h0 (by omega : i ≤ (c : Int)))
  refine wp_value (exec_slice P e.w a.eval T x lo (some hx') (some mx) (by rw [hxv]; exact hrun)) (h.lift (d := .nil) hd ⟨b, ?_⟩ hK)
  simp
theorem op_slice_arr (h : Good w0 M st e a) (T : TypeId) (x : Operand) {l g o n sz : Nat} {p : List Nat} {f : Nat → D} {E : TypeId} (hx : st.ev x = .ptr l g o p) (hT : tarr P T = some (n, E)) (hs : tsz P E = some sz)
    (hin : (st.rd l g).inb p) (ho : (st.rd l g).offOf p = o) (hp : (st.rd l g).get p = .node (.arr n sz) f) (hd : st.dstOk dst) (hK : K (st.put dst (.msl l g o p 0 n sz))) :
    (Oper.mk dst (.slice T x none none none) ty pos after gd).wp P a e.w (Lift w0 M K) Q := by
  have hv := h.ev x; rw [hx] at hv
  obtain ⟨hg, ad, hxv, hq⟩ := hv
  simp at hxv
  have hR := rd_spec (st := st) (l := l) (g := g) (p := p) (by rw [hp]; trivial)
  have hb := run_bounds (P := P) (lo := none) (hi := none) (len := n) (cap := n) (i := 0) (j := n) h false rfl rfl (by omega) (by omega) (by omega)
  have hb' : (Instr.sliceBounds false n n none none none).run P e.w = .ok (0, n, n) e.w := by simpa using hb
  have hrun : (Instr.sliceAt T (.pointer (some ad)) none none none).run P e.w = .ok (.slice (some ad) n n) e.w := by
    have : ad.add 0 = ad := by unfold Addr.add; simp
    simp [Instr.sliceAt, run_underlying (run_tarr hT), Instr.sureAddr, hb', run_sizeOf hs, this]
  refine wp_value (exec_slice P e.w a.eval T x none none none (by rw [hxv]; exact hrun)) (h.lift (d := .msl l g o p 0 n sz) hd ?_ hK)
  refine ⟨hg, ad, n, rfl, Nat.le_refl _, fun b d hb => ?_⟩
  have had := hq b d hb
  subst had
  rw [h.R] at hb
  rw [hR] at hb
  simp only [Option.some.injEq, Prod.mk.injEq] at hb
  obtain ⟨_, rfl, rfl⟩ := hb
  obtain ⟨_, hro⟩ := h.root _ _ _ _ hR
  obtain ⟨C, T', cs, r1, r2, r3⟩ := hro.row
  obtain ⟨ds, q1, q2, q3⟩ := Rep_get p _ cs r2 hin
  rw [hp] at q1
  have hlen : ds.length = n * sz := Rep_length (d := .node (.arr n sz) f) trivial q1
  refine ⟨rfl, C, T', _, r1, ?_⟩
  rw [ho, hlen] at q2
  have hcs : cs.length ≤ C.size := by
    rcases Nat.eq_zero_or_pos cs.length with h0 | h0
    · omega
    · have := r3 (cs.length - 1) cs[cs.length - 1] (List.getElem?_eq_getElem (by omega))
      have := (Array.getElem?_eq_some_iff.1 this).1
      omega
  omega
theorem op_slice_str (h : Good w0 M st e a) (T : TypeId) (x : Operand) (lo hi : Option Operand) {s : ByteArray} {i j : Int} (hx : st.ev x = .lit (.string s)) (hT : strT P T = true)
    (hl : lowI (lo.map st.ev) = some i) (hh : highI s.size (hi.map st.ev) = some j) (h0 : 0 ≤ i) (h1 : i ≤ j) (h2 : j ≤ s.size) (hd : st.dstOk dst) (hK : K (st.put dst (.lit (.string (s.extract i.toNat j.toNat))))) :
    (Oper.mk dst (.slice T x lo hi none) ty pos after gd).wp P a e.w (Lift w0 M K) Q := by
  have hv := h.ev x; rw [hx] at hv
  have hxv := (VRep_lit hv).1
  have hb := run_bounds (P := P) h false hl hh h0 h1 h2
  have hrun : (Instr.sliceAt T (.string s) (lo.map a.eval) (hi.map a.eval) none).run P e.w = .ok (.string (s.extract i.toNat j.toNat)) e.w := by
    simp [Instr.sliceAt, Instr.slice, run_underlying (strT_spec hT), hb]
  exact wp_value (exec_slice P e.w a.eval T x lo hi none (by rw [hxv]; exact hrun)) (h.lift hd (VRep_mk (v := .string _) trivial) hK)
theorem op_index_str (h : Good w0 M st e a) (T : TypeId) (x y : Operand) {s : ByteArray} {i : Int} (hx : st.ev x = .lit (.string s)) (hT : strT P T = true) (hy : intD (st.ev y) = some i) (h0 : 0 ≤ i) (h1 : i < s.size)
    (hd : st.dstOk dst) (hK : K (st.put dst (.lit (.int .u8 (byteAt s i.toNat))))) : (Oper.mk dst (.index T x y) ty pos after gd).wp P a e.w (Lift w0 M K) Q := by
  have hv := h.ev x; rw [hx] at hv
  have hxv := (VRep_lit hv).1
  obtain ⟨k, hk⟩ := h.evInt hy
  refine wp_value (v := .int .u8 (byteAt s i.toNat)) (w' := e.w) ?_ (h.lift hd (VRep_mk (v := .int _ _) trivial) hK)
  simp only [execOp]
  rw [hxv, hk, Sem.run_bind]
  have hlt : i.toNat < s.size := by omega
  have hs : s[i.toNat]? = some s[i.toNat] := by rw [getElem?_pos s i.toNat hlt]
  have : (Instr.index T (.string s) (.int k i)).run P e.w = .ok (.int .u8 (byteAt s i.toNat)) e.w := by
    simp [Instr.index, asIntOf, run_underlying (strT_spec hT), h0, hs, byteAt]
  rw [this]; rfl
theorem tarr_spec {P : Program} {T E : TypeId} {m : Nat} (h : tarr P T = some (m, E)) : P.underlying T = some (.array m E) := by
  unfold tarr at h
  cases hP : P.underlying T with
  | none => rw [hP] at h; cases h
  | some d =>
    rw [hP] at h
    cases d <;> simp at h
    obtain ⟨rfl, rfl⟩ := h
    rfl
theorem op_index_arr (h : Good w0 M st e a) (T : TypeId) (x y : Operand) {m sz : Nat} {f : Nat → D} {i : Int} {E : TypeId} (hx : st.ev x = .node (.arr m sz) f) (hy : intD (st.ev y) = some i) (hT : tarr P T = some (m, E)) (hok : TyOk P E (f i.toNat)) (hs : tsz P E = some sz)
    (h0 : 0 ≤ i) (h1 : i < m) (hd : st.dstOk dst) (hK : K (st.put dst (f i.toNat))) : (Oper.mk dst (.index T x y) ty pos after gd).wp P a e.w (Lift w0 M K) Q := by
  have hv := h.ev x; rw [hx] at hv
  obtain ⟨cs, hxv, ps, hps, hflat⟩ := hv
  obtain ⟨k, hk⟩ := h.evInt hy
  have hlt : i.toNat < m := by omega
  obtain ⟨hl, hr⟩ := hps i.toNat hlt
  have hl : (ps i.toNat).length = sz := hl
  have hget : ∀ j, j < sz → cs[i.toNat * sz + j]? = (ps i.toNat)[j]? := fun j hj => by
    have := flat_get (.arr m sz) ps m (Nat.le_refl _) (fun i hi => (hps i hi).1) i.toNat hlt j hj
    have h2 : (flat (Kd.arr m sz).cnt ps)[(Kd.arr m sz).off i.toNat + j]? = _ := this
    rw [← hflat] at h2
    simpa [Kd.off] using h2
  have hu := tarr_spec hT
  obtain ⟨hsz, hag, hsome⟩ := hok
  have hb : (0 ≤ i ∧ i < (m : Int)) := ⟨h0, h1⟩
  have key : ∃ v, (Instr.index T (.agg cs) (.int k i)).run P e.w = .ok v e.w ∧ VRep e (f i.toNat) v := by
    cases hn : (f i.toNat).isNode with
    | none => rw [hn] at hsome; simp at hsome
    | some b =>
      rw [hn] at hag
      cases b with
      | true =>
        refine ⟨.agg (cs.extract (i.toNat * sz) (i.toNat * sz + sz)), ?_, ?_⟩
        · simp [Instr.index, asIntOf, run_underlying hu, hb, part, run_isAgg hag, run_sizeOf hs]
        · have hrow : (cs.extract (i.toNat * sz) (i.toNat * sz + sz)).toList = ps i.toNat := by
            apply List.ext_getElem?
            intro j
            rw [Array.getElem?_toList, Array.getElem?_extract]
            by_cases hj : j < sz
            · rw [if_pos (by
                have h3 := hget j hj
                rw [List.getElem?_eq_getElem (by omega)] at h3
                have := (Array.getElem?_eq_some_iff.1 h3).1
                omega), hget j hj]
            · rw [if_neg (by omega), List.getElem?_eq_none (by omega)]
          cases hf : f i.toNat with
          | node kd g => rw [hf] at hr; exact ⟨_, rfl, by rw [hrow]; exact hr⟩
          | _ => rw [hf] at hn; simp [D.isNode] at hn
      | false =>
        have hone : sz = 1 := by
          have h3 : sz = (f i.toNat).size := by rw [hs] at hsz; exact Option.some.inj hsz
          rw [h3]
          cases hf : f i.toNat <;> rw [hf] at hn <;> simp [D.isNode] at hn <;> rfl
        subst hone
        obtain ⟨v, hv⟩ := List.length_eq_one_iff.1 hl
        refine ⟨v, ?_, ?_⟩
        · have h3 := hget 0 (by omega)
          rw [hv] at h3
          simp only [Nat.mul_one, Nat.add_zero, List.getElem?_cons_zero] at h3
          simp [Instr.index, asIntOf, run_underlying hu, hb, part, run_isAgg hag, run_sizeOf hs, h3]
        · rw [hv] at hr
          exact VRep_of_Rep (by rw [hn]; simp) hr
  obtain ⟨v, hrun, hvr⟩ := key
  refine wp_value (v := v) (w' := e.w) ?_ (h.lift hd hvr hK)
  simp only [execOp]
  rw [hxv, hk, Sem.run_bind, hrun]; rfl
theorem op_max (h : Good w0 M st e a) (x y : Operand) (T T' : TypeId) {k : IntKind} {i j : Int} (hx : st.ev x = .lit (.int k i)) (hy : st.ev y = .lit (.int k j)) (hd : st.dstOk dst) (hK : K (st.put dst (.lit (.int k (max i j))))) :
    (Oper.mk dst (.call { callee := .builtin .max, args := #[x, y], argTypes := #[T, T'] }) ty pos after gd).wp P a e.w (Lift w0 M K) Q := by
  have hv := h.ev x; rw [hx] at hv
  have hw := h.ev y; rw [hy] at hw
  refine wp_value (v := .int k (max i j)) (w' := e.w) ?_ (h.lift hd (VRep_mk (v := .int _ _) trivial) hK)
  simp only [execOp, resolve]
  rw [Sem.run_bind]
  show (Result.ok _ e.w).andThen _ = _
  rw [Result.andThen_ok]
  simp only [List.map_toArray, List.map_cons, List.map_nil]
  rw [(VRep_lit hv).1, (VRep_lit hw).1]
  have : (if j > i then j else i) = max i j := by rw [Int.max_def]; split <;> split <;> omega
  simp [invoke, builtin, Builtin.max_, Builtin.max2, this]
theorem op_min (h : Good w0 M st e a) (x y : Operand) (T T' : TypeId) {k : IntKind} {i j : Int} (hx : st.ev x = .lit (.int k i)) (hy : st.ev y = .lit (.int k j)) (hd : st.dstOk dst) (hK : K (st.put dst (.lit (.int k (min i j))))) :
    (Oper.mk dst (.call { callee := .builtin .min, args := #[x, y], argTypes := #[T, T'] }) ty pos after gd).wp P a e.w (Lift w0 M K) Q := by
  have hv := h.ev x; rw [hx] at hv
  have hw := h.ev y; rw [hy] at hw
  refine wp_value (v := .int k (min i j)) (w' := e.w) ?_ (h.lift hd (VRep_mk (v := .int _ _) trivial) hK)
  simp only [execOp, resolve]
  rw [Sem.run_bind]
  show (Result.ok _ e.w).andThen _ = _
  rw [Result.andThen_ok]
  simp only [List.map_toArray, List.map_cons, List.map_nil]
  rw [(VRep_lit hv).1, (VRep_lit hw).1]
  have : (if j < i then j else i) = min i j := by rw [Int.min_def]; split <;> split <;> omega
  simp [invoke, builtin, Builtin.min_, Builtin.min2, this]
end ops
end Go.Proofs.YtncinhlaabdlaaaGreat.IM
end
