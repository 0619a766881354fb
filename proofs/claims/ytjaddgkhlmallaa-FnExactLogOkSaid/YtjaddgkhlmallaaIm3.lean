/- The abstract state of a call, how a state of the model stands for it, and the operations that change no memory. Nothing of a program is in it. -/
import Derived.Test.YtjaddgkhlmallaaIm2
namespace Go.Proofs.Ytjaddgkhlmallaa.IM
open Go Go.RowKit
set_option linter.unusedVariables false

structure St where
  N : Nat
  n : Nat
  s : Nat → D
  R : Roots

def upd {α : Type} (f : Nat → α) (t : Nat) (x : α) : Nat → α := fun k => if k = t then x else f k
@[simp] theorem upd_same {α : Type} (f : Nat → α) (t : Nat) (x : α) : upd f t x t = x := by simp [upd]
theorem upd_ne {α : Type} (f : Nat → α) {t k : Nat} (x : α) (h : k ≠ t) : upd f t x k = f k := by simp [upd, h]

def St.put (st : St) (dst : Option Tmp) (d : D) : St :=
  match dst with
  | some t => { st with s := upd st.s t d }
  | none => st
def St.dstOk (st : St) (dst : Option Tmp) : Prop := ∀ t, dst = some t → t < st.N

/-- a constant's abstract value -/
def D.ofV : Value → D
  | .slice none 0 0 => .nil
  | .agg _ => .any
  | .tuple _ => .any
  | v => .lit v

def St.ev (st : St) : Operand → D
  | .tmp t => st.s t
  | .const v => D.ofV v
  | .global _ => .any
  | .func f => .fn f 0 fun _ => .any

/-- what was there when the call began is as it was, but for the blocks M -/
structure Keep (w0 : World) (M : Nat → Prop) (w : World) : Prop where
  os : w.os = w0.os
  tape : w.tape = w0.tape
  output : w.output = w0.output
  size : w0.heap.size ≤ w.heap.size
  block : ∀ k, k < w0.heap.size → ¬ M k → w.heap[k]? = w0.heap[k]?
  cell : ∀ (k : Nat) (C : Array Value) (T : TypeId) (z : Nat × Nat), w0.heap[k]? = some (Obj.cells C T z) → ∃ C' : Array Value, w.heap[k]? = some (Obj.cells C' T z) ∧ C'.size = C.size

/-- of the blocks that stood when the call began: which may be written, and which may be read as they are -/
structure Fr where
  m : Nat → Prop
  p : Nat → Prop

structure RootOk (e : Env) (b : Nat) (d : D) : Prop where
  np : ¬ e.P b
  plain : d.plain
  row : ∃ (C : Array Value) (T : TypeId) (cs : List Value), e.w.heap[b]? = some (.cells C T (0, 0)) ∧ Rep e d cs ∧ ∀ (j : Nat) (v : Value), cs[j]? = some v → C[j]? = some v

structure Good (w0 : World) (M : Fr) (st : St) (e : Env) (a : Act) : Prop where
  R : e.R = st.R
  N : a.tmps.size = st.N
  df : a.defers = []
  slot : ∀ t, VRep e (st.s t) (a.tmps.getD t undef)
  root : ∀ l g b d, st.R l = some (g, b, d) → g < e.G ∧ RootOk e b d
  own : ∀ l g b d, st.R l = some (g, b, d) → w0.heap.size ≤ b ∨ M.m b
  inj : ∀ l l' g g' b d d', st.R l = some (g, b, d) → st.R l' = some (g', b, d') → l = l'
  P : ∀ b, e.P b → b < e.w.heap.size
  keep : Keep w0 M.m e.w
  n : st.n ≤ e.w.heap.size
  per : ∀ b, e.P b → w0.heap.size ≤ b ∨ M.p b ∨ M.m b

def SR (w0 : World) (M : Fr) (st : St) (a : Act) (w : World) : Prop := ∃ e, e.w = w ∧ Good w0 M st e a

def Lift (w0 : World) (M : Fr) (K : St → Prop) (a : Act) (w : World) : Prop := ∃ st, K st ∧ SR w0 M st a w

theorem VRep_ofV (e : Env) (v : Value) : VRep e (D.ofV v) v := by
  unfold D.ofV
  split
  · exact ⟨none, rfl⟩
  · trivial
  · trivial
  · rename_i h1 h2 h3
    refine ⟨?_, rfl⟩
    cases v <;> first | trivial | exact absurd rfl (h2 _) | exact absurd rfl (h3 _)

theorem Good.ev {w0 : World} {M : Fr} {st : St} {e : Env} {a : Act} (h : Good w0 M st e a) (x : Operand) : VRep e (st.ev x) (a.eval x) := by
  cases x with
  | tmp t => exact h.slot t
  | const v => exact VRep_ofV e v
  | global g => trivial
  | func f => exact ⟨#[], rfl, rfl, fun i hi => absurd hi (by omega)⟩

theorem Good.put {w0 : World} {M : Fr} {st : St} {e : Env} {a : Act} (h : Good w0 M st e a) {dst : Option Tmp} (hd : st.dstOk dst) {d : D} {v : Value} (hv : VRep e d v) :
    Good w0 M (st.put dst d) e (a.put dst v) := by
  cases dst with
  | none => exact h
  | some t =>
    have ht := hd t rfl
    refine ⟨h.R, by simpa [Act.put, St.put] using h.N, h.df, ?_, h.root, h.own, h.inj, h.P, h.keep, h.n, h.per⟩
    intro k
    show VRep e (upd st.s t d k) ((a.tmps.setIfInBounds t v).getD k undef)
    by_cases hk : k = t
    · subst hk
      rw [upd_same]
      have : (a.tmps.setIfInBounds k v).getD k undef = v := by
        simp [h.N, ht]
      rw [this]; exact hv
    · rw [upd_ne _ _ hk]
      have : (a.tmps.setIfInBounds t v).getD k undef = a.tmps.getD k undef := by
        simp [Array.getElem?_setIfInBounds_ne (Ne.symm hk)]
      rw [this]; exact h.slot k

theorem Good.lift {w0 : World} {M : Fr} {st : St} {e : Env} {a : Act} (h : Good w0 M st e a) {dst : Option Tmp} (hd : st.dstOk dst) {d : D} {v : Value} (hv : VRep e d v) {K : St → Prop}
    (hK : K (st.put dst d)) : Lift w0 M K (a.put dst v) e.w := ⟨_, hK, e, rfl, h.put hd hv⟩

theorem wp_value {P : Program} {o : Oper} {a : Act} {w w' : World} {v : Value} {next : Act → World → Prop} {Q : Exit → Act → World → Prop}
    (h : (execOp a.eval o).run P w = .ok (.value v) w') (hn : next (a.put o.dst v) w') : o.wp P a w next Q := by
  unfold Oper.wp; rw [h]; exact hn
theorem wp_skipped {P : Program} {o : Oper} {a : Act} {w w' : World} {next : Act → World → Prop} {Q : Exit → Act → World → Prop}
    (h : (execOp a.eval o).run P w = .ok .skip w') (hn : next (a.put o.dst undef) w') : o.wp P a w next Q := by
  unfold Oper.wp; rw [h]; exact hn

/-! ### types -/
def tsz (P : Program) (T : TypeId) : Option Nat := (P.info? T).map (·.size)
def tbytes (P : Program) (T : TypeId) : Option Nat := (P.info? T).map (·.bytes)
def tagg (P : Program) (T : TypeId) : Option Bool := (P.underlying T).map fun | .struct _ => true | .array _ _ => true | _ => false
def tint (P : Program) (T : TypeId) : Option IntKind := (P.underlying T).bind fun | .int k => some k | _ => none
def telem (P : Program) (T : TypeId) : Option TypeId := (P.underlying T).bind fun | .slice e => some e | _ => none
def tarr (P : Program) (T : TypeId) : Option (Nat × TypeId) := (P.underlying T).bind fun | .array n e => some (n, e) | _ => none
def tfield (P : Program) (T : TypeId) (f : Nat) : Option (Nat × TypeId) := (P.underlying T).bind fun | .struct fs => (fs[f]?).map fun x => (x.offset, x.type) | _ => none

theorem run_typeInfo {P : Program} {w : World} {T : TypeId} {i : TypeInfo} (h : P.info? T = some i) : (typeInfo T).run P w = .ok i w := by
  unfold typeInfo
  rw [Sem.run_bind, run_program, Result.andThen_ok, h]; rfl
theorem run_underlying {P : Program} {w : World} {T : TypeId} {d : TypeDesc} (h : P.underlying T = some d) : (underlying T).run P w = .ok d w := by
  unfold underlying
  rw [Sem.run_bind, run_program, Result.andThen_ok, h]; rfl
theorem run_sizeOf {P : Program} {w : World} {T : TypeId} {n : Nat} (h : tsz P T = some n) : (sizeOf T).run P w = .ok n w := by
  unfold tsz at h
  cases hi : P.info? T with
  | none => rw [hi] at h; cases h
  | some i =>
    rw [hi] at h
    unfold sizeOf
    rw [Sem.run_bind, run_typeInfo hi, Result.andThen_ok]
    simp at h ⊢; exact h
theorem run_isAgg {P : Program} {w : World} {T : TypeId} {b : Bool} (h : tagg P T = some b) : (isAgg T).run P w = .ok b w := by
  unfold tagg at h
  cases hi : P.underlying T with
  | none => rw [hi] at h; cases h
  | some d =>
    rw [hi] at h
    unfold isAgg
    rw [Sem.run_bind, run_underlying hi, Result.andThen_ok]
    cases d <;> simp at h <;> subst h <;> rfl

/-- a place that a pointer of a state leads to -/
def Loaded (isNode : Bool) (d : D) : Prop :=
  match d with
  | .node _ _ => isNode = true
  | .tup _ _ => False
  | .any => False
  | _ => isNode = false

theorem run_loadVar {P : Program} {w : World} {T : TypeId} {b o : Nat} {cs : List Value} {e : Env} {d : D} {ag : Bool} (hw : e.w = w) (ht : tagg P T = some ag) (hs : tsz P T = some d.size) (hl : Loaded ag d)
    (hr : Rep e d cs) (hat : At w b o cs) : ∃ v, (loadVar T ⟨b, o, none⟩).run P w = .ok v w ∧ VRep e d v := by
  have hp : d.plain := by cases d <;> first | trivial | exact hl.elim
  have hlen := Rep_length hp hr
  unfold loadVar
  rw [Sem.run_bind, run_isAgg ht, Result.andThen_ok]
  cases d with
  | node k f =>
    obtain rfl : ag = true := hl
    rw [if_pos rfl]
    refine ⟨.agg cs.toArray, ?_, ⟨cs.toArray, rfl, hr⟩⟩
    rw [Sem.run_bind, run_sizeOf hs, Result.andThen_ok, Sem.run_bind, ← hlen, run_loadCells P hat, Result.andThen_ok, Sem.run_pure]
  | tup n f => exact hl.elim
  | any => exact hl.elim
  | _ =>
    obtain rfl : ag = false := hl
    rw [if_neg (by simp)]
    simp only [D.size] at hlen
    obtain ⟨v, rfl⟩ := List.length_eq_one_iff.1 hlen
    have hc := hat.cell (j := 0) (v := v) rfl
    refine ⟨v, ?_, hr⟩
    simp only [Nat.add_zero] at hc
    simp [load, Sem.run, hc]

end Go.Proofs.Ytjaddgkhlmallaa.IM
