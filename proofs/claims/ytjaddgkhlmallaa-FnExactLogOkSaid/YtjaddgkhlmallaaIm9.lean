/- Calls that read and make: the operation, a function's entry, its answer. Nothing of a program is in it. -/
import Derived.Test.YtjaddgkhlmallaaIm8
namespace Go.Proofs.Ytjaddgkhlmallaa.IM
open Go Go.RowKit
set_option linter.unusedVariables false

/-- every block that plain data leads to -/
def D.tags (p : Nat → Prop) : D → Prop
  | .lit _ => True
  | .nil => True
  | .sl t _ n _ f => p t ∧ ∀ i, i < n → (f i).tags p
  | .opq _ S _ => ∀ b, S b → p b
  | .node k f => ∀ i, i < k.cnt → (f i).tags p
  | .tup n f => ∀ i, i < n → (f i).tags p
  | .any => True
  | _ => False

theorem Rep_tags {e : Env} {p P' : Nat → Prop} (hp : ∀ b, p b → e.P b → P' b) {d : D} : ∀ {cs : List Value}, d.tags p → Rep e d cs → Rep ⟨fun _ => none, 0, P', e.w⟩ d cs := by
  induction d with
  | lit v => intro cs _ h; exact h
  | nil => intro cs _ h; exact h
  | opq v S φ =>
    intro cs ht h
    obtain ⟨h1, h2, h3, h4⟩ := h
    exact ⟨h1, h2, fun b hb => hp _ (ht b hb) (h3 b hb), h4⟩
  | sl t zb n sz f ih =>
    intro cs ht h
    obtain ⟨o, c, ps, h1, h2, h3, h4, h5⟩ := h
    exact ⟨o, c, ps, h1, h2, hp _ ht.1 h3, fun i hi => ⟨(h4 i hi).1, ih i (ht.2 i hi) (h4 i hi).2⟩, h5⟩
  | node k f ih =>
    intro cs ht h
    obtain ⟨ps, h1, h2⟩ := h
    exact ⟨ps, fun i hi => ⟨(h1 i hi).1, ih i (ht i hi) (h1 i hi).2⟩, h2⟩
  | tup n f => intro cs _ h; exact h.elim
  | any => intro cs _ h; exact h
  | _ => intro cs ht; exact ht.elim

theorem VRep_tags {e : Env} {p P' : Nat → Prop} (hp : ∀ b, p b → e.P b → P' b) {d : D} : ∀ {v : Value}, d.tags p → VRep e d v → VRep ⟨fun _ => none, 0, P', e.w⟩ d v := by
  induction d with
  | node k f => intro v ht h; obtain ⟨cs, h1, h2⟩ := h; exact ⟨cs, h1, Rep_tags hp ht h2⟩
  | tup n f ih => intro v ht h; obtain ⟨vs, h1, h2, h3⟩ := h; exact ⟨vs, h1, h2, fun i hi => ih i (ht i hi) (h3 i hi)⟩
  | any => intro v _ h; trivial
  | lit u => intro v ht h; exact Rep_tags (d := .lit u) hp ht h
  | nil => intro v ht h; exact Rep_tags (d := .nil) hp ht h
  | sl t zb n sz f => intro v ht h; exact Rep_tags (d := .sl t zb n sz f) hp ht h
  | opq u S φ => intro v ht h; exact Rep_tags (d := .opq u S φ) hp ht h
  | _ => intro v ht; exact ht.elim

/-- the blocks that plain data leads to, as a list -/
def D.tl : D → List Nat
  | .sl t _ n _ f => t :: (List.range n).flatMap fun i => (f i).tl
  | .node k f => (List.range k.cnt).flatMap fun i => (f i).tl
  | .tup n f => (List.range n).flatMap fun i => (f i).tl
  | .cptr d => d.tl
  | .fn _ n c => (List.range n).flatMap fun i => (c i).tl
  | _ => []

theorem Rep_tl {e : Env} {d : D} : ∀ {cs : List Value}, Rep e d cs → ∀ x ∈ d.tl, e.P x := by
  induction d with
  | sl t zb n sz f ih =>
    intro cs h x hx
    obtain ⟨o, c, ps, h1, h2, h3, h4, h5⟩ := h
    simp only [D.tl, List.mem_cons, List.mem_flatMap, List.mem_range] at hx
    rcases hx with rfl | ⟨i, hi, hx⟩
    · exact h3
    · exact ih i (h4 i hi).2 x hx
  | node k f ih =>
    intro cs h x hx
    obtain ⟨ps, h1, h2⟩ := h
    simp only [D.tl, List.mem_flatMap, List.mem_range] at hx
    obtain ⟨i, hi, hx⟩ := hx
    exact ih i (h1 i hi).2 x hx
  | cptr d ih => intro cs h x hx; obtain ⟨b, o, ds, _, _, h3, _⟩ := h; exact ih h3 x hx
  | fn f n c ih =>
    intro cs h x hx
    obtain ⟨vs, h1, h2, h3⟩ := h
    simp only [D.tl, List.mem_flatMap, List.mem_range] at hx
    obtain ⟨i, hi, hx⟩ := hx
    exact ih i (h3 i hi).2 x hx
  | tup n f => intro cs h; exact h.elim
  | _ => intro cs h x hx; simp [D.tl] at hx

theorem VRep_tl {e : Env} {d : D} : ∀ {v : Value}, VRep e d v → ∀ x ∈ d.tl, e.P x := by
  induction d with
  | tup n f ih =>
    intro v h x hx
    obtain ⟨vs, h1, h2, h3⟩ := h
    simp only [D.tl, List.mem_flatMap, List.mem_range] at hx
    obtain ⟨i, hi, hx⟩ := hx
    exact ih i (h3 i hi) x hx
  | node k f => intro v h; obtain ⟨cs, _, h⟩ := h; exact Rep_tl h
  | any => intro v h x hx; simp [D.tl] at hx
  | sl t zb n sz f => intro v h; exact Rep_tl (d := .sl t zb n sz f) h
  | cptr d => intro v h; exact Rep_tl (d := .cptr d) h
  | fn f n c => intro v h; exact Rep_tl (d := .fn f n c) h
  | _ => intro v h x hx; simp [D.tl] at hx

/-- what is known of the blocks of any state -/
structure Facts (st : St) (n1 : Nat) : Prop where
  slot : ∀ l g b d, st.R l = some (g, b, d) → ∀ t, b ∉ (st.s t).tl
  root : ∀ l g b d l' g' b' d', st.R l = some (g, b, d) → st.R l' = some (g', b', d') → b ∉ d'.tl
  inj : ∀ l g b d l' g' b' d', st.R l = some (g, b, d) → st.R l' = some (g', b', d') → l ≠ l' → b ≠ b'
  lt : ∀ l g b d, st.R l = some (g, b, d) → b < n1
  tag : ∀ t, ∀ x ∈ (st.s t).tl, x < n1
  rtag : ∀ l g b d, st.R l = some (g, b, d) → ∀ x ∈ d.tl, x < n1

/-- the block of a root -/
def blkR (R : Roots) : Option Nat → Option Nat
  | none => none
  | some l => (R l).map fun x => x.2.1

/-- where roots that come back lie -/
def bsOk (R : Roots) (ls : List Nat) (n n1 m : Nat) (bs : Nat → Nat) : Prop := ∀ j, j < m → bs j < n1 ∧ (n ≤ bs j ∨ ∃ l ∈ ls, blkR R (some l) = some (bs j))

/-- the function can be entered -/
def Enters (P : Program) (f : FuncId) : Prop := ∃ fn, P.funcs[f]? = some fn ∧ fn.body.isNone = false ∧ (fn.name == "runtime.NumGoroutine") = false

/-- the roots that are handed over: labels from 1000 on -/
def InsR (gb : Nat → Nat) (ds : List D) : Roots := fun l => if l < 1000 then none else (ds[l - 1000]?).map fun d => (0, gb (l - 1000), d)

theorem InsR_some {gb : Nat → Nat} {ds : List D} {l g b : Nat} {d : D} (h : InsR gb ds l = some (g, b, d)) : ∃ i, l = 1000 + i ∧ i < ds.length ∧ ds[i]? = some d ∧ g = 0 ∧ b = gb i := by
  unfold InsR at h
  split at h
  · cases h
  · rename_i hl
    cases hd : ds[l - 1000]? with
    | none => rw [hd] at h; cases h
    | some d' =>
      rw [hd] at h
      simp only [Option.map_some, Option.some.injEq, Prod.mk.injEq] at h
      obtain ⟨rfl, rfl, rfl⟩ := h
      exact ⟨l - 1000, by omega, (List.getElem?_eq_some_iff.1 hd).1, hd, rfl, rfl⟩

/-- a call: what it is given, the roots that it may change, and what it hands back -/
def ICall (P : Program) (f : FuncId) (args ins : List D) (Q : Nat → Nat → List D → D → Prop) : Prop :=
  Enters P f ∧ ∀ (w : World) (p : Nat → Prop) (gb : Nat → Nat) (vs : Array Value), vs.size = args.length → (∀ b, p b → b < w.heap.size) →
    (∀ i d, ins[i]? = some d → RootOk ⟨InsR gb ins, 1, p, w⟩ (gb i) d) → (∀ i j, i < ins.length → j < ins.length → gb i = gb j → i = j) →
    (∀ i d, args[i]? = some d → VRep ⟨InsR gb ins, 1, p, w⟩ d (vs.getD i undef)) →
    Calls P f vs w fun en w' => ∃ v r outs gb' p', en = .returned v ∧ Q w.heap.size w'.heap.size outs r ∧
      Keep w (fun b => ∃ i, i < ins.length ∧ b = gb i) w' ∧ (∀ b, p b → p' b) ∧
      (∀ b, p' b → b < w'.heap.size ∧ (p b ∨ w.heap.size ≤ b ∨ ∃ i, i < ins.length ∧ b = gb i)) ∧
      (∀ i d, outs[i]? = some d → RootOk ⟨InsR gb' outs, 1, p', w'⟩ (gb' i) d ∧ (w.heap.size ≤ gb' i ∨ ∃ j, j < ins.length ∧ gb' i = gb j)) ∧
      (∀ i j, i < outs.length → j < outs.length → gb' i = gb' j → i = j) ∧
      VRep ⟨InsR gb' outs, 1, p', w'⟩ r v

/-- a call that reads what it is given, and hands back plain data -/
def PCall (P : Program) (f : FuncId) (args : List D) (Q : Nat → Nat → D → Prop) : Prop := ICall P f args [] fun n n' outs r => outs = [] ∧ Q n n' r

theorem ICall.mono {P : Program} {f : FuncId} {args ins : List D} {Q Q' : Nat → Nat → List D → D → Prop} (h : ICall P f args ins Q) (hq : ∀ n n' outs r, n ≤ n' → Q n n' outs r → Q' n n' outs r) : ICall P f args ins Q' :=
  ⟨h.1, fun w p gb vs h2 h3 h4 h5 h6 => (h.2 w p gb vs h2 h3 h4 h5 h6).mono fun en w' ⟨v, r, outs, gb', p', q1, q2, q3, q4⟩ => ⟨v, r, outs, gb', p', q1, hq _ _ _ _ q3.size q2, q3, q4⟩⟩
theorem PCall.mono {P : Program} {f : FuncId} {args : List D} {Q Q' : Nat → Nat → D → Prop} (h : PCall P f args Q) (hq : ∀ n n' r, n ≤ n' → Q n n' r → Q' n n' r) : PCall P f args Q' :=
  ICall.mono h fun n n' outs r hn ⟨h1, h2⟩ => ⟨h1, hq _ _ _ hn h2⟩

/-- how what is handed over is named inside -/
def labIn (R : Roots) (ls : List Nat) : Relab := fun l g =>
  match R l with
  | some (g', _, _) => if g' = g then (match ls.idxOf? l with | some i => .to (1000 + i) 0 | none => .gone) else .gone
  | none => .gone
/-- where all other roots may be read -/
def labView (R : Roots) : Relab := fun l g =>
  match R l with
  | some (g', b, d) => if g' = g then .per b d else .gone
  | none => .gone
/-- how what is handed back is named outside -/
def labOut (m : Nat) (lab : Nat → Nat) (G : Nat) : Relab := fun l g => if 1000 ≤ l ∧ l < 1000 + m ∧ g = 0 then .to (lab (l - 1000)) G else .gone
def outLab (dst : Option Tmp) (ls : List Nat) (j : Nat) : Nat := ls.getD j (2000 + 50 * dst.getD 0 + j)

def cntR (R : Roots) (l : Nat) : D := match R l with
  | some (_, _, d) => d
  | none => .any
def remL (R : Roots) : List Nat → Roots
  | [] => R
  | l :: ls => upd (remL R ls) l none
noncomputable def addL (R : Roots) (F : Relab) (G : Nat) (lab bs : Nat → Nat) : Nat → List D → Roots
  | _, [] => R
  | j, d :: ds => upd (addL R F G lab bs (j + 1) ds) (lab j) (some (G, bs j, rl 9 F d))

theorem Good.envroot {w0 : World} {M : Fr} {st : St} {e : Env} {a : Act} (h : Good w0 M st e a) {l g b : Nat} {d : D} (hl : st.R l = some (g, b, d)) : RootOk e b d := (h.root l g b d hl).2

theorem Good.facts {w0 : World} {M : Fr} {st : St} {e : Env} {a : Act} (h : Good w0 M st e a) : Facts st e.w.heap.size := by
  refine ⟨fun l g b d hl t hx => (h.envroot hl).np (VRep_tl (h.slot t) b hx), fun l g b d l' g' b' d' hl hl' hx => ?_, fun l g b d l' g' b' d' hl hl' hne hb => ?_, fun l g b d hl => ?_, fun t x hx => h.P x (VRep_tl (h.slot t) x hx), fun l g b d hl x hx => ?_⟩
  · obtain ⟨C, T, cs, r1, r2, r3⟩ := (h.envroot hl').row
    exact (h.envroot hl).np (Rep_tl r2 b hx)
  · subst hb; exact hne (h.inj _ _ _ _ _ _ _ hl hl')
  · obtain ⟨C, T, cs, r1, r2, r3⟩ := (h.envroot hl).row
    exact lt_of_block r1
  · obtain ⟨C, T, cs, r1, r2, r3⟩ := (h.envroot hl).row
    exact h.P x (Rep_tl r2 x hx)

/-- the facts may be used at any time -/
theorem Into.facts {w0 : World} {M : Fr} {st : St} {K : St → Prop} (h : ∀ n1, st.n ≤ n1 → Facts st n1 → Into w0 M { N := st.N, n := n1, s := st.s, R := st.R } K) : Into w0 M st K := by
  rintro a w ⟨e, rfl, hg⟩
  exact h e.w.heap.size hg.n hg.facts a e.w ⟨e, rfl, hg.R, hg.N, hg.df, hg.slot, hg.root, hg.own, hg.inj, hg.P, hg.keep, Nat.le_refl _, hg.per⟩

theorem Keep.trans' {w0 w w' : World} {M I : Nat → Prop} (h : Keep w0 M w) (k : Keep w I w') (hI : ∀ b, I b → w0.heap.size ≤ b ∨ M b) : Keep w0 M w' :=
  ⟨k.os.trans h.os, k.tape.trans h.tape, k.output.trans h.output, Nat.le_trans h.size k.size, fun i hi hm =>
    (k.block i (Nat.lt_of_lt_of_le hi h.size) (fun x => (hI i x).elim (fun h' => by omega) hm)).trans (h.block i hi hm), fun i C T z hC => by
    obtain ⟨C1, h1, h2⟩ := h.cell i C T z hC
    obtain ⟨C2, h3, h4⟩ := k.cell i C1 T z h1
    exact ⟨C2, h3, h4.trans h2⟩⟩

theorem remL_some {R : Roots} {ls : List Nat} {l : Nat} {x : Nat × Nat × D} (h : remL R ls l = some x) : l ∉ ls ∧ R l = some x := by
  induction ls with
  | nil => exact ⟨by simp, h⟩
  | cons k ls ih =>
    simp only [remL] at h
    by_cases hk : l = k
    · subst hk; rw [upd_same] at h; cases h
    · rw [upd_ne _ _ hk] at h
      obtain ⟨h1, h2⟩ := ih h
      exact ⟨by simp [hk, h1], h2⟩

theorem addL_some {R : Roots} {F : Relab} {G : Nat} {lab bs : Nat → Nat} : ∀ (ds : List D) (j : Nat) {l : Nat} {x : Nat × Nat × D}, addL R F G lab bs j ds l = some x →
    (∃ i d, ds[i]? = some d ∧ l = lab (j + i) ∧ x = (G, bs (j + i), rl 9 F d)) ∨ R l = some x := by
  intro ds
  induction ds with
  | nil => intro j l x h; exact .inr h
  | cons d ds ih =>
    intro j l x h
    simp only [addL] at h
    by_cases hk : l = lab j
    · subst hk; rw [upd_same] at h
      simp only [Option.some.injEq] at h
      exact .inl ⟨0, d, rfl, rfl, h.symm⟩
    · rw [upd_ne _ _ hk] at h
      rcases ih (j + 1) h with ⟨i, d', h1, h2, h3⟩ | h
      · exact .inl ⟨i + 1, d', by simpa using h1, by rw [h2]; congr 1; omega, by rw [h3]; congr 3; omega⟩
      · exact .inr h

theorem nodup_inj {ls : List Nat} (hnd : ls.Nodup) {i j : Nat} (hi : i < ls.length) (hj : j < ls.length) (h : ls[i] = ls[j]) : i = j := by
  have hp := List.pairwise_iff_getElem.1 hnd
  rcases Nat.lt_trichotomy i j with h1 | h1 | h1
  · exact absurd h (hp i j hi hj h1)
  · exact h1
  · exact absurd h.symm (hp j i hj hi h1)

section ops
variable {P : Program} {w0 : World} {M : Fr} {st : St} {e : Env} {a : Act} {K : St → Prop} {Q : Exit → Act → World → Prop}
variable {dst : Option Tmp} {ty : TypeId} {pos : String} {after : Array Edge} {gd : Option (Nat × Bool)}

theorem idxOf?_spec {ls : List Nat} {l i : Nat} (h : ls.idxOf? l = some i) : ls[i]? = some l := by
  rw [List.idxOf?_eq_some_iff] at h
  obtain ⟨hi, h1, _⟩ := h
  simpa [hi] using h1

/-- what the environment inside is -/
theorem relab_in (h : Good w0 M st e a) (ls : List Nat) (hls : ∀ l ∈ ls, (st.R l).isSome = true) (ins : List D) (gb : Nat → Nat)
    (hgb : ∀ i l, ls[i]? = some l → ∀ g b d, st.R l = some (g, b, d) → gb i = b) :
    RelabOk e ⟨InsR gb ins, 1, e.P, e.w⟩ (labIn st.R ls) := by
  refine ⟨rfl, fun _ h => h, fun l g l' g' hF hg => ?_, fun l g b d hF => ?_⟩
  · unfold labIn at hF
    split at hF
    · rename_i g1 b1 d1 hR
      split at hF
      · rename_i hgg
        subst hgg
        split at hF
        · rename_i i hi
          simp only [Lab.to.injEq] at hF
          obtain ⟨rfl, rfl⟩ := hF
          refine ⟨Nat.one_pos, fun b d hb => ?_⟩
          obtain ⟨i', h1, h2, h3, _, rfl⟩ := InsR_some hb
          obtain rfl : i' = i := by omega
          rw [hgb _ _ (idxOf?_spec hi) _ _ _ hR, h.R, hR]
          exact ⟨_, rfl⟩
        · cases hF
      · cases hF
    · cases hF
  · unfold labIn at hF
    split at hF
    · split at hF
      · split at hF <;> cases hF
      · cases hF
    · cases hF

theorem enter_rl (h : Good w0 M st e a) (fx : Operand) (xs : Array Operand) (ts : Array TypeId) {fid n : Nat} {c : Nat → D} (hf : st.ev fx = .fn fid n c) (hent : Enters P fid) {e1 : Env} {F : Relab} (ok : RelabOk e e1 F) :
    ∃ vs : Array Value, (execOp a.eval (Oper.mk dst (.call { callee := .value fx, args := xs, argTypes := ts }) ty pos after gd)).run P e.w = .ok (.enter fid vs) e.w ∧
      vs.size = ((xs.toList.map fun x => rl 9 F (st.ev x)) ++ (List.range n).map fun i => rl 9 F (c i)).length ∧
      ∀ i d, ((xs.toList.map fun x => rl 9 F (st.ev x)) ++ (List.range n).map fun i => rl 9 F (c i))[i]? = some d → VRep e1 d (vs.getD i undef) := by
  have hv := h.ev fx; rw [hf] at hv
  obtain ⟨cap, hcv, hcn, hcs⟩ := hv
  simp at hcv
  obtain ⟨fn, hfn, hbody, hname⟩ := hent
  refine ⟨xs.map a.eval ++ cap, ?_, by simp [hcn], ?_⟩
  · simp only [execOp, resolve]
    rw [hcv]
    simp only [Deferred.ofValue]
    rw [Sem.run_bind, Sem.run_pure, Result.andThen_ok]
    simp only [invoke, callFunc]
    rw [Sem.run_bind, run_program, Result.andThen_ok]
    simp [hfn, hname, hbody]
  · intro i d hi
    rcases Nat.lt_or_ge i xs.size with h1 | h1
    · rw [List.getElem?_append_left (by simpa using h1)] at hi
      simp only [List.getElem?_map, Array.getElem?_toList, Array.getElem?_eq_getElem h1, Option.map_some, Option.some.injEq] at hi
      subst hi
      have : (xs.map a.eval ++ cap).getD i undef = a.eval xs[i] := by
        simp [Array.getElem?_append_left, h1]
      rw [this]
      exact VRep_rl ok 9 _ _ (h.ev xs[i])
    · rw [List.getElem?_append_right (by simpa using h1)] at hi
      simp only [List.length_map, Array.length_toList, List.getElem?_map] at hi
      rcases Nat.lt_or_ge (i - xs.size) n with h2 | h2
      · rw [List.getElem?_range h2] at hi
        simp only [Option.map_some, Option.some.injEq] at hi
        subst hi
        have hr := hcs (i - xs.size) h2
        have : (xs.map a.eval ++ cap).getD i undef = cap.getD (i - xs.size) undef := by
          simp [Array.getElem?_append_right, h1]
        rw [this]
        exact VRep_of_Rep (rl_leaf 9 F hr.1) (Rep_rl ok 9 _ _ hr.2)
      · rw [List.getElem?_eq_none (by simpa using h2)] at hi; cases hi

theorem op_icall (h : Good w0 M st e a) (fx : Operand) (xs : Array Operand) (ts : Array TypeId) {fid n : Nat} {c : Nat → D} (hf : st.ev fx = .fn fid n c) (hd : st.dstOk dst)
    (ls : List Nat) (hnd : ls.Nodup) (hls : ∀ l ∈ ls, (st.R l).isSome = true) (hpl : ∀ l ∈ ls, (rl 9 (labIn st.R ls) (cntR st.R l)).plain)
    (hc : ICall P fid ((xs.toList.map fun x => rl 9 (labIn st.R ls) (st.ev x)) ++ (List.range n).map fun i => rl 9 (labIn st.R ls) (c i)) (ls.map fun l => rl 9 (labIn st.R ls) (cntR st.R l))
      fun n0 n1 outs r => st.n ≤ n0 → ((List.range outs.length).map (outLab dst ls)).Nodup ∧ ∀ G bs, bsOk st.R ls st.n n1 outs.length bs → (∀ d ∈ outs, (rl 9 (labOut outs.length (outLab dst ls) G) d).plain) ∧
        K (({ N := st.N, n := n1, s := st.s, R := addL (remL st.R ls) (labOut outs.length (outLab dst ls) G) G (outLab dst ls) bs 0 outs } : St).put dst (rl 9 (labOut outs.length (outLab dst ls) G) r))) :
    (Oper.mk dst (.call { callee := .value fx, args := xs, argTypes := ts }) ty pos after gd).wp P a e.w (Lift w0 M K) Q := by
  obtain ⟨hent, hcalls⟩ := hc
  have hblk : ∀ i l, ls[i]? = some l → ∃ g b d, st.R l = some (g, b, d) := fun i l hl => by
    have := hls l (List.mem_of_getElem? hl)
    rw [Option.isSome_iff_exists] at this
    obtain ⟨⟨g, b, d⟩, hx⟩ := this
    exact ⟨g, b, d, hx⟩
  let gb : Nat → Nat := fun i => match (ls[i]?).bind st.R with | some (_, b, _) => b | none => 0
  have hgb : ∀ i l, ls[i]? = some l → ∀ g b d, st.R l = some (g, b, d) → gb i = b := fun i l hl g b d hR => by simp [gb, hl, hR]
  have ok := relab_in h ls hls (ls.map fun l => rl 9 (labIn st.R ls) (cntR st.R l)) gb hgb
  obtain ⟨vs, hrun, hsz, hargs⟩ := enter_rl (P := P) (dst := dst) (ty := ty) (pos := pos) (after := after) (gd := gd) h fx xs ts hf hent ok
  unfold Oper.wp
  rw [hrun, Oper.upon_enter]
  have hins : ∀ (i : Nat) (d : D), (ls.map fun l => rl 9 (labIn st.R ls) (cntR st.R l))[i]? = some d → RootOk ⟨InsR gb (ls.map fun l => rl 9 (labIn st.R ls) (cntR st.R l)), 1, e.P, e.w⟩ (gb i) d := by
    intro i d hi
    rw [List.getElem?_map, Option.map_eq_some_iff] at hi
    obtain ⟨l, hl, rfl⟩ := hi
    obtain ⟨g, b, d, hR⟩ := hblk i l hl
    have hro := h.envroot hR
    rw [hgb i l hl g b d hR]
    have hcd : cntR st.R l = d := by simp [cntR, hR]
    refine ⟨hro.np, hpl l (List.mem_of_getElem? hl), ?_⟩
    obtain ⟨C, T, cs, r1, r2, r3⟩ := hro.row
    rw [hcd]
    exact ⟨C, T, cs, r1, Rep_rl ok 9 _ _ r2, r3⟩
  have hinj : ∀ i j, i < ls.length → j < ls.length → gb i = gb j → i = j := by
    intro i j hi hj hij
    obtain ⟨g, b, d, hR⟩ := hblk i ls[i] (by simp [hi])
    obtain ⟨g', b', d', hR'⟩ := hblk j ls[j] (by simp [hj])
    rw [hgb i ls[i] (by simp [hi]) g b d hR, hgb j ls[j] (by simp [hj]) g' b' d' hR'] at hij
    subst hij
    have := h.inj _ _ _ _ _ _ _ hR hR'
    exact nodup_inj hnd hi hj this
  have hlen : (ls.map fun l => rl 9 (labIn st.R ls) (cntR st.R l)).length = ls.length := by simp
  refine (hcalls e.w e.P gb vs hsz h.P hins (by rw [hlen]; exact hinj) hargs).mono ?_
  rintro en w' ⟨v, r, outs, gb', p', rfl, hq, hk, hp1, hp2, houts, hinj', hr⟩
  rw [hlen] at hk hp2
  simp only [hlen] at houts
  obtain ⟨hnd', hq⟩ := hq h.n
  obtain ⟨hplain, hq⟩ := hq e.G gb' (by
    intro j hj
    obtain ⟨hro, hb⟩ := houts j outs[j] (List.getElem?_eq_getElem hj)
    obtain ⟨C, T, cs, r1, _⟩ := hro.row
    refine ⟨lt_of_block r1, hb.elim (fun h' => .inl (Nat.le_trans h.n h')) fun ⟨i, hi, h'⟩ => .inr ⟨ls[i], List.getElem_mem hi, ?_⟩⟩
    obtain ⟨g, b, d, hR⟩ := hblk i ls[i] (by simp [hi])
    simp only [blkR, hR, Option.map_some]
    rw [h', hgb i ls[i] (by simp [hi]) g b d hR])
  have hI : ∀ b, (∃ i, i < ls.length ∧ b = gb i) → w0.heap.size ≤ b ∨ M.m b := by
    rintro b ⟨i, hi, rfl⟩
    obtain ⟨g, b, d, hR⟩ := hblk i ls[i] (by simp [hi])
    rw [hgb i ls[i] (by simp [hi]) g b d hR]
    exact h.own _ _ _ _ hR
  have hold : ∀ l g b d, remL st.R ls l = some (g, b, d) → st.R l = some (g, b, d) ∧ b < e.w.heap.size ∧ ¬ (∃ i, i < ls.length ∧ b = gb i) := by
    intro l g b d hl
    obtain ⟨h1, h2⟩ := remL_some hl
    obtain ⟨C, T, cs, r1, _⟩ := (h.envroot h2).row
    refine ⟨h2, lt_of_block r1, ?_⟩
    rintro ⟨i, hi, rfl⟩
    obtain ⟨g', b', d', hR'⟩ := hblk i ls[i] (by simp [hi])
    rw [hgb i ls[i] (by simp [hi]) g' b' d' hR'] at h2
    exact h1 (by rw [h.inj _ _ _ _ _ _ _ h2 hR']; exact List.getElem_mem hi)
  have hlab : ∀ i j, i < outs.length → j < outs.length → outLab dst ls i = outLab dst ls j → i = j := by
    intro i j hi hj hij
    exact nodup_inj hnd' (by simpa using hi) (by simpa using hj) (by simpa using hij)
  -- the environment behind the call
  let e2 : Env := ⟨addL (remL st.R ls) (labOut outs.length (outLab dst ls) e.G) e.G (outLab dst ls) gb' 0 outs, e.G + 1, p', w'⟩
  have hsp : ∀ l g b d, e2.R l = some (g, b, d) → (∃ i d0, outs[i]? = some d0 ∧ l = outLab dst ls i ∧ g = e.G ∧ b = gb' i ∧ d = rl 9 (labOut outs.length (outLab dst ls) e.G) d0) ∨ remL st.R ls l = some (g, b, d) := by
    intro l g b d hl
    rcases addL_some outs 0 hl with ⟨i, d0, h1, h2, h3⟩ | h1
    · simp only [Nat.zero_add, Prod.mk.injEq] at h2 h3
      exact .inl ⟨i, d0, h1, h2, h3⟩
    · exact .inr h1
  have hole : ∀ b, e.P b → ¬ ∃ i, i < ls.length ∧ b = gb i := by
    rintro b hb ⟨i, hi, rfl⟩
    exact (hins i _ (by rw [List.getElem?_map, List.getElem?_eq_getElem hi]; rfl)).np hb
  have hle : e.le e2 := by
    refine ⟨Nat.le_succ _, hp1, fun b hb => hk.block b (h.P b hb) (hole b hb), fun l g b d hg hl => ?_, fun l g b d hg hl C T z hb => ?_⟩
    · rcases hsp l g b d hl with ⟨i, d0, _, _, h1, _⟩ | h1
      · omega
      · rw [h.R]; exact ⟨d, (hold _ _ _ _ h1).1⟩
    · rcases hsp l g b d hl with ⟨i, d0, _, _, h1, _⟩ | h1
      · omega
      · obtain ⟨q1, q2, q3⟩ := hold _ _ _ _ h1
        exact ⟨C, z, by rw [← hb]; exact hk.block b q2 q3, rfl⟩
  have ok2 : RelabOk ⟨InsR gb' outs, 1, p', w'⟩ e2 (labOut outs.length (outLab dst ls) e.G) := by
    refine ⟨rfl, fun _ h => h, fun l g l' g' hF hg => ?_, fun l g b d hF => ?_⟩
    · unfold labOut at hF
      split at hF
      · rename_i hc
        simp only [Lab.to.injEq] at hF
        obtain ⟨rfl, rfl⟩ := hF
        refine ⟨Nat.lt_succ_self _, fun b d hb => ?_⟩
        obtain ⟨h1, h2, rfl⟩ := hc
        rcases hsp _ _ _ _ hb with ⟨i, d0, q1, q2, _, q3, _⟩ | q
        · have hi : i < outs.length := (List.getElem?_eq_some_iff.1 q1).1
          have := hlab (l - 1000) i (by omega) hi q2
          subst this
          refine ⟨d0, ?_⟩
          show InsR gb' outs l = some (0, b, d0)
          unfold InsR
          rw [if_neg (by omega), q1, q3]
          rfl
        · obtain ⟨q1, _⟩ := hold _ _ _ _ q
          have := (h.root _ _ _ _ q1).1
          omega
      · cases hF
    · unfold labOut at hF; split at hF <;> cases hF
  refine ⟨_, hq, e2, rfl, Good.put (st := { N := st.N, n := w'.heap.size, s := st.s, R := e2.R }) ?_ (by simpa [St.dstOk] using hd) (VRep_rl ok2 9 _ _ hr)⟩
  refine ⟨rfl, h.N, h.df, fun t => VRep_le hle (h.slot t), ?_, ?_, ?_, fun b hb => (hp2 b hb).1, h.keep.trans' hk hI, Nat.le_refl _, ?_⟩
  · intro l g b d hl
    rcases hsp l g b d hl with ⟨i, d0, h1, h2, rfl, rfl, rfl⟩ | h1
    · obtain ⟨hro, _⟩ := houts i d0 h1
      obtain ⟨C, T, cs, r1, r2, r3⟩ := hro.row
      exact ⟨Nat.lt_succ_self _, hro.np, hplain _ (List.mem_of_getElem? h1), C, T, cs, r1, Rep_rl ok2 9 _ _ r2, r3⟩
    · obtain ⟨q1, q2, q3⟩ := hold _ _ _ _ h1
      obtain ⟨hg, hro⟩ := h.root _ _ _ _ q1
      obtain ⟨C, T, cs, r1, r2, r3⟩ := hro.row
      refine ⟨Nat.lt_succ_of_lt hg, ?_, hro.plain, C, T, cs, (hk.block b q2 q3).trans r1, Rep_le hle r2, r3⟩
      intro hpb
      rcases (hp2 b hpb).2 with h' | h' | h'
      · exact hro.np h'
      · omega
      · exact q3 h'
  · intro l g b d hl
    rcases hsp l g b d hl with ⟨i, d0, h1, h2, rfl, rfl, rfl⟩ | h1
    · rcases (houts i d0 h1).2 with h' | ⟨j, hj, h'⟩
      · exact .inl (Nat.le_trans h.keep.size h')
      · exact hI _ ⟨j, hj, h'⟩
    · exact h.own _ _ _ _ (hold _ _ _ _ h1).1
  · intro l l' g g' b d d' hl hl'
    have cross : ∀ i d0, outs[i]? = some d0 → ∀ l g d, remL st.R ls l = some (g, gb' i, d) → False := by
      intro i d0 hi l g d hl
      obtain ⟨q1, q2, q3⟩ := hold _ _ _ _ hl
      rcases (houts i d0 hi).2 with h' | ⟨j, hj, h'⟩
      · omega
      · exact q3 ⟨j, hj, h'⟩
    rcases hsp l g b d hl with ⟨i, d0, h1, h2, h3, h4, h5⟩ | h1 <;> rcases hsp l' g' b d' hl' with ⟨i', d0', h1', h2', h3', h4', h5'⟩ | h1'
    · have := hinj' i i' (List.getElem?_eq_some_iff.1 h1).1 (List.getElem?_eq_some_iff.1 h1').1 (h4.symm.trans h4')
      rw [h2, h2', this]
    · subst h4; exact (cross i d0 h1 _ _ _ h1').elim
    · subst h4'; exact (cross i' d0' h1' _ _ _ h1).elim
    · exact h.inj _ _ _ _ _ _ _ (hold _ _ _ _ h1).1 (hold _ _ _ _ h1').1
  · intro b hb
    rcases (hp2 b hb).2 with h' | h' | h'
    · exact h.per b h'
    · exact .inl (Nat.le_trans h.keep.size h')
    · rcases hI b h' with h'' | h''
      · exact .inl h''
      · exact .inr (.inr h'')

/-- all roots may be read; the answer is new -/
theorem relab_view (h : Good w0 M st e a) : RelabOk e ⟨fun _ => none, 1, fun b => e.P b ∨ ∃ l g d, st.R l = some (g, b, d), e.w⟩ (labView st.R) := by
  refine ⟨rfl, fun _ h => .inl h, fun l g l' g' hF hg => ?_, fun l g b d hF => ?_⟩
  · unfold labView at hF; split at hF
    · split at hF <;> cases hF
    · cases hF
  · unfold labView at hF; split at hF
    · rename_i g1 b1 d1 hR
      split at hF
      · rename_i hgg
        subst hgg
        simp only [Lab.per.injEq] at hF
        obtain ⟨rfl, rfl⟩ := hF
        exact ⟨by rw [h.R]; exact hR, h.envroot hR, .inr ⟨l, _, _, hR⟩⟩
      · cases hF
    · cases hF

theorem op_vcall (h : Good w0 M st e a) (fx : Operand) (xs : Array Operand) (ts : Array TypeId) {fid n : Nat} {c : Nat → D} (hf : st.ev fx = .fn fid n c) (hd : st.dstOk dst)
    (hc : PCall P fid ((xs.toList.map fun x => rl 9 (labView st.R) (st.ev x)) ++ (List.range n).map fun i => rl 9 (labView st.R) (c i))
      fun n0 n1 r => st.n ≤ n0 → r.tags (n0 ≤ ·) ∧ K (({ N := st.N, n := n1, s := st.s, R := st.R } : St).put dst r)) :
    (Oper.mk dst (.call { callee := .value fx, args := xs, argTypes := ts }) ty pos after gd).wp P a e.w (Lift w0 M K) Q := by
  obtain ⟨hent, hcalls⟩ := hc
  have ok := relab_view h
  obtain ⟨vs, hrun, hsz, hargs⟩ := enter_rl (P := P) (dst := dst) (ty := ty) (pos := pos) (after := after) (gd := gd) h fx xs ts hf hent ok
  unfold Oper.wp
  rw [hrun, Oper.upon_enter]
  have hnil : InsR (fun _ => 0) [] = fun _ => none := by funext l; simp [InsR]
  refine (hcalls e.w (fun b => e.P b ∨ ∃ l g d, st.R l = some (g, b, d)) (fun _ => 0) vs hsz ?_ (by simp) (by simp) (by rw [hnil]; exact hargs)).mono ?_
  · rintro b (hb | ⟨l, g, d, hl⟩)
    · exact h.P b hb
    · obtain ⟨C, T, cs, r1, _⟩ := (h.envroot hl).row; exact lt_of_block r1
  · rintro en w' ⟨v, r, outs, gb', p', rfl, ⟨rfl, hq⟩, hk, hp1, hp2, houts, hinj', hr⟩
    obtain ⟨htag, hK⟩ := hq h.n
    have hk0 : Keep e.w (fun _ => False) w' := ⟨hk.os, hk.tape, hk.output, hk.size, fun k hk1 _ => hk.block k hk1 (by simp), hk.cell⟩
    let e2 : Env := ⟨e.R, e.G, fun b => e.P b ∨ (e.w.heap.size ≤ b ∧ b < w'.heap.size), w'⟩
    have hle : e.le e2 := ⟨Nat.le_refl _, fun _ h => .inl h, fun b hb => hk0.block b (h.P b hb) id, fun l g b d _ hl => ⟨d, hl⟩,
      fun l g b d _ hl C T z hb => ⟨C, z, by rw [← hb]; exact hk0.block b (lt_of_block hb) id, rfl⟩⟩
    refine ⟨_, hK, e2, rfl, Good.put (st := { N := st.N, n := w'.heap.size, s := st.s, R := st.R }) ?_ (by simpa [St.dstOk] using hd) ?_⟩
    · refine ⟨h.R, h.N, h.df, fun t => VRep_le hle (h.slot t), ?_, h.own, h.inj, ?_, h.keep.trans' hk0 (fun _ h => h.elim), Nat.le_refl _, ?_⟩
      · intro l g b d hl
        obtain ⟨h1, hro⟩ := h.root _ _ _ _ hl
        obtain ⟨C, T, cs, r1, r2, r3⟩ := hro.row
        have hlt := lt_of_block r1
        refine ⟨h1, ?_, hro.plain, C, T, cs, (hk0.block b hlt id).trans r1, Rep_le hle r2, r3⟩
        rintro (hp | hp)
        · exact hro.np hp
        · omega
      · rintro b (hb | hb)
        · exact Nat.lt_of_lt_of_le (h.P b hb) hk.size
        · exact hb.2
      · rintro b (hb | hb)
        · exact h.per b hb
        · exact .inl (Nat.le_trans h.keep.size hb.1)
    · have hr' := VRep_tags (P' := e2.P) (fun b hb hP => Or.inr ⟨hb, (hp2 b hP).1⟩) htag hr
      refine VRep_le ?_ hr'
      exact ⟨Nat.zero_le _, fun b hb => hb, fun _ _ => rfl, fun l g b d hg' => absurd hg' (Nat.not_lt_zero _), fun l g b d hg' => absurd hg' (Nat.not_lt_zero _)⟩

end ops
end Go.Proofs.Ytjaddgkhlmallaa.IM
