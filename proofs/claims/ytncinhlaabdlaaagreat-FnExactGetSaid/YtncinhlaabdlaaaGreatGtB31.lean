/- Several of my texts in one module (merge.py, shake.py). -/
import Derived.RangeFuncFrom
import Derived.RangeFuncLeaves
import Derived.TacticsIn
import Derived.OrdersIn
import Derived.Test.YtncinhlaabdlaaaGreatGtB30
section
namespace Go.Proofs.YtncinhlaabdlaaaGreat.IM
open Go Go.Proofs Go.RowKit
set_option linter.unusedVariables false
set_option linter.unusedSimpArgs false
set_option maxHeartbeats 2000000
set_option maxRecDepth 20000
def Fo (o : Option Nat) : Fence := { Fence.wide with round := o }
theorem callsIn_fo {o : Option Nat} {n : Nat} {P : Program} {f : FuncId} {args : Array Value} {w : World} {R : Ending → World → Prop} (h : Calls P f args w R) : CallsIn (Fo o) n P f args w R := (callsIn_wide (n := n)).2 h
theorem rowsIn_fo {o : Option Nat} {n : Nat} {P : Program} {row : String} {args : Array Value} {w : World} {R : Value → World → Prop} (h : Rows P row args w R) : RowsIn (Fo o) n P row args w R :=
  fun c cs _ => let ⟨v, w', r, s⟩ := h c cs; ⟨v, w', r, (stepsIn_wide.2 s : StepsIn (Machine.fenced P Fence.wide) P _ _)⟩
theorem room_fo (o : Option Nat) {n : Nat} : (Fo o).depth.isSome = true → 1 ≤ n := fun h => by cases h
def isDefer (o : Oper) : Bool := match o.op with | .defer _ => true | _ => false
theorem not_defer {o : Oper} (h : isDefer o = false) : ∀ c, o.op ≠ .defer c := fun c e => by unfold isDefer at h; rw [e] at h; cases h
def bareA (a : Act) : Act := { tmps := a.tmps, defers := [] }
theorem bare_put (a : Act) (dst : Option Tmp) (v : Value) : bareA (a.put dst v) = (bareA a).put dst v := by cases dst <;> rfl
structure SameT (L : List Nat) (a a' : Act) : Prop where
  df : a'.defers = a.defers
  sz : a'.tmps.size = a.tmps.size
  tm : ∀ k, k ∉ L → a'.tmps.getD k undef = a.tmps.getD k undef
theorem SameT.refl (L : List Nat) (a : Act) : SameT L a a := ⟨rfl, rfl, fun _ _ => rfl⟩
theorem SameT.put {L : List Nat} {a a' : Act} (h : SameT L a a') {dst : Option Tmp} (hd : ∀ t, dst = some t → t ∈ L) (v : Value) : SameT L a (a'.put dst v) := by
  cases dst with
  | none => exact h
  | some t =>
    have ht := hd t rfl
    refine ⟨h.df, by simpa [Act.put] using h.sz, fun k hk => ?_⟩
    have hne : k ≠ t := fun e => hk (e ▸ ht)
    show (a'.tmps.setIfInBounds t v).getD k undef = _
    rw [← h.tm k hk]
    simp [Array.getElem?_setIfInBounds_ne (Ne.symm hne)]
section
variable {P : Program} {w0 : World} {M : Fr}
theorem oper_fo {o : Option Nat} {n : Nat} {op : Oper} {a : Act} {w : World} {K : St → Prop} {Q : Exit → Act → World → Prop} (hd : isDefer op = false) (h : op.wp P (bareA a) w (Lift w0 M K) (fun _ _ _ => False)) :
    op.wpIn (Fo o) n P a w (fun a' w' => (∃ v, a' = a.put op.dst v) ∧ Lift w0 M K (bareA a') w') Q := by
  refine ⟨fun _ _ => trivial, ?_⟩
  rw [Oper.semAt_eq _ _ _ (not_defer hd)]
  unfold Oper.wp at h
  have he : (bareA a).eval = a.eval := rfl
  rw [he] at h
  generalize (execOp a.eval op).run P w = r at h ⊢
  cases r with
  | ok nx w' =>
    cases nx with
    | value v => exact ⟨⟨v, rfl⟩, by rw [bare_put]; exact h⟩
    | skip => exact ⟨⟨undef, rfl⟩, by rw [bare_put]; exact h⟩
    | defer d =>
      obtain ⟨st, _, e, _, hg⟩ := h
      have hdf := hg.df
      exfalso
      cases hdst : op.dst with
      | none => rw [hdst] at hdf; cases hdf
      | some t => rw [hdst] at hdf; cases hdf
    | enter f args =>
      refine ⟨room_fo o, (callsIn_fo (o := o) (n := n - 1) h).mono fun en w'' hh => ?_⟩
      cases en with
      | returned v => exact ⟨⟨v, rfl⟩, by rw [bare_put]; exact hh⟩
      | panicked ch => exact hh.elim
      | outgrown => obtain ⟨_, _, hh⟩ := hh; exact hh.elim
    | row row args =>
      refine ⟨room_fo o, RowsIn.mono (rowsIn_fo (o := o) (n := n - 1) h) fun v w'' hh => ⟨⟨v, rfl⟩, by rw [bare_put]; exact hh⟩⟩
    | _ => exact h.elim
  | halt ch w' =>
    cases ch <;> exact h.elim
def opsFlat (L : List Nat) (ops : List Oper) : Bool := ops.all fun o => !isDefer o && (match o.dst with | some t => L.contains t | none => true)
theorem opsFlat_cons {L : List Nat} {o : Oper} {ops : List Oper} (h : opsFlat L (o :: ops) = true) : isDefer o = false ∧ (∀ t, o.dst = some t → t ∈ L) ∧ opsFlat L ops = true := by
  unfold opsFlat at h
  rw [List.all_cons, Bool.and_eq_true, Bool.and_eq_true] at h
  obtain ⟨⟨h1, h2⟩, h3⟩ := h
  refine ⟨by simpa using h1, fun t ht => ?_, h3⟩
  rw [ht] at h2
  simpa using h2
def codeFlat (L : List Nat) : Code → Bool
  | .skip => true
  | .region _ ops false => opsFlat L ops.toList
  | .seq a b => codeFlat L a && codeFlat L b
  | .cond _ x y => codeFlat L x && codeFlat L y
  | .block _ c => codeFlat L c
  | .exit _ => true
  | .ret => true
  | _ => false
def LiftS (w0 : World) (M : Fr) (L : List Nat) (a0 : Act) (Q : Exit → St → Prop) (x : Exit) (a : Act) (w : World) : Prop := ∃ st, Q x st ∧ SR w0 M st (bareA a) w ∧ SameT L a0 a
theorem vcL_fo' {W : Nat → Prop} (hW : ∀ b, W b → w0.heap.size ≤ b ∨ M.m b) {o : Option Nat} {n : Nat} {L : List Nat} {a0 : Act} (ops : Array Oper) {QQ : Exit → Act → World → Prop} {K : St → Prop} (tail : List Oper) (hK : ∀ st a w, K st → SR w0 M st (bareA a) w → SameT L a0 a → wpListIn (Fo o) n P ops QQ tail a w) :
    ∀ (l : List Oper) (st : St) (a : Act) (w : World), opsFlat L l = true → SR w0 M st (bareA a) w → SameT L a0 a → vcL P W ops K l st → wpListIn (Fo o) n P ops QQ (l ++ tail) a w := by
  intro l
  induction l with
  | nil => intro st a w _ hs hsm hv; exact hK st a w hv hs hsm
  | cons op rest ih =>
    intro st a w hfl hs hsm hv
    obtain ⟨hnd, hdst, hfl'⟩ := opsFlat_cons hfl
    have step : ∀ st', SR w0 M st' (bareA a) w → vcM P W op st' (vcL P W ops K rest) → op.wpIn (Fo o) n P a w (wpListIn (Fo o) n P ops QQ (rest ++ tail)) QQ := by
      rintro st' ⟨e, rfl, hg⟩ hv'
      have h1 := oper_fo (o := o) (n := n) (a := a) (Q := QQ) hnd (vopM_sound (Q := fun _ _ _ => False) hW hg op hv')
      refine Oper.wpIn_mono ?_ h1
      rintro a' w' ⟨⟨v, rfl⟩, st'', h2, h3⟩
      exact ih st'' _ w' hfl' h3 (hsm.put hdst v) h2
    rw [List.cons_append]
    unfold wpListIn
    simp only [vcL] at hv
    cases hgd : op.guard with
    | none =>
      rw [hgd] at hv
      rw [if_pos (by simp [Region.wanted, hgd])]
      exact step st hs hv
    | some jw =>
      obtain ⟨j, want⟩ := jw
      rw [hgd] at hv
      simp only at hv
      cases hj : (ops[j]?).bind (·.dst) with
      | none => rw [hj] at hv; exact hv.elim
      | some t =>
        rw [hj] at hv
        obtain ⟨h2, hv⟩ := hv
        rcases hv with ⟨b, h1, h3, h4⟩ | ⟨f, h1, h5, h6⟩
        · have hval : a.tmps[t]? = some (.bool b) := by
            obtain ⟨e, _, hg⟩ := hs
            have := hg.slot t
            rw [h1] at this
            have hv := (VRep_lit this).1
            have hlt : t < (bareA a).tmps.size := by rw [hg.N]; exact h2
            have hlt' : t < a.tmps.size := hlt
            rw [Array.getElem?_eq_getElem hlt']
            simpa [hlt', bareA] using hv
          have hy : yielded ops a.tmps j = some b := by
            unfold yielded; rw [hj]; simp [hval]
          have hw : Region.wanted op (yielded ops a.tmps) = (b == want) := by
            unfold Region.wanted; rw [hgd]; simp only [hy]; cases b <;> cases want <;> rfl
          rw [hw]
          by_cases hb : b = want
          · subst hb
            simp only [beq_self_eq_true, if_true]
            exact step _ (hs.know (x := .tmp t) h1) (h3 rfl)
          · have hb' : b = !want := by cases b <;> cases want <;> simp_all
            rw [if_neg (by simpa using hb)]
            obtain ⟨h5, h6⟩ := h4 hb'
            obtain ⟨e, he, hg⟩ := hs.know (x := .tmp t) (t := !want) (by rw [← hb']; exact h1)
            refine ⟨fun _ _ => trivial, ih _ _ _ hfl' ⟨e, he, ?_⟩ (hsm.put hdst undef) h6⟩
            rw [bare_put]
            exact hg.put (by simpa [St.dstOk, St.know] using h5) (VRep_und e)
        · have hval : a.tmps[t]? = some (.tuple #[]) := by
            obtain ⟨e, _, hg⟩ := hs
            have := hg.slot t
            rw [h1] at this
            obtain ⟨vs, hv, hn, _⟩ := this
            obtain rfl : vs = #[] := by simpa using hn
            have hlt : t < (bareA a).tmps.size := by rw [hg.N]; exact h2
            have hlt' : t < a.tmps.size := hlt
            rw [Array.getElem?_eq_getElem hlt']
            simpa [hlt', bareA] using hv
          have hy : yielded ops a.tmps j = none := by
            unfold yielded; rw [hj]; simp [hval]
          have hw : Region.wanted op (yielded ops a.tmps) = false := by
            unfold Region.wanted; rw [hgd]; simp only [hy]; cases want <;> rfl
          rw [hw, if_neg (by simp)]
          obtain ⟨e, he, hg⟩ := hs
          refine ⟨fun _ _ => trivial, ih _ _ _ hfl' ⟨e, he, ?_⟩ (hsm.put hdst undef) h6⟩
          rw [bare_put]
          exact hg.put h5 (VRep_und e)
theorem vcL_fo {W : Nat → Prop} (hW : ∀ b, W b → w0.heap.size ≤ b ∨ M.m b) {o : Option Nat} {n : Nat} {L : List Nat} {a0 : Act} (ops : Array Oper) {Q : Exit → St → Prop} {K : St → Prop} (hK : ∀ st, K st → Q .normal st)
    (l : List Oper) (st : St) (a : Act) (w : World) (h1 : opsFlat L l = true) (h2 : SR w0 M st (bareA a) w) (h3 : SameT L a0 a) (h4 : vcL P W ops K l st) : wpListIn (Fo o) n P ops (LiftS w0 M L a0 Q) l a w := by
  have := vcL_fo' hW (o := o) (n := n) (a0 := a0) ops (QQ := LiftS w0 M L a0 Q) [] (fun st a w hk hs hsm => ⟨st, hK st hk, hs, hsm⟩) l st a w h1 h2 h3 h4
  rwa [List.append_nil] at this
theorem flat_sound {o : Option Nat} {n : Nat} {L : List Nat} {a0 : Act} : ∀ {c : Code} {Q : Exit → St → Prop} {st : St} {a : Act} {w : World}, codeFlat L c = true → ivc P w0 M c Q st → SR w0 M st (bareA a) w → SameT L a0 a →
    c.wpIn (Fo o) n P (LiftS w0 M L a0 Q) a w := by
  intro c
  induction c with
  | skip => intro Q st a w _ h hs hsm; exact wpIn_skip ⟨st, h, hs, hsm⟩
  | region id ops draw =>
    intro Q st a w hfl h hs hsm
    cases draw with
    | true => cases hfl
    | false => exact wpIn_region_list (vcL_fo (W := wr w0 M) (fun _ h => h) ops (fun _ h => h) ops.toList st a w hfl hs hsm h)
  | seq x y iha ihb =>
    intro Q st a w hfl h hs hsm
    simp only [codeFlat, Bool.and_eq_true] at hfl
    refine wpIn_seq (Go.wpIn_mono (iha hfl.1 h hs hsm) fun e a' w' hq => ?_)
    obtain ⟨st', hq, hs', hsm'⟩ := hq
    cases e with
    | normal => exact ihb hfl.2 hq hs' hsm'
    | _ => exact ⟨st', hq, hs', hsm'⟩
  | cond c x y ihx ihy =>
    intro Q st a w hfl h hs hsm
    simp only [codeFlat, Bool.and_eq_true] at hfl
    obtain ⟨t, h1, h2, h3⟩ := h
    have hk := hs.know h1
    obtain ⟨e, rfl, hg⟩ := hs
    have hv := hg.ev c
    rw [h1] at hv
    have hc : a.eval c = .bool t := (VRep_lit hv).1
    refine wpIn_cond hc ?_
    cases t with
    | true => exact ihx hfl.1 (h2 rfl) hk hsm
    | false => exact ihy hfl.2 (h3 rfl) hk hsm
  | block id c ih =>
    intro Q st a w hfl h hs hsm
    refine wpIn_block (Go.wpIn_mono (ih (Q := qblock id Q) hfl h hs hsm) fun e a' w' hq => ?_)
    obtain ⟨st', hq, hs', hsm'⟩ := hq
    cases e with
    | exit j =>
      simp only [Exit.inBlock, qblock] at hq ⊢
      split at hq
      · rename_i hj; rw [if_pos hj]; exact ⟨st', hq, hs', hsm'⟩
      · rename_i hj; rw [if_neg hj]; exact ⟨st', hq, hs', hsm'⟩
    | _ => exact ⟨st', hq, hs', hsm'⟩
  | exit id => intro Q st a w hfl h hs hsm; exact wpIn_exit ⟨st, h, hs, hsm⟩
  | ret => intro Q st a w hfl h hs hsm; exact wpIn_ret ⟨st, h, hs, hsm⟩
  | _ => intro Q st a w hfl; cases hfl
def frameOf (st : St) (e : Env) : Fr := ⟨fun b => ∃ l g d, st.R l = some (g, b, d), e.P⟩
theorem Good.rebase {st : St} {e : Env} {a : Act} (h : Good w0 M st e a) : Good e.w (frameOf st e) st e a :=
  ⟨h.R, h.N, h.df, h.slot, h.root, fun l g b d hl => .inr ⟨l, g, d, hl⟩, h.inj, h.P, Keep.refl _ _, h.n, fun b hb => .inr (.inl hb)⟩
theorem Good.back {st st' : St} {e : Env} {a a' : Act} {w' : World} (h : Good w0 M st e a) (h' : SR e.w (frameOf st e) st' a' w') : SR w0 M st' a' w' := by
  obtain ⟨e', rfl, g⟩ := h'
  have hm : ∀ b, (frameOf st e).m b → w0.heap.size ≤ b ∨ M.m b := fun b ⟨l, g', d, hl⟩ => h.own l g' b d hl
  refine ⟨e', rfl, g.R, g.N, g.df, g.slot, g.root, fun l g' b d hl => ?_, g.inj, g.P, h.keep.trans' g.keep hm, g.n, fun b hb => ?_⟩
  · rcases g.own l g' b d hl with h1 | h1
    · exact .inl (Nat.le_trans h.keep.size h1)
    · exact hm b h1
  · rcases g.per b hb with h1 | h1 | h1
    · exact .inl (Nat.le_trans h.keep.size h1)
    · exact h.per b h1
    · rcases hm b h1 with h2 | h2
      · exact .inl h2
      · exact .inr (.inr h2)
def D.np : D → Prop
  | .opq _ _ _ => False
  | .sl _ _ n _ f => ∀ i, i < n → (f i).np
  | .node k f => ∀ i, i < k.cnt → (f i).np
  | .tup n f => ∀ i, i < n → (f i).np
  | .fn _ n c => ∀ i, i < n → (c i).np
  | .cptr d => d.np
  | _ => True
structure Cells (e e' : Env) : Prop where
  R : e'.R = e.R
  G : e'.G = e.G
  P : ∀ b, e.P b → (∃ C T z, e.w.heap[b]? = some (.cells C T z)) → e'.P b
  at_ : ∀ (b : Nat) (C : Array Value) (T : TypeId) (z : Nat × Nat), e.w.heap[b]? = some (Obj.cells C T z) → e'.w.heap[b]? = some (Obj.cells C T z)
theorem rep_cells {e e' : Env} (hc : Cells e e') {d : D} : ∀ {cs : List Value}, d.np → Rep e d cs → Rep e' d cs := by
  induction d with
  | lit v => intro cs _ h; exact h
  | nil => intro cs _ h; exact h
  | sl t zb n sz f ih =>
    intro cs hp h
    obtain ⟨o, c, ps, h1, h2, h3, h4, h5, h6⟩ := h
    obtain ⟨C, T, z, q1, q2⟩ := h5
    refine ⟨o, c, ps, h1, h2, hc.P _ h3 ⟨C, T, z, q1⟩, fun i hi => ⟨(h4 i hi).1, ih i (hp i hi) (h4 i hi).2⟩, ⟨C, T, z, hc.at_ _ _ _ _ q1, q2⟩, fun hz => ?_⟩
    obtain ⟨r1, C', T', r2, r3⟩ := h6 hz
    exact ⟨r1, C', T', hc.at_ _ _ _ _ r2, r3⟩
  | opq v S φ => intro cs hp; exact hp.elim
  | node k f ih =>
    intro cs hp h
    obtain ⟨ps, h1, h2⟩ := h
    exact ⟨ps, fun i hi => ⟨(h1 i hi).1, ih i (hp i hi) (h1 i hi).2⟩, h2⟩
  | ptr l g o p =>
    intro cs _ h
    obtain ⟨hg, a, h1, h2⟩ := h
    exact ⟨by rw [hc.G]; exact hg, a, h1, fun b d hd => h2 b d (by rw [← hc.R]; exact hd)⟩
  | cptr d ih =>
    intro cs hp h
    obtain ⟨b, o, ds, h1, h2, h3, h4⟩ := h
    obtain ⟨C, T, z, q1, q2⟩ := h4
    exact ⟨b, o, ds, h1, hc.P _ h2 ⟨C, T, z, q1⟩, ih hp h3, C, T, z, hc.at_ _ _ _ _ q1, q2⟩
  | msl l g o p i n sz =>
    intro cs _ h
    obtain ⟨hg, a, c, h1, h2, h3⟩ := h
    refine ⟨by rw [hc.G]; exact hg, a, c, h1, h2, fun b d hd => ?_⟩
    obtain ⟨q1, C, T, z, q2, q3⟩ := h3 b d (by rw [← hc.R]; exact hd)
    exact ⟨q1, C, T, z, hc.at_ _ _ _ _ q2, q3⟩
  | fn f n c ih =>
    intro cs hp h
    obtain ⟨vs, h1, h2, h3⟩ := h
    exact ⟨vs, h1, h2, fun i hi => ⟨(h3 i hi).1, ih i (hp i hi) (h3 i hi).2⟩⟩
  | tup n f => intro cs _ h; exact h.elim
  | any => intro cs _ h; exact h
theorem vrep_cells {e e' : Env} (hc : Cells e e') {d : D} : ∀ {v : Value}, d.np → VRep e d v → VRep e' d v := by
  induction d with
  | node k f => intro v hp h; obtain ⟨cs, h1, h2⟩ := h; exact ⟨cs, h1, rep_cells hc hp h2⟩
  | tup n f ih => intro v hp h; obtain ⟨vs, h1, h2, h3⟩ := h; exact ⟨vs, h1, h2, fun i hi => ih i (hp i hi) (h3 i hi)⟩
  | any => intro v _ h; trivial
  | lit u => intro v hp h; exact rep_cells (d := .lit u) hc hp h
  | nil => intro v hp h; exact rep_cells (d := .nil) hc hp h
  | sl t zb n sz f => intro v hp h; exact rep_cells (d := .sl t zb n sz f) hc hp h
  | opq u S φ => intro v hp h; exact hp.elim
  | ptr l g o p => intro v hp h; exact rep_cells (d := .ptr l g o p) hc hp h
  | cptr d => intro v hp h; exact rep_cells (d := .cptr d) hc hp h
  | msl l g o p i n sz => intro v hp h; exact rep_cells (d := .msl l g o p i n sz) hc hp h
  | fn f n c => intro v hp h; exact rep_cells (d := .fn f n c) hc hp h
def St.np (st : St) : Prop := (∀ t, (st.s t).np) ∧ ∀ l g b d, st.R l = some (g, b, d) → d.np
theorem SR.grown {st : St} {a : Act} {w w' : World} {row : Option Nat} (hs : SR w0 M st a w) (hnp : st.np) (hg : w.grownBy w' row) (hr : ∀ r, row = some r → w0.heap.size ≤ r ∧ ∃ o : Obj, w.heap[r]? = some o ∧ o.isCells = false) : SR w0 M st a w' := by
  obtain ⟨e, rfl, h⟩ := hs
  have hat : ∀ (b : Nat) (C : Array Value) (T : TypeId) (z : Nat × Nat), e.w.heap[b]? = some (Obj.cells C T z) → w'.heap[b]? = some (Obj.cells C T z) := fun b C T z hb => by
    rw [hg.block b (lt_of_block hb) ?_]; exact hb
    intro e1
    obtain ⟨_, o, ho, hc⟩ := hr b e1.symm
    rw [hb] at ho; cases ho; cases hc
  have hc : Cells e ⟨e.R, e.G, fun b => e.P b ∧ ∃ C T z, e.w.heap[b]? = some (.cells C T z), w'⟩ := ⟨rfl, rfl, fun b h1 h2 => ⟨h1, h2⟩, hat⟩
  refine ⟨⟨e.R, e.G, fun b => e.P b ∧ ∃ C T z, e.w.heap[b]? = some (.cells C T z), w'⟩, rfl, h.R, h.N, h.df, fun t => vrep_cells hc (hnp.1 t) (h.slot t), fun l g b d hl => ⟨(h.root l g b d hl).1, ?_⟩, h.own, h.inj, fun b hb => Nat.lt_of_lt_of_le (h.P b hb.1) hg.size, ?_, Nat.le_trans h.n hg.size, fun b hb => h.per b hb.1⟩
  · obtain ⟨q1, q2, C, T, cs, q3, q4, q5⟩ := (h.root l g b d hl).2
    exact ⟨fun hb => q1 hb.1, q2, C, T, cs, hat _ _ _ _ q3, rep_cells hc (hnp.2 _ _ _ _ hl) q4, q5⟩
  · refine ⟨hg.os.trans h.keep.os, hg.tape.trans h.keep.tape, hg.output.trans h.keep.output, Nat.le_trans h.keep.size hg.size, fun k hk hm => ?_, fun k C T z hk => ?_⟩
    · rw [hg.block k (Nat.lt_of_lt_of_le hk h.keep.size) ?_]; exact h.keep.block k hk hm
      intro e1
      have := (hr k e1.symm).1; omega
    · obtain ⟨C', h1, h2⟩ := h.keep.cell k C T z hk
      exact ⟨C', hat _ _ _ _ h1, h2⟩
end
end Go.Proofs.YtncinhlaabdlaaaGreat.IM
end
section
namespace Go.Proofs.YtncinhlaabdlaaaGreat.IM
open Go Go.Proofs Go.RowKit
set_option linter.unusedVariables false
set_option linter.unusedSimpArgs false
set_option maxHeartbeats 2000000
set_option maxRecDepth 20000
theorem xcall_bw {P : Program} {W : Nat → Prop} {f : Nat} {cs : Nat → D} {xs : List Operand} {dst : Option Tmp} {ev : Operand → D} {R : Roots} {n : Nat} {k : Roots → Nat → D → Prop} {st : St} {K : St → Prop}
    {d0 d : D} {rest0 rest : List D} {Q : Nat → Nat → D → D → Prop} {l g b o : Nat} {q : List Nat} {T T2 : Nat → Prop} (h : BCall P f d0 d rest Q o q T T2) (hargs : xs.map st.ev = .ptr l g o q :: rest0) (hview : rest0.map (rl 9 (labBV st.R l g)) = rest) (hR : st.R l = some (g, b, d)) (hst : d.still) (hsub : ∀ b ∈ d0.tl, b ∈ d.tl) (hW : ∀ b ∈ d0.tl, W b)
    (hT : ∀ t, T t → t ∈ d.tl ∨ ∃ x ∈ rest0, t ∈ x.tl) (hT2 : ∀ t, T2 t → t ∈ d.tl ∨ ∃ x ∈ rest0, t ∈ x.tl) (K0 : List Nat) (R1 : Roots) (hn : R1 l = none)
    (hk : ∀ n0 n1 d' r, st.n ≤ n0 → n0 ≤ n1 → (∀ t ∈ d.tl, t < n0) → Q n0 n1 d' r → d'.tags (fun b => T2 b ∨ n0 ≤ b) → carL d0 .any st.s K0 ∧ CarR d0 .any st.R R1 ∧
      Conv W K (({ N := st.N, n := n1, s := pickS st.s K0 (fun _ => .any), R := upd R1 l (some (g, b, d')) } : St).put dst r)) : XCallT P f 0 cs xs dst ev R n k (MEffT P W f 0 cs xs dst st K) :=
  .inr (.inl (.inr (.inr ⟨d0, d, rest0, rest, Q, l, g, b, _, _, _, _, rfl, hargs, hview, hR, hst, hsub, hW, h, hT, hT2, fun n0 n1 d' r hn0 hn1 ht hq htd => by
    obtain ⟨h1, h2, h3⟩ := hk n0 n1 d' r hn0 hn1 ht hq htd
    exact ⟨_, _, carry_pick h1 carry_any, hn, h2, h3⟩⟩)))
end Go.Proofs.YtncinhlaabdlaaaGreat.IM
end
