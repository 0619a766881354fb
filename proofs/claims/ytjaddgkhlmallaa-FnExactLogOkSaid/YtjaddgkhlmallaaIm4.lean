/- The operations that change no memory, over abstract states: each law says what an operation of the model does to a state that stands for the model's. Nothing of a program is in it. -/
import Derived.Test.YtjaddgkhlmallaaIm3
namespace Go.Proofs.Ytjaddgkhlmallaa.IM
open Go Go.RowKit
set_option linter.unusedVariables false

def TyOk (P : Program) (T : TypeId) (d : D) : Prop := tsz P T = some d.size ∧ tagg P T = d.isNode ∧ d.isNode.isSome = true

theorem TyOk.loaded {P : Program} {T : TypeId} {d : D} (h : TyOk P T d) : ∃ ag, tagg P T = some ag ∧ Loaded ag d := by
  obtain ⟨_, h2, h3⟩ := h
  cases d <;> simp [D.isNode] at h3 <;> exact ⟨_, h2, rfl⟩
theorem TyOk.plain {P : Program} {T : TypeId} {d : D} (h : TyOk P T d) : d.plain := by
  obtain ⟨_, h2, h3⟩ := h
  cases d <;> simp [D.isNode] at h3 <;> trivial

def St.rd (st : St) (l g : Nat) : D :=
  match st.R l with
  | some (g', _, d) => if g' = g then d else .any
  | none => .any
def St.blk (st : St) (l : Nat) : Nat :=
  match st.R l with
  | some (_, b, _) => b
  | none => 0

theorem rd_spec {st : St} {l g : Nat} {p : List Nat} (h : ((st.rd l g).get p).plain) : st.R l = some (g, st.blk l, st.rd l g) := by
  have hany : ∀ p, D.get .any p = .any := by
    intro p; induction p with
    | nil => rfl
    | cons i p ih => exact ih
  unfold St.rd St.blk at *
  cases hR : st.R l with
  | none => rw [hR] at h; simp only [hany] at h; exact h.elim
  | some x =>
    obtain ⟨g', b, d⟩ := x
    rw [hR] at h
    by_cases hg : g' = g
    · subst hg; simp
    · simp only [if_neg hg, hany] at h; exact h.elim

def isBoolT (P : Program) (T : TypeId) : Bool := match P.underlying T with | some .bool => true | _ => false
theorem isBoolT_spec {P : Program} {T : TypeId} (h : isBoolT P T = true) : P.underlying T = some .bool := by
  unfold isBoolT at h
  cases hP : P.underlying T with
  | none => rw [hP] at h; cases h
  | some d => rw [hP] at h; cases d <;> first | rfl | cases h

/-- what two leaves come to -/
def bin (P : Program) (T : TypeId) (op : BinOp) : Value → Value → Option Value
  | .int k a, .int k' b =>
    match op with
    | .shl => if b < 0 then none else some (.int k (k.wrap (a * 2 ^ min b.toNat k.bits)))
    | .shr => if b < 0 then none else some (.int k (a / 2 ^ min b.toNat k.bits))
    | _ => if k = k' then
        match op with
        | .add => some (.int k (k.wrap (a + b)))
        | .sub => some (.int k (k.wrap (a - b)))
        | .mul => some (.int k (k.wrap (a * b)))
        | .quo => if b = 0 then none else some (.int k (k.wrap (a.tdiv b)))
        | .rem => if b = 0 then none else some (.int k (a.tmod b))
        | .and => some (.int k (bits .and k a b))
        | .or => some (.int k (bits .or k a b))
        | .xor => some (.int k (bits .xor k a b))
        | .eql => some (.bool (a == b))
        | .neq => some (.bool (a != b))
        | .lss => some (.bool (decide (a < b)))
        | .leq => some (.bool (decide (a ≤ b)))
        | .gtr => some (.bool (decide (b < a)))
        | .geq => some (.bool (decide (b ≤ a)))
        | _ => none
      else none
  | .bool a, .bool b =>
    match op with
    | .eql => if isBoolT P T = true then some (.bool (a == b)) else none
    | .neq => if isBoolT P T = true then some (.bool (a != b)) else none
    | _ => none
  | .string a, .string b =>
    match op with
    | .eql => some (.bool (a.toList == b.toList))
    | .neq => some (.bool (!(a.toList == b.toList)))
    | _ => none
  | _, _ => none

theorem run_equalIn_bool {P : Program} {T : TypeId} {w : World} (n : Nat) (hu : P.underlying T = some .bool) (a b : Bool) : (Op.equalIn (n + 1) T (.bool a) (.bool b)).run P w = .ok (a == b) w := by
  unfold Op.equalIn
  rw [Sem.run_bind, run_underlying hu, Result.andThen_ok]
  rfl
theorem run_equal_bool {P : Program} {T : TypeId} {w : World} (hu : P.underlying T = some .bool) (a b : Bool) : (Op.equal T (.bool a) (.bool b)).run P w = .ok (a == b) w :=
  run_equalIn_bool 9999 hu a b

theorem bin_sound {P : Program} {T : TypeId} {op : BinOp} {u v r : Value} (h : bin P T op u v = some r) (x y : Operand) (w : World) :
    Leaf r ∧ (do eqGuard op T x y u v; binOp op T u v : Sem Value).run P w = .ok r w := by
  cases u <;> cases v <;> simp only [bin, reduceCtorEq] at h
  case bool.bool a b =>
    cases op <;> simp only [reduceCtorEq] at h
    all_goals
      by_cases hb : isBoolT P T = true
      · rw [if_pos hb] at h
        simp only [Option.some.injEq] at h; subst h
        refine ⟨trivial, ?_⟩
        simp only [eqGuard, binOp]
        rw [Sem.run_bind]
        show (Result.ok () w).andThen _ = _
        rw [Result.andThen_ok, Sem.run_bind, run_equal_bool (isBoolT_spec hb), Result.andThen_ok]
        rfl
      · rw [if_neg hb] at h; cases h
  case int.int k a k' b =>
    cases op <;> simp only [] at h
    case shl => 
      split at h
      · cases h
      · rename_i hb
        simp only [Option.some.injEq] at h; subst h
        refine ⟨trivial, ?_⟩
        simp only [eqGuard, binOp, Op.shift, if_neg hb]
        rfl
    case shr =>
      split at h
      · cases h
      · rename_i hb
        simp only [Option.some.injEq] at h; subst h
        refine ⟨trivial, ?_⟩
        simp only [eqGuard, binOp, Op.shift, if_neg hb]
        have hpos : (0 : Int) ≤ 2 ^ (min b.toNat k.bits) := Int.le_of_lt (Int.pow_pos (by decide))
        rw [← Int.fdiv_eq_ediv_of_nonneg a hpos]
        rfl
    all_goals (
      split at h
      · subst k'
        try (split at h)
        all_goals first
          | (cases h; done)
          | (simp only [Option.some.injEq] at h; subst h
             refine ⟨trivial, ?_⟩
             simp_all [eqGuard, binOp, Op.intArith, Op.intDiv, Op.intBits, Op.intCmp, bits]
             try rfl)
      · cases h)
  case string.string a b =>
    cases op <;> simp only [Option.some.injEq, reduceCtorEq] at h <;> subst h <;> refine ⟨trivial, ?_⟩ <;> simp [eqGuard, binOp, Op.stringOp]

section ops
variable {P : Program} {w0 : World} {M : Fr} {st : St} {e : Env} {a : Act} {K : St → Prop} {Q : Exit → Act → World → Prop}
variable {dst : Option Tmp} {ty : TypeId} {pos : String} {after : Array Edge} {gd : Option (Nat × Bool)}

theorem op_move (h : Good w0 M st e a) (x : Operand) (hd : st.dstOk dst) (hK : K (st.put dst (st.ev x))) :
    (Oper.mk dst (.move x) ty pos after gd).wp P a e.w (Lift w0 M K) Q :=
  wp_value (v := a.eval x) rfl (h.lift hd (h.ev x) hK)
theorem op_assign (h : Good w0 M st e a) (x : Operand) (hd : st.dstOk dst) (hK : K (st.put dst (st.ev x))) :
    (Oper.mk dst (.assign x) ty pos after gd).wp P a e.w (Lift w0 M K) Q :=
  wp_value (v := a.eval x) rfl (h.lift hd (h.ev x) hK)

theorem leaf_int (k : IntKind) (n : Int) : Leaf (.int k n) := trivial
theorem leaf_bool (b : Bool) : Leaf (.bool b) := trivial
theorem VRep_mk {e : Env} {v : Value} (h : Leaf v) : VRep e (.lit v) v := ⟨h, rfl⟩
theorem VRep_lit {e : Env} {u v : Value} (h : VRep e (.lit u) v) : v = u ∧ Leaf u := by
  obtain ⟨h1, h2⟩ := h
  simp at h2; exact ⟨h2, h1⟩

theorem op_pick (h : Good w0 M st e a) (c x y : Operand) {t : Bool} (hc : st.ev c = .lit (.bool t)) (hd : st.dstOk dst) (hK : K (st.put dst (if t then st.ev x else st.ev y))) :
    (Oper.mk dst (.pick c x y) ty pos after gd).wp P a e.w (Lift w0 M K) Q := by
  have hv := h.ev c; rw [hc] at hv
  have hcv := (VRep_lit hv).1
  refine wp_value (v := if t then a.eval x else a.eval y) (w' := e.w) ?_ (h.lift hd ?_ hK)
  · simp only [execOp]; rw [hcv]
    cases t <;> rfl
  · cases t
    · exact h.ev y
    · exact h.ev x

theorem op_not (h : Good w0 M st e a) (T : TypeId) (x : Operand) {t : Bool} (hx : st.ev x = .lit (.bool t)) (hd : st.dstOk dst) (hK : K (st.put dst (.lit (.bool (!t))))) :
    (Oper.mk dst (.unOp .not T x) ty pos after gd).wp P a e.w (Lift w0 M K) Q := by
  have hv := h.ev x; rw [hx] at hv
  have hxv := (VRep_lit hv).1
  refine wp_value (v := .bool (!t)) (w' := e.w) ?_ (h.lift hd (VRep_mk (leaf_bool _)) hK)
  simp only [execOp]; rw [hxv]; rfl

theorem op_neg (h : Good w0 M st e a) (T : TypeId) (x : Operand) {k : IntKind} {n : Int} (hx : st.ev x = .lit (.int k n)) (hd : st.dstOk dst) (hK : K (st.put dst (.lit (.int k (k.wrap (0 - n)))))) :
    (Oper.mk dst (.unOp .neg T x) ty pos after gd).wp P a e.w (Lift w0 M K) Q := by
  have hv := h.ev x; rw [hx] at hv
  have hxv := (VRep_lit hv).1
  refine wp_value (v := .int k (k.wrap (0 - n))) (w' := e.w) ?_ (h.lift hd (VRep_mk (leaf_int _ _)) hK)
  simp only [execOp]; rw [hxv]; rfl

theorem op_bin (h : Good w0 M st e a) (op : BinOp) (T T2 : TypeId) (x y : Operand) {u v r : Value} (hx : st.ev x = .lit u) (hy : st.ev y = .lit v) (hb : bin P T op u v = some r) (hd : st.dstOk dst)
    (hK : K (st.put dst (.lit r))) : (Oper.mk dst (.binOp op T x y T2) ty pos after gd).wp P a e.w (Lift w0 M K) Q := by
  have hv := h.ev x; rw [hx] at hv
  have hw := h.ev y; rw [hy] at hw
  obtain ⟨hl, hr⟩ := bin_sound hb x y e.w
  refine wp_value (v := r) (w' := e.w) ?_ (h.lift hd (VRep_mk hl) hK)
  simp only [execOp]; rw [(VRep_lit hv).1, (VRep_lit hw).1]
  rw [Sem.run_bind, hr]; rfl

theorem op_conv (h : Good w0 M st e a) (S T : TypeId) (x : Operand) {k k' : IntKind} {n : Int} (hx : st.ev x = .lit (.int k' n)) (hS : (P.underlying S).isSome = true) (hT : tint P T = some k) (hd : st.dstOk dst)
    (hK : K (st.put dst (.lit (.int k (k.wrap n))))) : (Oper.mk dst (.convert S T x) ty pos after gd).wp P a e.w (Lift w0 M K) Q := by
  have hv := h.ev x; rw [hx] at hv
  have hxv := (VRep_lit hv).1
  refine wp_value (v := .int k (k.wrap n)) (w' := e.w) ?_ (h.lift hd (VRep_mk (leaf_int _ _)) hK)
  obtain ⟨s, hs⟩ := Option.isSome_iff_exists.1 hS
  have hu : P.underlying T = some (.int k) := by
    unfold tint at hT
    cases hP : P.underlying T with
    | none => rw [hP] at hT; cases hT
    | some d => rw [hP] at hT; cases d <;> simp at hT; subst hT; rfl
  simp only [execOp]; rw [hxv, Sem.run_bind]
  have : (convert S T (.int k' n)).run P e.w = .ok (.int k (k.wrap n)) e.w := by
    unfold convert
    rw [Sem.run_bind, run_underlying hs, Result.andThen_ok, Sem.run_bind, run_underlying hu, Result.andThen_ok]
    rfl
  rw [this]; rfl

theorem op_extract (h : Good w0 M st e a) (x : Operand) {i n : Nat} {f : Nat → D} (hx : st.ev x = .tup n f) (hi : i < n) (hd : st.dstOk dst) (hK : K (st.put dst (f i))) :
    (Oper.mk dst (.extract x i) ty pos after gd).wp P a e.w (Lift w0 M K) Q := by
  have hv := h.ev x; rw [hx] at hv
  obtain ⟨vs, hxv, hn, hf⟩ := hv
  refine wp_value (v := vs.getD i undef) (w' := e.w) ?_ (h.lift hd (hf i hi) hK)
  simp only [execOp]; rw [hxv]
  have : vs[i]? = some (vs.getD i undef) := by
    rw [Array.getElem?_eq_getElem (by omega)]; simp [show i < vs.size by omega]
  simp only [Instr.extract, this]; rfl

/-- what a nilCheck lets by -/
def D.isRef : D → Prop
  | .ptr _ _ _ _ => True
  | .cptr _ => True
  | .fn _ _ _ => True
  | _ => False

theorem op_nilCheck (h : Good w0 M st e a) (x : Operand) (hx : (st.ev x).isRef) (hd : st.dstOk dst) (hK : K (st.put dst (st.ev x))) :
    (Oper.mk dst (.nilCheck x) ty pos after gd).wp P a e.w (Lift w0 M K) Q := by
  have hv := h.ev x
  refine wp_value (v := a.eval x) (w' := e.w) ?_ (h.lift hd hv hK)
  simp only [execOp]
  generalize st.ev x = d at hx hv
  cases d <;> first | exact hx.elim | skip
  · obtain ⟨_, b, hb, _⟩ := hv; simp at hb; rw [hb]; rfl
  · obtain ⟨b, o, ds, hb, _⟩ := hv; simp at hb; rw [hb]; rfl
  · obtain ⟨vs, hb, _⟩ := hv; simp at hb; rw [hb]; rfl

theorem run_tfield {P : Program} {T : TypeId} {f o : Nat} {t : TypeId} (h : tfield P T f = some (o, t)) : ∃ fs x, P.underlying T = some (.struct fs) ∧ fs[f]? = some x ∧ x.offset = o ∧ x.type = t := by
  unfold tfield at h
  cases hP : P.underlying T with
  | none => rw [hP] at h; cases h
  | some d =>
    rw [hP] at h
    cases d <;> simp at h
    rename_i fs
    obtain ⟨x, h1, h2, h3⟩ := h
    exact ⟨fs, x, rfl, h1, h2, h3⟩

theorem run_fieldAt {P : Program} {w : World} {T : TypeId} {f o n : Nat} {t : TypeId} (h : tfield P T f = some (o, t)) (hn : tsz P t = some n) (h0 : n ≠ 0) (ad : Addr) :
    (Instr.fieldAt T (.pointer (some ad)) f).run P w = .ok (.pointer (some (ad.add o))) w := by
  obtain ⟨fs, x, hu, hx, rfl, rfl⟩ := run_tfield h
  unfold Instr.fieldAt
  rw [Sem.run_bind, run_underlying hu, Result.andThen_ok]
  simp only [hx]
  rw [Sem.run_bind]
  show (Result.ok _ w).andThen _ = _
  rw [Result.andThen_ok, Sem.run_bind]
  have : (fieldPlace ad x).run P w = .ok (ad.add x.offset) w := by
    unfold fieldPlace
    rw [Sem.run_bind, run_sizeOf hn, Result.andThen_ok, if_neg h0]; rfl
  rw [this]; rfl

theorem op_fieldAddr_ptr (h : Good w0 M st e a) (T : TypeId) (x : Operand) {f l g o o' n : Nat} {p : List Nat} {t : TypeId} (hx : st.ev x = .ptr l g o p) (hf : tfield P T f = some (o', t)) (hn : tsz P t = some n) (h0 : n ≠ 0)
    (hd : st.dstOk dst) (hK : K (st.put dst (.ptr l g (o + o') (p ++ [f])))) : (Oper.mk dst (.fieldAddr T x f) ty pos after gd).wp P a e.w (Lift w0 M K) Q := by
  have hv := h.ev x; rw [hx] at hv
  obtain ⟨hg, ad, hxv, hq⟩ := hv
  simp at hxv
  refine wp_value (v := .pointer (some (ad.add o'))) (w' := e.w) ?_ (h.lift (d := .ptr l g (o + o') (p ++ [f])) hd ⟨hg, _, rfl, ?_⟩ hK)
  · simp only [execOp]; rw [hxv, Sem.run_bind, run_fieldAt hf hn h0]; rfl
  · intro b d hb
    rw [hq b d hb, addr_add]

end ops

end Go.Proofs.Ytjaddgkhlmallaa.IM
