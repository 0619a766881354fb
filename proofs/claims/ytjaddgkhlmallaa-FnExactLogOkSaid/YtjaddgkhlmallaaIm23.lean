/- The rewriting rules for regions that the tape orders. Nothing of a program is in it. -/
import Derived.Test.YtjaddgkhlmallaaIm22
namespace Go.Proofs.Ytjaddgkhlmallaa.IM
open Go Go.RowKit
set_option linter.unusedVariables false

section
variable {P : Program} {w0 : World} {M : Fr}

def vcPT (P : Program) (ops : Array Oper) (Ls : List Nat) (R0 : Roots) (K : St → Prop) (plan : List (Nat × Bool)) (st : St) (_ : Tok K := .mk) (_ : Tok ops := .mk) (_ : Tok R0 := .mk) : Prop := vcPlan P ops Ls R0 K plan st
def vcET (P : Program) (ops : Array Oper) (Ls : List Nat) (o : Oper) (st : St) (K : St → Prop) (_ : Tok K := .mk) (_ : Tok ops := .mk) (_ : Tok o := .mk) : Prop := vcE P ops Ls o st K
def vcGT (P : Program) (ops : Array Oper) (o : Oper) (st : St) (K : St → Prop) (_ : Tok K := .mk) (_ : Tok ops := .mk) (_ : Tok o := .mk) : Prop := vcG P ops o st K

theorem iwp_plan {id : Nat} {ops : List Oper} {Q : Exit → St → Prop} {st : St} (plan : List (Nat × Bool)) (Ls : List Nat) (hm : P.follows .mixedOrders = true) (hp : planOk ops.toArray plan (Array.replicate ops.toArray.size false) = true) (hl : plan.length ≤ ops.toArray.size)
    (h : vcPT P ops.toArray Ls st.R (fun st => Q .normal st) plan st) : IWpT P w0 M (.region id ops.toArray true) Q st :=
  iwp_draw plan Ls hm hp hl h

variable (ops : Array Oper) (Ls : List Nat) (R0 : Roots) (K : St → Prop) (plan : List (Nat × Bool)) (st : St) (dst : Option Tmp) (ty : TypeId) (pos : String) (after : Array Edge)
attribute [go_sem] false_or true_or or_true and_true true_and
@[go_sem] theorem bin_eqlB (T : TypeId) (a b : Bool) (h : isBoolT P T = true) : bin P T .eql (.bool a) (.bool b) = some (.bool (a == b)) := by simp [bin, h]
@[go_sem] theorem bin_neqB (T : TypeId) (a b : Bool) (h : isBoolT P T = true) : bin P T .neq (.bool a) (.bool b) = some (.bool (a != b)) := by simp [bin, h]
def capD (d : D) : Nat → D := fun i => if i = 0 then d else D.ofV .nilFunc
@[go_sem] theorem eff_makeFunc1 (f : FuncId) (x : Operand) (st : St) (dst : Option Tmp) (R : Roots) (n : Nat) (k : Roots → Nat → D → Prop) : effT P (.makeFunc (.func f) #[] [x].toArray) dst st.ev R n k =
    ((st.ev x).isRef ∧ k R n (.fn f 1 (capD (st.ev x)))) := by
  rw [eff_makeFunc]
  have : (fun i => st.ev ([x].getD i (.const .nilFunc))) = capD (st.ev x) := by
    funext i
    cases i with
    | zero => rfl
    | succ i => rfl
  rw [← this]
  apply propext
  constructor
  · rintro ⟨h1, h2⟩; exact ⟨h1 0 (by simp), h2⟩
  · rintro ⟨h1, h2⟩
    refine ⟨fun i hi => ?_, h2⟩
    obtain rfl : i = 0 := by simpa using hi
    exact h1
@[go_sem] theorem rl_cap (k : Nat) (F : Relab) (f n : Nat) (d : D) : rl (k + 2) F (.fn f n (capD d)) = .fn f n (capD (rl (k + 1) F d)) := by
  rw [rl_fn]
  congr 1
  funext i
  unfold capD
  split
  · rfl
  · exact rl_still (by trivial)
@[go_sem] theorem capD_zero (d : D) : capD d 0 = d := rfl
theorem still_cap {d : D} (h : d.still) (i : Nat) : (capD d i).still := by unfold capD; split <;> trivial
@[go_sem] theorem vcP_nil : vcPT P ops Ls R0 K [] st = K st := rfl
@[go_sem] theorem vcP_early (i : Nat) : vcPT P ops Ls R0 K ((i, true) :: plan) st = wSome (ops[i]?) fun o => vcET P ops Ls o st fun st => vcPT P ops Ls R0 K plan st := by
  simp only [vcPT, vcPlan, vcET]
  cases ops[i]? <;> rfl
@[go_sem] theorem vcP_late (i : Nat) : vcPT P ops Ls R0 K ((i, false) :: plan) st = wSome (ops[i]?) fun o => vcGT P ops o st fun st => (∀ l ∈ Ls, st.R l = R0 l) ∧ vcPT P ops Ls R0 K plan st := by
  simp only [vcPT, vcPlan, vcGT]
  cases ops[i]? <;> rfl
theorem know_eq {st : St} {t : Nat} {b : Bool} (h : st.s t = .lit (.bool b)) : st.know (.tmp t) b = st := by
  cases st with
  | mk N n s R =>
    show St.mk N n (upd s t (.lit (.bool b))) R = _
    congr
    funext k
    unfold upd
    split
    · rename_i hk; subst hk; exact h.symm
    · rfl
theorem tst_know {st : St} {t : Nat} {want : Bool} {A B : St → Prop} : Tst (st.s t) want (A st) (B st) = wTest (st.s t) (fun b => wGd b want (A (st.know (.tmp t) want)) (B (st.know (.tmp t) (!want)))) (B st) := by
  rw [← wTest_eq]
  apply propext
  constructor
  · rintro (⟨b, h1, h2, h3⟩ | h)
    · refine .inl ⟨b, h1, fun hb => ?_, fun hb => ?_⟩
      · rw [know_eq (by rw [h1, hb])]; exact h2 hb
      · rw [know_eq (by rw [h1, hb])]; exact h3 hb
    · exact .inr h
  · rintro (⟨b, h1, h2, h3⟩ | h)
    · refine .inl ⟨b, h1, fun hb => ?_, fun hb => ?_⟩
      · have := h2 hb; rwa [know_eq (by rw [h1, hb])] at this
      · have := h3 hb; rwa [know_eq (by rw [h1, hb])] at this
    · exact .inr h
@[go_sem] theorem vcE_free (op : Op) : vcET P ops Ls ⟨dst, op, ty, pos, after, none⟩ st K = (earlyOp Ls op st.ev ∧ vcOpT P ⟨dst, op, ty, pos, after, none⟩ st K) := (rfl)
@[go_sem] theorem vcE_guard (op : Op) (j : Nat) (want : Bool) : vcET P ops Ls ⟨dst, op, ty, pos, after, some (j, want)⟩ st K =
    wSome ((ops[j]?).bind (·.dst)) fun t => t < st.N ∧ wTest (st.s t) (fun b => wGd b want (earlyOp Ls op (st.know (.tmp t) want).ev ∧ vcOpT P ⟨dst, op, ty, pos, after, some (j, want)⟩ (st.know (.tmp t) want) K) ((st.know (.tmp t) (!want)).dstOk dst ∧ K ((st.know (.tmp t) (!want)).put dst und))) (st.dstOk dst ∧ K (st.put dst und)) := by
  simp only [vcET, vcE, vcOpT]
  cases (ops[j]?).bind (·.dst) with
  | none => rfl
  | some t => simp only [wSome]; rw [tst_know (A := fun st => earlyOp Ls op st.ev ∧ vcOp P ⟨dst, op, ty, pos, after, some (j, want)⟩ st K) (B := fun st => st.dstOk dst ∧ K (st.put dst und))]
@[go_sem] theorem vcG_free (op : Op) : vcGT P ops ⟨dst, op, ty, pos, after, none⟩ st K = vcOpT P ⟨dst, op, ty, pos, after, none⟩ st K := (rfl)
@[go_sem] theorem vcG_guard (op : Op) (j : Nat) (want : Bool) : vcGT P ops ⟨dst, op, ty, pos, after, some (j, want)⟩ st K =
    wSome ((ops[j]?).bind (·.dst)) fun t => t < st.N ∧ wTest (st.s t) (fun b => wGd b want (vcOpT P ⟨dst, op, ty, pos, after, some (j, want)⟩ (st.know (.tmp t) want) K) ((st.know (.tmp t) (!want)).dstOk dst ∧ K ((st.know (.tmp t) (!want)).put dst und))) (st.dstOk dst ∧ K (st.put dst und)) := by
  simp only [vcGT, vcG, vcOpT]
  cases (ops[j]?).bind (·.dst) with
  | none => rfl
  | some t => simp only [wSome]; rw [tst_know (A := fun st => vcOp P ⟨dst, op, ty, pos, after, some (j, want)⟩ st K) (B := fun st => st.dstOk dst ∧ K (st.put dst und))]

variable (ev : Operand → D)
@[go_sem] theorem early_move (x : Operand) : earlyOp Ls (.move x) ev = True := rfl
@[go_sem] theorem early_assign (x : Operand) : earlyOp Ls (.assign x) ev = True := rfl
@[go_sem] theorem early_pick (a b c : Operand) : earlyOp Ls (.pick a b c) ev = True := rfl
@[go_sem] theorem early_un (o : UnOp) (T : TypeId) (x : Operand) : earlyOp Ls (.unOp o T x) ev = True := rfl
@[go_sem] theorem early_bin_tmp (o : BinOp) (T T2 : TypeId) (x : Operand) (t : Tmp) : earlyOp Ls (.binOp o T x (.tmp t) T2) ev = True := by cases o <;> rfl
@[go_sem] theorem early_bin_int (o : BinOp) (T T2 : TypeId) (x : Operand) (kd : IntKind) (i : Int) : earlyOp Ls (.binOp o T x (.const (.int kd i)) T2) ev = True := by cases o <;> rfl
@[go_sem] theorem early_bin_bool (o : BinOp) (T T2 : TypeId) (x : Operand) (b : Bool) : earlyOp Ls (.binOp o T x (.const (.bool b)) T2) ev = True := by cases o <;> rfl
@[go_sem] theorem early_fieldAddr (T : TypeId) (x : Operand) (i : Nat) : earlyOp Ls (.fieldAddr T x i) ev = True := rfl
@[go_sem] theorem early_indexAddr (T : TypeId) (x y : Operand) : earlyOp Ls (.indexAddr T x y) ev = True := rfl
@[go_sem] theorem early_build (T : TypeId) (ps : Array (Nat × Operand)) : earlyOp Ls (.build T ps) ev = True := rfl
@[go_sem] theorem early_nilCheck (x : Operand) : earlyOp Ls (.nilCheck x) ev = True := rfl
@[go_sem] theorem early_index (T : TypeId) (x y : Operand) : earlyOp Ls (.index T x y) ev = True := rfl
def earlyL (Ls : List Nat) : D → Prop
  | .ptr l _ _ _ => l ∈ Ls
  | _ => True
@[go_sem] theorem early_load (T : TypeId) (x : Operand) : earlyOp Ls (.load T x) ev = earlyL Ls (ev x) := rfl
@[go_sem] theorem earlyL_ptr (l g o : Nat) (p : List Nat) : earlyL Ls (.ptr l g o p) = (l ∈ Ls) := rfl
@[go_sem] theorem earlyL_cptr (d : D) : earlyL Ls (.cptr d) = True := rfl
@[go_sem] theorem early_builtin (b : Builtin) (xs : Array Operand) (ts : Array TypeId) : earlyOp Ls (.call { callee := .builtin b, args := xs, argTypes := ts }) ev = earlyB b := rfl
@[go_sem] theorem earlyB_len : earlyB .len = True := rfl
@[go_sem] theorem earlyB_max : earlyB .max = True := rfl
@[go_sem] theorem earlyB_min : earlyB .min = True := rfl
@[go_sem] theorem early_slice (T : TypeId) (x : Operand) (lo hi mx : Option Operand) : earlyOp Ls (.slice T x lo hi mx) ev = earlyS Ls (ev x) (lo.map ev) (mx.map ev) := rfl
@[go_sem] theorem earlyS_ptr (l g o : Nat) (p : List Nat) (lo mx : Option D) : earlyS Ls (.ptr l g o p) lo mx = (l ∈ Ls) := rfl
@[go_sem] theorem earlyS_sl (t : Nat) (zb : Bool) (n sz : Nat) (f : Nat → D) (lo mx : Option D) : earlyS Ls (.sl t zb n sz f) lo mx = True := rfl
end
end Go.Proofs.Ytjaddgkhlmallaa.IM
