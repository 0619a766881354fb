/- Code worked out as far as it goes straight. Nothing of a program is in it. -/
import Derived.Test.YtjaddgkhlmallaaIm13
namespace Go.Proofs.Ytjaddgkhlmallaa.IM
open Go Go.RowKit
set_option linter.unusedVariables false

def ivc (P : Program) (w0 : World) (M : Fr) : Code → (Exit → St → Prop) → St → Prop
  | .skip, Q, st => Q .normal st
  | .region _ ops false, Q, st => vcL P (wr w0 M) ops (Q .normal) ops.toList st
  | .seq a b, Q, st => ivc P w0 M a (qthen (ivc P w0 M b Q) Q) st
  | .cond c x y, Q, st => ∃ t, st.ev c = .lit (.bool t) ∧ (t = true → ivc P w0 M x Q (st.know c true)) ∧ (t = false → ivc P w0 M y Q (st.know c false))
  | .block id c, Q, st => ivc P w0 M c (qblock id Q) st
  | .exit id, Q, st => Q (.exit id) st
  | .ret, Q, st => Q .ret st
  | c, Q, st => IWp P w0 M c Q st

theorem ivc_sound {P : Program} {w0 : World} {M : Fr} : ∀ {c : Code} {Q : Exit → St → Prop} {st : St}, ivc P w0 M c Q st → IWp P w0 M c Q st := by
  intro c
  induction c with
  | skip => intro Q st h; exact iwp_skip h
  | region id ops draw =>
    intro Q st h
    cases draw with
    | true => exact h
    | false => exact fun a w hs => wp_region_list (vcL_sound (W := wr w0 M) (fun _ h => h) ops (fun _ h => h) ops.toList st a w hs h)
  | seq a b iha ihb =>
    intro Q st h
    refine iwp_seq (iwp_mono (iha h) fun x st hq => ?_)
    cases x with
    | normal => exact ihb hq
    | _ => exact hq
  | cond c x y ihx ihy =>
    intro Q st h
    obtain ⟨t, h1, h2, h3⟩ := h
    exact iwp_cond h1 (fun ht => ihx (h2 ht)) (fun ht => ihy (h3 ht))
  | block id c ih => intro Q st h; exact iwp_block (ih h)
  | loop c ih => intro Q st h; exact h
  | exit id => intro Q st h; exact iwp_exit h
  | ret => intro Q st h; exact iwp_ret h
  | _ => intro Q st h; exact h

section
variable (P : Program) (w0 : World) (M : Fr) (K : St → Prop) (Q : Exit → St → Prop) (st : St)
def ivcT (P : Program) (w0 : World) (M : Fr) (c : Code) (Q : Exit → St → Prop) (st : St) (_ : Tok c := .mk) (_ : Tok Q := .mk) : Prop := ivc P w0 M c Q st
def IWpT (P : Program) (w0 : World) (M : Fr) (c : Code) (Q : Exit → St → Prop) (st : St) (_ : Tok c := .mk) (_ : Tok Q := .mk) : Prop := IWp P w0 M c Q st
def qthenT (K : St → Prop) (Q : Exit → St → Prop) (x : Exit) (st : St) (_ : Tok K := .mk) (_ : Tok Q := .mk) : Prop := qthen K Q x st
def qblockT (id : Nat) (Q : Exit → St → Prop) (x : Exit) (st : St) (_ : Tok Q := .mk) : Prop := qblock id Q x st
@[go_sem] theorem ivc_T (c : Code) : ivc P w0 M c Q st = ivcT P w0 M c Q st := (rfl)
@[go_sem] theorem qthen_T (x : Exit) : qthen K Q x st = qthenT K Q x st := (rfl)
@[go_sem] theorem qblock_T (id : Nat) (x : Exit) : qblock id Q x st = qblockT id Q x st := (rfl)
@[go_sem] theorem ivc_skip : ivcT P w0 M .skip Q st = Q .normal st := (rfl)
@[go_sem] theorem ivc_region (id : Nat) (ops : List Oper) : ivcT P w0 M (.region id ops.toArray false) Q st = wSome (some (gsT ops)) fun gs => vcLT P (wr w0 M) gs (fun st => Q .normal st) ops st := by
  have h : ivcT P w0 M (.region id ops.toArray false) Q st = vcL P (wr w0 M) ops.toArray (Q .normal) ops st := rfl
  rw [h, vcL_gs]
  rfl
@[go_sem] theorem ivc_draw (id : Nat) (ops : List Oper) : ivcT P w0 M (.region id ops.toArray true) Q st = IWpT P w0 M (.region id ops.toArray true) Q st := (rfl)
@[go_sem] theorem ivc_seq (a b : Code) : ivcT P w0 M (.seq a b) Q st = ivcT P w0 M a (fun x st => qthenT (fun st => ivcT P w0 M b Q st) Q x st) st := (rfl)
@[go_sem] theorem ivc_cond (c : Operand) (x y : Code) : ivcT P w0 M (.cond c x y) Q st = wBool (st.ev c) fun t => wGd t true (ivcT P w0 M x Q (st.know c true)) (ivcT P w0 M y Q (st.know c false)) := by rw [← wBool_eq]; rfl
@[go_sem] theorem ivc_block (id : Nat) (c : Code) : ivcT P w0 M (.block id c) Q st = ivcT P w0 M c (fun x st => qblockT id Q x st) st := (rfl)
@[go_sem] theorem ivc_exit (id : Nat) : ivcT P w0 M (.exit id) Q st = Q (.exit id) st := (rfl)
@[go_sem] theorem ivc_ret : ivcT P w0 M .ret Q st = Q .ret st := (rfl)
@[go_sem] theorem ivc_loop (c : Code) : ivcT P w0 M (.loop c) Q st = IWpT P w0 M (.loop c) Q st := (rfl)
@[go_sem] theorem qthen_normal : qthenT K Q .normal st = K st := (rfl)
@[go_sem] theorem qthen_exit (id : Nat) : qthenT K Q (.exit id) st = Q (.exit id) st := (rfl)
@[go_sem] theorem qthen_ret : qthenT K Q .ret st = Q .ret st := (rfl)
@[go_sem] theorem qblock_normal (id : Nat) : qblockT id Q .normal st = Q .normal st := (rfl)
@[go_sem] theorem qblock_same (id : Nat) : qblockT id Q (.exit id) st = Q .normal st := by simp [qblockT, qblock]
@[go_sem] theorem qblock_other (id j : Nat) (h : j ≠ id) : qblockT id Q (.exit j) st = Q (.exit j) st := by simp [qblockT, qblock, h]
@[go_sem] theorem qblock_ret (id : Nat) : qblockT id Q .ret st = Q .ret st := (rfl)
variable (rs : List ResultVar) (n0 : Nat) (E : Nat → Nat → D → Prop)
@[go_sem] theorem pend_ret : pend P rs n0 E .ret st = ((∀ r ∈ rs, retOk P st r) ∧ ∀ n1, st.n ≤ n1 → Facts st n1 → E n0 n1 (rl 9 (labView st.R) (retV st rs))) := (rfl)
@[go_sem] theorem pend_normal : pend P rs n0 E .normal st = ((∀ r ∈ rs, retOk P st r) ∧ ∀ n1, st.n ≤ n1 → Facts st n1 → E n0 n1 (rl 9 (labView st.R) (retV st rs))) := (rfl)
@[go_sem] theorem retV_one (r : ResultVar) : retV st [r] = retD st r := rfl
@[go_sem] theorem retD_tmp (N n : Nat) (s : Nat → D) (R : Roots) (t : Nat) : retD (St.mk N n s R) (.tmp t) = s t := rfl
@[go_sem] theorem retOk_tmp (t : Nat) : retOk P st (.tmp t) = True := rfl
attribute [go_sem] List.mem_cons List.not_mem_nil or_false forall_eq implies_true
@[go_sem] theorem tags_lit (v : Value) (p : Nat → Prop) : (D.lit v).tags p = True := rfl
@[go_sem] theorem tags_nil (p : Nat → Prop) : D.nil.tags p = True := rfl
@[go_sem] theorem St_start_eq (N n : Nat) (args : List D) (R : Roots) : St.start N n args R = St.mk N n (nthD args) R := by
  unfold St.start; congr; funext t
  induction args generalizing t with
  | nil => simp [nthD]
  | cons d l ih => cases t with
    | zero => rfl
    | succ t => simpa [nthD] using ih t
end
end Go.Proofs.Ytjaddgkhlmallaa.IM
