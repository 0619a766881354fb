/- The rewriting rules by which an abstract run is worked out. Nothing of a program is in it. -/
import Derived.Test.YtjaddgkhlmallaaIm12
namespace Go.Proofs.Ytjaddgkhlmallaa.IM
open Go Go.RowKit
set_option linter.unusedVariables false

section
variable (P : Program) (K : St → Prop) (N n : Nat) (s : Nat → D) (R : Roots) (st : St) (ops : Array Oper) (rest : List Oper)
variable (dst : Option Tmp) (ty : TypeId) (pos : String) (after : Array Edge) (gd : Option (Nat × Bool))

@[go_sem] theorem nthD_zero (d : D) (l : List D) : nthD (d :: l) 0 = d := rfl
@[go_sem] theorem nthD_succ (d : D) (l : List D) (i : Nat) : nthD (d :: l) (i + 1) = nthD l i := rfl
@[go_sem] theorem upd_at {α : Type} (f : Nat → α) (t : Nat) (x : α) : upd f t x t = x := upd_same f t x
@[go_sem] theorem upd_other {α : Type} (f : Nat → α) (t k : Nat) (x : α) (h : k ≠ t) : upd f t x k = f k := upd_ne f x h
@[go_sem] theorem upd_upd {α : Type} (f : Nat → α) (t : Nat) (x y : α) : upd (upd f t x) t y = upd f t y := by
  funext k; unfold upd; split <;> rfl

@[go_sem] theorem St_put_some (t : Nat) (d : D) : (St.mk N n s R).put (some t) d = St.mk N n (upd s t d) R := rfl
@[go_sem] theorem St_put_none (d : D) : (St.mk N n s R).put none d = St.mk N n s R := rfl
@[go_sem] theorem St_dstOk_none : (St.mk N n s R).dstOk none = True := by simp [St.dstOk]
@[go_sem] theorem St_dstOk_some (t : Nat) : (St.mk N n s R).dstOk (some t) = (t < N) := by simp [St.dstOk]
@[go_sem] theorem St_ev_tmp (t : Nat) : (St.mk N n s R).ev (.tmp t) = s t := rfl
@[go_sem] theorem St_ev_int (k : IntKind) (i : Int) : st.ev (.const (.int k i)) = .lit (.int k i) := rfl
@[go_sem] theorem St_ev_bool (b : Bool) : st.ev (.const (.bool b)) = .lit (.bool b) := rfl
@[go_sem] theorem St_ev_str (x : ByteArray) : st.ev (.const (.string x)) = .lit (.string x) := rfl
@[go_sem] theorem St_ev_nil : st.ev (.const (.slice none 0 0)) = .nil := rfl
@[go_sem] theorem St_ev_func (f : FuncId) : st.ev (.func f) = .fn f 0 fun _ => .any := rfl
@[go_sem] theorem St_know_tmp (t : Nat) (b : Bool) : (St.mk N n s R).know (.tmp t) b = St.mk N n (upd s t (.lit (.bool b))) R := rfl
@[go_sem] theorem St_know_const (v : Value) (b : Bool) : (St.mk N n s R).know (.const v) b = St.mk N n s R := rfl
@[go_sem] theorem St_new_eq (l g b : Nat) (d : D) : (St.mk N n s R).new l g b d = St.mk N (b + 1) s (upd R l (some (g, b, d))) := rfl
@[go_sem] theorem St_rd_eq (l g : Nat) : (St.mk N n s R).rd l g = rdR R l g := rfl
@[go_sem] theorem rdR_same (l g b : Nat) (d : D) (R' : Roots) : rdR (upd R' l (some (g, b, d))) l g = d := by simp [rdR]
@[go_sem] theorem rdR_other (l l' g : Nat) (x : Option (Nat × Nat × D)) (R' : Roots) (h : l' ≠ l) : rdR (upd R' l x) l' g = rdR R' l' g := by simp [rdR, upd_ne _ _ h]
@[go_sem] theorem wrR_same (l g b : Nat) (d d' : D) (R' : Roots) : wrR (upd R' l (some (g, b, d))) l d' = upd R' l (some (g, b, d')) := by
  simp [wrR, upd_upd]
theorem upd_comm {α : Type} (f : Nat → α) {t k : Nat} (x y : α) (h : t ≠ k) : upd (upd f t x) k y = upd (upd f k y) t x := by
  funext j; unfold upd
  by_cases h1 : j = k
  · subst h1; rw [if_pos rfl, if_neg (Ne.symm h), if_pos rfl]
  · rw [if_neg h1, if_neg h1]
theorem wrR_at (l g b : Nat) (d d' : D) (h : R l = some (g, b, d)) : wrR R l d' = upd R l (some (g, b, d')) := by
  simp [wrR, h]
@[go_sem] theorem wrR_other (l l' : Nat) (x : Option (Nat × Nat × D)) (d' : D) (R' : Roots) (h : l' ≠ l) :
    wrR (upd R' l x) l' d' = upd (wrR R' l' d') l x := by
  simp only [wrR, upd_ne _ _ h]
  rw [upd_comm _ _ _ (Ne.symm h)]
@[go_sem] theorem St_N_mk : (St.mk N n s R).N = N := rfl
@[go_sem] theorem St_n_mk : (St.mk N n s R).n = n := rfl
@[go_sem] theorem St_s_mk : (St.mk N n s R).s = s := rfl
@[go_sem] theorem St_R_mk : (St.mk N n s R).R = R := rfl

@[go_sem] theorem D_get_nil (d : D) : d.get [] = d := by cases d <;> rfl
@[go_sem] theorem D_get_cons (d : D) (i : Nat) (p : List Nat) : d.get (i :: p) = (d.chd i).get p := rfl
@[go_sem] theorem D_offOf_nil (d : D) : d.offOf [] = 0 := by cases d <;> rfl
@[go_sem] theorem D_offOf_cons (d : D) (i : Nat) (p : List Nat) : d.offOf (i :: p) = d.kd.off i + (d.chd i).offOf p := rfl
@[go_sem] theorem D_inb_nil (d : D) : d.inb [] = True := by cases d <;> rfl
@[go_sem] theorem D_inb_cons (d : D) (i : Nat) (p : List Nat) : d.inb (i :: p) = (i < d.kd.cnt ∧ (d.chd i).inb p) := rfl
@[go_sem] theorem D_set_nil (d v : D) : d.set [] v = v := by cases d <;> rfl
@[go_sem] theorem D_set_cons (k : Kd) (f : Nat → D) (i : Nat) (p : List Nat) (v : D) : (D.node k f).set (i :: p) v = .node k (upd f i ((f i).set p v)) := rfl
@[go_sem] theorem D_chd_node (k : Kd) (f : Nat → D) (i : Nat) : (D.node k f).chd i = f i := rfl
@[go_sem] theorem D_kd_node (k : Kd) (f : Nat → D) : (D.node k f).kd = k := rfl
@[go_sem] theorem D_size_node (k : Kd) (f : Nat → D) : (D.node k f).size = k.all := rfl
@[go_sem] theorem D_size_lit (v : Value) : (D.lit v).size = 1 := rfl
@[go_sem] theorem D_size_nil : D.nil.size = 1 := rfl
@[go_sem] theorem D_size_sl (t m z : Nat) (zb : Bool) (f : Nat → D) : (D.sl t zb m z f).size = 1 := rfl
@[go_sem] theorem D_size_msl (l g o : Nat) (p : List Nat) (i m z : Nat) : (D.msl l g o p i m z).size = 1 := rfl
@[go_sem] theorem D_size_ptr (l g o : Nat) (p : List Nat) : (D.ptr l g o p).size = 1 := rfl
@[go_sem] theorem D_size_fn (f : FuncId) (m : Nat) (c : Nat → D) : (D.fn f m c).size = 1 := rfl
@[go_sem] theorem D_isNode_node (k : Kd) (f : Nat → D) : (D.node k f).isNode = some true := rfl
@[go_sem] theorem D_isNode_lit (v : Value) : (D.lit v).isNode = some false := rfl
@[go_sem] theorem D_isNode_nil : D.nil.isNode = some false := rfl
@[go_sem] theorem D_isNode_sl (t m z : Nat) (zb : Bool) (f : Nat → D) : (D.sl t zb m z f).isNode = some false := rfl
@[go_sem] theorem D_isNode_msl (l g o : Nat) (p : List Nat) (i m z : Nat) : (D.msl l g o p i m z).isNode = some false := rfl
@[go_sem] theorem D_isNode_ptr (l g o : Nat) (p : List Nat) : (D.ptr l g o p).isNode = some false := rfl
@[go_sem] theorem D_isNode_fn (f : FuncId) (m : Nat) (c : Nat → D) : (D.fn f m c).isNode = some false := rfl
@[go_sem] theorem D_plain_node (k : Kd) (f : Nat → D) : (D.node k f).plain = True := rfl
@[go_sem] theorem D_plain_lit (v : Value) : (D.lit v).plain = True := rfl
@[go_sem] theorem D_plain_nil : D.nil.plain = True := rfl
@[go_sem] theorem D_plain_sl (t m z : Nat) (zb : Bool) (f : Nat → D) : (D.sl t zb m z f).plain = True := rfl
@[go_sem] theorem D_plain_msl (l g o : Nat) (p : List Nat) (i m z : Nat) : (D.msl l g o p i m z).plain = True := rfl
@[go_sem] theorem D_plain_ptr (l g o : Nat) (p : List Nat) : (D.ptr l g o p).plain = True := rfl
@[go_sem] theorem D_plain_fn (f : FuncId) (m : Nat) (c : Nat → D) : (D.fn f m c).plain = True := rfl
@[go_sem] theorem D_isRef_ptr (l g o : Nat) (p : List Nat) : (D.ptr l g o p).isRef = True := rfl
@[go_sem] theorem D_isRef_cptr (d : D) : (D.cptr d).isRef = True := rfl
@[go_sem] theorem D_isRef_fn (f : FuncId) (m : Nat) (c : Nat → D) : (D.fn f m c).isRef = True := rfl
@[go_sem] theorem D_len_nil : D.nil.len = some 0 := rfl
@[go_sem] theorem D_len_sl (t m z : Nat) (zb : Bool) (f : Nat → D) : (D.sl t zb m z f).len = some m := rfl
@[go_sem] theorem D_len_msl (l g o : Nat) (p : List Nat) (i m z : Nat) : (D.msl l g o p i m z).len = some m := rfl
@[go_sem] theorem Kd_all_agg (l : List Nat) : (Kd.agg l).all = l.sum := rfl
@[go_sem] theorem Kd_all_arr (m z : Nat) : (Kd.arr m z).all = m * z := rfl
@[go_sem] theorem Kd_cnt_agg (l : List Nat) : (Kd.agg l).cnt = l.length := rfl
@[go_sem] theorem Kd_cnt_arr (m z : Nat) : (Kd.arr m z).cnt = m := rfl
@[go_sem] theorem Kd_off_agg (l : List Nat) (i : Nat) : (Kd.agg l).off i = (l.take i).sum := rfl
@[go_sem] theorem Kd_off_arr (m z i : Nat) : (Kd.arr m z).off i = i * z := rfl
attribute [go_sem] List.sum_cons List.sum_nil List.length_cons List.length_nil List.take_succ_cons List.take_zero Nat.add_zero Nat.zero_add List.nil_append List.cons_append
@[go_sem] theorem TyOk_eq (T : TypeId) (d : D) : TyOk P T d = (tsz P T = some d.size ∧ tagg P T = d.isNode ∧ d.isNode.isSome = true) := rfl
attribute [go_sem] forall_const Bool.false_eq_true false_implies true_implies Bool.not_true Bool.not_false Bool.true_eq_false if_true if_false ne_eq not_false_eq_true not_true_eq_false decide_eq_true_eq decide_eq_false_iff_not List.map_cons List.map_nil List.append_nil List.range_zero
attribute [go_sem] Option.isSome_some Option.some.injEq and_true true_and and_self and_assoc exists_eq_left' exists_eq_left exists_eq_right exists_eq_right' D.lit.injEq Value.int.injEq Value.bool.injEq Value.string.injEq

/-! continuations: the rewriting does not look into them (their type hangs on a token) -/
inductive Tok {α : Type} (k : α) : Type where
  | mk
def wLit (d : D) (k : Value → Prop) (_ : Tok k := .mk) : Prop := match d with
  | .lit v => k v
  | _ => False
def wBool (d : D) (k : Bool → Prop) (_ : Tok k := .mk) : Prop := match d with
  | .lit (.bool b) => k b
  | _ => False
def wInt (d : D) (k : IntKind → Int → Prop) (_ : Tok k := .mk) : Prop := match d with
  | .lit (.int i n) => k i n
  | _ => False
def wSome {α : Type} (x : Option α) (k : α → Prop) (_ : Tok k := .mk) : Prop := match x with
  | some x => k x
  | none => False
def wTup (d : D) (k : Nat → (Nat → D) → Prop) (_ : Tok k := .mk) : Prop := match d with
  | .tup n f => k n f
  | _ => False
@[go_sem] theorem wLit_lit (v : Value) (k : Value → Prop) : wLit (.lit v) k = k v := rfl
@[go_sem] theorem wBool_lit (b : Bool) (k : Bool → Prop) : wBool (.lit (.bool b)) k = k b := rfl
@[go_sem] theorem wInt_lit (i : IntKind) (n : Int) (k : IntKind → Int → Prop) : wInt (.lit (.int i n)) k = k i n := rfl
@[go_sem] theorem wSome_some {α : Type} (x : α) (k : α → Prop) : wSome (some x) k = k x := rfl
@[go_sem] theorem wTup_tup (m : Nat) (f : Nat → D) (k : Nat → (Nat → D) → Prop) : wTup (.tup m f) k = k m f := rfl
theorem wLit_eq (d : D) (k : Value → Prop) : (∃ v, d = .lit v ∧ k v) = wLit d k := by
  cases d <;> simp [wLit]
theorem wBool_eq (d : D) (k : Bool → Prop) : (∃ b, d = .lit (.bool b) ∧ k b) = wBool d k := by
  cases d with
  | lit v => cases v <;> simp [wBool]
  | _ => simp [wBool]
theorem wInt_eq (d : D) (k : IntKind → Int → Prop) : (∃ i n, d = .lit (.int i n) ∧ k i n) = wInt d k := by
  cases d with
  | lit v => cases v <;> simp [wInt, and_assoc]
  | _ => simp [wInt]
theorem wSome_eq {α : Type} (x : Option α) (k : α → Prop) : (∃ v, x = some v ∧ k v) = wSome x k := by
  cases x <;> simp [wSome]
theorem wTup_eq (d : D) (k : Nat → (Nat → D) → Prop) : (∃ n f, d = .tup n f ∧ k n f) = wTup d k := by
  cases d <;> simp [wTup, and_assoc]

/-- a test that was made, or passed over -/
def wTest (d : D) (k : Bool → Prop) (z : Prop) (_ : Tok k := .mk) (_ : Tok z := .mk) : Prop := match d with
  | .lit (.bool b) => k b
  | .tup 0 _ => z
  | _ => False
@[go_sem] theorem wTest_bool (b : Bool) (k : Bool → Prop) (z : Prop) : wTest (.lit (.bool b)) k z = k b := rfl
@[go_sem] theorem wTest_und (k : Bool → Prop) (z : Prop) : wTest und k z = z := rfl
theorem wTest_eq (d : D) (k : Bool → Prop) (z : Prop) : ((∃ b, d = .lit (.bool b) ∧ k b) ∨ ∃ f, d = .tup 0 f ∧ z) = wTest d k z := by
  apply propext
  cases d with
  | lit v => cases v <;> simp [wTest]
  | tup n f =>
    cases n with
    | zero => simp [wTest]
    | succ n => simp [wTest]
  | _ => simp [wTest]
/-- what a reference leads to -/
def wRef (d : D) (kp : Nat → Nat → Nat → List Nat → Prop) (kc : D → Prop) (_ : Tok kp := .mk) (_ : Tok kc := .mk) : Prop := match d with
  | .ptr l g q p => kp l g q p
  | .cptr d => kc d
  | _ => False
@[go_sem] theorem wRef_ptr (l g q : Nat) (p : List Nat) (kp : Nat → Nat → Nat → List Nat → Prop) (kc : D → Prop) : wRef (.ptr l g q p) kp kc = kp l g q p := rfl
@[go_sem] theorem wRef_cptr (d : D) (kp : Nat → Nat → Nat → List Nat → Prop) (kc : D → Prop) : wRef (.cptr d) kp kc = kc d := rfl
def wIdx (d : D) (km : Nat → Nat → Nat → List Nat → Nat → Nat → Nat → Prop) (ks : Nat → Nat → (Nat → D) → Prop) (kp : Nat → Nat → Nat → List Nat → Prop) (kc : D → Prop) (_ : Tok km := .mk) (_ : Tok ks := .mk) (_ : Tok kp := .mk) (_ : Tok kc := .mk) : Prop := match d with
  | .msl l g q p j m sz => km l g q p j m sz
  | .sl _ _ m sz f => ks m sz f
  | .ptr l g q p => kp l g q p
  | .cptr d => kc d
  | _ => False
@[go_sem] theorem wIdx_msl (l g q : Nat) (p : List Nat) (j m sz : Nat) (km : Nat → Nat → Nat → List Nat → Nat → Nat → Nat → Prop) (ks : Nat → Nat → (Nat → D) → Prop) (kp : Nat → Nat → Nat → List Nat → Prop) (kc : D → Prop) :
    wIdx (.msl l g q p j m sz) km ks kp kc = km l g q p j m sz := rfl
@[go_sem] theorem wIdx_sl (t : Nat) (zb : Bool) (m sz : Nat) (f : Nat → D) (km : Nat → Nat → Nat → List Nat → Nat → Nat → Nat → Prop) (ks : Nat → Nat → (Nat → D) → Prop) (kp : Nat → Nat → Nat → List Nat → Prop) (kc : D → Prop) :
    wIdx (.sl t zb m sz f) km ks kp kc = ks m sz f := rfl
@[go_sem] theorem wIdx_ptr (l g q : Nat) (p : List Nat) (km : Nat → Nat → Nat → List Nat → Nat → Nat → Nat → Prop) (ks : Nat → Nat → (Nat → D) → Prop) (kp : Nat → Nat → Nat → List Nat → Prop) (kc : D → Prop) :
    wIdx (.ptr l g q p) km ks kp kc = kp l g q p := rfl
@[go_sem] theorem wIdx_cptr (d : D) (km : Nat → Nat → Nat → List Nat → Nat → Nat → Nat → Prop) (ks : Nat → Nat → (Nat → D) → Prop) (kp : Nat → Nat → Nat → List Nat → Prop) (kc : D → Prop) :
    wIdx (.cptr d) km ks kp kc = kc d := rfl
def wFn (d : D) (k : Nat → Nat → (Nat → D) → Prop) (_ : Tok k := .mk) : Prop := match d with
  | .fn f m c => k f m c
  | _ => False
@[go_sem] theorem wFn_fn (f m : Nat) (c : Nat → D) (k : Nat → Nat → (Nat → D) → Prop) : wFn (.fn f m c) k = k f m c := rfl
def wStr (d : D) (k : ByteArray → Prop) (_ : Tok k := .mk) : Prop := match d with
  | .lit (.string s) => k s
  | _ => False
@[go_sem] theorem wStr_lit (s : ByteArray) (k : ByteArray → Prop) : wStr (.lit (.string s)) k = k s := rfl

def effT (P : Program) (op : Op) (dst : Option Tmp) (ev : Operand → D) (R : Roots) (n : Nat) (k : Roots → Nat → D → Prop) (_ : Tok k := .mk) (_ : Tok op := .mk) : Prop := eff P op dst ev R n k
def effBT (P : Program) (b : Builtin) (ds : List D) (ts : Array TypeId) (dst : Option Tmp) (R : Roots) (n : Nat) (k : Roots → Nat → D → Prop) (_ : Tok k := .mk) : Prop := effB P b ds ts dst R n k
def effST (P : Program) (T : TypeId) (d : D) (lo hi mx : Option D) (R : Roots) (n : Nat) (k : Roots → Nat → D → Prop) (_ : Tok k := .mk) : Prop := effS P T d lo hi mx R n k
def buildT (pl : Nat → Option (Nat × Nat)) (ev : Operand → D) (d : D) (ps : List (Nat × Operand)) (k : D → Prop) (_ : Tok k := .mk) (_ : Tok ps := .mk) : Prop := buildD pl ev d ps k
def vcOpT (P : Program) (o : Oper) (st : St) (K : St → Prop) (_ : Tok K := .mk) (_ : Tok o := .mk) : Prop := vcOp P o st K
def vcLT (P : Program) (W : Nat → Prop) (gs : List (Option Tmp)) (K : St → Prop) (l : List Oper) (st : St) (_ : Tok K := .mk) (_ : Tok gs := .mk) (_ : Tok l := .mk) : Prop := vcLg P W gs K l st
def gsT (l : List Oper) (_ : Tok l := .mk) : List (Option Tmp) := l.map (·.dst)
def vcMT (P : Program) (W : Nat → Prop) (o : Oper) (st : St) (K : St → Prop) (_ : Tok K := .mk) (_ : Tok o := .mk) : Prop := vcM P W o st K

section effs
variable (ev : Operand → D) (k : Roots → Nat → D → Prop)
@[go_sem] theorem eff_move (x : Operand) : effT P (.move x) dst ev R n k = k R n (ev x) := rfl
@[go_sem] theorem eff_assign (x : Operand) : effT P (.assign x) dst ev R n k = k R n (ev x) := rfl
@[go_sem] theorem eff_pick (c x y : Operand) : effT P (.pick c x y) dst ev R n k = wBool (ev c) fun t => k R n (if t then ev x else ev y) := by rw [← wBool_eq]; rfl
@[go_sem] theorem eff_not (T : TypeId) (x : Operand) : effT P (.unOp .not T x) dst ev R n k = wBool (ev x) fun t => k R n (.lit (.bool (!t))) := by rw [← wBool_eq]; rfl
@[go_sem] theorem eff_neg (T : TypeId) (x : Operand) : effT P (.unOp .neg T x) dst ev R n k = wInt (ev x) fun kd i => k R n (.lit (.int kd (kd.wrap (0 - i)))) := by rw [← wInt_eq]; rfl
@[go_sem] theorem eff_bin_tmp (op : BinOp) (T T2 : TypeId) (x : Operand) (t : Tmp) : effT P (.binOp op T x (.tmp t) T2) dst ev R n k =
    wLit (ev x) fun u => wLit (ev (.tmp t)) fun v => wSome (bin P T op u v) fun r => k R n (.lit r) := by
  simp only [← wLit_eq, ← wSome_eq, effT, eff, exists_and_left]
@[go_sem] theorem eff_bin_int (op : BinOp) (T T2 : TypeId) (x : Operand) (kd : IntKind) (i : Int) : effT P (.binOp op T x (.const (.int kd i)) T2) dst ev R n k =
    wLit (ev x) fun u => wLit (ev (.const (.int kd i))) fun v => wSome (bin P T op u v) fun r => k R n (.lit r) := by
  simp only [← wLit_eq, ← wSome_eq, effT, eff, exists_and_left]
@[go_sem] theorem eff_bin_bool (op : BinOp) (T T2 : TypeId) (x : Operand) (b : Bool) : effT P (.binOp op T x (.const (.bool b)) T2) dst ev R n k =
    wLit (ev x) fun u => wLit (ev (.const (.bool b))) fun v => wSome (bin P T op u v) fun r => k R n (.lit r) := by
  simp only [← wLit_eq, ← wSome_eq, effT, eff, exists_and_left]
@[go_sem] theorem eff_bin_str (op : BinOp) (T T2 : TypeId) (x : Operand) (s : ByteArray) : effT P (.binOp op T x (.const (.string s)) T2) dst ev R n k =
    wLit (ev x) fun u => wLit (ev (.const (.string s))) fun v => wSome (bin P T op u v) fun r => k R n (.lit r) := by
  simp only [← wLit_eq, ← wSome_eq, effT, eff, exists_and_left]
@[go_sem] theorem eff_eqNil (T T2 : TypeId) (x : Operand) : effT P (.binOp .eql T x (.const (.slice none 0 0)) T2) dst ev R n k =
    wSome (telem P T) fun _ => wSome (nilD (ev x)) fun r => ∀ b : Bool, (r = none ∨ r = some b) → k R n (.lit (.bool b)) := by
  simp only [← wSome_eq, effT, eff, exists_and_left]
@[go_sem] theorem eff_build (T : TypeId) (parts : List (Nat × Operand)) : effT P (.build T parts.toArray) dst ev R n k =
    wSome (tplaces P T) fun pl => ZeroOk P T (zd P T) ∧ buildT (fun i => pl[i]?) ev (zd P T) parts fun d => d.isNode = some true ∧ k R n d := by
  rw [← wSome_eq]; simp [effT, eff, buildT]
@[go_sem] theorem eff_buildSlice (T : TypeId) (len l : Nat) (parts : List (Nat × Operand)) : effT P (.buildSlice T len parts.toArray) (some l) ev R n k =
    wSome (telem P T) fun E => ZeroOk P E (zd P E) ∧ tsz P E = some (zd P E).size ∧ len * (zd P E).size ≤ 16777216 ∧
      buildT (fun i => some (i * (zd P E).size, (zd P E).size)) ev (.node (.arr len (zd P E).size) fun _ => zd P E) parts fun d => d.plain ∧ ∀ g b, n ≤ b → k (upd R l (some (g, b, d))) (b + 1) (.msl l g 0 [] 0 len (zd P E).size) := by
  rw [← wSome_eq]; simp [effT, eff, buildT]
@[go_sem] theorem eff_makeSlice (T : TypeId) (l : Nat) (x y : Operand) : effT P (.makeSlice T x y) (some l) ev R n k =
    wSome (telem P T) fun E => wSome (tbytes P E) fun by_ => wInt (ev x) fun _ i => wInt (ev y) fun _ c => ZeroOk P E (zd P E) ∧ tsz P E = some (zd P E).size ∧
      0 ≤ i ∧ i ≤ c ∧ (by_ : Int) * c ≤ 281474976710656 ∧ c ≤ 9223372036854775807 ∧
      ∀ g b, n ≤ b → k (upd R l (some (g, b, .node (.arr i.toNat (zd P E).size) fun _ => zd P E))) (b + 1) (.msl l g 0 [] 0 i.toNat (zd P E).size) := by
  simp only [← wSome_eq, ← wInt_eq]
  apply propext
  constructor
  · rintro ⟨l', E, by_, kx, ky, i, c, h0, h1, h2, h3, h4, h5, h6, h7, h8, h9, h10, h11⟩
    obtain rfl := Option.some.inj h0
    exact ⟨E, h1, by_, h3, kx, i, h5, ky, c, h6, h2, h4, h7, h8, h9, h10, h11⟩
  · rintro ⟨E, h1, by_, h3, kx, i, h5, ky, c, h6, h2, h4, h7, h8, h9, h10, h11⟩
    exact ⟨l, E, by_, kx, ky, i, c, rfl, h1, h2, h3, h4, h5, h6, h7, h8, h9, h10, h11⟩
@[go_sem] theorem nilD_nil : nilD .nil = some none := rfl
@[go_sem] theorem nilD_sl (t m z : Nat) (zb : Bool) (f : Nat → D) : nilD (.sl t zb m z f) = some (some false) := rfl
@[go_sem] theorem nilD_msl (l g o : Nat) (p : List Nat) (i m z : Nat) : nilD (.msl l g o p i m z) = some (some false) := rfl
@[go_sem] theorem buildT_nil (pl : Nat → Option (Nat × Nat)) (d : D) (kd : D → Prop) : buildT pl ev d [] kd = kd d := rfl
@[go_sem] theorem buildT_cons (pl : Nat → Option (Nat × Nat)) (d : D) (i : Nat) (x : Operand) (rest : List (Nat × Operand)) (kd : D → Prop) : buildT pl ev d ((i, x) :: rest) kd =
    (i < d.kd.cnt ∧ pl i = some (d.kd.off i, (ev x).size) ∧ (d.chd i).plain ∧ (d.chd i).size = (ev x).size ∧ (ev x).plain ∧ buildT pl ev (d.set [i] (ev x)) rest kd) := rfl
@[go_sem] theorem eff_conv (S T : TypeId) (x : Operand) : effT P (.convert S T x) dst ev R n k =
    ((P.underlying S).isSome = true ∧ wSome (tint P T) fun kd => wInt (ev x) fun _ i => k R n (.lit (.int kd (kd.wrap i)))) := by
  simp only [effT, ← wInt_eq, ← wSome_eq, eff]
  apply propext
  constructor
  · rintro ⟨k, k', n, h1, h2, h3, h4⟩; exact ⟨h2, k, h3, k', n, h1, h4⟩
  · rintro ⟨h2, k, h3, k', n, h1, h4⟩; exact ⟨k, k', n, h1, h2, h3, h4⟩
@[go_sem] theorem eff_extract (x : Operand) (i : Nat) : effT P (.extract x i) dst ev R n k = wTup (ev x) fun m f => i < m ∧ k R n (f i) := by rw [← wTup_eq]; rfl
@[go_sem] theorem eff_nilCheck (x : Operand) : effT P (.nilCheck x) dst ev R n k = ((ev x).isRef ∧ k R n (ev x)) := rfl
@[go_sem] theorem eff_fieldAddr (T : TypeId) (x : Operand) (f : Nat) : effT P (.fieldAddr T x f) dst ev R n k =
    (wSome (tfield P T f) fun ot => wSome (tsz P ot.2) fun m => m ≠ 0 ∧
      wRef (ev x) (fun l g q p => k R n (.ptr l g (q + ot.1) (p ++ [f]))) (fun d => f < d.kd.cnt ∧ d.kd.off f = ot.1 ∧ k R n (.cptr (d.chd f)))) := by
  simp only [effT, ← wSome_eq, eff]
  apply propext
  constructor
  · rintro ⟨o', t, n, h1, h2, h3, h4⟩
    refine ⟨(o', t), h1, n, h2, h3, ?_⟩
    generalize ev x = d at h4 ⊢
    cases d <;> exact h4
  · rintro ⟨⟨o', t⟩, h1, n, h2, h3, h4⟩
    refine ⟨o', t, n, h1, h2, h3, ?_⟩
    generalize ev x = d at h4 ⊢
    cases d <;> exact h4
@[go_sem] theorem eff_indexAddr (T : TypeId) (x y : Operand) : effT P (.indexAddr T x y) dst ev R n k =
    (wInt (ev y) fun _ i => wIdx (ev x)
      (fun l g q p j m sz => wSome (telem P T) fun E => tsz P E = some sz ∧ 0 ≤ i ∧ i < m ∧ k R n (.ptr l g (q + i.toNat * sz) (p ++ [j + i.toNat])))
      (fun m sz f => wSome (telem P T) fun E => tsz P E = some sz ∧ 0 ≤ i ∧ i < m ∧ k R n (.cptr (f i.toNat)))
      (fun l g q p => wSome (tarr P T) fun mE => wSome (tsz P mE.2) fun sz => 0 ≤ i ∧ i < mE.1 ∧ k R n (.ptr l g (q + i.toNat * sz) (p ++ [i.toNat])))
      (fun d => wSome (tarr P T) fun mE => wSome (tsz P mE.2) fun sz => d.kd = .arr mE.1 sz ∧ 0 ≤ i ∧ i < mE.1 ∧ k R n (.cptr (d.chd i.toNat)))) := by
  have key : ∀ (kd : IntKind) (i : Int), (match ev x with
      | .msl l g q p j m sz => ∃ E, telem P T = some E ∧ tsz P E = some sz ∧ 0 ≤ i ∧ i < m ∧ k R n (.ptr l g (q + i.toNat * sz) (p ++ [j + i.toNat]))
      | .sl t zb m sz f => ∃ E, telem P T = some E ∧ tsz P E = some sz ∧ 0 ≤ i ∧ i < m ∧ k R n (.cptr (f i.toNat))
      | .ptr l g q p => ∃ m E sz, tarr P T = some (m, E) ∧ tsz P E = some sz ∧ 0 ≤ i ∧ i < m ∧ k R n (.ptr l g (q + i.toNat * sz) (p ++ [i.toNat]))
      | .cptr d => ∃ m E sz, tarr P T = some (m, E) ∧ tsz P E = some sz ∧ d.kd = .arr m sz ∧ 0 ≤ i ∧ i < m ∧ k R n (.cptr (d.chd i.toNat))
      | _ => False) = wIdx (ev x)
      (fun l g q p j m sz => wSome (telem P T) fun E => tsz P E = some sz ∧ 0 ≤ i ∧ i < m ∧ k R n (.ptr l g (q + i.toNat * sz) (p ++ [j + i.toNat])))
      (fun m sz f => wSome (telem P T) fun E => tsz P E = some sz ∧ 0 ≤ i ∧ i < m ∧ k R n (.cptr (f i.toNat)))
      (fun l g q p => wSome (tarr P T) fun mE => wSome (tsz P mE.2) fun sz => 0 ≤ i ∧ i < mE.1 ∧ k R n (.ptr l g (q + i.toNat * sz) (p ++ [i.toNat])))
      (fun d => wSome (tarr P T) fun mE => wSome (tsz P mE.2) fun sz => d.kd = .arr mE.1 sz ∧ 0 ≤ i ∧ i < mE.1 ∧ k R n (.cptr (d.chd i.toNat))) := by
    intro kd i
    generalize ev x = d
    cases d with
    | msl l g q p j m sz => simp only [wIdx, ← wSome_eq]
    | sl t zb m sz f => simp only [wIdx, ← wSome_eq]
    | ptr l g q p =>
      simp only [wIdx, ← wSome_eq]
      apply propext
      constructor
      · rintro ⟨m, E, sz, h1, h2, h3⟩; exact ⟨(m, E), h1, sz, h2, h3⟩
      · rintro ⟨⟨m, E⟩, h1, sz, h2, h3⟩; exact ⟨m, E, sz, h1, h2, h3⟩
    | cptr d =>
      simp only [wIdx, ← wSome_eq]
      apply propext
      constructor
      · rintro ⟨m, E, sz, h1, h2, h3⟩; exact ⟨(m, E), h1, sz, h2, h3⟩
      · rintro ⟨⟨m, E⟩, h1, sz, h2, h3⟩; exact ⟨m, E, sz, h1, h2, h3⟩
    | _ => rfl
  rw [← wInt_eq]
  simp only [← key .i64]
  rfl
@[go_sem] theorem eff_load (T : TypeId) (x : Operand) : effT P (.load T x) dst ev R n k =
    wRef (ev x) (fun l g q p => TyOk P T ((rdR R l g).get p) ∧ (rdR R l g).inb p ∧ (rdR R l g).offOf p = q ∧ k R n ((rdR R l g).get p)) (fun d => TyOk P T d ∧ k R n d) := by
  simp only [effT, eff]
  generalize ev x = d
  cases d <;> rfl
@[go_sem] theorem eff_store (T : TypeId) (x y : Operand) : effT P (.store T x y) dst ev R n k =
    wRef (ev x) (fun l g q p => ((rdR R l g).get p).plain ∧ (rdR R l g).inb p ∧ (rdR R l g).offOf p = q ∧
          wSome (tsz P T) fun m => ((rdR R l g).get p).size = m ∧ (ev y).size = m ∧ (ev y).plain ∧ k (wrR R l ((rdR R l g).set p (ev y))) n .any) (fun _ => False) := by
  simp only [effT, eff]
  generalize ev x = d
  cases d with
  | ptr l g q p =>
    simp only [wRef, ← wSome_eq]
    apply propext
    constructor
    · rintro ⟨h1, h2, h3, ⟨m, h4, h5, h6⟩, h7⟩; exact ⟨h1, h2, h3, m, h4, h5, h6, h7⟩
    · rintro ⟨h1, h2, h3, m, h4, h5, h6, h7⟩; exact ⟨h1, h2, h3, ⟨m, h4, h5, h6⟩, h7⟩
  | _ => rfl
@[go_sem] theorem eff_alloc (T : TypeId) (l : Nat) : effT P (.alloc T) (some l) ev R n k =
    (ZeroOk P T (zd P T) ∧ ∀ g b, n ≤ b → k (upd R l (some (g, b, zd P T))) (b + 1) (.ptr l g 0 [])) := by simp [effT, eff]
@[go_sem] theorem eff_box (T : TypeId) (x : Operand) (l : Nat) : effT P (.box T x) (some l) ev R n k =
    ((ev x).plain ∧ ∀ g b, n ≤ b → k (upd R l (some (g, b, ev x))) (b + 1) (.ptr l g 0 [])) := by simp [effT, eff]
theorem eff_makeFunc (f : FuncId) (cap : List Operand) : effT P (.makeFunc (.func f) #[] cap.toArray) dst ev R n k =
    ((∀ i, i < cap.length → (ev (cap.getD i (.const .nilFunc))).isRef) ∧ k R n (.fn f cap.length fun i => ev (cap.getD i (.const .nilFunc)))) := by
  simp [effT, eff, Array.getD_eq_getD_getElem?, List.getD_eq_getElem?_getD]
@[go_sem] theorem eff_builtin (b : Builtin) (xs : List Operand) (ts : Array TypeId) : effT P (.call { callee := .builtin b, args := xs.toArray, argTypes := ts }) dst ev R n k = effBT P b (xs.map ev) ts dst R n k := rfl
@[go_sem] theorem effB_len (d : D) (T : TypeId) : effBT P .len [d] #[T] dst R n k = wSome (lenT P T d) fun m => k R n (.lit (.int .i64 m)) := by
  simp only [← wSome_eq, effBT, effB]
  apply propext
  constructor
  · rintro ⟨T', m, h1, h2⟩
    obtain rfl : T = T' := by simpa using h1
    exact ⟨m, h2⟩
  · rintro ⟨m, h2⟩; exact ⟨T, m, rfl, h2⟩
@[go_sem] theorem effB_append (d d' : D) (T T' l : Nat) : effBT P .append [d, d'] #[T, T'] (some l) R n k = wSome (telem P T) fun E => wSome (tbytes P E) fun by_ => ZeroOk P E (zd P E) ∧ tsz P E = some (zd P E).size ∧
    wSome (headD R (zd P E).size d) fun hd => srcT P T T' d' ∧ wSome (srcD R d') fun src => (∀ y, src.2.1 = some y → y = (zd P E).size) ∧ (hd.2.1 + src.1) * by_ ≤ 140737488355328 ∧ hd.2.1 + src.1 ≤ 9223372036854775807 ∧
      (hd.1 = none → src.1 = 0 → k R n .nil) ∧ ((hd.1 = none → 0 < src.1) → ∀ g b n', n ≤ n' → b < n' → (n ≤ b ∨ blkR R hd.1 = some b) →
        k (upd R (hd.1.getD l) (some (g, b, .node (.arr (hd.2.1 + src.1) (zd P E).size) (catD hd.2.1 hd.2.2 src.2.2)))) n' (.msl (hd.1.getD l) g 0 [] 0 (hd.2.1 + src.1) (zd P E).size)) := by
  simp only [← wSome_eq, effBT, effB]
  apply propext
  constructor
  · rintro ⟨T1, T2, l', E, by_, lo, n0, f, m, sz, f', h0, h1, h2, h3, h4, h5, h6, h7, h8, h9⟩
    obtain ⟨rfl, rfl⟩ : T = T1 ∧ T' = T2 := by simpa using h0
    obtain rfl := Option.some.inj h1
    exact ⟨E, h2, by_, h3, h4, h5, (lo, n0, f), h6, h7, (m, sz, f'), h8, h9⟩
  · rintro ⟨E, h2, by_, h3, h4, h5, ⟨lo, n0, f⟩, h6, h7, ⟨m, sz, f'⟩, h8, h9⟩
    exact ⟨T, T', l, E, by_, lo, n0, f, m, sz, f', rfl, rfl, h2, h3, h4, h5, h6, h7, h8, h9⟩
theorem wInt2_eq (d d' : D) (q : IntKind → Int → Int → Prop) : (∃ kd i j, d = .lit (.int kd i) ∧ d' = .lit (.int kd j) ∧ q kd i j) = wInt d fun kd i => wInt d' fun kd' j => kd' = kd ∧ q kd i j := by
  simp only [← wInt_eq]
  apply propext
  constructor
  · rintro ⟨kd, i, j, h1, h2, h3⟩; exact ⟨kd, i, h1, kd, j, h2, rfl, h3⟩
  · rintro ⟨kd, i, h1, kd', j, h2, rfl, h3⟩; exact ⟨_, i, j, h1, h2, h3⟩
@[go_sem] theorem effB_max (d d' : D) (T T' : TypeId) : effBT P .max [d, d'] #[T, T'] dst R n k = wInt d fun kd i => wInt d' fun kd' j => kd' = kd ∧ k R n (.lit (.int kd (max i j))) := by
  rw [← wInt2_eq]
  simp only [effBT, effB]
  apply propext
  constructor
  · rintro ⟨T1, T2, kd, i, j, _, h⟩; exact ⟨kd, i, j, h⟩
  · rintro ⟨kd, i, j, h⟩; exact ⟨T, T', kd, i, j, rfl, h⟩
@[go_sem] theorem effB_min (d d' : D) (T T' : TypeId) : effBT P .min [d, d'] #[T, T'] dst R n k = wInt d fun kd i => wInt d' fun kd' j => kd' = kd ∧ k R n (.lit (.int kd (min i j))) := by
  rw [← wInt2_eq]
  simp only [effBT, effB]
  apply propext
  constructor
  · rintro ⟨T1, T2, kd, i, j, _, h⟩; exact ⟨kd, i, j, h⟩
  · rintro ⟨kd, i, j, h⟩; exact ⟨T, T', kd, i, j, rfl, h⟩
@[go_sem] theorem lenT_nil (T : TypeId) : lenT P T .nil = if (telem P T).isSome = true then some 0 else none := rfl
@[go_sem] theorem lenT_sl (T : TypeId) (t m z : Nat) (zb : Bool) (f : Nat → D) : lenT P T (.sl t zb m z f) = if (telem P T).isSome = true then some m else none := rfl
@[go_sem] theorem lenT_msl (T : TypeId) (l g o : Nat) (p : List Nat) (i m z : Nat) : lenT P T (.msl l g o p i m z) = if (telem P T).isSome = true then some m else none := rfl
@[go_sem] theorem lenT_str (T : TypeId) (x : ByteArray) : lenT P T (.lit (.string x)) = if strT P T = true then some x.size else none := rfl
@[go_sem] theorem headD_nil (z : Nat) : headD R z .nil = some (none, 0, fun _ => .any) := rfl
@[go_sem] theorem headD_same (l g b m z : Nat) (f : Nat → D) : headD (upd R l (some (g, b, .node (.arr m z) f))) z (.msl l g 0 [] 0 m z) = some (some l, m, f) := by simp [headD]
@[go_sem] theorem headD_other (l l' g m z z' : Nat) (x : Option (Nat × Nat × D)) (h : l ≠ l') : headD (upd R l' x) z (.msl l g 0 [] 0 m z') = headD R z (.msl l g 0 [] 0 m z') := by simp [headD, upd_ne _ _ h]
theorem headD_at (l g b m m' z : Nat) (f : Nat → D) (h : R l = some (g, b, .node (.arr m' z) f)) (hm : m ≤ m') : headD R z (.msl l g 0 [] 0 m z) = some (some l, m, f) := by simp [headD, h, hm]
@[go_sem] theorem srcD_nil : srcD R .nil = some (0, none, fun _ => .any) := rfl
@[go_sem] theorem srcD_sl (t m z : Nat) (zb : Bool) (f : Nat → D) : srcD R (.sl t zb m z f) = some (m, some z, f) := rfl
@[go_sem] theorem srcD_str (x : ByteArray) : srcD R (.lit (.string x)) = some (x.size, some 1, fun i => .lit (.int .u8 (byteAt x i))) := rfl
@[go_sem] theorem srcD_same (l g b m z : Nat) (f : Nat → D) : srcD (upd R l (some (g, b, .node (.arr m z) f))) (.msl l g 0 [] 0 m z) = some (m, some z, f) := by simp [srcD]
@[go_sem] theorem srcD_other (l l' g m z : Nat) (x : Option (Nat × Nat × D)) (h : l ≠ l') : srcD (upd R l' x) (.msl l g 0 [] 0 m z) = srcD R (.msl l g 0 [] 0 m z) := by simp [srcD, upd_ne _ _ h]
theorem srcD_at (l g b m m' z : Nat) (f : Nat → D) (h : R l = some (g, b, .node (.arr m' z) f)) (hm : m ≤ m') : srcD R (.msl l g 0 [] 0 m z) = some (m, some z, f) := by simp [srcD, h, hm]
@[go_sem] theorem srcT_nil (T T' : TypeId) : srcT P T T' .nil = (T' = T) := rfl
@[go_sem] theorem srcT_sl (T T' : TypeId) (t m z : Nat) (zb : Bool) (f : Nat → D) : srcT P T T' (.sl t zb m z f) = (T' = T) := rfl
@[go_sem] theorem srcT_msl (T T' : TypeId) (l g o : Nat) (p : List Nat) (i m z : Nat) : srcT P T T' (.msl l g o p i m z) = (T' = T) := rfl
@[go_sem] theorem srcT_lit (T T' : TypeId) (v : Value) : srcT P T T' (.lit v) = (strT P T' = true) := rfl
@[go_sem] theorem intD_int (kd : IntKind) (i : Int) : intD (.lit (.int kd i)) = some i := rfl
@[go_sem] theorem lowI_none : lowI none = some 0 := rfl
@[go_sem] theorem lowI_some (d : D) : lowI (some d) = intD d := rfl
@[go_sem] theorem highI_none (m : Nat) : highI m none = some (m : Int) := rfl
@[go_sem] theorem highI_some (m : Nat) (d : D) : highI m (some d) = intD d := rfl
@[go_sem] theorem eff_slice (T : TypeId) (x : Operand) (lo hi mx : Option Operand) : effT P (.slice T x lo hi mx) dst ev R n k = effST P T (ev x) (lo.map ev) (hi.map ev) (mx.map ev) R n k := rfl
@[go_sem] theorem effS_nil (T : TypeId) (lo hi : Option D) : effST P T .nil lo hi none R n k = wSome (telem P T) fun E => (tsz P E).isSome = true ∧ lowI lo = some 0 ∧ highI 0 hi = some 0 ∧ k R n .nil := by
  simp only [← wSome_eq, effST, effS, Option.isSome_iff_exists]
  apply propext
  constructor
  · rintro ⟨E, sz, h1, h2, h3⟩; exact ⟨E, h1, ⟨sz, h2⟩, h3⟩
  · rintro ⟨E, h1, ⟨sz, h2⟩, h3⟩; exact ⟨E, sz, h1, h2, h3⟩
@[go_sem] theorem effS_sl (T : TypeId) (lo hi : Option D) (t m sz : Nat) (zb : Bool) (f : Nat → D) : effST P T (.sl t zb m sz f) lo hi none R n k = wSome (telem P T) fun E => tsz P E = some sz ∧ wSome (lowI lo) fun i => wSome (highI m hi) fun j =>
    0 ≤ i ∧ i ≤ j ∧ j ≤ m ∧ k R n (.sl t (zb && i == 0) (j - i).toNat sz fun q => f (i.toNat + q)) := by
  simp only [← wSome_eq, effST, effS]
  apply propext
  constructor
  · rintro ⟨E, i, j, h1, h2, h3, h4, h5⟩; exact ⟨E, h1, h2, i, h3, j, h4, h5⟩
  · rintro ⟨E, h1, h2, i, h3, j, h4, h5⟩; exact ⟨E, i, j, h1, h2, h3, h4, h5⟩
@[go_sem] theorem effS_msl (T : TypeId) (lo hi : Option D) (l g q : Nat) (p : List Nat) (i0 m sz : Nat) : effST P T (.msl l g q p i0 m sz) lo hi none R n k = wSome (telem P T) fun E => tsz P E = some sz ∧ wSome (lowI lo) fun i => wSome (highI m hi) fun j =>
    0 ≤ i ∧ i ≤ j ∧ j ≤ m ∧ (i = 0 → k R n (.msl l g q p i0 j.toNat sz)) ∧ (0 < i → k R n (.msl l g (q + i.toNat * sz) p (i0 + i.toNat) (j - i).toNat sz) ∧ (i = m → k R n .nil)) := by
  simp only [← wSome_eq, effST, effS]
  apply propext
  constructor
  · rintro ⟨E, i, j, h1, h2, h3, h4, h5⟩; exact ⟨E, h1, h2, i, h3, j, h4, h5⟩
  · rintro ⟨E, h1, h2, i, h3, j, h4, h5⟩; exact ⟨E, i, j, h1, h2, h3, h4, h5⟩
@[go_sem] theorem effS_str (T : TypeId) (lo hi : Option D) (s : ByteArray) : effST P T (.lit (.string s)) lo hi none R n k = (strT P T = true ∧ wSome (lowI lo) fun i => wSome (highI s.size hi) fun j =>
    0 ≤ i ∧ i ≤ j ∧ j ≤ s.size ∧ k R n (.lit (.string (s.extract i.toNat j.toNat)))) := by
  simp only [← wSome_eq, effST, effS]
  apply propext
  constructor
  · rintro ⟨s', i, j, h0, h2, h3, h4, h5⟩
    simp only [Value.string.injEq] at h0
    subst h0
    exact ⟨h2, i, h3, j, h4, h5⟩
  · rintro ⟨h2, i, h3, j, h4, h5⟩; exact ⟨s, i, j, rfl, h2, h3, h4, h5⟩
@[go_sem] theorem effS_arr (T : TypeId) (l g q : Nat) (p : List Nat) : effST P T (.ptr l g q p) none none none R n k = wSome (tarr P T) fun NE => wSome (tsz P NE.2) fun sz => ((rdR R l g).get p).kd = .arr NE.1 sz ∧ (rdR R l g).inb p ∧ (rdR R l g).offOf p = q ∧ k R n (.msl l g q p 0 NE.1 sz) := by
  simp only [← wSome_eq, effST, effS]
  apply propext
  constructor
  · rintro ⟨_, _, N, E, sz, h1, h2, h3⟩; exact ⟨(N, E), h1, sz, h2, h3⟩
  · rintro ⟨⟨N, E⟩, h1, sz, h2, h3⟩; exact ⟨trivial, trivial, N, E, sz, h1, h2, h3⟩
@[go_sem] theorem effS_max (T : TypeId) (d dh dm : D) (lo : Option D) : effST P T d lo (some dh) (some dm) R n k = wSome (telem P T) fun E => (tsz P E).isSome = true ∧ wSome d.len fun n' => wSome (lowI lo) fun i => intD dh = some i ∧ intD dm = some i ∧ 0 ≤ i ∧ i ≤ n' ∧ k R n .nil := by
  simp only [← wSome_eq, effST, effS, Option.isSome_iff_exists]
  apply propext
  constructor
  · rintro ⟨E, n', sz, i, dh', h0, h1, h2, h3, h4, h5⟩
    obtain rfl := Option.some.inj h0
    exact ⟨E, h2, ⟨sz, h3⟩, n', h1, i, h4, h5⟩
  · rintro ⟨E, h2, ⟨sz, h3⟩, n', h1, i, h4, h5⟩; exact ⟨E, n', sz, i, dh, rfl, h1, h2, h3, h4, h5⟩
@[go_sem] theorem eff_index (T : TypeId) (x y : Operand) : effT P (.index T x y) dst ev R n k = (strT P T = true ∧ wSome (intD (ev y)) fun i => wStr (ev x) fun s => 0 ≤ i ∧ i < s.size ∧ k R n (.lit (.int .u8 (byteAt s i.toNat)))) := by
  simp only [effT, ← wSome_eq, eff]
  apply propext
  constructor
  · rintro ⟨s, i, h1, h2, h3, h4⟩; rw [h1]; exact ⟨h2, i, h3, h4⟩
  · rintro ⟨h2, i, h3, h4⟩
    generalize ev x = d at h4 ⊢
    cases d with
    | lit v => cases v with
      | string s => exact ⟨s, i, rfl, h2, h3, h4⟩
      | _ => exact h4.elim
    | _ => exact h4.elim
attribute [go_sem] Option.map_none Option.map_some
/-- a call that hands over roots -/
def OCall (P : Program) (f m : Nat) (cs : Nat → D) (xs : List Operand) (dst : Option Tmp) (ev : Operand → D) (R : Roots) (n : Nat) (k : Roots → Nat → D → Prop) : Prop :=
  ∃ ls : List Nat, ls.Nodup ∧ (∀ l ∈ ls, (R l).isSome = true) ∧ (∀ l ∈ ls, (rl 9 (labIn R ls) (cntR R l)).plain) ∧
    ICall P f ((xs.map fun x => rl 9 (labIn R ls) (ev x)) ++ (List.range m).map fun i => rl 9 (labIn R ls) (cs i)) (ls.map fun l => rl 9 (labIn R ls) (cntR R l))
      fun n0 n1 outs r => n ≤ n0 → ((List.range outs.length).map (outLab dst ls)).Nodup ∧ ∀ G bs, bsOk R ls n n1 outs.length bs → (∀ d ∈ outs, (rl 9 (labOut outs.length (outLab dst ls) G) d).plain) ∧
        k (addL (remL R ls) (labOut outs.length (outLab dst ls) G) G (outLab dst ls) bs 0 outs) n1 (rl 9 (labOut outs.length (outLab dst ls) G) r)
/-- a call -/
def XCall (P : Program) (f m : Nat) (cs : Nat → D) (xs : List Operand) (dst : Option Tmp) (ev : Operand → D) (R : Roots) (n : Nat) (k : Roots → Nat → D → Prop) : Prop :=
  OCall P f m cs xs dst ev R n k ∨ PCall P f ((xs.map fun x => rl 9 (labView R) (ev x)) ++ (List.range m).map fun i => rl 9 (labView R) (cs i)) fun n0 n1 r => n ≤ n0 → r.tags (n0 ≤ ·) ∧ k R n1 r
def XCallT (P : Program) (f m : Nat) (cs : Nat → D) (xs : List Operand) (dst : Option Tmp) (ev : Operand → D) (R : Roots) (n : Nat) (k : Roots → Nat → D → Prop) (Mk : Prop) (_ : Tok k := .mk) : Prop := XCall P f m cs xs dst ev R n k ∨ Mk
@[go_sem] theorem eff_call (fx : Operand) (xs : List Operand) (ts : Array TypeId) : effT P (.call { callee := .value fx, args := xs.toArray, argTypes := ts }) dst ev R n k =
    wFn (ev fx) fun fid m cs => XCallT P fid m cs xs dst ev R n k False := by
  have : effT P (.call { callee := .value fx, args := xs.toArray, argTypes := ts }) dst ev R n k = (match ev fx with
      | .fn fid m cs => XCall P fid m cs xs dst ev R n k
      | _ => False) := rfl
  rw [this]
  generalize ev fx = d
  cases d <;> simp [wFn, XCallT]
end effs
@[go_sem] theorem vcOp_eq (op : Op) : vcOpT P ⟨dst, op, ty, pos, after, gd⟩ st K = (st.dstOk dst ∧ effT P op dst st.ev st.R st.n fun R' n' r => K ((St.mk st.N n' st.s R').put dst r)) := (rfl)

variable (W : Nat → Prop)
@[go_sem] theorem vcM_move (x : Operand) : vcMT P W ⟨dst, .move x, ty, pos, after, gd⟩ st K = vcOpT P ⟨dst, .move x, ty, pos, after, gd⟩ st K := by simp [vcMT, vcOpT, vcM, mOp]
@[go_sem] theorem vcM_assign (x : Operand) : vcMT P W ⟨dst, .assign x, ty, pos, after, gd⟩ st K = vcOpT P ⟨dst, .assign x, ty, pos, after, gd⟩ st K := by simp [vcMT, vcOpT, vcM, mOp]
@[go_sem] theorem vcM_pick (c x y : Operand) : vcMT P W ⟨dst, .pick c x y, ty, pos, after, gd⟩ st K = vcOpT P ⟨dst, .pick c x y, ty, pos, after, gd⟩ st K := by simp [vcMT, vcOpT, vcM, mOp]
@[go_sem] theorem vcM_un (o : UnOp) (T : TypeId) (x : Operand) : vcMT P W ⟨dst, .unOp o T x, ty, pos, after, gd⟩ st K = vcOpT P ⟨dst, .unOp o T x, ty, pos, after, gd⟩ st K := by simp [vcMT, vcOpT, vcM, mOp]
@[go_sem] theorem vcM_bin (o : BinOp) (T T2 : TypeId) (x y : Operand) : vcMT P W ⟨dst, .binOp o T x y T2, ty, pos, after, gd⟩ st K = vcOpT P ⟨dst, .binOp o T x y T2, ty, pos, after, gd⟩ st K := by simp [vcMT, vcOpT, vcM, mOp]
@[go_sem] theorem vcM_conv (S T : TypeId) (x : Operand) : vcMT P W ⟨dst, .convert S T x, ty, pos, after, gd⟩ st K = vcOpT P ⟨dst, .convert S T x, ty, pos, after, gd⟩ st K := by simp [vcMT, vcOpT, vcM, mOp]
@[go_sem] theorem vcM_extract (x : Operand) (i : Nat) : vcMT P W ⟨dst, .extract x i, ty, pos, after, gd⟩ st K = vcOpT P ⟨dst, .extract x i, ty, pos, after, gd⟩ st K := by simp [vcMT, vcOpT, vcM, mOp]
@[go_sem] theorem vcM_nilCheck (x : Operand) : vcMT P W ⟨dst, .nilCheck x, ty, pos, after, gd⟩ st K = vcOpT P ⟨dst, .nilCheck x, ty, pos, after, gd⟩ st K := by simp [vcMT, vcOpT, vcM, mOp]
@[go_sem] theorem vcM_fieldAddr (T : TypeId) (x : Operand) (f : Nat) : vcMT P W ⟨dst, .fieldAddr T x f, ty, pos, after, gd⟩ st K = vcOpT P ⟨dst, .fieldAddr T x f, ty, pos, after, gd⟩ st K := by simp [vcMT, vcOpT, vcM, mOp]
@[go_sem] theorem vcM_indexAddr (T : TypeId) (x y : Operand) : vcMT P W ⟨dst, .indexAddr T x y, ty, pos, after, gd⟩ st K = vcOpT P ⟨dst, .indexAddr T x y, ty, pos, after, gd⟩ st K := by simp [vcMT, vcOpT, vcM, mOp]
@[go_sem] theorem vcM_load (T : TypeId) (x : Operand) : vcMT P W ⟨dst, .load T x, ty, pos, after, gd⟩ st K = vcOpT P ⟨dst, .load T x, ty, pos, after, gd⟩ st K := by simp [vcMT, vcOpT, vcM, mOp]
@[go_sem] theorem vcM_store (T : TypeId) (x y : Operand) : vcMT P W ⟨dst, .store T x y, ty, pos, after, gd⟩ st K = vcOpT P ⟨dst, .store T x y, ty, pos, after, gd⟩ st K := by simp [vcMT, vcOpT, vcM, mOp]
@[go_sem] theorem vcM_alloc (T : TypeId) : vcMT P W ⟨dst, .alloc T, ty, pos, after, gd⟩ st K = vcOpT P ⟨dst, .alloc T, ty, pos, after, gd⟩ st K := by simp [vcMT, vcOpT, vcM, mOp]
@[go_sem] theorem vcM_box (T : TypeId) (x : Operand) : vcMT P W ⟨dst, .box T x, ty, pos, after, gd⟩ st K = vcOpT P ⟨dst, .box T x, ty, pos, after, gd⟩ st K := by simp [vcMT, vcOpT, vcM, mOp]
@[go_sem] theorem vcM_build (T : TypeId) (ps : Array (Nat × Operand)) : vcMT P W ⟨dst, .build T ps, ty, pos, after, gd⟩ st K = vcOpT P ⟨dst, .build T ps, ty, pos, after, gd⟩ st K := by simp [vcMT, vcOpT, vcM, mOp]
@[go_sem] theorem vcM_buildSlice (T : TypeId) (n : Nat) (ps : Array (Nat × Operand)) : vcMT P W ⟨dst, .buildSlice T n ps, ty, pos, after, gd⟩ st K = vcOpT P ⟨dst, .buildSlice T n ps, ty, pos, after, gd⟩ st K := by simp [vcMT, vcOpT, vcM, mOp]
@[go_sem] theorem vcM_makeSlice (T : TypeId) (x y : Operand) : vcMT P W ⟨dst, .makeSlice T x y, ty, pos, after, gd⟩ st K = vcOpT P ⟨dst, .makeSlice T x y, ty, pos, after, gd⟩ st K := by simp [vcMT, vcOpT, vcM, mOp]
@[go_sem] theorem vcM_makeFunc (f : Fn) (a b : Array Operand) : vcMT P W ⟨dst, .makeFunc f a b, ty, pos, after, gd⟩ st K = vcOpT P ⟨dst, .makeFunc f a b, ty, pos, after, gd⟩ st K := by simp [vcMT, vcOpT, vcM, mOp]
@[go_sem] theorem vcM_slice (T : TypeId) (x : Operand) (lo hi mx : Option Operand) : vcMT P W ⟨dst, .slice T x lo hi mx, ty, pos, after, gd⟩ st K = vcOpT P ⟨dst, .slice T x lo hi mx, ty, pos, after, gd⟩ st K := by simp [vcMT, vcOpT, vcM, mOp]
@[go_sem] theorem vcM_index (T : TypeId) (x y : Operand) : vcMT P W ⟨dst, .index T x y, ty, pos, after, gd⟩ st K = vcOpT P ⟨dst, .index T x y, ty, pos, after, gd⟩ st K := by simp [vcMT, vcOpT, vcM, mOp]
@[go_sem] theorem vcM_builtin (b : Builtin) (xs : Array Operand) (ts : Array TypeId) : vcMT P W ⟨dst, .call { callee := .builtin b, args := xs, argTypes := ts }, ty, pos, after, gd⟩ st K = vcOpT P ⟨dst, .call { callee := .builtin b, args := xs, argTypes := ts }, ty, pos, after, gd⟩ st K := by simp [vcMT, vcOpT, vcM, mOp]
def MEffT (P : Program) (W : Nat → Prop) (f m : Nat) (cs : Nat → D) (xs : List Operand) (dst : Option Tmp) (st : St) (K : St → Prop) (_ : Tok K := .mk) (_ : Tok xs := .mk) : Prop :=
  (MEff P W f m xs dst st K ∨ AEff P W f m xs dst st K) ∨ XCall P f m cs xs dst st.ev st.R st.n fun R' n' r => Conv W K ((St.mk st.N n' st.s R').put dst r)
@[go_sem] theorem vcM_call (fx : Operand) (xs : List Operand) (ts : Array TypeId) : vcMT P W ⟨dst, .call { callee := .value fx, args := xs.toArray, argTypes := ts }, ty, pos, after, gd⟩ st K =
    (st.dstOk dst ∧ wFn (st.ev fx) fun fid m cs => XCallT P fid m cs xs dst st.ev st.R st.n (fun R' n' r => K ((St.mk st.N n' st.s R').put dst r)) (MEffT P W fid m cs xs dst st K)) := by
  have h1 : vcMT P W ⟨dst, .call { callee := .value fx, args := xs.toArray, argTypes := ts }, ty, pos, after, gd⟩ st K = (vcOpT P ⟨dst, .call { callee := .value fx, args := xs.toArray, argTypes := ts }, ty, pos, after, gd⟩ st K ∨ (st.dstOk dst ∧ match st.ev fx with
      | .fn fid m _ => MEff P W fid m xs dst st K ∨ AEff P W fid m xs dst st K
      | _ => False) ∨ vcOpT P ⟨dst, .call { callee := .value fx, args := xs.toArray, argTypes := ts }, ty, pos, after, gd⟩ st (Conv W K)) := rfl
  rw [h1, vcOp_eq, vcOp_eq, eff_call, eff_call, ← and_or_left, ← and_or_left]
  congr 1
  generalize st.ev fx = d
  cases d <;> simp [wFn, XCallT, MEffT]
variable (gs : List (Option Tmp))
@[go_sem] theorem gsT_nil : gsT [] = [] := (rfl)
@[go_sem] theorem gsT_cons (op : Op) : gsT (⟨dst, op, ty, pos, after, gd⟩ :: rest) = dst :: gsT rest := (rfl)
@[go_sem] theorem vcL_nil : vcLT P W gs K [] st = K st := (rfl)
@[go_sem] theorem vcL_free (op : Op) : vcLT P W gs K (⟨dst, op, ty, pos, after, none⟩ :: rest) st = vcMT P W ⟨dst, op, ty, pos, after, none⟩ st fun st => vcLT P W gs K rest st := (rfl)
/-- a test: what is not taken is not looked at -/
def wGd (b want : Bool) (X Y : Prop) (_ : Tok X := .mk) (_ : Tok Y := .mk) : Prop := (b = want → X) ∧ (b = !want → Y)
@[go_sem] theorem wGd_tt (X Y : Prop) : wGd true true X Y = X := by simp [wGd]
@[go_sem] theorem wGd_ft (X Y : Prop) : wGd false true X Y = Y := by simp [wGd]
@[go_sem] theorem wGd_tf (X Y : Prop) : wGd true false X Y = Y := by simp [wGd]
@[go_sem] theorem wGd_ff (X Y : Prop) : wGd false false X Y = X := by simp [wGd]
@[go_sem low] theorem wGd_t (b : Bool) (X Y : Prop) : wGd b true X Y = ((b = true → X) ∧ (b = false → Y)) := rfl
@[go_sem low] theorem wGd_f (b : Bool) (X Y : Prop) : wGd b false X Y = ((b = false → X) ∧ (b = true → Y)) := rfl
theorem vcL_guard (op : Op) (j : Nat) (want : Bool) : vcLT P W gs K (⟨dst, op, ty, pos, after, some (j, want)⟩ :: rest) st =
    wSome ((gs[j]?).bind id) fun t => t < st.N ∧ wTest (st.s t) (fun b => wGd b want (vcMT P W ⟨dst, op, ty, pos, after, some (j, want)⟩ (st.know (.tmp t) want) fun st => vcLT P W gs K rest st)
          (st.dstOk dst ∧ vcLT P W gs K rest ((st.know (.tmp t) (!want)).put dst und))) (st.dstOk dst ∧ vcLT P W gs K rest (st.put dst und)) := by
  simp only [vcLT, vcLg, vcMT, wGd]
  cases (gs[j]?).bind id with
  | none => rfl
  | some t =>
    simp only [wSome, wTest_eq]
attribute [go_sem] vcL_guard List.getElem?_toArray List.getElem?_cons_zero List.getElem?_cons_succ Option.bind_some id_eq

attribute [go_sem] rl_lit rl_nil rl_any rl_tup

@[go_sem] theorem bin_lss (T : TypeId) (k : IntKind) (a b : Int) : bin P T .lss (.int k a) (.int k b) = some (.bool (decide (a < b))) := by simp [bin]
@[go_sem] theorem bin_leq (T : TypeId) (k : IntKind) (a b : Int) : bin P T .leq (.int k a) (.int k b) = some (.bool (decide (a ≤ b))) := by simp [bin]
@[go_sem] theorem bin_gtr (T : TypeId) (k : IntKind) (a b : Int) : bin P T .gtr (.int k a) (.int k b) = some (.bool (decide (b < a))) := by simp [bin]
@[go_sem] theorem bin_geq (T : TypeId) (k : IntKind) (a b : Int) : bin P T .geq (.int k a) (.int k b) = some (.bool (decide (b ≤ a))) := by simp [bin]
@[go_sem] theorem bin_eql (T : TypeId) (k : IntKind) (a b : Int) : bin P T .eql (.int k a) (.int k b) = some (.bool (a == b)) := by simp [bin]
@[go_sem] theorem bin_neq (T : TypeId) (k : IntKind) (a b : Int) : bin P T .neq (.int k a) (.int k b) = some (.bool (a != b)) := by simp [bin]
@[go_sem] theorem bin_add (T : TypeId) (k : IntKind) (a b : Int) : bin P T .add (.int k a) (.int k b) = some (.int k (k.wrap (a + b))) := by simp [bin]
@[go_sem] theorem bin_sub (T : TypeId) (k : IntKind) (a b : Int) : bin P T .sub (.int k a) (.int k b) = some (.int k (k.wrap (a - b))) := by simp [bin]
@[go_sem] theorem bin_mul (T : TypeId) (k : IntKind) (a b : Int) : bin P T .mul (.int k a) (.int k b) = some (.int k (k.wrap (a * b))) := by simp [bin]

end
end Go.Proofs.Ytjaddgkhlmallaa.IM
