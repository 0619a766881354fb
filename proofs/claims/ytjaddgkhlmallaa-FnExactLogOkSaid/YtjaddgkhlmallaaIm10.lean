/- The whole of an operation over abstract states, and of a region whose order is fixed. Nothing of a program is in it. -/
import Derived.Test.YtjaddgkhlmallaaIm9
import Derived.Test.YtjaddgkhlmallaaIm7d
import Derived.Test.YtjaddgkhlmallaaIm9b
namespace Go.Proofs.Ytjaddgkhlmallaa.IM
open Go Go.RowKit
set_option linter.unusedVariables false

/-- the parts of a struct -/
def nthD : List D → Nat → D
  | [], _ => .any
  | d :: _, 0 => d
  | _ :: l, i + 1 => nthD l i

/-- a type's zero as an abstract value -/
def zdn (P : Program) : Nat → TypeId → D
  | 0, _ => .any
  | n + 1, T =>
    match P.underlying T with
    | some (.int k) => .lit (.int k 0)
    | some .bool => .lit (.bool false)
    | some .string => .lit (.string ⟨#[]⟩)
    | some (.slice _) => .nil
    | some (.struct fs) => .node (.agg (fs.toList.map fun f => (tsz P f.type).getD 0)) (nthD (fs.toList.map fun f => zdn P n f.type))
    | some (.array k e) => .node (.arr k ((tsz P e).getD 0)) fun _ => zdn P n e
    | _ => .any
def zd (P : Program) (T : TypeId) : D := zdn P 10 T

def rdR (R : Roots) (l g : Nat) : D :=
  match R l with
  | some (g', _, d) => if g' = g then d else .any
  | none => .any
def wrR (R : Roots) (l : Nat) (d : D) : Roots := upd R l ((R l).map fun x => (x.1, x.2.1, d))

/-- a length -/
def lenT (P : Program) (T : TypeId) : D → Option Nat
  | .lit (.string s) => if strT P T = true then some s.size else none
  | d => if (telem P T).isSome = true then d.len else none

/-- the builtins -/
def effB (P : Program) (b : Builtin) (ds : List D) (ts : Array TypeId) (dst : Option Tmp) (R : Roots) (n : Nat) (k : Roots → Nat → D → Prop) : Prop :=
  match b, ds with
  | .len, [d] => ∃ T m, ts = #[T] ∧ lenT P T d = some m ∧ k R n (.lit (.int .i64 m))
  | .append, [d, d'] => ∃ T T' l E by_ lo n0 f m sz f', ts = #[T, T'] ∧ dst = some l ∧ telem P T = some E ∧ tbytes P E = some by_ ∧ ZeroOk P E (zd P E) ∧ tsz P E = some (zd P E).size ∧
      headD R (zd P E).size d = some (lo, n0, f) ∧ srcT P T T' d' ∧ srcD R d' = some (m, sz, f') ∧ (∀ y, sz = some y → y = (zd P E).size) ∧ (n0 + m) * by_ ≤ 140737488355328 ∧ n0 + m ≤ 9223372036854775807 ∧
      (lo = none → m = 0 → k R n .nil) ∧ ((lo = none → 0 < m) → ∀ g b n', n ≤ n' → b < n' → (n ≤ b ∨ blkR R lo = some b) → k (upd R (lo.getD l) (some (g, b, .node (.arr (n0 + m) (zd P E).size) (catD n0 f f')))) n' (.msl (lo.getD l) g 0 [] 0 (n0 + m) (zd P E).size))
  | .max, [d, d'] => ∃ T T' kd i j, ts = #[T, T'] ∧ d = .lit (.int kd i) ∧ d' = .lit (.int kd j) ∧ k R n (.lit (.int kd (max i j)))
  | .min, [d, d'] => ∃ T T' kd i j, ts = #[T, T'] ∧ d = .lit (.int kd i) ∧ d' = .lit (.int kd j) ∧ k R n (.lit (.int kd (min i j)))
  | _, _ => False

/-- slicings -/
def effS (P : Program) (T : TypeId) (d : D) (lo hi mx : Option D) (R : Roots) (n : Nat) (k : Roots → Nat → D → Prop) : Prop :=
  match mx with
  | some dm => ∃ E n' sz i dh, hi = some dh ∧ d.len = some n' ∧ telem P T = some E ∧ tsz P E = some sz ∧ lowI lo = some i ∧ intD dh = some i ∧ intD dm = some i ∧ 0 ≤ i ∧ i ≤ n' ∧ k R n .nil
  | none =>
    match d with
    | .nil => ∃ E sz, telem P T = some E ∧ tsz P E = some sz ∧ lowI lo = some 0 ∧ highI 0 hi = some 0 ∧ k R n .nil
    | .sl t zb m sz f => ∃ E i j, telem P T = some E ∧ tsz P E = some sz ∧ lowI lo = some i ∧ highI m hi = some j ∧ 0 ≤ i ∧ i ≤ j ∧ j ≤ m ∧ k R n (.sl t (zb && i == 0) (j - i).toNat sz fun q => f (i.toNat + q))
    | .msl l g q p i0 m sz => ∃ E i j, telem P T = some E ∧ tsz P E = some sz ∧ lowI lo = some i ∧ highI m hi = some j ∧ 0 ≤ i ∧ i ≤ j ∧ j ≤ m ∧
        (i = 0 → k R n (.msl l g q p i0 j.toNat sz)) ∧ (0 < i → k R n (.msl l g (q + i.toNat * sz) p (i0 + i.toNat) (j - i).toNat sz) ∧ (i = m → k R n .nil))
    | .lit v => ∃ s i j, v = .string s ∧ strT P T = true ∧ lowI lo = some i ∧ highI s.size hi = some j ∧ 0 ≤ i ∧ i ≤ j ∧ j ≤ s.size ∧ k R n (.lit (.string (s.extract i.toNat j.toNat)))
    | .ptr l g q p => lo = none ∧ hi = none ∧ ∃ N E sz, tarr P T = some (N, E) ∧ tsz P E = some sz ∧ ((rdR R l g).get p).kd = .arr N sz ∧ (rdR R l g).inb p ∧ (rdR R l g).offOf p = q ∧ k R n (.msl l g q p 0 N sz)
    | _ => False

/-- what an operation does: of the values at hand, the roots and the mark of what is new, what it leaves -/
def eff (P : Program) (op : Op) (dst : Option Tmp) (ev : Operand → D) (R : Roots) (n : Nat) (k : Roots → Nat → D → Prop) : Prop :=
  match op with
  | .move x => k R n (ev x)
  | .assign x => k R n (ev x)
  | .pick c x y => ∃ t, ev c = .lit (.bool t) ∧ k R n (if t then ev x else ev y)
  | .unOp .not _ x => ∃ t, ev x = .lit (.bool t) ∧ k R n (.lit (.bool (!t)))
  | .unOp .neg _ x => ∃ kd i, ev x = .lit (.int kd i) ∧ k R n (.lit (.int kd (kd.wrap (0 - i))))
  | .binOp .eql T x (.const (.slice none 0 0)) _ => ∃ E r, telem P T = some E ∧ nilD (ev x) = some r ∧ ∀ b : Bool, (r = none ∨ r = some b) → k R n (.lit (.bool b))
  | .binOp op T x y _ => ∃ u v r, ev x = .lit u ∧ ev y = .lit v ∧ bin P T op u v = some r ∧ k R n (.lit r)
  | .convert S T x => ∃ kd k' i, ev x = .lit (.int k' i) ∧ (P.underlying S).isSome = true ∧ tint P T = some kd ∧ k R n (.lit (.int kd (kd.wrap i)))
  | .extract x i => ∃ m f, ev x = .tup m f ∧ i < m ∧ k R n (f i)
  | .nilCheck x => (ev x).isRef ∧ k R n (ev x)
  | .fieldAddr T x f => ∃ o' t m, tfield P T f = some (o', t) ∧ tsz P t = some m ∧ m ≠ 0 ∧
      match ev x with
      | .ptr l g q p => k R n (.ptr l g (q + o') (p ++ [f]))
      | .cptr d => f < d.kd.cnt ∧ d.kd.off f = o' ∧ k R n (.cptr (d.chd f))
      | _ => False
  | .indexAddr T x y => ∃ kd i, ev y = .lit (.int kd i) ∧
      match ev x with
      | .msl l g q p j m sz => ∃ E, telem P T = some E ∧ tsz P E = some sz ∧ 0 ≤ i ∧ i < m ∧ k R n (.ptr l g (q + i.toNat * sz) (p ++ [j + i.toNat]))
      | .sl t zb m sz f => ∃ E, telem P T = some E ∧ tsz P E = some sz ∧ 0 ≤ i ∧ i < m ∧ k R n (.cptr (f i.toNat))
      | .ptr l g q p => ∃ m E sz, tarr P T = some (m, E) ∧ tsz P E = some sz ∧ 0 ≤ i ∧ i < m ∧ k R n (.ptr l g (q + i.toNat * sz) (p ++ [i.toNat]))
      | .cptr d => ∃ m E sz, tarr P T = some (m, E) ∧ tsz P E = some sz ∧ d.kd = .arr m sz ∧ 0 ≤ i ∧ i < m ∧ k R n (.cptr (d.chd i.toNat))
      | _ => False
  | .load T x =>
      match ev x with
      | .ptr l g q p => TyOk P T ((rdR R l g).get p) ∧ (rdR R l g).inb p ∧ (rdR R l g).offOf p = q ∧ k R n ((rdR R l g).get p)
      | .cptr d => TyOk P T d ∧ k R n d
      | _ => False
  | .store T x y =>
      match ev x with
      | .ptr l g q p => ((rdR R l g).get p).plain ∧ (rdR R l g).inb p ∧ (rdR R l g).offOf p = q ∧
          (∃ m, tsz P T = some m ∧ ((rdR R l g).get p).size = m ∧ (ev y).size = m) ∧ (ev y).plain ∧ k (wrR R l ((rdR R l g).set p (ev y))) n .any
      | _ => False
  | .alloc T => ∃ l, dst = some l ∧ ZeroOk P T (zd P T) ∧ ∀ g b, n ≤ b → k (upd R l (some (g, b, zd P T))) (b + 1) (.ptr l g 0 [])
  | .box T x => ∃ l, dst = some l ∧ (ev x).plain ∧ ∀ g b, n ≤ b → k (upd R l (some (g, b, ev x))) (b + 1) (.ptr l g 0 [])
  | .build T parts => ∃ pl, tplaces P T = some pl ∧ ZeroOk P T (zd P T) ∧ buildD (fun i => pl[i]?) ev (zd P T) parts.toList fun d => d.isNode = some true ∧ k R n d
  | .buildSlice T len parts => ∃ l E, dst = some l ∧ telem P T = some E ∧ ZeroOk P E (zd P E) ∧ tsz P E = some (zd P E).size ∧ len * (zd P E).size ≤ 16777216 ∧
      buildD (fun i => some (i * (zd P E).size, (zd P E).size)) ev (.node (.arr len (zd P E).size) fun _ => zd P E) parts.toList fun d => d.plain ∧ ∀ g b, n ≤ b → k (upd R l (some (g, b, d))) (b + 1) (.msl l g 0 [] 0 len (zd P E).size)
  | .makeSlice T x y => ∃ l E by_ kx ky i c, dst = some l ∧ telem P T = some E ∧ ZeroOk P E (zd P E) ∧ tbytes P E = some by_ ∧ tsz P E = some (zd P E).size ∧ ev x = .lit (.int kx i) ∧ ev y = .lit (.int ky c) ∧
      0 ≤ i ∧ i ≤ c ∧ (by_ : Int) * c ≤ 281474976710656 ∧ c ≤ 9223372036854775807 ∧
      ∀ g b, n ≤ b → k (upd R l (some (g, b, .node (.arr i.toNat (zd P E).size) fun _ => zd P E))) (b + 1) (.msl l g 0 [] 0 i.toNat (zd P E).size)
  | .slice T x lo hi mx => effS P T (ev x) (lo.map ev) (hi.map ev) (mx.map ev) R n k
  | .index T x y => ∃ s i, ev x = .lit (.string s) ∧ strT P T = true ∧ intD (ev y) = some i ∧ 0 ≤ i ∧ i < s.size ∧ k R n (.lit (.int .u8 (byteAt s i.toNat)))
  | .makeFunc (.func f) first cap => first = #[] ∧ (∀ i, i < cap.size → (ev (cap.getD i (.const .nilFunc))).isRef) ∧ k R n (.fn f cap.size fun i => ev (cap.getD i (.const .nilFunc)))
  | .call c =>
    match c.callee with
    | .builtin b => effB P b (c.args.toList.map ev) c.argTypes dst R n k
    | .value fx =>
      match ev fx with
      | .fn fid m cs =>
        (∃ ls : List Nat, ls.Nodup ∧ (∀ l ∈ ls, (R l).isSome = true) ∧ (∀ l ∈ ls, (rl 9 (labIn R ls) (cntR R l)).plain) ∧
          ICall P fid ((c.args.toList.map fun x => rl 9 (labIn R ls) (ev x)) ++ (List.range m).map fun i => rl 9 (labIn R ls) (cs i)) (ls.map fun l => rl 9 (labIn R ls) (cntR R l))
            fun n0 n1 outs r => n ≤ n0 → ((List.range outs.length).map (outLab dst ls)).Nodup ∧ ∀ G bs, bsOk R ls n n1 outs.length bs → (∀ d ∈ outs, (rl 9 (labOut outs.length (outLab dst ls) G) d).plain) ∧
              k (addL (remL R ls) (labOut outs.length (outLab dst ls) G) G (outLab dst ls) bs 0 outs) n1 (rl 9 (labOut outs.length (outLab dst ls) G) r)) ∨
        PCall P fid ((c.args.toList.map fun x => rl 9 (labView R) (ev x)) ++ (List.range m).map fun i => rl 9 (labView R) (cs i)) fun n0 n1 r => n ≤ n0 → r.tags (n0 ≤ ·) ∧ k R n1 r
      | _ => False
    | _ => False
  | _ => False

def vcOp (P : Program) (o : Oper) (st : St) (K : St → Prop) : Prop :=
  st.dstOk o.dst ∧ eff P o.op o.dst st.ev st.R st.n fun R' n' r => K (({ N := st.N, n := n', s := st.s, R := R' } : St).put o.dst r)

theorem node_of_cnt {d : D} {f : Nat} (h : f < d.kd.cnt) : d = .node d.kd d.chd := by
  cases d with
  | node k c => rfl
  | _ => simp [D.kd, Kd.cnt] at h
theorem node_of_arr {d : D} {n sz : Nat} (h : d.kd = .arr n sz) : d = .node (.arr n sz) d.chd := by
  cases d with
  | node k c => simp [D.kd] at h; subst h; rfl
  | _ => simp [D.kd] at h

theorem node_of_arr' {d : D} {n sz : Nat} (h : d.kd = .arr n sz) : ∃ f, d = .node (.arr n sz) f := ⟨_, node_of_arr h⟩
theorem one_of {f : Operand → D} {xs : Array Operand} {d : D} (h : xs.toList.map f = [d]) : ∃ x, xs = #[x] ∧ f x = d := by
  obtain ⟨l⟩ := xs
  match l, h with
  | [x], h => simp at h; exact ⟨x, rfl, h⟩
theorem two_of {f : Operand → D} {xs : Array Operand} {d d' : D} (h : xs.toList.map f = [d, d']) : ∃ x y, xs = #[x, y] ∧ f x = d ∧ f y = d' := by
  obtain ⟨l⟩ := xs
  match l, h with
  | [x, y], h => simp at h; exact ⟨x, y, rfl, h.1, h.2⟩

section ops
variable {P : Program} {w0 : World} {M : Fr} {st : St} {e : Env} {a : Act} {K : St → Prop} {Q : Exit → Act → World → Prop}
variable {dst : Option Tmp} {ty : TypeId} {pos : String} {after : Array Edge} {gd : Option (Nat × Bool)}

theorem op_lenT (h : Good w0 M st e a) (T : TypeId) (x : Operand) {n : Nat} (hx : lenT P T (st.ev x) = some n) (hd : st.dstOk dst) (hK : K (st.put dst (.lit (.int .i64 n)))) :
    (Oper.mk dst (.call { callee := .builtin .len, args := #[x], argTypes := #[T] }) ty pos after gd).wp P a e.w (Lift w0 M K) Q := by
  unfold lenT at hx
  split at hx
  · rename_i s hs
    split at hx
    · rename_i hT
      simp only [Option.some.injEq] at hx
      subst hx
      exact op_len_str h T x hs (strT_spec hT) hd hK
    · cases hx
  · split at hx
    · rename_i hT
      obtain ⟨E, hE⟩ := Option.isSome_iff_exists.1 hT
      exact op_len h T x hx hE hd hK
    · cases hx

theorem effB_sound (h : Good w0 M st e a) (b : Builtin) (xs : Array Operand) (ts : Array TypeId) (hd : st.dstOk dst) (hv : effB P b (xs.toList.map st.ev) ts dst st.R st.n fun R' n' r => K (({ N := st.N, n := n', s := st.s, R := R' } : St).put dst r)) :
    (Oper.mk dst (.call { callee := .builtin b, args := xs, argTypes := ts }) ty pos after gd).wp P a e.w (Lift w0 M K) Q := by
  unfold effB at hv
  split at hv
  · rename_i d hx
    obtain ⟨x, rfl, rfl⟩ := one_of hx
    obtain ⟨T, m, rfl, h1, h2⟩ := hv
    exact op_lenT h T x h1 hd h2
  · rename_i d d' hx
    obtain ⟨x, y, rfl, rfl, rfl⟩ := two_of hx
    obtain ⟨T, T', l, E, by_, lo, n0, f, m, sz, f', rfl, rfl, h1, h2, h3, h4, h5, h6, h7, h8, h9, h10, h11, h12⟩ := hv
    exact op_append h x y T T' h1 h3 h2 h4 h5 h6 h7 h8 h9 h10 rfl hd h11 h12
  · rename_i d d' hx
    obtain ⟨x, y, rfl, rfl, rfl⟩ := two_of hx
    obtain ⟨T, T', kd, i, j, rfl, h1, h2, h3⟩ := hv
    exact op_max h x y T T' h1 h2 hd h3
  · rename_i d d' hx
    obtain ⟨x, y, rfl, rfl, rfl⟩ := two_of hx
    obtain ⟨T, T', kd, i, j, rfl, h1, h2, h3⟩ := hv
    exact op_min h x y T T' h1 h2 hd h3
  · exact hv.elim

theorem effS_sound (h : Good w0 M st e a) (T : TypeId) (x : Operand) (lo hi mx : Option Operand) (hd : st.dstOk dst) (hv : effS P T (st.ev x) (lo.map st.ev) (hi.map st.ev) (mx.map st.ev) st.R st.n fun R' n' r => K (({ N := st.N, n := n', s := st.s, R := R' } : St).put dst r)) :
    (Oper.mk dst (.slice T x lo hi mx) ty pos after gd).wp P a e.w (Lift w0 M K) Q := by
  cases mx with
  | some mx =>
    obtain ⟨E, n', sz, i, dh, h0, h1, h2, h3, h4, h5, h6, h7, h8, h9⟩ := hv
    cases hi with
    | none => cases h0
    | some hx =>
      simp only [Option.map_some, Option.some.injEq] at h0
      subst h0
      exact op_slice_zero h T x lo hx mx h1 h2 h3 h4 h5 h6 h7 h8 hd h9
  | none =>
    simp only [Option.map_none, effS] at hv
    split at hv
    · rename_i hx; obtain ⟨E, sz, h1, h2, h3, h4, h5⟩ := hv; exact op_slice_nil h T x lo hi hx h1 h2 h3 h4 hd h5
    · rename_i hx; obtain ⟨E, i, j, h1, h2, h3, h4, h5, h6, h7, h8⟩ := hv; exact op_slice_sl h T x lo hi hx h1 h2 h3 h4 h5 h6 h7 hd h8
    · rename_i hx; obtain ⟨E, i, j, h1, h2, h3, h4, h5, h6, h7, h8, h9⟩ := hv; exact op_slice_msl h T x lo hi hx h1 h2 h3 h4 h5 h6 h7 hd h8 h9
    · rename_i hx; obtain ⟨s, i, j, rfl, h2, h3, h4, h5, h6, h7, h8⟩ := hv; exact op_slice_str h T x lo hi hx h2 h3 h4 h5 h6 h7 hd h8
    · rename_i hx
      obtain ⟨h1, h2, N, E, sz, h3, h4, h5, h6, h7, h8⟩ := hv
      cases lo with
      | some _ => cases h1
      | none =>
        cases hi with
        | some _ => cases h2
        | none =>
          obtain ⟨f, hf⟩ := node_of_arr' h5
          exact op_slice_arr h T x hx h3 h4 h6 h7 hf hd h8
    · exact hv.elim

theorem vop_sound (h : Good w0 M st e a) (o : Oper) (hv : vcOp P o st K) : o.wp P a e.w (Lift w0 M K) Q := by
  obtain ⟨dst, op, ty, pos, after, gd⟩ := o
  obtain ⟨hd, hv⟩ := hv
  simp only [eff] at hd hv
  split at hv
  · exact op_move h _ hd hv
  · exact op_assign h _ hd hv
  · obtain ⟨t, h1, h2⟩ := hv; exact op_pick h _ _ _ h1 hd h2
  · obtain ⟨t, h1, h2⟩ := hv; exact op_not h _ _ h1 hd h2
  · obtain ⟨k, n, h1, h2⟩ := hv; exact op_neg h _ _ h1 hd h2
  · obtain ⟨E, r, h1, h2, h3⟩ := hv; exact op_eqNil (ty := _) h _ _ _ false h1 h2 hd (by simpa using h3)
  · obtain ⟨u, v, r, h1, h2, h3, h4⟩ := hv; exact op_bin h _ _ _ _ _ h1 h2 h3 hd h4
  · obtain ⟨k, k', n, h1, h2, h3, h4⟩ := hv; exact op_conv h _ _ _ h1 h2 h3 hd h4
  · obtain ⟨n, f, h1, h2, h3⟩ := hv; exact op_extract h _ h1 h2 hd h3
  · exact op_nilCheck h _ hv.1 hd hv.2
  · obtain ⟨o', t, n, h1, h2, h3, h4⟩ := hv
    split at h4
    · rename_i hx; exact op_fieldAddr_ptr h _ _ hx h1 h2 h3 hd h4
    · rename_i hx
      obtain ⟨h5, h6, h7⟩ := h4
      rw [node_of_cnt h5] at hx
      exact op_fieldAddr_cptr h _ _ hx h1 h2 h3 hd h5 h6 h7
    · exact h4.elim
  · obtain ⟨k, i, h1, h2⟩ := hv
    split at h2
    · rename_i hx; obtain ⟨E, h3, h4, h5, h6, h7⟩ := h2; exact op_indexAddr_msl h _ _ _ hx h1 h3 h4 h5 h6 hd h7
    · rename_i hx; obtain ⟨E, h3, h4, h5, h6, h7⟩ := h2; exact op_indexAddr_sl h _ _ _ hx h1 h3 h4 h5 h6 hd h7
    · rename_i hx; obtain ⟨n, E, sz, h3, h4, h5, h6, h7⟩ := h2; exact op_indexAddr_arr h _ _ _ hx h1 h3 h4 h5 h6 hd h7
    · rename_i hx
      obtain ⟨n, E, sz, h3, h4, h5, h6, h7, h8⟩ := h2
      rw [node_of_arr h5] at hx
      exact op_indexAddr_carr h _ _ _ hx h1 h3 h4 h6 h7 hd h8
    · exact h2.elim
  · split at hv
    · rename_i hx; obtain ⟨h1, h2, h3, h4⟩ := hv; exact op_load_ptr h _ _ hx h1 h2 h3 hd h4
    · rename_i hx; exact op_load_cptr h _ _ hx hv.1 hd hv.2
    · exact hv.elim
  · split at hv
    · rename_i hx; obtain ⟨h1, h2, h3, ⟨n, h4, h5, h6⟩, h7, h8⟩ := hv; exact op_store h _ _ _ hx h1 h2 h3 h4 h5 h7 h6 hd h8
    · exact hv.elim
  · obtain ⟨l, rfl, h2, h3⟩ := hv; exact op_alloc h _ rfl hd h2 h3
  · obtain ⟨l, rfl, h2, h3⟩ := hv; exact op_box h _ _ rfl hd h2 h3
  · obtain ⟨pl, h1, h2, h3⟩ := hv; exact op_build h _ _ h1 h2 hd h3
  · obtain ⟨l, E, rfl, h1, h2, h3, h4, h5⟩ := hv; exact op_buildSlice h _ _ _ h1 h2 h3 h4 rfl hd h5
  · obtain ⟨l, E, by_, kx, ky, i, c, rfl, h1, h2, h3, h4, h5, h6, h7, h8, h9, h10, h11⟩ := hv; exact op_makeSlice h _ _ _ h1 h2 h3 h4 h5 h6 h7 h8 h9 h10 rfl hd h11
  · exact effS_sound h _ _ _ _ _ hd hv
  · obtain ⟨s, i, h1, h2, h3, h4, h5, h6⟩ := hv; exact op_index_str h _ _ _ h1 h2 h3 h4 h5 hd h6
  · obtain ⟨rfl, h1, h2⟩ := hv; exact op_makeFunc h _ _ hd h2 h1
  · rename_i c
    obtain ⟨ce, ca, ct⟩ := c
    simp only at hv
    split at hv
    · exact effB_sound h _ _ _ hd hv
    · split at hv
      · rename_i hx
        rcases hv with ⟨ls, h1, h2, h3, h4⟩ | hv
        · exact op_icall h _ _ _ hx hd ls h1 h2 h3 h4
        · exact op_vcall h _ _ _ hx hd hv
      · exact hv.elim
    · exact hv.elim
  · exact hv.elim

/-- a call that writes over blocks of plain data -/
def mOp (P : Program) (W : Nat → Prop) (o : Oper) (st : St) (K : St → Prop) : Prop :=
  match o.op with
  | .call c => match c.callee with
    | .value fx => (st.dstOk o.dst ∧ match st.ev fx with
      | .fn fid m _ => MEff P W fid m c.args.toList o.dst st K ∨ AEff P W fid m c.args.toList o.dst st K
      | _ => False) ∨ vcOp P o st (Conv W K)
    | _ => False
  | _ => False
def vcM (P : Program) (W : Nat → Prop) (o : Oper) (st : St) (K : St → Prop) : Prop := vcOp P o st K ∨ mOp P W o st K

theorem vopM_sound {P : Program} {w0 : World} {M : Fr} {st : St} {e : Env} {a : Act} {K : St → Prop} {Q : Exit → Act → World → Prop} {W : Nat → Prop} (hW : ∀ b, W b → w0.heap.size ≤ b ∨ M.m b) (h : Good w0 M st e a) (o : Oper) (hv : vcM P W o st K) : o.wp P a e.w (Lift w0 M K) Q := by
  rcases hv with hv | hv
  · exact vop_sound h o hv
  · obtain ⟨dst, op, ty, pos, after, gd⟩ := o
    simp only [mOp] at hv
    split at hv
    · rename_i c
      obtain ⟨ce, ca, ct⟩ := c
      simp only at hv
      split at hv
      · rcases hv with ⟨hd, hv⟩ | hv
        · split at hv
          · rename_i hx
            rcases hv with hv | hv
            · exact op_mcall h _ _ _ hx hd hW hv
            · exact op_acall h _ _ _ hx hd hW hv
          · exact hv.elim
        · refine Oper.wp_mono (fun a' w' ⟨st', ⟨m, h1⟩, h2⟩ => ?_) (vop_sound h _ hv)
          exact SR.conv hW m st' h2 h1
      · exact hv.elim
    · exact hv.elim

/-- what stands where an operation was passed over -/
def und : D := .tup 0 fun _ => .any
theorem VRep_und (e : Env) : VRep e und undef := ⟨#[], rfl, rfl, fun i hi => absurd hi (Nat.not_lt_zero i)⟩
/-- the operations of a region, one behind the other -/
def vcL (P : Program) (W : Nat → Prop) (ops : Array Oper) (K : St → Prop) : List Oper → St → Prop
  | [], st => K st
  | o :: rest, st =>
    match o.guard with
    | none => vcM P W o st (vcL P W ops K rest)
    | some (j, want) =>
      match (ops[j]?).bind (·.dst) with
      | some t => t < st.N ∧ ((∃ b, st.s t = .lit (.bool b) ∧ (b = want → vcM P W o (st.know (.tmp t) want) (vcL P W ops K rest)) ∧
          (b = !want → st.dstOk o.dst ∧ vcL P W ops K rest ((st.know (.tmp t) (!want)).put o.dst und))) ∨ ∃ f, st.s t = .tup 0 f ∧ st.dstOk o.dst ∧ vcL P W ops K rest (st.put o.dst und))
      | none => False

/-- the same, with the slots of the tests at hand -/
def vcLg (P : Program) (W : Nat → Prop) (gs : List (Option Tmp)) (K : St → Prop) : List Oper → St → Prop
  | [], st => K st
  | o :: rest, st =>
    match o.guard with
    | none => vcM P W o st (vcLg P W gs K rest)
    | some (j, want) =>
      match (gs[j]?).bind id with
      | some t => t < st.N ∧ ((∃ b, st.s t = .lit (.bool b) ∧ (b = want → vcM P W o (st.know (.tmp t) want) (vcLg P W gs K rest)) ∧
          (b = !want → st.dstOk o.dst ∧ vcLg P W gs K rest ((st.know (.tmp t) (!want)).put o.dst und))) ∨ ∃ f, st.s t = .tup 0 f ∧ st.dstOk o.dst ∧ vcLg P W gs K rest (st.put o.dst und))
      | none => False
theorem vcL_gs (P : Program) (W : Nat → Prop) (ops : Array Oper) (K : St → Prop) : ∀ l : List Oper, vcL P W ops K l = vcLg P W (ops.toList.map (·.dst)) K l
  | [] => rfl
  | o :: rest => by
    funext st
    have h : ∀ j : Nat, ((ops.toList.map (·.dst))[j]?).bind id = (ops[j]?).bind (·.dst) := fun j => by
      rw [List.getElem?_map, Array.getElem?_toList]
      cases ops[j]? <;> rfl
    simp only [vcL, vcLg, h, vcL_gs P W ops K rest]

theorem vcL_sound {W : Nat → Prop} (hW : ∀ b, W b → w0.heap.size ≤ b ∨ M.m b) (ops : Array Oper) {Q : Exit → St → Prop} {K : St → Prop} (hK : ∀ st, K st → Q .normal st) : ∀ (l : List Oper) (st : St) (a : Act) (w : World), SR w0 M st a w → vcL P W ops K l st → wpList P ops (LiftQ w0 M Q) l a w := by
  intro l
  induction l with
  | nil => intro st a w hs hv; exact ⟨st, hK st hv, hs⟩
  | cons o rest ih =>
    intro st a w hs hv
    have step : ∀ st', SR w0 M st' a w → vcM P W o st' (vcL P W ops K rest) → o.wp P a w (wpList P ops (LiftQ w0 M Q) rest) (LiftQ w0 M Q) := by
      rintro st' ⟨e, rfl, hg⟩ hv'
      refine Oper.wp_mono (fun a' w' ⟨st'', h1, h2⟩ => ih st'' a' w' h2 h1) (vopM_sound hW hg o hv')
    unfold wpList
    simp only [vcL] at hv
    cases hgd : o.guard with
    | none =>
      rw [hgd] at hv
      rw [if_pos (by simp [Region.wanted, hgd])]
      exact .inl (step st hs hv)
    | some jw =>
      obtain ⟨j, want⟩ := jw
      rw [hgd] at hv
      simp only at hv
      cases hj : (ops[j]?).bind (·.dst) with
      | none => rw [hj] at hv; exact hv.elim
      | some t =>
        rw [hj] at hv
        obtain ⟨h2, hv⟩ := hv
        rcases hv with ⟨b, h1, h3, h4⟩ | ⟨f, h1, h5, h6⟩
        · have hval : a.tmps[t]? = some (.bool b) := by
            obtain ⟨e, _, hg⟩ := hs
            have := hg.slot t
            rw [h1] at this
            have hv := (VRep_lit this).1
            have hlt : t < a.tmps.size := by rw [hg.N]; exact h2
            rw [Array.getElem?_eq_getElem hlt]
            simpa [hlt] using hv
          have hy : yielded ops a.tmps j = some b := by
            unfold yielded; rw [hj]; simp [hval]
          have hw : Region.wanted o (yielded ops a.tmps) = (b == want) := by
            unfold Region.wanted; rw [hgd]; simp only [hy]; cases b <;> cases want <;> rfl
          rw [hw]
          by_cases hb : b = want
          · subst hb
            simp only [beq_self_eq_true, if_true]
            exact .inl (step _ (hs.know (x := .tmp t) h1) (h3 rfl))
          · have hb' : b = !want := by cases b <;> cases want <;> simp_all
            rw [if_neg (by simpa using hb)]
            obtain ⟨h5, h6⟩ := h4 hb'
            obtain ⟨e, he, hg⟩ := hs.know (x := .tmp t) (t := !want) (by rw [← hb']; exact h1)
            exact ih _ _ _ ⟨e, he, hg.put (by simpa [St.dstOk, St.know] using h5) (VRep_und e)⟩ h6
        · have hval : a.tmps[t]? = some (.tuple #[]) := by
            obtain ⟨e, _, hg⟩ := hs
            have := hg.slot t
            rw [h1] at this
            obtain ⟨vs, hv, hn, _⟩ := this
            obtain rfl : vs = #[] := by simpa using hn
            have hlt : t < a.tmps.size := by rw [hg.N]; exact h2
            rw [Array.getElem?_eq_getElem hlt]
            simpa [hlt] using hv
          have hy : yielded ops a.tmps j = none := by
            unfold yielded; rw [hj]; simp [hval]
          have hw : Region.wanted o (yielded ops a.tmps) = false := by
            unfold Region.wanted; rw [hgd]; simp only [hy]; cases want <;> rfl
          rw [hw, if_neg (by simp)]
          obtain ⟨e, he, hg⟩ := hs
          exact ih _ _ _ ⟨e, he, hg.put h5 (VRep_und e)⟩ h6

theorem iwp_region {id : Nat} {ops : List Oper} {Q : Exit → St → Prop} {st : St} {W : Nat → Prop} (hW : ∀ b, W b → w0.heap.size ≤ b ∨ M.m b) (h : vcL P W ops.toArray (Q .normal) ops st) : IWp P w0 M (.region id ops.toArray false) Q st :=
  fun a w hs => wp_region_list (by simpa using vcL_sound hW ops.toArray (fun _ h => h) ops st a w hs h)

end ops
end Go.Proofs.Ytjaddgkhlmallaa.IM
