/- Several of my texts in one module (merge.py, shake.py). -/
import Derived.Laws.BytesString
import Derived.Test.YtncinhlaabdlaaaGreatGtA1
import Derived.Orders
section
namespace Go.Proofs.YtncinhlaabdlaaaGreat.IM
open Go Go.RowKit
set_option linter.unusedVariables false
def nthD : List D → Nat → D
  | [], _ => .any
  | d :: _, 0 => d
  | _ :: l, i + 1 => nthD l i
def zdn (P : Program) : Nat → TypeId → D
  | 0, _ => .any
  | n + 1, T =>
    match P.underlying T with
    | some (.int k) => .lit (.int k 0)
    | some .bool => .lit (.bool false)
    | some .string => .lit (.string ⟨#[]⟩)
    | some (.slice _) => .nil
    | some (.struct fs) => .node (.agg (fs.toList.map fun f => (tsz P f.type).getD 0)) (nthD (fs.toList.map fun f => zdn P n f.type))
    | some (.array k e) => .node (.arr k ((tsz P e).getD 0)) fun _ => zdn P n e
    | _ => .any
def zd (P : Program) (T : TypeId) : D := zdn P 10 T
def rdR (R : Roots) (l g : Nat) : D :=
  match R l with
  | some (g', _, d) => if g' = g then d else .any
  | none => .any
def wrR (R : Roots) (l : Nat) (d : D) : Roots := upd R l ((R l).map fun x => (x.1, x.2.1, d))
def lenT (P : Program) (T : TypeId) : D → Option Nat
  | .lit (.string s) => if strT P T = true then some s.size else none
  | d => if (telem P T).isSome = true then d.len else none
def effB (P : Program) (b : Builtin) (ds : List D) (ts : Array TypeId) (dst : Option Tmp) (R : Roots) (n : Nat) (k : Roots → Nat → D → Prop) : Prop :=
  match b, ds with
  | .len, [d] => ∃ T m, ts = #[T] ∧ lenT P T d = some m ∧ k R n (.lit (.int .i64 m))
  | .append, [d, d'] => ∃ T T' l E by_ lo n0 f m sz f', ts = #[T, T'] ∧ dst = some l ∧ telem P T = some E ∧ tbytes P E = some by_ ∧ ZeroOk P E (zd P E) ∧ tsz P E = some (zd P E).size ∧
      headD R (zd P E).size d = some (lo, n0, f) ∧ srcT P T T' d' ∧ srcD R d' = some (m, sz, f') ∧ (∀ y, sz = some y → y = (zd P E).size) ∧ (n0 + m) * by_ ≤ 140737488355328 ∧ n0 + m ≤ 9223372036854775807 ∧
      (lo = none → m = 0 → k R n .nil) ∧ ((lo = none → 0 < m) → ∀ g b n', n ≤ n' → b < n' → (n ≤ b ∨ blkR R lo = some b) → k (upd R (lo.getD l) (some (g, b, .node (.arr (n0 + m) (zd P E).size) (catD n0 f f')))) n' (.msl (lo.getD l) g 0 [] 0 (n0 + m) (zd P E).size))
  | .max, [d, d'] => ∃ T T' kd i j, ts = #[T, T'] ∧ d = .lit (.int kd i) ∧ d' = .lit (.int kd j) ∧ k R n (.lit (.int kd (max i j)))
  | .min, [d, d'] => ∃ T T' kd i j, ts = #[T, T'] ∧ d = .lit (.int kd i) ∧ d' = .lit (.int kd j) ∧ k R n (.lit (.int kd (min i j)))
  | _, _ => False
def effS (P : Program) (T : TypeId) (d : D) (lo hi mx : Option D) (R : Roots) (n : Nat) (k : Roots → Nat → D → Prop) : Prop :=
  match mx with
  | some dm => ∃ E n' sz i dh, hi = some dh ∧ d.len = some n' ∧ telem P T = some E ∧ tsz P E = some sz ∧ lowI lo = some i ∧ intD dh = some i ∧ intD dm = some i ∧ 0 ≤ i ∧ i ≤ n' ∧ k R n .nil
  | none =>
    match d with
    | .nil => ∃ E sz, telem P T = some E ∧ tsz P E = some sz ∧ lowI lo = some 0 ∧ highI 0 hi = some 0 ∧ k R n .nil
    | .sl t zb m sz f => ∃ E i j, telem P T = some E ∧ tsz P E = some sz ∧ lowI lo = some i ∧ highI m hi = some j ∧ 0 ≤ i ∧ i ≤ j ∧ j ≤ m ∧ k R n (.sl t (zb && i == 0) (j - i).toNat sz fun q => f (i.toNat + q))
    | .msl l g q p i0 m sz => ∃ E i j, telem P T = some E ∧ tsz P E = some sz ∧ lowI lo = some i ∧ highI m hi = some j ∧ 0 ≤ i ∧ i ≤ j ∧ j ≤ m ∧
        (i = 0 → k R n (.msl l g q p i0 j.toNat sz)) ∧ (0 < i → k R n (.msl l g (q + i.toNat * sz) p (i0 + i.toNat) (j - i).toNat sz) ∧ (i = m → k R n .nil))
    | .lit v => ∃ s i j, v = .string s ∧ strT P T = true ∧ lowI lo = some i ∧ highI s.size hi = some j ∧ 0 ≤ i ∧ i ≤ j ∧ j ≤ s.size ∧ k R n (.lit (.string (s.extract i.toNat j.toNat)))
    | .ptr l g q p => lo = none ∧ hi = none ∧ ∃ N E sz, tarr P T = some (N, E) ∧ tsz P E = some sz ∧ ((rdR R l g).get p).kd = .arr N sz ∧ (rdR R l g).inb p ∧ (rdR R l g).offOf p = q ∧ k R n (.msl l g q p 0 N sz)
    | _ => False
def strOf (ns : List Int) : ByteArray := ns.foldl (fun r n => r.push (UInt8.ofNat n.toNat)) ByteArray.empty
def CEff (P : Program) (f m : Nat) (ds : List D) (R : Roots) (n : Nat) (k : Roots → Nat → D → Prop) : Prop :=
  ∃ d rest0 rest Q l g b o q T T2, m = 0 ∧ ds = .ptr l g o q :: rest0 ∧ rest0.map (rl 9 (labBV R l g)) = rest ∧ R l = some (g, b, d) ∧ d.still ∧ BCall P f .nil d rest Q o q T T2 ∧ (∀ t, T t → t ∈ d.tl ∨ ∃ x ∈ rest0, t ∈ x.tl) ∧ (∀ t, T2 t → t ∈ d.tl ∨ ∃ x ∈ rest0, t ∈ x.tl) ∧
    ∀ n0 n1 d' r, n ≤ n0 → n0 ≤ n1 → Q n0 n1 d' r → k (wrR R l d') n1 r
def eff (P : Program) (op : Op) (dst : Option Tmp) (ev : Operand → D) (R : Roots) (n : Nat) (k : Roots → Nat → D → Prop) : Prop :=
  match op with
  | .move x => k R n (ev x)
  | .assign x => k R n (ev x)
  | .pick c x y => ∃ t, ev c = .lit (.bool t) ∧ k R n (if t then ev x else ev y)
  | .unOp .not _ x => ∃ t, ev x = .lit (.bool t) ∧ k R n (.lit (.bool (!t)))
  | .unOp .neg _ x => ∃ kd i, ev x = .lit (.int kd i) ∧ k R n (.lit (.int kd (kd.wrap (0 - i))))
  | .binOp .eql T x (.const (.slice none 0 0)) _ => ∃ E r, telem P T = some E ∧ nilD (ev x) = some r ∧ ∀ b : Bool, (r = none ∨ r = some b) → k R n (.lit (.bool b))
  | .binOp op T x y _ => ∃ u v r, ev x = .lit u ∧ ev y = .lit v ∧ bin P T op u v = some r ∧ k R n (.lit r)
  | .convert S T x => (∃ kd k' i, ev x = .lit (.int k' i) ∧ (P.underlying S).isSome = true ∧ tint P T = some kd ∧ k R n (.lit (.int kd (kd.wrap i)))) ∨
      ∃ E t zb f ns, ev x = .sl t zb (List.length ns) 1 f ∧ (∀ i (h : i < ns.length), f i = .lit (.int .u8 ns[i])) ∧ telem P S = some E ∧ tint P E = some .u8 ∧ strT P T = true ∧ k R n (.lit (.string (strOf ns)))
  | .extract x i => ∃ m f, ev x = .tup m f ∧ i < m ∧ k R n (f i)
  | .nilCheck x => (ev x).isRef ∧ k R n (ev x)
  | .fieldAddr T x f => ∃ o' t m, tfield P T f = some (o', t) ∧ tsz P t = some m ∧ m ≠ 0 ∧
      match ev x with
      | .ptr l g q p => k R n (.ptr l g (q + o') (p ++ [f]))
      | .cptr d => f < d.kd.cnt ∧ d.kd.off f = o' ∧ k R n (.cptr (d.chd f))
      | _ => False
  | .indexAddr T x y => ∃ kd i, ev y = .lit (.int kd i) ∧
      match ev x with
      | .msl l g q p j m sz => ∃ E, telem P T = some E ∧ tsz P E = some sz ∧ 0 ≤ i ∧ i < m ∧ k R n (.ptr l g (q + i.toNat * sz) (p ++ [j + i.toNat]))
      | .sl t zb m sz f => ∃ E, telem P T = some E ∧ tsz P E = some sz ∧ 0 ≤ i ∧ i < m ∧ k R n (.cptr (f i.toNat))
      | .ptr l g q p => ∃ m E sz, tarr P T = some (m, E) ∧ tsz P E = some sz ∧ 0 ≤ i ∧ i < m ∧ k R n (.ptr l g (q + i.toNat * sz) (p ++ [i.toNat]))
      | .cptr d => ∃ m E sz, tarr P T = some (m, E) ∧ tsz P E = some sz ∧ d.kd = .arr m sz ∧ 0 ≤ i ∧ i < m ∧ k R n (.cptr (d.chd i.toNat))
      | _ => False
  | .load T x =>
      match ev x with
      | .ptr l g q p => TyOk P T ((rdR R l g).get p) ∧ (rdR R l g).inb p ∧ (rdR R l g).offOf p = q ∧ k R n ((rdR R l g).get p)
      | .cptr d => TyOk P T d ∧ k R n d
      | _ => False
  | .store T x y =>
      match ev x with
      | .ptr l g q p => ((rdR R l g).get p).plain ∧ (rdR R l g).inb p ∧ (rdR R l g).offOf p = q ∧
          (∃ m, tsz P T = some m ∧ ((rdR R l g).get p).size = m ∧ (ev y).size = m) ∧ (ev y).plain ∧ k (wrR R l ((rdR R l g).set p (ev y))) n .any
      | _ => False
  | .alloc T => ∃ l, dst = some l ∧ ZeroOk P T (zd P T) ∧ ∀ g b, n ≤ b → k (upd R l (some (g, b, zd P T))) (b + 1) (.ptr l g 0 [])
  | .box T x => ∃ l, dst = some l ∧ (ev x).plain ∧ ∀ g b, n ≤ b → k (upd R l (some (g, b, ev x))) (b + 1) (.ptr l g 0 [])
  | .build T parts => ∃ pl, tplaces P T = some pl ∧ ZeroOk P T (zd P T) ∧ buildD (fun i => pl[i]?) ev (zd P T) parts.toList fun d => d.isNode = some true ∧ k R n d
  | .buildSlice T len parts => ∃ l E, dst = some l ∧ telem P T = some E ∧ ZeroOk P E (zd P E) ∧ tsz P E = some (zd P E).size ∧ len * (zd P E).size ≤ 16777216 ∧
      buildD (fun i => some (i * (zd P E).size, (zd P E).size)) ev (.node (.arr len (zd P E).size) fun _ => zd P E) parts.toList fun d => d.plain ∧ ∀ g b, n ≤ b → k (upd R l (some (g, b, d))) (b + 1) (.msl l g 0 [] 0 len (zd P E).size)
  | .makeSlice T x y => ∃ l E by_ kx ky i c, dst = some l ∧ telem P T = some E ∧ ZeroOk P E (zd P E) ∧ tbytes P E = some by_ ∧ tsz P E = some (zd P E).size ∧ ev x = .lit (.int kx i) ∧ ev y = .lit (.int ky c) ∧
      0 ≤ i ∧ i ≤ c ∧ (by_ : Int) * c ≤ 281474976710656 ∧ c ≤ 9223372036854775807 ∧
      ∀ g b, n ≤ b → k (upd R l (some (g, b, .node (.arr i.toNat (zd P E).size) fun _ => zd P E))) (b + 1) (.msl l g 0 [] 0 i.toNat (zd P E).size)
  | .slice T x lo hi mx => effS P T (ev x) (lo.map ev) (hi.map ev) (mx.map ev) R n k
  | .index T x y => (∃ s i, ev x = .lit (.string s) ∧ strT P T = true ∧ intD (ev y) = some i ∧ 0 ≤ i ∧ i < s.size ∧ k R n (.lit (.int .u8 (byteAt s i.toNat)))) ∨
      ∃ m sz f i E, ev x = .node (.arr m sz) f ∧ intD (ev y) = some i ∧ tarr P T = some (m, E) ∧ TyOk P E (f i.toNat) ∧ tsz P E = some sz ∧ 0 ≤ i ∧ i < m ∧ k R n (f i.toNat)
  | .makeFunc (.func f) first cap => first = #[] ∧ (∀ i, i < cap.size → (ev (cap.getD i (.const .nilFunc))).isRef) ∧ k R n (.fn f cap.size fun i => ev (cap.getD i (.const .nilFunc)))
  | .call c =>
    match c.callee with
    | .builtin b => effB P b (c.args.toList.map ev) c.argTypes dst R n k
    | .value fx =>
      match ev fx with
      | .fn fid m cs =>
        (∃ ls : List Nat, ls.Nodup ∧ (∀ l ∈ ls, (R l).isSome = true) ∧ (∀ l ∈ ls, (rl 9 (labIn R ls) (cntR R l)).plain) ∧
          ICall P fid ((c.args.toList.map fun x => rl 9 (labIn R ls) (ev x)) ++ (List.range m).map fun i => rl 9 (labIn R ls) (cs i)) (ls.map fun l => rl 9 (labIn R ls) (cntR R l))
            fun n0 n1 outs r => n ≤ n0 → ((List.range outs.length).map (outLab dst ls)).Nodup ∧ ∀ G bs, bsOk R ls n n1 outs.length bs → (∀ d ∈ outs, (rl 9 (labOut outs.length (outLab dst ls) G) d).plain) ∧
              k (addL (remL R ls) (labOut outs.length (outLab dst ls) G) G (outLab dst ls) bs 0 outs) n1 (rl 9 (labOut outs.length (outLab dst ls) G) r)) ∨
        PCall P fid ((c.args.toList.map fun x => rl 9 (labView R) (ev x)) ++ (List.range m).map fun i => rl 9 (labView R) (cs i)) (fun n0 n1 r => n ≤ n0 → r.tags (n0 ≤ ·) ∧ k R n1 r) ∨
        CEff P fid m (c.args.toList.map ev) R n k
      | _ => False
    | _ => False
  | _ => False
def vcOp (P : Program) (o : Oper) (st : St) (K : St → Prop) : Prop :=
  st.dstOk o.dst ∧ eff P o.op o.dst st.ev st.R st.n fun R' n' r => K (({ N := st.N, n := n', s := st.s, R := R' } : St).put o.dst r)
theorem node_of_cnt {d : D} {f : Nat} (h : f < d.kd.cnt) : d = .node d.kd d.chd := by
  cases d with
  | node k c => rfl
  | _ => simp [D.kd, Kd.cnt] at h
theorem node_of_arr {d : D} {n sz : Nat} (h : d.kd = .arr n sz) : d = .node (.arr n sz) d.chd := by
  cases d with
  | node k c => simp [D.kd] at h; subst h; rfl
  | _ => simp [D.kd] at h
theorem node_of_arr' {d : D} {n sz : Nat} (h : d.kd = .arr n sz) : ∃ f, d = .node (.arr n sz) f := ⟨_, node_of_arr h⟩
theorem one_of {f : Operand → D} {xs : Array Operand} {d : D} (h : xs.toList.map f = [d]) : ∃ x, xs = #[x] ∧ f x = d := by
  obtain ⟨l⟩ := xs
  match l, h with
  | [x], h => simp at h; exact ⟨x, rfl, h⟩
theorem two_of {f : Operand → D} {xs : Array Operand} {d d' : D} (h : xs.toList.map f = [d, d']) : ∃ x y, xs = #[x, y] ∧ f x = d ∧ f y = d' := by
  obtain ⟨l⟩ := xs
  match l, h with
  | [x, y], h => simp at h; exact ⟨x, y, rfl, h.1, h.2⟩
section ops
variable {P : Program} {w0 : World} {M : Fr} {st : St} {e : Env} {a : Act} {K : St → Prop} {Q : Exit → Act → World → Prop}
variable {dst : Option Tmp} {ty : TypeId} {pos : String} {after : Array Edge} {gd : Option (Nat × Bool)}
theorem flat_bytes {ns : List Int} {ps : Nat → List Value} (h : ∀ i (h : i < ns.length), ps i = [.int .u8 ns[i]]) : flat ns.length ps = ns.map (Value.int .u8) := by
  have : ∀ k, k ≤ ns.length → flat k ps = (ns.take k).map (Value.int .u8) := by
    intro k
    induction k with
    | zero => intro _; simp
    | succ k ih =>
      intro hk
      unfold flat at ih ⊢
      rw [List.range_succ, List.flatMap_append, ih (by omega), List.take_succ_eq_append_getElem (by omega), List.map_append]
      simp [h k (by omega)]
  rw [this _ (Nat.le_refl _), List.take_length]
theorem op_convStr (h : Good w0 M st e a) (S T : TypeId) (x : Operand) {E : TypeId} {t : Nat} {zb : Bool} {f : Nat → D} {ns : List Int} (hx : st.ev x = .sl t zb ns.length 1 f) (hf : ∀ i (h : i < ns.length), f i = .lit (.int .u8 ns[i]))
    (hS : telem P S = some E) (hE : tint P E = some .u8) (hT : strT P T = true) (hd : st.dstOk dst) (hK : K (st.put dst (.lit (.string (strOf ns))))) : (Oper.mk dst (.convert S T x) ty pos after gd).wp P a e.w (Lift w0 M K) Q := by
  have hv := h.ev x; rw [hx] at hv
  obtain ⟨o, c, ps, hxv, hc, hP, hps, hat, hwh⟩ := hv
  simp at hxv
  have hp1 : ∀ i (h : i < ns.length), ps i = [.int .u8 ns[i]] := fun i hi => by
    have := (hps i hi).2
    rw [hf i hi] at this
    exact this.2
  have hfl := flat_bytes hp1
  rw [hfl] at hat
  refine wp_value (v := .string (strOf ns)) (w' := e.w) ?_ (h.lift hd (VRep_mk (show Leaf (.string (strOf ns)) from trivial)) hK)
  have hu : P.underlying E = some (.int .u8) := by
    unfold tint at hE
    cases hP : P.underlying E with
    | none => rw [hP] at hE; cases hE
    | some d => rw [hP] at hE; cases d <;> simp at hE; subst hE; rfl
  simp only [execOp]; rw [hxv, Sem.run_bind]
  have hload : (loadCells ⟨t, o, none⟩ ns.length).run P e.w = .ok (ns.map (Value.int .u8)).toArray e.w := by
    have := run_loadCells P hat
    rwa [List.length_map] at this
  have : (convert S T (.slice (some ⟨t, o, none⟩) ns.length c)).run P e.w = .ok (.string (strOf ns)) e.w := by
    rw [run_convert_bytes_string e.w S T E _ _ _ (telem_spec hS) hu (strT_spec hT), run_bytesToString e.w _ _ _ ns hload]
    rfl
  rw [this]; rfl
theorem op_lenT (h : Good w0 M st e a) (T : TypeId) (x : Operand) {n : Nat} (hx : lenT P T (st.ev x) = some n) (hd : st.dstOk dst) (hK : K (st.put dst (.lit (.int .i64 n)))) :
    (Oper.mk dst (.call { callee := .builtin .len, args := #[x], argTypes := #[T] }) ty pos after gd).wp P a e.w (Lift w0 M K) Q := by
  unfold lenT at hx
  split at hx
  · rename_i s hs
    split at hx
    · rename_i hT
      simp only [Option.some.injEq] at hx
      subst hx
      exact op_len_str h T x hs (strT_spec hT) hd hK
    · cases hx
  · split at hx
    · rename_i hT
      obtain ⟨E, hE⟩ := Option.isSome_iff_exists.1 hT
      exact op_len h T x hx hE hd hK
    · cases hx
theorem effB_sound (h : Good w0 M st e a) (b : Builtin) (xs : Array Operand) (ts : Array TypeId) (hd : st.dstOk dst) (hv : effB P b (xs.toList.map st.ev) ts dst st.R st.n fun R' n' r => K (({ N := st.N, n := n', s := st.s, R := R' } : St).put dst r)) :
    (Oper.mk dst (.call { callee := .builtin b, args := xs, argTypes := ts }) ty pos after gd).wp P a e.w (Lift w0 M K) Q := by
  unfold effB at hv
  split at hv
  · rename_i d hx
    obtain ⟨x, rfl, rfl⟩ := one_of hx
    obtain ⟨T, m, rfl, h1, h2⟩ := hv
    exact op_lenT h T x h1 hd h2
  · rename_i d d' hx
    obtain ⟨x, y, rfl, rfl, rfl⟩ := two_of hx
    obtain ⟨T, T', l, E, by_, lo, n0, f, m, sz, f', rfl, rfl, h1, h2, h3, h4, h5, h6, h7, h8, h9, h10, h11, h12⟩ := hv
    exact op_append h x y T T' h1 h3 h2 h4 h5 h6 h7 h8 h9 h10 rfl hd h11 h12
  · rename_i d d' hx
    obtain ⟨x, y, rfl, rfl, rfl⟩ := two_of hx
    obtain ⟨T, T', kd, i, j, rfl, h1, h2, h3⟩ := hv
    exact op_max h x y T T' h1 h2 hd h3
  · rename_i d d' hx
    obtain ⟨x, y, rfl, rfl, rfl⟩ := two_of hx
    obtain ⟨T, T', kd, i, j, rfl, h1, h2, h3⟩ := hv
    exact op_min h x y T T' h1 h2 hd h3
  · exact hv.elim
theorem effS_sound (h : Good w0 M st e a) (T : TypeId) (x : Operand) (lo hi mx : Option Operand) (hd : st.dstOk dst) (hv : effS P T (st.ev x) (lo.map st.ev) (hi.map st.ev) (mx.map st.ev) st.R st.n fun R' n' r => K (({ N := st.N, n := n', s := st.s, R := R' } : St).put dst r)) :
    (Oper.mk dst (.slice T x lo hi mx) ty pos after gd).wp P a e.w (Lift w0 M K) Q := by
  cases mx with
  | some mx =>
    obtain ⟨E, n', sz, i, dh, h0, h1, h2, h3, h4, h5, h6, h7, h8, h9⟩ := hv
    cases hi with
    | none => cases h0
    | some hx =>
      simp only [Option.map_some, Option.some.injEq] at h0
      subst h0
      exact op_slice_zero h T x lo hx mx h1 h2 h3 h4 h5 h6 h7 h8 hd h9
  | none =>
    simp only [Option.map_none, effS] at hv
    split at hv
    · rename_i hx; obtain ⟨E, sz, h1, h2, h3, h4, h5⟩ := hv; exact op_slice_nil h T x lo hi hx h1 h2 h3 h4 hd h5
    · rename_i hx; obtain ⟨E, i, j, h1, h2, h3, h4, h5, h6, h7, h8⟩ := hv; exact op_slice_sl h T x lo hi hx h1 h2 h3 h4 h5 h6 h7 hd h8
    · rename_i hx; obtain ⟨E, i, j, h1, h2, h3, h4, h5, h6, h7, h8, h9⟩ := hv; exact op_slice_msl h T x lo hi hx h1 h2 h3 h4 h5 h6 h7 hd h8 h9
    · rename_i hx; obtain ⟨s, i, j, rfl, h2, h3, h4, h5, h6, h7, h8⟩ := hv; exact op_slice_str h T x lo hi hx h2 h3 h4 h5 h6 h7 hd h8
    · rename_i hx
      obtain ⟨h1, h2, N, E, sz, h3, h4, h5, h6, h7, h8⟩ := hv
      cases lo with
      | some _ => cases h1
      | none =>
        cases hi with
        | some _ => cases h2
        | none =>
          obtain ⟨f, hf⟩ := node_of_arr' h5
          exact op_slice_arr h T x hx h3 h4 h6 h7 hf hd h8
    · exact hv.elim
theorem wr_at {R : Roots} {l g b : Nat} {d d' : D} (h : R l = some (g, b, d)) : wrR R l d' = upd R l (some (g, b, d')) := by unfold wrR; rw [h]; rfl
theorem op_ccall (h : Good w0 M st e a) (fx : Operand) (xs : Array Operand) (ts : Array TypeId) {fid n : Nat} {c : Nat → D} (hf : st.ev fx = .fn fid n c) (hd : st.dstOk dst)
    (hc : CEff P fid n (xs.toList.map st.ev) st.R st.n fun R' n' r => K (({ N := st.N, n := n', s := st.s, R := R' } : St).put dst r)) :
    (Oper.mk dst (.call { callee := .value fx, args := xs, argTypes := ts }) ty pos after gd).wp P a e.w (Lift w0 M K) Q := by
  obtain ⟨d, rest0, rest, Qr, l, g, b, o, q, T, T2, hm, hds, hview, hR, hst, hB, hTT, hTT2, hk⟩ := hc
  refine op_bcall (W := fun _ => False) h fx xs ts hf hd (fun _ h => h.elim) ⟨.nil, d, rest0, rest, Qr, l, g, b, o, q, T, T2, hm, hds, hview, hR, hst, fun b hb => by simp [D.tl] at hb, fun b hb => by simp [D.tl] at hb, hB, hTT, hTT2, fun n0 n1 d' r hn0 hn1 ht hq htd =>
    ⟨st.s, upd st.R l none, fun t => .all _ rfl, upd_same _ _ _, fun l' => ?_, 0, ?_⟩⟩
  · by_cases hl : l' = l
    · subst hl; rw [upd_same]; trivial
    · rw [upd_ne _ _ hl]
      cases hx : st.R l' with
      | none => trivial
      | some y => obtain ⟨g0, b0, x⟩ := y; exact ⟨.inr rfl, x, rfl, .all _ rfl⟩
  · have h2 := hk n0 n1 d' r hn0 hn1 hq
    rw [wr_at hR] at h2
    have e2 : upd (upd st.R l none) l (some (g, b, d')) = upd st.R l (some (g, b, d')) := by funext j; unfold upd; split <;> rfl
    show ConvN _ K 0 _
    rw [e2]; exact h2
theorem vop_sound (h : Good w0 M st e a) (o : Oper) (hv : vcOp P o st K) : o.wp P a e.w (Lift w0 M K) Q := by
  obtain ⟨dst, op, ty, pos, after, gd⟩ := o
  obtain ⟨hd, hv⟩ := hv
  simp only [eff] at hd hv
  split at hv
  · exact op_move h _ hd hv
  · exact op_assign h _ hd hv
  · obtain ⟨t, h1, h2⟩ := hv; exact op_pick h _ _ _ h1 hd h2
  · obtain ⟨t, h1, h2⟩ := hv; exact op_not h _ _ h1 hd h2
  · obtain ⟨k, n, h1, h2⟩ := hv; exact op_neg h _ _ h1 hd h2
  · obtain ⟨E, r, h1, h2, h3⟩ := hv; exact op_eqNil (ty := _) h _ _ _ false h1 h2 hd (by simpa using h3)
  · obtain ⟨u, v, r, h1, h2, h3, h4⟩ := hv; exact op_bin h _ _ _ _ _ h1 h2 h3 hd h4
  · rcases hv with ⟨k, k', n, h1, h2, h3, h4⟩ | ⟨E, t, zb, f, ns, h1, h2, h3, h4, h5, h6⟩
    · exact op_conv h _ _ _ h1 h2 h3 hd h4
    · exact op_convStr h _ _ _ h1 h2 h3 h4 h5 hd h6
  · obtain ⟨n, f, h1, h2, h3⟩ := hv; exact op_extract h _ h1 h2 hd h3
  · exact op_nilCheck h _ hv.1 hd hv.2
  · obtain ⟨o', t, n, h1, h2, h3, h4⟩ := hv
    split at h4
    · rename_i hx; exact op_fieldAddr_ptr h _ _ hx h1 h2 h3 hd h4
    · rename_i hx
      obtain ⟨h5, h6, h7⟩ := h4
      rw [node_of_cnt h5] at hx
      exact op_fieldAddr_cptr h _ _ hx h1 h2 h3 hd h5 h6 h7
    · exact h4.elim
  · obtain ⟨k, i, h1, h2⟩ := hv
    split at h2
    · rename_i hx; obtain ⟨E, h3, h4, h5, h6, h7⟩ := h2; exact op_indexAddr_msl h _ _ _ hx h1 h3 h4 h5 h6 hd h7
    · rename_i hx; obtain ⟨E, h3, h4, h5, h6, h7⟩ := h2; exact op_indexAddr_sl h _ _ _ hx h1 h3 h4 h5 h6 hd h7
    · rename_i hx; obtain ⟨n, E, sz, h3, h4, h5, h6, h7⟩ := h2; exact op_indexAddr_arr h _ _ _ hx h1 h3 h4 h5 h6 hd h7
    · rename_i hx
      obtain ⟨n, E, sz, h3, h4, h5, h6, h7, h8⟩ := h2
      rw [node_of_arr h5] at hx
      exact op_indexAddr_carr h _ _ _ hx h1 h3 h4 h6 h7 hd h8
    · exact h2.elim
  · split at hv
    · rename_i hx; obtain ⟨h1, h2, h3, h4⟩ := hv; exact op_load_ptr h _ _ hx h1 h2 h3 hd h4
    · rename_i hx; exact op_load_cptr h _ _ hx hv.1 hd hv.2
    · exact hv.elim
  · split at hv
    · rename_i hx; obtain ⟨h1, h2, h3, ⟨n, h4, h5, h6⟩, h7, h8⟩ := hv; exact op_store h _ _ _ hx h1 h2 h3 h4 h5 h7 h6 hd h8
    · exact hv.elim
  · obtain ⟨l, rfl, h2, h3⟩ := hv; exact op_alloc h _ rfl hd h2 h3
  · obtain ⟨l, rfl, h2, h3⟩ := hv; exact op_box h _ _ rfl hd h2 h3
  · obtain ⟨pl, h1, h2, h3⟩ := hv; exact op_build h _ _ h1 h2 hd h3
  · obtain ⟨l, E, rfl, h1, h2, h3, h4, h5⟩ := hv; exact op_buildSlice h _ _ _ h1 h2 h3 h4 rfl hd h5
  · obtain ⟨l, E, by_, kx, ky, i, c, rfl, h1, h2, h3, h4, h5, h6, h7, h8, h9, h10, h11⟩ := hv; exact op_makeSlice h _ _ _ h1 h2 h3 h4 h5 h6 h7 h8 h9 h10 rfl hd h11
  · exact effS_sound h _ _ _ _ _ hd hv
  · rcases hv with ⟨s, i, h1, h2, h3, h4, h5, h6⟩ | ⟨m, sz, f, i, E, h1, h2, h3, h4, h5, h6, h7, h8⟩
    · exact op_index_str h _ _ _ h1 h2 h3 h4 h5 hd h6
    · exact op_index_arr h _ _ _ h1 h2 h3 h4 h5 h6 h7 hd h8
  · obtain ⟨rfl, h1, h2⟩ := hv; exact op_makeFunc h _ _ hd h2 h1
  · rename_i c
    obtain ⟨ce, ca, ct⟩ := c
    simp only at hv
    split at hv
    · exact effB_sound h _ _ _ hd hv
    · split at hv
      · rename_i hx
        rcases hv with ⟨ls, h1, h2, h3, h4⟩ | hv | hv
        · exact op_icall h _ _ _ hx hd ls h1 h2 h3 h4
        · exact op_vcall h _ _ _ hx hd hv
        · exact op_ccall h _ _ _ hx hd hv
      · exact hv.elim
    · exact hv.elim
  · exact hv.elim
def mOp (P : Program) (W : Nat → Prop) (o : Oper) (st : St) (K : St → Prop) : Prop :=
  match o.op with
  | .call c => match c.callee with
    | .value fx => (st.dstOk o.dst ∧ match st.ev fx with
      | .fn fid m _ => MEff P W fid m c.args.toList o.dst st K ∨ AEff P W fid m c.args.toList o.dst st K ∨ BEff P W fid m c.args.toList o.dst st K
      | _ => False) ∨ vcOp P o st (Conv W K)
    | _ => False
  | _ => False
def vcM (P : Program) (W : Nat → Prop) (o : Oper) (st : St) (K : St → Prop) : Prop := vcOp P o st K ∨ mOp P W o st K
theorem vopM_sound {P : Program} {w0 : World} {M : Fr} {st : St} {e : Env} {a : Act} {K : St → Prop} {Q : Exit → Act → World → Prop} {W : Nat → Prop} (hW : ∀ b, W b → w0.heap.size ≤ b ∨ M.m b) (h : Good w0 M st e a) (o : Oper) (hv : vcM P W o st K) : o.wp P a e.w (Lift w0 M K) Q := by
  rcases hv with hv | hv
  · exact vop_sound h o hv
  · obtain ⟨dst, op, ty, pos, after, gd⟩ := o
    simp only [mOp] at hv
    split at hv
    · rename_i c
      obtain ⟨ce, ca, ct⟩ := c
      simp only at hv
      split at hv
      · rcases hv with ⟨hd, hv⟩ | hv
        · split at hv
          · rename_i hx
            rcases hv with hv | hv | hv
            · exact op_mcall h _ _ _ hx hd hW hv
            · exact op_acall h _ _ _ hx hd hW hv
            · exact op_bcall h _ _ _ hx hd hW hv
          · exact hv.elim
        · refine Oper.wp_mono (fun a' w' ⟨st', ⟨m, h1⟩, h2⟩ => ?_) (vop_sound h _ hv)
          exact SR.conv hW m st' h2 h1
      · exact hv.elim
    · exact hv.elim
def und : D := .tup 0 fun _ => .any
theorem VRep_und (e : Env) : VRep e und undef := ⟨#[], rfl, rfl, fun i hi => absurd hi (Nat.not_lt_zero i)⟩
def vcL (P : Program) (W : Nat → Prop) (ops : Array Oper) (K : St → Prop) : List Oper → St → Prop
  | [], st => K st
  | o :: rest, st =>
    match o.guard with
    | none => vcM P W o st (vcL P W ops K rest)
    | some (j, want) =>
      match (ops[j]?).bind (·.dst) with
      | some t => t < st.N ∧ ((∃ b, st.s t = .lit (.bool b) ∧ (b = want → vcM P W o (st.know (.tmp t) want) (vcL P W ops K rest)) ∧
          (b = !want → st.dstOk o.dst ∧ vcL P W ops K rest ((st.know (.tmp t) (!want)).put o.dst und))) ∨ ∃ f, st.s t = .tup 0 f ∧ st.dstOk o.dst ∧ vcL P W ops K rest (st.put o.dst und))
      | none => False
def vcLg (P : Program) (W : Nat → Prop) (gs : List (Option Tmp)) (K : St → Prop) : List Oper → St → Prop
  | [], st => K st
  | o :: rest, st =>
    match o.guard with
    | none => vcM P W o st (vcLg P W gs K rest)
    | some (j, want) =>
      match (gs[j]?).bind id with
      | some t => t < st.N ∧ ((∃ b, st.s t = .lit (.bool b) ∧ (b = want → vcM P W o (st.know (.tmp t) want) (vcLg P W gs K rest)) ∧
          (b = !want → st.dstOk o.dst ∧ vcLg P W gs K rest ((st.know (.tmp t) (!want)).put o.dst und))) ∨ ∃ f, st.s t = .tup 0 f ∧ st.dstOk o.dst ∧ vcLg P W gs K rest (st.put o.dst und))
      | none => False
theorem vcL_gs (P : Program) (W : Nat → Prop) (ops : Array Oper) (K : St → Prop) : ∀ l : List Oper, vcL P W ops K l = vcLg P W (ops.toList.map (·.dst)) K l
  | [] => rfl
  | o :: rest => by
    funext st
    have h : ∀ j : Nat, ((ops.toList.map (·.dst))[j]?).bind id = (ops[j]?).bind (·.dst) := fun j => by
      rw [List.getElem?_map, Array.getElem?_toList]
      cases ops[j]? <;> rfl
    simp only [vcL, vcLg, h, vcL_gs P W ops K rest]
theorem vcL_sound {W : Nat → Prop} (hW : ∀ b, W b → w0.heap.size ≤ b ∨ M.m b) (ops : Array Oper) {Q : Exit → St → Prop} {K : St → Prop} (hK : ∀ st, K st → Q .normal st) : ∀ (l : List Oper) (st : St) (a : Act) (w : World), SR w0 M st a w → vcL P W ops K l st → wpList P ops (LiftQ w0 M Q) l a w := by
  intro l
  induction l with
  | nil => intro st a w hs hv; exact ⟨st, hK st hv, hs⟩
  | cons o rest ih =>
    intro st a w hs hv
    have step : ∀ st', SR w0 M st' a w → vcM P W o st' (vcL P W ops K rest) → o.wp P a w (wpList P ops (LiftQ w0 M Q) rest) (LiftQ w0 M Q) := by
      rintro st' ⟨e, rfl, hg⟩ hv'
      refine Oper.wp_mono (fun a' w' ⟨st'', h1, h2⟩ => ih st'' a' w' h2 h1) (vopM_sound hW hg o hv')
    unfold wpList
    simp only [vcL] at hv
    cases hgd : o.guard with
    | none =>
      rw [hgd] at hv
      rw [if_pos (by simp [Region.wanted, hgd])]
      exact .inl (step st hs hv)
    | some jw =>
      obtain ⟨j, want⟩ := jw
      rw [hgd] at hv
      simp only at hv
      cases hj : (ops[j]?).bind (·.dst) with
      | none => rw [hj] at hv; exact hv.elim
      | some t =>
        rw [hj] at hv
        obtain ⟨h2, hv⟩ := hv
        rcases hv with ⟨b, h1, h3, h4⟩ | ⟨f, h1, h5, h6⟩
        · have hval : a.tmps[t]? = some (.bool b) := by
            obtain ⟨e, _, hg⟩ := hs
            have := hg.slot t
            rw [h1] at this
            have hv := (VRep_lit this).1
            have hlt : t < a.tmps.size := by rw [hg.N]; exact h2
            rw [Array.getElem?_eq_getElem hlt]
            simpa [hlt] using hv
          have hy : yielded ops a.tmps j = some b := by
            unfold yielded; rw [hj]; simp [hval]
          have hw : Region.wanted o (yielded ops a.tmps) = (b == want) := by
            unfold Region.wanted; rw [hgd]; simp only [hy]; cases b <;> cases want <;> rfl
          rw [hw]
          by_cases hb : b = want
          · subst hb
            simp only [beq_self_eq_true, if_true]
            exact .inl (step _ (hs.know (x := .tmp t) h1) (h3 rfl))
          · have hb' : b = !want := by cases b <;> cases want <;> simp_all
            rw [if_neg (by simpa using hb)]
            obtain ⟨h5, h6⟩ := h4 hb'
            obtain ⟨e, he, hg⟩ := hs.know (x := .tmp t) (t := !want) (by rw [← hb']; exact h1)
            exact ih _ _ _ ⟨e, he, hg.put (by simpa [St.dstOk, St.know] using h5) (VRep_und e)⟩ h6
        · have hval : a.tmps[t]? = some (.tuple #[]) := by
            obtain ⟨e, _, hg⟩ := hs
            have := hg.slot t
            rw [h1] at this
            obtain ⟨vs, hv, hn, _⟩ := this
            obtain rfl : vs = #[] := by simpa using hn
            have hlt : t < a.tmps.size := by rw [hg.N]; exact h2
            rw [Array.getElem?_eq_getElem hlt]
            simpa [hlt] using hv
          have hy : yielded ops a.tmps j = none := by
            unfold yielded; rw [hj]; simp [hval]
          have hw : Region.wanted o (yielded ops a.tmps) = false := by
            unfold Region.wanted; rw [hgd]; simp only [hy]; cases want <;> rfl
          rw [hw, if_neg (by simp)]
          obtain ⟨e, he, hg⟩ := hs
          exact ih _ _ _ ⟨e, he, hg.put h5 (VRep_und e)⟩ h6
end ops
end Go.Proofs.YtncinhlaabdlaaaGreat.IM
end
section
namespace Go.Proofs.YtncinhlaabdlaaaGreat.IM
open Go Go.RowKit
set_option linter.unusedVariables false
def retD (st : St) : ResultVar → D
  | .tmp t => st.s t
  | .cell t _ => match st.s t with
    | .ptr l g _ p => (st.rd l g).get p
    | _ => .any
def retOk (P : Program) (st : St) : ResultVar → Prop
  | .tmp _ => True
  | .cell t T => match st.s t with
    | .ptr l g o p => TyOk P T ((st.rd l g).get p) ∧ (st.rd l g).inb p ∧ (st.rd l g).offOf p = o
    | _ => False
def retOne (fn : Func) (tmps : Array Value) : ResultVar → Sem Value
  | .tmp t => pure (tmps.getD t undef)
  | .cell a t => do loadVar t (← asAddr (tmps.getD a undef))
section
variable {P : Program} {w0 : World} {M : Fr} {st : St} {e : Env} {a : Act}
theorem run_retOne (h : Good w0 M st e a) (fn : Func) (r : ResultVar) (hr : retOk P st r) : ∃ v, (retOne fn a.tmps r).run P e.w = .ok v e.w ∧ VRep e (retD st r) v := by
  cases r with
  | tmp t => exact ⟨_, rfl, h.slot t⟩
  | cell t T =>
    simp only [retOk] at hr
    simp only [retD, retOne]
    have hv := h.slot t
    split at hr
    · rename_i l g o p hs
      obtain ⟨h1, h2, h3⟩ := hr
      rw [hs] at hv
      obtain ⟨hg, ad, hxv, hq⟩ := hv
      simp only [List.cons.injEq, and_true] at hxv
      have hR := rd_spec (st := st) (l := l) (g := g) (p := p) h1.plain
      obtain rfl := hq (st.blk l) (st.rd l g) (by rw [h.R]; exact hR)
      obtain ⟨ds, hrep, hat⟩ := h.root_at hR h2
      rw [h3] at hat
      obtain ⟨ag, hag, hlo⟩ := h1.loaded
      obtain ⟨v, hrun, hvr⟩ := run_loadVar (P := P) rfl hag h1.1 hlo hrep hat
      refine ⟨v, ?_, hvr⟩
      rw [hxv, Sem.run_bind]
      show (Result.ok _ e.w).andThen _ = _
      rw [Result.andThen_ok, hrun]
    · exact hr.elim
theorem results_eq (fn : Func) (tmps : Array Value) : results fn tmps = (do let vs ← fn.results.mapM (retOne fn tmps); pure (if h : vs.size = 1 then vs[0] else .tuple vs)) := by
  unfold results
  congr 1
def retV (st : St) : List ResultVar → D
  | [r] => retD st r
  | rs => .tup rs.length fun i => match rs[i]? with
    | some r => retD st r
    | none => .any
theorem run_results (h : Good w0 M st e a) (fn : Func) {rs : List ResultVar} (hrs : fn.results = rs.toArray) (hlen : rs.length ≤ 4) (hr : ∀ r ∈ rs, retOk P st r) :
    ∃ v, (results fn a.tmps).run P e.w = .ok v e.w ∧ VRep e (retV st rs) v := by
  rw [results_eq, hrs]
  match rs, hlen, hr with
  | [], _, _ => exact ⟨.tuple #[], by simp, ⟨#[], rfl, rfl, fun i hi => absurd hi (by simp)⟩⟩
  | [r1], _, hr =>
    obtain ⟨v1, e1, q1⟩ := run_retOne h fn r1 (hr _ (by simp))
    exact ⟨v1, by simp [e1], q1⟩
  | [r1, r2], _, hr =>
    obtain ⟨v1, e1, q1⟩ := run_retOne h fn r1 (hr _ (by simp))
    obtain ⟨v2, e2, q2⟩ := run_retOne h fn r2 (hr _ (by simp))
    refine ⟨.tuple #[v1, v2], by simp [e1, e2], ⟨_, rfl, rfl, fun i hi => ?_⟩⟩
    match i, hi with
    | 0, _ => exact q1
    | 1, _ => exact q2
  | [r1, r2, r3], _, hr =>
    obtain ⟨v1, e1, q1⟩ := run_retOne h fn r1 (hr _ (by simp))
    obtain ⟨v2, e2, q2⟩ := run_retOne h fn r2 (hr _ (by simp))
    obtain ⟨v3, e3, q3⟩ := run_retOne h fn r3 (hr _ (by simp))
    refine ⟨.tuple #[v1, v2, v3], by simp [e1, e2, e3], ⟨_, rfl, rfl, fun i hi => ?_⟩⟩
    match i, hi with
    | 0, _ => exact q1
    | 1, _ => exact q2
    | 2, _ => exact q3
  | [r1, r2, r3, r4], _, hr =>
    obtain ⟨v1, e1, q1⟩ := run_retOne h fn r1 (hr _ (by simp))
    obtain ⟨v2, e2, q2⟩ := run_retOne h fn r2 (hr _ (by simp))
    obtain ⟨v3, e3, q3⟩ := run_retOne h fn r3 (hr _ (by simp))
    obtain ⟨v4, e4, q4⟩ := run_retOne h fn r4 (hr _ (by simp))
    refine ⟨.tuple #[v1, v2, v3, v4], by simp [e1, e2, e3, e4], ⟨_, rfl, rfl, fun i hi => ?_⟩⟩
    match i, hi with
    | 0, _ => exact q1
    | 1, _ => exact q2
    | 2, _ => exact q3
    | 3, _ => exact q4
def labExit (R : Roots) (os : List Nat) : Relab := fun l g =>
  match R l with
  | some (g', b, d) => if g' = g then (match os.idxOf? l with | some j => .to (1000 + j) 0 | none => .per b d) else .gone
  | none => .gone
def pendI (P : Program) (rs : List ResultVar) (n0 : Nat) (Q : Nat → Nat → List D → D → Prop) : Exit → St → Prop
  | .normal, st => ∃ os : List Nat, os.Nodup ∧ (∀ l ∈ os, (st.R l).isSome = true) ∧ (∀ l ∈ os, (rl 9 (labExit st.R os) (cntR st.R l)).plain) ∧ (∀ r ∈ rs, retOk P st r) ∧
      ∀ n1, st.n ≤ n1 → Facts st n1 → Q n0 n1 (os.map fun l => rl 9 (labExit st.R os) (cntR st.R l)) (rl 9 (labExit st.R os) (retV st rs))
  | .ret, st => ∃ os : List Nat, os.Nodup ∧ (∀ l ∈ os, (st.R l).isSome = true) ∧ (∀ l ∈ os, (rl 9 (labExit st.R os) (cntR st.R l)).plain) ∧ (∀ r ∈ rs, retOk P st r) ∧
      ∀ n1, st.n ≤ n1 → Facts st n1 → Q n0 n1 (os.map fun l => rl 9 (labExit st.R os) (cntR st.R l)) (rl 9 (labExit st.R os) (retV st rs))
  | _, _ => False
def St.start (N n : Nat) (args : List D) (R : Roots) : St := { N := N, n := n, s := fun t => args.getD t .any, R := R }
theorem Keep.refl (w : World) (M : Nat → Prop) : Keep w M w := ⟨rfl, rfl, rfl, Nat.le_refl _, fun _ _ _ => rfl, fun _ C _ _ h => ⟨C, h, rfl⟩⟩
theorem icall_intro {f : FuncId} {fn : Func} {c : Code} {rs : List ResultVar} {args ins : List D} {Q : Nat → Nat → List D → D → Prop} (hf : P.funcs[f]? = some fn) (hb : fn.body = some c) (hnm : (fn.name == "runtime.NumGoroutine") = false)
    (hrs : fn.results = rs.toArray) (hlen : rs.length ≤ 4) (hN : args.length ≤ fn.ntmps)
    (h : ∀ w0 M n0 gb, (∀ b, n0 ≤ b → wr w0 M b) → IWp P w0 M c (pendI P rs n0 Q) (St.start fn.ntmps n0 args (InsR gb ins))) : ICall P f args ins Q := by
  refine ⟨⟨fn, hf, by rw [hb]; rfl, hnm⟩, fun w p gb vs hsz hp hins hinj hvs => ?_⟩
  refine calls_of_wp hf hb ?_
  have hgood : Good w ⟨fun b => ∃ i, i < ins.length ∧ b = gb i, p⟩ (St.start fn.ntmps w.heap.size args (InsR gb ins)) ⟨InsR gb ins, 1, p, w⟩ { tmps := vs ++ Array.replicate (fn.ntmps - vs.size) undef, defers := [] } := by
    refine ⟨rfl, by simp [St.start]; omega, rfl, fun t => ?_, fun l g b d hl => ?_, fun l g b d hl => ?_, fun l l' g g' b d d' hl hl' => ?_, hp, Keep.refl _ _, Nat.le_refl _, fun b hb => .inr (.inl hb)⟩
    · show VRep _ (args.getD t .any) _
      rcases Nat.lt_or_ge t args.length with ht | ht
      · have h1 : args.getD t .any = args[t] := by simp [List.getD_eq_getElem?_getD, ht]
        have h2 : (vs ++ Array.replicate (fn.ntmps - vs.size) undef).getD t undef = vs.getD t undef := by
          simp [Array.getElem?_append_left, hsz, ht]
        rw [h1]
        simp only at h2 ⊢
        rw [h2]
        exact hvs t _ (List.getElem?_eq_getElem ht)
      · have h1 : args.getD t .any = .any := by simp [List.getD_eq_getElem?_getD, List.getElem?_eq_none ht]
        rw [h1]; trivial
    · obtain ⟨i, rfl, h2, h3, rfl, rfl⟩ := InsR_some hl
      exact ⟨Nat.one_pos, hins i d h3⟩
    · obtain ⟨i, rfl, h2, h3, rfl, rfl⟩ := InsR_some hl
      exact .inr ⟨i, h2, rfl⟩
    · obtain ⟨i, rfl, h2, h3, rfl, rfl⟩ := InsR_some hl
      obtain ⟨i', rfl, h2', h3', _, h4⟩ := InsR_some hl'
      rw [hinj i i' h2 h2' h4]
  refine wp_mono (h w _ w.heap.size gb (fun b hb => .inl hb) _ _ ⟨_, rfl, hgood⟩) ?_
  rintro x a' w' ⟨st, hq, e, rfl, hg⟩
  have fin : (∃ os : List Nat, os.Nodup ∧ (∀ l ∈ os, (st.R l).isSome = true) ∧ (∀ l ∈ os, (rl 9 (labExit st.R os) (cntR st.R l)).plain) ∧ (∀ r ∈ rs, retOk P st r) ∧
      ∀ n1, st.n ≤ n1 → Facts st n1 → Q w.heap.size n1 (os.map fun l => rl 9 (labExit st.R os) (cntR st.R l)) (rl 9 (labExit st.R os) (retV st rs))) →
      a'.defers = [] ∧ ∃ v, (results fn a'.tmps).run P e.w = .ok v e.w ∧ ∃ v_1 r outs gb' p', Ending.returned v = Ending.returned v_1 ∧ Q w.heap.size e.w.heap.size outs r ∧
      Keep w (fun b => ∃ i, i < ins.length ∧ b = gb i) e.w ∧ (∀ b, p b → p' b) ∧
      (∀ b, p' b → b < e.w.heap.size ∧ (p b ∨ w.heap.size ≤ b ∨ ∃ i, i < ins.length ∧ b = gb i)) ∧
      (∀ i d, outs[i]? = some d → RootOk ⟨InsR gb' outs, 1, p', e.w⟩ (gb' i) d ∧ (w.heap.size ≤ gb' i ∨ ∃ j, j < ins.length ∧ gb' i = gb j)) ∧
      (∀ i j, i < outs.length → j < outs.length → gb' i = gb' j → i = j) ∧
      VRep ⟨InsR gb' outs, 1, p', e.w⟩ r v_1 := by
    rintro ⟨os, hnd, hos, hpl, h1, h3⟩
    obtain ⟨v, hrun, hv⟩ := run_results hg fn hrs hlen h1
    have hblk : ∀ i l, os[i]? = some l → ∃ g b d, st.R l = some (g, b, d) := fun i l hl => by
      have := hos l (List.mem_of_getElem? hl)
      rw [Option.isSome_iff_exists] at this
      obtain ⟨⟨g, b, d⟩, hx⟩ := this
      exact ⟨g, b, d, hx⟩
    let gb' : Nat → Nat := fun i => match (os[i]?).bind st.R with | some (_, b, _) => b | none => 0
    have hgb : ∀ i l, os[i]? = some l → ∀ g b d, st.R l = some (g, b, d) → gb' i = b := fun i l hl g b d hR => by simp [gb', hl, hR]
    let p' : Nat → Prop := fun b => p b ∨ e.P b ∨ ∃ l g d, l ∉ os ∧ st.R l = some (g, b, d)
    let outs : List D := os.map fun l => rl 9 (labExit st.R os) (cntR st.R l)
    have hlt : ∀ l g b d, st.R l = some (g, b, d) → b < e.w.heap.size := fun l g b d hl => by
      obtain ⟨C, T, cs, r1, _⟩ := (hg.envroot hl).row
      exact lt_of_block r1
    have ok : RelabOk e ⟨InsR gb' outs, 1, p', e.w⟩ (labExit st.R os) := by
      refine ⟨rfl, fun b hb => .inr (.inl hb), fun l g l' g' hF hgg => ?_, fun l g b d hF => ?_⟩
      · unfold labExit at hF
        split at hF
        · rename_i g1 b1 d1 hR
          split at hF
          · rename_i hgg'
            subst hgg'
            split at hF
            · rename_i i hi
              simp only [Lab.to.injEq] at hF
              obtain ⟨rfl, rfl⟩ := hF
              refine ⟨Nat.one_pos, fun b d hb => ?_⟩
              obtain ⟨i', h1, h2, h3, _, rfl⟩ := InsR_some hb
              obtain rfl : i' = i := by omega
              rw [hgb _ _ (idxOf?_spec hi) _ _ _ hR, hg.R, hR]
              exact ⟨_, rfl⟩
            · cases hF
          · cases hF
        · cases hF
      · unfold labExit at hF
        split at hF
        · rename_i g1 b1 d1 hR
          split at hF
          · rename_i hgg'
            subst hgg'
            split at hF
            · cases hF
            · rename_i hi
              simp only [Lab.per.injEq] at hF
              obtain ⟨rfl, rfl⟩ := hF
              exact ⟨by rw [hg.R]; exact hR, hg.envroot hR, .inr (.inr ⟨l, _, _, by simpa [List.idxOf?_eq_none_iff] using hi, hR⟩)⟩
          · cases hF
        · cases hF
    refine ⟨hg.df, v, hrun, v, _, outs, gb', p', rfl, h3 _ hg.n hg.facts, hg.keep, fun b hb => .inl hb, ?_, ?_, ?_, VRep_rl ok 9 _ _ hv⟩
    · rintro b (hb | hb | ⟨l, g, d, hl, hR⟩)
      · exact ⟨Nat.lt_of_lt_of_le (hp b hb) hg.keep.size, .inl hb⟩
      · exact ⟨hg.P b hb, (hg.per b hb).elim (fun h => .inr (.inl h)) fun h => h.elim .inl fun h => .inr (.inr h)⟩
      · exact ⟨hlt _ _ _ _ hR, .inr (hg.own _ _ _ _ hR)⟩
    · intro i d hi
      rw [List.getElem?_map, Option.map_eq_some_iff] at hi
      obtain ⟨l, hl, rfl⟩ := hi
      obtain ⟨g, b, d, hR⟩ := hblk i l hl
      have hro := hg.envroot hR
      rw [hgb i l hl g b d hR]
      refine ⟨⟨?_, hpl l (List.mem_of_getElem? hl), ?_⟩, hg.own _ _ _ _ hR⟩
      · rintro (hb | hb | ⟨l', g', d', hl', hR'⟩)
        · rcases hg.own _ _ _ _ hR with h' | ⟨j, hj, rfl⟩
          · have := hp b hb; omega
          · exact (hins j _ (List.getElem?_eq_getElem hj)).np hb
        · exact hro.np hb
        · have := hg.inj _ _ _ _ _ _ _ hR hR'
          subst this
          exact hl' (List.mem_of_getElem? hl)
      · have hcd : cntR st.R l = d := by simp [cntR, hR]
        obtain ⟨C, T, cs, r1, r2, r3⟩ := hro.row
        rw [hcd]
        exact ⟨C, T, cs, r1, Rep_rl ok 9 _ _ r2, r3⟩
    · intro i j hi hj hij
      have hi' : i < os.length := by simpa [outs] using hi
      have hj' : j < os.length := by simpa [outs] using hj
      obtain ⟨g, b, d, hR⟩ := hblk i os[i] (by simp [hi'])
      obtain ⟨g', b', d', hR'⟩ := hblk j os[j] (by simp [hj'])
      rw [hgb i os[i] (by simp [hi']) g b d hR, hgb j os[j] (by simp [hj']) g' b' d' hR'] at hij
      subst hij
      exact nodup_inj hnd hi' hj' (hg.inj _ _ _ _ _ _ _ hR hR')
  cases x with
  | normal => exact fin hq
  | ret => exact fin hq
  | _ => exact hq.elim
def pend (P : Program) (rs : List ResultVar) (n0 : Nat) (Q : Nat → Nat → D → Prop) : Exit → St → Prop
  | .normal, st => (∀ r ∈ rs, retOk P st r) ∧ ∀ n1, st.n ≤ n1 → Facts st n1 → Q n0 n1 (rl 9 (labView st.R) (retV st rs))
  | .ret, st => (∀ r ∈ rs, retOk P st r) ∧ ∀ n1, st.n ≤ n1 → Facts st n1 → Q n0 n1 (rl 9 (labView st.R) (retV st rs))
  | _, _ => False
theorem labExit_nil (R : Roots) : labExit R [] = labView R := by
  funext l g; simp only [labExit, labView]; cases R l <;> simp
theorem pcall_intro {f : FuncId} {fn : Func} {c : Code} {rs : List ResultVar} {args : List D} {Q : Nat → Nat → D → Prop} (hf : P.funcs[f]? = some fn) (hb : fn.body = some c) (hnm : (fn.name == "runtime.NumGoroutine") = false)
    (hrs : fn.results = rs.toArray) (hlen : rs.length ≤ 4) (hN : args.length ≤ fn.ntmps)
    (h : ∀ w0 M n0, (∀ b, n0 ≤ b → wr w0 M b) → IWp P w0 M c (pend P rs n0 Q) (St.start fn.ntmps n0 args fun _ => none)) : PCall P f args Q := by
  refine icall_intro hf hb hnm hrs hlen hN fun w0 M n0 gb hW => ?_
  have hnil : InsR gb [] = fun _ => none := by funext l; simp [InsR]
  rw [hnil]
  refine iwp_mono (h w0 M n0 hW) fun x st hq => ?_
  have fin : ((∀ r ∈ rs, retOk P st r) ∧ ∀ n1, st.n ≤ n1 → Facts st n1 → Q n0 n1 (rl 9 (labView st.R) (retV st rs))) → _ := fun ⟨h1, h2⟩ =>
    (⟨[], List.nodup_nil, by simp, by simp, h1, fun n1 hn hf => ⟨rfl, by rw [labExit_nil]; exact h2 n1 hn hf⟩⟩ :
      ∃ os : List Nat, os.Nodup ∧ (∀ l ∈ os, (st.R l).isSome = true) ∧ (∀ l ∈ os, (rl 9 (labExit st.R os) (cntR st.R l)).plain) ∧ (∀ r ∈ rs, retOk P st r) ∧
        ∀ n1, st.n ≤ n1 → Facts st n1 → ((os.map fun l => rl 9 (labExit st.R os) (cntR st.R l)) = [] ∧ Q n0 n1 (rl 9 (labExit st.R os) (retV st rs))))
  cases x with
  | normal => exact fin hq
  | ret => exact fin hq
  | _ => exact hq.elim
end
end Go.Proofs.YtncinhlaabdlaaaGreat.IM
end
section
namespace Go.Proofs.YtncinhlaabdlaaaGreat.IM
open Go Go.RowKit
set_option linter.unusedVariables false
def chkLeaf : Value → Value → Bool
  | .int k n, .int k' n' => k == k' && n == n'
  | .bool b, .bool b' => b == b'
  | .string s, .string s' => s.data == s'.data
  | _, _ => false
theorem chkLeaf_eq {u v : Value} (h : chkLeaf u v = true) : u = v ∧ Leaf u := by
  cases u <;> cases v <;> simp [chkLeaf] at h
  · subst h; exact ⟨rfl, trivial⟩
  · obtain ⟨rfl, rfl⟩ := h; exact ⟨rfl, trivial⟩
  · rename_i s s'
    refine ⟨?_, trivial⟩
    cases s; cases s'; simp_all
def chk : D → List Value → Bool
  | .lit u, [v] => chkLeaf u v
  | .nil, [.slice none 0 0] => true
  | .node k f, cs => cs.length == k.all && (List.range k.cnt).all fun i => chk (f i) ((cs.drop (k.off i)).take (k.sz i))
  | _, _ => false
theorem chk_sound (e : Env) {d : D} : ∀ {cs : List Value}, chk d cs = true → Rep e d cs := by
  induction d with
  | lit u =>
    intro cs h
    match cs, h with
    | [v], h => obtain ⟨rfl, hl⟩ := chkLeaf_eq h; exact ⟨hl, rfl⟩
    | [], h => simp [chk] at h
    | _ :: _ :: _, h => simp [chk] at h
  | nil =>
    intro cs h
    unfold chk at h
    split at h <;> first | (cases h; done) | skip
    all_goals first | exact ⟨_, rfl⟩ | simp_all
  | node k f ih =>
    intro cs h
    simp only [chk, Bool.and_eq_true, beq_iff_eq, List.all_eq_true, List.mem_range] at h
    obtain ⟨hl, h⟩ := h
    have hlen : ∀ i, i < k.cnt → ((cs.drop (k.off i)).take (k.sz i)).length = k.sz i := by
      intro i hi
      have := Kd.off_le k k.cnt (i + 1) hi (Nat.le_refl _)
      rw [Kd.off_succ k i hi, Kd.off_cnt] at this
      simp; omega
    refine ⟨fun i => (cs.drop (k.off i)).take (k.sz i), fun i hi => ⟨hlen i hi, ih i (h i hi)⟩, ?_⟩
    have key : ∀ n, n ≤ k.cnt → flat n (fun i => (cs.drop (k.off i)).take (k.sz i)) = cs.take (k.off n) := by
      intro n
      induction n with
      | zero => intro _; simp
      | succ n ihn =>
        intro hn
        rw [flat_succ, ihn (by omega), Kd.off_succ k n (by omega), List.take_add]
    rw [key k.cnt (Nat.le_refl _), Kd.off_cnt, ← hl, List.take_length]
  | _ => intro cs h; unfold chk at h; cases h
def zeroB (P : Program) (T : TypeId) (z : D) : Bool :=
  match P.info? T with
  | some i => match i.zero, z with
    | some (.agg cs), .node k f => chk (.node k f) cs.toList
    | some _, .node _ _ => false
    | some v, .lit u => chkLeaf u v
    | some (.slice none 0 0), .nil => true
    | _, _ => false
  | none => false
theorem zeroOk_of {P : Program} {T : TypeId} {z : D} (h : zeroB P T z = true) : ZeroOk P T z := by
  unfold zeroB at h
  cases hi : P.info? T with
  | none => rw [hi] at h; cases h
  | some i =>
    rw [hi] at h
    simp only at h
    split at h
    · rename_i cs k f hz
      exact ⟨trivial, i, _, hi, hz, fun e => ⟨_, rfl, chk_sound e h⟩⟩
    · cases h
    · rename_i v u hz
      obtain ⟨rfl, hl⟩ := chkLeaf_eq h
      exact ⟨trivial, i, _, hi, hz, fun e => ⟨hl, rfl⟩⟩
    · rename_i hz
      exact ⟨trivial, i, _, hi, hz, fun e => ⟨none, rfl⟩⟩
    · cases h
section
variable (P : Program) (K : St → Prop) (N n : Nat) (s : Nat → D) (R : Roots) (st : St) (ops : Array Oper) (rest : List Oper)
variable (dst : Option Tmp) (ty : TypeId) (pos : String) (after : Array Edge) (gd : Option (Nat × Bool))
@[go_sem] theorem nthD_zero (d : D) (l : List D) : nthD (d :: l) 0 = d := rfl
@[go_sem] theorem nthD_succ (d : D) (l : List D) (i : Nat) : nthD (d :: l) (i + 1) = nthD l i := rfl
@[go_sem] theorem upd_at {α : Type} (f : Nat → α) (t : Nat) (x : α) : upd f t x t = x := upd_same f t x
@[go_sem] theorem upd_other {α : Type} (f : Nat → α) (t k : Nat) (x : α) (h : k ≠ t) : upd f t x k = f k := upd_ne f x h
@[go_sem] theorem upd_upd {α : Type} (f : Nat → α) (t : Nat) (x y : α) : upd (upd f t x) t y = upd f t y := by
  funext k; unfold upd; split <;> rfl
@[go_sem] theorem St_put_some (t : Nat) (d : D) : (St.mk N n s R).put (some t) d = St.mk N n (upd s t d) R := rfl
@[go_sem] theorem St_put_none (d : D) : (St.mk N n s R).put none d = St.mk N n s R := rfl
@[go_sem] theorem St_dstOk_none : (St.mk N n s R).dstOk none = True := by simp [St.dstOk]
@[go_sem] theorem St_dstOk_some (t : Nat) : (St.mk N n s R).dstOk (some t) = (t < N) := by simp [St.dstOk]
@[go_sem] theorem St_ev_tmp (t : Nat) : (St.mk N n s R).ev (.tmp t) = s t := rfl
@[go_sem] theorem St_ev_int (k : IntKind) (i : Int) : st.ev (.const (.int k i)) = .lit (.int k i) := rfl
@[go_sem] theorem St_ev_bool (b : Bool) : st.ev (.const (.bool b)) = .lit (.bool b) := rfl
@[go_sem] theorem St_ev_str (x : ByteArray) : st.ev (.const (.string x)) = .lit (.string x) := rfl
@[go_sem] theorem St_ev_nil : st.ev (.const (.slice none 0 0)) = .nil := rfl
@[go_sem] theorem St_ev_func (f : FuncId) : st.ev (.func f) = .fn f 0 fun _ => .any := rfl
@[go_sem] theorem St_know_tmp (t : Nat) (b : Bool) : (St.mk N n s R).know (.tmp t) b = St.mk N n (upd s t (.lit (.bool b))) R := rfl
@[go_sem] theorem St_know_const (v : Value) (b : Bool) : (St.mk N n s R).know (.const v) b = St.mk N n s R := rfl
@[go_sem] theorem St_new_eq (l g b : Nat) (d : D) : (St.mk N n s R).new l g b d = St.mk N (b + 1) s (upd R l (some (g, b, d))) := rfl
@[go_sem] theorem St_rd_eq (l g : Nat) : (St.mk N n s R).rd l g = rdR R l g := rfl
@[go_sem] theorem rdR_same (l g b : Nat) (d : D) (R' : Roots) : rdR (upd R' l (some (g, b, d))) l g = d := by simp [rdR]
@[go_sem] theorem rdR_other (l l' g : Nat) (x : Option (Nat × Nat × D)) (R' : Roots) (h : l' ≠ l) : rdR (upd R' l x) l' g = rdR R' l' g := by simp [rdR, upd_ne _ _ h]
@[go_sem] theorem wrR_same (l g b : Nat) (d d' : D) (R' : Roots) : wrR (upd R' l (some (g, b, d))) l d' = upd R' l (some (g, b, d')) := by
  simp [wrR, upd_upd]
theorem upd_comm {α : Type} (f : Nat → α) {t k : Nat} (x y : α) (h : t ≠ k) : upd (upd f t x) k y = upd (upd f k y) t x := by
  funext j; unfold upd
  by_cases h1 : j = k
  · subst h1; rw [if_pos rfl, if_neg (Ne.symm h), if_pos rfl]
  · rw [if_neg h1, if_neg h1]
@[go_sem] theorem wrR_other (l l' : Nat) (x : Option (Nat × Nat × D)) (d' : D) (R' : Roots) (h : l' ≠ l) :
    wrR (upd R' l x) l' d' = upd (wrR R' l' d') l x := by
  simp only [wrR, upd_ne _ _ h]
  rw [upd_comm _ _ _ (Ne.symm h)]
@[go_sem] theorem St_N_mk : (St.mk N n s R).N = N := rfl
@[go_sem] theorem St_n_mk : (St.mk N n s R).n = n := rfl
@[go_sem] theorem St_s_mk : (St.mk N n s R).s = s := rfl
@[go_sem] theorem St_R_mk : (St.mk N n s R).R = R := rfl
@[go_sem] theorem D_get_nil (d : D) : d.get [] = d := by cases d <;> rfl
@[go_sem] theorem D_get_cons (d : D) (i : Nat) (p : List Nat) : d.get (i :: p) = (d.chd i).get p := rfl
@[go_sem] theorem D_offOf_nil (d : D) : d.offOf [] = 0 := by cases d <;> rfl
@[go_sem] theorem D_offOf_cons (d : D) (i : Nat) (p : List Nat) : d.offOf (i :: p) = d.kd.off i + (d.chd i).offOf p := rfl
@[go_sem] theorem D_inb_nil (d : D) : d.inb [] = True := by cases d <;> rfl
@[go_sem] theorem D_inb_cons (d : D) (i : Nat) (p : List Nat) : d.inb (i :: p) = (i < d.kd.cnt ∧ (d.chd i).inb p) := rfl
@[go_sem] theorem D_set_nil (d v : D) : d.set [] v = v := by cases d <;> rfl
@[go_sem] theorem D_set_cons (k : Kd) (f : Nat → D) (i : Nat) (p : List Nat) (v : D) : (D.node k f).set (i :: p) v = .node k (upd f i ((f i).set p v)) := rfl
@[go_sem] theorem D_chd_node (k : Kd) (f : Nat → D) (i : Nat) : (D.node k f).chd i = f i := rfl
@[go_sem] theorem D_kd_node (k : Kd) (f : Nat → D) : (D.node k f).kd = k := rfl
@[go_sem] theorem D_size_node (k : Kd) (f : Nat → D) : (D.node k f).size = k.all := rfl
@[go_sem] theorem D_size_lit (v : Value) : (D.lit v).size = 1 := rfl
@[go_sem] theorem D_size_nil : D.nil.size = 1 := rfl
@[go_sem] theorem D_size_sl (t m z : Nat) (zb : Bool) (f : Nat → D) : (D.sl t zb m z f).size = 1 := rfl
@[go_sem] theorem D_size_msl (l g o : Nat) (p : List Nat) (i m z : Nat) : (D.msl l g o p i m z).size = 1 := rfl
@[go_sem] theorem D_size_ptr (l g o : Nat) (p : List Nat) : (D.ptr l g o p).size = 1 := rfl
@[go_sem] theorem D_size_fn (f : FuncId) (m : Nat) (c : Nat → D) : (D.fn f m c).size = 1 := rfl
@[go_sem] theorem D_isNode_node (k : Kd) (f : Nat → D) : (D.node k f).isNode = some true := rfl
@[go_sem] theorem D_isNode_lit (v : Value) : (D.lit v).isNode = some false := rfl
@[go_sem] theorem D_isNode_nil : D.nil.isNode = some false := rfl
@[go_sem] theorem D_isNode_sl (t m z : Nat) (zb : Bool) (f : Nat → D) : (D.sl t zb m z f).isNode = some false := rfl
@[go_sem] theorem D_isNode_msl (l g o : Nat) (p : List Nat) (i m z : Nat) : (D.msl l g o p i m z).isNode = some false := rfl
@[go_sem] theorem D_isNode_ptr (l g o : Nat) (p : List Nat) : (D.ptr l g o p).isNode = some false := rfl
@[go_sem] theorem D_isNode_fn (f : FuncId) (m : Nat) (c : Nat → D) : (D.fn f m c).isNode = some false := rfl
@[go_sem] theorem D_plain_node (k : Kd) (f : Nat → D) : (D.node k f).plain = True := rfl
@[go_sem] theorem D_plain_lit (v : Value) : (D.lit v).plain = True := rfl
@[go_sem] theorem D_plain_nil : D.nil.plain = True := rfl
@[go_sem] theorem D_plain_sl (t m z : Nat) (zb : Bool) (f : Nat → D) : (D.sl t zb m z f).plain = True := rfl
@[go_sem] theorem D_plain_msl (l g o : Nat) (p : List Nat) (i m z : Nat) : (D.msl l g o p i m z).plain = True := rfl
@[go_sem] theorem D_plain_ptr (l g o : Nat) (p : List Nat) : (D.ptr l g o p).plain = True := rfl
@[go_sem] theorem D_plain_fn (f : FuncId) (m : Nat) (c : Nat → D) : (D.fn f m c).plain = True := rfl
@[go_sem] theorem D_isRef_ptr (l g o : Nat) (p : List Nat) : (D.ptr l g o p).isRef = True := rfl
@[go_sem] theorem D_isRef_cptr (d : D) : (D.cptr d).isRef = True := rfl
@[go_sem] theorem D_isRef_fn (f : FuncId) (m : Nat) (c : Nat → D) : (D.fn f m c).isRef = True := rfl
@[go_sem] theorem D_len_nil : D.nil.len = some 0 := rfl
@[go_sem] theorem D_len_sl (t m z : Nat) (zb : Bool) (f : Nat → D) : (D.sl t zb m z f).len = some m := rfl
@[go_sem] theorem D_len_msl (l g o : Nat) (p : List Nat) (i m z : Nat) : (D.msl l g o p i m z).len = some m := rfl
@[go_sem] theorem Kd_all_agg (l : List Nat) : (Kd.agg l).all = l.sum := rfl
@[go_sem] theorem Kd_all_arr (m z : Nat) : (Kd.arr m z).all = m * z := rfl
@[go_sem] theorem Kd_cnt_agg (l : List Nat) : (Kd.agg l).cnt = l.length := rfl
@[go_sem] theorem Kd_cnt_arr (m z : Nat) : (Kd.arr m z).cnt = m := rfl
@[go_sem] theorem Kd_off_agg (l : List Nat) (i : Nat) : (Kd.agg l).off i = (l.take i).sum := rfl
@[go_sem] theorem Kd_off_arr (m z i : Nat) : (Kd.arr m z).off i = i * z := rfl
attribute [go_sem] List.sum_cons List.sum_nil List.length_cons List.length_nil List.take_succ_cons List.take_zero Nat.add_zero Nat.zero_add List.nil_append List.cons_append
@[go_sem] theorem TyOk_eq (T : TypeId) (d : D) : TyOk P T d = (tsz P T = some d.size ∧ tagg P T = d.isNode ∧ d.isNode.isSome = true) := rfl
attribute [go_sem] forall_const Bool.false_eq_true false_implies true_implies Bool.not_true Bool.not_false Bool.true_eq_false if_true if_false ne_eq not_false_eq_true not_true_eq_false decide_eq_true_eq decide_eq_false_iff_not List.map_cons List.map_nil List.append_nil List.range_zero
attribute [go_sem] Option.isSome_some Option.some.injEq and_true true_and and_self and_assoc exists_eq_left' exists_eq_left exists_eq_right exists_eq_right' D.lit.injEq Value.int.injEq Value.bool.injEq Value.string.injEq
inductive Tok {α : Type} (k : α) : Type where
  | mk
def wLit (d : D) (k : Value → Prop) (_ : Tok k := .mk) : Prop := match d with
  | .lit v => k v
  | _ => False
def wBool (d : D) (k : Bool → Prop) (_ : Tok k := .mk) : Prop := match d with
  | .lit (.bool b) => k b
  | _ => False
def wInt (d : D) (k : IntKind → Int → Prop) (_ : Tok k := .mk) : Prop := match d with
  | .lit (.int i n) => k i n
  | _ => False
def wSome {α : Type} (x : Option α) (k : α → Prop) (_ : Tok k := .mk) : Prop := match x with
  | some x => k x
  | none => False
def wTup (d : D) (k : Nat → (Nat → D) → Prop) (_ : Tok k := .mk) : Prop := match d with
  | .tup n f => k n f
  | _ => False
@[go_sem] theorem wLit_lit (v : Value) (k : Value → Prop) : wLit (.lit v) k = k v := rfl
@[go_sem] theorem wBool_lit (b : Bool) (k : Bool → Prop) : wBool (.lit (.bool b)) k = k b := rfl
@[go_sem] theorem wInt_lit (i : IntKind) (n : Int) (k : IntKind → Int → Prop) : wInt (.lit (.int i n)) k = k i n := rfl
@[go_sem] theorem wSome_some {α : Type} (x : α) (k : α → Prop) : wSome (some x) k = k x := rfl
@[go_sem] theorem wTup_tup (m : Nat) (f : Nat → D) (k : Nat → (Nat → D) → Prop) : wTup (.tup m f) k = k m f := rfl
theorem wLit_eq (d : D) (k : Value → Prop) : (∃ v, d = .lit v ∧ k v) = wLit d k := by
  cases d <;> simp [wLit]
theorem wBool_eq (d : D) (k : Bool → Prop) : (∃ b, d = .lit (.bool b) ∧ k b) = wBool d k := by
  cases d with
  | lit v => cases v <;> simp [wBool]
  | _ => simp [wBool]
theorem wInt_eq (d : D) (k : IntKind → Int → Prop) : (∃ i n, d = .lit (.int i n) ∧ k i n) = wInt d k := by
  cases d with
  | lit v => cases v <;> simp [wInt, and_assoc]
  | _ => simp [wInt]
theorem wSome_eq {α : Type} (x : Option α) (k : α → Prop) : (∃ v, x = some v ∧ k v) = wSome x k := by
  cases x <;> simp [wSome]
theorem wTup_eq (d : D) (k : Nat → (Nat → D) → Prop) : (∃ n f, d = .tup n f ∧ k n f) = wTup d k := by
  cases d <;> simp [wTup, and_assoc]
def wTest (d : D) (k : Bool → Prop) (z : Prop) (_ : Tok k := .mk) (_ : Tok z := .mk) : Prop := match d with
  | .lit (.bool b) => k b
  | .tup 0 _ => z
  | _ => False
@[go_sem] theorem wTest_bool (b : Bool) (k : Bool → Prop) (z : Prop) : wTest (.lit (.bool b)) k z = k b := rfl
@[go_sem] theorem wTest_und (k : Bool → Prop) (z : Prop) : wTest und k z = z := rfl
theorem wTest_eq (d : D) (k : Bool → Prop) (z : Prop) : ((∃ b, d = .lit (.bool b) ∧ k b) ∨ ∃ f, d = .tup 0 f ∧ z) = wTest d k z := by
  apply propext
  cases d with
  | lit v => cases v <;> simp [wTest]
  | tup n f =>
    cases n with
    | zero => simp [wTest]
    | succ n => simp [wTest]
  | _ => simp [wTest]
def wRef (d : D) (kp : Nat → Nat → Nat → List Nat → Prop) (kc : D → Prop) (_ : Tok kp := .mk) (_ : Tok kc := .mk) : Prop := match d with
  | .ptr l g q p => kp l g q p
  | .cptr d => kc d
  | _ => False
@[go_sem] theorem wRef_ptr (l g q : Nat) (p : List Nat) (kp : Nat → Nat → Nat → List Nat → Prop) (kc : D → Prop) : wRef (.ptr l g q p) kp kc = kp l g q p := rfl
@[go_sem] theorem wRef_cptr (d : D) (kp : Nat → Nat → Nat → List Nat → Prop) (kc : D → Prop) : wRef (.cptr d) kp kc = kc d := rfl
def wIdx (d : D) (km : Nat → Nat → Nat → List Nat → Nat → Nat → Nat → Prop) (ks : Nat → Nat → (Nat → D) → Prop) (kp : Nat → Nat → Nat → List Nat → Prop) (kc : D → Prop) (_ : Tok km := .mk) (_ : Tok ks := .mk) (_ : Tok kp := .mk) (_ : Tok kc := .mk) : Prop := match d with
  | .msl l g q p j m sz => km l g q p j m sz
  | .sl _ _ m sz f => ks m sz f
  | .ptr l g q p => kp l g q p
  | .cptr d => kc d
  | _ => False
@[go_sem] theorem wIdx_msl (l g q : Nat) (p : List Nat) (j m sz : Nat) (km : Nat → Nat → Nat → List Nat → Nat → Nat → Nat → Prop) (ks : Nat → Nat → (Nat → D) → Prop) (kp : Nat → Nat → Nat → List Nat → Prop) (kc : D → Prop) :
    wIdx (.msl l g q p j m sz) km ks kp kc = km l g q p j m sz := rfl
@[go_sem] theorem wIdx_sl (t : Nat) (zb : Bool) (m sz : Nat) (f : Nat → D) (km : Nat → Nat → Nat → List Nat → Nat → Nat → Nat → Prop) (ks : Nat → Nat → (Nat → D) → Prop) (kp : Nat → Nat → Nat → List Nat → Prop) (kc : D → Prop) :
    wIdx (.sl t zb m sz f) km ks kp kc = ks m sz f := rfl
@[go_sem] theorem wIdx_ptr (l g q : Nat) (p : List Nat) (km : Nat → Nat → Nat → List Nat → Nat → Nat → Nat → Prop) (ks : Nat → Nat → (Nat → D) → Prop) (kp : Nat → Nat → Nat → List Nat → Prop) (kc : D → Prop) :
    wIdx (.ptr l g q p) km ks kp kc = kp l g q p := rfl
@[go_sem] theorem wIdx_cptr (d : D) (km : Nat → Nat → Nat → List Nat → Nat → Nat → Nat → Prop) (ks : Nat → Nat → (Nat → D) → Prop) (kp : Nat → Nat → Nat → List Nat → Prop) (kc : D → Prop) :
    wIdx (.cptr d) km ks kp kc = kc d := rfl
def wFn (d : D) (k : Nat → Nat → (Nat → D) → Prop) (_ : Tok k := .mk) : Prop := match d with
  | .fn f m c => k f m c
  | _ => False
@[go_sem] theorem wFn_fn (f m : Nat) (c : Nat → D) (k : Nat → Nat → (Nat → D) → Prop) : wFn (.fn f m c) k = k f m c := rfl
def wStr (d : D) (k : ByteArray → Prop) (_ : Tok k := .mk) : Prop := match d with
  | .lit (.string s) => k s
  | _ => False
@[go_sem] theorem wStr_lit (s : ByteArray) (k : ByteArray → Prop) : wStr (.lit (.string s)) k = k s := rfl
def effT (P : Program) (op : Op) (dst : Option Tmp) (ev : Operand → D) (R : Roots) (n : Nat) (k : Roots → Nat → D → Prop) (_ : Tok k := .mk) (_ : Tok op := .mk) : Prop := eff P op dst ev R n k
def effBT (P : Program) (b : Builtin) (ds : List D) (ts : Array TypeId) (dst : Option Tmp) (R : Roots) (n : Nat) (k : Roots → Nat → D → Prop) (_ : Tok k := .mk) : Prop := effB P b ds ts dst R n k
def effST (P : Program) (T : TypeId) (d : D) (lo hi mx : Option D) (R : Roots) (n : Nat) (k : Roots → Nat → D → Prop) (_ : Tok k := .mk) : Prop := effS P T d lo hi mx R n k
def buildT (pl : Nat → Option (Nat × Nat)) (ev : Operand → D) (d : D) (ps : List (Nat × Operand)) (k : D → Prop) (_ : Tok k := .mk) (_ : Tok ps := .mk) : Prop := buildD pl ev d ps k
def vcOpT (P : Program) (o : Oper) (st : St) (K : St → Prop) (_ : Tok K := .mk) (_ : Tok o := .mk) : Prop := vcOp P o st K
def vcLT (P : Program) (W : Nat → Prop) (gs : List (Option Tmp)) (K : St → Prop) (l : List Oper) (st : St) (_ : Tok K := .mk) (_ : Tok gs := .mk) (_ : Tok l := .mk) : Prop := vcLg P W gs K l st
def gsT (l : List Oper) (_ : Tok l := .mk) : List (Option Tmp) := l.map (·.dst)
def vcMT (P : Program) (W : Nat → Prop) (o : Oper) (st : St) (K : St → Prop) (_ : Tok K := .mk) (_ : Tok o := .mk) : Prop := vcM P W o st K
section effs
variable (ev : Operand → D) (k : Roots → Nat → D → Prop)
@[go_sem] theorem eff_move (x : Operand) : effT P (.move x) dst ev R n k = k R n (ev x) := rfl
@[go_sem] theorem eff_assign (x : Operand) : effT P (.assign x) dst ev R n k = k R n (ev x) := rfl
@[go_sem] theorem eff_pick (c x y : Operand) : effT P (.pick c x y) dst ev R n k = wBool (ev c) fun t => k R n (if t then ev x else ev y) := by rw [← wBool_eq]; rfl
@[go_sem] theorem eff_not (T : TypeId) (x : Operand) : effT P (.unOp .not T x) dst ev R n k = wBool (ev x) fun t => k R n (.lit (.bool (!t))) := by rw [← wBool_eq]; rfl
@[go_sem] theorem eff_neg (T : TypeId) (x : Operand) : effT P (.unOp .neg T x) dst ev R n k = wInt (ev x) fun kd i => k R n (.lit (.int kd (kd.wrap (0 - i)))) := by rw [← wInt_eq]; rfl
@[go_sem] theorem eff_bin_tmp (op : BinOp) (T T2 : TypeId) (x : Operand) (t : Tmp) : effT P (.binOp op T x (.tmp t) T2) dst ev R n k =
    wLit (ev x) fun u => wLit (ev (.tmp t)) fun v => wSome (bin P T op u v) fun r => k R n (.lit r) := by
  simp only [← wLit_eq, ← wSome_eq, effT, eff, exists_and_left]
@[go_sem] theorem eff_bin_int (op : BinOp) (T T2 : TypeId) (x : Operand) (kd : IntKind) (i : Int) : effT P (.binOp op T x (.const (.int kd i)) T2) dst ev R n k =
    wLit (ev x) fun u => wLit (ev (.const (.int kd i))) fun v => wSome (bin P T op u v) fun r => k R n (.lit r) := by
  simp only [← wLit_eq, ← wSome_eq, effT, eff, exists_and_left]
@[go_sem] theorem eff_bin_bool (op : BinOp) (T T2 : TypeId) (x : Operand) (b : Bool) : effT P (.binOp op T x (.const (.bool b)) T2) dst ev R n k =
    wLit (ev x) fun u => wLit (ev (.const (.bool b))) fun v => wSome (bin P T op u v) fun r => k R n (.lit r) := by
  simp only [← wLit_eq, ← wSome_eq, effT, eff, exists_and_left]
@[go_sem] theorem eff_bin_str (op : BinOp) (T T2 : TypeId) (x : Operand) (s : ByteArray) : effT P (.binOp op T x (.const (.string s)) T2) dst ev R n k =
    wLit (ev x) fun u => wLit (ev (.const (.string s))) fun v => wSome (bin P T op u v) fun r => k R n (.lit r) := by
  simp only [← wLit_eq, ← wSome_eq, effT, eff, exists_and_left]
@[go_sem] theorem eff_eqNil (T T2 : TypeId) (x : Operand) : effT P (.binOp .eql T x (.const (.slice none 0 0)) T2) dst ev R n k =
    wSome (telem P T) fun _ => wSome (nilD (ev x)) fun r => ∀ b : Bool, (r = none ∨ r = some b) → k R n (.lit (.bool b)) := by
  simp only [← wSome_eq, effT, eff, exists_and_left]
@[go_sem] theorem eff_build (T : TypeId) (parts : List (Nat × Operand)) : effT P (.build T parts.toArray) dst ev R n k =
    wSome (tplaces P T) fun pl => ZeroOk P T (zd P T) ∧ buildT (fun i => pl[i]?) ev (zd P T) parts fun d => d.isNode = some true ∧ k R n d := by
  rw [← wSome_eq]; simp [effT, eff, buildT]
@[go_sem] theorem eff_buildSlice (T : TypeId) (len l : Nat) (parts : List (Nat × Operand)) : effT P (.buildSlice T len parts.toArray) (some l) ev R n k =
    wSome (telem P T) fun E => ZeroOk P E (zd P E) ∧ tsz P E = some (zd P E).size ∧ len * (zd P E).size ≤ 16777216 ∧
      buildT (fun i => some (i * (zd P E).size, (zd P E).size)) ev (.node (.arr len (zd P E).size) fun _ => zd P E) parts fun d => d.plain ∧ ∀ g b, n ≤ b → k (upd R l (some (g, b, d))) (b + 1) (.msl l g 0 [] 0 len (zd P E).size) := by
  rw [← wSome_eq]; simp [effT, eff, buildT]
@[go_sem] theorem eff_makeSlice (T : TypeId) (l : Nat) (x y : Operand) : effT P (.makeSlice T x y) (some l) ev R n k =
    wSome (telem P T) fun E => wSome (tbytes P E) fun by_ => wInt (ev x) fun _ i => wInt (ev y) fun _ c => ZeroOk P E (zd P E) ∧ tsz P E = some (zd P E).size ∧
      0 ≤ i ∧ i ≤ c ∧ (by_ : Int) * c ≤ 281474976710656 ∧ c ≤ 9223372036854775807 ∧
      ∀ g b, n ≤ b → k (upd R l (some (g, b, .node (.arr i.toNat (zd P E).size) fun _ => zd P E))) (b + 1) (.msl l g 0 [] 0 i.toNat (zd P E).size) := by
  simp only [← wSome_eq, ← wInt_eq]
  apply propext
  constructor
  · rintro ⟨l', E, by_, kx, ky, i, c, h0, h1, h2, h3, h4, h5, h6, h7, h8, h9, h10, h11⟩
    obtain rfl := Option.some.inj h0
    exact ⟨E, h1, by_, h3, kx, i, h5, ky, c, h6, h2, h4, h7, h8, h9, h10, h11⟩
  · rintro ⟨E, h1, by_, h3, kx, i, h5, ky, c, h6, h2, h4, h7, h8, h9, h10, h11⟩
    exact ⟨l, E, by_, kx, ky, i, c, rfl, h1, h2, h3, h4, h5, h6, h7, h8, h9, h10, h11⟩
@[go_sem] theorem nilD_nil : nilD .nil = some none := rfl
@[go_sem] theorem nilD_sl (t m z : Nat) (zb : Bool) (f : Nat → D) : nilD (.sl t zb m z f) = some (some false) := rfl
@[go_sem] theorem nilD_msl (l g o : Nat) (p : List Nat) (i m z : Nat) : nilD (.msl l g o p i m z) = some (some false) := rfl
@[go_sem] theorem buildT_nil (pl : Nat → Option (Nat × Nat)) (d : D) (kd : D → Prop) : buildT pl ev d [] kd = kd d := rfl
@[go_sem] theorem buildT_cons (pl : Nat → Option (Nat × Nat)) (d : D) (i : Nat) (x : Operand) (rest : List (Nat × Operand)) (kd : D → Prop) : buildT pl ev d ((i, x) :: rest) kd =
    (i < d.kd.cnt ∧ pl i = some (d.kd.off i, (ev x).size) ∧ (d.chd i).plain ∧ (d.chd i).size = (ev x).size ∧ (ev x).plain ∧ buildT pl ev (d.set [i] (ev x)) rest kd) := rfl
def wConv (P : Program) (S T : TypeId) (d : D) (R : Roots) (n : Nat) (k : Roots → Nat → D → Prop) : Prop := (∃ kd k' i, d = .lit (.int k' i) ∧ (P.underlying S).isSome = true ∧ tint P T = some kd ∧ k R n (.lit (.int kd (kd.wrap i)))) ∨
  ∃ E t zb f ns, d = .sl t zb (List.length ns) 1 f ∧ (∀ i (h : i < ns.length), f i = .lit (.int .u8 ns[i])) ∧ telem P S = some E ∧ tint P E = some .u8 ∧ strT P T = true ∧ k R n (.lit (.string (strOf ns)))
@[go_sem] theorem eff_conv (S T : TypeId) (x : Operand) : effT P (.convert S T x) dst ev R n k = wConv P S T (ev x) R n k := (rfl)
@[go_sem] theorem wConv_lit (S T : TypeId) (v : Value) : wConv P S T (.lit v) R n k = ((P.underlying S).isSome = true ∧ wSome (tint P T) fun kd => wInt (.lit v) fun _ i => k R n (.lit (.int kd (kd.wrap i)))) := by
  simp only [← wInt_eq, ← wSome_eq, wConv]
  apply propext
  constructor
  · rintro (⟨k, k', n, h1, h2, h3, h4⟩ | ⟨E, t, zb, f, ns, h1, _⟩)
    · exact ⟨h2, k, h3, k', n, h1, h4⟩
    · cases h1
  · rintro ⟨h2, k, h3, k', n, h1, h4⟩; exact .inl ⟨k, k', n, h1, h2, h3, h4⟩
@[go_sem] theorem eff_extract (x : Operand) (i : Nat) : effT P (.extract x i) dst ev R n k = wTup (ev x) fun m f => i < m ∧ k R n (f i) := by rw [← wTup_eq]; rfl
@[go_sem] theorem eff_nilCheck (x : Operand) : effT P (.nilCheck x) dst ev R n k = ((ev x).isRef ∧ k R n (ev x)) := rfl
@[go_sem] theorem eff_fieldAddr (T : TypeId) (x : Operand) (f : Nat) : effT P (.fieldAddr T x f) dst ev R n k =
    (wSome (tfield P T f) fun ot => wSome (tsz P ot.2) fun m => m ≠ 0 ∧
      wRef (ev x) (fun l g q p => k R n (.ptr l g (q + ot.1) (p ++ [f]))) (fun d => f < d.kd.cnt ∧ d.kd.off f = ot.1 ∧ k R n (.cptr (d.chd f)))) := by
  simp only [effT, ← wSome_eq, eff]
  apply propext
  constructor
  · rintro ⟨o', t, n, h1, h2, h3, h4⟩
    refine ⟨(o', t), h1, n, h2, h3, ?_⟩
    generalize ev x = d at h4 ⊢
    cases d <;> exact h4
  · rintro ⟨⟨o', t⟩, h1, n, h2, h3, h4⟩
    refine ⟨o', t, n, h1, h2, h3, ?_⟩
    generalize ev x = d at h4 ⊢
    cases d <;> exact h4
@[go_sem] theorem eff_indexAddr (T : TypeId) (x y : Operand) : effT P (.indexAddr T x y) dst ev R n k =
    (wInt (ev y) fun _ i => wIdx (ev x)
      (fun l g q p j m sz => wSome (telem P T) fun E => tsz P E = some sz ∧ 0 ≤ i ∧ i < m ∧ k R n (.ptr l g (q + i.toNat * sz) (p ++ [j + i.toNat])))
      (fun m sz f => wSome (telem P T) fun E => tsz P E = some sz ∧ 0 ≤ i ∧ i < m ∧ k R n (.cptr (f i.toNat)))
      (fun l g q p => wSome (tarr P T) fun mE => wSome (tsz P mE.2) fun sz => 0 ≤ i ∧ i < mE.1 ∧ k R n (.ptr l g (q + i.toNat * sz) (p ++ [i.toNat])))
      (fun d => wSome (tarr P T) fun mE => wSome (tsz P mE.2) fun sz => d.kd = .arr mE.1 sz ∧ 0 ≤ i ∧ i < mE.1 ∧ k R n (.cptr (d.chd i.toNat)))) := by
  have key : ∀ (kd : IntKind) (i : Int), (match ev x with
      | .msl l g q p j m sz => ∃ E, telem P T = some E ∧ tsz P E = some sz ∧ 0 ≤ i ∧ i < m ∧ k R n (.ptr l g (q + i.toNat * sz) (p ++ [j + i.toNat]))
      | .sl t zb m sz f => ∃ E, telem P T = some E ∧ tsz P E = some sz ∧ 0 ≤ i ∧ i < m ∧ k R n (.cptr (f i.toNat))
      | .ptr l g q p => ∃ m E sz, tarr P T = some (m, E) ∧ tsz P E = some sz ∧ 0 ≤ i ∧ i < m ∧ k R n (.ptr l g (q + i.toNat * sz) (p ++ [i.toNat]))
      | .cptr d => ∃ m E sz, tarr P T = some (m, E) ∧ tsz P E = some sz ∧ d.kd = .arr m sz ∧ 0 ≤ i ∧ i < m ∧ k R n (.cptr (d.chd i.toNat))
      | _ => False) = wIdx (ev x)
      (fun l g q p j m sz => wSome (telem P T) fun E => tsz P E = some sz ∧ 0 ≤ i ∧ i < m ∧ k R n (.ptr l g (q + i.toNat * sz) (p ++ [j + i.toNat])))
      (fun m sz f => wSome (telem P T) fun E => tsz P E = some sz ∧ 0 ≤ i ∧ i < m ∧ k R n (.cptr (f i.toNat)))
      (fun l g q p => wSome (tarr P T) fun mE => wSome (tsz P mE.2) fun sz => 0 ≤ i ∧ i < mE.1 ∧ k R n (.ptr l g (q + i.toNat * sz) (p ++ [i.toNat])))
      (fun d => wSome (tarr P T) fun mE => wSome (tsz P mE.2) fun sz => d.kd = .arr mE.1 sz ∧ 0 ≤ i ∧ i < mE.1 ∧ k R n (.cptr (d.chd i.toNat))) := by
    intro kd i
    generalize ev x = d
    cases d with
    | msl l g q p j m sz => simp only [wIdx, ← wSome_eq]
    | sl t zb m sz f => simp only [wIdx, ← wSome_eq]
    | ptr l g q p =>
      simp only [wIdx, ← wSome_eq]
      apply propext
      constructor
      · rintro ⟨m, E, sz, h1, h2, h3⟩; exact ⟨(m, E), h1, sz, h2, h3⟩
      · rintro ⟨⟨m, E⟩, h1, sz, h2, h3⟩; exact ⟨m, E, sz, h1, h2, h3⟩
    | cptr d =>
      simp only [wIdx, ← wSome_eq]
      apply propext
      constructor
      · rintro ⟨m, E, sz, h1, h2, h3⟩; exact ⟨(m, E), h1, sz, h2, h3⟩
      · rintro ⟨⟨m, E⟩, h1, sz, h2, h3⟩; exact ⟨m, E, sz, h1, h2, h3⟩
    | _ => rfl
  rw [← wInt_eq]
  simp only [← key .i64]
  rfl
@[go_sem] theorem eff_load (T : TypeId) (x : Operand) : effT P (.load T x) dst ev R n k =
    wRef (ev x) (fun l g q p => TyOk P T ((rdR R l g).get p) ∧ (rdR R l g).inb p ∧ (rdR R l g).offOf p = q ∧ k R n ((rdR R l g).get p)) (fun d => TyOk P T d ∧ k R n d) := by
  simp only [effT, eff]
  generalize ev x = d
  cases d <;> rfl
@[go_sem] theorem eff_store (T : TypeId) (x y : Operand) : effT P (.store T x y) dst ev R n k =
    wRef (ev x) (fun l g q p => ((rdR R l g).get p).plain ∧ (rdR R l g).inb p ∧ (rdR R l g).offOf p = q ∧
          wSome (tsz P T) fun m => ((rdR R l g).get p).size = m ∧ (ev y).size = m ∧ (ev y).plain ∧ k (wrR R l ((rdR R l g).set p (ev y))) n .any) (fun _ => False) := by
  simp only [effT, eff]
  generalize ev x = d
  cases d with
  | ptr l g q p =>
    simp only [wRef, ← wSome_eq]
    apply propext
    constructor
    · rintro ⟨h1, h2, h3, ⟨m, h4, h5, h6⟩, h7⟩; exact ⟨h1, h2, h3, m, h4, h5, h6, h7⟩
    · rintro ⟨h1, h2, h3, m, h4, h5, h6, h7⟩; exact ⟨h1, h2, h3, ⟨m, h4, h5, h6⟩, h7⟩
  | _ => rfl
@[go_sem] theorem eff_alloc (T : TypeId) (l : Nat) : effT P (.alloc T) (some l) ev R n k =
    (ZeroOk P T (zd P T) ∧ ∀ g b, n ≤ b → k (upd R l (some (g, b, zd P T))) (b + 1) (.ptr l g 0 [])) := by simp [effT, eff]
@[go_sem] theorem eff_box (T : TypeId) (x : Operand) (l : Nat) : effT P (.box T x) (some l) ev R n k =
    ((ev x).plain ∧ ∀ g b, n ≤ b → k (upd R l (some (g, b, ev x))) (b + 1) (.ptr l g 0 [])) := by simp [effT, eff]
theorem eff_makeFunc (f : FuncId) (cap : List Operand) : effT P (.makeFunc (.func f) #[] cap.toArray) dst ev R n k =
    ((∀ i, i < cap.length → (ev (cap.getD i (.const .nilFunc))).isRef) ∧ k R n (.fn f cap.length fun i => ev (cap.getD i (.const .nilFunc)))) := by
  simp [effT, eff, Array.getD_eq_getD_getElem?, List.getD_eq_getElem?_getD]
@[go_sem] theorem eff_builtin (b : Builtin) (xs : List Operand) (ts : Array TypeId) : effT P (.call { callee := .builtin b, args := xs.toArray, argTypes := ts }) dst ev R n k = effBT P b (xs.map ev) ts dst R n k := rfl
@[go_sem] theorem effB_len (d : D) (T : TypeId) : effBT P .len [d] #[T] dst R n k = wSome (lenT P T d) fun m => k R n (.lit (.int .i64 m)) := by
  simp only [← wSome_eq, effBT, effB]
  apply propext
  constructor
  · rintro ⟨T', m, h1, h2⟩
    obtain rfl : T = T' := by simpa using h1
    exact ⟨m, h2⟩
  · rintro ⟨m, h2⟩; exact ⟨T, m, rfl, h2⟩
@[go_sem] theorem effB_append (d d' : D) (T T' l : Nat) : effBT P .append [d, d'] #[T, T'] (some l) R n k = wSome (telem P T) fun E => wSome (tbytes P E) fun by_ => ZeroOk P E (zd P E) ∧ tsz P E = some (zd P E).size ∧
    wSome (headD R (zd P E).size d) fun hd => srcT P T T' d' ∧ wSome (srcD R d') fun src => (∀ y, src.2.1 = some y → y = (zd P E).size) ∧ (hd.2.1 + src.1) * by_ ≤ 140737488355328 ∧ hd.2.1 + src.1 ≤ 9223372036854775807 ∧
      (hd.1 = none → src.1 = 0 → k R n .nil) ∧ ((hd.1 = none → 0 < src.1) → ∀ g b n', n ≤ n' → b < n' → (n ≤ b ∨ blkR R hd.1 = some b) →
        k (upd R (hd.1.getD l) (some (g, b, .node (.arr (hd.2.1 + src.1) (zd P E).size) (catD hd.2.1 hd.2.2 src.2.2)))) n' (.msl (hd.1.getD l) g 0 [] 0 (hd.2.1 + src.1) (zd P E).size)) := by
  simp only [← wSome_eq, effBT, effB]
  apply propext
  constructor
  · rintro ⟨T1, T2, l', E, by_, lo, n0, f, m, sz, f', h0, h1, h2, h3, h4, h5, h6, h7, h8, h9⟩
    obtain ⟨rfl, rfl⟩ : T = T1 ∧ T' = T2 := by simpa using h0
    obtain rfl := Option.some.inj h1
    exact ⟨E, h2, by_, h3, h4, h5, (lo, n0, f), h6, h7, (m, sz, f'), h8, h9⟩
  · rintro ⟨E, h2, by_, h3, h4, h5, ⟨lo, n0, f⟩, h6, h7, ⟨m, sz, f'⟩, h8, h9⟩
    exact ⟨T, T', l, E, by_, lo, n0, f, m, sz, f', rfl, rfl, h2, h3, h4, h5, h6, h7, h8, h9⟩
theorem wInt2_eq (d d' : D) (q : IntKind → Int → Int → Prop) : (∃ kd i j, d = .lit (.int kd i) ∧ d' = .lit (.int kd j) ∧ q kd i j) = wInt d fun kd i => wInt d' fun kd' j => kd' = kd ∧ q kd i j := by
  simp only [← wInt_eq]
  apply propext
  constructor
  · rintro ⟨kd, i, j, h1, h2, h3⟩; exact ⟨kd, i, h1, kd, j, h2, rfl, h3⟩
  · rintro ⟨kd, i, h1, kd', j, h2, rfl, h3⟩; exact ⟨_, i, j, h1, h2, h3⟩
@[go_sem] theorem effB_max (d d' : D) (T T' : TypeId) : effBT P .max [d, d'] #[T, T'] dst R n k = wInt d fun kd i => wInt d' fun kd' j => kd' = kd ∧ k R n (.lit (.int kd (max i j))) := by
  rw [← wInt2_eq]
  simp only [effBT, effB]
  apply propext
  constructor
  · rintro ⟨T1, T2, kd, i, j, _, h⟩; exact ⟨kd, i, j, h⟩
  · rintro ⟨kd, i, j, h⟩; exact ⟨T, T', kd, i, j, rfl, h⟩
@[go_sem] theorem effB_min (d d' : D) (T T' : TypeId) : effBT P .min [d, d'] #[T, T'] dst R n k = wInt d fun kd i => wInt d' fun kd' j => kd' = kd ∧ k R n (.lit (.int kd (min i j))) := by
  rw [← wInt2_eq]
  simp only [effBT, effB]
  apply propext
  constructor
  · rintro ⟨T1, T2, kd, i, j, _, h⟩; exact ⟨kd, i, j, h⟩
  · rintro ⟨kd, i, j, h⟩; exact ⟨T, T', kd, i, j, rfl, h⟩
@[go_sem] theorem lenT_nil (T : TypeId) : lenT P T .nil = if (telem P T).isSome = true then some 0 else none := rfl
@[go_sem] theorem lenT_sl (T : TypeId) (t m z : Nat) (zb : Bool) (f : Nat → D) : lenT P T (.sl t zb m z f) = if (telem P T).isSome = true then some m else none := rfl
@[go_sem] theorem lenT_msl (T : TypeId) (l g o : Nat) (p : List Nat) (i m z : Nat) : lenT P T (.msl l g o p i m z) = if (telem P T).isSome = true then some m else none := rfl
@[go_sem] theorem lenT_str (T : TypeId) (x : ByteArray) : lenT P T (.lit (.string x)) = if strT P T = true then some x.size else none := rfl
@[go_sem] theorem headD_nil (z : Nat) : headD R z .nil = some (none, 0, fun _ => .any) := rfl
@[go_sem] theorem headD_same (l g b m z : Nat) (f : Nat → D) : headD (upd R l (some (g, b, .node (.arr m z) f))) z (.msl l g 0 [] 0 m z) = some (some l, m, f) := by simp [headD]
@[go_sem] theorem headD_other (l l' g m z z' : Nat) (x : Option (Nat × Nat × D)) (h : l ≠ l') : headD (upd R l' x) z (.msl l g 0 [] 0 m z') = headD R z (.msl l g 0 [] 0 m z') := by simp [headD, upd_ne _ _ h]
@[go_sem] theorem srcD_nil : srcD R .nil = some (0, none, fun _ => .any) := rfl
@[go_sem] theorem srcD_sl (t m z : Nat) (zb : Bool) (f : Nat → D) : srcD R (.sl t zb m z f) = some (m, some z, f) := rfl
@[go_sem] theorem srcD_str (x : ByteArray) : srcD R (.lit (.string x)) = some (x.size, some 1, fun i => .lit (.int .u8 (byteAt x i))) := rfl
@[go_sem] theorem srcD_same (l g b m z : Nat) (f : Nat → D) : srcD (upd R l (some (g, b, .node (.arr m z) f))) (.msl l g 0 [] 0 m z) = some (m, some z, f) := by simp [srcD]
@[go_sem] theorem srcD_other (l l' g m z : Nat) (x : Option (Nat × Nat × D)) (h : l ≠ l') : srcD (upd R l' x) (.msl l g 0 [] 0 m z) = srcD R (.msl l g 0 [] 0 m z) := by simp [srcD, upd_ne _ _ h]
@[go_sem] theorem srcT_nil (T T' : TypeId) : srcT P T T' .nil = (T' = T) := rfl
@[go_sem] theorem srcT_sl (T T' : TypeId) (t m z : Nat) (zb : Bool) (f : Nat → D) : srcT P T T' (.sl t zb m z f) = (T' = T) := rfl
@[go_sem] theorem srcT_msl (T T' : TypeId) (l g o : Nat) (p : List Nat) (i m z : Nat) : srcT P T T' (.msl l g o p i m z) = (T' = T) := rfl
@[go_sem] theorem srcT_lit (T T' : TypeId) (v : Value) : srcT P T T' (.lit v) = (strT P T' = true) := rfl
@[go_sem] theorem intD_int (kd : IntKind) (i : Int) : intD (.lit (.int kd i)) = some i := rfl
@[go_sem] theorem lowI_none : lowI none = some 0 := rfl
@[go_sem] theorem lowI_some (d : D) : lowI (some d) = intD d := rfl
@[go_sem] theorem highI_none (m : Nat) : highI m none = some (m : Int) := rfl
@[go_sem] theorem highI_some (m : Nat) (d : D) : highI m (some d) = intD d := rfl
@[go_sem] theorem eff_slice (T : TypeId) (x : Operand) (lo hi mx : Option Operand) : effT P (.slice T x lo hi mx) dst ev R n k = effST P T (ev x) (lo.map ev) (hi.map ev) (mx.map ev) R n k := rfl
@[go_sem] theorem effS_nil (T : TypeId) (lo hi : Option D) : effST P T .nil lo hi none R n k = wSome (telem P T) fun E => (tsz P E).isSome = true ∧ lowI lo = some 0 ∧ highI 0 hi = some 0 ∧ k R n .nil := by
  simp only [← wSome_eq, effST, effS, Option.isSome_iff_exists]
  apply propext
  constructor
  · rintro ⟨E, sz, h1, h2, h3⟩; exact ⟨E, h1, ⟨sz, h2⟩, h3⟩
  · rintro ⟨E, h1, ⟨sz, h2⟩, h3⟩; exact ⟨E, sz, h1, h2, h3⟩
@[go_sem] theorem effS_sl (T : TypeId) (lo hi : Option D) (t m sz : Nat) (zb : Bool) (f : Nat → D) : effST P T (.sl t zb m sz f) lo hi none R n k = wSome (telem P T) fun E => tsz P E = some sz ∧ wSome (lowI lo) fun i => wSome (highI m hi) fun j =>
    0 ≤ i ∧ i ≤ j ∧ j ≤ m ∧ k R n (.sl t (zb && i == 0) (j - i).toNat sz fun q => f (i.toNat + q)) := by
  simp only [← wSome_eq, effST, effS]
  apply propext
  constructor
  · rintro ⟨E, i, j, h1, h2, h3, h4, h5⟩; exact ⟨E, h1, h2, i, h3, j, h4, h5⟩
  · rintro ⟨E, h1, h2, i, h3, j, h4, h5⟩; exact ⟨E, i, j, h1, h2, h3, h4, h5⟩
@[go_sem] theorem effS_msl (T : TypeId) (lo hi : Option D) (l g q : Nat) (p : List Nat) (i0 m sz : Nat) : effST P T (.msl l g q p i0 m sz) lo hi none R n k = wSome (telem P T) fun E => tsz P E = some sz ∧ wSome (lowI lo) fun i => wSome (highI m hi) fun j =>
    0 ≤ i ∧ i ≤ j ∧ j ≤ m ∧ (i = 0 → k R n (.msl l g q p i0 j.toNat sz)) ∧ (0 < i → k R n (.msl l g (q + i.toNat * sz) p (i0 + i.toNat) (j - i).toNat sz) ∧ (i = m → k R n .nil)) := by
  simp only [← wSome_eq, effST, effS]
  apply propext
  constructor
  · rintro ⟨E, i, j, h1, h2, h3, h4, h5⟩; exact ⟨E, h1, h2, i, h3, j, h4, h5⟩
  · rintro ⟨E, h1, h2, i, h3, j, h4, h5⟩; exact ⟨E, i, j, h1, h2, h3, h4, h5⟩
@[go_sem] theorem effS_str (T : TypeId) (lo hi : Option D) (s : ByteArray) : effST P T (.lit (.string s)) lo hi none R n k = (strT P T = true ∧ wSome (lowI lo) fun i => wSome (highI s.size hi) fun j =>
    0 ≤ i ∧ i ≤ j ∧ j ≤ s.size ∧ k R n (.lit (.string (s.extract i.toNat j.toNat)))) := by
  simp only [← wSome_eq, effST, effS]
  apply propext
  constructor
  · rintro ⟨s', i, j, h0, h2, h3, h4, h5⟩
    simp only [Value.string.injEq] at h0
    subst h0
    exact ⟨h2, i, h3, j, h4, h5⟩
  · rintro ⟨h2, i, h3, j, h4, h5⟩; exact ⟨s, i, j, rfl, h2, h3, h4, h5⟩
@[go_sem] theorem effS_arr (T : TypeId) (l g q : Nat) (p : List Nat) : effST P T (.ptr l g q p) none none none R n k = wSome (tarr P T) fun NE => wSome (tsz P NE.2) fun sz => ((rdR R l g).get p).kd = .arr NE.1 sz ∧ (rdR R l g).inb p ∧ (rdR R l g).offOf p = q ∧ k R n (.msl l g q p 0 NE.1 sz) := by
  simp only [← wSome_eq, effST, effS]
  apply propext
  constructor
  · rintro ⟨_, _, N, E, sz, h1, h2, h3⟩; exact ⟨(N, E), h1, sz, h2, h3⟩
  · rintro ⟨⟨N, E⟩, h1, sz, h2, h3⟩; exact ⟨trivial, trivial, N, E, sz, h1, h2, h3⟩
@[go_sem] theorem effS_max (T : TypeId) (d dh dm : D) (lo : Option D) : effST P T d lo (some dh) (some dm) R n k = wSome (telem P T) fun E => (tsz P E).isSome = true ∧ wSome d.len fun n' => wSome (lowI lo) fun i => intD dh = some i ∧ intD dm = some i ∧ 0 ≤ i ∧ i ≤ n' ∧ k R n .nil := by
  simp only [← wSome_eq, effST, effS, Option.isSome_iff_exists]
  apply propext
  constructor
  · rintro ⟨E, n', sz, i, dh', h0, h1, h2, h3, h4, h5⟩
    obtain rfl := Option.some.inj h0
    exact ⟨E, h2, ⟨sz, h3⟩, n', h1, i, h4, h5⟩
  · rintro ⟨E, h2, ⟨sz, h3⟩, n', h1, i, h4, h5⟩; exact ⟨E, n', sz, i, dh, rfl, h1, h2, h3, h4, h5⟩
def wIx (P : Program) (T : TypeId) (d : D) (ks : ByteArray → Prop) (ka : Nat → Nat → (Nat → D) → Prop) (_ : Tok ks := .mk) (_ : Tok ka := .mk) : Prop := match d with
  | .lit (.string s) => strT P T = true ∧ ks s
  | .node (.arr m sz) f => ka m sz f
  | _ => False
@[go_sem] theorem wIx_str (T : TypeId) (s : ByteArray) (ks : ByteArray → Prop) (ka : Nat → Nat → (Nat → D) → Prop) : wIx P T (.lit (.string s)) ks ka = (strT P T = true ∧ ks s) := (rfl)
@[go_sem] theorem wIx_arr (T : TypeId) (m sz : Nat) (f : Nat → D) (ks : ByteArray → Prop) (ka : Nat → Nat → (Nat → D) → Prop) : wIx P T (.node (.arr m sz) f) ks ka = ka m sz f := (rfl)
@[go_sem] theorem eff_index (T : TypeId) (x y : Operand) : effT P (.index T x y) dst ev R n k = wSome (intD (ev y)) fun i => wIx P T (ev x) (fun s => 0 ≤ i ∧ i < s.size ∧ k R n (.lit (.int .u8 (byteAt s i.toNat))))
    (fun m sz f => wSome (tarr P T) fun mE => mE.1 = m ∧ TyOk P mE.2 (f i.toNat) ∧ tsz P mE.2 = some sz ∧ 0 ≤ i ∧ i < m ∧ k R n (f i.toNat)) := by
  have h : effT P (.index T x y) dst ev R n k = ((∃ s i, ev x = .lit (.string s) ∧ strT P T = true ∧ intD (ev y) = some i ∧ 0 ≤ i ∧ i < s.size ∧ k R n (.lit (.int .u8 (byteAt s i.toNat)))) ∨
      ∃ m sz f i E, ev x = .node (.arr m sz) f ∧ intD (ev y) = some i ∧ tarr P T = some (m, E) ∧ TyOk P E (f i.toNat) ∧ tsz P E = some sz ∧ 0 ≤ i ∧ i < m ∧ k R n (f i.toNat)) := rfl
  rw [h, ← wSome_eq]
  apply propext
  constructor
  · rintro (⟨s, i, h1, h2, h3, h4, h5, h6⟩ | ⟨m, sz, f, i, E, h1, h2, h3, h4, h5, h6, h7, h8⟩)
    · exact ⟨i, h3, by rw [h1]; exact ⟨h2, h4, h5, h6⟩⟩
    · refine ⟨i, h2, ?_⟩
      rw [h1]
      simp only [wIx, ← wSome_eq]
      exact ⟨(m, E), h3, rfl, h4, h5, h6, h7, h8⟩
  · rintro ⟨i, h1, h2⟩
    generalize ev x = d at h2 ⊢
    cases d with
    | lit v => cases v with
      | string s => exact .inl ⟨s, i, rfl, h2.1, h1, h2.2⟩
      | _ => exact h2.elim
    | node kd f =>
      cases kd with
      | arr m sz =>
        simp only [wIx, ← wSome_eq] at h2
        obtain ⟨⟨m', E⟩, q1, q2, q3⟩ := h2
        obtain rfl : m' = m := q2
        exact .inr ⟨_, sz, f, i, E, rfl, h1, q1, q3⟩
      | agg lay => exact h2.elim
    | _ => exact h2.elim
attribute [go_sem] Option.map_none Option.map_some
def OCall (P : Program) (f m : Nat) (cs : Nat → D) (xs : List Operand) (dst : Option Tmp) (ev : Operand → D) (R : Roots) (n : Nat) (k : Roots → Nat → D → Prop) : Prop :=
  ∃ ls : List Nat, ls.Nodup ∧ (∀ l ∈ ls, (R l).isSome = true) ∧ (∀ l ∈ ls, (rl 9 (labIn R ls) (cntR R l)).plain) ∧
    ICall P f ((xs.map fun x => rl 9 (labIn R ls) (ev x)) ++ (List.range m).map fun i => rl 9 (labIn R ls) (cs i)) (ls.map fun l => rl 9 (labIn R ls) (cntR R l))
      fun n0 n1 outs r => n ≤ n0 → ((List.range outs.length).map (outLab dst ls)).Nodup ∧ ∀ G bs, bsOk R ls n n1 outs.length bs → (∀ d ∈ outs, (rl 9 (labOut outs.length (outLab dst ls) G) d).plain) ∧
        k (addL (remL R ls) (labOut outs.length (outLab dst ls) G) G (outLab dst ls) bs 0 outs) n1 (rl 9 (labOut outs.length (outLab dst ls) G) r)
def XCall (P : Program) (f m : Nat) (cs : Nat → D) (xs : List Operand) (dst : Option Tmp) (ev : Operand → D) (R : Roots) (n : Nat) (k : Roots → Nat → D → Prop) : Prop :=
  OCall P f m cs xs dst ev R n k ∨ PCall P f ((xs.map fun x => rl 9 (labView R) (ev x)) ++ (List.range m).map fun i => rl 9 (labView R) (cs i)) (fun n0 n1 r => n ≤ n0 → r.tags (n0 ≤ ·) ∧ k R n1 r) ∨ CEff P f m (xs.map ev) R n k
def XCallT (P : Program) (f m : Nat) (cs : Nat → D) (xs : List Operand) (dst : Option Tmp) (ev : Operand → D) (R : Roots) (n : Nat) (k : Roots → Nat → D → Prop) (Mk : Prop) (_ : Tok k := .mk) : Prop := XCall P f m cs xs dst ev R n k ∨ Mk
@[go_sem] theorem eff_call (fx : Operand) (xs : List Operand) (ts : Array TypeId) : effT P (.call { callee := .value fx, args := xs.toArray, argTypes := ts }) dst ev R n k =
    wFn (ev fx) fun fid m cs => XCallT P fid m cs xs dst ev R n k False := by
  have : effT P (.call { callee := .value fx, args := xs.toArray, argTypes := ts }) dst ev R n k = (match ev fx with
      | .fn fid m cs => XCall P fid m cs xs dst ev R n k
      | _ => False) := rfl
  rw [this]
  generalize ev fx = d
  cases d <;> simp [wFn, XCallT]
end effs
@[go_sem] theorem vcOp_eq (op : Op) : vcOpT P ⟨dst, op, ty, pos, after, gd⟩ st K = (st.dstOk dst ∧ effT P op dst st.ev st.R st.n fun R' n' r => K ((St.mk st.N n' st.s R').put dst r)) := (rfl)
variable (W : Nat → Prop)
@[go_sem] theorem vcM_move (x : Operand) : vcMT P W ⟨dst, .move x, ty, pos, after, gd⟩ st K = vcOpT P ⟨dst, .move x, ty, pos, after, gd⟩ st K := by simp [vcMT, vcOpT, vcM, mOp]
@[go_sem] theorem vcM_assign (x : Operand) : vcMT P W ⟨dst, .assign x, ty, pos, after, gd⟩ st K = vcOpT P ⟨dst, .assign x, ty, pos, after, gd⟩ st K := by simp [vcMT, vcOpT, vcM, mOp]
@[go_sem] theorem vcM_pick (c x y : Operand) : vcMT P W ⟨dst, .pick c x y, ty, pos, after, gd⟩ st K = vcOpT P ⟨dst, .pick c x y, ty, pos, after, gd⟩ st K := by simp [vcMT, vcOpT, vcM, mOp]
@[go_sem] theorem vcM_un (o : UnOp) (T : TypeId) (x : Operand) : vcMT P W ⟨dst, .unOp o T x, ty, pos, after, gd⟩ st K = vcOpT P ⟨dst, .unOp o T x, ty, pos, after, gd⟩ st K := by simp [vcMT, vcOpT, vcM, mOp]
@[go_sem] theorem vcM_bin (o : BinOp) (T T2 : TypeId) (x y : Operand) : vcMT P W ⟨dst, .binOp o T x y T2, ty, pos, after, gd⟩ st K = vcOpT P ⟨dst, .binOp o T x y T2, ty, pos, after, gd⟩ st K := by simp [vcMT, vcOpT, vcM, mOp]
@[go_sem] theorem vcM_conv (S T : TypeId) (x : Operand) : vcMT P W ⟨dst, .convert S T x, ty, pos, after, gd⟩ st K = vcOpT P ⟨dst, .convert S T x, ty, pos, after, gd⟩ st K := by simp [vcMT, vcOpT, vcM, mOp]
@[go_sem] theorem vcM_extract (x : Operand) (i : Nat) : vcMT P W ⟨dst, .extract x i, ty, pos, after, gd⟩ st K = vcOpT P ⟨dst, .extract x i, ty, pos, after, gd⟩ st K := by simp [vcMT, vcOpT, vcM, mOp]
@[go_sem] theorem vcM_nilCheck (x : Operand) : vcMT P W ⟨dst, .nilCheck x, ty, pos, after, gd⟩ st K = vcOpT P ⟨dst, .nilCheck x, ty, pos, after, gd⟩ st K := by simp [vcMT, vcOpT, vcM, mOp]
@[go_sem] theorem vcM_fieldAddr (T : TypeId) (x : Operand) (f : Nat) : vcMT P W ⟨dst, .fieldAddr T x f, ty, pos, after, gd⟩ st K = vcOpT P ⟨dst, .fieldAddr T x f, ty, pos, after, gd⟩ st K := by simp [vcMT, vcOpT, vcM, mOp]
@[go_sem] theorem vcM_indexAddr (T : TypeId) (x y : Operand) : vcMT P W ⟨dst, .indexAddr T x y, ty, pos, after, gd⟩ st K = vcOpT P ⟨dst, .indexAddr T x y, ty, pos, after, gd⟩ st K := by simp [vcMT, vcOpT, vcM, mOp]
@[go_sem] theorem vcM_load (T : TypeId) (x : Operand) : vcMT P W ⟨dst, .load T x, ty, pos, after, gd⟩ st K = vcOpT P ⟨dst, .load T x, ty, pos, after, gd⟩ st K := by simp [vcMT, vcOpT, vcM, mOp]
@[go_sem] theorem vcM_store (T : TypeId) (x y : Operand) : vcMT P W ⟨dst, .store T x y, ty, pos, after, gd⟩ st K = vcOpT P ⟨dst, .store T x y, ty, pos, after, gd⟩ st K := by simp [vcMT, vcOpT, vcM, mOp]
@[go_sem] theorem vcM_alloc (T : TypeId) : vcMT P W ⟨dst, .alloc T, ty, pos, after, gd⟩ st K = vcOpT P ⟨dst, .alloc T, ty, pos, after, gd⟩ st K := by simp [vcMT, vcOpT, vcM, mOp]
@[go_sem] theorem vcM_box (T : TypeId) (x : Operand) : vcMT P W ⟨dst, .box T x, ty, pos, after, gd⟩ st K = vcOpT P ⟨dst, .box T x, ty, pos, after, gd⟩ st K := by simp [vcMT, vcOpT, vcM, mOp]
@[go_sem] theorem vcM_build (T : TypeId) (ps : Array (Nat × Operand)) : vcMT P W ⟨dst, .build T ps, ty, pos, after, gd⟩ st K = vcOpT P ⟨dst, .build T ps, ty, pos, after, gd⟩ st K := by simp [vcMT, vcOpT, vcM, mOp]
@[go_sem] theorem vcM_buildSlice (T : TypeId) (n : Nat) (ps : Array (Nat × Operand)) : vcMT P W ⟨dst, .buildSlice T n ps, ty, pos, after, gd⟩ st K = vcOpT P ⟨dst, .buildSlice T n ps, ty, pos, after, gd⟩ st K := by simp [vcMT, vcOpT, vcM, mOp]
@[go_sem] theorem vcM_makeSlice (T : TypeId) (x y : Operand) : vcMT P W ⟨dst, .makeSlice T x y, ty, pos, after, gd⟩ st K = vcOpT P ⟨dst, .makeSlice T x y, ty, pos, after, gd⟩ st K := by simp [vcMT, vcOpT, vcM, mOp]
@[go_sem] theorem vcM_makeFunc (f : Fn) (a b : Array Operand) : vcMT P W ⟨dst, .makeFunc f a b, ty, pos, after, gd⟩ st K = vcOpT P ⟨dst, .makeFunc f a b, ty, pos, after, gd⟩ st K := by simp [vcMT, vcOpT, vcM, mOp]
@[go_sem] theorem vcM_slice (T : TypeId) (x : Operand) (lo hi mx : Option Operand) : vcMT P W ⟨dst, .slice T x lo hi mx, ty, pos, after, gd⟩ st K = vcOpT P ⟨dst, .slice T x lo hi mx, ty, pos, after, gd⟩ st K := by simp [vcMT, vcOpT, vcM, mOp]
@[go_sem] theorem vcM_index (T : TypeId) (x y : Operand) : vcMT P W ⟨dst, .index T x y, ty, pos, after, gd⟩ st K = vcOpT P ⟨dst, .index T x y, ty, pos, after, gd⟩ st K := by simp [vcMT, vcOpT, vcM, mOp]
@[go_sem] theorem vcM_builtin (b : Builtin) (xs : Array Operand) (ts : Array TypeId) : vcMT P W ⟨dst, .call { callee := .builtin b, args := xs, argTypes := ts }, ty, pos, after, gd⟩ st K = vcOpT P ⟨dst, .call { callee := .builtin b, args := xs, argTypes := ts }, ty, pos, after, gd⟩ st K := by simp [vcMT, vcOpT, vcM, mOp]
def MEffT (P : Program) (W : Nat → Prop) (f m : Nat) (cs : Nat → D) (xs : List Operand) (dst : Option Tmp) (st : St) (K : St → Prop) (_ : Tok K := .mk) (_ : Tok xs := .mk) : Prop :=
  (MEff P W f m xs dst st K ∨ AEff P W f m xs dst st K ∨ BEff P W f m xs dst st K) ∨ XCall P f m cs xs dst st.ev st.R st.n fun R' n' r => Conv W K ((St.mk st.N n' st.s R').put dst r)
@[go_sem] theorem vcM_call (fx : Operand) (xs : List Operand) (ts : Array TypeId) : vcMT P W ⟨dst, .call { callee := .value fx, args := xs.toArray, argTypes := ts }, ty, pos, after, gd⟩ st K =
    (st.dstOk dst ∧ wFn (st.ev fx) fun fid m cs => XCallT P fid m cs xs dst st.ev st.R st.n (fun R' n' r => K ((St.mk st.N n' st.s R').put dst r)) (MEffT P W fid m cs xs dst st K)) := by
  have h1 : vcMT P W ⟨dst, .call { callee := .value fx, args := xs.toArray, argTypes := ts }, ty, pos, after, gd⟩ st K = (vcOpT P ⟨dst, .call { callee := .value fx, args := xs.toArray, argTypes := ts }, ty, pos, after, gd⟩ st K ∨ (st.dstOk dst ∧ match st.ev fx with
      | .fn fid m _ => MEff P W fid m xs dst st K ∨ AEff P W fid m xs dst st K ∨ BEff P W fid m xs dst st K
      | _ => False) ∨ vcOpT P ⟨dst, .call { callee := .value fx, args := xs.toArray, argTypes := ts }, ty, pos, after, gd⟩ st (Conv W K)) := rfl
  rw [h1, vcOp_eq, vcOp_eq, eff_call, eff_call, ← and_or_left, ← and_or_left]
  congr 1
  generalize st.ev fx = d
  cases d <;> simp [wFn, XCallT, MEffT]
variable (gs : List (Option Tmp))
@[go_sem] theorem gsT_nil : gsT [] = [] := (rfl)
@[go_sem] theorem gsT_cons (op : Op) : gsT (⟨dst, op, ty, pos, after, gd⟩ :: rest) = dst :: gsT rest := (rfl)
@[go_sem] theorem vcL_nil : vcLT P W gs K [] st = K st := (rfl)
@[go_sem] theorem vcL_free (op : Op) : vcLT P W gs K (⟨dst, op, ty, pos, after, none⟩ :: rest) st = vcMT P W ⟨dst, op, ty, pos, after, none⟩ st fun st => vcLT P W gs K rest st := (rfl)
def wGd (b want : Bool) (X Y : Prop) (_ : Tok X := .mk) (_ : Tok Y := .mk) : Prop := (b = want → X) ∧ (b = !want → Y)
@[go_sem] theorem wGd_tt (X Y : Prop) : wGd true true X Y = X := by simp [wGd]
@[go_sem] theorem wGd_ft (X Y : Prop) : wGd false true X Y = Y := by simp [wGd]
@[go_sem] theorem wGd_tf (X Y : Prop) : wGd true false X Y = Y := by simp [wGd]
@[go_sem] theorem wGd_ff (X Y : Prop) : wGd false false X Y = X := by simp [wGd]
@[go_sem low] theorem wGd_t (b : Bool) (X Y : Prop) : wGd b true X Y = ((b = true → X) ∧ (b = false → Y)) := rfl
@[go_sem low] theorem wGd_f (b : Bool) (X Y : Prop) : wGd b false X Y = ((b = false → X) ∧ (b = true → Y)) := rfl
theorem vcL_guard (op : Op) (j : Nat) (want : Bool) : vcLT P W gs K (⟨dst, op, ty, pos, after, some (j, want)⟩ :: rest) st =
    wSome ((gs[j]?).bind id) fun t => t < st.N ∧ wTest (st.s t) (fun b => wGd b want (vcMT P W ⟨dst, op, ty, pos, after, some (j, want)⟩ (st.know (.tmp t) want) fun st => vcLT P W gs K rest st)
          (st.dstOk dst ∧ vcLT P W gs K rest ((st.know (.tmp t) (!want)).put dst und))) (st.dstOk dst ∧ vcLT P W gs K rest (st.put dst und)) := by
  simp only [vcLT, vcLg, vcMT, wGd]
  cases (gs[j]?).bind id with
  | none => rfl
  | some t =>
    simp only [wSome, wTest_eq]
attribute [go_sem] vcL_guard List.getElem?_toArray List.getElem?_cons_zero List.getElem?_cons_succ Option.bind_some id_eq
attribute [go_sem] rl_lit rl_nil rl_any rl_tup
@[go_sem] theorem bin_lss (T : TypeId) (k : IntKind) (a b : Int) : bin P T .lss (.int k a) (.int k b) = some (.bool (decide (a < b))) := by simp [bin]
@[go_sem] theorem bin_leq (T : TypeId) (k : IntKind) (a b : Int) : bin P T .leq (.int k a) (.int k b) = some (.bool (decide (a ≤ b))) := by simp [bin]
@[go_sem] theorem bin_gtr (T : TypeId) (k : IntKind) (a b : Int) : bin P T .gtr (.int k a) (.int k b) = some (.bool (decide (b < a))) := by simp [bin]
@[go_sem] theorem bin_geq (T : TypeId) (k : IntKind) (a b : Int) : bin P T .geq (.int k a) (.int k b) = some (.bool (decide (b ≤ a))) := by simp [bin]
@[go_sem] theorem bin_eql (T : TypeId) (k : IntKind) (a b : Int) : bin P T .eql (.int k a) (.int k b) = some (.bool (a == b)) := by simp [bin]
@[go_sem] theorem bin_neq (T : TypeId) (k : IntKind) (a b : Int) : bin P T .neq (.int k a) (.int k b) = some (.bool (a != b)) := by simp [bin]
@[go_sem] theorem bin_add (T : TypeId) (k : IntKind) (a b : Int) : bin P T .add (.int k a) (.int k b) = some (.int k (k.wrap (a + b))) := by simp [bin]
@[go_sem] theorem bin_sub (T : TypeId) (k : IntKind) (a b : Int) : bin P T .sub (.int k a) (.int k b) = some (.int k (k.wrap (a - b))) := by simp [bin]
@[go_sem] theorem bin_mul (T : TypeId) (k : IntKind) (a b : Int) : bin P T .mul (.int k a) (.int k b) = some (.int k (k.wrap (a * b))) := by simp [bin]
end
end Go.Proofs.YtncinhlaabdlaaaGreat.IM
end
section
namespace Go.Proofs.YtncinhlaabdlaaaGreat.IM
open Go Go.RowKit
set_option linter.unusedVariables false
def ivc (P : Program) (w0 : World) (M : Fr) : Code → (Exit → St → Prop) → St → Prop
  | .skip, Q, st => Q .normal st
  | .region _ ops false, Q, st => vcL P (wr w0 M) ops (Q .normal) ops.toList st
  | .seq a b, Q, st => ivc P w0 M a (qthen (ivc P w0 M b Q) Q) st
  | .cond c x y, Q, st => ∃ t, st.ev c = .lit (.bool t) ∧ (t = true → ivc P w0 M x Q (st.know c true)) ∧ (t = false → ivc P w0 M y Q (st.know c false))
  | .block id c, Q, st => ivc P w0 M c (qblock id Q) st
  | .exit id, Q, st => Q (.exit id) st
  | .ret, Q, st => Q .ret st
  | c, Q, st => IWp P w0 M c Q st
theorem ivc_sound {P : Program} {w0 : World} {M : Fr} : ∀ {c : Code} {Q : Exit → St → Prop} {st : St}, ivc P w0 M c Q st → IWp P w0 M c Q st := by
  intro c
  induction c with
  | skip => intro Q st h; exact iwp_skip h
  | region id ops draw =>
    intro Q st h
    cases draw with
    | true => exact h
    | false => exact fun a w hs => wp_region_list (vcL_sound (W := wr w0 M) (fun _ h => h) ops (fun _ h => h) ops.toList st a w hs h)
  | seq a b iha ihb =>
    intro Q st h
    refine iwp_seq (iwp_mono (iha h) fun x st hq => ?_)
    cases x with
    | normal => exact ihb hq
    | _ => exact hq
  | cond c x y ihx ihy =>
    intro Q st h
    obtain ⟨t, h1, h2, h3⟩ := h
    exact iwp_cond h1 (fun ht => ihx (h2 ht)) (fun ht => ihy (h3 ht))
  | block id c ih => intro Q st h; exact iwp_block (ih h)
  | loop c ih => intro Q st h; exact h
  | exit id => intro Q st h; exact iwp_exit h
  | ret => intro Q st h; exact iwp_ret h
  | _ => intro Q st h; exact h
section
variable (P : Program) (w0 : World) (M : Fr) (K : St → Prop) (Q : Exit → St → Prop) (st : St)
def ivcT (P : Program) (w0 : World) (M : Fr) (c : Code) (Q : Exit → St → Prop) (st : St) (_ : Tok c := .mk) (_ : Tok Q := .mk) : Prop := ivc P w0 M c Q st
def IWpT (P : Program) (w0 : World) (M : Fr) (c : Code) (Q : Exit → St → Prop) (st : St) (_ : Tok c := .mk) (_ : Tok Q := .mk) : Prop := IWp P w0 M c Q st
def qthenT (K : St → Prop) (Q : Exit → St → Prop) (x : Exit) (st : St) (_ : Tok K := .mk) (_ : Tok Q := .mk) : Prop := qthen K Q x st
def qblockT (id : Nat) (Q : Exit → St → Prop) (x : Exit) (st : St) (_ : Tok Q := .mk) : Prop := qblock id Q x st
@[go_sem] theorem ivc_T (c : Code) : ivc P w0 M c Q st = ivcT P w0 M c Q st := (rfl)
@[go_sem] theorem qthen_T (x : Exit) : qthen K Q x st = qthenT K Q x st := (rfl)
@[go_sem] theorem qblock_T (id : Nat) (x : Exit) : qblock id Q x st = qblockT id Q x st := (rfl)
@[go_sem] theorem ivc_skip : ivcT P w0 M .skip Q st = Q .normal st := (rfl)
@[go_sem] theorem ivc_region (id : Nat) (ops : List Oper) : ivcT P w0 M (.region id ops.toArray false) Q st = wSome (some (gsT ops)) fun gs => vcLT P (wr w0 M) gs (fun st => Q .normal st) ops st := by
  have h : ivcT P w0 M (.region id ops.toArray false) Q st = vcL P (wr w0 M) ops.toArray (Q .normal) ops st := rfl
  rw [h, vcL_gs]
  rfl
@[go_sem] theorem ivc_draw (id : Nat) (ops : List Oper) : ivcT P w0 M (.region id ops.toArray true) Q st = IWpT P w0 M (.region id ops.toArray true) Q st := (rfl)
@[go_sem] theorem ivc_seq (a b : Code) : ivcT P w0 M (.seq a b) Q st = ivcT P w0 M a (fun x st => qthenT (fun st => ivcT P w0 M b Q st) Q x st) st := (rfl)
@[go_sem] theorem ivc_cond (c : Operand) (x y : Code) : ivcT P w0 M (.cond c x y) Q st = wBool (st.ev c) fun t => wGd t true (ivcT P w0 M x Q (st.know c true)) (ivcT P w0 M y Q (st.know c false)) := by rw [← wBool_eq]; rfl
@[go_sem] theorem ivc_block (id : Nat) (c : Code) : ivcT P w0 M (.block id c) Q st = ivcT P w0 M c (fun x st => qblockT id Q x st) st := (rfl)
@[go_sem] theorem ivc_exit (id : Nat) : ivcT P w0 M (.exit id) Q st = Q (.exit id) st := (rfl)
@[go_sem] theorem ivc_ret : ivcT P w0 M .ret Q st = Q .ret st := (rfl)
@[go_sem] theorem ivc_loop (c : Code) : ivcT P w0 M (.loop c) Q st = IWpT P w0 M (.loop c) Q st := (rfl)
@[go_sem] theorem qthen_normal : qthenT K Q .normal st = K st := (rfl)
@[go_sem] theorem qthen_exit (id : Nat) : qthenT K Q (.exit id) st = Q (.exit id) st := (rfl)
@[go_sem] theorem qthen_ret : qthenT K Q .ret st = Q .ret st := (rfl)
@[go_sem] theorem qblock_normal (id : Nat) : qblockT id Q .normal st = Q .normal st := (rfl)
@[go_sem] theorem qblock_same (id : Nat) : qblockT id Q (.exit id) st = Q .normal st := by simp [qblockT, qblock]
@[go_sem] theorem qblock_other (id j : Nat) (h : j ≠ id) : qblockT id Q (.exit j) st = Q (.exit j) st := by simp [qblockT, qblock, h]
@[go_sem] theorem qblock_ret (id : Nat) : qblockT id Q .ret st = Q .ret st := (rfl)
variable (rs : List ResultVar) (n0 : Nat) (E : Nat → Nat → D → Prop)
@[go_sem] theorem pend_ret : pend P rs n0 E .ret st = ((∀ r ∈ rs, retOk P st r) ∧ ∀ n1, st.n ≤ n1 → Facts st n1 → E n0 n1 (rl 9 (labView st.R) (retV st rs))) := (rfl)
@[go_sem] theorem pend_normal : pend P rs n0 E .normal st = ((∀ r ∈ rs, retOk P st r) ∧ ∀ n1, st.n ≤ n1 → Facts st n1 → E n0 n1 (rl 9 (labView st.R) (retV st rs))) := (rfl)
@[go_sem] theorem retV_one (r : ResultVar) : retV st [r] = retD st r := rfl
@[go_sem] theorem retD_tmp (N n : Nat) (s : Nat → D) (R : Roots) (t : Nat) : retD (St.mk N n s R) (.tmp t) = s t := rfl
@[go_sem] theorem retOk_tmp (t : Nat) : retOk P st (.tmp t) = True := rfl
attribute [go_sem] List.mem_cons List.not_mem_nil or_false forall_eq implies_true
@[go_sem] theorem tags_lit (v : Value) (p : Nat → Prop) : (D.lit v).tags p = True := rfl
@[go_sem] theorem tags_nil (p : Nat → Prop) : D.nil.tags p = True := rfl
@[go_sem] theorem St_start_eq (N n : Nat) (args : List D) (R : Roots) : St.start N n args R = St.mk N n (nthD args) R := by
  unfold St.start; congr; funext t
  induction args generalizing t with
  | nil => simp [nthD]
  | cons d l ih => cases t with
    | zero => rfl
    | succ t => simpa [nthD] using ih t
end
end Go.Proofs.YtncinhlaabdlaaaGreat.IM
end
section
namespace Go.Proofs.YtncinhlaabdlaaaGreat.IM
open Go Go.RowKit
set_option linter.unusedVariables false
theorem buildD_mono {pl : Nat → Option (Nat × Nat)} {ev : Operand → D} {k k' : D → Prop} (hk : ∀ d, k d → k' d) : ∀ (parts : List (Nat × Operand)) (d : D), buildD pl ev d parts k → buildD pl ev d parts k'
  | [], d, h => hk d h
  | (i, x) :: rest, d, h => ⟨h.1, h.2.1, h.2.2.1, h.2.2.2.1, h.2.2.2.2.1, buildD_mono hk rest _ h.2.2.2.2.2⟩
theorem buildD_congr {pl : Nat → Option (Nat × Nat)} {ev ev' : Operand → D} {k : D → Prop} : ∀ (parts : List (Nat × Operand)) (d : D), (∀ x ∈ parts.map (·.2), ev x = ev' x) → buildD pl ev d parts k → buildD pl ev' d parts k
  | [], d, _, h => h
  | (i, x) :: rest, d, he, h => by
    have hx := he x (by simp)
    simp only [buildD] at h ⊢
    rw [← hx]
    exact ⟨h.1, h.2.1, h.2.2.1, h.2.2.2.1, h.2.2.2.2.1, buildD_congr rest _ (fun y hy => he y (by simp at hy ⊢; exact .inr hy)) h.2.2.2.2.2⟩
theorem buildD_get {pl : Nat → Option (Nat × Nat)} {ev : Operand → D} {k : D → Prop} : ∀ (parts : List (Nat × Operand)) (d : D), buildD pl ev d parts k → ∃ d', k d' ∧ ∀ k' : D → Prop, k' d' → buildD pl ev d parts k'
  | [], d, h => ⟨d, h, fun _ h => h⟩
  | (i, x) :: rest, d, h => by
    obtain ⟨d', h1, h2⟩ := buildD_get rest _ h.2.2.2.2.2
    exact ⟨d', h1, fun k' hk => ⟨h.1, h.2.1, h.2.2.1, h.2.2.2.1, h.2.2.2.2.1, h2 k' hk⟩⟩
theorem effB_mono {P : Program} {b : Builtin} {ds : List D} {ts : Array TypeId} {dst : Option Tmp} {R : Roots} {n : Nat} {k k' : Roots → Nat → D → Prop} (hk : ∀ R n r, k R n r → k' R n r) (h : effB P b ds ts dst R n k) : effB P b ds ts dst R n k' := by
  unfold effB at *
  split at h
  · obtain ⟨T, m, h1, h2, h3⟩ := h; exact ⟨T, m, h1, h2, hk _ _ _ h3⟩
  · obtain ⟨T, T', l, E, by_, lo, n0, f, m, sz, f', h0, h01, h1, h2, h3, h4, h5, h6, h7, h8, h9, h10, h11, h12⟩ := h
    exact ⟨T, T', l, E, by_, lo, n0, f, m, sz, f', h0, h01, h1, h2, h3, h4, h5, h6, h7, h8, h9, h10, fun a b => hk _ _ _ (h11 a b), fun a g b n' q1 q2 q3 => hk _ _ _ (h12 a g b n' q1 q2 q3)⟩
  · obtain ⟨T, T', kd, i, j, h1, h2, h3, h4⟩ := h; exact ⟨T, T', kd, i, j, h1, h2, h3, hk _ _ _ h4⟩
  · obtain ⟨T, T', kd, i, j, h1, h2, h3, h4⟩ := h; exact ⟨T, T', kd, i, j, h1, h2, h3, hk _ _ _ h4⟩
  · exact h
theorem effS_mono {P : Program} {T : TypeId} {d : D} {lo hi mx : Option D} {R : Roots} {n : Nat} {k k' : Roots → Nat → D → Prop} (hk : ∀ R n r, k R n r → k' R n r) (h : effS P T d lo hi mx R n k) : effS P T d lo hi mx R n k' := by
  unfold effS at *
  split at h
  · obtain ⟨E, n', sz, i, dh, h0, h1, h2, h3, h4, h5, h6, h7, h8, h9⟩ := h
    exact ⟨E, n', sz, i, dh, h0, h1, h2, h3, h4, h5, h6, h7, h8, hk _ _ _ h9⟩
  · split at h
    · obtain ⟨E, sz, h1, h2, h3, h4, h5⟩ := h; exact ⟨E, sz, h1, h2, h3, h4, hk _ _ _ h5⟩
    · obtain ⟨E, i, j, h1, h2, h3, h4, h5, h6, h7, h8⟩ := h; exact ⟨E, i, j, h1, h2, h3, h4, h5, h6, h7, hk _ _ _ h8⟩
    · obtain ⟨E, i, j, h1, h2, h3, h4, h5, h6, h7, h8, h9⟩ := h; exact ⟨E, i, j, h1, h2, h3, h4, h5, h6, h7, fun q => hk _ _ _ (h8 q), fun q => ⟨hk _ _ _ (h9 q).1, fun q' => hk _ _ _ ((h9 q).2 q')⟩⟩
    · obtain ⟨s, i, j, h1, h2, h3, h4, h5, h6, h7, h8⟩ := h; exact ⟨s, i, j, h1, h2, h3, h4, h5, h6, h7, hk _ _ _ h8⟩
    · obtain ⟨h1, h2, N, E, sz, h3, h4, h5, h6, h7, h8⟩ := h; exact ⟨h1, h2, N, E, sz, h3, h4, h5, h6, h7, hk _ _ _ h8⟩
    · exact h
def earlyB : Builtin → Prop
  | .len | .max | .min => True
  | _ => False
theorem effB_early {P : Program} {b : Builtin} {ds : List D} {ts : Array TypeId} {dst : Option Tmp} {R : Roots} {n : Nat} {k : Roots → Nat → D → Prop} (he : earlyB b) (h : effB P b ds ts dst R n k) :
    ∃ v, k R n v ∧ ∀ (R' : Roots) (n' : Nat) (k' : Roots → Nat → D → Prop), k' R' n' v → effB P b ds ts dst R' n' k' := by
  unfold effB at h
  split at h
  · obtain ⟨T, m, h1, h2, h3⟩ := h; exact ⟨_, h3, fun R' n' k' h' => ⟨T, m, h1, h2, h'⟩⟩
  · exact he.elim
  · obtain ⟨T, T', kd, i, j, h1, h2, h3, h4⟩ := h; exact ⟨_, h4, fun R' n' k' h' => ⟨T, T', kd, i, j, h1, h2, h3, h'⟩⟩
  · obtain ⟨T, T', kd, i, j, h1, h2, h3, h4⟩ := h; exact ⟨_, h4, fun R' n' k' h' => ⟨T, T', kd, i, j, h1, h2, h3, h'⟩⟩
  · exact h.elim
theorem rdR_congr {R R' : Roots} {l : Nat} (g : Nat) (h : R' l = R l) : rdR R' l g = rdR R l g := by unfold rdR; rw [h]
def earlyS (Ls : List Nat) (d : D) (lo mx : Option D) : Prop :=
  match d with
  | .msl _ _ _ _ _ _ _ => lo = none ∨ mx ≠ none
  | .ptr l _ _ _ => l ∈ Ls
  | _ => True
theorem effS_early {P : Program} {T : TypeId} {d : D} {lo hi mx : Option D} {R : Roots} {n : Nat} {k : Roots → Nat → D → Prop} {Ls : List Nat} (he : earlyS Ls d lo mx) (h : effS P T d lo hi mx R n k) :
    ∃ v, k R n v ∧ ∀ (R' : Roots) (n' : Nat) (k' : Roots → Nat → D → Prop), (∀ l ∈ Ls, R' l = R l) → k' R' n' v → effS P T d lo hi mx R' n' k' := by
  cases mx with
  | some dm =>
    obtain ⟨E, n', sz, i, dh, h0, h1, h2, h3, h4, h5, h6, h7, h8, h9⟩ := h
    exact ⟨_, h9, fun R' n2 k' _ h' => ⟨E, n', sz, i, dh, h0, h1, h2, h3, h4, h5, h6, h7, h8, h'⟩⟩
  | none =>
    simp only [effS] at h ⊢
    split at h
    · obtain ⟨E, sz, h1, h2, h3, h4, h5⟩ := h; exact ⟨_, h5, fun R' n' k' _ h' => ⟨E, sz, h1, h2, h3, h4, h'⟩⟩
    · obtain ⟨E, i, j, h1, h2, h3, h4, h5, h6, h7, h8⟩ := h; exact ⟨_, h8, fun R' n' k' _ h' => ⟨E, i, j, h1, h2, h3, h4, h5, h6, h7, h'⟩⟩
    · obtain ⟨E, i, j, h1, h2, h3, h4, h5, h6, h7, h8, h9⟩ := h
      have hlo : lo = none := by
        rcases he with h' | h'
        · exact h'
        · exact absurd rfl h'
      subst hlo
      obtain rfl : 0 = i := by simpa [lowI] using h3
      exact ⟨_, h8 rfl, fun R' n' k' _ h' => ⟨E, 0, j, h1, h2, h3, h4, h5, h6, h7, fun _ => h', fun q => absurd q (by omega)⟩⟩
    · obtain ⟨s, i, j, h1, h2, h3, h4, h5, h6, h7, h8⟩ := h; exact ⟨_, h8, fun R' n' k' _ h' => ⟨s, i, j, h1, h2, h3, h4, h5, h6, h7, h'⟩⟩
    · obtain ⟨h1, h2, N, E, sz, h3, h4, h5, h6, h7, h8⟩ := h
      refine ⟨_, h8, fun R' n' k' hR h' => ?_⟩
      rw [rdR_congr _ (hR _ he)]
      exact ⟨h1, h2, N, E, sz, h3, h4, h5, h6, h7, h'⟩
    · exact h.elim
theorem eff_mono {P : Program} {op : Op} {dst : Option Tmp} {ev : Operand → D} {R : Roots} {n : Nat} {k k' : Roots → Nat → D → Prop} (hk : ∀ R n r, k R n r → k' R n r) (h : eff P op dst ev R n k) : eff P op dst ev R n k' := by
  unfold eff at *
  split at h
  · exact hk _ _ _ h
  · exact hk _ _ _ h
  · obtain ⟨t, h1, h2⟩ := h; exact ⟨t, h1, hk _ _ _ h2⟩
  · obtain ⟨t, h1, h2⟩ := h; exact ⟨t, h1, hk _ _ _ h2⟩
  · obtain ⟨t, i, h1, h2⟩ := h; exact ⟨t, i, h1, hk _ _ _ h2⟩
  · obtain ⟨E, r, h1, h2, h3⟩ := h; exact ⟨E, r, h1, h2, fun b hb => hk _ _ _ (h3 b hb)⟩
  · obtain ⟨u, v, r, h1, h2, h3, h4⟩ := h; exact ⟨u, v, r, h1, h2, h3, hk _ _ _ h4⟩
  · rcases h with ⟨u, v, r, h1, h2, h3, h4⟩ | ⟨E, t, zb, f, ns, h1, h2, h3, h4, h5, h6⟩
    · exact .inl ⟨u, v, r, h1, h2, h3, hk _ _ _ h4⟩
    · exact .inr ⟨E, t, zb, f, ns, h1, h2, h3, h4, h5, hk _ _ _ h6⟩
  · obtain ⟨m, f, h1, h2, h3⟩ := h; exact ⟨m, f, h1, h2, hk _ _ _ h3⟩
  · exact ⟨h.1, hk _ _ _ h.2⟩
  · obtain ⟨o', t, m, h1, h2, h3, h4⟩ := h
    refine ⟨o', t, m, h1, h2, h3, ?_⟩
    split at h4
    · exact hk _ _ _ h4
    · exact ⟨h4.1, h4.2.1, hk _ _ _ h4.2.2⟩
    · exact h4
  · obtain ⟨kd, i, h1, h2⟩ := h
    refine ⟨kd, i, h1, ?_⟩
    split at h2
    · obtain ⟨E, a, b, c, d, g⟩ := h2; exact ⟨E, a, b, c, d, hk _ _ _ g⟩
    · obtain ⟨E, a, b, c, d, g⟩ := h2; exact ⟨E, a, b, c, d, hk _ _ _ g⟩
    · obtain ⟨m, E, s, a, b, c, d, g⟩ := h2; exact ⟨m, E, s, a, b, c, d, hk _ _ _ g⟩
    · obtain ⟨m, E, s, a, b, c, d, d', g⟩ := h2; exact ⟨m, E, s, a, b, c, d, d', hk _ _ _ g⟩
    · exact h2
  · split at h
    · exact ⟨h.1, h.2.1, h.2.2.1, hk _ _ _ h.2.2.2⟩
    · exact ⟨h.1, hk _ _ _ h.2⟩
    · exact h
  · split at h
    · obtain ⟨a, b, c, d, g, i⟩ := h; exact ⟨a, b, c, d, g, hk _ _ _ i⟩
    · exact h
  · obtain ⟨l, h1, h2, h3⟩ := h; exact ⟨l, h1, h2, fun g b hb => hk _ _ _ (h3 g b hb)⟩
  · obtain ⟨l, h1, h2, h3⟩ := h; exact ⟨l, h1, h2, fun g b hb => hk _ _ _ (h3 g b hb)⟩
  · obtain ⟨pl, h1, h2, h3⟩ := h; exact ⟨pl, h1, h2, buildD_mono (fun d hd => ⟨hd.1, hk _ _ _ hd.2⟩) _ _ h3⟩
  · obtain ⟨l, E, h0, h1, h2, h3, h4, h5⟩ := h; exact ⟨l, E, h0, h1, h2, h3, h4, buildD_mono (fun d hd => ⟨hd.1, fun g b hb => hk _ _ _ (hd.2 g b hb)⟩) _ _ h5⟩
  · obtain ⟨l, E, by_, kx, ky, i, c, h0, h1, h2, h3, h4, h5, h6, h7, h8, h9, h10, h11⟩ := h; exact ⟨l, E, by_, kx, ky, i, c, h0, h1, h2, h3, h4, h5, h6, h7, h8, h9, h10, fun g b hb => hk _ _ _ (h11 g b hb)⟩
  · exact effS_mono hk h
  · rcases h with ⟨s, i, h1, h2, h3, h4, h5, h6⟩ | ⟨m, sz, f, i, E, h1, h2, h3, h4, h5, h6, h7, h8⟩
    · exact .inl ⟨s, i, h1, h2, h3, h4, h5, hk _ _ _ h6⟩
    · exact .inr ⟨m, sz, f, i, E, h1, h2, h3, h4, h5, h6, h7, hk _ _ _ h8⟩
  · exact ⟨h.1, h.2.1, hk _ _ _ h.2.2⟩
  · split at h
    · exact effB_mono hk h
    · split at h
      · rcases h with ⟨ls, h1, h2, h3, h4⟩ | h | ⟨d, rest0, rest, Q, l, g, b, o, q, T, T2, h1, h2, h3, h4, h5, h6, hT, hT2, h7⟩
        · exact .inl ⟨ls, h1, h2, h3, h4.mono fun n0 n1 outs r _ hq hn => ⟨(hq hn).1, fun G bs hb => ⟨((hq hn).2 G bs hb).1, hk _ _ _ ((hq hn).2 G bs hb).2⟩⟩⟩
        · exact .inr (.inl (h.mono fun n0 n1 r _ hq hn => ⟨(hq hn).1, hk _ _ _ (hq hn).2⟩))
        · exact .inr (.inr ⟨d, rest0, rest, Q, l, g, b, o, q, T, T2, h1, h2, h3, h4, h5, h6, hT, hT2, fun n0 n1 d' r a b c => hk _ _ _ (h7 n0 n1 d' r a b c)⟩)
      · exact h
    · exact h
  · exact h
theorem eff_congr {P : Program} {op : Op} {dst : Option Tmp} {ev ev' : Operand → D} {R : Roots} {n : Nat} {k : Roots → Nat → D → Prop} (he : ∀ x ∈ op.operands, ev x = ev' x) (h0 : ev (.const .nilFunc) = ev' (.const .nilFunc)) (h : eff P op dst ev R n k) : eff P op dst ev' R n k := by
  have hm : ∀ (xs : Array Operand) (i : Nat), (∀ x ∈ xs, ev x = ev' x) → i < xs.size → ev (xs.getD i (.const .nilFunc)) = ev' (xs.getD i (.const .nilFunc)) := by
    intro xs i h hi
    have : xs.getD i (.const .nilFunc) = xs[i] := by simp [hi]
    rw [this]; exact h _ (Array.getElem_mem hi)
  unfold eff at *
  split at h <;> simp only [Op.operands] at he
  case h_17 T parts => obtain ⟨pl, h1, h2, h3⟩ := h; exact ⟨pl, h1, h2, buildD_congr _ _ (fun x hx => he x (by simpa using hx)) h3⟩
  case h_18 T len parts => obtain ⟨l, E, q0, h1, h2, h3, h4, h5⟩ := h; exact ⟨l, E, q0, h1, h2, h3, h4, buildD_congr _ _ (fun x hx => he x (by simpa using hx)) h5⟩
  case h_20 T x lo hi mx =>
    have e1 : ∀ y, y = lo ∨ y = hi ∨ y = mx → y.map ev = y.map ev' := by
      intro y hy
      cases y with
      | none => rfl
      | some z =>
        have : z ∈ (#[x] ++ lo.toArray ++ hi.toArray ++ mx.toArray : Array Operand) := by rcases hy with rfl | rfl | rfl <;> simp
        simp [he z this]
    rw [e1 lo (.inl rfl), e1 hi (.inr (.inl rfl)), e1 mx (.inr (.inr rfl)), he x (by simp)] at h
    exact h
  case h_22 f first cap =>
    obtain ⟨h1, h2, h3⟩ := h
    have hc : ∀ i, i < cap.size → ev (cap.getD i (.const .nilFunc)) = ev' (cap.getD i (.const .nilFunc)) := fun i hi => hm cap i (fun x hx => he x (by simp [hx])) hi
    refine ⟨h1, fun i hi => by rw [← hc i hi]; exact h2 i hi, ?_⟩
    have hall : (fun i => ev (cap.getD i (.const .nilFunc))) = fun i => ev' (cap.getD i (.const .nilFunc)) := by
      funext i
      rcases Nat.lt_or_ge i cap.size with hi | hi
      · exact hc i hi
      · have : cap.getD i (.const .nilFunc) = .const .nilFunc := by simp [hi]
        rw [this]; exact h0
    rw [← hall]; exact h3
  case h_23 c =>
    obtain ⟨ce, ca, ct⟩ := c
    split at h
    · rename_i b hfx
      obtain rfl : ce = .builtin b := hfx
      have : (ca.toList.map ev) = ca.toList.map ev' := List.map_congr_left fun x hx => by rw [he x (by simp [Call.operands, Array.mem_toList_iff.1 hx])]
      simp only [this] at h
      exact h
    · rename_i fx hfx
      obtain rfl : ce = .value fx := hfx
      rw [he fx (by simp [Call.operands])] at h
      split at h
      · rename_i hx
        have : ∀ F, (ca.toList.map fun x => rl 9 F (ev x)) = ca.toList.map fun x => rl 9 F (ev' x) := fun F => List.map_congr_left fun x hx => by rw [he x (by simp [Call.operands, Array.mem_toList_iff.1 hx])]
        have this2 : ca.toList.map ev = ca.toList.map ev' := List.map_congr_left fun x hx => by rw [he x (by simp [Call.operands, Array.mem_toList_iff.1 hx])]
        simp only [this, this2] at h
        exact h
      · exact h.elim
    · exact h.elim
  all_goals first
    | exact h
    | (simp at he; simp only [he] at h ⊢; exact h)
    | skip
def earlyOp (Ls : List Nat) (op : Op) (ev : Operand → D) : Prop :=
  match op with
  | .binOp .eql _ _ (.const (.slice none 0 0)) _ => False
  | .move _ | .assign _ | .pick .. | .unOp .. | .binOp .. | .convert .. | .extract .. | .nilCheck _ | .fieldAddr .. | .indexAddr .. | .makeFunc .. | .build .. => True
  | .load _ x =>
    match ev x with
    | .ptr l _ _ _ => l ∈ Ls
    | _ => True
  | .slice _ x lo _ mx => earlyS Ls (ev x) (lo.map ev) (mx.map ev)
  | .index .. => True
  | .call c =>
    match c.callee with
    | .builtin b => earlyB b
    | _ => False
  | _ => False
theorem eff_early {P : Program} {op : Op} {dst : Option Tmp} {ev : Operand → D} {R : Roots} {n : Nat} {k : Roots → Nat → D → Prop} {Ls : List Nat} (he : earlyOp Ls op ev) (h : eff P op dst ev R n k) :
    ∃ v, k R n v ∧ ∀ (R' : Roots) (n' : Nat) (k' : Roots → Nat → D → Prop), (∀ l ∈ Ls, R' l = R l) → k' R' n' v → eff P op dst ev R' n' k' := by
  unfold eff at h
  split at h
  · exact ⟨_, h, fun R' n' k' hR h' => h'⟩
  · exact ⟨_, h, fun R' n' k' hR h' => h'⟩
  · obtain ⟨t, h1, h2⟩ := h; exact ⟨_, h2, fun R' n' k' hR h' => ⟨t, h1, h'⟩⟩
  · obtain ⟨t, h1, h2⟩ := h; exact ⟨_, h2, fun R' n' k' hR h' => ⟨t, h1, h'⟩⟩
  · obtain ⟨t, i, h1, h2⟩ := h; exact ⟨_, h2, fun R' n' k' hR h' => ⟨t, i, h1, h'⟩⟩
  · exact absurd he (by simp [earlyOp])
  · rename_i hne
    obtain ⟨u, v, r, h1, h2, h3, h4⟩ := h
    refine ⟨_, h4, fun R' n' k' hR h' => ?_⟩
    rw [eff]
    · exact ⟨u, v, r, h1, h2, h3, h'⟩
    · exact hne
  · rcases h with ⟨u, v, r, h1, h2, h3, h4⟩ | ⟨E, t, zb, f, ns, h1, h2, h3, h4, h5, h6⟩
    · exact ⟨_, h4, fun R' n' k' hR h' => .inl ⟨u, v, r, h1, h2, h3, h'⟩⟩
    · exact ⟨_, h6, fun R' n' k' hR h' => .inr ⟨E, t, zb, f, ns, h1, h2, h3, h4, h5, h'⟩⟩
  · obtain ⟨m, f, h1, h2, h3⟩ := h; exact ⟨_, h3, fun R' n' k' hR h' => ⟨m, f, h1, h2, h'⟩⟩
  · exact ⟨_, h.2, fun R' n' k' hR h' => ⟨h.1, h'⟩⟩
  · obtain ⟨o', t, m, h1, h2, h3, h4⟩ := h
    split at h4
    · rename_i hx; exact ⟨_, h4, fun R' n' k' hR h' => ⟨o', t, m, h1, h2, h3, by rw [hx]; exact h'⟩⟩
    · rename_i hx; exact ⟨_, h4.2.2, fun R' n' k' hR h' => ⟨o', t, m, h1, h2, h3, by rw [hx]; exact ⟨h4.1, h4.2.1, h'⟩⟩⟩
    · exact h4.elim
  · obtain ⟨kd, i, h1, h2⟩ := h
    split at h2
    · rename_i hx; obtain ⟨E, a, b, c, d, g⟩ := h2; exact ⟨_, g, fun R' n' k' hR h' => ⟨kd, i, h1, by rw [hx]; exact ⟨E, a, b, c, d, h'⟩⟩⟩
    · rename_i hx; obtain ⟨E, a, b, c, d, g⟩ := h2; exact ⟨_, g, fun R' n' k' hR h' => ⟨kd, i, h1, by rw [hx]; exact ⟨E, a, b, c, d, h'⟩⟩⟩
    · rename_i hx; obtain ⟨m, E, s, a, b, c, d, g⟩ := h2; exact ⟨_, g, fun R' n' k' hR h' => ⟨kd, i, h1, by rw [hx]; exact ⟨m, E, s, a, b, c, d, h'⟩⟩⟩
    · rename_i hx; obtain ⟨m, E, s, a, b, c, d, d', g⟩ := h2; exact ⟨_, g, fun R' n' k' hR h' => ⟨kd, i, h1, by rw [hx]; exact ⟨m, E, s, a, b, c, d, d', h'⟩⟩⟩
    · exact h2.elim
  · simp only [earlyOp] at he
    split at h
    · rename_i hx
      rw [hx] at he
      refine ⟨_, h.2.2.2, fun R' n' k' hR h' => ?_⟩
      unfold eff
      simp only [hx, rdR_congr _ (hR _ he)]
      exact ⟨h.1, h.2.1, h.2.2.1, h'⟩
    · rename_i hx
      refine ⟨_, h.2, fun R' n' k' hR h' => ?_⟩
      unfold eff
      simp only [hx]
      exact ⟨h.1, h'⟩
    · exact h.elim
  · exact he.elim
  · exact he.elim
  · exact he.elim
  · obtain ⟨pl, h1, h2, h3⟩ := h
    obtain ⟨d', q1, q2⟩ := buildD_get _ _ h3
    exact ⟨_, q1.2, fun R' n' k' hR h' => ⟨pl, h1, h2, q2 _ ⟨q1.1, h'⟩⟩⟩
  · exact he.elim
  · exact he.elim
  · obtain ⟨v, q1, q2⟩ := effS_early he h
    exact ⟨v, q1, fun R' n' k' hR h' => q2 R' n' k' hR h'⟩
  · rcases h with ⟨s, i, h1, h2, h3, h4, h5, h6⟩ | ⟨m, sz, f, i, E, h1, h2, h3, h4, h5, h6, h7, h8⟩
    · exact ⟨_, h6, fun R' n' k' hR h' => .inl ⟨s, i, h1, h2, h3, h4, h5, h'⟩⟩
    · exact ⟨_, h8, fun R' n' k' hR h' => .inr ⟨m, sz, f, i, E, h1, h2, h3, h4, h5, h6, h7, h'⟩⟩
  · exact ⟨_, h.2.2, fun R' n' k' hR h' => ⟨h.1, h.2.1, h'⟩⟩
  · rename_i c
    obtain ⟨ce, ca, ct⟩ := c
    split at h
    · rename_i b hfx
      obtain rfl : ce = .builtin b := hfx
      obtain ⟨v, q1, q2⟩ := effB_early he h
      exact ⟨v, q1, fun R' n' k' hR h' => q2 R' n' k' h'⟩
    · rename_i fx hfx
      obtain rfl : ce = .value fx := hfx
      exact he.elim
    · exact h.elim
  · exact h.elim
def Tst (d : D) (want : Bool) (A B : Prop) : Prop := (∃ b, d = .lit (.bool b) ∧ (b = want → A) ∧ (b = !want → B)) ∨ ∃ f, d = .tup 0 f ∧ B
theorem Tst.mono {d : D} {want : Bool} {A B A' B' : Prop} (h : Tst d want A B) (ha : A → A') (hb : B → B') : Tst d want A' B' := by
  rcases h with ⟨b, h1, h2, h3⟩ | ⟨f, h1, h2⟩
  · exact .inl ⟨b, h1, fun h => ha (h2 h), fun h => hb (h3 h)⟩
  · exact .inr ⟨f, h1, hb h2⟩
def vcG (P : Program) (ops : Array Oper) (o : Oper) (st : St) (K : St → Prop) : Prop :=
  match o.guard with
  | none => vcOp P o st K
  | some (j, want) =>
    match (ops[j]?).bind (·.dst) with
    | some t => t < st.N ∧ Tst (st.s t) want (vcOp P o st K) (st.dstOk o.dst ∧ K (st.put o.dst und))
    | none => False
section
variable {P : Program} {w0 : World} {M : Fr} {ops : Array Oper}
theorem vcG_wp {Q : Exit → Act → World → Prop} {i : Nat} {o : Oper} (hi : ops[i]? = some o) {st : St} {a : Act} {w : World} {K : St → Prop} (hs : SR w0 M st a w) (hv : vcG P ops o st K) : wpOp P ops Q i (Lift w0 M K) a w := by
  unfold wpOp
  simp only [hi]
  have step : vcOp P o st K → o.wp P a w (Lift w0 M K) Q := by
    intro hv'
    obtain ⟨e, rfl, hg⟩ := hs
    exact vop_sound hg o hv'
  unfold vcG at hv
  cases hgd : o.guard with
  | none =>
    rw [hgd] at hv
    rw [if_pos (by simp [Region.wanted, hgd])]
    exact .inl (step hv)
  | some jw =>
    obtain ⟨j, want⟩ := jw
    rw [hgd] at hv
    simp only at hv
    cases hj : (ops[j]?).bind (·.dst) with
    | none => rw [hj] at hv; exact hv.elim
    | some t =>
      rw [hj] at hv
      obtain ⟨h2, ⟨b, h1, h3, h4⟩ | ⟨f, h1, h5, h6⟩⟩ := hv
      · have hval : a.tmps[t]? = some (.bool b) := by
          obtain ⟨e, _, hg⟩ := hs
          have := hg.slot t
          rw [h1] at this
          have hv := (VRep_lit this).1
          have hlt : t < a.tmps.size := by rw [hg.N]; exact h2
          rw [Array.getElem?_eq_getElem hlt]
          simpa [hlt] using hv
        have hy : yielded ops a.tmps j = some b := by
          unfold yielded; rw [hj]; simp [hval]
        have hw : Region.wanted o (yielded ops a.tmps) = (b == want) := by
          unfold Region.wanted; rw [hgd]; simp only [hy]; cases b <;> cases want <;> rfl
        rw [hw]
        by_cases hb : b = want
        · subst hb
          simp only [beq_self_eq_true, if_true]
          exact .inl (step (h3 rfl))
        · have hb' : b = !want := by cases b <;> cases want <;> simp_all
          rw [if_neg (by simpa using hb)]
          obtain ⟨h5, h6⟩ := h4 hb'
          obtain ⟨e, he, hg⟩ := hs
          exact ⟨_, h6, e, he, hg.put h5 (VRep_und e)⟩
      · have hval : a.tmps[t]? = some (.tuple #[]) := by
          obtain ⟨e, _, hg⟩ := hs
          have := hg.slot t
          rw [h1] at this
          obtain ⟨vs, hv, hn, _⟩ := this
          obtain rfl : vs = #[] := by simpa using hn
          have hlt : t < a.tmps.size := by rw [hg.N]; exact h2
          rw [Array.getElem?_eq_getElem hlt]
          simpa [hlt] using hv
        have hy : yielded ops a.tmps j = none := by
          unfold yielded; rw [hj]; simp [hval]
        have hw : Region.wanted o (yielded ops a.tmps) = false := by
          unfold Region.wanted; rw [hgd]; simp only [hy]; cases want <;> rfl
        rw [hw, if_neg (by simp)]
        obtain ⟨e, he, hg⟩ := hs
        exact ⟨_, h6, e, he, hg.put h5 (VRep_und e)⟩
theorem vcG_mono {o : Oper} {st : St} {K K' : St → Prop} (hk : ∀ st, K st → K' st) (h : vcG P ops o st K) : vcG P ops o st K' := by
  unfold vcG at *
  split
  · rename_i hg; rw [hg] at h; exact ⟨h.1, eff_mono (fun _ _ _ h => hk _ h) h.2⟩
  · rename_i hg
    rw [hg] at h
    simp only at h ⊢
    split
    · rename_i ht
      rw [ht] at h
      exact ⟨h.1, h.2.mono (fun h3 => ⟨h3.1, eff_mono (fun _ _ _ h => hk _ h) h3.2⟩) fun h4 => ⟨h4.1, hk _ h4.2⟩⟩
    · rename_i ht; rw [ht] at h; exact h
def vcAny (P : Program) (ops : Array Oper) (S : Nat → Roots → Prop) (K : St → Prop) : Nat → Array Bool → St → Prop
  | 0, listed, st => Region.ready .any ops listed = [] ∧ K st
  | fuel + 1, listed, st => (Region.ready .any ops listed = [] → K st) ∧
    ∀ i ∈ Region.ready .any ops listed, ∃ o, ops[i]? = some o ∧ vcG P ops o st fun st' => S i st'.R ∧ vcAny P ops S K fuel (listed.setIfInBounds i true) st'
theorem vcAny_sound {S : Nat → Roots → Prop} {K : St → Prop} {Q : Exit → Act → World → Prop} (hK : ∀ st a w, K st → SR w0 M st a w → Q .normal a w) : ∀ (fuel : Nat) (listed : Array Bool) (st : St) (a : Act) (w : World), SR w0 M st a w → vcAny P ops S K fuel listed st → wpAny P .any ops Q fuel listed a w := by
  intro fuel
  induction fuel with
  | zero => intro listed st a w hs h; exact ⟨h.1, hK _ _ _ h.2 hs⟩
  | succ fuel ih =>
    intro listed st a w hs h
    refine ⟨fun h0 => hK _ _ _ (h.1 h0) hs, fun i hi => ?_⟩
    obtain ⟨o, ho, hv⟩ := h.2 i hi
    refine wpOp_mono ?_ (vcG_wp ho hs hv)
    rintro a' w' ⟨st', ⟨_, h1⟩, h2⟩
    exact ih _ _ _ _ h2 h1
end
end Go.Proofs.YtncinhlaabdlaaaGreat.IM
end
section
namespace Go.Proofs.YtncinhlaabdlaaaGreat.IM
open Go Go.RowKit
set_option linter.unusedVariables false
theorem St.ev_put {st : St} {dst : Option Tmp} {v : D} {x : Operand} (h : ∀ d, dst = some d → x ≠ .tmp d) : (st.put dst v).ev x = st.ev x := by
  cases dst with
  | none => rfl
  | some d =>
    cases x with
    | tmp t =>
      have hne : t ≠ d := fun e => h d rfl (e ▸ rfl)
      exact upd_ne _ _ hne
    | _ => rfl
theorem St.s_put {st : St} {dst : Option Tmp} {v : D} {t : Nat} (h : ∀ d, dst = some d → t ≠ d) : (st.put dst v).s t = st.s t := by
  cases dst with
  | none => rfl
  | some d => exact upd_ne _ _ (h d rfl)
@[simp] theorem St.put_N (st : St) (dst : Option Tmp) (v : D) : (st.put dst v).N = st.N := by cases dst <;> rfl
@[simp] theorem St.put_n (st : St) (dst : Option Tmp) (v : D) : (st.put dst v).n = st.n := by cases dst <;> rfl
@[simp] theorem St.put_R (st : St) (dst : Option Tmp) (v : D) : (st.put dst v).R = st.R := by cases dst <;> rfl
theorem St.put_with (st : St) (dst : Option Tmp) (v : D) (n : Nat) (R : Roots) : (St.mk (st.put dst v).N n (st.put dst v).s R) = (St.mk st.N n st.s R).put dst v := by cases dst <;> rfl
theorem St.put_comm (st : St) {x y : Option Tmp} (v u : D) (h : ∀ d, x = some d → y ≠ some d) : (st.put x v).put y u = (st.put y u).put x v := by
  cases x with
  | none => rfl
  | some d =>
    cases y with
    | none => rfl
    | some e =>
      have hne : d ≠ e := fun he => h d rfl (he ▸ rfl)
      show ({ st with s := upd (upd st.s d v) e u } : St) = { st with s := upd (upd st.s e u) d v }
      rw [upd_comm _ _ _ hne]
section
variable {P : Program} {ops : Array Oper}
def YD (P : Program) (ops : Array Oper) (S : Roots → Prop) (o : Oper) (v : D) (st : St) : Prop :=
  st.dstOk o.dst ∧
  match o.guard with
  | none => ∀ (R : Roots) (n : Nat) (k : Roots → Nat → D → Prop), S R → k R n v → eff P o.op o.dst st.ev R n k
  | some (j, want) =>
    match (ops[j]?).bind (·.dst) with
    | some t => t < st.N ∧ Tst (st.s t) want (∀ (R : Roots) (n : Nat) (k : Roots → Nat → D → Prop), S R → k R n v → eff P o.op o.dst st.ev R n k) (v = und)
    | none => False
theorem YD.vcG {S : Roots → Prop} {o : Oper} {v : D} {st : St} {K : St → Prop} (h : YD P ops S o v st) (hS : S st.R) (hK : K (st.put o.dst v)) : vcG P ops o st K := by
  obtain ⟨h0, h⟩ := h
  unfold IM.vcG
  split
  · rename_i hg; rw [hg] at h; exact ⟨h0, h _ _ _ hS hK⟩
  · rename_i hg
    rw [hg] at h
    simp only at h
    split
    · rename_i ht
      rw [ht] at h
      exact ⟨h.1, h.2.mono (fun h3 => ⟨h0, h3 _ _ _ hS hK⟩) fun h4 => ⟨h0, by rw [← h4]; exact hK⟩⟩
    · rename_i ht; rw [ht] at h; exact h
theorem mem_looks_op {o : Oper} {d : Nat} (h : Operand.tmp d ∈ o.op.operands) : d ∈ o.looksAt ops :=
  List.mem_append_left _ (List.mem_filterMap.2 ⟨.tmp d, by simpa using h, rfl⟩)
theorem mem_looks_guard {o : Oper} {j : Nat} {want : Bool} {d : Nat} (hg : o.guard = some (j, want)) (h : (ops[j]?).bind (·.dst) = some d) : d ∈ o.looksAt ops := by
  simp [Oper.looksAt, hg, h]
theorem YD.of_put {S : Roots → Prop} {o : Oper} {v : D} {st : St} (h : YD P ops S o v st) (dst : Option Tmp) (u : D) (n : Nat) (R : Roots) (hd : ∀ d, dst = some d → d ∉ o.looksAt ops) :
    YD P ops S o v ((St.mk st.N n st.s R).put dst u) := by
  obtain ⟨h0, h⟩ := h
  have hev : ∀ x ∈ o.op.operands, st.ev x = ((St.mk st.N n st.s R).put dst u).ev x := fun x hx => by
    rw [St.ev_put fun d hd' hxd => hd d hd' (mem_looks_op (by rw [← hxd]; exact hx))]; cases x <;> rfl
  have hnf : st.ev (.const .nilFunc) = ((St.mk st.N n st.s R).put dst u).ev (.const .nilFunc) := by cases dst <;> rfl
  refine ⟨by simpa [St.dstOk] using h0, ?_⟩
  split
  · rename_i hg; rw [hg] at h; exact fun R n k hS hk => eff_congr hev hnf (h R n k hS hk)
  · rename_i hg
    rw [hg] at h
    simp only at h
    split
    · rename_i t ht
      rw [ht] at h
      refine ⟨by simpa using h.1, ?_⟩
      rw [St.s_put fun d hd' htd => hd d hd' (mem_looks_guard hg (htd ▸ ht))]
      exact h.2.mono (fun h3 R n k hS hk => eff_congr hev hnf (h3 R n k hS hk)) id
    · rename_i ht; rw [ht] at h; exact h
theorem vcG_put {S : Roots → Prop} {oi oj : Oper} {v : D} {st : St} {K : St → Prop} (hap : oi.apart ops oj = true) (hy : YD P ops S oi v st) (h : vcG P ops oj (st.put oi.dst v) K) :
    vcG P ops oj st fun st' => YD P ops S oi v st' ∧ K (st'.put oi.dst v) := by
  obtain ⟨h1, h2, h3⟩ := Oper.apart_spec hap
  have hev : ∀ x ∈ oj.op.operands, (st.put oi.dst v).ev x = st.ev x := fun x hx => St.ev_put fun d hd hxd => h1 d hd (mem_looks_op (by rw [← hxd]; exact hx))
  have hnf : (st.put oi.dst v).ev (.const .nilFunc) = st.ev (.const .nilFunc) := St.ev_put fun d _ h => by cases h
  have step : vcOp P oj (st.put oi.dst v) K → vcOp P oj st fun st' => YD P ops S oi v st' ∧ K (st'.put oi.dst v) := by
    rintro ⟨hd, he⟩
    refine ⟨by simpa [St.dstOk] using hd, ?_⟩
    have he := eff_congr hev hnf he
    simp only [St.put_R, St.put_n] at he
    refine eff_mono (fun R' n' r hk => ⟨hy.of_put _ _ _ _ h3, ?_⟩) he
    rw [St.put_with] at hk
    rw [← St.put_comm _ _ _ h2]
    exact hk
  unfold IM.vcG at *
  split
  · rename_i hg; rw [hg] at h; exact step h
  · rename_i hg
    rw [hg] at h
    simp only at h
    split
    · rename_i t ht
      rw [ht] at h
      obtain ⟨h4, h5⟩ := h
      rw [St.s_put fun d hd htd => h1 d hd (mem_looks_guard hg (htd ▸ ht))] at h5
      refine ⟨by simpa using h4, h5.mono step fun h7 => ⟨by simpa [St.dstOk] using h7.1, hy.of_put _ _ _ _ h3, ?_⟩⟩
      rw [← St.put_comm _ _ _ h2]
      exact h7.2
    · rename_i ht; rw [ht] at h; exact h
theorem vcAny_first {S : Nat → Roots → Prop} {S0 : Roots → Prop} {K : St → Prop} {i : Nat} {oi : Oper} {v : D} (hi : ops[i]? = some oi) (hSi : ∀ R, S0 R → S i R)
    (hSj : ∀ j oj R, ops[j]? = some oj → j ≠ i → (∀ e ∈ oj.after, Region.binds .any e = true → e.on ≠ i) → S j R → S0 R) : ∀ (fuel : Nat) (listed : Array Bool) (st : St),
    (∀ j oj, ops[j]? = some oj → j ≠ i → listed.getD j true = false → (∀ e ∈ oj.after, Region.binds .any e = true → e.on ≠ i) → oi.apart ops oj = true) →
    i ∈ Region.ready .any ops listed → YD P ops S0 oi v st → S0 st.R → vcAny P ops S K fuel (listed.setIfInBounds i true) (st.put oi.dst v) → vcAny P ops S K (fuel + 1) listed st := by
  intro fuel
  induction fuel with
  | zero =>
    intro listed st _ hr hy hS H
    refine ⟨fun h => (by rw [h] at hr; cases hr), fun j hj => ?_⟩
    by_cases hji : j = i
    · subst hji; exact ⟨oi, hi, hy.vcG hS ⟨by simpa using hSi _ hS, H⟩⟩
    · have := ready_mono hj hji
      rw [H.1] at this
      cases this
  | succ fuel ih =>
    intro listed st hfree hr hy hS H
    refine ⟨fun h => (by rw [h] at hr; cases hr), fun j hj => ?_⟩
    by_cases hji : j = i
    · subst hji; exact ⟨oi, hi, hy.vcG hS ⟨by simpa using hSi _ hS, H⟩⟩
    · obtain ⟨oj, hoj, h1⟩ := H.2 j (ready_mono hj hji)
      obtain ⟨hjun, oj', hoj', hall⟩ := mem_ready.1 hj
      obtain rfl : oj = oj' := by rw [hoj] at hoj'; exact Option.some.inj hoj'
      have hnot : ∀ e ∈ oj.after, Region.binds .any e = true → e.on ≠ i := fun e he hb heq => by
        have h1 := hall e he hb
        have h0 := (mem_ready.1 hr).1
        rw [heq] at h1
        rcases Nat.lt_or_ge i listed.size with h' | h'
        · simp [h'] at h0 h1; rw [h0] at h1; cases h1
        · simp [Array.getElem?_eq_none h'] at h1
      have hfree' : ∀ k ok, ops[k]? = some ok → k ≠ i → (listed.setIfInBounds j true).getD k true = false →
          (∀ e ∈ ok.after, Region.binds .any e = true → e.on ≠ i) → oi.apart ops ok = true := fun k ok hk hki hun hno => by
        refine hfree k ok hk hki ?_ hno
        by_cases hjk : j = k
        · subst hjk; exact hjun
        · rw [getD_set_ne true hjk] at hun; exact hun
      refine ⟨oj, hoj, vcG_mono (fun st' h3 => ?_) (vcG_put (hfree j oj hoj hji hjun hnot) hy h1)⟩
      obtain ⟨h4, h5, h6⟩ := h3
      rw [St.put_R] at h5
      refine ⟨h5, ih (listed.setIfInBounds j true) st' hfree' (ready_mono hr (Ne.symm hji)) h4 (hSj j oj _ hoj hji hnot h5) ?_⟩
      rw [Array.setIfInBounds_comm _ _ hji]
      exact h6
def vcE (P : Program) (ops : Array Oper) (Ls : List Nat) (o : Oper) (st : St) (K : St → Prop) : Prop :=
  match o.guard with
  | none => earlyOp Ls o.op st.ev ∧ vcOp P o st K
  | some (j, want) =>
    match (ops[j]?).bind (·.dst) with
    | some t => t < st.N ∧ Tst (st.s t) want (earlyOp Ls o.op st.ev ∧ vcOp P o st K) (st.dstOk o.dst ∧ K (st.put o.dst und))
    | none => False
theorem vcE_early {Ls : List Nat} {o : Oper} {st : St} {K : St → Prop} {R0 : Roots} (h : vcE P ops Ls o st K) (hR : ∀ l ∈ Ls, st.R l = R0 l) :
    ∃ v, YD P ops (fun R => ∀ l ∈ Ls, R l = R0 l) o v st ∧ K (st.put o.dst v) := by
  have step : earlyOp Ls o.op st.ev ∧ vcOp P o st K → ∃ v, (st.dstOk o.dst ∧ ∀ (R : Roots) (n : Nat) (k : Roots → Nat → D → Prop), (∀ l ∈ Ls, R l = R0 l) → k R n v → eff P o.op o.dst st.ev R n k) ∧ K (st.put o.dst v) := by
    rintro ⟨he, hd, hv⟩
    obtain ⟨v, h1, h2⟩ := eff_early he hv
    exact ⟨v, ⟨hd, fun R n k hS hk => h2 R n k (fun l hl => by rw [hS l hl, hR l hl]) hk⟩, h1⟩
  unfold vcE at h
  unfold YD
  split at h
  · rename_i hg; obtain ⟨v, h1, h2⟩ := step h; exact ⟨v, by simpa only [hg] using h1, h2⟩
  · rename_i j want hg
    split at h
    · rename_i t ht
      obtain ⟨h1, ⟨b, h2, h3, h4⟩ | ⟨f, h2, h5, h6⟩⟩ := h
      · by_cases hb : b = want
        · obtain ⟨v, ⟨h5, h6⟩, h7⟩ := step (h3 hb)
          refine ⟨v, ⟨h5, ?_⟩, h7⟩
          exact ⟨h1, .inl ⟨b, h2, fun _ => h6, fun hb' => by subst hb; cases b <;> simp at hb'⟩⟩
        · obtain ⟨h5, h6⟩ := h4 (by cases b <;> cases want <;> simp_all)
          refine ⟨und, ⟨h5, ?_⟩, h6⟩
          exact ⟨h1, .inl ⟨b, h2, fun hb' => absurd hb' hb, fun _ => rfl⟩⟩
      · exact ⟨und, ⟨h5, h1, .inr ⟨f, h2, rfl⟩⟩, h6⟩
    · exact h.elim
def vcPlan (P : Program) (ops : Array Oper) (Ls : List Nat) (B : List Nat) (R0 : Roots) (K : St → Prop) : List (Nat × Bool) → St → Prop
  | [], st => K st
  | (i, early) :: rest, st =>
    match ops[i]?, early with
    | some o, true => vcE P ops (if B.contains i then [] else Ls) o st (vcPlan P ops Ls B R0 K rest)
    | some o, false => vcG P ops o st fun st' => (B.contains i = true ∨ ∀ l ∈ Ls, st'.R l = R0 l) ∧ vcPlan P ops Ls B R0 K rest st'
    | none, _ => False
def edgeTo (ops : Array Oper) (j i : Nat) : Bool := match ops[j]? with
  | some o => o.after.any fun e => Region.binds .any e && e.on == i
  | none => true
def tailOk (B : List Nat) : List (Nat × Bool) → Bool
  | [] => true
  | (i, _) :: rest => if B.contains i then rest.all fun x => B.contains x.1 else tailOk B rest
def barOk (ops : Array Oper) (B : List Nat) (plan : List (Nat × Bool)) : Bool :=
  (plan.all fun x => !x.2 || B.contains x.1 || B.all fun j => edgeTo ops j x.1) && tailOk B plan
def planOk (ops : Array Oper) : List (Nat × Bool) → Array Bool → Bool
  | [], listed => (Region.ready .any ops listed).isEmpty
  | (i, true) :: rest, listed => (Region.ready .any ops listed).contains i && Region.free .any ops listed i && planOk ops rest (listed.setIfInBounds i true)
  | (i, false) :: rest, listed => (Region.ready .any ops listed == [i]) && planOk ops rest (listed.setIfInBounds i true)
theorem tailOk_all {B : List Nat} : ∀ {plan : List (Nat × Bool)}, (plan.all fun x => B.contains x.1) = true → tailOk B plan = true
  | [], _ => rfl
  | (i, e) :: rest, h => by
    simp only [List.all_cons, Bool.and_eq_true] at h
    unfold tailOk
    rw [if_pos h.1]; exact h.2
theorem edgeTo_not {j i : Nat} {oj : Oper} (hj : ops[j]? = some oj) (hno : ∀ e ∈ oj.after, Region.binds .any e = true → e.on ≠ i) : edgeTo ops j i = false := by
  unfold edgeTo
  rw [hj]
  rw [Bool.eq_false_iff]
  intro hx
  rw [Array.any_eq_true] at hx
  obtain ⟨k, hk, hx⟩ := hx
  simp only [Bool.and_eq_true, beq_iff_eq] at hx
  exact hno _ (Array.getElem_mem hk) hx.1 hx.2
theorem vcPlan_sound {Ls B : List Nat} {R0 : Roots} {K : St → Prop} : ∀ (plan : List (Nat × Bool)) (fuel : Nat) (listed : Array Bool) (st : St), plan.length ≤ fuel → planOk ops plan listed = true →
    (plan.all fun x => !x.2 || B.contains x.1 || B.all fun j => edgeTo ops j x.1) = true → tailOk B plan = true → ((plan.all fun x => B.contains x.1) = true ∨ ∀ l ∈ Ls, st.R l = R0 l) →
    vcPlan P ops Ls B R0 K plan st → vcAny P ops (fun j R => B.contains j = true ∨ ∀ l ∈ Ls, R l = R0 l) K fuel listed st := by
  intro plan
  induction plan with
  | nil =>
    intro fuel listed st hf hp hb ht hR h
    have hr : Region.ready .any ops listed = [] := by simpa [planOk] using hp
    cases fuel with
    | zero => exact ⟨hr, h⟩
    | succ fuel => exact ⟨fun _ => h, by rw [hr]; intro i hi; cases hi⟩
  | cons x rest ih =>
    obtain ⟨i, early⟩ := x
    intro fuel listed st hf hp hb ht hR h
    cases fuel with
    | zero => simp at hf
    | succ fuel =>
      simp only [List.length_cons, Nat.add_le_add_iff_right] at hf
      simp only [List.all_cons, Bool.and_eq_true] at hb
      have ht2 : tailOk B rest = true := by
        unfold tailOk at ht
        split at ht
        · exact tailOk_all ht
        · exact ht
      unfold vcPlan at h
      cases hi : ops[i]? with
      | none => rw [hi] at h; exact h.elim
      | some o =>
        rw [hi] at h
        cases early with
        | true =>
          simp only [planOk, Bool.and_eq_true] at hp
          by_cases hiB : B.contains i = true
          · have h' : vcE P ops [] o st (vcPlan P ops Ls B R0 K rest) := by simpa only [hiB, if_true] using h
            obtain ⟨v, hy, hK⟩ := vcE_early (R0 := R0) h' (by simp)
            have hy' : YD P ops (fun _ => True) o v st := by
              unfold YD at hy ⊢
              refine ⟨hy.1, ?_⟩
              have h2 := hy.2
              revert h2
              cases o.guard with
              | none => intro h2; exact fun R n k _ hk => h2 R n k (by simp) hk
              | some jw =>
                obtain ⟨j, want⟩ := jw
                simp only
                cases (ops[j]?).bind (·.dst) with
                | none => exact id
                | some t => exact fun h2 => ⟨h2.1, h2.2.mono (fun h3 R n k _ hk => h3 R n k (by simp) hk) id⟩
            refine vcAny_first (S0 := fun _ => True) hi (fun R _ => .inl hiB) (fun _ _ _ _ _ _ _ => trivial) fuel listed st (Region.free_spec hi hp.1.2) (by simpa using hp.1.1) hy' trivial (ih fuel _ _ hf hp.2 hb.2 ht2 ?_ hK)
            unfold tailOk at ht
            rw [if_pos hiB] at ht
            exact .inl ht
          · have h' : vcE P ops Ls o st (vcPlan P ops Ls B R0 K rest) := by simpa only [hiB, if_false, Bool.false_eq_true] using h
            have hR' : ∀ l ∈ Ls, st.R l = R0 l := by
              rcases hR with hR | hR
              · simp only [List.all_cons, Bool.and_eq_true] at hR; exact absurd hR.1 hiB
              · exact hR
            have hbi : (B.all fun j => edgeTo ops j i) = true := by
              have := hb.1
              simp only [Bool.not_true, Bool.false_or, Bool.or_eq_true] at this
              exact this.resolve_left hiB
            obtain ⟨v, hy, hK⟩ := vcE_early h' hR'
            refine vcAny_first (S0 := fun R => ∀ l ∈ Ls, R l = R0 l) hi (fun R h => .inr h) (fun j oj R hj _ hno hS => ?_) fuel listed st (Region.free_spec hi hp.1.2) (by simpa using hp.1.1) hy hR' (ih fuel _ _ hf hp.2 hb.2 ht2 (.inr (by simpa using hR')) hK)
            rcases hS with hS | hS
            · have h1 := List.all_eq_true.1 hbi j (by simpa using hS)
              rw [edgeTo_not hj hno] at h1; cases h1
            · exact hS
        | false =>
          simp only [planOk, Bool.and_eq_true, beq_iff_eq] at hp
          refine ⟨fun h0 => (by rw [hp.1] at h0; cases h0), fun j hj => ?_⟩
          rw [hp.1] at hj
          obtain rfl := List.mem_singleton.1 hj
          refine ⟨o, hi, vcG_mono (fun st' h' => ⟨h'.1, ih fuel _ _ hf hp.2 hb.2 ht2 ?_ h'.2⟩) h⟩
          rcases h'.1 with h2 | h2
          · unfold tailOk at ht
            rw [if_pos h2] at ht
            exact .inl ht
          · exact .inr h2
end
section
variable {P : Program} {w0 : World} {M : Fr} {ops : Array Oper}
def Env.draw (e : Env) : Env := { e with w := { e.w with drawn := e.w.drawn + 1 } }
theorem Env.draw_le (e : Env) : e.le e.draw := ⟨Nat.le_refl _, fun _ h => h, fun _ _ => rfl, fun _ _ _ d _ h => ⟨d, h⟩, fun _ _ _ _ _ _ C _ z h => ⟨C, z, h, rfl⟩⟩
theorem SR.draw {st : St} {a : Act} {w : World} (h : SR w0 M st a w) : SR w0 M st a { w with drawn := w.drawn + 1 } := by
  obtain ⟨e, rfl, hg⟩ := h
  exact ⟨e.draw, rfl, hg.R, hg.N, hg.df, fun t => VRep_le e.draw_le (hg.slot t), fun l g b d hl => by
    obtain ⟨h1, h2, h3, C, T, cs, h4, h5, h6⟩ := hg.root l g b d hl
    exact ⟨h1, h2, h3, C, T, cs, h4, Rep_le e.draw_le h5, h6⟩, hg.own, hg.inj, hg.P, ⟨hg.keep.os, hg.keep.tape, hg.keep.output, hg.keep.size, hg.keep.block, hg.keep.cell⟩, hg.n, hg.per⟩
theorem iwp_draw {id : Nat} {Q : Exit → St → Prop} {st : St} (plan : List (Nat × Bool)) (Ls : List Nat) (hm : P.follows .mixedOrders = true) (hp : planOk ops plan (Array.replicate ops.size false) = true) (hl : plan.length ≤ ops.size) (B : List Nat) (hb : barOk ops B plan = true)
    (h : vcPlan P ops Ls B st.R (Q .normal) plan st) : IWp P w0 M (.region id ops true) Q st := by
  intro a w hs
  exact wp_region_any hm (vcAny_sound (fun st' a' w' hk hs' => ⟨st', hk, hs'⟩) _ _ st a _ hs.draw (vcPlan_sound plan _ _ st hl hp (Bool.and_eq_true_iff.1 hb).1 (Bool.and_eq_true_iff.1 hb).2 (.inr fun _ _ => rfl) h))
end
end Go.Proofs.YtncinhlaabdlaaaGreat.IM
end
section
namespace Go.Proofs.YtncinhlaabdlaaaGreat.IM
open Go Go.RowKit
set_option linter.unusedVariables false
inductive Pl where
  | done
  | early (i : Nat) (r : Pl)
  | late (i : Nat) (r : Pl)
  | fork (i : Nat) (r : Pl) (j : Nat) (s : Pl)
  | fork3 (i : Nat) (r : Pl) (j : Nat) (s : Pl) (k : Nat) (u : Pl)
def Pl.len : Pl → Nat
  | .done => 0
  | .early _ r => r.len + 1
  | .late _ r => r.len + 1
  | .fork _ r _ s => max r.len s.len + 1
  | .fork3 _ r _ s _ u => max r.len (max s.len u.len) + 1
def vcPl (P : Program) (ops : Array Oper) (Ls B : List Nat) (R0 : Roots) (K : St → Prop) : Pl → St → Prop
  | .done, st => K st
  | .early i r, st => match ops[i]? with
    | some o => vcE P ops (if B.contains i = true then [] else Ls) o st (vcPl P ops Ls B R0 K r)
    | none => False
  | .late i r, st => match ops[i]? with
    | some o => vcG P ops o st fun st' => (B.contains i = true ∨ ∀ l ∈ Ls, st'.R l = R0 l) ∧ vcPl P ops Ls B R0 K r st'
    | none => False
  | .fork i r j s, st => (match ops[i]? with
    | some o => vcG P ops o st fun st' => (B.contains i = true ∨ ∀ l ∈ Ls, st'.R l = R0 l) ∧ vcPl P ops Ls B R0 K r st'
    | none => False) ∧ match ops[j]? with
    | some o => vcG P ops o st fun st' => (B.contains j = true ∨ ∀ l ∈ Ls, st'.R l = R0 l) ∧ vcPl P ops Ls B R0 K s st'
    | none => False
  | .fork3 i r j s k u, st => (match ops[i]? with
    | some o => vcG P ops o st fun st' => (B.contains i = true ∨ ∀ l ∈ Ls, st'.R l = R0 l) ∧ vcPl P ops Ls B R0 K r st'
    | none => False) ∧ (match ops[j]? with
    | some o => vcG P ops o st fun st' => (B.contains j = true ∨ ∀ l ∈ Ls, st'.R l = R0 l) ∧ vcPl P ops Ls B R0 K s st'
    | none => False) ∧ (match ops[k]? with
    | some o => vcG P ops o st fun st' => (B.contains k = true ∨ ∀ l ∈ Ls, st'.R l = R0 l) ∧ vcPl P ops Ls B R0 K u st'
    | none => False)
def plOk (ops : Array Oper) : Pl → Array Bool → Bool
  | .done, listed => (Region.ready .any ops listed).isEmpty
  | .early i r, listed => (Region.ready .any ops listed).contains i && Region.free .any ops listed i && plOk ops r (listed.setIfInBounds i true)
  | .late i r, listed => (Region.ready .any ops listed == [i]) && plOk ops r (listed.setIfInBounds i true)
  | .fork i r j s, listed => (Region.ready .any ops listed == [i, j] || Region.ready .any ops listed == [j, i]) && plOk ops r (listed.setIfInBounds i true) && plOk ops s (listed.setIfInBounds j true)
  | .fork3 i r j s k u, listed => (Region.ready .any ops listed == [i, j, k]) && plOk ops r (listed.setIfInBounds i true) && plOk ops s (listed.setIfInBounds j true) && plOk ops u (listed.setIfInBounds k true)
def plAll (B : List Nat) : Pl → Bool
  | .done => true
  | .early i r => B.contains i && plAll B r
  | .late i r => B.contains i && plAll B r
  | .fork i r j s => B.contains i && plAll B r && B.contains j && plAll B s
  | .fork3 i r j s k u => B.contains i && plAll B r && B.contains j && plAll B s && B.contains k && plAll B u
def plTail (B : List Nat) : Pl → Bool
  | .done => true
  | .early i r => if B.contains i then plAll B r else plTail B r
  | .late i r => if B.contains i then plAll B r else plTail B r
  | .fork i r j s => (if B.contains i then plAll B r else plTail B r) && if B.contains j then plAll B s else plTail B s
  | .fork3 i r j s k u => (if B.contains i then plAll B r else plTail B r) && (if B.contains j then plAll B s else plTail B s) && if B.contains k then plAll B u else plTail B u
def plEdge (ops : Array Oper) (B : List Nat) : Pl → Bool
  | .done => true
  | .early i r => (B.contains i || B.all fun j => edgeTo ops j i) && plEdge ops B r
  | .late _ r => plEdge ops B r
  | .fork _ r _ s => plEdge ops B r && plEdge ops B s
  | .fork3 _ r _ s _ u => plEdge ops B r && plEdge ops B s && plEdge ops B u
section
variable {P : Program} {ops : Array Oper}
theorem plTail_all {B : List Nat} {p : Pl} : plAll B p = true → plTail B p = true := by
  induction p with
  | done => intro _; rfl
  | early i r ih => intro h; simp only [plAll, Bool.and_eq_true] at h; unfold plTail; rw [if_pos h.1]; exact h.2
  | late i r ih => intro h; simp only [plAll, Bool.and_eq_true] at h; unfold plTail; rw [if_pos h.1]; exact h.2
  | fork i r j s ih1 ih2 =>
    intro h
    simp only [plAll, Bool.and_eq_true] at h
    unfold plTail
    rw [if_pos h.1.1.1, if_pos h.1.2, h.1.1.2, h.2]; rfl
  | fork3 i r j s k u ih1 ih2 ih3 =>
    intro h
    simp only [plAll, Bool.and_eq_true] at h
    obtain ⟨⟨⟨⟨⟨h1, h2⟩, h3⟩, h4⟩, h5⟩, h6⟩ := h
    unfold plTail
    rw [if_pos h1, if_pos h3, if_pos h5, h2, h4, h6]; rfl
theorem vcPl_sound {Ls B : List Nat} {R0 : Roots} {K : St → Prop} : ∀ (p : Pl) (fuel : Nat) (listed : Array Bool) (st : St), p.len ≤ fuel → plOk ops p listed = true → plEdge ops B p = true → plTail B p = true →
    (plAll B p = true ∨ ∀ l ∈ Ls, st.R l = R0 l) → vcPl P ops Ls B R0 K p st → vcAny P ops (fun j R => B.contains j = true ∨ ∀ l ∈ Ls, R l = R0 l) K fuel listed st := by
  intro p
  induction p with
  | done =>
    intro fuel listed st hf hp hb ht hR h
    have hr : Region.ready .any ops listed = [] := by simpa [plOk] using hp
    cases fuel with
    | zero => exact ⟨hr, h⟩
    | succ fuel => exact ⟨fun _ => h, by rw [hr]; intro i hi; cases hi⟩
  | early i rest ih =>
    intro fuel listed st hf hp hb ht hR h
    cases fuel with
    | zero => simp [Pl.len] at hf
    | succ fuel =>
      simp only [Pl.len, Nat.add_le_add_iff_right] at hf
      simp only [plEdge, Bool.and_eq_true] at hb
      simp only [plOk, Bool.and_eq_true] at hp
      have ht2 : plTail B rest = true := by
        unfold plTail at ht
        split at ht
        · exact plTail_all ht
        · exact ht
      unfold vcPl at h
      cases hi : ops[i]? with
      | none => rw [hi] at h; exact h.elim
      | some o =>
        rw [hi] at h
        by_cases hiB : B.contains i = true
        · have h' : vcE P ops [] o st (vcPl P ops Ls B R0 K rest) := by simpa only [hiB, if_true] using h
          obtain ⟨v, hy, hK⟩ := vcE_early (R0 := R0) h' (by simp)
          have hy' : YD P ops (fun _ => True) o v st := by
            unfold YD at hy ⊢
            refine ⟨hy.1, ?_⟩
            have h2 := hy.2
            revert h2
            cases o.guard with
            | none => intro h2; exact fun R n k _ hk => h2 R n k (by simp) hk
            | some jw =>
              obtain ⟨j, want⟩ := jw
              simp only
              cases (ops[j]?).bind (·.dst) with
              | none => exact id
              | some t => exact fun h2 => ⟨h2.1, h2.2.mono (fun h3 R n k _ hk => h3 R n k (by simp) hk) id⟩
          refine vcAny_first (S0 := fun _ => True) hi (fun R _ => .inl hiB) (fun _ _ _ _ _ _ _ => trivial) fuel listed st (Region.free_spec hi hp.1.2) (by simpa using hp.1.1) hy' trivial (ih fuel _ _ hf hp.2 hb.2 ht2 ?_ hK)
          unfold plTail at ht
          rw [if_pos hiB] at ht
          exact .inl ht
        · have h' : vcE P ops Ls o st (vcPl P ops Ls B R0 K rest) := by simpa only [hiB, if_false, Bool.false_eq_true] using h
          have hR' : ∀ l ∈ Ls, st.R l = R0 l := by
            rcases hR with hR | hR
            · simp only [plAll, Bool.and_eq_true] at hR; exact absurd hR.1 hiB
            · exact hR
          have hbi : (B.all fun j => edgeTo ops j i) = true := by
            have := hb.1
            simp only [Bool.or_eq_true] at this
            exact this.resolve_left hiB
          obtain ⟨v, hy, hK⟩ := vcE_early h' hR'
          refine vcAny_first (S0 := fun R => ∀ l ∈ Ls, R l = R0 l) hi (fun R h => .inr h) (fun j oj R hj _ hno hS => ?_) fuel listed st (Region.free_spec hi hp.1.2) (by simpa using hp.1.1) hy hR' (ih fuel _ _ hf hp.2 hb.2 ht2 (.inr (by simpa using hR')) hK)
          rcases hS with hS | hS
          · have h1 := List.all_eq_true.1 hbi j (by simpa using hS)
            rw [edgeTo_not hj hno] at h1; cases h1
          · exact hS
  | late i rest ih =>
    intro fuel listed st hf hp hb ht hR h
    cases fuel with
    | zero => simp [Pl.len] at hf
    | succ fuel =>
      simp only [Pl.len, Nat.add_le_add_iff_right] at hf
      simp only [plEdge] at hb
      simp only [plOk, Bool.and_eq_true, beq_iff_eq] at hp
      have ht2 : plTail B rest = true := by
        unfold plTail at ht
        split at ht
        · exact plTail_all ht
        · exact ht
      unfold vcPl at h
      cases hi : ops[i]? with
      | none => rw [hi] at h; exact h.elim
      | some o =>
        rw [hi] at h
        refine ⟨fun h0 => (by rw [hp.1] at h0; cases h0), fun j hj => ?_⟩
        rw [hp.1] at hj
        obtain rfl := List.mem_singleton.1 hj
        refine ⟨o, hi, vcG_mono (fun st' h' => ⟨h'.1, ih fuel _ _ hf hp.2 hb ht2 ?_ h'.2⟩) h⟩
        rcases h'.1 with h2 | h2
        · unfold plTail at ht
          rw [if_pos h2] at ht
          exact .inl ht
        · exact .inr h2
  | fork i r j s ih1 ih2 =>
    intro fuel listed st hf hp hb ht hR h
    cases fuel with
    | zero => simp [Pl.len] at hf
    | succ fuel =>
      simp only [Pl.len, Nat.add_le_add_iff_right] at hf
      simp only [plEdge, Bool.and_eq_true] at hb
      simp only [plOk, Bool.and_eq_true, Bool.or_eq_true, beq_iff_eq] at hp
      unfold plTail at ht
      rw [Bool.and_eq_true] at ht
      have t1 : plTail B r = true := by
        have := ht.1
        split at this
        · exact plTail_all this
        · exact this
      have t2 : plTail B s = true := by
        have := ht.2
        split at this
        · exact plTail_all this
        · exact this
      unfold vcPl at h
      obtain ⟨ha, hb'⟩ := h
      refine ⟨fun h0 => (by rcases hp.1.1 with h1 | h1 <;> (rw [h1] at h0; cases h0)), fun q hq => ?_⟩
      have hq' : q = i ∨ q = j := by
        rcases hp.1.1 with h1 | h1
        · rw [h1] at hq; simpa using hq
        · rw [h1] at hq; rcases List.mem_cons.1 hq with rfl | hq
          · exact .inr rfl
          · exact .inl (by simpa using hq)
      rcases hq' with rfl | rfl
      · cases hi : ops[q]? with
        | none => rw [hi] at ha; exact ha.elim
        | some o =>
          rw [hi] at ha
          refine ⟨o, rfl, vcG_mono (fun st' h' => ⟨h'.1, ih1 fuel _ _ (by omega) hp.1.2 hb.1 t1 ?_ h'.2⟩) ha⟩
          rcases h'.1 with h2 | h2
          · have := ht.1
            rw [if_pos h2] at this
            exact .inl this
          · exact .inr h2
      · cases hi : ops[q]? with
        | none => rw [hi] at hb'; exact hb'.elim
        | some o =>
          rw [hi] at hb'
          refine ⟨o, rfl, vcG_mono (fun st' h' => ⟨h'.1, ih2 fuel _ _ (by omega) hp.2 hb.2 t2 ?_ h'.2⟩) hb'⟩
          rcases h'.1 with h2 | h2
          · have := ht.2
            rw [if_pos h2] at this
            exact .inl this
          · exact .inr h2
  | fork3 i r j s k u ih1 ih2 ih3 =>
    intro fuel listed st hf hp hb ht hR h
    cases fuel with
    | zero => simp [Pl.len] at hf
    | succ fuel =>
      simp only [Pl.len, Nat.add_le_add_iff_right] at hf
      simp only [plEdge, Bool.and_eq_true] at hb
      simp only [plOk, Bool.and_eq_true, beq_iff_eq] at hp
      unfold plTail at ht
      rw [Bool.and_eq_true, Bool.and_eq_true] at ht
      obtain ⟨⟨hta, htb⟩, htc⟩ := ht
      have t1 : plTail B r = true := by
        have := hta
        split at this
        · exact plTail_all this
        · exact this
      have t2 : plTail B s = true := by
        have := htb
        split at this
        · exact plTail_all this
        · exact this
      have t3 : plTail B u = true := by
        have := htc
        split at this
        · exact plTail_all this
        · exact this
      unfold vcPl at h
      obtain ⟨ha, hb', hc⟩ := h
      obtain ⟨⟨⟨h1, p1⟩, p2⟩, p3⟩ := hp
      refine ⟨fun h0 => (by rw [h1] at h0; cases h0), fun q hq => ?_⟩
      have hq' : q = i ∨ q = j ∨ q = k := by rw [h1] at hq; simpa using hq
      rcases hq' with rfl | rfl | rfl
      · cases hi : ops[q]? with
        | none => rw [hi] at ha; exact ha.elim
        | some o =>
          rw [hi] at ha
          refine ⟨o, rfl, vcG_mono (fun st' h' => ⟨h'.1, ih1 fuel _ _ (by omega) p1 hb.1.1 t1 ?_ h'.2⟩) ha⟩
          rcases h'.1 with h2 | h2
          · have := hta
            rw [if_pos h2] at this
            exact .inl this
          · exact .inr h2
      · cases hi : ops[q]? with
        | none => rw [hi] at hb'; exact hb'.elim
        | some o =>
          rw [hi] at hb'
          refine ⟨o, rfl, vcG_mono (fun st' h' => ⟨h'.1, ih2 fuel _ _ (by omega) p2 hb.1.2 t2 ?_ h'.2⟩) hb'⟩
          rcases h'.1 with h2 | h2
          · have := htb
            rw [if_pos h2] at this
            exact .inl this
          · exact .inr h2
      · cases hi : ops[q]? with
        | none => rw [hi] at hc; exact hc.elim
        | some o =>
          rw [hi] at hc
          refine ⟨o, rfl, vcG_mono (fun st' h' => ⟨h'.1, ih3 fuel _ _ (by omega) p3 hb.2 t3 ?_ h'.2⟩) hc⟩
          rcases h'.1 with h2 | h2
          · have := htc
            rw [if_pos h2] at this
            exact .inl this
          · exact .inr h2
end
section
variable {P : Program} {w0 : World} {M : Fr} {ops : Array Oper}
theorem iwp_drawT {id : Nat} {Q : Exit → St → Prop} {st : St} (p : Pl) (Ls B : List Nat) (hm : P.follows .mixedOrders = true) (hp : plOk ops p (Array.replicate ops.size false) = true) (hl : p.len ≤ ops.size) (hb : (plEdge ops B p && plTail B p) = true)
    (h : vcPl P ops Ls B st.R (Q .normal) p st) : IWp P w0 M (.region id ops true) Q st := by
  intro a w hs
  rw [Bool.and_eq_true] at hb
  exact wp_region_any hm (vcAny_sound (fun st' a' w' hk hs' => ⟨st', hk, hs'⟩) _ _ st a _ hs.draw (vcPl_sound p _ _ st hl hp hb.1 hb.2 (.inr fun _ _ => rfl) h))
end
end Go.Proofs.YtncinhlaabdlaaaGreat.IM
end
section
namespace Go.Proofs.YtncinhlaabdlaaaGreat.IM
open Go Go.RowKit
set_option linter.unusedVariables false
def fzl (l g b : Nat) (d : D) : Relab := fun l0 g0 => if l0 = l then (if g = g0 then .per b d else .gone) else .to l0 g0
open Classical in
noncomputable def frzR (F : Relab) (R : Roots) (l : Nat) : Roots := fun l0 => if l0 = l then none else (R l0).bind fun x => if (rl 9 F x.2.2).plain then some (x.1, x.2.1, rl 9 F x.2.2) else none
section
variable {w0 : World} {M : Fr} {st : St} {K : St → Prop}
@[go_sem] theorem fzl_same (l g b : Nat) (d : D) : fzl l g b d l g = .per b d := by simp [fzl]
@[go_sem] theorem fzl_other (l g b l' g' : Nat) (d : D) (h : l' ≠ l) : fzl l g b d l' g' = .to l' g' := by simp [fzl, h]
@[go_sem] theorem frzR_none (F : Relab) (l : Nat) : frzR F (fun _ => none) l = fun _ => none := by funext l0; simp [frzR]
@[go_sem] theorem frzR_same (F : Relab) (R : Roots) (l : Nat) (x : Option (Nat × Nat × D)) : frzR F (upd R l x) l = frzR F R l := by
  funext l0; unfold frzR upd
  split
  · rfl
  · rfl
@[go_sem] theorem frzR_other (F : Relab) (R : Roots) (l l' g b : Nat) (d : D) (h : l' ≠ l) (hp : (rl 9 F d).plain) : frzR F (upd R l' (some (g, b, d))) l = upd (frzR F R l) l' (some (g, b, rl 9 F d)) := by
  funext l0; unfold frzR upd
  by_cases h1 : l0 = l'
  · subst h1; simp [h, hp]
  · simp [h1]
end
end Go.Proofs.YtncinhlaabdlaaaGreat.IM
end
