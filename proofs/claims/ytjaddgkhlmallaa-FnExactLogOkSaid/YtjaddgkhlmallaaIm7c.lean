/- Appending, over abstract states. Nothing of a program is in it. -/
import Derived.Test.YtjaddgkhlmallaaIm7b
import Derived.Deep.AppendSrc
namespace Go.Proofs.Ytjaddgkhlmallaa.IM
open Go Go.RowKit
set_option linter.unusedVariables false

/-- what is appended to: nothing, or the whole of a root -/
def headD (R : Roots) (z : Nat) : D → Option (Option Nat × Nat × (Nat → D))
  | .nil => some (none, 0, fun _ => .any)
  | .msl l g 0 [] 0 n sz =>
    match R l with
    | some (g', _, .node (.arr N sz') f) => if g' = g ∧ n ≤ N ∧ sz' = sz ∧ sz = z then some (some l, n, f) else none
    | _ => none
  | _ => none

def dropL (R : Roots) : Option Nat → Roots
  | none => R
  | some l => upd R l none

/-- one list behind another -/
def catD (n : Nat) (f f' : Nat → D) : Nat → D := fun i => if i < n then f i else f' (i - n)

theorem flat_add (n m : Nat) (ps qs : Nat → List Value) : flat (n + m) (fun i => if i < n then ps i else qs (i - n)) = flat n ps ++ flat m qs := by
  induction m with
  | zero => simp; exact flat_congr fun i hi => by rw [if_pos hi]
  | succ m ih =>
    rw [← Nat.add_assoc, flat_succ, ih, flat_succ, List.append_assoc]
    congr 2
    rw [if_neg (by omega)]; congr 1; omega

theorem flat_len (n sz : Nat) (ps : Nat → List Value) (h : ∀ i, i < n → (ps i).length = sz) : (flat n ps).length = n * sz := by
  induction n with
  | zero => simp
  | succ n ih => rw [flat_succ, List.length_append, ih (fun i hi => h i (by omega)), h n (by omega), Nat.succ_mul]

theorem at_cells {w : World} {b o : Nat} {cs : List Value} (h : At w b o cs) : ∀ j v, cs[j]? = some v → w.cell? ((⟨b, o, none⟩ : Addr).add j) = some v := by
  intro j v hj
  rw [addr_add]; exact h.cell hj

theorem flat_mem_leaf {e : Env} {n z : Nat} {f : Nat → D} {ps : Nat → List Value} (h : ∀ i, i < n → (ps i).length = z ∧ Rep e (f i) (ps i)) : ∀ u ∈ flat n ps, Leaf u := by
  intro u hu
  obtain ⟨i, hi, hm⟩ := flat_mem hu
  exact Rep_leaf (h i hi).2 u hm

/-- a letter of a string -/
def byteAt (s : ByteArray) (i : Nat) : Int := match s[i]? with | some b => (b.toNat : Int) | none => 0
def strT (P : Program) (T : TypeId) : Bool := match P.underlying T with | some .string => true | _ => false
theorem strT_spec {P : Program} {T : TypeId} (h : strT P T = true) : P.underlying T = some .string := by
  unfold strT at h
  cases hP : P.underlying T with
  | none => rw [hP] at h; cases h
  | some d => rw [hP] at h; cases d <;> first | rfl | cases h

/-- the elements that a slice (or a string) shows: how many, how wide, which -/
def srcD (R : Roots) : D → Option (Nat × Option Nat × (Nat → D))
  | .nil => some (0, none, fun _ => .any)
  | .sl _ _ m sz f => some (m, some sz, f)
  | .lit (.string s) => some (s.size, some 1, fun i => .lit (.int .u8 (byteAt s i)))
  | .msl l g 0 [] 0 m sz =>
    match R l with
    | some (g', _, .node (.arr N sz') f) => if g' = g ∧ m ≤ N ∧ sz' = sz then some (m, some sz, f) else none
    | _ => none
  | _ => none
/-- the type of what is appended -/
def srcT (P : Program) (T T' : TypeId) : D → Prop
  | .lit _ => strT P T' = true
  | _ => T' = T

theorem byteCells_flat (s : ByteArray) : byteCells s = flat s.size fun i => [.int .u8 (byteAt s i)] := by
  have hl : (flat s.size fun i => [Value.int .u8 (byteAt s i)]).length = s.size := by rw [flat_len s.size 1 _ fun _ _ => rfl, Nat.mul_one]
  apply List.ext_getElem?
  intro j
  rcases Nat.lt_or_ge j s.size with hj | hj
  · have h1 : (flat s.size fun i => [Value.int .u8 (byteAt s i)])[j]? = [Value.int .u8 (byteAt s j)][0]? := by
      have := flat_get (.arr s.size 1) (fun i => [Value.int .u8 (byteAt s i)]) s.size (Nat.le_refl _) (fun _ _ => rfl) j hj 0 (by simp [Kd.sz])
      simpa [Kd.off] using this
    rw [h1]
    have hs : s[j]? = some s[j] := getElem?_pos s j hj
    have hd : s.data.toList[j]? = some s[j] := by
      rw [List.getElem?_eq_getElem (by rw [Array.length_toList]; exact hj)]
      rfl
    simp [byteCells, byteAt, hs, hd]
  · rw [List.getElem?_eq_none (by rw [byteCells_length]; exact hj), List.getElem?_eq_none (by omega)]

/-- what an append finds -/
theorem srcD_spec {P : Program} {w0 : World} {M : Fr} {st : St} {e : Env} {a : Act} (h : Good w0 M st e a) {T T' E : TypeId} (hT : telem P T = some E) {d : D} {v : Value} (hv : VRep e d v) (ht : srcT P T T' d) {z m : Nat} {sz : Option Nat} {f : Nat → D} (hs : srcD st.R d = some (m, sz, f)) (hz : ∀ y, sz = some y → y = z) :
    ∃ qs : Nat → List Value, Src P z T' v m (flat m qs) e.w ∧ ∀ i, i < m → (qs i).length = z ∧ Rep e (f i) (qs i) := by
  have hTs := telem_spec hT
  unfold srcD at hs
  split at hs
  · simp only [Option.some.injEq, Prod.mk.injEq] at hs
    obtain ⟨rfl, rfl, rfl⟩ := hs
    obtain ⟨ad, hv⟩ := hv
    simp only [List.cons.injEq, and_true] at hv
    obtain rfl : T' = T := ht
    subst hv
    refine ⟨fun _ => [], ?_, fun i hi => absurd hi (by omega)⟩
    cases ad with
    | none => exact Src.ofNil e.w hTs 0
    | some ad => exact Src.ofSlice e.w hTs ad 0 0 [] (by simp) (by simp) (by simp)
  · simp only [Option.some.injEq, Prod.mk.injEq] at hs
    obtain ⟨rfl, rfl, rfl⟩ := hs
    obtain ⟨o, c, ps, hv, hc, hP, h4, h5, _⟩ := hv
    simp only [List.cons.injEq, and_true] at hv
    obtain rfl : T' = T := ht
    obtain rfl := hz _ rfl
    subst hv
    exact ⟨ps, Src.ofSlice e.w hTs _ _ c _ (flat_len _ _ _ fun i hi => (h4 i hi).1) (at_cells h5) fun u hu => Leaf.oneCell (flat_mem_leaf h4 u hu), h4⟩
  · rename_i s
    simp only [Option.some.injEq, Prod.mk.injEq] at hs
    obtain ⟨rfl, rfl, rfl⟩ := hs
    obtain rfl := hz _ rfl
    obtain ⟨rfl, _⟩ := VRep_lit hv
    refine ⟨fun i => [.int .u8 (byteAt s i)], ?_, fun i hi => ⟨rfl, trivial, rfl⟩⟩
    rw [← byteCells_flat]
    exact Src.ofString e.w (strT_spec ht) s
  · split at hs
    · rename_i g' b N sz' f' hR
      split at hs
      · rename_i hc
        obtain ⟨rfl, hn, rfl⟩ := hc
        simp only [Option.some.injEq, Prod.mk.injEq] at hs
        obtain ⟨rfl, rfl, rfl⟩ := hs
        obtain ⟨_, ad, c, hv, hc, hq⟩ := hv
        simp only [List.cons.injEq, and_true] at hv
        obtain ⟨rfl, _⟩ := hq _ _ (by rw [h.R]; exact hR)
        obtain ⟨C, T0, ds, r1, ⟨ps, hps, rfl⟩, r3⟩ := (h.root _ _ _ _ hR).2.row
        obtain rfl : T' = T := ht
        obtain rfl := hz _ rfl
        subst hv
        have h4 := fun i (hi : i < _) => hps i (Nat.lt_of_lt_of_le hi hn)
        have hat : At e.w b 0 (flat _ ps) := ⟨C, T0, _, r1, fun j u hj => by rw [Nat.zero_add]; exact r3 j u (flat_prefix hn hj)⟩
        exact ⟨ps, Src.ofSlice e.w hTs _ _ c _ (flat_len _ _ _ fun i hi => (h4 i hi).1) (at_cells hat) fun u hu => Leaf.oneCell (flat_mem_leaf h4 u hu), h4⟩
      · cases hs
    · cases hs
  · cases hs

theorem run_append_zero {P : Program} {w : World} (t tx ty e : TypeId) (i : TypeInfo) (ht : P.underlying t = some (.slice e)) (hi : P.info? e = some i) (base : Option Addr) (n c : Nat) {x : Value} {news : List Value} (hs : Src P i.size tx x 0 news w) (hnc : n ≤ c) :
    (Builtin.append_ #[t, tx] ty #[.slice base n c, x]).run P w = .ok (.slice base n c) w := by
  have hn : news = [] := List.eq_nil_of_length_eq_zero (by rw [hs.newsLen, Nat.zero_mul])
  subst hn
  have hc := hs.cells
  rcases hs.kind with ⟨e', hk⟩ | hk <;> cases base <;> simp [Builtin.append_, run_underlying ht, run_underlying hk, sizeOf, typeInfo, hi, hs.len, hnc, hc, storeCells]

theorem run_append_into {P : Program} (w : World) (t tx ty e T : TypeId) (i : TypeInfo) (ht : P.underlying t = some (.slice e)) (hi : P.info? e = some i)
    (g sLen sCap : Nat) (cur : Array Value) (hg : w.heap[g]? = some (.cells cur T (0, 0)))
    (x : Value) (m : Nat) (news : List Value) (hs : Src P i.size tx x m news w) (h1 : ∀ u ∈ news, Leaf u)
    (hroom : sLen + m ≤ sCap) (hfit : sLen * i.size + news.length ≤ cur.size) :
    (Builtin.append_ #[t, tx] ty #[.slice (some ⟨g, 0, none⟩) sLen sCap, x]).run P w =
      .ok (.slice (some ⟨g, 0, none⟩) (sLen + m) sCap) (World.putRow w g (sLen * i.size) news) := by
  have hst := run_storeCells P news w g (sLen * i.size) 0 cur T hg (by simpa using hfit) h1
  simp only [Nat.add_zero] at hst
  rcases hs.kind with ⟨e', hk⟩ | hk <;> simp [Builtin.append_, run_underlying ht, run_underlying hk, sizeOf, typeInfo, hi, hs.len, hroom, hs.cells, addr_add, hst]

theorem keep_new {w : World} (o : Obj) (S : Nat → Prop) : Keep w S (w.drew.alloc o) :=
  ⟨rfl, rfl, rfl, by simp, fun k hk _ => heap_alloc_old w.drew o k hk, fun k C T z hC => ⟨C, by
    have hlt : k < w.heap.size := by
      rcases Nat.lt_or_ge k w.heap.size with h | h
      · exact h
      · rw [Array.getElem?_eq_none h] at hC; cases hC
    rw [heap_alloc_old w.drew o k hlt]; exact hC, rfl⟩⟩
theorem keep_row {w : World} (b o : Nat) (vs : List Value) {C0 : Array Value} {T0 : TypeId} {z0 : Nat × Nat} (h0 : w.heap[b]? = some (Obj.cells C0 T0 z0)) (hc : o + vs.length ≤ C0.size) : Keep w (fun k => k = b) (World.putRow w b o vs) :=
  ⟨rfl, rfl, rfl, by simp, fun k _ hm => putRow_other _ _ _ _ _ hm, fun k C T z hC => by
    by_cases hkb : k = b
    · subst hkb
      rw [h0] at hC
      simp only [Option.some.injEq, Obj.cells.injEq] at hC
      obtain ⟨rfl, rfl, rfl⟩ := hC
      refine ⟨_, putRow_same vs h0, ?_⟩
      rw [List.size_toArray, splice_length (by simpa using hc)]
      simp
    · exact ⟨C, by rw [putRow_other _ _ _ _ _ hkb]; exact hC, rfl⟩⟩

section ops
variable {P : Program} {w0 : World} {M : Fr} {st : St} {e : Env} {a : Act} {K : St → Prop} {Q : Exit → Act → World → Prop}
variable {dst : Option Tmp} {ty : TypeId} {pos : String} {after : Array Edge} {gd : Option (Nat × Bool)}

theorem Rep_cat {e : Env} {n m sz : Nat} {f f' : Nat → D} {ps qs : Nat → List Value} (h1 : ∀ i, i < n → (ps i).length = sz ∧ Rep e (f i) (ps i)) (h2 : ∀ i, i < m → (qs i).length = sz ∧ Rep e (f' i) (qs i)) :
    Rep e (.node (.arr (n + m) sz) (catD n f f')) (flat n ps ++ flat m qs) := by
  refine ⟨fun i => if i < n then ps i else qs (i - n), fun i hi => ?_, (flat_add n m ps qs).symm⟩
  unfold catD
  have hi' : i < n + m := hi
  by_cases hn : i < n
  · simp only [if_pos hn]; exact h1 i hn
  · simp only [if_neg hn]; exact h2 (i - n) (by omega)

/-- what a head is -/
theorem headD_spec (h : Good w0 M st e a) {d : D} {v : Value} (hv : VRep e d v) {z n : Nat} {lo : Option Nat} {f : Nat → D} (hs : headD st.R z d = some (lo, n, f)) :
    (lo = none ∧ d = .nil ∧ n = 0 ∧ ∃ ad, v = .slice ad 0 0) ∨
    ∃ l g b d0 c C T ps, lo = some l ∧ st.R l = some (g, b, d0) ∧ v = .slice (some ⟨b, 0, none⟩) n c ∧ n ≤ c ∧ e.w.heap[b]? = some (.cells C T (0, 0)) ∧ c * z ≤ C.size ∧
      (∀ i, i < n → (ps i).length = z ∧ Rep e (f i) (ps i)) ∧ ∀ (j : Nat) (u : Value), (flat n ps)[j]? = some u → C[j]? = some u := by
  unfold headD at hs
  split at hs
  · simp only [Option.some.injEq, Prod.mk.injEq] at hs
    obtain ⟨rfl, rfl, rfl⟩ := hs
    obtain ⟨ad, hv⟩ := hv
    simp only [List.cons.injEq, and_true] at hv
    exact .inl ⟨rfl, rfl, rfl, ad, hv⟩
  · split at hs
    · rename_i g' b N sz' f' hR
      split at hs
      · rename_i hc
        obtain ⟨rfl, hn, rfl, rfl⟩ := hc
        simp only [Option.some.injEq, Prod.mk.injEq] at hs
        obtain ⟨rfl, rfl, rfl⟩ := hs
        obtain ⟨_, ad, c, hv, hc, hq⟩ := hv
        simp only [List.cons.injEq, and_true] at hv
        obtain ⟨rfl, C', T', z', hh, hcap⟩ := hq _ _ (by rw [h.R]; exact hR)
        obtain ⟨C, T, ds, r1, ⟨ps, hps, rfl⟩, r3⟩ := (h.root _ _ _ _ hR).2.row
        rw [r1] at hh
        simp only [Option.some.injEq, Obj.cells.injEq] at hh
        obtain ⟨rfl, rfl, rfl⟩ := hh
        exact .inr ⟨_, _, b, _, c, C, T, ps, rfl, hR, hv, hc, r1, by omega, fun i hi => hps i (Nat.lt_of_lt_of_le hi hn), fun j u hj => r3 j u (flat_prefix hn hj)⟩
      · cases hs
    · cases hs
  · cases hs

theorem exec_append (P : Program) (w w' : World) (ρ : Operand → Value) (s x : Operand) (T T' ty : TypeId) (pos : String) (after : Array Edge) (gd : Option (Nat × Bool)) {v : Value}
    (h : (Builtin.append_ #[T, T'] ty #[ρ s, ρ x]).run P w = .ok v w') :
    (execOp ρ (Oper.mk dst (.call { callee := .builtin .append, args := #[s, x], argTypes := #[T, T'] }) ty pos after gd)).run P w = .ok (.value v) w' := by
  simp only [execOp, resolve]
  rw [Sem.run_bind]
  show (Result.ok _ w).andThen _ = _
  rw [Result.andThen_ok]
  simp only [List.map_toArray, List.map_cons, List.map_nil]
  simp only [invoke, builtin]
  rw [Sem.run_bind, h]
  rfl

theorem op_append (h : Good w0 M st e a) (s x : Operand) (T T' : TypeId) {l : Nat} {E : TypeId} {z : D} {by_ n m : Nat} {lo : Option Nat} {f f' : Nat → D} {sz : Option Nat}
    (hT : telem P T = some E) (hz : ZeroOk P E z) (hby : tbytes P E = some by_) (hsz : tsz P E = some z.size)
    (hs : headD st.R z.size (st.ev s) = some (lo, n, f)) (hxt : srcT P T T' (st.ev x)) (hx : srcD st.R (st.ev x) = some (m, sz, f')) (hszm : ∀ y, sz = some y → y = z.size)
    (hb : (n + m) * by_ ≤ 140737488355328) (h63 : n + m ≤ 9223372036854775807) (hl : dst = some l) (hd : st.dstOk dst)
    (hK0 : lo = none → m = 0 → K (st.put (some l) .nil))
    (hK : (lo = none → 0 < m) → ∀ g b n', st.n ≤ n' → b < n' → (st.n ≤ b ∨ blkR st.R lo = some b) →
      K (({ N := st.N, n := n', s := st.s, R := upd st.R (lo.getD l) (some (g, b, .node (.arr (n + m) z.size) (catD n f f'))) } : St).put (some l) (.msl (lo.getD l) g 0 [] 0 (n + m) z.size))) :
    (Oper.mk dst (.call { callee := .builtin .append, args := #[s, x], argTypes := #[T, T'] }) ty pos after gd).wp P a e.w (Lift w0 M K) Q := by
  subst hl
  obtain ⟨hzp, i, zv, hi, hv, hz⟩ := hz
  have hzlen : zv.cells.toList.length = z.size := Rep_length hzp (VRep_cells hzp (hz e))
  have his : i.size = z.size := by unfold tsz at hsz; rw [hi] at hsz; simpa using hsz
  have hib : i.bytes = by_ := by unfold tbytes at hby; rw [hi] at hby; simpa using hby
  have hTs := telem_spec hT
  obtain ⟨qs, hsrc, hqs⟩ := srcD_spec h hT (h.ev x) hxt hx hszm
  rw [← his] at hsrc
  have hnl : (flat m qs).length = m * i.size := hsrc.newsLen
  have hdrop : ∀ l' y, dropL st.R lo l' = some y → st.R l' = some y := by
    intro l' y hy
    cases lo with
    | none => exact hy
    | some l0 =>
      by_cases hll : l' = l0
      · subst hll; simp only [dropL, upd_same] at hy; cases hy
      · simp only [dropL] at hy; rwa [upd_ne _ _ hll] at hy
  -- the end, from what the model's append does
  have finish : ∀ (S : Nat → Prop) (w' : World) (b' c' : Nat) (C : Array Value) (T1 : TypeId) (ds : List Value), (∀ l' g b d, dropL st.R lo l' = some (g, b, d) → ¬ S b) → (∀ b, S b → ¬ e.P b) → (∀ b, S b → w0.heap.size ≤ b ∨ M.m b) →
      Keep e.w S w' → (S b' ∨ e.w.heap.size ≤ b') → w'.heap[b']? = some (.cells C T1 (0, 0)) → (∀ e2 : Env, e.le e2 → e2.w = w' → Rep e2 (.node (.arr (n + m) z.size) (catD n f f')) ds) → (∀ (j : Nat) (v : Value), ds[j]? = some v → C[j]? = some v) →
      n + m ≤ c' → c' * z.size ≤ C.size → (lo = none → 0 < m) → (Builtin.append_ #[T, T'] ty #[a.eval s, a.eval x]).run P e.w = .ok (.slice (some ⟨b', 0, none⟩) (n + m) c') w' → (st.n ≤ b' ∨ blkR st.R lo = some b') →
      (Oper.mk (some l) (.call { callee := .builtin .append, args := #[s, x], argTypes := #[T, T'] }) ty pos after gd).wp P a e.w (Lift w0 M K) Q := by
    intro S w' b' c' C T1 ds h1 h2 h3 h4 h5 h6 h7 h8 h9 h10 h11 h12 h13
    obtain ⟨hle, hg⟩ := h.remade (d' := .node (.arr (n + m) z.size) (catD n f f')) (l' := lo.getD l) hdrop h1 h2 h3 h4 h5 trivial h6 h7 h8 (Nat.le_refl _)
    have hup : ∀ X, upd (dropL st.R lo) (lo.getD l) X = upd st.R (lo.getD l) X := by
      intro X
      cases lo with
      | none => rfl
      | some l0 =>
        funext k
        simp only [dropL, Option.getD_some, upd]
        split <;> rfl
    rw [hup] at hle hg
    refine wp_value (exec_append P e.w w' a.eval s x T T' ty pos after gd h12) ⟨_, hK h11 e.G b' w'.heap.size (Nat.le_trans h.n h4.size) (lt_of_block h6) h13, _, rfl, hg.put (by simpa [St.dstOk] using hd) ?_⟩
    refine ⟨Nat.lt_succ_self _, _, c', rfl, h9, fun b d hb' => ?_⟩
    have hb2 : upd st.R (lo.getD l) (some (e.G, b', .node (.arr (n + m) z.size) (catD n f f'))) (lo.getD l) = some (e.G, b, d) := hb'
    rw [upd_same] at hb2
    simp only [Option.some.injEq, Prod.mk.injEq] at hb2
    obtain ⟨_, rfl, _⟩ := hb2
    exact ⟨rfl, C, T1, _, h6, by omega⟩
  have h1z : zv.cells.size = z.size := by simpa using hzlen
  rcases headD_spec h (h.ev s) hs with ⟨rfl, hnil, rfl, ad1, hsv⟩ | ⟨l0, g0, b0, d0, c0, C, T0, ps, rfl, hR0, hsv, hc0, hb0, hcap, hps, hpre⟩
  · rcases Nat.eq_zero_or_pos m with rfl | hm
    · refine wp_value (exec_append P e.w e.w a.eval s x T T' ty pos after gd (v := .slice ad1 0 0) ?_) (h.lift hd (d := .nil) ⟨ad1, rfl⟩ (hK0 rfl rfl))
      rw [hsv]; exact run_append_zero T T' ty E i hTs hi ad1 0 0 hsrc (Nat.le_refl _)
    · have hge := grownCap_ge e.w (0 + m) 0 E
      have hfit : Builtin.nextslicecap (0 + m) 0 * i.bytes ≤ 281474976710656 := growslice_fits (by omega) (by rw [hib]; exact hb)
      have hold : (Builtin.firstCells i.size 0 (.slice ad1 0 0)).run P e.w.drew = .ok ([] : List Value).toArray e.w.drew := by
        cases ad1 with
        | none => exact run_firstCells_none _ _ _ _ _
        | some ad => exact run_firstCells_some _ _ _ ad 0 0 [] (by simp) (by simp)
      have hrun := run_append_grow_src (P := P) e.w T T' ty E i zv hTs hi hv ad1 0 0 [] hold (a.eval x) m (flat m qs) hsrc (by omega) (by omega) hfit
      rw [← hsv] at hrun
      refine finish (fun _ => False) _ e.w.heap.size (grownCap e.w (0 + m) 0 E) _ E (flat 0 (fun _ => []) ++ flat m qs) (fun _ _ _ _ _ h => h) (fun _ h => h.elim) (fun _ h => h.elim) (keep_new _ _) (.inr (Nat.le_refl _)) (heap_alloc_new e.w.drew _)
        (fun e2 hle he2 => Rep_cat (fun j hj => absurd hj (by omega)) (fun j hj => ⟨(hqs j hj).1, Rep_le hle (hqs j hj).2⟩)) (fun j v hj => ?_) hge ?_ (fun _ => hm) hrun (.inl h.n)
      · simp only [flat_zero, List.nil_append] at hj ⊢
        rw [Array.getElem?_append_left (by have := (List.getElem?_eq_some_iff.1 hj).1; simpa using this)]
        simpa using hj
      · have h2 := Nat.add_mul (0 + m) (grownCap e.w (0 + m) 0 E - (0 + m)) z.size
        rw [Nat.add_sub_cancel' hge] at h2
        simp only [Nat.zero_add] at h2 ⊢
        simp only [Array.size_append, List.size_toArray, size_zeroCells, List.nil_append, hnl, his, h1z]
        omega
  · have hnol : ∀ l' g b d, dropL st.R (some l0) l' = some (g, b, d) → ¬ (b = b0) := by
      rintro l' g b d hl' rfl
      have hne : l' ≠ l0 := by
        rintro rfl
        simp only [dropL, upd_same] at hl'
        cases hl'
      exact hne (h.inj _ _ _ _ _ _ _ (hdrop _ _ hl') hR0)
    have hnp : ∀ b, b = b0 → ¬ e.P b := by rintro b rfl; exact (h.envroot hR0).np
    have hown : ∀ b, b = b0 → w0.heap.size ≤ b ∨ M.m b := by rintro b rfl; exact h.own _ _ _ _ hR0
    have hol : (flat n ps).length = n * z.size := flat_len n _ ps fun j hj => (hps j hj).1
    have hrep : ∀ e2 : Env, e.le e2 → Rep e2 (.node (.arr (n + m) z.size) (catD n f f')) (flat n ps ++ flat m qs) := fun e2 hle =>
      Rep_cat (fun j hj => ⟨(hps j hj).1, Rep_le hle (hps j hj).2⟩) (fun j hj => ⟨(hqs j hj).1, Rep_le hle (hqs j hj).2⟩)
    rcases Nat.eq_zero_or_pos m with rfl | hm
    · refine finish (fun b => b = b0) e.w b0 c0 C T0 (flat n ps ++ flat 0 qs) hnol hnp hown ⟨rfl, rfl, rfl, Nat.le_refl _, fun _ _ _ => rfl, fun _ C _ _ h => ⟨C, h, rfl⟩⟩ (.inl rfl) hb0
        (fun e2 hle he2 => hrep e2 hle) (fun j v hj => hpre j v (by simpa using hj)) hc0 hcap (fun h => by cases h) ?_ (.inr (by simp [blkR, hR0]))
      rw [hsv]; exact run_append_zero T T' ty E i hTs hi _ n c0 hsrc hc0
    · rcases Nat.lt_or_ge c0 (n + m) with hg | hg
      · have hge := grownCap_ge e.w (n + m) c0 E
        have hfit : Builtin.nextslicecap (n + m) c0 * i.bytes ≤ 281474976710656 := growslice_fits hg (by rw [hib]; exact hb)
        have hat0 : At e.w.drew b0 0 (flat n ps) := ⟨C, T0, _, hb0, fun j v hj => by rw [Nat.zero_add]; exact hpre j v hj⟩
        have hold : (Builtin.firstCells i.size n (.slice (some ⟨b0, 0, none⟩) n c0)).run P e.w.drew = .ok (flat n ps).toArray e.w.drew :=
          run_firstCells_some _ _ _ _ n c0 _ (by rw [his]; exact hol) (at_cells hat0)
        have hrun := run_append_grow_src (P := P) e.w T T' ty E i zv hTs hi hv (some ⟨b0, 0, none⟩) n c0 (flat n ps) hold (a.eval x) m (flat m qs) hsrc hg (by omega) hfit
        rw [← hsv] at hrun
        refine finish (fun _ => False) _ e.w.heap.size (grownCap e.w (n + m) c0 E) _ E (flat n ps ++ flat m qs) (fun _ _ _ _ _ h => h) (fun _ h => h.elim) (fun _ h => h.elim) (keep_new _ _) (.inr (Nat.le_refl _)) (heap_alloc_new e.w.drew _)
          (fun e2 hle he2 => hrep e2 hle) (fun j v hj => ?_) hge ?_ (fun h => by cases h) hrun (.inl h.n)
        · rw [Array.getElem?_append_left (by have := (List.getElem?_eq_some_iff.1 hj).1; simpa using this)]
          simpa using hj
        · have h2 := Nat.add_mul (n + m) (grownCap e.w (n + m) c0 E - (n + m)) z.size
          rw [Nat.add_sub_cancel' hge] at h2
          have h3 := Nat.add_mul n m z.size
          simp only [Array.size_append, List.size_toArray, List.length_append, size_zeroCells, hnl, hol, his, h1z]
          omega
      · have hle1 : (n + m) * z.size ≤ c0 * z.size := Nat.mul_le_mul_right _ hg
        have h3 := Nat.add_mul n m z.size
        have hfit : n * i.size + (flat m qs).length ≤ C.size := by rw [hnl, his]; omega
        have hrun := run_append_into (P := P) e.w T T' ty E T0 i hTs hi b0 n c0 C hb0 (a.eval x) m (flat m qs) hsrc (flat_mem_leaf hqs) hg hfit
        rw [← hsv, his] at hrun
        rw [his] at hfit hnl
        refine finish (fun b => b = b0) _ b0 c0 _ T0 (flat n ps ++ flat m qs) hnol hnp hown (keep_row _ _ _ hb0 hfit) (.inl rfl) (putRow_same _ hb0) (fun e2 hle he2 => hrep e2 hle) (fun j v hj => ?_) hg ?_ (fun h => by cases h) hrun (.inr (by simp [blkR, hR0]))
        · simp only [List.getElem?_toArray]
          rw [splice_get (by simpa using hfit)]
          rcases Nat.lt_or_ge j (n * z.size) with hj1 | hj1
          · rw [if_neg (by omega), Array.getElem?_toList]
            rw [List.getElem?_append_left (by omega)] at hj
            exact hpre j v hj
          · rw [List.getElem?_append_right (by omega), hol] at hj
            have := (List.getElem?_eq_some_iff.1 hj).1
            rw [if_pos ⟨hj1, by omega⟩]
            exact hj
        · simp only [List.size_toArray]
          rw [splice_length (by simpa using hfit)]
          simpa using hcap

end ops
end Go.Proofs.Ytjaddgkhlmallaa.IM
