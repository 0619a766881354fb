/- Struct and slice literals, made slices, over abstract states. Nothing of a program is in it. -/
import Derived.Test.YtjaddgkhlmallaaIm6
import Derived.Laws.Tables
import Derived.Laws.AppendOwn
import Derived.Laws.OwnMore
import Derived.Laws.MakeOwn
import Derived.Laws.Slices
namespace Go.Proofs.Ytjaddgkhlmallaa.IM
open Go Go.RowKit
set_option linter.unusedVariables false

theorem fold_set : ∀ (vs : List Value) (off : Nat) (cs : Array Value), off + vs.length ≤ cs.size →
    ∀ j0, ((vs.zipIdx j0).foldl (fun (cs : Array Value) (x : Value × Nat) => cs.setIfInBounds (off - j0 + x.2) x.1) cs).toList = if j0 ≤ off then splice cs.toList off vs else ((vs.zipIdx j0).foldl (fun (cs : Array Value) (x : Value × Nat) => cs.setIfInBounds (off - j0 + x.2) x.1) cs).toList := by
  intro vs
  induction vs with
  | nil => intro off cs h j0; split <;> simp [splice]
  | cons v vs ih =>
    intro off cs h j0
    split
    · rename_i hj
      simp only [List.zipIdx_cons, List.foldl_cons]
      have h1 : off - j0 + j0 = off := by omega
      rw [h1]
      have h2 := ih (off + 1) (cs.setIfInBounds off v) (by simp at h ⊢; omega) (j0 + 1)
      rw [if_pos (by omega)] at h2
      have h3 : off + 1 - (j0 + 1) = off - j0 := by omega
      rw [h3] at h2
      rw [h2]
      apply List.ext_getElem?
      intro k
      simp only [List.length_cons] at h
      rw [splice_get (by simp; omega), splice_get (by simp; omega)]
      simp only [Array.toList_setIfInBounds, List.getElem?_set, List.length_cons, Array.length_toList]
      by_cases h5 : off = k
      · subst h5
        rw [if_neg (by omega), if_pos rfl, if_pos (by omega), if_pos (by omega)]
        simp
      · by_cases h6 : off + 1 ≤ k ∧ k < off + 1 + vs.length
        · rw [if_pos h6, if_pos (by omega)]
          have : k - off = (k - (off + 1)) + 1 := by omega
          rw [this]; simp
        · rw [if_neg h6, if_neg h5, if_neg (by omega)]
    · rfl

theorem fold_cells (v : Value) (off : Nat) (cs : Array Value) (h : off + v.cells.size ≤ cs.size) :
    (v.cells.zipIdx.foldl (fun (cs : Array Value) (x : Value × Nat) => cs.setIfInBounds (off + x.2) x.1) cs).toList = splice cs.toList off v.cells.toList := by
  have h1 := fold_set v.cells.toList off cs (by simpa using h) 0
  rw [if_pos (Nat.zero_le _)] at h1
  rw [← h1, ← Array.foldl_toList]
  simp

/-- a literal's parts, one behind the other -/
def buildD (pl : Nat → Option (Nat × Nat)) (ev : Operand → D) : D → List (Nat × Operand) → (D → Prop) → Prop
  | d, [], k => k d
  | d, (i, x) :: rest, k => i < d.kd.cnt ∧ pl i = some (d.kd.off i, (ev x).size) ∧ (d.chd i).plain ∧ (d.chd i).size = (ev x).size ∧ (ev x).plain ∧ buildD pl ev (d.set [i] (ev x)) rest k

theorem run_fill {e : Env} {st : St} {w0 : World} {M : Fr} {a : Act} (h : Good w0 M st e a) (pl : Nat → Option (Nat × Nat)) (k : D → Prop) : ∀ (parts : List (Nat × Operand)) (d : D) (cells : Array Value), Rep e d cells.toList →
    buildD pl st.ev d parts k → ∃ d' cells', Instr.fill pl cells (parts.map fun x => (x.1, a.eval x.2)) = some cells' ∧ Rep e d' cells'.toList ∧ cells'.size = cells.size ∧ k d' := by
  intro parts
  induction parts with
  | nil => intro d cells hr hb; exact ⟨d, cells, rfl, hr, rfl, hb⟩
  | cons p parts ih =>
    obtain ⟨i, x⟩ := p
    intro d cells hr hb
    obtain ⟨h1, h2, h3, h4, h5, h6⟩ := hb
    have hv := VRep_cells h5 (h.ev x)
    have hsz : (a.eval x).cells.toList.length = (st.ev x).size := Rep_length h5 hv
    have hset := Rep_set hv [i] d cells.toList hr ⟨h1, trivial⟩ h3 (by rw [hsz]; exact h4.symm)
    have hoff : d.offOf [i] = d.kd.off i := by simp [D.offOf]
    rw [hoff] at hset
    simp only [Array.length_toList] at hset hsz
    obtain ⟨d', cells', q1, q2, q3, q4⟩ := ih (d.set [i] (st.ev x)) ((a.eval x).cells.zipIdx.foldl (fun (cs : Array Value) (y : Value × Nat) => cs.setIfInBounds (d.kd.off i + y.2) y.1) cells)
      (by rw [fold_cells _ _ _ hset.1]; exact hset.2) h6
    refine ⟨d', cells', ?_, q2, ?_, q4⟩
    · simp only [List.map_cons, Instr.fill, h2]
      rw [if_neg]
      · exact q1
      · simp only [hsz, ne_eq, not_true_eq_false, decide_false, Bool.false_or, decide_eq_true_eq]; omega
    · rw [q3]
      have := congrArg List.length (fold_cells (a.eval x) (d.kd.off i) cells hset.1)
      rw [splice_length (by simpa using hset.1)] at this
      simpa using this

/-- where a struct's fields lie -/
def tplaces (P : Program) (T : TypeId) : Option (List (Nat × Nat)) := (P.underlying T).bind fun | .struct fs => fs.toList.mapM (fun f => (P.info? f.type).map fun i => (f.offset, i.size)) | _ => none

section ops
variable {P : Program} {w0 : World} {M : Fr} {st : St} {e : Env} {a : Act} {K : St → Prop} {Q : Exit → Act → World → Prop}
variable {dst : Option Tmp} {ty : TypeId} {pos : String} {after : Array Edge} {gd : Option (Nat × Bool)}

theorem op_build (h : Good w0 M st e a) (T : TypeId) (parts : Array (Nat × Operand)) {pl : List (Nat × Nat)} {z : D} (hp : tplaces P T = some pl) (hz : ZeroOk P T z) (hd : st.dstOk dst)
    (hb : buildD (fun i => pl[i]?) st.ev z parts.toList fun d => d.isNode = some true ∧ K (st.put dst d)) :
    (Oper.mk dst (.build T parts) ty pos after gd).wp P a e.w (Lift w0 M K) Q := by
  obtain ⟨hzp, i, v, hi, hv, hz⟩ := hz
  obtain ⟨d', cells', q1, q2, q3, q4, q5⟩ := run_fill h (fun i => pl[i]?) _ parts.toList z v.cells (VRep_cells hzp (hz e)) hb
  have hbuilt : P.built T (parts.map fun (i, x) => (i, a.eval x)).toList = some cells' := by
    unfold tplaces at hp
    cases hu : P.underlying T with
    | none => rw [hu] at hp; cases hp
    | some d =>
      rw [hu] at hp
      cases d with
      | struct fs =>
        simp only [Option.bind_some] at hp
        unfold Program.built
        simp only [hi, hu, hv, hp]
        simpa using q1
      | _ => cases hp
  refine wp_value (v := .agg cells') (w' := e.w) ?_ (h.lift hd ?_ q5)
  · simp only [execOp]
    have hr : (Instr.build T (parts.map fun x => (x.1, a.eval x.2))).run P e.w = .ok (.agg cells') e.w := run_build e.w T _ _ hbuilt
    rw [Sem.run_bind, hr]
    rfl
  · cases d' with
    | node k f => exact ⟨cells', rfl, q2⟩
    | tup n f => cases q4
    | any => cases q4
    | _ => cases q4

theorem telem_spec {T E : TypeId} (h : telem P T = some E) : P.underlying T = some (.slice E) := by
  unfold telem at h
  cases hu : P.underlying T with
  | none => rw [hu] at h; cases h
  | some d => rw [hu] at h; cases d <;> simp at h; subst h; rfl

theorem run_equal_nil {T E : TypeId} {w : World} (hu : P.underlying T = some (.slice E)) (a : Option Addr) (n c : Nat) : (Op.equal T (.slice a n c) (.slice none 0 0)).run P w = .ok a.isNone w := by
  show (Op.equalIn 10000 T _ _).run P w = _
  unfold Op.equalIn
  rw [Sem.run_bind, run_underlying hu, Result.andThen_ok]
  cases a <;> rfl

/-- what a slice is, set beside nil: none for a slice without room, of which it is not known -/
def nilD : D → Option (Option Bool)
  | .nil => some none
  | .sl _ _ _ _ _ => some (some false)
  | .msl _ _ _ _ _ _ _ => some (some false)
  | _ => none

theorem op_eqNil (h : Good w0 M st e a) (T T2 : TypeId) {E : TypeId} (x : Operand) (neg : Bool) {r : Option Bool} (hT : telem P T = some E) (hx : nilD (st.ev x) = some r) (hd : st.dstOk dst)
    (hK : ∀ b : Bool, (r = none ∨ r = some b) → K (st.put dst (.lit (.bool (b != neg))))) :
    (Oper.mk dst (.binOp (if neg then .neq else .eql) T x (.const (.slice none 0 0)) T2) ty pos after gd).wp P a e.w (Lift w0 M K) Q := by
  have hv := h.ev x
  have hs : ∃ ad n c, a.eval x = .slice ad n c ∧ (r = none ∨ r = some ad.isNone) := by
    revert hv hx
    generalize st.ev x = d
    intro hx hv
    cases d with
    | nil =>
      simp only [nilD, Option.some.injEq] at hx
      obtain ⟨ad, hv⟩ := hv
      simp only [List.cons.injEq, and_true] at hv
      exact ⟨ad, 0, 0, hv, .inl hx.symm⟩
    | sl t zb n sz f =>
      simp only [nilD, Option.some.injEq] at hx
      obtain ⟨o, c, ps, hv, _⟩ := hv
      simp only [List.cons.injEq, and_true] at hv
      exact ⟨_, n, c, hv, .inr hx.symm⟩
    | msl l g o p i n sz =>
      simp only [nilD, Option.some.injEq] at hx
      obtain ⟨_, ad, c, hv, _⟩ := hv
      simp only [List.cons.injEq, and_true] at hv
      exact ⟨_, n, c, hv, .inr hx.symm⟩
    | _ => cases hx
  obtain ⟨ad, n, c, hxv, hr⟩ := hs
  have hrun := run_equal_nil (w := e.w) (telem_spec hT) ad n c
  have hK := hK ad.isNone hr
  have hr : (do eqGuard (if neg then .neq else .eql) T x (.const (.slice none 0 0)) (.slice ad n c) (.slice none 0 0); binOp (if neg then .neq else .eql) T (.slice ad n c) (.slice none 0 0) : Sem Value).run P e.w = .ok (.bool (ad.isNone != neg)) e.w := by
    cases neg with
    | false =>
      simp only [eqGuard, binOp, Bool.false_eq_true, if_false]
      rw [Sem.run_bind]
      show (Result.ok () e.w).andThen _ = _
      rw [Result.andThen_ok, Sem.run_bind, hrun, Result.andThen_ok]
      simp
    | true =>
      simp only [eqGuard, binOp, if_true]
      rw [Sem.run_bind]
      show (Result.ok () e.w).andThen _ = _
      rw [Result.andThen_ok, Sem.run_bind, hrun, Result.andThen_ok]
      simp
  refine wp_value (v := .bool (ad.isNone != neg)) (w' := e.w) ?_ (h.lift hd (VRep_mk (v := .bool _) trivial) hK)
  simp only [execOp]
  rw [hxv, Sem.run_bind]
  exact (congrArg (fun r => Result.andThen r _) hr).trans rfl

theorem flat_const (n : Nat) (zs : List Value) (j : Nat) (v : Value) (h : (flat n fun _ => zs)[j]? = some v) : j < n * zs.length ∧ zs[j % zs.length]? = some v := by
  induction n generalizing v with
  | zero => simp at h
  | succ n ih =>
    have hl : (flat n fun _ => zs).length = n * zs.length := by
      clear ih h
      induction n with
      | zero => simp
      | succ n ih => rw [flat_succ, List.length_append, ih, Nat.succ_mul]
    rw [flat_succ] at h
    rcases Nat.lt_or_ge j (n * zs.length) with h1 | h1
    · rw [List.getElem?_append_left (by omega)] at h
      obtain ⟨q1, q2⟩ := ih _ h
      exact ⟨by rw [Nat.succ_mul]; omega, q2⟩
    · rw [List.getElem?_append_right (by omega), hl] at h
      have hlt := (List.getElem?_eq_some_iff.1 h).1
      refine ⟨by rw [Nat.succ_mul]; omega, ?_⟩
      have : j = (j - n * zs.length) + zs.length * n := by have := Nat.mul_comm zs.length n; omega
      rw [this, Nat.add_mul_mod_self_left, Nat.mod_eq_of_lt hlt]
      exact h

theorem op_makeSlice (h : Good w0 M st e a) (T : TypeId) (x y : Operand) {l : Nat} {E : TypeId} {z : D} {k k' : IntKind} {n c : Int} {by_ : Nat} (hT : telem P T = some E) (hz : ZeroOk P E z) (hby : tbytes P E = some by_) (hsz : tsz P E = some z.size)
    (hx : st.ev x = .lit (.int k n)) (hy : st.ev y = .lit (.int k' c)) (h0 : 0 ≤ n) (hnc : n ≤ c) (hb : (by_ : Int) * c ≤ 281474976710656) (h63 : c ≤ 9223372036854775807) (hl : dst = some l) (hd : st.dstOk dst)
    (hK : ∀ g b, st.n ≤ b → K ((st.new l g b (.node (.arr n.toNat z.size) fun _ => z)).put (some l) (.msl l g 0 [] 0 n.toNat z.size))) :
    (Oper.mk dst (.makeSlice T x y) ty pos after gd).wp P a e.w (Lift w0 M K) Q := by
  subst hl
  obtain ⟨hzp, i, v, hi, hv, hz⟩ := hz
  have hr := VRep_cells hzp (hz e)
  have hlen : v.cells.toList.length = z.size := Rep_length hzp hr
  have hxv := (VRep_lit (by have := h.ev x; rw [hx] at this; exact this)).1
  have hyv := (VRep_lit (by have := h.ev y; rw [hy] at this; exact this)).1
  have his : i.size = z.size := by unfold tsz at hsz; rw [hi] at hsz; simpa using hsz
  have hib : i.bytes = by_ := by unfold tbytes at hby; rw [hi] at hby; simpa using hby
  have hrun := run_make (P := P) e.w T E i v (telem_spec hT) hi hv k k' n c h0 hnc (by rw [hib]; exact hb) h63
  have hgood := h.newRootC (d := .node (.arr n.toNat z.size) fun _ => z) (cs := madeCells v.cells (c.toNat * i.size)) (ds := flat n.toNat fun _ => v.cells.toList) l E trivial
    ⟨fun _ => v.cells.toList, fun j hj => ⟨hlen, hr⟩, rfl⟩ (fun j u hj => by
      obtain ⟨q1, q2⟩ := flat_const _ _ _ _ hj
      rw [hlen] at q1 q2
      have hle : n.toNat * z.size ≤ c.toNat * z.size := Nat.mul_le_mul_right _ (by omega)
      have hzs : v.cells.size = z.size := by simpa using hlen
      have hmod := (List.getElem?_eq_some_iff.1 q2)
      obtain ⟨q3, q4⟩ := hmod
      simp only [madeCells, his, Array.getElem?_map, hzs]
      rw [Array.getElem?_eq_getElem (by simp; omega)]
      simp only [Array.getElem_range, Option.map_some, Option.some.injEq]
      rw [getElem!_pos v.cells (j % z.size) (by simpa using q3)]
      simpa using q4)
  refine wp_value (v := .slice (some ⟨e.w.heap.size, 0, none⟩) n.toNat c.toNat) (w' := e.w.alloc (.cells (madeCells v.cells (c.toNat * i.size)) E (0, 0))) ?_ ⟨_, hK e.G e.w.heap.size h.n, _, rfl, hgood.put (by simpa [St.dstOk, St.new] using hd) ?_⟩
  · simp only [execOp]
    rw [hxv, hyv, Sem.run_bind, hrun]
    rfl
  · refine ⟨Nat.lt_succ_self _, _, c.toNat, rfl, by omega, fun b d hb => ?_⟩
    have hb' : upd st.R l (some (e.G, e.w.heap.size, .node (.arr n.toNat z.size) fun _ => z)) l = some (e.G, b, d) := hb
    rw [upd_same] at hb'
    simp only [Option.some.injEq, Prod.mk.injEq] at hb'
    obtain ⟨_, rfl, _⟩ := hb'
    refine ⟨rfl, _, E, _, heap_alloc_new _ _, ?_⟩
    rw [size_madeCells, his]; omega

theorem made_flat (zs : Array Value) (n : Nat) : (madeCells zs (n * zs.size)).toList = flat n fun _ => zs.toList := by
  have hl : (flat n fun _ => zs.toList).length = n * zs.size := by
    induction n with
    | zero => simp
    | succ n ih => rw [flat_succ, List.length_append, ih, Nat.succ_mul]; simp
  apply List.ext_getElem?
  intro j
  rcases Nat.lt_or_ge j (n * zs.size) with hj | hj
  · have hj' : j < (flat n fun _ => zs.toList).length := by omega
    obtain ⟨q1, q2⟩ := flat_const n zs.toList j _ (List.getElem?_eq_getElem hj')
    rw [List.getElem?_eq_getElem hj', ← q2]
    simp only [Array.length_toList, Array.getElem?_toList] at q2 ⊢
    simp only [madeCells, Array.getElem?_map]
    rw [Array.getElem?_eq_getElem (by simpa using hj)]
    have q3 := (Array.getElem?_eq_some_iff.1 q2).1
    simp only [Array.getElem_range, Option.map_some]
    rw [getElem!_pos zs (j % zs.size) q3, Array.getElem?_eq_getElem q3]
  · rw [List.getElem?_eq_none (by rw [Array.length_toList, size_madeCells]; exact hj), List.getElem?_eq_none (by omega)]

theorem op_buildSlice (h : Good w0 M st e a) (T : TypeId) (len : Nat) (parts : Array (Nat × Operand)) {l : Nat} {E : TypeId} {z : D} (hT : telem P T = some E) (hz : ZeroOk P E z) (hsz : tsz P E = some z.size)
    (hlim : len * z.size ≤ 16777216) (hl : dst = some l) (hd : st.dstOk dst)
    (hb : buildD (fun i => some (i * z.size, z.size)) st.ev (.node (.arr len z.size) fun _ => z) parts.toList fun d => d.plain ∧ ∀ g b, st.n ≤ b → K ((st.new l g b d).put (some l) (.msl l g 0 [] 0 len z.size))) :
    (Oper.mk dst (.buildSlice T len parts) ty pos after gd).wp P a e.w (Lift w0 M K) Q := by
  subst hl
  obtain ⟨hzp, i, v, hi, hv, hz⟩ := hz
  have hr := VRep_cells hzp (hz e)
  have hlen : v.cells.toList.length = z.size := Rep_length hzp hr
  have his : i.size = z.size := by unfold tsz at hsz; rw [hi] at hsz; simpa using hsz
  have hzs : v.cells.size = z.size := by simpa using hlen
  have h0 : Rep e (.node (.arr len z.size) fun _ => z) (madeCells v.cells (len * z.size)).toList := by
    rw [← hzs, made_flat, hzs]
    exact ⟨fun _ => v.cells.toList, fun j hj => ⟨hlen, hr⟩, rfl⟩
  obtain ⟨d', cells', q1, q2, q3, q4, q5⟩ := run_fill h (fun i => some (i * z.size, z.size)) _ parts.toList _ _ h0 hb
  rw [size_madeCells] at q3
  have hgood := h.newRoot (d := d') (cs := cells') l E q4 q2
  refine wp_value (v := .slice (some ⟨e.w.heap.size, 0, none⟩) len len) (w' := e.w.alloc (.cells cells' E (0, 0))) ?_ ⟨_, q5 e.G e.w.heap.size h.n, _, rfl, hgood.put (by simpa [St.dstOk, St.new] using hd) ?_⟩
  · have hrun : (Instr.buildSlice T len (parts.map fun x => (x.1, a.eval x.2))).run P e.w = .ok (.slice (some ⟨e.w.heap.size, 0, none⟩) len len) (e.w.alloc (.cells cells' E (0, 0))) := by
      have hnl : ¬ (16777216 < len * z.size) := by omega
      have hq1 : Instr.fill (fun i => some (i * z.size, z.size)) (madeCells v.cells (len * z.size)) (parts.map fun x => (x.1, a.eval x.2)).toList = some cells' := by simpa using q1
      unfold madeCells at hq1
      by_cases hn : len * z.size = 0
      · simp [Instr.buildSlice, run_underlying (telem_spec hT), sizeOf, typeInfo, hi, his, hn, newRow] at hq1 ⊢
        rw [Array.range_zero'] at hq1 ⊢
        simp at hq1
        simp [hq1]
      · simp [Instr.buildSlice, run_underlying (telem_spec hT), sizeOf, typeInfo, zeroValue, hi, hv, his, hn, hnl, newRow] at hq1 ⊢
        simp [hq1]
    simp only [execOp]
    rw [Sem.run_bind, hrun]
    rfl
  · refine ⟨Nat.lt_succ_self _, _, len, rfl, Nat.le_refl _, fun b d hb => ?_⟩
    have hb' : upd st.R l (some (e.G, e.w.heap.size, d')) l = some (e.G, b, d) := hb
    rw [upd_same] at hb'
    simp only [Option.some.injEq, Prod.mk.injEq] at hb'
    obtain ⟨_, rfl, _⟩ := hb'
    refine ⟨rfl, _, E, _, heap_alloc_new _ _, ?_⟩
    rw [q3]; omega

end ops
end Go.Proofs.Ytjaddgkhlmallaa.IM
