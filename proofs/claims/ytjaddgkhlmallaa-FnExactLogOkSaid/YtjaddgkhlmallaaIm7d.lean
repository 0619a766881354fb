/- Slicings, a string's letters, min and max, appending a string, over abstract states. Nothing of a program is in it. -/
import Derived.Test.YtjaddgkhlmallaaIm7c
import Derived.Lib.AppendStr
import Derived.Laws.BytesString
namespace Go.Proofs.Ytjaddgkhlmallaa.IM
open Go Go.RowKit
set_option linter.unusedVariables false

def intD : D → Option Int
  | .lit (.int _ i) => some i
  | _ => none
theorem intD_spec {d : D} {i : Int} (h : intD d = some i) : ∃ k, d = .lit (.int k i) := by
  unfold intD at h
  split at h
  · simp only [Option.some.injEq] at h; subst h; exact ⟨_, rfl⟩
  · cases h
def lowI : Option D → Option Int
  | none => some 0
  | some d => intD d
def highI (n : Nat) : Option D → Option Int
  | none => some n
  | some d => intD d

theorem flat_cut {n i m sz : Nat} {ps : Nat → List Value} (hlen : ∀ q, q < n → (ps q).length = sz) (him : i + m ≤ n) {j : Nat} {v : Value} (hj : (flat m fun q => ps (i + q))[j]? = some v) : (flat n ps)[i * sz + j]? = some v := by
  refine flat_prefix him ?_
  have h1 := flat_add i m ps (fun q => ps (i + q))
  have h2 : flat (i + m) ps = flat (i + m) (fun q => if q < i then ps q else ps (i + (q - i))) := flat_congr fun q _ => by
    by_cases hq : q < i
    · rw [if_pos hq]
    · rw [if_neg hq]; congr 1; omega
  rw [h2, h1, List.getElem?_append_right (by rw [flat_len i sz ps fun q hq => hlen q (by omega)]; omega), flat_len i sz ps fun q hq => hlen q (by omega)]
  rw [Nat.add_sub_cancel_left]; exact hj

section ops
variable {P : Program} {w0 : World} {M : Fr} {st : St} {e : Env} {a : Act} {K : St → Prop} {Q : Exit → Act → World → Prop}
variable {dst : Option Tmp} {ty : TypeId} {pos : String} {after : Array Edge} {gd : Option (Nat × Bool)}

theorem Good.evInt (h : Good w0 M st e a) {x : Operand} {i : Int} (hx : intD (st.ev x) = some i) : ∃ k, a.eval x = .int k i := by
  obtain ⟨k, hk⟩ := intD_spec hx
  have := h.ev x
  rw [hk] at this
  exact ⟨k, (VRep_lit this).1⟩

theorem run_bounds (h : Good w0 M st e a) (b : Bool) {len cap : Nat} {lo hi : Option Operand} {i j : Int} (hl : lowI (lo.map st.ev) = some i) (hh : highI len (hi.map st.ev) = some j) (h0 : 0 ≤ i) (h1 : i ≤ j) (h2 : j ≤ cap) :
    (Instr.sliceBounds b len cap (lo.map a.eval) (hi.map a.eval) none).run P e.w = .ok (i.toNat, j.toNat, cap) e.w := by
  have hj : ((j.toNat : Nat) : Int) = j := by omega
  have hlo : ∀ (c : BoundsCode), lo = none ∧ i = 0 ∨ ∃ x v, lo = some x ∧ a.eval x = v ∧ (Instr.sliceBound v j.toNat c).run P e.w = .ok i.toNat e.w := by
    intro c
    cases lo with
    | none => simp only [Option.map_none, lowI, Option.some.injEq] at hl; exact .inl ⟨rfl, hl.symm⟩
    | some x =>
      obtain ⟨k, hk⟩ := h.evInt (x := x) hl
      exact .inr ⟨x, _, rfl, hk, run_sliceBound e.w k i j.toNat c h0 (by omega)⟩
  have hhi : ∀ (c : BoundsCode), hi = none ∧ j = len ∨ ∃ x v, hi = some x ∧ a.eval x = v ∧ (Instr.sliceBound v cap c).run P e.w = .ok j.toNat e.w := by
    intro c
    cases hi with
    | none => simp only [Option.map_none, highI, Option.some.injEq] at hh; exact .inl ⟨rfl, hh.symm⟩
    | some x =>
      obtain ⟨k, hk⟩ := h.evInt (x := x) hh
      exact .inr ⟨x, _, rfl, hk, run_sliceBound e.w k j cap c (by omega) h2⟩
  unfold Instr.sliceBounds
  rcases hhi (if b then .sliceAcap else .sliceAlen) with ⟨rfl, hj0⟩ | ⟨x, v, rfl, rfl, hx⟩ <;> rcases hlo .sliceB with ⟨rfl, rfl⟩ | ⟨y, u, rfl, rfl, hy⟩
  · have : len = j.toNat := by omega
    subst this
    simp
  · have : len = j.toNat := by omega
    subst this
    simp [hy]
  · simp [hx]
  · simp [hx, hy]

theorem run_bounds3 (h : Good w0 M st e a) {len cap : Nat} {lo : Option Operand} {hx mx : Operand} {i : Int} (hl : lowI (lo.map st.ev) = some i) (hh : intD (st.ev hx) = some i) (hm : intD (st.ev mx) = some i) (h0 : 0 ≤ i) (h2 : i ≤ cap) :
    (Instr.sliceBounds true len cap (lo.map a.eval) (some (a.eval hx)) (some (a.eval mx))).run P e.w = .ok (i.toNat, i.toNat, i.toNat) e.w := by
  have hj : ((i.toNat : Nat) : Int) = i := by omega
  obtain ⟨k1, e1⟩ := h.evInt hh
  obtain ⟨k2, e2⟩ := h.evInt hm
  have r2 : (Instr.sliceBound (.int k2 i) cap .slice3Acap).run P e.w = .ok i.toNat e.w := run_sliceBound e.w k2 i cap _ h0 h2
  have r1 : (Instr.sliceBound (.int k1 i) i.toNat .slice3B).run P e.w = .ok i.toNat e.w := run_sliceBound e.w k1 i _ _ h0 (by omega)
  unfold Instr.sliceBounds
  rw [e1, e2]
  cases lo with
  | none =>
    simp only [Option.map_none, lowI, Option.some.injEq] at hl
    subst hl
    simp at r1 r2
    simp [r1, r2]
  | some y =>
    obtain ⟨k3, e3⟩ := h.evInt (x := y) hl
    have r3 : (Instr.sliceBound (.int k3 i) i.toNat .slice3C).run P e.w = .ok i.toNat e.w := run_sliceBound e.w k3 i _ _ h0 (by omega)
    simp [e3, r1, r2, r3]

theorem exec_slice (P : Program) (w : World) (ρ : Operand → Value) (T : TypeId) (x : Operand) (lo hi mx : Option Operand) {v : Value}
    (h : (Instr.sliceAt T (ρ x) (lo.map ρ) (hi.map ρ) (mx.map ρ)).run P w = .ok v w) : (execOp ρ (Oper.mk dst (.slice T x lo hi mx) ty pos after gd)).run P w = .ok (.value v) w := by
  simp only [execOp]
  rw [Sem.run_bind, h]
  rfl

theorem run_sliceAt_sl {T E : TypeId} {w : World} {sz : Nat} (hT : telem P T = some E) (hs : tsz P E = some sz) (ad : Option Addr) (n c : Nat) (lo hi mx : Option Value) {i j m : Nat} (hb : (Instr.sliceBounds true n c lo hi mx).run P w = .ok (i, j, m) w) :
    (Instr.sliceAt T (.slice ad n c) lo hi mx).run P w = .ok (.slice (if m = i then ad else ad.map (·.add (i * sz))) (j - i) (m - i)) w := by
  simp [Instr.sliceAt, Instr.slice, run_underlying (telem_spec hT), hb, run_sizeOf hs]

theorem op_slice_sl (h : Good w0 M st e a) (T : TypeId) (x : Operand) (lo hi : Option Operand) {t n sz : Nat} {zb : Bool} {f : Nat → D} {E : TypeId} {i j : Int} (hx : st.ev x = .sl t zb n sz f) (hT : telem P T = some E) (hs : tsz P E = some sz)
    (hl : lowI (lo.map st.ev) = some i) (hh : highI n (hi.map st.ev) = some j) (h0 : 0 ≤ i) (h1 : i ≤ j) (h2 : j ≤ n) (hd : st.dstOk dst) (hK : K (st.put dst (.sl t (zb && i == 0) (j - i).toNat sz fun q => f (i.toNat + q)))) :
    (Oper.mk dst (.slice T x lo hi none) ty pos after gd).wp P a e.w (Lift w0 M K) Q := by
  have hv := h.ev x; rw [hx] at hv
  obtain ⟨o, c, ps, hxv, hc, hP, hps, hat, hwh⟩ := hv
  simp at hxv
  have hrun := run_sliceAt_sl (w := e.w) hT hs (some ⟨t, o, none⟩) n c _ _ _ (run_bounds h true hl hh h0 h1 (by omega : j ≤ (c : Int)))
  refine wp_value (exec_slice P e.w a.eval T x lo hi none (by rw [hxv]; exact hrun)) (h.lift hd ?_ hK)
  have hn : j.toNat - i.toNat = (j - i).toNat := by omega
  by_cases hci : c = i.toNat
  · refine ⟨o, 0, fun q => ps (i.toNat + q), ?_, by omega, hP, fun q hq => hps _ (by omega), ?_, fun hz => ?_⟩
    · rw [if_pos hci, hn]; congr 2; omega
    rotate_left
    · simp only [Bool.and_eq_true, beq_iff_eq] at hz
      obtain ⟨h1, C, T', h2, h3⟩ := hwh hz.1
      exact ⟨h1, C, T', h2, by omega⟩
    · obtain ⟨C, T', z, r1, _⟩ := hat
      refine ⟨C, T', z, r1, fun q v hq => ?_⟩
      have : (j - i).toNat = 0 := by omega
      rw [this] at hq; simp at hq
  · refine ⟨o + i.toNat * sz, c - i.toNat, fun q => ps (i.toNat + q), ?_, by omega, hP, fun q hq => hps _ (by omega), ?_, fun hz => ?_⟩
    rotate_left 2
    · simp only [Bool.and_eq_true, beq_iff_eq] at hz
      obtain ⟨hz1, rfl⟩ := hz
      obtain ⟨h1, C, T', h2, h3⟩ := hwh hz1
      exact ⟨by simpa using h1, C, T', h2, by simpa using h3⟩
    · rw [if_neg hci, hn, Option.map_some, addr_add]
    · obtain ⟨C, T', z, r1, r2⟩ := hat
      refine ⟨C, T', z, r1, fun q v hq => ?_⟩
      rw [Nat.add_assoc]
      exact r2 _ v (flat_cut (fun q hq => (hps q hq).1) (by omega) hq)

theorem op_slice_msl (h : Good w0 M st e a) (T : TypeId) (x : Operand) (lo hi : Option Operand) {l g o i0 n sz : Nat} {p : List Nat} {E : TypeId} {i j : Int} (hx : st.ev x = .msl l g o p i0 n sz) (hT : telem P T = some E) (hs : tsz P E = some sz)
    (hl : lowI (lo.map st.ev) = some i) (hh : highI n (hi.map st.ev) = some j) (h0 : 0 ≤ i) (h1 : i ≤ j) (h2 : j ≤ n) (hd : st.dstOk dst)
    (hK0 : i = 0 → K (st.put dst (.msl l g o p i0 j.toNat sz))) (hK : 0 < i → K (st.put dst (.msl l g (o + i.toNat * sz) p (i0 + i.toNat) (j - i).toNat sz)) ∧ (i = n → K (st.put dst .nil))) :
    (Oper.mk dst (.slice T x lo hi none) ty pos after gd).wp P a e.w (Lift w0 M K) Q := by
  have hv := h.ev x; rw [hx] at hv
  obtain ⟨hg, ad, c, hxv, hc, hq⟩ := hv
  simp at hxv
  have hrun := run_sliceAt_sl (w := e.w) hT hs (some ad) n c _ _ _ (run_bounds h true hl hh h0 h1 (by omega : j ≤ (c : Int)))
  have hn : j.toNat - i.toNat = (j - i).toNat := by omega
  rcases Int.lt_or_eq_of_le h0 with hi0 | hi0
  · by_cases hci : c = i.toNat
    · refine wp_value (exec_slice P e.w a.eval T x lo hi none (by rw [hxv]; exact hrun)) (h.lift (d := .nil) hd ?_ ((hK hi0).2 (by omega)))
      refine ⟨some ad, ?_⟩
      rw [if_pos hci, hn]
      have h1 : (j - i).toNat = 0 := by omega
      have h2 : c - i.toNat = 0 := by omega
      rw [h1, h2]
    · refine wp_value (exec_slice P e.w a.eval T x lo hi none (by rw [hxv]; exact hrun)) (h.lift (d := .msl l g (o + i.toNat * sz) p (i0 + i.toNat) (j - i).toNat sz) hd ?_ (hK hi0).1)
      refine ⟨hg, _, c - i.toNat, by rw [if_neg hci, hn, Option.map_some], by omega, fun b d hb => ?_⟩
      obtain ⟨rfl, C, T', z, r1, r2⟩ := hq b d hb
      refine ⟨by rw [addr_add], C, T', z, r1, ?_⟩
      have h3 : i.toNat * sz + (c - i.toNat) * sz = c * sz := by rw [← Nat.add_mul]; congr 1; omega
      omega
  · refine wp_value (exec_slice P e.w a.eval T x lo hi none (by rw [hxv]; exact hrun)) (h.lift (d := .msl l g o p i0 j.toNat sz) hd ?_ (hK0 hi0.symm))
    subst hi0
    refine ⟨hg, ad, c, ?_, by omega, hq⟩
    simp only [Int.toNat_zero, Nat.sub_zero, Nat.zero_mul, Option.map_some]
    have : ad.add 0 = ad := by unfold Addr.add; simp
    rw [this]; simp

theorem op_slice_nil (h : Good w0 M st e a) (T : TypeId) (x : Operand) (lo hi : Option Operand) {E : TypeId} {sz : Nat} (hx : st.ev x = .nil) (hT : telem P T = some E) (hs : tsz P E = some sz)
    (hl : lowI (lo.map st.ev) = some 0) (hh : highI 0 (hi.map st.ev) = some 0) (hd : st.dstOk dst) (hK : K (st.put dst .nil)) :
    (Oper.mk dst (.slice T x lo hi none) ty pos after gd).wp P a e.w (Lift w0 M K) Q := by
  have hv := h.ev x; rw [hx] at hv
  obtain ⟨ad, hxv⟩ := hv
  simp at hxv
  have hrun := run_sliceAt_sl (w := e.w) hT hs ad 0 0 _ _ _ (run_bounds h true hl hh (by omega) (by omega) (by omega))
  refine wp_value (exec_slice P e.w a.eval T x lo hi none (by rw [hxv]; exact hrun)) (h.lift (d := .nil) hd ⟨ad, ?_⟩ hK)
  simp

theorem op_slice_zero (h : Good w0 M st e a) (T : TypeId) (x : Operand) (lo : Option Operand) (hx' mx : Operand) {E : TypeId} {n sz : Nat} {i : Int} (hx : (st.ev x).len = some n) (hT : telem P T = some E) (hs : tsz P E = some sz)
    (hl : lowI (lo.map st.ev) = some i) (hh : intD (st.ev hx') = some i) (hm : intD (st.ev mx) = some i) (h0 : 0 ≤ i) (h2 : i ≤ n) (hd : st.dstOk dst) (hK : K (st.put dst .nil)) :
    (Oper.mk dst (.slice T x lo (some hx') (some mx)) ty pos after gd).wp P a e.w (Lift w0 M K) Q := by
  have hv := h.ev x
  obtain ⟨b, c, hxv, hc⟩ : ∃ b c, a.eval x = .slice b n c ∧ n ≤ c := by
    generalize st.ev x = d at hx hv
    cases d <;> simp [D.len] at hx
    · subst hx; obtain ⟨b, hb⟩ := hv; simp at hb; exact ⟨_, _, hb, Nat.le_refl _⟩
    · subst hx; obtain ⟨o, c, ps, hb, hc, _⟩ := hv; simp at hb; exact ⟨_, _, hb, hc⟩
    · subst hx; obtain ⟨_, ad, c, hb, hc, _⟩ := hv; simp at hb; exact ⟨_, _, hb, hc⟩
  have hrun := run_sliceAt_sl (w := e.w) hT hs b n c _ _ _ (run_bounds3 (len := n) h hl hh hm h0 (by omega : i ≤ (c : Int)))
  refine wp_value (exec_slice P e.w a.eval T x lo (some hx') (some mx) (by rw [hxv]; exact hrun)) (h.lift (d := .nil) hd ⟨b, ?_⟩ hK)
  simp

theorem op_slice_arr (h : Good w0 M st e a) (T : TypeId) (x : Operand) {l g o n sz : Nat} {p : List Nat} {f : Nat → D} {E : TypeId} (hx : st.ev x = .ptr l g o p) (hT : tarr P T = some (n, E)) (hs : tsz P E = some sz)
    (hin : (st.rd l g).inb p) (ho : (st.rd l g).offOf p = o) (hp : (st.rd l g).get p = .node (.arr n sz) f) (hd : st.dstOk dst) (hK : K (st.put dst (.msl l g o p 0 n sz))) :
    (Oper.mk dst (.slice T x none none none) ty pos after gd).wp P a e.w (Lift w0 M K) Q := by
  have hv := h.ev x; rw [hx] at hv
  obtain ⟨hg, ad, hxv, hq⟩ := hv
  simp at hxv
  have hR := rd_spec (st := st) (l := l) (g := g) (p := p) (by rw [hp]; trivial)
  have hb := run_bounds (P := P) (lo := none) (hi := none) (len := n) (cap := n) (i := 0) (j := n) h false rfl rfl (by omega) (by omega) (by omega)
  have hb' : (Instr.sliceBounds false n n none none none).run P e.w = .ok (0, n, n) e.w := by simpa using hb
  have hrun : (Instr.sliceAt T (.pointer (some ad)) none none none).run P e.w = .ok (.slice (some ad) n n) e.w := by
    have : ad.add 0 = ad := by unfold Addr.add; simp
    simp [Instr.sliceAt, run_underlying (run_tarr hT), Instr.sureAddr, hb', run_sizeOf hs, this]
  refine wp_value (exec_slice P e.w a.eval T x none none none (by rw [hxv]; exact hrun)) (h.lift (d := .msl l g o p 0 n sz) hd ?_ hK)
  refine ⟨hg, ad, n, rfl, Nat.le_refl _, fun b d hb => ?_⟩
  have had := hq b d hb
  subst had
  rw [h.R] at hb
  rw [hR] at hb
  simp only [Option.some.injEq, Prod.mk.injEq] at hb
  obtain ⟨_, rfl, rfl⟩ := hb
  obtain ⟨_, hro⟩ := h.root _ _ _ _ hR
  obtain ⟨C, T', cs, r1, r2, r3⟩ := hro.row
  obtain ⟨ds, q1, q2, q3⟩ := Rep_get p _ cs r2 hin
  rw [hp] at q1
  have hlen : ds.length = n * sz := Rep_length (d := .node (.arr n sz) f) trivial q1
  refine ⟨rfl, C, T', _, r1, ?_⟩
  rw [ho, hlen] at q2
  have hcs : cs.length ≤ C.size := by
    rcases Nat.eq_zero_or_pos cs.length with h0 | h0
    · omega
    · have := r3 (cs.length - 1) cs[cs.length - 1] (List.getElem?_eq_getElem (by omega))
      have := (Array.getElem?_eq_some_iff.1 this).1
      omega
  omega

theorem op_slice_str (h : Good w0 M st e a) (T : TypeId) (x : Operand) (lo hi : Option Operand) {s : ByteArray} {i j : Int} (hx : st.ev x = .lit (.string s)) (hT : strT P T = true)
    (hl : lowI (lo.map st.ev) = some i) (hh : highI s.size (hi.map st.ev) = some j) (h0 : 0 ≤ i) (h1 : i ≤ j) (h2 : j ≤ s.size) (hd : st.dstOk dst) (hK : K (st.put dst (.lit (.string (s.extract i.toNat j.toNat))))) :
    (Oper.mk dst (.slice T x lo hi none) ty pos after gd).wp P a e.w (Lift w0 M K) Q := by
  have hv := h.ev x; rw [hx] at hv
  have hxv := (VRep_lit hv).1
  have hb := run_bounds (P := P) h false hl hh h0 h1 h2
  have hrun : (Instr.sliceAt T (.string s) (lo.map a.eval) (hi.map a.eval) none).run P e.w = .ok (.string (s.extract i.toNat j.toNat)) e.w := by
    simp [Instr.sliceAt, Instr.slice, run_underlying (strT_spec hT), hb]
  exact wp_value (exec_slice P e.w a.eval T x lo hi none (by rw [hxv]; exact hrun)) (h.lift hd (VRep_mk (v := .string _) trivial) hK)

theorem op_index_str (h : Good w0 M st e a) (T : TypeId) (x y : Operand) {s : ByteArray} {i : Int} (hx : st.ev x = .lit (.string s)) (hT : strT P T = true) (hy : intD (st.ev y) = some i) (h0 : 0 ≤ i) (h1 : i < s.size)
    (hd : st.dstOk dst) (hK : K (st.put dst (.lit (.int .u8 (byteAt s i.toNat))))) : (Oper.mk dst (.index T x y) ty pos after gd).wp P a e.w (Lift w0 M K) Q := by
  have hv := h.ev x; rw [hx] at hv
  have hxv := (VRep_lit hv).1
  obtain ⟨k, hk⟩ := h.evInt hy
  refine wp_value (v := .int .u8 (byteAt s i.toNat)) (w' := e.w) ?_ (h.lift hd (VRep_mk (v := .int _ _) trivial) hK)
  simp only [execOp]
  rw [hxv, hk, Sem.run_bind]
  have hlt : i.toNat < s.size := by omega
  have hs : s[i.toNat]? = some s[i.toNat] := by rw [getElem?_pos s i.toNat hlt]
  have : (Instr.index T (.string s) (.int k i)).run P e.w = .ok (.int .u8 (byteAt s i.toNat)) e.w := by
    simp [Instr.index, asIntOf, run_underlying (strT_spec hT), h0, hs, byteAt]
  rw [this]; rfl

/-- min and max of two -/
theorem op_max (h : Good w0 M st e a) (x y : Operand) (T T' : TypeId) {k : IntKind} {i j : Int} (hx : st.ev x = .lit (.int k i)) (hy : st.ev y = .lit (.int k j)) (hd : st.dstOk dst) (hK : K (st.put dst (.lit (.int k (max i j))))) :
    (Oper.mk dst (.call { callee := .builtin .max, args := #[x, y], argTypes := #[T, T'] }) ty pos after gd).wp P a e.w (Lift w0 M K) Q := by
  have hv := h.ev x; rw [hx] at hv
  have hw := h.ev y; rw [hy] at hw
  refine wp_value (v := .int k (max i j)) (w' := e.w) ?_ (h.lift hd (VRep_mk (v := .int _ _) trivial) hK)
  simp only [execOp, resolve]
  rw [Sem.run_bind]
  show (Result.ok _ e.w).andThen _ = _
  rw [Result.andThen_ok]
  simp only [List.map_toArray, List.map_cons, List.map_nil]
  rw [(VRep_lit hv).1, (VRep_lit hw).1]
  have : (if j > i then j else i) = max i j := by rw [Int.max_def]; split <;> split <;> omega
  simp [invoke, builtin, Builtin.max_, Builtin.max2, this]

theorem op_min (h : Good w0 M st e a) (x y : Operand) (T T' : TypeId) {k : IntKind} {i j : Int} (hx : st.ev x = .lit (.int k i)) (hy : st.ev y = .lit (.int k j)) (hd : st.dstOk dst) (hK : K (st.put dst (.lit (.int k (min i j))))) :
    (Oper.mk dst (.call { callee := .builtin .min, args := #[x, y], argTypes := #[T, T'] }) ty pos after gd).wp P a e.w (Lift w0 M K) Q := by
  have hv := h.ev x; rw [hx] at hv
  have hw := h.ev y; rw [hy] at hw
  refine wp_value (v := .int k (min i j)) (w' := e.w) ?_ (h.lift hd (VRep_mk (v := .int _ _) trivial) hK)
  simp only [execOp, resolve]
  rw [Sem.run_bind]
  show (Result.ok _ e.w).andThen _ = _
  rw [Result.andThen_ok]
  simp only [List.map_toArray, List.map_cons, List.map_nil]
  rw [(VRep_lit hv).1, (VRep_lit hw).1]
  have : (if j < i then j else i) = min i j := by rw [Int.min_def]; split <;> split <;> omega
  simp [invoke, builtin, Builtin.min_, Builtin.min2, this]

end ops
end Go.Proofs.Ytjaddgkhlmallaa.IM
