/- Addresses, loads, slicings, lengths, functions as values: operations that change no memory, over abstract states (second part). Nothing of a program is in it. -/
import Derived.Test.YtjaddgkhlmallaaIm4
namespace Go.Proofs.Ytjaddgkhlmallaa.IM
open Go Go.RowKit
set_option linter.unusedVariables false

theorem run_telem {P : Program} {T E : TypeId} (h : telem P T = some E) : P.underlying T = some (.slice E) := by
  unfold telem at h
  cases hP : P.underlying T with
  | none => rw [hP] at h; cases h
  | some d => rw [hP] at h; cases d <;> simp at h; subst h; rfl
theorem run_tarr {P : Program} {T E : TypeId} {n : Nat} (h : tarr P T = some (n, E)) : P.underlying T = some (.array n E) := by
  unfold tarr at h
  cases hP : P.underlying T with
  | none => rw [hP] at h; cases h
  | some d => rw [hP] at h; cases d <;> simp at h; obtain ⟨rfl, rfl⟩ := h; rfl

theorem run_indexAt_slice {P : Program} {w : World} {T E : TypeId} {sz n c : Nat} {ad : Addr} {k : IntKind} {i : Int} (ht : telem P T = some E) (hs : tsz P E = some sz) (h0 : 0 ≤ i) (h1 : i < n) :
    (Instr.indexAt T (.slice (some ad) n c) (.int k i)).run P w = .ok (.pointer (some (ad.add (i.toNat * sz)))) w := by
  have hu := run_telem ht
  unfold Instr.indexAt
  rw [Sem.run_bind]
  show (Result.ok _ w).andThen _ = _
  rw [Result.andThen_ok, Sem.run_bind, run_underlying hu, Result.andThen_ok, Sem.run_bind]
  show (Result.ok _ w).andThen _ = _
  rw [Result.andThen_ok, Sem.run_bind]
  simp only [run_underlying hu, Result.andThen_ok]
  rw [if_pos ⟨h0, h1⟩, Sem.run_bind, run_sizeOf hs, Result.andThen_ok]; rfl

theorem run_indexAt_arr {P : Program} {w : World} {T E : TypeId} {sz n : Nat} {ad : Addr} {k : IntKind} {i : Int} (ht : tarr P T = some (n, E)) (hs : tsz P E = some sz) (h0 : 0 ≤ i) (h1 : i < n) :
    (Instr.indexAt T (.pointer (some ad)) (.int k i)).run P w = .ok (.pointer (some (ad.add (i.toNat * sz)))) w := by
  have hu := run_tarr ht
  unfold Instr.indexAt
  rw [Sem.run_bind]
  show (Result.ok _ w).andThen _ = _
  rw [Result.andThen_ok, Sem.run_bind, run_underlying hu, Result.andThen_ok, Sem.run_bind]
  simp only [Instr.sureAddr, run_underlying hu, Sem.run_bind, Sem.run_pure, Result.andThen_ok]
  rw [if_pos ⟨h0, h1⟩, Sem.run_bind, run_sizeOf hs, Result.andThen_ok]; rfl

theorem At.part {w : World} {b o q : Nat} {cs ds : List Value} (h : At w b o cs) (hd : ∀ j, j < ds.length → cs[q + j]? = ds[j]?) : At w b (o + q) ds := by
  obtain ⟨C, T, z, h1, h2⟩ := h
  refine ⟨C, T, z, h1, fun j v hj => ?_⟩
  have hlt : j < ds.length := by
    rcases Nat.lt_or_ge j ds.length with h | h
    · exact h
    · rw [List.getElem?_eq_none h] at hj; cases hj
  rw [Nat.add_assoc]
  exact h2 _ v (by rw [hd j hlt]; exact hj)

section ops
variable {P : Program} {w0 : World} {M : Fr} {st : St} {e : Env} {a : Act} {K : St → Prop} {Q : Exit → Act → World → Prop}
variable {dst : Option Tmp} {ty : TypeId} {pos : String} {after : Array Edge} {gd : Option (Nat × Bool)}

theorem op_fieldAddr_cptr (h : Good w0 M st e a) (T : TypeId) (x : Operand) {f o' n : Nat} {t : TypeId} {k : Kd} {c : Nat → D} (hx : st.ev x = .cptr (.node k c)) (hf : tfield P T f = some (o', t)) (hn : tsz P t = some n) (h0 : n ≠ 0)
    (hd : st.dstOk dst) (hfk : f < k.cnt) (ho : k.off f = o') (hK : K (st.put dst (.cptr (c f)))) : (Oper.mk dst (.fieldAddr T x f) ty pos after gd).wp P a e.w (Lift w0 M K) Q := by
  have hv := h.ev x; rw [hx] at hv
  obtain ⟨b, o, ds, hxv, hP, ⟨ps, hps, rfl⟩, hat⟩ := hv
  simp at hxv
  refine wp_value (v := .pointer (some ⟨b, o + o', none⟩)) (w' := e.w) ?_ (h.lift (d := .cptr (c f)) hd ⟨b, o + o', ps f, rfl, hP, (hps f hfk).2, ?_⟩ hK)
  · simp only [execOp]; rw [hxv, Sem.run_bind, run_fieldAt hf hn h0, addr_add]; rfl
  · subst ho
    exact hat.part fun j hj => flat_get k ps k.cnt (Nat.le_refl _) (fun i hi => (hps i hi).1) f hfk j (by rw [← (hps f hfk).1]; exact hj)

theorem op_indexAddr_msl (h : Good w0 M st e a) (T : TypeId) (x y : Operand) {l g o j n sz : Nat} {p : List Nat} {E : TypeId} {k : IntKind} {i : Int} (hx : st.ev x = .msl l g o p j n sz) (hy : st.ev y = .lit (.int k i))
    (ht : telem P T = some E) (hs : tsz P E = some sz) (h0 : 0 ≤ i) (h1 : i < n) (hd : st.dstOk dst) 
    (hK : K (st.put dst (.ptr l g (o + i.toNat * sz) (p ++ [j + i.toNat])))) : (Oper.mk dst (.indexAddr T x y) ty pos after gd).wp P a e.w (Lift w0 M K) Q := by
  have hv := h.ev x; rw [hx] at hv
  have hw := h.ev y; rw [hy] at hw
  obtain ⟨hg, ad, c, hxv, hc, hq⟩ := hv
  simp at hxv
  refine wp_value (v := .pointer (some (ad.add (i.toNat * sz)))) (w' := e.w) ?_ (h.lift (d := .ptr l g (o + i.toNat * sz) (p ++ [j + i.toNat])) hd ⟨hg, _, rfl, ?_⟩ hK)
  · simp only [execOp]; rw [hxv, (VRep_lit hw).1, Sem.run_bind, run_indexAt_slice ht hs h0 h1]; rfl
  · intro b d hb
    rw [(hq b d hb).1, addr_add]

theorem op_indexAddr_sl (h : Good w0 M st e a) (T : TypeId) (x y : Operand) {t n sz : Nat} {zb : Bool} {f : Nat → D} {E : TypeId} {k : IntKind} {i : Int} (hx : st.ev x = .sl t zb n sz f) (hy : st.ev y = .lit (.int k i))
    (ht : telem P T = some E) (hs : tsz P E = some sz) (h0 : 0 ≤ i) (h1 : i < n) (hd : st.dstOk dst)
    (hK : K (st.put dst (.cptr (f i.toNat)))) : (Oper.mk dst (.indexAddr T x y) ty pos after gd).wp P a e.w (Lift w0 M K) Q := by
  have hv := h.ev x; rw [hx] at hv
  have hw := h.ev y; rw [hy] at hw
  obtain ⟨o, c, ps, hxv, hc, hP, hps, hat, _⟩ := hv
  simp at hxv
  have hin : i.toNat < n := by omega
  refine wp_value (v := .pointer (some ⟨t, o + i.toNat * sz, none⟩)) (w' := e.w) ?_ (h.lift (d := .cptr (f i.toNat)) hd ⟨t, o + i.toNat * sz, ps i.toNat, rfl, hP, (hps _ hin).2, ?_⟩ hK)
  · simp only [execOp]; rw [hxv, (VRep_lit hw).1, Sem.run_bind, run_indexAt_slice ht hs h0 h1, addr_add]; rfl
  · exact hat.part fun j hj => flat_get (.arr n sz) ps n (Nat.le_refl _) (fun i hi => (hps i hi).1) _ hin j (by have := (hps _ hin).1; simp only [Kd.sz]; omega)

theorem op_indexAddr_arr (h : Good w0 M st e a) (T : TypeId) (x y : Operand) {l g o n sz : Nat} {p : List Nat} {E : TypeId} {k : IntKind} {i : Int} (hx : st.ev x = .ptr l g o p) (hy : st.ev y = .lit (.int k i))
    (ht : tarr P T = some (n, E)) (hs : tsz P E = some sz) (h0 : 0 ≤ i) (h1 : i < n) (hd : st.dstOk dst) 
    (hK : K (st.put dst (.ptr l g (o + i.toNat * sz) (p ++ [i.toNat])))) : (Oper.mk dst (.indexAddr T x y) ty pos after gd).wp P a e.w (Lift w0 M K) Q := by
  have hv := h.ev x; rw [hx] at hv
  have hw := h.ev y; rw [hy] at hw
  obtain ⟨hg, ad, hxv, hq⟩ := hv
  simp at hxv
  refine wp_value (v := .pointer (some (ad.add (i.toNat * sz)))) (w' := e.w) ?_ (h.lift (d := .ptr l g (o + i.toNat * sz) (p ++ [i.toNat])) hd ⟨hg, _, rfl, ?_⟩ hK)
  · simp only [execOp]; rw [hxv, (VRep_lit hw).1, Sem.run_bind, run_indexAt_arr ht hs h0 h1]; rfl
  · intro b d hb
    rw [hq b d hb, addr_add]

theorem op_indexAddr_carr (h : Good w0 M st e a) (T : TypeId) (x y : Operand) {n sz : Nat} {f : Nat → D} {E : TypeId} {k : IntKind} {i : Int} (hx : st.ev x = .cptr (.node (.arr n sz) f)) (hy : st.ev y = .lit (.int k i))
    (ht : tarr P T = some (n, E)) (hs : tsz P E = some sz) (h0 : 0 ≤ i) (h1 : i < n) (hd : st.dstOk dst)
    (hK : K (st.put dst (.cptr (f i.toNat)))) : (Oper.mk dst (.indexAddr T x y) ty pos after gd).wp P a e.w (Lift w0 M K) Q := by
  have hv := h.ev x; rw [hx] at hv
  have hw := h.ev y; rw [hy] at hw
  obtain ⟨b, o, ds, hxv, hP, ⟨ps, hps, rfl⟩, hat⟩ := hv
  simp at hxv
  have hin : i.toNat < n := by omega
  refine wp_value (v := .pointer (some ⟨b, o + i.toNat * sz, none⟩)) (w' := e.w) ?_ (h.lift (d := .cptr (f i.toNat)) hd ⟨b, o + i.toNat * sz, ps i.toNat, rfl, hP, (hps _ hin).2, ?_⟩ hK)
  · simp only [execOp]; rw [hxv, (VRep_lit hw).1, Sem.run_bind, run_indexAt_arr ht hs h0 h1, addr_add]; rfl
  · exact hat.part fun j hj => flat_get (.arr n sz) ps n (Nat.le_refl _) (fun i hi => (hps i hi).1) _ hin j (by have := (hps _ hin).1; simp only [Kd.sz] at this ⊢; omega)

theorem Good.root_at (h : Good w0 M st e a) {l g b : Nat} {d : D} (hR : st.R l = some (g, b, d)) {p : List Nat} (hin : d.inb p) : ∃ ds, Rep e (d.get p) ds ∧ At e.w b (d.offOf p) ds := by
  obtain ⟨_, hro⟩ := h.root _ _ _ _ hR
  obtain ⟨C, T, cs, hb, hrep, hcs⟩ := hro.row
  obtain ⟨ds, r1, r2, r3⟩ := Rep_get p d cs hrep hin
  have hat : At e.w b 0 cs := ⟨C, T, _, hb, fun j v hj => by rw [Nat.zero_add]; exact hcs j v hj⟩
  have := hat.part (q := d.offOf p) r3
  rw [Nat.zero_add] at this
  exact ⟨ds, r1, this⟩

theorem op_load_ptr (h : Good w0 M st e a) (T : TypeId) (x : Operand) {l g o : Nat} {p : List Nat} (hx : st.ev x = .ptr l g o p) (ht : TyOk P T ((st.rd l g).get p)) (hin : (st.rd l g).inb p) (ho : (st.rd l g).offOf p = o)
    (hd : st.dstOk dst) (hK : K (st.put dst ((st.rd l g).get p))) : (Oper.mk dst (.load T x) ty pos after gd).wp P a e.w (Lift w0 M K) Q := by
  have hv := h.ev x; rw [hx] at hv
  obtain ⟨hg, ad, hxv, hq⟩ := hv
  simp at hxv
  have hR := rd_spec (st := st) (l := l) (g := g) (p := p) ht.plain
  have had := hq (st.blk l) (st.rd l g) (by rw [h.R]; exact hR)
  subst had
  obtain ⟨ds, hr, hat⟩ := h.root_at hR hin
  rw [ho] at hat
  obtain ⟨ag, hag, hlo⟩ := ht.loaded
  obtain ⟨v, hrun, hvr⟩ := run_loadVar (P := P) rfl hag ht.1 hlo hr hat
  refine wp_value (v := v) (w' := e.w) ?_ (h.lift hd hvr hK)
  simp only [execOp]; rw [hxv, Sem.run_bind]
  have : (Instr.loadAt T (.pointer (some ⟨st.blk l, o, none⟩))).run P e.w = .ok v e.w := by
    unfold Instr.loadAt
    rw [Sem.run_bind]
    show (Result.ok _ e.w).andThen _ = _
    rw [Result.andThen_ok, hrun]
  rw [this]; rfl

theorem op_load_cptr (h : Good w0 M st e a) (T : TypeId) (x : Operand) {d : D} (hx : st.ev x = .cptr d) (ht : TyOk P T d)
    (hd : st.dstOk dst) (hK : K (st.put dst d)) : (Oper.mk dst (.load T x) ty pos after gd).wp P a e.w (Lift w0 M K) Q := by
  have hv := h.ev x; rw [hx] at hv
  obtain ⟨b, o, ds, hxv, hP, hr, hat⟩ := hv
  simp at hxv
  obtain ⟨ag, hag, hlo⟩ := ht.loaded
  obtain ⟨v, hrun, hvr⟩ := run_loadVar (P := P) rfl hag ht.1 hlo hr hat
  refine wp_value (v := v) (w' := e.w) ?_ (h.lift hd hvr hK)
  simp only [execOp]; rw [hxv, Sem.run_bind]
  have : (Instr.loadAt T (.pointer (some ⟨b, o, none⟩))).run P e.w = .ok v e.w := by
    unfold Instr.loadAt
    rw [Sem.run_bind]
    show (Result.ok _ e.w).andThen _ = _
    rw [Result.andThen_ok, hrun]
  rw [this]; rfl

/-- the length of a slice or a string -/
def D.len : D → Option Nat
  | .nil => some 0
  | .sl _ _ n _ _ => some n
  | .msl _ _ _ _ _ n _ => some n
  | _ => none

theorem op_len (h : Good w0 M st e a) (T : TypeId) (x : Operand) {n : Nat} {E : TypeId} (hx : (st.ev x).len = some n) (ht : telem P T = some E) (hd : st.dstOk dst) (hK : K (st.put dst (.lit (.int .i64 n)))) :
    (Oper.mk dst (.call { callee := .builtin .len, args := #[x], argTypes := #[T] }) ty pos after gd).wp P a e.w (Lift w0 M K) Q := by
  have hv := h.ev x
  obtain ⟨b, c, hxv⟩ : ∃ b c, a.eval x = .slice b n c := by
    generalize st.ev x = d at hx hv
    cases d <;> simp [D.len] at hx
    · subst hx; obtain ⟨b, hb⟩ := hv; simp at hb; exact ⟨_, _, hb⟩
    · subst hx; obtain ⟨o, c, ps, hb, _⟩ := hv; simp at hb; exact ⟨_, _, hb⟩
    · subst hx; obtain ⟨_, ad, c, hb, _⟩ := hv; simp at hb; exact ⟨_, _, hb⟩
  refine wp_value (v := .int .i64 n) (w' := e.w) ?_ (h.lift hd (VRep_mk (leaf_int _ _)) hK)
  simp only [execOp, resolve]
  rw [Sem.run_bind]
  show (Result.ok _ e.w).andThen _ = _
  rw [Result.andThen_ok]
  simp only [List.map_toArray, List.map_cons, List.map_nil]
  rw [hxv]
  simp [invoke, builtin, Builtin.len_, run_underlying (run_telem ht), goInt]

theorem op_len_str (h : Good w0 M st e a) (T : TypeId) (x : Operand) {s : ByteArray} (hx : st.ev x = .lit (.string s)) (ht : P.underlying T = some .string) (hd : st.dstOk dst) (hK : K (st.put dst (.lit (.int .i64 s.size)))) :
    (Oper.mk dst (.call { callee := .builtin .len, args := #[x], argTypes := #[T] }) ty pos after gd).wp P a e.w (Lift w0 M K) Q := by
  have hv := h.ev x; rw [hx] at hv
  have hxv := (VRep_lit hv).1
  refine wp_value (v := .int .i64 s.size) (w' := e.w) ?_ (h.lift hd (VRep_mk (leaf_int _ _)) hK)
  simp only [execOp, resolve]
  rw [Sem.run_bind]
  show (Result.ok _ e.w).andThen _ = _
  rw [Result.andThen_ok]
  simp only [List.map_toArray, List.map_cons, List.map_nil]
  rw [hxv]
  simp [invoke, builtin, Builtin.len_, run_underlying ht, goInt]

theorem op_makeFunc (h : Good w0 M st e a) (f : FuncId) (cap : Array Operand) (hd : st.dstOk dst) (hK : K (st.put dst (.fn f cap.size fun i => st.ev (cap.getD i (.const .nilFunc))))) (hc : ∀ i, i < cap.size → (st.ev (cap.getD i (.const .nilFunc))).isRef) :
    (Oper.mk dst (.makeFunc (.func f) #[] cap) ty pos after gd).wp P a e.w (Lift w0 M K) Q := by
  refine wp_value (v := .func (.func f) #[] (cap.map a.eval)) (w' := e.w) (by simp [execOp, Instr.makeFunc]) (h.lift (d := .fn f cap.size _) hd ⟨cap.map a.eval, rfl, by simp, fun i hi => ?_⟩ hK)
  have h1 : (cap.map a.eval).getD i undef = a.eval (cap.getD i (.const .nilFunc)) := by simp [hi]
  rw [h1]
  have hv := h.ev (cap.getD i (.const .nilFunc))
  have hr := hc i hi
  generalize st.ev (cap.getD i (.const .nilFunc)) = d at hv hr
  cases d <;> first | exact hr.elim | exact ⟨by simp [D.isNode], hv⟩

end ops
end Go.Proofs.Ytjaddgkhlmallaa.IM
