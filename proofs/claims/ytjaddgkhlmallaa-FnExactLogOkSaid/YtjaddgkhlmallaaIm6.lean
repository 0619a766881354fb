/- Stores, new variables, boxes, over abstract states. Nothing of a program is in it. -/
import Derived.Test.YtjaddgkhlmallaaIm5
namespace Go.Proofs.Ytjaddgkhlmallaa.IM
open Go Go.RowKit
set_option linter.unusedVariables false

def St.wr (st : St) (l : Nat) (d : D) : St :=
  { st with R := upd st.R l ((st.R l).map fun x => (x.1, x.2.1, d)) }

theorem Keep.put {w0 w : World} {M : Nat → Prop} (h : Keep w0 M w) {b : Nat} (hb : w0.heap.size ≤ b ∨ M b) (o : Nat) (vs : List Value) (hc : ∀ (C : Array Value) (T : TypeId) (z : Nat × Nat), w.heap[b]? = some (Obj.cells C T z) → o + vs.length ≤ C.size) : Keep w0 M (World.putRow w b o vs) := by
  refine ⟨h.os, h.tape, h.output, by simpa using h.size, fun k hk hm => ?_, fun k C T z hC => ?_⟩
  rotate_left
  · obtain ⟨C', h1, h2⟩ := h.cell k C T z hC
    by_cases hkb : k = b
    · subst hkb
      refine ⟨_, putRow_same vs h1, ?_⟩
      have := hc _ _ _ h1
      rw [List.size_toArray, splice_length (by simpa using this)]
      simpa using h2
    · exact ⟨C', by rw [putRow_other _ _ _ _ _ hkb]; exact h1, h2⟩
  have hne : k ≠ b := by
    rintro rfl
    rcases hb with hb | hb
    · omega
    · exact hm hb
  rw [putRow_other _ _ _ _ _ hne]
  exact h.block k hk hm

section ops
variable {P : Program} {w0 : World} {M : Fr} {st : St} {e : Env} {a : Act} {K : St → Prop} {Q : Exit → Act → World → Prop}
variable {dst : Option Tmp} {ty : TypeId} {pos : String} {after : Array Edge} {gd : Option (Nat × Bool)}

/-- one root is written -/
theorem Good.store (h : Good w0 M st e a) {l g b : Nat} {d : D} (hR : st.R l = some (g, b, d)) {p : List Nat} (hin : d.inb p) (hp : (d.get p).plain) {v : D} {vs : List Value} (hvp : v.plain) (hv : Rep e v vs) (hs : vs.length = (d.get p).size) :
    ∃ C T, e.w.heap[b]? = some (.cells C T (0, 0)) ∧ d.offOf p + vs.length ≤ C.size ∧
      Good w0 M (st.wr l (d.set p v)) ⟨(st.wr l (d.set p v)).R, e.G, e.P, World.putRow e.w b (d.offOf p) vs⟩ a := by
  obtain ⟨hg, hro⟩ := h.root _ _ _ _ hR
  obtain ⟨C, T, cs, hb, hrep, hcs⟩ := hro.row
  have hlen : cs.length ≤ C.size := by
    rcases Nat.eq_zero_or_pos cs.length with h0 | h0
    · omega
    · have := hcs (cs.length - 1) cs[cs.length - 1] (List.getElem?_eq_getElem (by omega))
      have := (Array.getElem?_eq_some_iff.1 this).1
      omega
  have hR' : (st.wr l (d.set p v)).R = upd st.R l (some (g, b, d.set p v)) := by simp [St.wr, hR]
  have hle : e.le ⟨(st.wr l (d.set p v)).R, e.G, e.P, World.putRow e.w b (d.offOf p) vs⟩ := by
    refine ⟨Nat.le_refl _, fun _ h => h, fun k hk => ?_, fun l' g' b' d' hg' hl' => ?_, fun _ _ k _ _ _ C' T' z hk => ?_⟩
    · exact putRow_other _ _ _ _ _ (by rintro rfl; exact hro.np hk)
    · show ∃ d'', e.R l' = some (g', b', d'')
      have hl'' : upd st.R l (some (g, b, d.set p v)) l' = some (g', b', d') := by rw [← hR']; exact hl'
      rw [h.R]
      by_cases hll : l' = l
      · subst hll
        rw [upd_same] at hl''
        simp only [Option.some.injEq, Prod.mk.injEq] at hl''
        exact ⟨d, by rw [hR, hl''.1, hl''.2.1]⟩
      · rw [upd_ne _ _ hll] at hl''; exact ⟨d', hl''⟩
    · by_cases hkb : k = b
      · subst hkb
        have hk2 : e.w.heap[k]? = some (.cells C' T' z) := hk
        rw [hb] at hk2
        simp only [Option.some.injEq, Obj.cells.injEq] at hk2
        obtain ⟨rfl, rfl, rfl⟩ := hk2
        obtain ⟨r1, _⟩ := Rep_set hv p d cs hrep hin hp hs
        exact ⟨_, _, putRow_same vs hb, by simp [splice_length (cs := C.toList) (vs := vs) (o := d.offOf p) (by simp; omega)]⟩
      · exact ⟨C', z, by rw [← hk]; exact putRow_other _ _ _ _ _ hkb, rfl⟩
  obtain ⟨r1, r2⟩ := Rep_set (Rep_le hle hv) p d cs (Rep_le hle hrep) hin hp hs
  refine ⟨C, T, hb, by omega, ⟨rfl, h.N, h.df, fun t => VRep_le hle (h.slot t), ?_, ?_, ?_, ?_, ?_, ?_, ?_⟩⟩
  · intro l' g' b' d' hl'
    have hl'' : upd st.R l (some (g, b, d.set p v)) l' = some (g', b', d') := by rw [← hR']; exact hl'
    by_cases hll : l' = l
    · subst hll
      rw [upd_same] at hl''
      simp only [Option.some.injEq, Prod.mk.injEq] at hl''
      obtain ⟨rfl, rfl, rfl⟩ := hl''
      refine ⟨hg, hro.np, ?_, _, T, _, putRow_same vs hb, r2, ?_⟩
      · cases p with
        | nil =>
          have : (D.set d [] v) = v := by cases d <;> rfl
          rw [this]
          exact hvp
        | cons i p => trivial
      · intro j u hj
        rw [splice_get (by omega)] at hj
        simp only [List.getElem?_toArray]
        rw [splice_get (by simp; omega)]
        split at hj
        · rename_i hc; rw [if_pos hc]; exact hj
        · rename_i hc; rw [if_neg hc, Array.getElem?_toList]; exact hcs j u hj
    · rw [upd_ne _ _ hll] at hl''
      obtain ⟨hg', hro'⟩ := h.root _ _ _ _ hl''
      refine ⟨hg', hro'.np, hro'.plain, ?_⟩
      obtain ⟨C', T', cs', hb', hrep', hcs'⟩ := hro'.row
      have hne : b' ≠ b := by rintro rfl; exact hll (h.inj _ _ _ _ _ _ _ hl'' hR)
      exact ⟨C', T', cs', by rw [← hb']; exact putRow_other _ _ _ _ _ hne, Rep_le hle hrep', hcs'⟩
  · intro l' g' b' d' hl'
    have hl'' : upd st.R l (some (g, b, d.set p v)) l' = some (g', b', d') := by rw [← hR']; exact hl'
    by_cases hll : l' = l
    · subst hll
      rw [upd_same] at hl''
      simp only [Option.some.injEq, Prod.mk.injEq] at hl''
      rw [← hl''.2.1]; exact h.own _ _ _ _ hR
    · rw [upd_ne _ _ hll] at hl''; exact h.own _ _ _ _ hl''
  · intro l1 l2 g1 g2 b' d1 d2 h1 h2
    have h1' : upd st.R l (some (g, b, d.set p v)) l1 = some (g1, b', d1) := by rw [← hR']; exact h1
    have h2' : upd st.R l (some (g, b, d.set p v)) l2 = some (g2, b', d2) := by rw [← hR']; exact h2
    have back : ∀ l3 g3 d3, upd st.R l (some (g, b, d.set p v)) l3 = some (g3, b', d3) → ∃ d4, st.R l3 = some (g3, b', d4) := by
      intro l3 g3 d3 h3
      by_cases hll : l3 = l
      · subst hll
        rw [upd_same] at h3
        simp only [Option.some.injEq, Prod.mk.injEq] at h3
        exact ⟨d, by rw [hR, h3.1, h3.2.1]⟩
      · rw [upd_ne _ _ hll] at h3; exact ⟨d3, h3⟩
    obtain ⟨d4, h4⟩ := back _ _ _ h1'
    obtain ⟨d5, h5⟩ := back _ _ _ h2'
    exact h.inj _ _ _ _ _ _ _ h4 h5
  · intro k hk; simpa using h.P k hk
  · exact h.keep.put (h.own _ _ _ _ hR) _ _ fun C1 T1 z1 h1 => by
      have h2 := hb.symm.trans h1
      simp only [Option.some.injEq, Obj.cells.injEq] at h2
      obtain ⟨rfl, _⟩ := h2
      omega
  · simpa [St.wr] using h.n
  · exact h.per

theorem run_storeVar {P : Program} {w : World} {T : TypeId} {b o : Nat} {v : Value} {C : Array Value} {T' : TypeId} (hs : tsz P T = some v.cells.size) (hb : w.heap[b]? = some (.cells C T' (0, 0))) (ho : o + v.cells.size ≤ C.size)
    (hl : ∀ u ∈ v.cells.toList, Leaf u) : (storeVar T ⟨b, o, none⟩ v).run P w = .ok () (World.putRow w b o v.cells.toList) := by
  unfold storeVar
  rw [Sem.run_bind, run_sizeOf hs, Result.andThen_ok]
  simp only [ne_eq, not_true_eq_false, if_false]
  have := run_storeCells P v.cells.toList w b o 0 C T' hb (by simpa using ho) hl
  simpa using this

theorem op_store (h : Good w0 M st e a) (T : TypeId) (x y : Operand) {l g o n : Nat} {p : List Nat} (hx : st.ev x = .ptr l g o p) (hp : ((st.rd l g).get p).plain) (hin : (st.rd l g).inb p) (ho : (st.rd l g).offOf p = o)
    (ht : tsz P T = some n) (hs1 : ((st.rd l g).get p).size = n) (hvp : (st.ev y).plain) (hs2 : (st.ev y).size = n) (hd : st.dstOk dst)
    (hK : K ((st.wr l ((st.rd l g).set p (st.ev y))).put dst .any)) : (Oper.mk dst (.store T x y) ty pos after gd).wp P a e.w (Lift w0 M K) Q := by
  have hv := h.ev x; rw [hx] at hv
  obtain ⟨hg, ad, hxv, hq⟩ := hv
  simp at hxv
  have hR := rd_spec (st := st) (l := l) (g := g) (p := p) hp
  have had := hq (st.blk l) (st.rd l g) (by rw [h.R]; exact hR)
  subst had
  have hy := VRep_cells hvp (h.ev y)
  have hlen := Rep_length hvp hy
  obtain ⟨C, T', hb, hsz, hgood⟩ := h.store hR hin hp hvp hy (by rw [hlen, hs1, hs2])
  rw [ho] at hsz hgood
  have hcs : (a.eval y).cells.size = n := by rw [← hs2, ← hlen]; simp
  refine wp_skipped (w' := World.putRow e.w (st.blk l) o (a.eval y).cells.toList) ?_ ⟨_, hK, _, rfl, hgood.put (by simpa [St.dstOk, St.wr] using hd) trivial⟩
  simp only [execOp]; rw [hxv, Sem.run_bind]
  have : (Instr.storeAt T (.pointer (some ⟨st.blk l, o, none⟩)) (a.eval y)).run P e.w = .ok () (World.putRow e.w (st.blk l) o (a.eval y).cells.toList) := by
    unfold Instr.storeAt
    rw [Sem.run_bind]
    show (Result.ok _ e.w).andThen _ = _
    rw [Result.andThen_ok]
    exact run_storeVar (by rw [ht, hcs]) hb (by simpa using hsz) (Rep_leaf hy)
  rw [this]; rfl

/-- a new root -/
def St.new (st : St) (l g b : Nat) (d : D) : St := { st with n := b + 1, R := upd st.R l (some (g, b, d)) }

theorem Keep.alloc {w0 w : World} {M : Nat → Prop} (h : Keep w0 M w) (o : Obj) : Keep w0 M (w.alloc o) :=
  ⟨h.os, h.tape, h.output, by have := h.size; simp; omega, fun k hk hm => by rw [heap_alloc_old _ _ _ (by have := h.size; omega)]; exact h.block k hk hm, fun k C T z hC => by
    obtain ⟨C', h1, h2⟩ := h.cell k C T z hC
    have hlt : k < w.heap.size := by
      rcases Nat.lt_or_ge k w.heap.size with h | h
      · exact h
      · rw [Array.getElem?_eq_none h] at h1; cases h1
    exact ⟨C', by rw [heap_alloc_old _ _ _ hlt]; exact h1, h2⟩⟩

/-- a new block that is a root from now on -/
theorem Good.newRootC (h : Good w0 M st e a) (l : Nat) {d : D} {cs : Array Value} {ds : List Value} (T : TypeId) (hp : d.plain) (hr : Rep e d ds) (hpre : ∀ (j : Nat) (v : Value), ds[j]? = some v → cs[j]? = some v) :
    Good w0 M (st.new l e.G e.w.heap.size d) ⟨(st.new l e.G e.w.heap.size d).R, e.G + 1, e.P, e.w.alloc (.cells cs T (0, 0))⟩ a := by
  have hle : e.le ⟨(st.new l e.G e.w.heap.size d).R, e.G + 1, e.P, e.w.alloc (.cells cs T (0, 0))⟩ := by
    refine ⟨Nat.le_succ _, fun _ h => h, fun k hk => heap_alloc_old _ _ _ (h.P k hk), fun l' g' b' d' hg' hl' => ?_, fun _ _ k _ _ _ C' T' z hk => ?_⟩
    · have hl'' : upd st.R l (some (e.G, e.w.heap.size, d)) l' = some (g', b', d') := hl'
      rw [h.R]
      by_cases hll : l' = l
      · subst hll
        rw [upd_same] at hl''
        simp only [Option.some.injEq, Prod.mk.injEq] at hl''
        omega
      · rw [upd_ne _ _ hll] at hl''; exact ⟨d', hl''⟩
    · have hlt : k < e.w.heap.size := by
        rcases Nat.lt_or_ge k e.w.heap.size with h | h
        · exact h
        · rw [Array.getElem?_eq_none h] at hk; cases hk
      exact ⟨C', z, by rw [← hk]; exact heap_alloc_old _ _ _ hlt, rfl⟩
  refine ⟨rfl, h.N, h.df, fun t => VRep_le hle (h.slot t), ?_, ?_, ?_, ?_, ?_, ?_, ?_⟩
  · intro l' g' b' d' hl'
    have hl'' : upd st.R l (some (e.G, e.w.heap.size, d)) l' = some (g', b', d') := hl'
    by_cases hll : l' = l
    · subst hll
      rw [upd_same] at hl''
      simp only [Option.some.injEq, Prod.mk.injEq] at hl''
      obtain ⟨rfl, rfl, rfl⟩ := hl''
      exact ⟨Nat.lt_succ_self _, fun hP => by have := h.P _ hP; omega, hp, cs, T, ds, heap_alloc_new _ _, Rep_le hle hr, hpre⟩
    · rw [upd_ne _ _ hll] at hl''
      obtain ⟨hg', hro'⟩ := h.root _ _ _ _ hl''
      refine ⟨Nat.lt_succ_of_lt hg', hro'.np, hro'.plain, ?_⟩
      obtain ⟨C', T', cs', hb', hrep', hcs'⟩ := hro'.row
      have hlt : b' < e.w.heap.size := by
        rcases Nat.lt_or_ge b' e.w.heap.size with h | h
        · exact h
        · rw [Array.getElem?_eq_none h] at hb'; cases hb'
      exact ⟨C', T', cs', by rw [← hb']; exact heap_alloc_old _ _ _ hlt, Rep_le hle hrep', hcs'⟩
  · intro l' g' b' d' hl'
    have hl'' : upd st.R l (some (e.G, e.w.heap.size, d)) l' = some (g', b', d') := hl'
    by_cases hll : l' = l
    · subst hll
      rw [upd_same] at hl''
      simp only [Option.some.injEq, Prod.mk.injEq] at hl''
      rw [← hl''.2.1]; exact .inl h.keep.size
    · rw [upd_ne _ _ hll] at hl''; exact h.own _ _ _ _ hl''
  · have lt : ∀ l3 g3 b3 d3, st.R l3 = some (g3, b3, d3) → b3 < e.w.heap.size := by
      intro l3 g3 b3 d3 h3
      obtain ⟨_, hro⟩ := h.root _ _ _ _ h3
      obtain ⟨C', T', cs', hb', _⟩ := hro.row
      rcases Nat.lt_or_ge b3 e.w.heap.size with h | h
      · exact h
      · rw [Array.getElem?_eq_none h] at hb'; cases hb'
    intro l1 l2 g1 g2 b' d1 d2 h1 h2
    have h1' : upd st.R l (some (e.G, e.w.heap.size, d)) l1 = some (g1, b', d1) := h1
    have h2' : upd st.R l (some (e.G, e.w.heap.size, d)) l2 = some (g2, b', d2) := h2
    by_cases hl1 : l1 = l <;> by_cases hl2 : l2 = l
    · omega
    · subst hl1
      rw [upd_same] at h1'; rw [upd_ne _ _ hl2] at h2'
      simp only [Option.some.injEq, Prod.mk.injEq] at h1'
      have := lt _ _ _ _ h2'; omega
    · subst hl2
      rw [upd_same] at h2'; rw [upd_ne _ _ hl1] at h1'
      simp only [Option.some.injEq, Prod.mk.injEq] at h2'
      have := lt _ _ _ _ h1'; omega
    · rw [upd_ne _ _ hl1] at h1'; rw [upd_ne _ _ hl2] at h2'
      exact h.inj _ _ _ _ _ _ _ h1' h2'
  · intro k hk; have := h.P k hk; simp; omega
  · exact h.keep.alloc _
  · simp [St.new]
  · exact h.per

theorem Good.newRoot (h : Good w0 M st e a) (l : Nat) {d : D} {cs : Array Value} (T : TypeId) (hp : d.plain) (hr : Rep e d cs.toList) :
    Good w0 M (st.new l e.G e.w.heap.size d) ⟨(st.new l e.G e.w.heap.size d).R, e.G + 1, e.P, e.w.alloc (.cells cs T (0, 0))⟩ a :=
  h.newRootC l T hp hr fun j v hj => by simpa using hj

/-- the zero of a type -/
def ZeroOk (P : Program) (T : TypeId) (z : D) : Prop := z.plain ∧ ∃ i v, P.info? T = some i ∧ i.zero = some v ∧ ∀ e, VRep e z v

theorem op_alloc (h : Good w0 M st e a) (T : TypeId) {l : Nat} {z : D} (hl : dst = some l) (hd : st.dstOk dst) (hz : ZeroOk P T z) (hK : ∀ g b, st.n ≤ b → K ((st.new l g b z).put (some l) (.ptr l g 0 []))) :
    (Oper.mk dst (.alloc T) ty pos after gd).wp P a e.w (Lift w0 M K) Q := by
  subst hl
  obtain ⟨hzp, i, v, hi, hv, hz⟩ := hz
  have hr := VRep_cells hzp (hz e)
  have hgood := h.newRoot l (cs := v.cells) T hzp hr
  refine wp_value (v := .pointer (some ⟨e.w.heap.size, 0, none⟩)) (w' := e.w.alloc (.cells v.cells T (0, 0))) ?_ ⟨_, hK e.G e.w.heap.size h.n, _, rfl, hgood.put (by simpa [St.dstOk, St.new] using hd) ?_⟩
  · simp only [execOp, Instr.alloc]
    rw [Sem.run_bind, Sem.run_bind]
    have : (zeroValue T).run P e.w = .ok v e.w := by
      unfold zeroValue
      rw [Sem.run_bind, run_typeInfo hi, Result.andThen_ok, hv]; rfl
    rw [this, Result.andThen_ok]
    rfl
  · refine ⟨Nat.lt_succ_self _, _, rfl, fun b d hb => ?_⟩
    have hb' : upd st.R l (some (e.G, e.w.heap.size, z)) l = some (e.G, b, d) := hb
    rw [upd_same] at hb'
    simp only [Option.some.injEq, Prod.mk.injEq] at hb'
    rw [hb'.2.1]

theorem op_box (h : Good w0 M st e a) (T : TypeId) (x : Operand) {l : Nat} (hl : dst = some l) (hd : st.dstOk dst) (hp : (st.ev x).plain) (hK : ∀ g b, st.n ≤ b → K ((st.new l g b (st.ev x)).put (some l) (.ptr l g 0 []))) :
    (Oper.mk dst (.box T x) ty pos after gd).wp P a e.w (Lift w0 M K) Q := by
  subst hl
  have hr := VRep_cells hp (h.ev x)
  have hgood := h.newRoot l (cs := (a.eval x).cells) T hp hr
  refine wp_value (v := .pointer (some ⟨e.w.heap.size, 0, none⟩)) (w' := e.w.alloc (.cells (a.eval x).cells T (0, 0))) rfl ⟨_, hK e.G e.w.heap.size h.n, _, rfl, hgood.put (by simpa [St.dstOk, St.new] using hd) ?_⟩
  refine ⟨Nat.lt_succ_self _, _, rfl, fun b d hb => ?_⟩
  have hb' : upd st.R l (some (e.G, e.w.heap.size, st.ev x)) l = some (e.G, b, d) := hb
  rw [upd_same] at hb'
  simp only [Option.some.injEq, Prod.mk.injEq] at hb'
  rw [hb'.2.1]

end ops
end Go.Proofs.Ytjaddgkhlmallaa.IM
