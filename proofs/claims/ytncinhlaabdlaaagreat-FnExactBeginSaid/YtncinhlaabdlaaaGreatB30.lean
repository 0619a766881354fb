/- Several of my texts in one module (merge.py). -/
import Derived.Test.YtncinhlaabdlaaaGreatA3
section
/- A slice that lies in a root's content becomes a root; the entry of a function that is handed a pointer to a struct with such a slice. -/
namespace Go.Proofs.YtncinhlaabdlaaaGreat.IM
open Go Go.Proofs Go.RowKit
set_option linter.unusedVariables false
set_option linter.unusedSimpArgs false
set_option maxHeartbeats 2000000
set_option maxRecDepth 20000

theorem Into.thawR {w0 : World} {M : Fr} {st : St} {K : St → Prop} (h : ThawR (wr w0 M) st (fun st' => Into w0 M st' K)) : Into w0 M st K := fun a w hs => by
  obtain ⟨st', h1, h2⟩ := hs.thawR (fun _ h => h) h
  exact h1 a w h2

section
variable {P : Program}
/-- the entry of a function that is handed a pointer to a struct with a slice in field i0: both are roots -/
theorem bcall_intro_sl {f : FuncId} {fn : Func} {c : Code} {rs : List ResultVar} {t n sz i0 : Nat} {kd : Kd} {fe q : Nat → D} {rest : List D} {Q : Nat → Nat → D → D → Prop} (hf : P.funcs[f]? = some fn) (hb : fn.body = some c) (hnm : (fn.name == "runtime.NumGoroutine") = false)
    (hrs : fn.results = rs.toArray) (hlen : rs.length ≤ 4) (hN : rest.length + 1 ≤ fn.ntmps) (hi0 : i0 < kd.cnt) (hq : q i0 = .sl t true n sz fe) (hpf : ∀ i, i < kd.cnt → i ≠ i0 → (q i).free t) (hfree : ∀ i, i < n → (fe i).free t) (hx : ∀ x ∈ rest, x.free t)
    (h : ∀ w0 M n0 gb g, (∀ b, n0 ≤ b → wr w0 M b) → (∀ b ∈ (D.sl t true n sz fe).tl, wr w0 M b) → (∀ a ∈ (D.node kd q) :: rest, a.data → a.tags (· < n0)) → gb < n0 →
      IWp P w0 M c (bpend P rs n0 Q (.node kd q) gb) ⟨fn.ntmps, n0, nthD (.ptr 1000 0 0 [] :: rest), upd (upd (fun _ => none) 1000 (some (0, gb, .node kd (upd q i0 (.msl 1001 g 0 [] 0 n sz))))) 1001 (some (g, t, .node (.arr n sz) fe))⟩) : BCall P f (.sl t true n sz fe) (.node kd q) rest Q := by
  refine bcall_intro hf hb hnm hrs hlen hN fun w0 M n0 gb hW hS hT hgb => iwp_into (Into.thawR ⟨t, n, sz, fe, 1001, hS t (by simp [D.tl]), rfl, hfree, ⟨1000, 0, gb, .node kd q, rfl, .node _ _ i0 hi0 (by rw [hq]; exact .here)⟩, fun g =>
    ⟨nthD (.ptr 1000 0 0 [] :: rest), upd (upd (fun _ => none) 1000 (some (0, gb, .node kd (upd q i0 (.msl 1001 g 0 [] 0 n sz))))) 1001 (some (g, t, .node (.arr n sz) fe)), fun j => ?_, fun l' => ?_, Into.of (h w0 M n0 gb g hW hS hT hgb)⟩⟩)
  · match j with
    | 0 => exact .free _ trivial
    | j + 1 =>
      show Thaw _ _ _ _ _ _ (nthD rest j) (nthD rest j)
      rcases Nat.lt_or_ge j rest.length with hj | hj
      · refine .free _ ?_
        rw [← nthD_getD, List.getD_eq_getElem?_getD, List.getElem?_eq_getElem hj]
        exact hx _ (List.getElem_mem hj)
      · rw [nthD_ge _ _ hj]; exact .drop _
  · by_cases hl : l' = 1001
    · subst hl; exact .inr (.inl ⟨rfl, upd_same _ _ _⟩)
    · by_cases hl' : l' = 1000
      · subst hl'
        refine .inr (.inr ⟨hl, 0, gb, .node kd q, .node kd (upd q i0 (.msl 1001 g 0 [] 0 n sz)), rfl, by rw [upd_ne _ _ hl, upd_same], trivial, .node _ _ _ fun i hi => ?_⟩)
        by_cases hii : i = i0
        · subst hii; rw [upd_same, hq]; exact .here
        · rw [upd_ne _ _ hii]; exact .free _ (hpf i hi hii)
      · exact .inl (by rw [upd_ne _ _ hl, upd_ne _ _ hl'])
end
end Go.Proofs.YtncinhlaabdlaaaGreat.IM
end

section
/- A call that answers a pointer to a struct of its own: the struct is a root of the caller. -/
namespace Go.Proofs.YtncinhlaabdlaaaGreat.IM
open Go Go.Proofs Go.RowKit
set_option linter.unusedVariables false
set_option linter.unusedSimpArgs false
set_option maxHeartbeats 2000000
set_option maxRecDepth 20000

def PtrOut (A : D → Prop) (_n0 _n1 : Nat) (outs : List D) (r : D) : Prop := ∃ d, outs = [d] ∧ r = .ptr 1000 0 0 [] ∧ d.still ∧ d.plain ∧ A d

section
variable {P : Program} {f : Nat} {cs : Nat → D} {xs : List Operand} {dst : Option Tmp} {ev : Operand → D} {R : Roots} {n : Nat} {k : Roots → Nat → D → Prop} {Mk : Prop}
theorem xcall_ptr {l : Nat} {args : List D} {A : D → Prop} (h : ICall P f args [] (PtrOut A)) (hl : l = 2000 + 50 * dst.getD 0)
    (hargs : xs.map ev = args) (hst : stillL args)
    (hk : ∀ n1 d G b', n ≤ n1 → d.still → d.plain → A d → b' < n1 → n ≤ b' → k (upd R l (some (G, b', d))) n1 (.ptr l G 0 [])) : XCallT P f 0 cs xs dst ev R n k Mk := by
  refine .inl (.inl ⟨[], by simp, fun l' hl' => absurd hl' (by simp), fun l' hl' => absurd hl' (by simp), ?_⟩)
  have e1 : ((xs.map fun x => rl 9 (labIn R []) (ev x)) ++ (List.range 0).map fun i => rl 9 (labIn R []) (cs i)) = args := by
    rw [List.range_zero, List.map_nil, List.append_nil]
    have : (xs.map fun x => rl 9 (labIn R []) (ev x)) = (xs.map ev).map (rl 9 (labIn R [])) := by rw [List.map_map]; rfl
    rw [this, hargs, still_map hst]
  rw [e1, List.map_nil]
  refine h.mono ?_
  rintro n0 n1 outs r h01 ⟨d, rfl, rfl, hs, hpl, hA⟩ hn
  have hlab : outLab dst [] 0 = l := by rw [hl]; simp [outLab]
  refine ⟨by simp, fun G bs hbs => ⟨fun d' hd => ?_, ?_⟩⟩
  · rw [List.mem_singleton.1 hd, rl_still hs]; exact hpl
  · obtain ⟨h1, h2⟩ := hbs 0 (by simp)
    have h3 : n ≤ bs 0 := by
      rcases h2 with h | ⟨l', hl', h⟩
      · exact h
      · exact absurd hl' (by simp)
    have e3 : addL (remL R []) (labOut [d].length (outLab dst []) G) G (outLab dst []) bs 0 [d] = upd R l (some (G, bs 0, d)) := by
      simp only [addL, remL, hlab]
      rw [rl_still hs]
    have e4 : rl 9 (labOut [d].length (outLab dst []) G) (.ptr 1000 0 0 []) = .ptr l G 0 [] := by
      rw [rl_ptr, outTo _ _ _ (by simp), hlab]
    rw [e3, e4]
    exact hk n1 d G (bs 0) (Nat.le_trans hn h01) hs hpl hA h1 h3
end

def PEnd (P : Program) (rs : List ResultVar) (A : D → Prop) (st : St) : Prop :=
  (∀ r ∈ rs, retOk P st r) ∧ ∃ l g b d, retV st rs = .ptr l g 0 [] ∧ st.R l = some (g, b, d) ∧ d.still ∧ d.plain ∧ A d
def ppend (P : Program) (rs : List ResultVar) (A : D → Prop) : Exit → St → Prop
  | .normal, st => PEnd P rs A st
  | .ret, st => PEnd P rs A st
  | _, _ => False
@[go_sem] theorem ppend_ret (P : Program) (rs : List ResultVar) (A : D → Prop) (st : St) : ppend P rs A .ret st = PEnd P rs A st := rfl
@[go_sem] theorem ppend_normal (P : Program) (rs : List ResultVar) (A : D → Prop) (st : St) : ppend P rs A .normal st = PEnd P rs A st := rfl
theorem ppend_pendI {P : Program} {rs : List ResultVar} {n0 : Nat} {A : D → Prop} {x : Exit} {st : St} (h : ppend P rs A x st) : pendI P rs n0 (PtrOut A) x st := by
  have key : PEnd P rs A st → ∃ os : List Nat, os.Nodup ∧ (∀ l ∈ os, (st.R l).isSome = true) ∧ (∀ l ∈ os, (rl 9 (labExit st.R os) (cntR st.R l)).plain) ∧ (∀ r ∈ rs, retOk P st r) ∧
      ∀ n1, st.n ≤ n1 → Facts st n1 → PtrOut A n0 n1 (os.map fun l => rl 9 (labExit st.R os) (cntR st.R l)) (rl 9 (labExit st.R os) (retV st rs)) := by
    rintro ⟨h1, l, g, b, d, hv, hR, hs, hpl, hA⟩
    have hcnt : cntR st.R l = d := by simp [cntR, hR]
    have hex : labExit st.R [l] l g = .to 1000 0 := by simp [labExit, hR, List.idxOf?, List.findIdx?_cons]
    refine ⟨[l], by simp, fun l' hl' => by rw [List.mem_singleton.1 hl', hR]; rfl, fun l' hl' => by rw [List.mem_singleton.1 hl', hcnt, rl_still hs]; exact hpl, h1, fun n1 _ _ => ⟨d, ?_, ?_, hs, hpl, hA⟩⟩
    · rw [List.map_cons, List.map_nil, hcnt, rl_still hs]
    · rw [hv, rl_ptr, hex]
  cases x with
  | normal => exact key h
  | ret => exact key h
  | _ => exact h.elim
section
variable {P : Program}
theorem iput_ptr {f : FuncId} {fn : Func} {c : Code} {rs : List ResultVar} {args : List D} {A : D → Prop} (hf : P.funcs[f]? = some fn) (hb : fn.body = some c) (hnm : (fn.name == "runtime.NumGoroutine") = false)
    (hrs : fn.results = rs.toArray) (hlen : rs.length ≤ 4) (hN : args.length ≤ fn.ntmps)
    (h : ∀ w0 M n0, (∀ b, n0 ≤ b → wr w0 M b) → (∀ a ∈ args, a.data → a.tags (· < n0)) → IWp P w0 M c (ppend P rs A) (St.start fn.ntmps n0 args fun _ => none)) : ICall P f args [] (PtrOut A) := by
  refine icall_intro_t hf hb hnm hrs hlen hN fun w0 M n0 gb hW hT => ?_
  have hnil : InsR gb [] = fun _ => none := by funext l; simp [InsR]
  rw [hnil]
  exact iwp_mono (h w0 M n0 hW hT) fun x st hq => ppend_pendI hq
end

theorem and255_rg (a : Int) : 0 ≤ bits .and .i64 a 255 ∧ bits .and .i64 a 255 ≤ 255 := by
  have h : (BitVec.ofInt 64 a &&& BitVec.ofInt 64 255).toNat ≤ 255 := by rw [BitVec.toNat_and]; exact Nat.le_trans Nat.and_le_right (by decide)
  have e : bits .and .i64 a 255 = IntKind.i64.wrap ((BitVec.ofInt 64 a &&& BitVec.ofInt 64 255).toNat : Int) := rfl
  rw [e, IntKind.wrap_i64]; omega
theorem ex_and255 (P : Program) (a : Int) : ∃ v : Int, (∀ T, bin P T .and (.int .i64 a) (.int .i64 255) = some (.int .i64 v)) ∧ 0 ≤ v ∧ v ≤ 255 := ⟨_, fun T => bin_and P T _ _ _, (and255_rg a).1, (and255_rg a).2⟩
theorem ex_and (P : Program) (a b : Int) : ∃ v : Int, ∀ T, bin P T .and (.int .i64 a) (.int .i64 b) = some (.int .i64 v) := ⟨_, fun T => bin_and P T _ _ _⟩
theorem ex_xor (P : Program) (a b : Int) : ∃ v : Int, ∀ T, bin P T .xor (.int .i64 a) (.int .i64 b) = some (.int .i64 v) := ⟨_, fun T => bin_xor P T _ _ _⟩
theorem ex_wrap (a : Int) : ∃ v : Int, IntKind.i64.wrap a = v := ⟨_, rfl⟩
end Go.Proofs.YtncinhlaabdlaaaGreat.IM
end

section
/- Answers of three; two values whose blocks are apart; a slice of a root's content is melted at any place. Nothing of a program is in it. -/
namespace Go.Proofs.YtncinhlaabdlaaaGreat.IM
open Go Go.Proofs Go.RowKit
set_option linter.unusedVariables false
set_option linter.unusedSimpArgs false
set_option maxHeartbeats 2000000
set_option maxRecDepth 20000

inductive Three (A : D → D → Prop) (c : D) : D → Prop
  | mk (a b : D) (h : A a b) : Three A c (.tup 3 (nthD [a, b, c]))
  | no (r : D) (h : False) : Three A c r
theorem Three.out {A : D → D → Prop} {c r : D} (h : Three A c r) : ∃ a b, r = .tup 3 (nthD [a, b, c]) ∧ A a b := by
  cases h with
  | mk a b h => exact ⟨a, b, rfl, h⟩
  | no _ h => exact h.elim
theorem Three.of {A : D → D → Prop} {c c' a b : D} (h : A a b) (hc : c' = c) : Three A c (.tup 3 (nthD [a, b, c'])) := by subst hc; exact .mk a b h
/-- two values with blocks of their own -/
structure Own2 (lo hi : Nat) (a b : D) : Prop where
  oa : Own lo hi a
  ob : Own lo hi b
  ap : ∀ t ∈ a.tl, t ∉ b.tl
theorem Own2.mono {lo lo' hi hi' : Nat} {a b : D} (h : Own2 lo hi a b) (h1 : lo' ≤ lo) (h2 : hi ≤ hi') : Own2 lo' hi' a b := ⟨h.oa.mono h1 h2, h.ob.mono h1 h2, h.ap⟩
theorem Own2.of {lo m1 m2 hi : Nat} {a b : D} (ha : Own lo m1 a) (hb : Own m2 hi b) (h1 : m1 ≤ m2) (h2 : m1 ≤ hi) (h3 : lo ≤ m2) : Own2 lo hi a b :=
  ⟨ha.mono (Nat.le_refl _) h2, hb.mono h3 (Nat.le_refl _), fun t ht ht' => by have := ha.rg t ht; have := hb.rg t ht'; omega⟩
theorem Own2.plain {lo hi : Nat} {a b : D} (ha : Own lo hi a) (hb : b.tl = []) (hw : b.whole) : Own2 lo hi a b := ⟨ha, ⟨fun t ht => by rw [hb] at ht; simp at ht, by rw [hb]; simp, hw⟩, fun t _ => by rw [hb]; simp⟩
theorem Own2.tags {lo hi : Nat} {a b c : D} (h : Own2 lo hi a b) (hc : c.tags (lo ≤ ·)) : (D.tup 3 (nthD [a, b, c])).tags (lo ≤ ·) := fun i hi => by
  match i, hi with
  | 0, _ => exact h.oa.tags
  | 1, _ => exact h.ob.tags
  | 2, _ => exact hc
theorem carry_two {lo hi : Nat} {a b d' : D} (h : Own2 lo hi a b) : Carry a d' b b := .apart _ (tags_of_tl (whole_data h.ob.wh) fun t ht hx => h.ap t hx ht)
theorem carry_two' {lo hi : Nat} {a b d' : D} (h : Own2 lo hi a b) : Carry b d' a a := .apart _ (tags_of_tl (whole_data h.oa.wh) fun t ht hx => h.ap t ht hx)
theorem tags_three {a b : D} {c : Value} {p : Nat → Prop} (ha : a.tags p) (hb : b.tags p) : (D.tup 3 (nthD [a, b, .lit c])).tags p := fun i hi => by
  match i, hi with
  | 0, _ => exact ha
  | 1, _ => exact hb
  | 2, _ => trivial
end Go.Proofs.YtncinhlaabdlaaaGreat.IM
end

section
/- A slice that hangs on a root is melted: at a function's entry, behind a call. Nothing of a program is in it. -/
namespace Go.Proofs.YtncinhlaabdlaaaGreat.IM
open Go Go.Proofs Go.RowKit
set_option linter.unusedVariables false
set_option linter.unusedSimpArgs false
set_option maxHeartbeats 2000000
set_option maxRecDepth 20000

theorem free_nthD {t : Nat} : ∀ {l : List D}, (∀ x ∈ l, x.free t) → ∀ j, (nthD l j).free t
  | [], _, j => by cases j <;> trivial
  | x :: l, h, 0 => h x (by simp)
  | x :: l, h, j + 1 => free_nthD (l := l) (fun y hy => h y (by simp [hy])) j
theorem plain_node (k : Kd) (f : Nat → D) : (D.node k f).plain := trivial
theorem has_eq {x d : D} (h : d = x) : Has x d := by subst h; exact .here
theorem thaw_eq {t m sz l g : Nat} {f : Nat → D} {d : D} (h : d = .sl t true m sz f) : Thaw t m sz f l g d (.msl l g 0 [] 0 m sz) := by subst h; exact .here
theorem thaw_upd {t m sz l g i0 : Nat} {f p : Nat → D} {k : Kd} {x' : D} (h : Thaw t m sz f l g (p i0) x') (hf : ∀ i, i < k.cnt → i ≠ i0 → (p i).free t) : Thaw t m sz f l g (.node k p) (.node k (upd p i0 x')) := by
  refine .node _ _ _ fun i hi => ?_
  by_cases hii : i = i0
  · subst hii; rw [upd_same]; exact h
  · rw [upd_ne _ _ hii]; exact .free _ (hf i hi hii)
theorem own_free_ne {lo hi t i i0 : Nat} {k : Kd} {p : Nat → D} (ho : Own lo hi (.node k p)) (h0 : i0 < k.cnt) (ht : t ∈ (p i0).tl) (hi : i < k.cnt) (hne : i ≠ i0) : (p i).free t :=
  free_nil (ho.node.wh i hi) fun hx => by
    rcases Nat.lt_or_gt_of_ne hne with h | h
    · exact ho.node.dj i i0 h h0 t hx ht
    · exact ho.node.dj i0 i h hi t ht hx
@[go_sem] theorem labB_ne (R : Roots) (l g : Nat) (h : l ≠ 1000) : labB R l g = labView R l g := if_neg h
theorem tl_of_tags {p : Nat → Prop} {d : D} : d.data → d.tags p → ∀ t ∈ d.tl, p t := by
  induction d with
  | lit v => intro _ _ t ht; simp [D.tl] at ht
  | nil => intro _ _ t ht; simp [D.tl] at ht
  | any => intro _ _ t ht; simp [D.tl] at ht
  | sl t' zb n sz f ih =>
    intro hd h t ht
    simp only [D.tl, List.mem_cons, List.mem_flatMap, List.mem_range] at ht
    rcases ht with rfl | ⟨i, hi, hx⟩
    · exact h.1
    · exact ih i (hd i hi) (h.2 i hi) t hx
  | node k f ih =>
    intro hd h t ht
    simp only [D.tl, List.mem_flatMap, List.mem_range] at ht
    obtain ⟨i, hi, hx⟩ := ht
    exact ih i (hd i hi) (h i hi) t hx
  | tup n f ih =>
    intro hd h t ht
    simp only [D.tl, List.mem_flatMap, List.mem_range] at ht
    obtain ⟨i, hi, hx⟩ := ht
    exact ih i (hd i hi) (h i hi) t hx
  | _ => intro hd; exact hd.elim
theorem own_lt {lo hi n0 : Nat} {d : D} (h : Own lo hi d) (ht : d.tags (· < n0)) : Own (min lo n0) n0 d :=
  ⟨fun t hx => ⟨by have := (h.rg t hx).1; omega, tl_of_tags (whole_data h.wh) ht t hx⟩, h.nd, h.wh⟩
/-- no root's content hangs on block t -/
def OkR (t : Nat) (R : Roots) : Prop := ∀ l g b x, R l = some (g, b, x) → x.plain ∧ x.free t
theorem OkR.none (t : Nat) : OkR t (fun _ => Option.none) := fun l g b x h => by cases h
theorem OkR.upd {t : Nat} {R : Roots} (h : OkR t R) {l g b : Nat} {x : D} (hp : x.plain) (hf : x.free t) : OkR t (IM.upd R l (some (g, b, x))) := fun l' g' b' x' hx => by
  by_cases hl : l' = l
  · subst hl; rw [upd_same] at hx
    simp only [Option.some.injEq, Prod.mk.injEq] at hx
    obtain ⟨rfl, rfl, rfl⟩ := hx
    exact ⟨hp, hf⟩
  · rw [upd_ne _ _ hl] at hx; exact h _ _ _ _ hx
theorem free_lit (t : Nat) (v : Value) : (D.lit v).free t := trivial
theorem free_ptr (t l g o : Nat) (p : List Nat) : (D.ptr l g o p).free t := trivial
/-- at a function's entry -/
theorem iwp_melt {P : Program} {w0 : World} {M : Fr} {c : Code} {Q : Exit → St → Prop} {N n t m sz l lq gq bq : Nat} {f s : Nat → D} {R R' : Roots} {xq : D} {xq' : Nat → D}
    (hW : wr w0 M t) (hl : R l = none) (hf : ∀ i, i < m → (f i).free t) (hq : R lq = some (gq, bq, xq)) (hhas : Has (.sl t true m sz f) xq) (hx : ∀ g, (xq' g).plain ∧ Thaw t m sz f l g xq (xq' g)) (hs : ∀ j, (s j).free t)
    (hne : lq ≠ l) (hR : ∀ l' g b x, R' l' = some (g, b, x) → l' ≠ lq → R l' = some (g, b, x) ∧ x.plain ∧ x.free t)
    (hk : ∀ g, IWp P w0 M c Q ⟨N, n, s, upd (upd R' lq (some (gq, bq, xq' g))) l (some (g, t, .node (.arr m sz) f))⟩) : IWp P w0 M c Q ⟨N, n, s, R⟩ := by
  refine iwp_into (Into.thawR ⟨t, m, sz, f, l, hW, hl, hf, ⟨lq, gq, bq, xq, hq, hhas⟩, fun g => ⟨s, upd (upd R' lq (some (gq, bq, xq' g))) l (some (g, t, .node (.arr m sz) f)), fun j => .free _ (hs j), fun l' => ?_, Into.of (hk g)⟩⟩)
  by_cases hll : l' = l
  · subst hll; exact .inr (.inl ⟨rfl, upd_same _ _ _⟩)
  · rw [upd_ne _ _ hll]
    by_cases hlq : l' = lq
    · subst hlq; rw [upd_same]
      exact .inr (.inr ⟨hll, gq, bq, xq, xq' g, hq, rfl, (hx g).1, (hx g).2⟩)
    · rw [upd_ne _ _ hlq]
      cases hxx : R' l' with
      | none => exact .inl rfl
      | some y =>
        obtain ⟨g0, b, x⟩ := y
        obtain ⟨h1, h2, h3⟩ := hR _ _ _ _ hxx hlq
        exact .inr (.inr ⟨hll, g0, b, x, x, h1, rfl, h2, .free _ h3⟩)
/-- behind a call -/
theorem conv_root {W : Nat → Prop} {K : St → Prop} {N n t m sz l lq gq bq : Nat} {f s : Nat → D} {R R' : Roots} {xq : D} {xq' : Nat → D} {dst : Option Tmp} {r : D}
    (hW : W t) (hl : R l = none) (hf : ∀ i, i < m → (f i).free t) (hq : R lq = some (gq, bq, xq)) (hhas : Has (.sl t true m sz f) xq) (hx : ∀ g, (xq' g).plain ∧ Thaw t m sz f l g xq (xq' g))
    (hs : ∀ j, (((St.mk N n s R).put dst r).s j).free t)
    (hne : lq ≠ l) (hR : ∀ l' g b x, R' l' = some (g, b, x) → l' ≠ lq → R l' = some (g, b, x) ∧ x.plain ∧ x.free t)
    (hk : ∀ g, K ((St.mk N n s (upd (upd R' lq (some (gq, bq, xq' g))) l (some (g, t, .node (.arr m sz) f)))).put dst r)) : Conv W K ((St.mk N n s R).put dst r) := by
  have eR : ((St.mk N n s R).put dst r).R = R := by cases dst <;> rfl
  have eP : ∀ R1, ((St.mk N n s R1).put dst r) = ⟨N, n, ((St.mk N n s R).put dst r).s, R1⟩ := fun R1 => by cases dst <;> rfl
  refine Conv.oneR ⟨t, m, sz, f, l, hW, by rw [eR]; exact hl, hf, ⟨lq, gq, bq, xq, by rw [eR]; exact hq, hhas⟩, fun g => ⟨((St.mk N n s R).put dst r).s, upd (upd R' lq (some (gq, bq, xq' g))) l (some (g, t, .node (.arr m sz) f)), fun j => .free _ (hs j), fun l' => ?_, ?_⟩⟩
  · rw [eR]
    by_cases hll : l' = l
    · subst hll; exact .inr (.inl ⟨rfl, upd_same _ _ _⟩)
    · rw [upd_ne _ _ hll]
      by_cases hlq : l' = lq
      · subst hlq; rw [upd_same]
        exact .inr (.inr ⟨hll, gq, bq, xq, xq' g, hq, rfl, (hx g).1, (hx g).2⟩)
      · rw [upd_ne _ _ hlq]
        cases hxx : R' l' with
        | none => exact .inl rfl
        | some y =>
          obtain ⟨g0, b, x⟩ := y
          obtain ⟨h1, h2, h3⟩ := hR _ _ _ _ hxx hlq
          exact .inr (.inr ⟨hll, g0, b, x, x, h1, rfl, h2, .free _ h3⟩)
  · have h2 := hk g
    rw [eP] at h2
    rw [eP R]
    exact h2
/-- a call that writes over nothing but the root that it is handed: all else stays as it is -/
theorem xcall_c {P : Program} {f : Nat} {cs : Nat → D} {xs : List Operand} {dst : Option Tmp} {ev : Operand → D} {R : Roots} {n : Nat} {k : Roots → Nat → D → Prop} {Mk : Prop}
    {d : D} {rest0 rest : List D} {Q : Nat → Nat → D → D → Prop} {l g b o : Nat} {q : List Nat} (h : BCall P f .nil d rest Q o q) (hargs : xs.map ev = .ptr l g o q :: rest0) (hview : rest0.map (rl 9 (labBV R l g)) = rest) (hR : R l = some (g, b, d)) (hst : d.still)
    (hk : ∀ n0 n1 d' r, n ≤ n0 → n0 ≤ n1 → Q n0 n1 d' r → k (wrR R l d') n1 r) : XCallT P f 0 cs xs dst ev R n k Mk :=
  .inl (.inr (.inr ⟨d, rest0, rest, Q, l, g, b, o, q, _, _, rfl, hargs, hview, hR, hst, h, fun t ht => .inl ht, fun t ht => .inl ht, hk⟩))
theorem xcall_cs {P : Program} {f : Nat} {cs : Nat → D} {xs : List Operand} {dst : Option Tmp} {ev : Operand → D} {R : Roots} {n : Nat} {k : Roots → Nat → D → Prop} {Mk : Prop}
    {d : D} {rest : List D} {Q : Nat → Nat → D → D → Prop} {l g b o : Nat} {q : List Nat} (h : BCall P f .nil d rest Q o q) (hargs : xs.map ev = .ptr l g o q :: rest) (hrest : stillL rest) (hR : R l = some (g, b, d)) (hst : d.still)
    (hk : ∀ n0 n1 d' r, n ≤ n0 → n0 ≤ n1 → Q n0 n1 d' r → k (wrR R l d') n1 r) : XCallT P f 0 cs xs dst ev R n k Mk :=
  xcall_c h hargs (still_mapBV hrest) hR hst hk
theorem free_pick {t : Nat} {s : Nat → D} : ∀ {K : List Nat}, (∀ j ∈ K, (s j).free t) → ∀ j, (pickS s K (fun _ => .any) j).free t
  | [], _, _ => trivial
  | k :: K, h, j => by
    show (upd (pickS s K fun _ => .any) k (s k) j).free t
    by_cases hj : j = k
    · subst hj; rw [upd_same]; exact h _ (List.mem_cons_self ..)
    · rw [upd_ne _ _ hj]; exact free_pick (fun j hj => h j (List.mem_cons_of_mem _ hj)) j
theorem free_put {N n t d : Nat} {s : Nat → D} {R : Roots} {r : D} (hs : ∀ j, (s j).free t) (hr : r.free t) : ∀ j, (((St.mk N n s R).put (some d) r).s j).free t := fun j => by
  show (upd s d r j).free t
  by_cases hj : j = d
  · subst hj; rw [upd_same]; exact hr
  · rw [upd_ne _ _ hj]; exact hs j
theorem upd_selfm {α : Type} (f : Nat → α) (k : Nat) : upd f k (f k) = f := by
  funext j; unfold upd; split
  · rename_i h; rw [h]
  · rfl
end Go.Proofs.YtncinhlaabdlaaaGreat.IM
end

section
/- A part of a value is another one: whose blocks these are. Nothing of a program is in it. -/
namespace Go.Proofs.YtncinhlaabdlaaaGreat.IM
open Go Go.Proofs Go.RowKit
set_option linter.unusedVariables false
set_option linter.unusedSimpArgs false
set_option maxHeartbeats 2000000
set_option maxRecDepth 20000

/-- d' has blocks of its own, which are of d or new (from m on) -/
structure Put (lo hi m : Nat) (d d' : D) : Prop where
  own : Own lo hi d'
  sub : ∀ t ∈ d'.tl, t ∈ d.tl ∨ m ≤ t
theorem Put.new {lo hi m : Nat} {d d' : D} (h : Own m hi d') (h1 : lo ≤ m) : Put lo hi m d d' := ⟨h.mono h1 (Nat.le_refl _), fun t ht => .inr (h.rg t ht).1⟩
theorem Put.refl {lo hi hi' m : Nat} {d : D} (h : Own lo hi d) (h2 : hi ≤ hi') : Put lo hi' m d d := ⟨h.mono (Nat.le_refl _) h2, fun t ht => .inl ht⟩
theorem Put.lit (lo hi m : Nat) (d : D) (v : Value) : Put lo hi m d (.lit v) := ⟨own_lit _ _ _, fun t ht => by simp [D.tl] at ht⟩
theorem tl_put {k : Kd} {f : Nat → D} {i t : Nat} {x : D} (h : t ∈ (D.node k (upd f i x)).tl) : t ∈ (D.node k f).tl ∨ t ∈ x.tl := by
  simp only [D.tl, List.mem_flatMap, List.mem_range] at h ⊢
  obtain ⟨j, hj, hx⟩ := h
  by_cases hji : j = i
  · subst hji; rw [upd_same] at hx; exact .inr hx
  · rw [upd_ne _ _ hji] at hx; exact .inl ⟨j, hj, hx⟩
theorem OwnN.put {lo hi hi' m n i : Nat} {f : Nat → D} {x : D} (h : OwnN lo hi n f) (h0 : i < n) (hx : Put lo hi' m (f i) x) (h1 : hi ≤ m) (h2 : hi ≤ hi') : OwnN lo hi' n (IM.upd f i x) := by
  have key : ∀ j, j < n → j ≠ i → ∀ t ∈ (f j).tl, t ∉ x.tl := fun j hj hne t ht ht' => by
    rcases hx.sub t ht' with h3 | h3
    · rcases Nat.lt_or_gt_of_ne hne with h4 | h4
      · exact h.dj j i h4 h0 t ht h3
      · exact h.dj i j h4 hj t h3 ht
    · have := h.rg j hj t ht; omega
  refine ⟨fun j hj t ht => ?_, fun j hj => ?_, fun a b hab hb t ht ht' => ?_, fun j hj => ?_⟩
  · by_cases e : j = i
    · subst e; rw [upd_same] at ht; exact hx.own.rg t ht
    · rw [upd_ne _ _ e] at ht; have := h.rg j hj t ht; omega
  · by_cases e : j = i
    · subst e; rw [upd_same]; exact hx.own.nd
    · rw [upd_ne _ _ e]; exact h.nd j hj
  · by_cases e : a = i
    · subst e
      rw [upd_same] at ht; rw [upd_ne _ _ (by omega)] at ht'
      exact key b hb (by omega) t ht' ht
    · rw [upd_ne _ _ e] at ht
      by_cases e2 : b = i
      · subst e2; rw [upd_same] at ht'; exact key a (by omega) e t ht ht'
      · rw [upd_ne _ _ e2] at ht'; exact h.dj a b hab hb t ht ht'
  · by_cases e : j = i
    · subst e; rw [upd_same]; exact hx.own.wh
    · rw [upd_ne _ _ e]; exact h.wh j hj
theorem Put.node {lo hi hi' m i : Nat} {k : Kd} {f : Nat → D} {x : D} (h : Own lo hi (.node k f)) (h0 : i < k.cnt) (hx : Put lo hi' m (f i) x) (h1 : hi ≤ m) (h2 : hi ≤ hi') : Put lo hi' m (.node k f) (.node k (upd f i x)) := by
  refine ⟨own_node (h.node.put h0 hx h1 h2), fun t ht => ?_⟩
  rcases tl_put ht with h3 | h3
  · exact .inl h3
  · exact (hx.sub t h3).imp (fun h4 => tl_child h0 h4) id
theorem Put.slc {lo hi hi' m i t n sz : Nat} {f : Nat → D} {x : D} (h : Own lo hi (.sl t true n sz f)) (h0 : i < n) (hx : Put lo hi' m (f i) x) (h1 : hi ≤ m) (h2 : hi ≤ hi') : Put lo hi' m (.sl t true n sz f) (.sl t true n sz (upd f i x)) := by
  obtain ⟨hN, ht1, ht2, _, hnt⟩ := h.sl
  refine ⟨own_sl (hN.put h0 hx h1 h2) ht1 (by omega) fun j hj hy => ?_, fun b hb => ?_⟩
  · by_cases e : j = i
    · subst e; rw [upd_same] at hy
      rcases hx.sub _ hy with h3 | h3
      · exact hnt j hj h3
      · omega
    · rw [upd_ne _ _ e] at hy; exact hnt j hj hy
  · simp only [D.tl, List.mem_cons, List.mem_flatMap, List.mem_range] at hb ⊢
    rcases hb with rfl | ⟨j, hj, hy⟩
    · exact .inl (.inl rfl)
    · by_cases e : j = i
      · subst e; rw [upd_same] at hy
        exact (hx.sub _ hy).imp (fun h3 => .inr ⟨j, hj, h3⟩) id
      · rw [upd_ne _ _ e] at hy; exact .inl (.inr ⟨j, hj, hy⟩)
theorem Put.trans {lo hi hi' m m' : Nat} {a b c : D} (h : Put lo hi m a b) (h' : Put lo hi' m' b c) (h1 : m ≤ m') : Put lo hi' m a c :=
  ⟨h'.own, fun t ht => (h'.sub t ht).elim (h.sub t) fun h3 => .inr (by omega)⟩
end Go.Proofs.YtncinhlaabdlaaaGreat.IM
end
