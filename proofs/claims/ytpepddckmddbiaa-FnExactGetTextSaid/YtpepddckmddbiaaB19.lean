/- Several of my texts in one module (merge.py). -/
import Derived.Test.YtpepddckmddbiaaA3
import Derived.Test.YtpepddckmddbiaaA4
import Derived.Test.YtpepddckmddbiaaA8
section
/- A slice that lies in a root's content becomes a root; the entry of a function that is handed a pointer to a struct with such a slice. -/
namespace Go.Proofs.Ytpepddckmddbiaa.IM
open Go Go.Proofs Go.RowKit
set_option linter.unusedVariables false
set_option linter.unusedSimpArgs false
set_option maxHeartbeats 2000000
set_option maxRecDepth 20000

def ThawR (W : Nat → Prop) (st : St) (K : St → Prop) : Prop :=
  ∃ t n sz f l, W t ∧ st.R l = none ∧ (∀ i, i < n → (f i).free t) ∧ (∃ lq gq bq xq, st.R lq = some (gq, bq, xq) ∧ Has (.sl t true n sz f) xq) ∧ ∀ g, ∃ (s' : Nat → D) (R' : Roots), (∀ j, Thaw t n sz f l g (st.s j) (s' j)) ∧
    (∀ l', R' l' = none ∨ (l' = l ∧ R' l' = some (g, t, .node (.arr n sz) f)) ∨ (l' ≠ l ∧ ∃ g0 b x x', st.R l' = some (g0, b, x) ∧ R' l' = some (g0, b, x') ∧ x'.plain ∧ Thaw t n sz f l g x x')) ∧
    K { N := st.N, n := st.n, s := s', R := R' }
theorem SR.thawR {w0 : World} {M : Fr} {st : St} {a : Act} {w : World} {K : St → Prop} {W : Nat → Prop} (hW : ∀ b, W b → w0.heap.size ≤ b ∨ M.m b) (hs : SR w0 M st a w) (h : ThawR W st K) : Lift w0 M K a w := by
  obtain ⟨e, rfl, hg⟩ := hs
  obtain ⟨t, n, sz, f, l, hWt, hRl, hfr, ⟨lq, gq, bq, xq, hRq, hhas⟩, h⟩ := h
  obtain ⟨s', R', hs', hR', hK⟩ := h e.G
  obtain ⟨Cq, Tq, csq, rq1, rq2, rq3⟩ := (hg.root _ _ _ _ hRq).2.row
  obtain ⟨cs, o, c, ps, h1, h2, h3, h4, h5, h6⟩ := rep_has hhas rq2
  obtain ⟨rfl, C, T, h7, h8⟩ := h6 rfl
  have hsp : ∀ l' g b x, R' l' = some (g, b, x) → (l' = l ∧ g = e.G ∧ b = t ∧ x = .node (.arr n sz) f) ∨ (l' ≠ l ∧ x.plain ∧ ∃ x0, st.R l' = some (g, b, x0) ∧ Thaw t n sz f l e.G x0 x) := by
    intro l' g b x hl'
    rcases hR' l' with h | ⟨h, h'⟩ | ⟨h, g0, b0, x0, x', q1, q2, q3, q4⟩
    · rw [h] at hl'; cases hl'
    · rw [h'] at hl'
      simp only [Option.some.injEq, Prod.mk.injEq] at hl'
      exact .inl ⟨h, hl'.1.symm, hl'.2.1.symm, hl'.2.2.symm⟩
    · rw [q2] at hl'
      simp only [Option.some.injEq, Prod.mk.injEq] at hl'
      obtain ⟨rfl, rfl, rfl⟩ := hl'
      exact .inr ⟨h, q3, x0, q1, q4⟩
  have hm : Melt t l e ⟨R', e.G + 1, fun b => e.P b ∧ b ≠ t, e.w⟩ := by
    refine ⟨rfl, fun b hb hne => ⟨hb, hne⟩, rfl, fun l' g b x hx hgl => ?_⟩
    rcases hsp l' g b x hx with ⟨_, h, _⟩ | ⟨_, _, x0, h, _⟩
    · omega
    · exact ⟨x0, by rw [hg.R]; exact h⟩
  have hl : ∀ b x, R' l = some (e.G, b, x) → b = t := by
    intro b x hx
    rcases hsp _ _ _ _ hx with ⟨_, _, h, _⟩ | ⟨h, _⟩
    · exact h
    · exact absurd rfl h
  have hnt : ∀ l' g b x, st.R l' = some (g, b, x) → b ≠ t := by
    rintro l' g b x hx rfl
    exact (hg.envroot hx).np h3
  refine ⟨_, hK, ⟨R', e.G + 1, fun b => e.P b ∧ b ≠ t, e.w⟩, rfl, rfl, hg.N, hg.df, fun j => vrep_thaw hm rfl hl (hs' j) (hg.slot j), ?_, ?_, ?_, fun b hb => hg.P b hb.1, hg.keep, hg.n, fun b hb => hg.per b hb.1⟩
  · intro l' g b x hx
    rcases hsp _ _ _ _ hx with ⟨rfl, rfl, rfl, rfl⟩ | ⟨hne, hxp, x0, q1, q2⟩
    · refine ⟨Nat.lt_succ_self _, fun hp => hp.2 rfl, trivial, C, T, flat n ps, h7, ⟨ps, fun i hi => ⟨(h4 i hi).1, rep_free hm (hfr i hi) (h4 i hi).2⟩, rfl⟩, fun j v hj => ?_⟩
      obtain ⟨C1, T1, z1, r1, r2⟩ := h5
      rw [h7] at r1
      simp only [Option.some.injEq, Obj.cells.injEq] at r1
      obtain ⟨rfl, _⟩ := r1
      simpa using r2 j v hj
    · obtain ⟨hgg, hro⟩ := hg.root _ _ _ _ q1
      obtain ⟨C1, T1, cs1, r1, r2, r3⟩ := hro.row
      exact ⟨Nat.lt_succ_of_lt hgg, fun hp => hro.np hp.1, hxp, C1, T1, cs1, r1, rep_thaw hm rfl hl q2 r2, r3⟩
  · intro l' g b x hx
    rcases hsp _ _ _ _ hx with ⟨rfl, rfl, rfl, rfl⟩ | ⟨hne, hxp, x0, q1, q2⟩
    · exact hW _ hWt
    · exact hg.own _ _ _ _ q1
  · intro l1 l2 g1 g2 b x1 x2 hx1 hx2
    rcases hsp _ _ _ _ hx1 with ⟨k1, k2, k3, k4⟩ | ⟨hne, hxp, x0, q1, q2⟩ <;> rcases hsp _ _ _ _ hx2 with ⟨k1', k2', k3', k4'⟩ | ⟨hne', hxp', x0', q1', q2'⟩
    · rw [k1, k1']
    · exact absurd k3 (hnt _ _ _ _ q1')
    · exact absurd k3' (hnt _ _ _ _ q1)
    · exact hg.inj _ _ _ _ _ _ _ q1 q1'

theorem Into.thawR {w0 : World} {M : Fr} {st : St} {K : St → Prop} (h : ThawR (wr w0 M) st (fun st' => Into w0 M st' K)) : Into w0 M st K := fun a w hs => by
  obtain ⟨st', h1, h2⟩ := hs.thawR (fun _ h => h) h
  exact h1 a w h2

section
variable {P : Program}
/-- the entry of a function that is handed a pointer to a struct with a slice in field i0: both are roots -/
theorem bcall_intro_sl {f : FuncId} {fn : Func} {c : Code} {rs : List ResultVar} {t n sz i0 : Nat} {kd : Kd} {fe q : Nat → D} {rest : List D} {Q : Nat → Nat → D → D → Prop} (hf : P.funcs[f]? = some fn) (hb : fn.body = some c) (hnm : (fn.name == "runtime.NumGoroutine") = false)
    (hrs : fn.results = rs.toArray) (hlen : rs.length ≤ 4) (hN : rest.length + 1 ≤ fn.ntmps) (hi0 : i0 < kd.cnt) (hq : q i0 = .sl t true n sz fe) (hpf : ∀ i, i < kd.cnt → i ≠ i0 → (q i).free t) (hfree : ∀ i, i < n → (fe i).free t) (hx : ∀ x ∈ rest, x.free t)
    (h : ∀ w0 M n0 gb g, (∀ b, n0 ≤ b → wr w0 M b) → (∀ b ∈ (D.sl t true n sz fe).tl, wr w0 M b) → (∀ a ∈ (D.node kd q) :: rest, a.data → a.tags (· < n0)) → gb < n0 →
      IWp P w0 M c (bpend P rs n0 Q (.node kd q) gb) ⟨fn.ntmps, n0, nthD (.ptr 1000 0 0 [] :: rest), upd (upd (fun _ => none) 1000 (some (0, gb, .node kd (upd q i0 (.msl 1001 g 0 [] 0 n sz))))) 1001 (some (g, t, .node (.arr n sz) fe))⟩) : BCall P f (.sl t true n sz fe) (.node kd q) rest Q := by
  refine bcall_intro hf hb hnm hrs hlen hN fun w0 M n0 gb hW hS hT hgb => iwp_into (Into.thawR ⟨t, n, sz, fe, 1001, hS t (by simp [D.tl]), rfl, hfree, ⟨1000, 0, gb, .node kd q, rfl, .node _ _ i0 hi0 (by rw [hq]; exact .here)⟩, fun g =>
    ⟨nthD (.ptr 1000 0 0 [] :: rest), upd (upd (fun _ => none) 1000 (some (0, gb, .node kd (upd q i0 (.msl 1001 g 0 [] 0 n sz))))) 1001 (some (g, t, .node (.arr n sz) fe)), fun j => ?_, fun l' => ?_, Into.of (h w0 M n0 gb g hW hS hT hgb)⟩⟩)
  · match j with
    | 0 => exact .free _ trivial
    | j + 1 =>
      show Thaw _ _ _ _ _ _ (nthD rest j) (nthD rest j)
      rcases Nat.lt_or_ge j rest.length with hj | hj
      · refine .free _ ?_
        rw [← nthD_getD, List.getD_eq_getElem?_getD, List.getElem?_eq_getElem hj]
        exact hx _ (List.getElem_mem hj)
      · rw [nthD_ge _ _ hj]; exact .drop _
  · by_cases hl : l' = 1001
    · subst hl; exact .inr (.inl ⟨rfl, upd_same _ _ _⟩)
    · by_cases hl' : l' = 1000
      · subst hl'
        refine .inr (.inr ⟨hl, 0, gb, .node kd q, .node kd (upd q i0 (.msl 1001 g 0 [] 0 n sz)), rfl, by rw [upd_ne _ _ hl, upd_same], trivial, .node _ _ _ fun i hi => ?_⟩)
        by_cases hii : i = i0
        · subst hii; rw [upd_same, hq]; exact .here
        · rw [upd_ne _ _ hii]; exact .free _ (hpf i hi hii)
      · exact .inl (by rw [upd_ne _ _ hl, upd_ne _ _ hl'])
end
end Go.Proofs.Ytpepddckmddbiaa.IM
end

section
/- A call that answers a pointer to a struct of its own: the struct is a root of the caller. -/
namespace Go.Proofs.Ytpepddckmddbiaa.IM
open Go Go.Proofs Go.RowKit
set_option linter.unusedVariables false
set_option linter.unusedSimpArgs false
set_option maxHeartbeats 2000000
set_option maxRecDepth 20000

def PtrOut (A : D → Prop) (_n0 _n1 : Nat) (outs : List D) (r : D) : Prop := ∃ d, outs = [d] ∧ r = .ptr 1000 0 0 [] ∧ d.still ∧ d.plain ∧ A d

section
variable {P : Program} {f : Nat} {cs : Nat → D} {xs : List Operand} {dst : Option Tmp} {ev : Operand → D} {R : Roots} {n : Nat} {k : Roots → Nat → D → Prop} {Mk : Prop}
theorem xcall_ptr {l : Nat} {args : List D} {A : D → Prop} (h : ICall P f args [] (PtrOut A)) (hl : l = 2000 + 50 * dst.getD 0)
    (hargs : xs.map ev = args) (hst : stillL args)
    (hk : ∀ n1 d G b', n ≤ n1 → d.still → d.plain → A d → b' < n1 → n ≤ b' → k (upd R l (some (G, b', d))) n1 (.ptr l G 0 [])) : XCallT P f 0 cs xs dst ev R n k Mk := by
  refine .inl (.inl ⟨[], by simp, fun l' hl' => absurd hl' (by simp), fun l' hl' => absurd hl' (by simp), ?_⟩)
  have e1 : ((xs.map fun x => rl 9 (labIn R []) (ev x)) ++ (List.range 0).map fun i => rl 9 (labIn R []) (cs i)) = args := by
    rw [List.range_zero, List.map_nil, List.append_nil]
    have : (xs.map fun x => rl 9 (labIn R []) (ev x)) = (xs.map ev).map (rl 9 (labIn R [])) := by rw [List.map_map]; rfl
    rw [this, hargs, still_map hst]
  rw [e1, List.map_nil]
  refine h.mono ?_
  rintro n0 n1 outs r h01 ⟨d, rfl, rfl, hs, hpl, hA⟩ hn
  have hlab : outLab dst [] 0 = l := by rw [hl]; simp [outLab]
  refine ⟨by simp, fun G bs hbs => ⟨fun d' hd => ?_, ?_⟩⟩
  · rw [List.mem_singleton.1 hd, rl_still hs]; exact hpl
  · obtain ⟨h1, h2⟩ := hbs 0 (by simp)
    have h3 : n ≤ bs 0 := by
      rcases h2 with h | ⟨l', hl', h⟩
      · exact h
      · exact absurd hl' (by simp)
    have e3 : addL (remL R []) (labOut [d].length (outLab dst []) G) G (outLab dst []) bs 0 [d] = upd R l (some (G, bs 0, d)) := by
      simp only [addL, remL, hlab]
      rw [rl_still hs]
    have e4 : rl 9 (labOut [d].length (outLab dst []) G) (.ptr 1000 0 0 []) = .ptr l G 0 [] := by
      rw [rl_ptr, outTo _ _ _ (by simp), hlab]
    rw [e3, e4]
    exact hk n1 d G (bs 0) (Nat.le_trans hn h01) hs hpl hA h1 h3
end

def PEnd (P : Program) (rs : List ResultVar) (A : D → Prop) (st : St) : Prop :=
  (∀ r ∈ rs, retOk P st r) ∧ ∃ l g b d, retV st rs = .ptr l g 0 [] ∧ st.R l = some (g, b, d) ∧ d.still ∧ d.plain ∧ A d
def ppend (P : Program) (rs : List ResultVar) (A : D → Prop) : Exit → St → Prop
  | .normal, st => PEnd P rs A st
  | .ret, st => PEnd P rs A st
  | _, _ => False
@[go_sem] theorem ppend_ret (P : Program) (rs : List ResultVar) (A : D → Prop) (st : St) : ppend P rs A .ret st = PEnd P rs A st := rfl
@[go_sem] theorem ppend_normal (P : Program) (rs : List ResultVar) (A : D → Prop) (st : St) : ppend P rs A .normal st = PEnd P rs A st := rfl
theorem ppend_pendI {P : Program} {rs : List ResultVar} {n0 : Nat} {A : D → Prop} {x : Exit} {st : St} (h : ppend P rs A x st) : pendI P rs n0 (PtrOut A) x st := by
  have key : PEnd P rs A st → ∃ os : List Nat, os.Nodup ∧ (∀ l ∈ os, (st.R l).isSome = true) ∧ (∀ l ∈ os, (rl 9 (labExit st.R os) (cntR st.R l)).plain) ∧ (∀ r ∈ rs, retOk P st r) ∧
      ∀ n1, st.n ≤ n1 → Facts st n1 → PtrOut A n0 n1 (os.map fun l => rl 9 (labExit st.R os) (cntR st.R l)) (rl 9 (labExit st.R os) (retV st rs)) := by
    rintro ⟨h1, l, g, b, d, hv, hR, hs, hpl, hA⟩
    have hcnt : cntR st.R l = d := by simp [cntR, hR]
    have hex : labExit st.R [l] l g = .to 1000 0 := by simp [labExit, hR, List.idxOf?, List.findIdx?_cons]
    refine ⟨[l], by simp, fun l' hl' => by rw [List.mem_singleton.1 hl', hR]; rfl, fun l' hl' => by rw [List.mem_singleton.1 hl', hcnt, rl_still hs]; exact hpl, h1, fun n1 _ _ => ⟨d, ?_, ?_, hs, hpl, hA⟩⟩
    · rw [List.map_cons, List.map_nil, hcnt, rl_still hs]
    · rw [hv, rl_ptr, hex]
  cases x with
  | normal => exact key h
  | ret => exact key h
  | _ => exact h.elim
section
variable {P : Program}
theorem iput_ptr {f : FuncId} {fn : Func} {c : Code} {rs : List ResultVar} {args : List D} {A : D → Prop} (hf : P.funcs[f]? = some fn) (hb : fn.body = some c) (hnm : (fn.name == "runtime.NumGoroutine") = false)
    (hrs : fn.results = rs.toArray) (hlen : rs.length ≤ 4) (hN : args.length ≤ fn.ntmps)
    (h : ∀ w0 M n0, (∀ b, n0 ≤ b → wr w0 M b) → (∀ a ∈ args, a.data → a.tags (· < n0)) → IWp P w0 M c (ppend P rs A) (St.start fn.ntmps n0 args fun _ => none)) : ICall P f args [] (PtrOut A) := by
  refine icall_intro_t hf hb hnm hrs hlen hN fun w0 M n0 gb hW hT => ?_
  have hnil : InsR gb [] = fun _ => none := by funext l; simp [InsR]
  rw [hnil]
  exact iwp_mono (h w0 M n0 hW hT) fun x st hq => ppend_pendI hq
end

theorem and255_rg (a : Int) : 0 ≤ bits .and .i64 a 255 ∧ bits .and .i64 a 255 ≤ 255 := by
  have h : (BitVec.ofInt 64 a &&& BitVec.ofInt 64 255).toNat ≤ 255 := by rw [BitVec.toNat_and]; exact Nat.le_trans Nat.and_le_right (by decide)
  have e : bits .and .i64 a 255 = IntKind.i64.wrap ((BitVec.ofInt 64 a &&& BitVec.ofInt 64 255).toNat : Int) := rfl
  rw [e, IntKind.wrap_i64]; omega
theorem ex_and255 (P : Program) (a : Int) : ∃ v : Int, (∀ T, bin P T .and (.int .i64 a) (.int .i64 255) = some (.int .i64 v)) ∧ 0 ≤ v ∧ v ≤ 255 := ⟨_, fun T => bin_and P T _ _ _, (and255_rg a).1, (and255_rg a).2⟩
theorem ex_and (P : Program) (a b : Int) : ∃ v : Int, ∀ T, bin P T .and (.int .i64 a) (.int .i64 b) = some (.int .i64 v) := ⟨_, fun T => bin_and P T _ _ _⟩
theorem ex_xor (P : Program) (a b : Int) : ∃ v : Int, ∀ T, bin P T .xor (.int .i64 a) (.int .i64 b) = some (.int .i64 v) := ⟨_, fun T => bin_xor P T _ _ _⟩
theorem ex_wrap (a : Int) : ∃ v : Int, IntKind.i64.wrap a = v := ⟨_, rfl⟩
end Go.Proofs.Ytpepddckmddbiaa.IM
end

section
/- Contracts: GetInt. Printed by getint.py. -/
namespace Go.Proofs.Ytpepddckmddbiaa.IM
open Go Go.Proofs
set_option linter.unusedVariables false
set_option linter.unusedSimpArgs false
set_option maxHeartbeats 2000000
set_option maxRecDepth 20000

theorem inB_iff2 (a b c : Int) : Md.inB a b c = true ↔ b ≤ a ∧ a ≤ c := by simp [Md.inB]
/-- the seven bits of a group -/
def and7 (c : Int) : Int := bits .and .i64 c 127
theorem and7_rg (c : Int) : 0 ≤ and7 c ∧ and7 c ≤ 127 := by
  have h : (BitVec.ofInt 64 c &&& BitVec.ofInt 64 127).toNat ≤ 127 := by rw [BitVec.toNat_and]; exact Nat.le_trans Nat.and_le_right (by decide)
  have e : and7 c = IntKind.i64.wrap ((BitVec.ofInt 64 c &&& BitVec.ofInt 64 127).toNat : Int) := rfl
  rw [e, IntKind.wrap_i64]; omega
theorem binAnd7 (P : Program) (c : Int) : ∀ T, bin P T .and (.int .i64 c) (.int .i64 127) = some (.int .i64 (and7 c)) := fun T => bin_and P T _ _ _
def scanG : Nat → Int → List Int → Option (Int × Nat)
  | _, _, [] => none
  | k, m, c :: l => if 6 ≤ k then none else if 127 < c then scanG (k + 1) (m + and7 c * 128 ^ k) l else if 0 < k ∧ c = 0 then none else some (m + and7 c * 128 ^ k, k + 1)
def unz (m : Int) : Int := if m % 2 = 1 then -(m / 2) - 1 else m / 2
def getInt (xs : List Int) (at_ : Int) : Int × Int × Bool :=
  if 0 ≤ at_ ∧ at_ < xs.length then
    match scanG 0 0 ((xs.map IntKind.i64.wrap).drop at_.toNat) with
    | some (m, j) => if Md.inB (unz m) (-1000000000000) 1000000000000 then (unz m, at_ + j, true) else (0, 0, false)
    | none => (0, 0, false)
  else (0, 0, false)
theorem scanG_six {k : Nat} {m : Int} (h : 6 ≤ k) : ∀ l, scanG k m l = none
  | [] => rfl
  | c :: l => by show (if 6 ≤ k then none else _) = _; rw [if_pos h]
theorem scanG_more {k : Nat} {m c : Int} {l : List Int} (hk : k < 6) (h : 127 < c) : scanG k m (c :: l) = scanG (k + 1) (m + and7 c * 128 ^ k) l := by
  show (if 6 ≤ k then none else _) = _
  rw [if_neg (by omega), if_pos h]
theorem scanG_bad {k : Nat} {m c : Int} {l : List Int} (hk : k < 6) (h : ¬ 127 < c) (h0 : 0 < k ∧ c = 0) : scanG k m (c :: l) = none := by
  show (if 6 ≤ k then none else _) = _
  rw [if_neg (by omega), if_neg h, if_pos h0]
theorem scanG_end {k : Nat} {m c : Int} {l : List Int} (hk : k < 6) (h : ¬ 127 < c) (h0 : ¬ (0 < k ∧ c = 0)) : scanG k m (c :: l) = some (m + and7 c * 128 ^ k, k + 1) := by
  show (if 6 ≤ k then none else _) = _
  rw [if_neg (by omega), if_neg h, if_neg h0]
theorem six {k : Nat} (h : k < 6) : k = 0 ∨ k = 1 ∨ k = 2 ∨ k = 3 ∨ k = 4 ∨ k = 5 := by omega
theorem binShlK (P : Program) {a : Int} {k : Nat} (h0 : 0 ≤ a) (h1 : a ≤ 127) (hk : k < 6) (k' : IntKind) : ∀ T, bin P T .shl (.int .i64 a) (.int k' ((7 * k : Nat) : Int)) = some (.int .i64 (a * 128 ^ k)) := fun T => by
  rw [bin_shl P T _ _ _ _ (by omega)]
  congr 2
  rcases six hk with rfl | rfl | rfl | rfl | rfl | rfl
  · rw [show (2 : Int) ^ min (Int.toNat ((7 * 0 : Nat) : Int)) IntKind.i64.bits = 1 from by decide, show (128 : Int) ^ 0 = 1 from by decide, IntKind.wrap_i64]; omega
  · rw [show (2 : Int) ^ min (Int.toNat ((7 * 1 : Nat) : Int)) IntKind.i64.bits = 128 from by decide, show (128 : Int) ^ 1 = 128 from by decide, IntKind.wrap_i64]; omega
  · rw [show (2 : Int) ^ min (Int.toNat ((7 * 2 : Nat) : Int)) IntKind.i64.bits = 16384 from by decide, show (128 : Int) ^ 2 = 16384 from by decide, IntKind.wrap_i64]; omega
  · rw [show (2 : Int) ^ min (Int.toNat ((7 * 3 : Nat) : Int)) IntKind.i64.bits = 2097152 from by decide, show (128 : Int) ^ 3 = 2097152 from by decide, IntKind.wrap_i64]; omega
  · rw [show (2 : Int) ^ min (Int.toNat ((7 * 4 : Nat) : Int)) IntKind.i64.bits = 268435456 from by decide, show (128 : Int) ^ 4 = 268435456 from by decide, IntKind.wrap_i64]; omega
  · rw [show (2 : Int) ^ min (Int.toNat ((7 * 5 : Nat) : Int)) IntKind.i64.bits = 34359738368 from by decide, show (128 : Int) ^ 5 = 34359738368 from by decide, IntKind.wrap_i64]; omega
theorem orNat (m a i : Nat) (hi : i ≤ 56) (hm : m < 2 ^ i) (ha : a ≤ 127) : bits .or .i64 (m : Int) ((2 ^ i * a : Nat) : Int) = ((m + 2 ^ i * a : Nat) : Int) := by
  have hp : 2 ^ i ≤ 2 ^ 56 := Nat.pow_le_pow_right (by decide) hi
  have h1 : 2 ^ i * a ≤ 2 ^ 56 * 127 := Nat.mul_le_mul hp ha
  have e := (bits_nat .i64 63 (by decide) (fun n h0 h1 => by rw [IntKind.wrap_i64]; omega) m (2 ^ i * a) (by omega) (by omega)).2
  rw [e, Nat.or_comm, ← Nat.two_pow_add_eq_or_of_lt hm a]
  congr 1; omega
theorem binOrK (P : Program) {m a : Int} {k : Nat} (hm0 : 0 ≤ m) (hm1 : m < 128 ^ k) (h0 : 0 ≤ a) (h1 : a ≤ 127) (hk : k < 6) : ∀ T, bin P T .or (.int .i64 m) (.int .i64 (a * 128 ^ k)) = some (.int .i64 (m + a * 128 ^ k)) := fun T => by
  rw [bin_or P T _ _ _]
  congr 2
  obtain ⟨mn, rfl⟩ := Int.eq_ofNat_of_zero_le hm0
  obtain ⟨an, rfl⟩ := Int.eq_ofNat_of_zero_le h0
  have e : (128 : Int) ^ k = ((2 ^ (7 * k) : Nat) : Int) := by
    rw [Nat.pow_mul]; norm_cast
  have hm2 : mn < 2 ^ (7 * k) := by rw [e] at hm1; exact_mod_cast hm1
  rw [e, show (an : Int) * ((2 ^ (7 * k) : Nat) : Int) = ((2 ^ (7 * k) * an : Nat) : Int) from by rw [Int.natCast_mul, Int.mul_comm], orNat mn an (7 * k) (by omega) hm2 (by omega)]
  rw [Int.natCast_add]
theorem next_rg {m a : Int} {k : Nat} (hm0 : 0 ≤ m) (hm1 : m < 128 ^ k) (h0 : 0 ≤ a) (h1 : a ≤ 127) : 0 ≤ m + a * 128 ^ k ∧ m + a * 128 ^ k < 128 ^ (k + 1) := by
  have hp : (0 : Int) ≤ 128 ^ k := Int.le_of_lt (Int.pow_pos (by decide))
  have h2 : 0 ≤ a * 128 ^ k := Int.mul_nonneg h0 hp
  have h3 : a * 128 ^ k ≤ 127 * 128 ^ k := Int.mul_le_mul_of_nonneg_right h1 hp
  rw [Int.pow_succ]
  omega
theorem rg_top {m : Int} {k : Nat} (hk : k < 6) (hm1 : m < 128 ^ (k + 1)) : m < 4398046511104 := by
  rcases six hk with rfl | rfl | rfl | rfl | rfl | rfl
  · have : (128 : Int) ^ (0 + 1) = 128 := by decide
    omega
  · have : (128 : Int) ^ (1 + 1) = 16384 := by decide
    omega
  · have : (128 : Int) ^ (2 + 1) = 2097152 := by decide
    omega
  · have : (128 : Int) ^ (3 + 1) = 268435456 := by decide
    omega
  · have : (128 : Int) ^ (4 + 1) = 34359738368 := by decide
    omega
  · have : (128 : Int) ^ (5 + 1) = 4398046511104 := by decide
    omega
theorem binShr1 (P : Program) (m : Int) : ∀ T, bin P T .shr (.int .i64 m) (.int .u64 1) = some (.int .i64 (m / 2)) := fun T => by
  rw [bin_shr P T _ _ _ _ (by decide)]
  rfl
theorem binAnd1 (P : Program) {m : Int} (h0 : 0 ≤ m) (h1 : m < 4398046511104) : ∀ T, bin P T .and (.int .i64 m) (.int .i64 1) = some (.int .i64 (m % 2)) := fun T => by
  rw [bin_and P T _ _ _]
  have := bits_mask .i64 63 (by decide) (fun n h0 h1 => by rw [IntKind.wrap_i64]; omega) 1 (by decide) m h0 (by omega)
  rw [show (1 : Int) = 2 ^ 1 - 1 by decide, this]
  rfl
theorem drop_cons {xs : List Int} {k : Nat} (h : k < xs.length) : (xs.map IntKind.i64.wrap).drop k = IntKind.i64.wrap xs[k] :: (xs.map IntKind.i64.wrap).drop (k + 1) := by
  rw [List.drop_eq_getElem_cons (by rw [List.length_map]; exact h), List.getElem_map]
theorem drop_nil {xs : List Int} {k : Nat} (h : ¬ k < xs.length) : (xs.map IntKind.i64.wrap).drop k = [] := List.drop_eq_nil_of_le (by rw [List.length_map]; omega)
theorem getInt_out {xs : List Int} {a : Int} (h : ¬ (0 ≤ a ∧ a < xs.length)) : getInt xs a = (0, 0, false) := if_neg h
theorem getInt_none {xs : List Int} {a : Int} (h : 0 ≤ a ∧ a < xs.length) (hs : scanG 0 0 ((xs.map IntKind.i64.wrap).drop a.toNat) = none) : getInt xs a = (0, 0, false) := by unfold getInt; rw [if_pos h, hs]
theorem getInt_some {xs : List Int} {a m : Int} {j : Nat} (h : 0 ≤ a ∧ a < xs.length) (hs : scanG 0 0 ((xs.map IntKind.i64.wrap).drop a.toNat) = some (m, j)) : getInt xs a = if Md.inB (unz m) (-1000000000000) 1000000000000 then (unz m, a + j, true) else (0, 0, false) := by unfold getInt; rw [if_pos h, hs]
theorem specGetInt_p (d : D) (xs : List Int) (at_ : Int) (h : IsL 1 IsByte d xs) : PCall Try.prog 154 [d, .lit (.int .i64 at_)] fun _ _ r => r = .tup 3 (nthD [.lit (.int .i64 (getInt xs at_).1), .lit (.int .i64 (getInt xs at_).2.1), .lit (.bool (getInt xs at_).2.2)]) := by
  have hsh := h.short
  refine pcall_intro_v Try.func154 rfl (by decide) rfl (by decide) (by rw [Try.ntmps154]; simp) fun w0 M n0 => ivc_sound ?_; simp -dsimp only [Try.f154, go_sem, h.lenT]
  by_cases hin : 0 ≤ at_ ∧ at_ < xs.length
  · have hin1 := hin.1
    have hin2 := hin.2
    refine iwp_forK 6 [0, 1] (fun i s => s 8 = .lit (.int .i64 i) ∧ ∃ m : Int, s 7 = .lit (.int .i64 m) ∧ 0 ≤ m ∧ m < 128 ^ i ∧ scanG 0 0 ((xs.map IntKind.i64.wrap).drop at_.toNat) = scanG i m ((xs.map IntKind.i64.wrap).drop (at_.toNat + i))) 0 (Nat.zero_le _) ⟨by simp -dsimp only [go_sem]; rfl, 0, by simp -dsimp only [go_sem], by decide, by decide, rfl⟩ ?_
    rintro i n' s hi hn hk ⟨h8, m, h7, hm0, hm1, hs⟩
    refine ivc_sound ?_
    simp -dsimp only [go_sem] at hk
    have hwa : IntKind.i64.wrap (at_ + (i : Int)) = at_ + i := w64 (by omega) (by omega)
    by_cases hk6 : i < 6
    · have hk6' : (i : Int) < 6 := by omega
      by_cases hlen : at_.toNat + i < xs.length
      · have hlen' : at_ + (i : Int) < xs.length := by omega
        obtain ⟨t, zb, fi, hfe, hst', hf'⟩ := h.sl hlen
        have hfi := hf' _ hlen
        have hfi : fi (at_.toNat + i) = _ := hfi
        have hl0 := h.lenT
        subst hfe
        have hidx : (at_ + (i : Int)).toNat = at_.toNat + i := by omega
        have hpos : 0 ≤ at_ + (i : Int) := by omega
        have hlt2 : at_.toNat + i < xs.length := hlen
        rw [drop_cons hlen] at hs
        generalize hcc : IntKind.i64.wrap xs[at_.toNat + i] = c at *
        have h7r := and7_rg c
        have hA := binAnd7 Try.prog c
        have hmul : IntKind.i64.wrap (7 * (i : Int)) = ((7 * i : Nat) : Int) := (w64 (by omega) (by omega)).trans (by omega)
        have hcv : IntKind.u64.wrap ((7 * i : Nat) : Int) = ((7 * i : Nat) : Int) := by simp [IntKind.wrap, IntKind.bits, IntKind.signed]; omega
        have hS := binShlK Try.prog h7r.1 h7r.2 hk6 .u64
        have hO := binOrK Try.prog hm0 hm1 h7r.1 h7r.2 hk6
        have hrg := next_rg hm0 hm1 h7r.1 h7r.2
        have htop := rg_top hk6 hrg.2
        have hw := i64_succ (i := i) (by omega)
        generalize hm2 : m + and7 c * 128 ^ i = m2 at *
        generalize hs1 : and7 c * 128 ^ i = s1 at *
        by_cases hc : 127 < c
        · simp -dsimp only [go_sem, hk, h8, h7, hk6', hin1, hin2, hlen', hwa, hl0, hidx, hpos, hlt2, hfi, hcc, hA, hmul, hcv, hS, hO, hc, hw, hk6]
          exact into_k (by omega) (by simp -dsimp only [go_sem, hk]) ⟨by simp -dsimp only [go_sem], m2, by simp -dsimp only [go_sem], hrg.1, hrg.2, by rw [hs, scanG_more hk6 hc, hs1, hm2]; rfl⟩
        · have hR := binShr1 Try.prog m2
          have hN := binAnd1 Try.prog hrg.1 htop
          have hne : IntKind.i64.wrap (0 - m2 / 2) = -(m2 / 2) := (w64 (by omega) (by omega)).trans (by omega)
          have hw1 : IntKind.i64.wrap (at_ + (i : Int) + 1) = at_ + i + 1 := w64 (by omega) (by omega)
          have fin : ∀ n : Int, n = unz m2 → ∀ v : Bool, v = Md.inB n (-1000000000000) 1000000000000 → ¬ (0 < i ∧ c = 0) → getInt xs at_ = if v = true then (n, at_ + i + 1, true) else (0, 0, false) := by
            rintro n rfl v rfl hz
            rw [getInt_some hin (by rw [hs, scanG_end hk6 hc hz, hs1, hm2])]
            congr 1
            rw [show (((i + 1 : Nat)) : Int) = (i : Int) + 1 from by omega, ← Int.add_assoc]
          have bad : (0 < i ∧ c = 0) → getInt xs at_ = (0, 0, false) := fun hz => getInt_none hin (by rw [hs, scanG_bad hk6 hc hz])
          rcases Bool.eq_false_or_eq_true (m2 % 2 == 1) with hodd | hodd
          · have hun : -(m2 / 2) - 1 = unz m2 := by unfold unz; rw [if_pos (by simpa using hodd)]
            have hsu : IntKind.i64.wrap (-(m2 / 2) - 1) = -(m2 / 2) - 1 := w64 (by omega) (by omega)
            by_cases hi0 : (0 : Int) < i
            · rcases Bool.eq_false_or_eq_true (c == 0) with hz | hz
              · simp -dsimp only [go_sem, hk, h8, h7, hk6', hin1, hin2, hlen', hwa, hl0, hidx, hpos, hlt2, hfi, hcc, hA, hmul, hcv, hS, hO, hc, hw, hk6, hR, hN, hne, hw1, hodd, hsu, hi0, hz]
                rw [bad ⟨by omega, by simpa using hz⟩]
              · simp -dsimp only [go_sem, hk, h8, h7, hk6', hin1, hin2, hlen', hwa, hl0, hidx, hpos, hlt2, hfi, hcc, hA, hmul, hcv, hS, hO, hc, hw, hk6, hR, hN, hne, hw1, hodd, hsu, hi0, hz]
                refine xcall_v (l1In_p (-(m2 / 2) - 1) (-1000000000000) 1000000000000) (by simp -dsimp only [go_sem]) (fun _ => trivial) fun n9 hn9 => ?_
                rcases hv : Md.inB (-(m2 / 2) - 1) (-1000000000000) 1000000000000 with _ | _
                · simp -dsimp only [go_sem, hk, h8, h7, hk6', hin1, hin2, hlen', hwa, hl0, hidx, hpos, hlt2, hfi, hcc, hA, hmul, hcv, hS, hO, hc, hw, hk6, hR, hN, hne, hw1, hodd, hsu, hi0, hz, hv]
                  rw [fin _ hun _ hv.symm (fun hh => by simp [hh.2] at hz)]
                  rfl
                · simp -dsimp only [go_sem, hk, h8, h7, hk6', hin1, hin2, hlen', hwa, hl0, hidx, hpos, hlt2, hfi, hcc, hA, hmul, hcv, hS, hO, hc, hw, hk6, hR, hN, hne, hw1, hodd, hsu, hi0, hz, hv]
                  rw [fin _ hun _ hv.symm (fun hh => by simp [hh.2] at hz)]
                  rfl
            · simp -dsimp only [go_sem, hk, h8, h7, hk6', hin1, hin2, hlen', hwa, hl0, hidx, hpos, hlt2, hfi, hcc, hA, hmul, hcv, hS, hO, hc, hw, hk6, hR, hN, hne, hw1, hodd, hsu, hi0]
              refine xcall_v (l1In_p (-(m2 / 2) - 1) (-1000000000000) 1000000000000) (by simp -dsimp only [go_sem]) (fun _ => trivial) fun n9 hn9 => ?_
              rcases hv : Md.inB (-(m2 / 2) - 1) (-1000000000000) 1000000000000 with _ | _
              · simp -dsimp only [go_sem, hk, h8, h7, hk6', hin1, hin2, hlen', hwa, hl0, hidx, hpos, hlt2, hfi, hcc, hA, hmul, hcv, hS, hO, hc, hw, hk6, hR, hN, hne, hw1, hodd, hsu, hi0, hv]
                rw [fin _ hun _ hv.symm (fun hh => by omega)]
                rfl
              · simp -dsimp only [go_sem, hk, h8, h7, hk6', hin1, hin2, hlen', hwa, hl0, hidx, hpos, hlt2, hfi, hcc, hA, hmul, hcv, hS, hO, hc, hw, hk6, hR, hN, hne, hw1, hodd, hsu, hi0, hv]
                rw [fin _ hun _ hv.symm (fun hh => by omega)]
                rfl
          · have hun : m2 / 2 = unz m2 := by unfold unz; rw [if_neg (by simpa using hodd)]
            by_cases hi0 : (0 : Int) < i
            · rcases Bool.eq_false_or_eq_true (c == 0) with hz | hz
              · simp -dsimp only [go_sem, hk, h8, h7, hk6', hin1, hin2, hlen', hwa, hl0, hidx, hpos, hlt2, hfi, hcc, hA, hmul, hcv, hS, hO, hc, hw, hk6, hR, hN, hne, hw1, hodd, hi0, hz]
                rw [bad ⟨by omega, by simpa using hz⟩]
              · simp -dsimp only [go_sem, hk, h8, h7, hk6', hin1, hin2, hlen', hwa, hl0, hidx, hpos, hlt2, hfi, hcc, hA, hmul, hcv, hS, hO, hc, hw, hk6, hR, hN, hne, hw1, hodd, hi0, hz]
                refine xcall_v (l1In_p (m2 / 2) (-1000000000000) 1000000000000) (by simp -dsimp only [go_sem]) (fun _ => trivial) fun n9 hn9 => ?_
                rcases hv : Md.inB (m2 / 2) (-1000000000000) 1000000000000 with _ | _
                · simp -dsimp only [go_sem, hk, h8, h7, hk6', hin1, hin2, hlen', hwa, hl0, hidx, hpos, hlt2, hfi, hcc, hA, hmul, hcv, hS, hO, hc, hw, hk6, hR, hN, hne, hw1, hodd, hi0, hz, hv]
                  rw [fin _ hun _ hv.symm (fun hh => by simp [hh.2] at hz)]
                  rfl
                · simp -dsimp only [go_sem, hk, h8, h7, hk6', hin1, hin2, hlen', hwa, hl0, hidx, hpos, hlt2, hfi, hcc, hA, hmul, hcv, hS, hO, hc, hw, hk6, hR, hN, hne, hw1, hodd, hi0, hz, hv]
                  rw [fin _ hun _ hv.symm (fun hh => by simp [hh.2] at hz)]
                  rfl
            · simp -dsimp only [go_sem, hk, h8, h7, hk6', hin1, hin2, hlen', hwa, hl0, hidx, hpos, hlt2, hfi, hcc, hA, hmul, hcv, hS, hO, hc, hw, hk6, hR, hN, hne, hw1, hodd, hi0]
              refine xcall_v (l1In_p (m2 / 2) (-1000000000000) 1000000000000) (by simp -dsimp only [go_sem]) (fun _ => trivial) fun n9 hn9 => ?_
              rcases hv : Md.inB (m2 / 2) (-1000000000000) 1000000000000 with _ | _
              · simp -dsimp only [go_sem, hk, h8, h7, hk6', hin1, hin2, hlen', hwa, hl0, hidx, hpos, hlt2, hfi, hcc, hA, hmul, hcv, hS, hO, hc, hw, hk6, hR, hN, hne, hw1, hodd, hi0, hv]
                rw [fin _ hun _ hv.symm (fun hh => by omega)]
                rfl
              · simp -dsimp only [go_sem, hk, h8, h7, hk6', hin1, hin2, hlen', hwa, hl0, hidx, hpos, hlt2, hfi, hcc, hA, hmul, hcv, hS, hO, hc, hw, hk6, hR, hN, hne, hw1, hodd, hi0, hv]
                rw [fin _ hun _ hv.symm (fun hh => by omega)]
                rfl
      · have hlen' : ¬ at_ + (i : Int) < xs.length := by omega
        simp -dsimp only [go_sem, hk, h8, h7, hk6', hin1, hin2, hlen', hwa, h.lenT]
        rw [getInt_none hin (by rw [hs, drop_nil hlen]; rfl)]
    · have hk6' : ¬ (i : Int) < 6 := by omega
      simp -dsimp only [go_sem, hk, h8, h7, hk6', hin1, hin2, h.lenT]
      rw [getInt_none hin (by rw [hs]; exact scanG_six (by omega) _)]
  · rw [getInt_out hin]
    refine iwp_forK 0 [0, 1] (fun i s => s 8 = .lit (.int .i64 i)) 0 (Nat.zero_le _) (by simp -dsimp only [go_sem]; rfl) ?_
    rintro i n' s hi hn hk h8
    refine ivc_sound ?_
    simp -dsimp only [go_sem] at hk
    obtain rfl : i = 0 := by omega
    have z6 : (0 : Int) < 6 := by decide
    by_cases h0 : 0 ≤ at_
    · have h1 : ¬ at_ < xs.length := fun hh => hin ⟨h0, hh⟩
      simp -dsimp only [go_sem, hk, h8, h0, h1, z6, h.lenT, Int.natCast_zero]
    · simp -dsimp only [go_sem, hk, h8, h0, z6, h.lenT, Int.natCast_zero]
@[go_sem] theorem retV_four (st : St) (r1 r2 r3 r4 : ResultVar) : retV st [r1, r2, r3, r4] = .tup 4 (nthD [retD st r1, retD st r2, retD st r3, retD st r4]) := by
  show D.tup 4 _ = _
  congr 1
  funext i
  match i with
  | 0 => rfl
  | 1 => rfl
  | 2 => rfl
  | 3 => rfl
  | i + 4 => simp [nthD]
def GRes (o : Option (Int × Nat)) (at_ n e : Int) (ok : Bool) : Prop := match o with
  | some (m, j) => n = m ∧ e = at_ + j ∧ ok = true
  | none => ok = false
theorem and7_small {c : Int} (h0 : 0 ≤ c) (h1 : c ≤ 127) : and7 c = c := by
  obtain ⟨m, rfl⟩ := Int.eq_ofNat_of_zero_le h0
  show bits .and .i64 (m : Int) 127 = _
  rw [and127 (by omega)]; omega
theorem gres_none {at_ n e : Int} {o : Option (Int × Nat)} (h : o = none) : GRes o at_ n e false := by subst h; rfl
theorem gres_some {at_ m : Int} {j : Nat} {o : Option (Int × Nat)} {e : Int} (h : o = some (m, j)) (he : e = at_ + j) : GRes o at_ m e true := by subst h; exact ⟨rfl, he, rfl⟩
theorem groups_p (d : D) (xs : List Int) (at_ : Int) (h : IsL 1 IsByte d xs) (hx : ∀ i (h : i < xs.length), 0 ≤ xs[i] ∧ xs[i] < 256) (hin1 : 0 ≤ at_) (hin2 : at_ ≤ xs.length) :
    PCall Try.prog 162 [d, .lit (.int .i64 at_)] fun _ _ r => ∃ (n e : Int) (ok ends : Bool), r = .tup 4 (nthD [.lit (.int .i64 n), .lit (.int .i64 e), .lit (.bool ok), .lit (.bool ends)]) ∧ GRes (scanG 0 0 ((xs.map IntKind.i64.wrap).drop at_.toNat)) at_ n e ok := by
  have hsh := h.short
  generalize hs0 : scanG 0 0 ((xs.map IntKind.i64.wrap).drop at_.toNat) = o
  refine pcall_intro Try.func162 rfl (by decide) rfl (by decide) (by rw [Try.ntmps162]; simp) fun w0 M n0 hW => ivc_sound ?_; simp -dsimp only [Try.f162, go_sem, h.lenT]
  refine iwp_forK xs.length [0, 1] (fun i s => s 10 = .lit (.int .i64 i) ∧ ∃ (n : Int) (good : Bool), s 8 = .lit (.int .i64 n) ∧ s 9 = .lit (.bool good) ∧ (i < 6 → good = true ∧ 0 ≤ n ∧ n < 128 ^ i ∧ o = scanG i n ((xs.map IntKind.i64.wrap).drop (at_.toNat + i))) ∧ (6 ≤ i → o = none)) 0 (Nat.zero_le _)
    ⟨by simp -dsimp only [go_sem]; rfl, 0, true, by simp -dsimp only [go_sem], by simp -dsimp only [go_sem], fun _ => ⟨rfl, by decide, by decide, hs0.symm⟩, fun h => absurd h (by decide)⟩ ?_
  rintro i n' s hi hn hk ⟨h10, n, good, h8, h9, hA6, hB6⟩
  refine ivc_sound ?_
  simp -dsimp only [go_sem] at hk
  have hwa : IntKind.i64.wrap (at_ + (i : Int)) = at_ + i := w64 (by omega) (by omega)
  have hw1 : IntKind.i64.wrap (at_ + (i : Int) + 1) = at_ + i + 1 := w64 (by omega) (by omega)
  by_cases hlen : at_.toNat + i < xs.length
  · have hlen' : at_ + (i : Int) < xs.length := by omega
    have hilt : i < xs.length := by omega
    obtain ⟨t, zb, fi, hfe, hst', hf'⟩ := h.sl hlen
    have hfi := hf' _ hlen
    have hfi : fi (at_.toNat + i) = _ := hfi
    have hl0 := h.lenT
    subst hfe
    have hidx : (at_ + (i : Int)).toNat = at_.toNat + i := by omega
    have hpos : 0 ≤ at_ + (i : Int) := by omega
    have hlt2 : at_.toNat + i < xs.length := hlen
    have hxr := hx _ hlen
    have hcc : IntKind.i64.wrap xs[at_.toNat + i] = xs[at_.toNat + i] := w64 (by omega) (by omega)
    have hdc := drop_cons hlen
    rw [hcc] at hdc
    generalize hcx : xs[at_.toNat + i] = c at *
    have h7r := and7_rg c
    have hA := binAnd7 Try.prog c
    have hw := i64_succ (i := i) (by omega)
    by_cases hk6 : i < 6
    · have hk6' : (i : Int) < 6 := by omega
      obtain ⟨rfl, hm0, hm1, hs⟩ := hA6 hk6
      rw [hdc] at hs
      have hmul : IntKind.i64.wrap (7 * (i : Int)) = ((7 * i : Nat) : Int) := (w64 (by omega) (by omega)).trans (by omega)
      have hS := binShlK Try.prog h7r.1 h7r.2 hk6 .i64
      have hO := binOrK Try.prog hm0 hm1 h7r.1 h7r.2 hk6
      have hrg := next_rg hm0 hm1 h7r.1 h7r.2
      generalize hm2 : n + and7 c * 128 ^ i = m2 at *
      generalize hs1 : and7 c * 128 ^ i = s1 at *
      by_cases hc : 127 < c
      · simp -dsimp only [go_sem, hk, h10, h8, h9, hk6', hlen', hwa, hl0, hidx, hpos, hlt2, hfi, hcc, hA, hmul, hS, hO, hc, hw, hilt]
        refine into_k (by omega) (by simp -dsimp only [go_sem, hk]) ⟨by simp -dsimp only [go_sem], m2, true, by simp -dsimp only [go_sem], by simp -dsimp only [go_sem, h9], fun hi6 => ⟨rfl, hrg.1, hrg.2, ?_⟩, fun hi6 => ?_⟩
        · rw [hs, scanG_more hk6 hc, hs1, hm2]; rfl
        · rw [hs, scanG_more hk6 hc]; exact scanG_six (by omega) _
      · rcases Bool.eq_false_or_eq_true (c != 0) with hz | hz
        · simp -dsimp only [go_sem, hk, h10, h8, h9, hk6', hlen', hwa, hl0, hidx, hpos, hlt2, hfi, hcc, hA, hmul, hS, hO, hc, hw, hw1, hz]
          intro n9 hn9 hfc
          exact ⟨_, _, _, _, rfl, gres_some (by rw [hs, scanG_end hk6 hc (fun hh => by simp [hh.2] at hz), hs1, hm2]) (by omega)⟩
        · rcases Bool.eq_false_or_eq_true ((i : Int) == 0) with hi0 | hi0
          · simp -dsimp only [go_sem, hk, h10, h8, h9, hk6', hlen', hwa, hl0, hidx, hpos, hlt2, hfi, hcc, hA, hmul, hS, hO, hc, hw, hw1, hz, hi0]
            intro n9 hn9 hfc
            have hi0' : (i : Int) = 0 := by simpa using hi0
            exact ⟨_, _, _, _, rfl, gres_some (by rw [hs, scanG_end hk6 hc (fun hh => by omega), hs1, hm2]) (by omega)⟩
          · simp -dsimp only [go_sem, hk, h10, h8, h9, hk6', hlen', hwa, hl0, hidx, hpos, hlt2, hfi, hcc, hA, hmul, hS, hO, hc, hw, hw1, hz, hi0]
            intro n9 hn9 hfc
            have hi0' : ¬ (i : Int) = 0 := by simpa using hi0
            have hz' : c = 0 := by simpa using hz
            exact ⟨_, _, _, _, rfl, gres_none (by rw [hs, scanG_bad hk6 hc ⟨by omega, hz'⟩])⟩
    · have hk6' : ¬ (i : Int) < 6 := by omega
      have hno := hB6 (by omega)
      have hi0 : ((i : Int) == 0) = false := beq_eq_false_iff_ne.2 (by omega)
      rcases Bool.eq_false_or_eq_true (and7 c != 0) with ha | ha
      · by_cases hc : 127 < c
        · simp -dsimp only [go_sem, hk, h10, h8, h9, hk6', hlen', hwa, hl0, hidx, hpos, hlt2, hfi, hcc, hA, hc, hw, hilt, ha]
          exact into_k (by omega) (by simp -dsimp only [go_sem, hk]) ⟨by simp -dsimp only [go_sem], n, false, by simp -dsimp only [go_sem, h8], by simp -dsimp only [go_sem], fun hi6 => absurd hi6 (by omega), fun _ => hno⟩
        · simp -dsimp only [go_sem, hk, h10, h8, h9, hk6', hlen', hwa, hl0, hidx, hpos, hlt2, hfi, hcc, hA, hc, hw, hw1, ha]
          intro n9 hn9 hfc
          exact ⟨_, _, _, _, rfl, gres_none hno⟩
      · by_cases hc : 127 < c
        · simp -dsimp only [go_sem, hk, h10, h8, h9, hk6', hlen', hwa, hl0, hidx, hpos, hlt2, hfi, hcc, hA, hc, hw, hilt, ha]
          exact into_k (by omega) (by simp -dsimp only [go_sem, hk]) ⟨by simp -dsimp only [go_sem], n, good, by simp -dsimp only [go_sem, h8], by simp -dsimp only [go_sem, h9], fun hi6 => absurd hi6 (by omega), fun _ => hno⟩
        · have hz' : c = 0 := by
            have := and7_small hxr.1 (by omega : c ≤ 127)
            rw [this] at ha; simpa using ha
          have hz : (c != 0) = false := by rw [hz']; rfl
          rcases good with _ | _
          all_goals
            simp -dsimp only [go_sem, hk, h10, h8, h9, hk6', hlen', hwa, hl0, hidx, hpos, hlt2, hfi, hcc, hA, hc, hw, hw1, ha, hz, hi0]
            intro n9 hn9 hfc
            exact ⟨_, _, _, _, rfl, gres_none hno⟩
  · have hlen' : ¬ at_ + (i : Int) < xs.length := by omega
    simp -dsimp only [go_sem, hk, h10, h8, h9, hlen', hwa, h.lenT]
    intro n9 hn9 hfc
    refine ⟨_, _, _, _, rfl, gres_none ?_⟩
    by_cases hk6 : i < 6
    · rw [(hA6 hk6).2.2.2, drop_nil hlen]; rfl
    · exact hB6 (by omega)
theorem quo2 {m : Int} (h : 0 ≤ m) : m.tdiv 2 = m / 2 := Int.tdiv_eq_ediv_of_nonneg h
theorem four_tags {a b c e : Value} {p : Nat → Prop} : (D.tup 4 (nthD [.lit a, .lit b, .lit c, .lit e])).tags p := fun i hi => by
  match i, hi with
  | 0, _ => trivial
  | 1, _ => trivial
  | 2, _ => trivial
  | 3, _ => trivial
theorem scanG_rg : ∀ (l : List Int) (k : Nat) (m : Int), 0 ≤ m → m < 128 ^ k → ∀ n j, scanG k m l = some (n, j) → 0 ≤ n ∧ n < 4398046511104
  | [], k, m, _, _, n, j, h => by cases h
  | c :: l, k, m, h0, h1, n, j, h => by
    have hr := and7_rg c
    have hn := next_rg h0 h1 hr.1 hr.2
    by_cases hk : k < 6
    · by_cases hc : 127 < c
      · rw [scanG_more hk hc] at h
        exact scanG_rg l _ _ hn.1 hn.2 n j h
      · by_cases hz : 0 < k ∧ c = 0
        · rw [scanG_bad hk hc hz] at h; cases h
        · rw [scanG_end hk hc hz] at h
          cases h
          exact ⟨hn.1, rg_top hk hn.2⟩
    · rw [scanG_six (by omega)] at h; cases h
theorem implGetInt_p (d : D) (xs : List Int) (at_ : Int) (h : IsL 1 IsByte d xs) (hx : ∀ i (h : i < xs.length), 0 ≤ xs[i] ∧ xs[i] < 256) : PCall Try.prog 57 [d, .lit (.int .i64 at_)] fun _ _ r => r = .tup 3 (nthD [.lit (.int .i64 (getInt xs at_).1), .lit (.int .i64 (getInt xs at_).2.1), .lit (.bool (getInt xs at_).2.2)]) := by
  have hsh := h.short
  refine pcall_intro_v Try.func57 rfl (by decide) rfl (by decide) (by rw [Try.ntmps57]; simp) fun w0 M n0 => ivc_sound ?_; simp -dsimp only [Try.f57, go_sem, h.lenT]
  refine xcall_v (in_p at_ 0 xs.length) (by simp -dsimp only [go_sem]) (fun _ => trivial) fun n1 hn1 => ?_
  rcases hv : Md.inB at_ 0 xs.length with _ | _
  · simp -dsimp only [go_sem, hv]
    rw [getInt_out (fun hh => by have : Md.inB at_ 0 xs.length = true := (inB_iff2 _ _ _).2 ⟨hh.1, by omega⟩; rw [hv] at this; cases this)]
  · have hr := (inB_iff2 _ _ _).1 hv
    simp -dsimp only [go_sem, hv]
    refine xcall_p (groups_p d xs at_ h hx hr.1 hr.2) (by simp -dsimp only [go_sem, rl_still, h.still]) fun m0 m1 r hm0 hm1 hq => ?_
    obtain ⟨n, e, ok, ends, rfl, hg⟩ := hq
    refine ⟨four_tags, ?_⟩
    have two : ¬ (2 : Int) = 0 := by decide
    cases hsc : scanG 0 0 ((xs.map IntKind.i64.wrap).drop at_.toNat) with
    | none =>
      rw [hsc] at hg
      have hok : ok = false := hg
      subst hok
      have hres : getInt xs at_ = (0, 0, false) := by
        by_cases hin : 0 ≤ at_ ∧ at_ < xs.length
        · exact getInt_none hin hsc
        · exact getInt_out hin
      rw [hres]
      rcases Bool.eq_false_or_eq_true (n.tmod 2 == 1) with ho | ho
      · simp -dsimp only [go_sem, two, ho]
      · simp -dsimp only [go_sem, two, ho]
    | some mj =>
      obtain ⟨m, j⟩ := mj
      rw [hsc] at hg
      obtain ⟨rfl, rfl, rfl⟩ := hg
      have hrg := scanG_rg _ 0 0 (by decide) (by decide) _ _ hsc
      have hin : 0 ≤ at_ ∧ at_ < xs.length := by
        refine ⟨hr.1, ?_⟩
        rcases Int.lt_or_le at_ xs.length with hlt | hge
        · exact hlt
        · rw [drop_nil (by omega)] at hsc; cases hsc
      have hres := getInt_some hin hsc
      have hq1 : IntKind.i64.wrap (n.tdiv 2) = n / 2 := by rw [quo2 hrg.1]; exact w64 (by omega) (by omega)
      have hq2 : IntKind.i64.wrap (n + 1) = n + 1 := w64 (by omega) (by omega)
      have hq3 : IntKind.i64.wrap (0 - (n + 1)) = -(n + 1) := (w64 (by omega) (by omega)).trans (by omega)
      have hodd : (n.tmod 2 == 1) = (n % 2 == 1) := by rw [Int.tmod_eq_emod_of_nonneg hrg.1]
      rcases Bool.eq_false_or_eq_true (n % 2 == 1) with ho | ho
      · have ho' : n % 2 = 1 := by simpa using ho
        have hun : unz n = -(n / 2) - 1 := if_pos ho'
        have ht : (-(n + 1)).tdiv 2 = -(n / 2) - 1 := by rw [Int.neg_tdiv, Int.tdiv_eq_ediv_of_nonneg (by omega)]; omega
        have hq4 : IntKind.i64.wrap ((-(n + 1)).tdiv 2) = -(n / 2) - 1 := by rw [ht]; exact w64 (by omega) (by omega)
        rw [ho] at hodd
        simp -dsimp only [go_sem, two, hodd, hq1, hq2, hq3, hq4]
        refine xcall_v (in_p (-(n / 2) - 1) (-1000000000000) 1000000000000) (by simp -dsimp only [go_sem]) (fun _ => trivial) fun n9 hn9 => ?_
        rw [hres, hun]
        rcases hv2 : Md.inB (-(n / 2) - 1) (-1000000000000) 1000000000000 with _ | _
        · simp -dsimp only [go_sem, two, hodd, hv2]
        · simp -dsimp only [go_sem, two, hodd, hv2]
      · have ho' : ¬ n % 2 = 1 := by simpa using ho
        have hun : unz n = n / 2 := if_neg ho'
        rw [ho] at hodd
        simp -dsimp only [go_sem, two, hodd, hq1]
        refine xcall_v (in_p (n / 2) (-1000000000000) 1000000000000) (by simp -dsimp only [go_sem]) (fun _ => trivial) fun n9 hn9 => ?_
        rw [hres, hun]
        rcases hv2 : Md.inB (n / 2) (-1000000000000) 1000000000000 with _ | _
        · simp -dsimp only [go_sem, two, hodd, hv2]
        · simp -dsimp only [go_sem, two, hodd, hv2]
end Go.Proofs.Ytpepddckmddbiaa.IM
end

section
/- Contracts: GetText; its law. Printed by gettext.py. -/
namespace Go.Proofs.Ytpepddckmddbiaa.IM
open Go Go.Proofs
set_option linter.unusedVariables false
set_option linter.unusedSimpArgs false
set_option maxHeartbeats 2000000
set_option maxRecDepth 20000

theorem bin_neqS (P : Program) (T : TypeId) (a : ByteArray) : bin P T .neq (.string a) (.string a) = some (.bool false) := by simp [bin]
/-- a byte, with its range -/
def IsByteR (d : D) (n : Int) : Prop := IsByte d n ∧ 0 ≤ n ∧ n < 256
theorem isL_of_R {d : D} {xs : List Int} (h : IsL 1 IsByteR d xs) : IsL 1 IsByte d xs ∧ ∀ i (h : i < xs.length), 0 ≤ xs[i] ∧ xs[i] < 256 := by
  rcases h with ⟨rfl, rfl⟩ | ⟨t, zb, f, rfl, h1, h2, h3⟩
  · exact ⟨.inl ⟨rfl, rfl⟩, fun i hi => absurd hi (Nat.not_lt_zero i)⟩
  · exact ⟨.inr ⟨t, zb, f, rfl, h1, h2, fun i hi => (h3 i hi).1⟩, fun i hi => (h3 i hi).2⟩
theorem three_tags {a b c : Value} {p : Nat → Prop} : (D.tup 3 (nthD [.lit a, .lit b, .lit c])).tags p := fun i hi => by
  match i, hi with
  | 0, _ => trivial
  | 1, _ => trivial
  | 2, _ => trivial
theorem scanG_len : ∀ (l : List Int) (k : Nat) (m : Int) (n : Int) (j : Nat), scanG k m l = some (n, j) → k < j ∧ j ≤ k + l.length
  | [], k, m, n, j, h => by cases h
  | c :: l, k, m, n, j, h => by
    by_cases hk : k < 6
    · by_cases hc : 127 < c
      · rw [scanG_more hk hc] at h
        have := scanG_len l _ _ _ _ h
        rw [List.length_cons]; omega
      · by_cases hz : 0 < k ∧ c = 0
        · rw [scanG_bad hk hc hz] at h; cases h
        · rw [scanG_end hk hc hz] at h
          cases h
          rw [List.length_cons]; omega
    · rw [scanG_six (by omega)] at h; cases h
theorem getInt_ok {xs : List Int} {a n e : Int} (h : getInt xs a = (n, e, true)) : 0 ≤ a ∧ a < xs.length ∧ 0 ≤ e ∧ e ≤ xs.length ∧ -1000000000000 ≤ n ∧ n ≤ 1000000000000 := by
  by_cases hin : 0 ≤ a ∧ a < xs.length
  · cases hs : scanG 0 0 ((xs.map IntKind.i64.wrap).drop a.toNat) with
    | none => rw [getInt_none hin hs] at h; cases h
    | some mj =>
      obtain ⟨m, j⟩ := mj
      have hl := scanG_len _ _ _ _ _ hs
      rw [List.length_drop, List.length_map] at hl
      rw [getInt_some hin hs] at h
      cases hv : Md.inB (unz m) (-1000000000000) 1000000000000 with
      | false => rw [hv] at h; cases h
      | true =>
        rw [hv] at h
        have hr := (inB_iff2 _ _ _).1 hv
        have h : (unz m, a + (j : Int), true) = (n, e, true) := h
        cases h
        refine ⟨hin.1, hin.2, ?_, ?_, hr.1, hr.2⟩ <;> omega
  · rw [getInt_out hin] at h; cases h
def getText (xs : List Int) (a : Int) : ByteArray × Int × Bool := match getInt xs a with
  | (n, e, ok) => if ok = false ∨ n < 0 ∨ (xs.length : Int) - e < n then (⟨#[]⟩, 0, false) else (strOf ((xs.drop e.toNat).take n.toNat), e + n, true)
theorem getText_no {xs : List Int} {a n e : Int} {ok : Bool} (h : getInt xs a = (n, e, ok)) (hc : ok = false ∨ n < 0 ∨ (xs.length : Int) - e < n) : getText xs a = (⟨#[]⟩, 0, false) := by unfold getText; rw [h]; exact if_pos hc
theorem getText_yes {xs : List Int} {a n e : Int} {ok : Bool} (h : getInt xs a = (n, e, ok)) (hc : ¬ (ok = false ∨ n < 0 ∨ (xs.length : Int) - e < n)) : getText xs a = (strOf ((xs.drop e.toNat).take n.toNat), e + n, true) := by unfold getText; rw [h]; exact if_neg hc
theorem specGetText_p (d : D) (xs : List Int) (at_ : Int) (h : IsL 1 IsByte d xs) : PCall Try.prog 52 [d, .lit (.int .i64 at_)] fun _ _ r => r = .tup 3 (nthD [.lit (.string (getText xs at_).1), .lit (.int .i64 (getText xs at_).2.1), .lit (.bool (getText xs at_).2.2)]) := by
  have hsh := h.short
  refine pcall_intro_v Try.func52 rfl (by decide) rfl (by decide) (by rw [Try.ntmps52]; simp) fun w0 M n0 => ivc_sound ?_; simp -dsimp only [Try.f52, go_sem, h.lenT]
  refine xcall_v (specGetInt_p d xs at_ h) (by simp -dsimp only [go_sem, rl_still, h.still]) (fun _ => three_tags) fun n1 hn1 => ?_
  rcases hgi : getInt xs at_ with ⟨n, e, ok⟩
  cases ok with
  | false =>
    simp -dsimp only [go_sem, h.lenT]
    rw [getText_no hgi (.inl rfl)]
  | true =>
    obtain ⟨a0, a1, e0, e1, n0', n1'⟩ := getInt_ok hgi
    have w1 : IntKind.i64.wrap ((xs.length : Int) - e) = (xs.length : Int) - e := w64 (by omega) (by omega)
    by_cases hn : n < 0
    · simp -dsimp only [go_sem, hn, h.lenT]
      rw [getText_no hgi (.inr (.inl hn))]
    · by_cases hl : (xs.length : Int) - e < n
      · simp -dsimp only [go_sem, hn, hl, w1, h.lenT]
        rw [getText_no hgi (.inr (.inr hl))]
      · obtain ⟨t, zb, f, hfe, hst', hf'⟩ := h.sl (i := at_.toNat) (by omega)
        have hl0 := h.lenT
        subst hfe
        have w2 : IntKind.i64.wrap (e + n) = e + n := w64 (by omega) (by omega)
        have s1 : e ≤ e + n := by omega
        have s2 : e + n ≤ xs.length := by omega
        have s3 : (e + n - e).toNat = n.toNat := by omega
        have hns : n.toNat = ((xs.drop e.toNat).take n.toNat).length := by rw [List.length_take, List.length_drop]; omega
        have hcv := fun R' n' k' => wConv_str (P := Try.prog) (R := R') (n := n') (k := k') 22 9 (E := 5) (t := t) (zb := zb && e == 0) (f := fun q => f (e.toNat + q)) hns (fun i hi => by
          have hi2 : i < n.toNat := by omega
          rw [List.getElem_take, List.getElem_drop]
          exact hf' (e.toNat + i) (by omega)) telem_22 tint_5 strT_9
        simp -dsimp only [go_sem, hn, hl, w1, w2, hl0, e0, s1, s2, s3, hcv]
        rw [getText_yes hgi (fun hh => by
          rcases hh with hh | hh | hh
          · cases hh
          · exact hn hh
          · exact hl hh)]
theorem implGetText_p (d : D) (xs : List Int) (at_ : Int) (h : IsL 1 IsByte d xs) (hx : ∀ i (h : i < xs.length), 0 ≤ xs[i] ∧ xs[i] < 256) : PCall Try.prog 53 [d, .lit (.int .i64 at_)] fun _ _ r => r = .tup 3 (nthD [.lit (.string (getText xs at_).1), .lit (.int .i64 (getText xs at_).2.1), .lit (.bool (getText xs at_).2.2)]) := by
  have hsh := h.short
  refine pcall_intro_v Try.func53 rfl (by decide) rfl (by decide) (by rw [Try.ntmps53]; simp) fun w0 M n0 => ivc_sound ?_; simp -dsimp only [Try.f53, go_sem, h.lenT]
  refine xcall_v (implGetInt_p d xs at_ h hx) (by simp -dsimp only [go_sem, rl_still, h.still]) (fun _ => three_tags) fun n1 hn1 => ?_
  rcases hgi : getInt xs at_ with ⟨n, e, ok⟩
  cases ok with
  | false =>
    simp -dsimp only [go_sem, h.lenT]
    rw [getText_no hgi (.inl rfl)]
  | true =>
    obtain ⟨a0, a1, e0, e1, n0', n1'⟩ := getInt_ok hgi
    have w1 : IntKind.i64.wrap ((xs.length : Int) - e) = (xs.length : Int) - e := w64 (by omega) (by omega)
    by_cases hn : n < 0
    · simp -dsimp only [go_sem, hn, h.lenT]
      rw [getText_no hgi (.inr (.inl hn))]
    · by_cases hl : (xs.length : Int) - e < n
      · simp -dsimp only [go_sem, hn, hl, w1, h.lenT]
        rw [getText_no hgi (.inr (.inr hl))]
      · obtain ⟨t, zb, f, hfe, hst', hf'⟩ := h.sl (i := at_.toNat) (by omega)
        have hl0 := h.lenT
        subst hfe
        have w2 : IntKind.i64.wrap (e + n) = e + n := w64 (by omega) (by omega)
        have s1 : e ≤ e + n := by omega
        have s2 : e + n ≤ xs.length := by omega
        have s3 : (e + n - e).toNat = n.toNat := by omega
        have hns : n.toNat = ((xs.drop e.toNat).take n.toNat).length := by rw [List.length_take, List.length_drop]; omega
        have hcv := fun R' n' k' => wConv_str (P := Try.prog) (R := R') (n := n') (k := k') 22 9 (E := 5) (t := t) (zb := zb && e == 0) (f := fun q => f (e.toNat + q)) hns (fun i hi => by
          have hi2 : i < n.toNat := by omega
          rw [List.getElem_take, List.getElem_drop]
          exact hf' (e.toNat + i) (by omega)) telem_22 tint_5 strT_9
        simp -dsimp only [go_sem, hn, hl, w1, w2, hl0, e0, s1, s2, s3, hcv]
        rw [getText_yes hgi (fun hh => by
          rcases hh with hh | hh | hh
          · cases hh
          · exact hn hh
          · exact hl hh)]
theorem lawGetText (d : D) (xs : List Int) (at_ : Int) (hR : IsL 1 IsByteR d xs) : PCall Try.prog 7 [d, .lit (.int .i64 at_)] fun _ _ r => r = .lit (.bool true) := by
  have h := (isL_of_R hR).1
  have hx := (isL_of_R hR).2
  refine pcall_intro_v Try.func7 rfl (by decide) rfl (by decide) (by rw [Try.ntmps7]; simp) fun w0 M n0 => ivc_sound ?_; simp -dsimp only [Try.f7, go_sem, h.lenT, h.size, h.isNode, h.plain]
  by_cases hb : (1048576 : Int) < xs.length
  · simp -dsimp only [go_sem, hb]
  · simp -dsimp only [go_sem, hb]
    refine xcall_p (toByteS_p _ _ h (by omega)) (by simp -dsimp only [go_sem, rl_still, h.still]) fun m0 m1 r hm0 hm1 hr => ?_
    refine ⟨hr.2.tags, ?_⟩
    have hri := hr.1
    try simp -dsimp only [go_sem, hri.size, hri.isNode, hri.plain]
    refine xcall_v (specGetText_p r xs at_ hri) (by simp -dsimp only [go_sem, rl_still, hri.still]) (fun _ => three_tags) fun n1 hn1 => ?_
    simp -dsimp only [go_sem, h.lenT, h.size, h.isNode, h.plain]
    refine xcall_p (toByteS_p _ _ h (by omega)) (by simp -dsimp only [go_sem, rl_still, h.still]) fun m2 m3 u hm2 hm3 hu => ?_
    refine ⟨hu.2.tags, ?_⟩
    have hui := hu.1
    try simp -dsimp only [go_sem, hui.size, hui.isNode, hui.plain]
    refine xcall_v (implGetText_p u xs at_ hui hx) (by simp -dsimp only [go_sem, rl_still, hui.still]) (fun _ => three_tags) fun n2 hn2 => ?_
    simp -dsimp only [go_sem, bin_neqS, bne_self_eq_false, Bool.not_true, Bool.not_false, Bool.false_eq_true, Bool.true_eq_false, false_imp_iff, true_and, and_true, forall_const, reduceCtorEq]
    refine xcall_p (toByteS_p _ _ h (by omega)) (by simp -dsimp only [go_sem, rl_still, h.still]) fun m4 m5 v hm4 hm5 hv => ?_
    refine ⟨hv.2.tags, ?_⟩
    have hvi := hv.1
    try simp -dsimp only [go_sem, hvi.size, hvi.isNode, hvi.plain]
    refine xcall_v (eqByteS_p _ _ _ hui hvi) (by simp -dsimp only [go_sem, rl_still, hui.still, hvi.still]) (fun _ => trivial) fun n3 hn3 => ?_
    simp -dsimp only [go_sem, bne_self_eq_false, Bool.not_true, Bool.not_false, Bool.false_eq_true, Bool.true_eq_false, false_imp_iff, true_and, and_true, forall_const, reduceCtorEq]
section
variable {H : Type} {enc : TypeId × Value → H} {P : Program}
theorem opens_byteR {T : TypeId} (h : intIs P T .u8 = true) : Opens enc P T IsByteR := by
  intro w fuel cs x hx hw
  unfold intIs at h
  split at h
  · rename_i k hk
    obtain rfl : k = .u8 := by simpa using h
    obtain ⟨n, rfl, rfl, hr⟩ := DataW.trod_int hk hx
    refine ⟨.lit (.int .u8 n), n, show Rep (oenv w) (.lit (.int .u8 n)) _ from ⟨trivial, rfl⟩, rfl, ?_⟩
    have h2 : IntKind.u8.min ≤ n ∧ n ≤ IntKind.u8.max := by simpa [Lit.wf] using hr
    have h3 : IntKind.u8.min = 0 := by decide
    have h4 : IntKind.u8.max = 255 := by decide
    omega
  · cases h
end
end Go.Proofs.Ytpepddckmddbiaa.IM
end
