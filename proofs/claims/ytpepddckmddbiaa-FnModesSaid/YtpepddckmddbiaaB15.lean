/- Several of my texts in one module (merge.py). -/
import Derived.Test.YtpepddckmddbiaaA3
import Derived.Test.YtpepddckmddbiaaB12
import Derived.Test.YtpepddckmddbiaaB13
section
/- A slice that lies in a root's content becomes a root; the entry of a function that is handed a pointer to a struct with such a slice. -/
namespace Go.Proofs.Ytpepddckmddbiaa.IM
open Go Go.Proofs Go.RowKit
set_option linter.unusedVariables false
set_option linter.unusedSimpArgs false
set_option maxHeartbeats 2000000
set_option maxRecDepth 20000

def ThawR (W : Nat → Prop) (st : St) (K : St → Prop) : Prop :=
  ∃ t n sz f l, W t ∧ st.R l = none ∧ (∀ i, i < n → (f i).free t) ∧ (∃ lq gq bq xq, st.R lq = some (gq, bq, xq) ∧ Has (.sl t true n sz f) xq) ∧ ∀ g, ∃ (s' : Nat → D) (R' : Roots), (∀ j, Thaw t n sz f l g (st.s j) (s' j)) ∧
    (∀ l', R' l' = none ∨ (l' = l ∧ R' l' = some (g, t, .node (.arr n sz) f)) ∨ (l' ≠ l ∧ ∃ g0 b x x', st.R l' = some (g0, b, x) ∧ R' l' = some (g0, b, x') ∧ x'.plain ∧ Thaw t n sz f l g x x')) ∧
    K { N := st.N, n := st.n, s := s', R := R' }
theorem SR.thawR {w0 : World} {M : Fr} {st : St} {a : Act} {w : World} {K : St → Prop} {W : Nat → Prop} (hW : ∀ b, W b → w0.heap.size ≤ b ∨ M.m b) (hs : SR w0 M st a w) (h : ThawR W st K) : Lift w0 M K a w := by
  obtain ⟨e, rfl, hg⟩ := hs
  obtain ⟨t, n, sz, f, l, hWt, hRl, hfr, ⟨lq, gq, bq, xq, hRq, hhas⟩, h⟩ := h
  obtain ⟨s', R', hs', hR', hK⟩ := h e.G
  obtain ⟨Cq, Tq, csq, rq1, rq2, rq3⟩ := (hg.root _ _ _ _ hRq).2.row
  obtain ⟨cs, o, c, ps, h1, h2, h3, h4, h5, h6⟩ := rep_has hhas rq2
  obtain ⟨rfl, C, T, h7, h8⟩ := h6 rfl
  have hsp : ∀ l' g b x, R' l' = some (g, b, x) → (l' = l ∧ g = e.G ∧ b = t ∧ x = .node (.arr n sz) f) ∨ (l' ≠ l ∧ x.plain ∧ ∃ x0, st.R l' = some (g, b, x0) ∧ Thaw t n sz f l e.G x0 x) := by
    intro l' g b x hl'
    rcases hR' l' with h | ⟨h, h'⟩ | ⟨h, g0, b0, x0, x', q1, q2, q3, q4⟩
    · rw [h] at hl'; cases hl'
    · rw [h'] at hl'
      simp only [Option.some.injEq, Prod.mk.injEq] at hl'
      exact .inl ⟨h, hl'.1.symm, hl'.2.1.symm, hl'.2.2.symm⟩
    · rw [q2] at hl'
      simp only [Option.some.injEq, Prod.mk.injEq] at hl'
      obtain ⟨rfl, rfl, rfl⟩ := hl'
      exact .inr ⟨h, q3, x0, q1, q4⟩
  have hm : Melt t l e ⟨R', e.G + 1, fun b => e.P b ∧ b ≠ t, e.w⟩ := by
    refine ⟨rfl, fun b hb hne => ⟨hb, hne⟩, rfl, fun l' g b x hx hgl => ?_⟩
    rcases hsp l' g b x hx with ⟨_, h, _⟩ | ⟨_, _, x0, h, _⟩
    · omega
    · exact ⟨x0, by rw [hg.R]; exact h⟩
  have hl : ∀ b x, R' l = some (e.G, b, x) → b = t := by
    intro b x hx
    rcases hsp _ _ _ _ hx with ⟨_, _, h, _⟩ | ⟨h, _⟩
    · exact h
    · exact absurd rfl h
  have hnt : ∀ l' g b x, st.R l' = some (g, b, x) → b ≠ t := by
    rintro l' g b x hx rfl
    exact (hg.envroot hx).np h3
  refine ⟨_, hK, ⟨R', e.G + 1, fun b => e.P b ∧ b ≠ t, e.w⟩, rfl, rfl, hg.N, hg.df, fun j => vrep_thaw hm rfl hl (hs' j) (hg.slot j), ?_, ?_, ?_, fun b hb => hg.P b hb.1, hg.keep, hg.n, fun b hb => hg.per b hb.1⟩
  · intro l' g b x hx
    rcases hsp _ _ _ _ hx with ⟨rfl, rfl, rfl, rfl⟩ | ⟨hne, hxp, x0, q1, q2⟩
    · refine ⟨Nat.lt_succ_self _, fun hp => hp.2 rfl, trivial, C, T, flat n ps, h7, ⟨ps, fun i hi => ⟨(h4 i hi).1, rep_free hm (hfr i hi) (h4 i hi).2⟩, rfl⟩, fun j v hj => ?_⟩
      obtain ⟨C1, T1, z1, r1, r2⟩ := h5
      rw [h7] at r1
      simp only [Option.some.injEq, Obj.cells.injEq] at r1
      obtain ⟨rfl, _⟩ := r1
      simpa using r2 j v hj
    · obtain ⟨hgg, hro⟩ := hg.root _ _ _ _ q1
      obtain ⟨C1, T1, cs1, r1, r2, r3⟩ := hro.row
      exact ⟨Nat.lt_succ_of_lt hgg, fun hp => hro.np hp.1, hxp, C1, T1, cs1, r1, rep_thaw hm rfl hl q2 r2, r3⟩
  · intro l' g b x hx
    rcases hsp _ _ _ _ hx with ⟨rfl, rfl, rfl, rfl⟩ | ⟨hne, hxp, x0, q1, q2⟩
    · exact hW _ hWt
    · exact hg.own _ _ _ _ q1
  · intro l1 l2 g1 g2 b x1 x2 hx1 hx2
    rcases hsp _ _ _ _ hx1 with ⟨k1, k2, k3, k4⟩ | ⟨hne, hxp, x0, q1, q2⟩ <;> rcases hsp _ _ _ _ hx2 with ⟨k1', k2', k3', k4'⟩ | ⟨hne', hxp', x0', q1', q2'⟩
    · rw [k1, k1']
    · exact absurd k3 (hnt _ _ _ _ q1')
    · exact absurd k3' (hnt _ _ _ _ q1)
    · exact hg.inj _ _ _ _ _ _ _ q1 q1'

theorem Into.thawR {w0 : World} {M : Fr} {st : St} {K : St → Prop} (h : ThawR (wr w0 M) st (fun st' => Into w0 M st' K)) : Into w0 M st K := fun a w hs => by
  obtain ⟨st', h1, h2⟩ := hs.thawR (fun _ h => h) h
  exact h1 a w h2

section
variable {P : Program}
/-- the entry of a function that is handed a pointer to a struct with a slice in field i0: both are roots -/
theorem bcall_intro_sl {f : FuncId} {fn : Func} {c : Code} {rs : List ResultVar} {t n sz i0 : Nat} {kd : Kd} {fe q : Nat → D} {rest : List D} {Q : Nat → Nat → D → D → Prop} (hf : P.funcs[f]? = some fn) (hb : fn.body = some c) (hnm : (fn.name == "runtime.NumGoroutine") = false)
    (hrs : fn.results = rs.toArray) (hlen : rs.length ≤ 4) (hN : rest.length + 1 ≤ fn.ntmps) (hi0 : i0 < kd.cnt) (hq : q i0 = .sl t true n sz fe) (hpf : ∀ i, i < kd.cnt → i ≠ i0 → (q i).free t) (hfree : ∀ i, i < n → (fe i).free t) (hx : ∀ x ∈ rest, x.free t)
    (h : ∀ w0 M n0 gb g, (∀ b, n0 ≤ b → wr w0 M b) → (∀ b ∈ (D.sl t true n sz fe).tl, wr w0 M b) → (∀ a ∈ (D.node kd q) :: rest, a.data → a.tags (· < n0)) → gb < n0 →
      IWp P w0 M c (bpend P rs n0 Q (.node kd q) gb) ⟨fn.ntmps, n0, nthD (.ptr 1000 0 0 [] :: rest), upd (upd (fun _ => none) 1000 (some (0, gb, .node kd (upd q i0 (.msl 1001 g 0 [] 0 n sz))))) 1001 (some (g, t, .node (.arr n sz) fe))⟩) : BCall P f (.sl t true n sz fe) (.node kd q) rest Q := by
  refine bcall_intro hf hb hnm hrs hlen hN fun w0 M n0 gb hW hS hT hgb => iwp_into (Into.thawR ⟨t, n, sz, fe, 1001, hS t (by simp [D.tl]), rfl, hfree, ⟨1000, 0, gb, .node kd q, rfl, .node _ _ i0 hi0 (by rw [hq]; exact .here)⟩, fun g =>
    ⟨nthD (.ptr 1000 0 0 [] :: rest), upd (upd (fun _ => none) 1000 (some (0, gb, .node kd (upd q i0 (.msl 1001 g 0 [] 0 n sz))))) 1001 (some (g, t, .node (.arr n sz) fe)), fun j => ?_, fun l' => ?_, Into.of (h w0 M n0 gb g hW hS hT hgb)⟩⟩)
  · match j with
    | 0 => exact .free _ trivial
    | j + 1 =>
      show Thaw _ _ _ _ _ _ (nthD rest j) (nthD rest j)
      rcases Nat.lt_or_ge j rest.length with hj | hj
      · refine .free _ ?_
        rw [← nthD_getD, List.getD_eq_getElem?_getD, List.getElem?_eq_getElem hj]
        exact hx _ (List.getElem_mem hj)
      · rw [nthD_ge _ _ hj]; exact .drop _
  · by_cases hl : l' = 1001
    · subst hl; exact .inr (.inl ⟨rfl, upd_same _ _ _⟩)
    · by_cases hl' : l' = 1000
      · subst hl'
        refine .inr (.inr ⟨hl, 0, gb, .node kd q, .node kd (upd q i0 (.msl 1001 g 0 [] 0 n sz)), rfl, by rw [upd_ne _ _ hl, upd_same], trivial, .node _ _ _ fun i hi => ?_⟩)
        by_cases hii : i = i0
        · subst hii; rw [upd_same, hq]; exact .here
        · rw [upd_ne _ _ hii]; exact .free _ (hpf i hi hii)
      · exact .inl (by rw [upd_ne _ _ hl, upd_ne _ _ hl'])
end
end Go.Proofs.Ytpepddckmddbiaa.IM
end

section
/- Contracts: Victim. Printed by victim.py. -/
namespace Go.Proofs.Ytpepddckmddbiaa.IM
open Go Go.Proofs
set_option linter.unusedVariables false
set_option linter.unusedSimpArgs false
set_option maxHeartbeats 2000000
set_option maxRecDepth 20000

@[go_sem] theorem labB_1001 (R : Roots) (g : Nat) : labB R 1001 g = labView R 1001 g := if_neg (by decide)
def cool (s : Md.Seat) : Md.Seat := { s with hot := false }
def nxt (h : Int) : Int := (h + 1).tmod 3
def hotAt (p : Md.Pool) : Bool := match p.seats[p.hand.toNat]? with | some s => s.hot | none => false
def vicStep (p : Md.Pool) : Md.Pool := ⟨p.seats.modify p.hand.toNat cool, nxt p.hand⟩
def vicGo : Nat → Md.Pool → Md.Pool × Int
  | 0, p => (⟨p.seats, nxt p.hand⟩, p.hand)
  | n + 1, p => if hotAt p = true then vicGo n (vicStep p) else (⟨p.seats, nxt p.hand⟩, p.hand)
def vicOk (x : Md.Pool) : Bool := Md.poolOk x && ((x.seats.length : Int) == 3)
def victim (x : Md.Pool) : Md.Pool × Int := if vicOk x then vicGo 3 x else (x, -1)
theorem victim_no {x : Md.Pool} (h : vicOk x = false) : victim x = (x, -1) := by unfold victim; rw [h]; rfl
theorem victim_yes {x : Md.Pool} (h : vicOk x = true) : victim x = vicGo 3 x := by unfold victim; rw [h]; rfl
theorem nxt_rg {h : Int} (h0 : 0 ≤ h) (h1 : h < 3) : 0 ≤ nxt h ∧ nxt h < 3 := by
  have : h = 0 ∨ h = 1 ∨ h = 2 := by omega
  rcases this with rfl | rfl | rfl <;> decide
theorem gs_upd1 {q : Nat → D} {v : Value} (h : ∀ j, (q j).still ∨ j = 0) (j : Nat) : (upd q 1 (.lit v) j).still ∨ j = 0 := by
  by_cases hj : j = 1
  · subst hj; exact .inl trivial
  · rw [upd_ne _ _ hj]; exact h j
theorem cool_count : ∀ (l : List Md.Seat) (k : Nat) (h : k < l.length), l[k].hot = true → (l.modify k cool).countP (·.hot) + 1 = l.countP (·.hot)
  | a :: l, 0, _, h => by
    have h : a.hot = true := h
    show (cool a :: l).countP _ + 1 = _
    rw [List.countP_cons, List.countP_cons, h]
    rfl
  | a :: l, k + 1, hk, h => by
    have ih := cool_count l k (by simpa using hk) (by simpa using h)
    show (a :: l.modify k cool).countP _ + 1 = _
    rw [List.countP_cons, List.countP_cons]
    omega
structure VInv (x : Md.Pool) (i : Nat) (p : Md.Pool) : Prop where
  len : p.seats.length = x.seats.length
  l3 : x.seats.length = 3
  h0 : 0 ≤ p.hand
  h1 : p.hand < 3
  go : vicGo (3 - i) p = vicGo 3 x
  cnt : p.seats.countP (·.hot) + i ≤ 3
theorem VInv.kl {x p : Md.Pool} {i : Nat} (h : VInv x i p) : p.hand.toNat < p.seats.length := by have := h.len; have := h.l3; have := h.h0; have := h.h1; omega
theorem hotAt_eq {p : Md.Pool} (h : p.hand.toNat < p.seats.length) : hotAt p = p.seats[p.hand.toNat].hot := by unfold hotAt; rw [List.getElem?_eq_getElem h]
theorem VInv.start {x : Md.Pool} (hp : Md.poolOk x = true) (h : x.seats.length = 3) : VInv x 0 x := by
  unfold Md.poolOk at hp
  rw [Bool.and_eq_true] at hp
  have := (inB_iff _ _ _).1 hp.2
  exact ⟨rfl, h, by omega, by omega, rfl, by have := List.countP_le_length (p := fun s : Md.Seat => s.hot) (l := x.seats); omega⟩
theorem VInv.lt {x p : Md.Pool} {i : Nat} (h : VInv x i p) (hh : p.seats[p.hand.toNat]'h.kl |>.hot) : i < 3 := by
  have := cool_count p.seats _ h.kl hh
  have := h.cnt
  omega
theorem VInv.step {x p : Md.Pool} {i : Nat} (h : VInv x i p) (hh : (p.seats[p.hand.toNat]'h.kl).hot = true) : VInv x (i + 1) (vicStep p) := by
  have hc := cool_count p.seats _ h.kl hh
  have hl := h.lt hh
  have hn := nxt_rg h.h0 h.h1
  refine ⟨by show (List.modify _ _ _).length = _; rw [List.length_modify]; exact h.len, h.l3, hn.1, hn.2, ?_, ?_⟩
  · rw [← h.go, show 3 - i = (3 - (i + 1)) + 1 by omega]
    show _ = if hotAt p = true then _ else _
    rw [if_pos (by rw [hotAt_eq h.kl]; exact hh)]
  · show (List.modify _ _ _).countP _ + _ ≤ 3
    have := h.cnt
    omega
theorem VInv.stop {x p : Md.Pool} {i : Nat} (h : VInv x i p) (hh : (p.seats[p.hand.toNat]'h.kl).hot = false) : vicGo 3 x = (⟨p.seats, nxt p.hand⟩, p.hand) := by
  rw [← h.go]
  cases 3 - i with
  | zero => rfl
  | succ n =>
    show (if hotAt p = true then _ else _) = _
    rw [if_neg (by rw [hotAt_eq h.kl, hh]; decide)]
structure VF (f : Nat → D) (p : Md.Pool) (n : Nat) (fe : Nat → D) : Prop where
  st : ∀ j, (fe j).still
  ok : ∀ j (h : j < p.seats.length), IsSeat (fe j) p.seats[j]
  tl : ∀ j, j < n → (fe j).tl = (f j).tl
  wh : ∀ j, j < n → (fe j).whole
theorem VF.own {f fe : Nat → D} {p : Md.Pool} {n t lo hi : Nat} (h : VF f p n fe) (ho : Own lo hi (.sl t true n 20 f)) : Own lo hi (.sl t true n 20 fe) := by
  have e : (D.sl t true n 20 fe).tl = (D.sl t true n 20 f).tl := by simp only [D.tl]; rw [flat_tl h.tl]
  exact ⟨fun b hb => ho.rg b (e ▸ hb), e ▸ ho.nd, ⟨rfl, h.wh⟩⟩
theorem VF.tags {f fe : Nat → D} {p : Md.Pool} {n t : Nat} (h : VF f p n fe) : (D.sl t true n 20 fe).tags (· ∈ (D.sl t true n 20 f).tl) := by
  have e : (D.sl t true n 20 fe).tl = (D.sl t true n 20 f).tl := by simp only [D.tl]; rw [flat_tl h.tl]
  exact tags_of_tl (whole_data (show (D.sl t true n 20 fe).whole from ⟨rfl, h.wh⟩)) fun b hb => e ▸ hb
theorem VF.isL {f fe : Nat → D} {p : Md.Pool} {n t : Nat} (h : VF f p n fe) (hn : p.seats.length = n) (hs : n < 140737488355328) : IsL 20 IsSeat (.sl t true n 20 fe) p.seats := by
  subst hn; exact .inr ⟨t, true, fe, rfl, h.st, hs, h.ok⟩
theorem VF.cool {f fe : Nat → D} {p : Md.Pool} {n : Nat} {g : Nat → D} (h : VF f p n fe) (hk : p.hand.toNat < p.seats.length) (hn : p.seats.length = n) (hg : fe p.hand.toNat = .node (.agg [1, 17, 1, 1]) g) :
    VF f (vicStep p) n (upd fe p.hand.toNat (.node (.agg [1, 17, 1, 1]) (upd g 3 (.lit (.bool false))))) := by
  have hs := h.ok _ hk
  rw [hg] at hs
  obtain ⟨g', e, hst, s0, s1, s2, s3⟩ := hs
  cases e
  have s3 : g 3 = _ := s3
  have hr : IsSeat (.node (.agg [1, 17, 1, 1]) (upd g 3 (.lit (.bool false)))) (IM.cool p.seats[p.hand.toNat]) := ⟨_, rfl, still_upd hst trivial, s0, s1, s2, rfl⟩
  have htl : (D.node (.agg [1, 17, 1, 1]) (upd g 3 (.lit (.bool false)))).tl = (fe p.hand.toNat).tl := by rw [hg]; exact tl_upd (by rw [s3]; rfl)
  have hw : (D.node (.agg [1, 17, 1, 1]) (upd g 3 (.lit (.bool false)))).whole := by
    have := h.wh p.hand.toNat (by omega)
    rw [hg] at this
    exact wh_upd this trivial
  refine ⟨still_upd h.st (show (D.node (.agg [1, 17, 1, 1]) _).still from still_upd hst trivial), fun j hj => ?_, fun j hj => ?_, fun j hj => ?_⟩
  · have hj' : j < p.seats.length := by have : j < (p.seats.modify p.hand.toNat IM.cool).length := hj; rwa [List.length_modify] at this
    have hj'' : j < (p.seats.modify p.hand.toNat IM.cool).length := hj
    show IsSeat _ ((p.seats.modify p.hand.toNat IM.cool)[j]'hj'')
    rw [List.getElem_modify]
    by_cases hjk : p.hand.toNat = j
    · subst hjk; rw [upd_same, if_pos rfl]; exact hr
    · rw [upd_ne _ _ (fun e => hjk e.symm), if_neg hjk]; exact h.ok j hj'
  · by_cases hjk : j = p.hand.toNat
    · subst hjk; rw [upd_same, htl]; exact h.tl _ hj
    · rw [upd_ne _ _ hjk]; exact h.tl j hj
  · by_cases hjk : j = p.hand.toNat
    · subst hjk; rw [upd_same]; exact hw
    · rw [upd_ne _ _ hjk]; exact h.wh j hj
theorem victim_p (d : D) (x : Md.Pool) (h : IsPool d x) (hs : Md.szPool x ≤ 1048576) (hd : d.data) : PCall Try.prog 94 [d] fun n0 n1 r => Two (fun r => IsPool r (victim x).1 ∧ Own n0 n1 r) (.lit (.int .i64 (victim x).2)) r := by
  have hp := h
  have eq := shp_pool _ _ h
  obtain ⟨f0, rfl, hst, a0, a1⟩ := h
  have k1 : f0 1 = _ := a1
  have e1 := eq.1
  have e2 := eq.2.1
  have e3 := eq.2.2.1
  have e4 := eq.2.2.2
  have hsl : x.seats.length ≤ 1048576 := by unfold Md.szPool Md.szSeats at hs; omega
  refine pcall_intro_t Try.func94 rfl (by decide) rfl (by decide) (by rw [Try.ntmps94]; simp) fun w0 M n0 hW hT => ivc_sound ?_; simp -dsimp only [Try.f94, go_sem, k1, a0.size, a0.isNode, a0.plain, a0.lenT, e1, e2, e3]
  have dT : (D.node (.agg [1, 1]) f0).tags (· < n0) := hT _ (by simp) hd
  intro g1 b1 hb1 g2 b2 hb2
  refine xcall_t (clonePool_p _ _ hp hs) (by simp -dsimp only [go_sem, rl_still, e4]) fun m0 p0 r0 hm0 hp0 hr0w => ?_
  have hr0 := hr0w.out
  have hm0' : b2 + 1 ≤ m0 := hm0
  refine ⟨hr0.2.tags, ?_⟩
  have ho := hr0.2
  have hrl := hr0.1
  obtain ⟨q, rfl, hqs, hq0, q1⟩ := hr0.1
  have q1 : q 1 = _ := q1
  rcases hq0 with ⟨q0, hnil⟩ | ⟨t, zb, f, q0, hfs, hfl, hf⟩
  · refine Conv.zero ?_
    have h0 : ((x.seats.length : Int) != 3) = true := by rw [hnil]; rfl
    have hno : victim x = (x, -1) := victim_no (by unfold vicOk; rw [hnil]; simp)
    simp -dsimp only [go_sem, q0, q1, k1, a0.size, a0.isNode, a0.plain, a0.lenT, e1, e2, e3]
    intro g4 b4 hb4
    refine xcall_v (poolOk_p _ _ hp) (by simp -dsimp only [go_sem, rl_still, e4]) (fun _ => trivial) fun n4 hn4 => ?_
    have hb4' : p0 ≤ b4 := hb4
    have hn4' : b4 + 1 ≤ n4 := hn4
    rcases Bool.eq_false_or_eq_true (Md.poolOk x) with hpo | hpo
    all_goals
      simp -dsimp only [go_sem, hpo, h0, q0, q1, k1, a0.size, a0.isNode, a0.plain, a0.lenT, e1, e2, e3]
      intro n1 hn1 hfc
      have hn1' : n4 ≤ n1 := hn1
      rw [hno, rlnode_still hqs]
      exact .mk _ ⟨hrl, ho.mono (by omega) (by omega)⟩
  · have hoS : Own m0 p0 (.sl t zb x.seats.length 20 f) := by
      have := ho.node.own (i := 0) (by decide)
      rw [q0] at this
      exact this
    have hzb : zb = true := hoS.wh.1
    subst hzb
    have ht := hoS.rg t (by simp [D.tl])
    have hdf : (D.node (.agg [1, 1]) f0).free t := free_of_tags (m := n0) (by omega) dT
    refine conv_field (l := 1000) [1, 2, 3] (hW t (by omega)) (by simp -dsimp only [go_sem]) (own_free hoS) 0 (by decide) q0 (fun i hi hne => ?_) (fun j hj => ?_) (fun l' g b x hx => ⟨hx, roots2 ⟨e3, hdf⟩ ⟨?_, ?_⟩ _ _ _ _ hx⟩) fun g => ?_
    · have : i = 1 := by have : i < 2 := hi; omega
      subst this; rw [q1]; trivial
    · simp only [List.mem_cons, List.not_mem_nil, or_false] at hj
      rcases hj with rfl | rfl | rfl
      · exact (show (D.ptr 1 g1 0 []).free t from trivial)
      · exact (show (D.ptr 2 g2 0 []).free t from trivial)
      · exact (show (D.lit (.int .i64 0)).free t from trivial)
    · simp -dsimp only [go_sem]
    · intro i hi
      have hi' : i < 2 := hi
      match i, hi' with
      | 0, _ => trivial
      | 1, _ => trivial
    · simp -dsimp only [go_sem, q0, q1, k1, a0.size, a0.isNode, a0.plain, a0.lenT, e1, e2, e3]
      intro g4 b4 hb4
      refine xcall_v (poolOk_p _ _ hp) (by simp -dsimp only [go_sem, rl_still, e4]) (fun _ => trivial) fun n4 hn4 => ?_
      have hb4' : p0 ≤ b4 := hb4
      have hn4' : b4 + 1 ≤ n4 := hn4
      rcases Bool.eq_false_or_eq_true (Md.poolOk x) with hpo | hpo
      · by_cases h3 : x.seats.length = 3
        · have h0 : ((x.seats.length : Int) != 3) = false := by rw [h3]; rfl
          have hyes : victim x = vicGo 3 x := victim_yes (by unfold vicOk; rw [hpo, h3]; rfl)
          simp -dsimp only [go_sem, hpo, h0, q0, q1, k1, a0.size, a0.isNode, a0.plain, a0.lenT, e1, e2, e3]
          refine iwp_forR 3 [2, 3, 4] (fun i n' s R => ∃ p fe qq, VInv x i p ∧ VF f p x.seats.length fe ∧ qq 0 = .msl 1000 g 0 [] 0 x.seats.length 20 ∧ qq 1 = .lit (.int .i64 p.hand) ∧ (∀ j, (qq j).still ∨ j = 0) ∧ R = upd (upd (upd (upd (fun _ => none) 1 (some (g1, b1, .node (.agg [1, 1]) f0))) 2 (some (g2, b2, .node (.agg [1, 1]) (nthD [.nil, .lit (.int .i64 0)])))) 1000 (some (g, t, .node (.arr x.seats.length 20) fe))) 4 (some (g4, b4, .node (.agg [1, 1]) qq))) 0 (Nat.zero_le _)
            ⟨x, f, upd q 0 (.msl 1000 g 0 [] 0 x.seats.length 20), VInv.start hpo h3, ⟨hfs, hf, fun _ _ => rfl, hoS.wh.2⟩, by simp -dsimp only [go_sem], by simp -dsimp only [go_sem, q1], gs_upd fun j => .inl (hqs j), by simp -dsimp only [go_sem]⟩ ?_
          rintro i n' s R hile hn hk ⟨p, fe, qq, hv, hF, hq0, hq1, hqq, rfl⟩
          refine ivc_sound ?_
          simp -dsimp only [go_sem] at hk
          have hkl := hv.kl
          have hlen := hv.len
          have hh0 := hv.h0
          have hh1 : p.hand < (x.seats.length : Int) := by have := hv.l3; have := hv.h1; omega
          have hw : IntKind.i64.wrap (p.hand + 1) = p.hand + 1 := w64 (by omega) (by omega)
          have hse := hF.ok _ hkl
          have hfg := hse
          obtain ⟨ge, hge, ges, s0, s1, s2, s3⟩ := hfg
          have s3 : ge 3 = _ := s3
          have hkn : p.hand.toNat < x.seats.length := by omega
          have hshort : x.seats.length < 140737488355328 := by omega
          rcases Bool.eq_false_or_eq_true (p.seats[p.hand.toNat].hot) with hot | hot
          · have hi3 := hv.lt hot
            simp -dsimp only [go_sem, hk, hq0, hq1, hh0, hh1, hw, hge, s3, hot, hkn, hi3]
            exact into_r (by omega) (by simp -dsimp only [go_sem, hk]) ⟨vicStep p, _, _, hv.step hot, hF.cool hkl hlen hge, by simp -dsimp only [go_sem, hq0], by simp -dsimp only [go_sem]; rfl, gs_upd1 hqq, rfl⟩
          · simp -dsimp only [go_sem, hk, hq0, hq1, hh0, hh1, hw, hge, s3, hot, hkn]
            intro n1 hn1 hfc
            have hn' : n4 ≤ n' := hn
            have hn1' : n' ≤ n1 := hn1
            rw [hyes, hv.stop hot, rl_node]
            refine .mk _ ?_
            refine (grow_fin (x := ⟨p.seats, nxt p.hand⟩) (n0 := n0) (n1 := n1) ?_ ?_ (gs_upd1 hqq) (hF.isL hlen hshort) ((hF.own hoS).mono (by omega) (by omega))).out
            · simp -dsimp only [go_sem, hq0]
              rw [rls_still hF.st]
            · simp -dsimp only [go_sem, rl_lit]
              rfl
        · have h0 : ((x.seats.length : Int) != 3) = true := by simp; omega
          have hno : victim x = (x, -1) := victim_no (by unfold vicOk; rw [show ((x.seats.length : Int) == 3) = false from beq_eq_false_iff_ne.2 (by omega)]; simp)
          simp -dsimp only [go_sem, hpo, h0, q0, q1, k1, a0.size, a0.isNode, a0.plain, a0.lenT, e1, e2, e3]
          intro n1 hn1 hfc
          have hn1' : n4 ≤ n1 := hn1
          rw [hno, rl_node]
          refine .mk _ ?_
          refine (grow_fin (n0 := n0) (n1 := n1) ?_ ?_ (gs_upd fun j => .inl (hqs j)) (.inr ⟨t, true, f, rfl, hfs, hfl, hf⟩) (hoS.mono (by omega) (by omega))).out
          · simp -dsimp only [go_sem, q0]
            rw [rls_still hfs]
          · simp -dsimp only [go_sem, q1, rl_lit]
      · have hno : victim x = (x, -1) := victim_no (by unfold vicOk; rw [hpo]; rfl)
        simp -dsimp only [go_sem, hpo, q0, q1, k1, a0.size, a0.isNode, a0.plain, a0.lenT, e1, e2, e3]
        intro n1 hn1 hfc
        have hn1' : n4 ≤ n1 := hn1
        rw [hno, rl_node]
        refine .mk _ ?_
        refine (grow_fin (n0 := n0) (n1 := n1) ?_ ?_ (gs_upd fun j => .inl (hqs j)) (.inr ⟨t, true, f, rfl, hfs, hfl, hf⟩) (hoS.mono (by omega) (by omega))).out
        · simp -dsimp only [go_sem, q0]
          rw [rls_still hfs]
        · simp -dsimp only [go_sem, q1, rl_lit]
def VQ (x : Md.Pool) (lo hi : Nat) (_ _ : Nat) (d' r : D) : Prop := IsPool d' (vicGo 3 x).1 ∧ Own lo hi d' ∧ r = .lit (.int .i64 (vicGo 3 x).2)
theorem vic_end {x p : Md.Pool} {t N n0 n1 lo hi k : Nat} {F : Relab} {f fe q qq : Nat → D} {r : D} (hq0 : q 0 = .sl t true N 20 f) (e0 : rl k F (qq 0) = .sl t true N 20 fe) (e1 : rl k F (qq 1) = .lit (.int .i64 (nxt p.hand))) (hqq : ∀ j, (qq j).still ∨ j = 0)
    (hF : VF f p N fe) (hN : p.seats.length = N) (hs : N < 140737488355328) (ho : Own lo hi (.sl t true N 20 f)) (hgo : vicGo 3 x = (⟨p.seats, nxt p.hand⟩, p.hand)) (hr : r = .lit (.int .i64 p.hand)) :
    BEnd (VQ x lo hi) (.node (.agg [1, 1]) q) n0 n1 (.node (.agg [1, 1]) fun i => rl k F (qq i)) r := by
  subst hr
  have hg := (grow_fin (x := ⟨p.seats, nxt p.hand⟩) (n0 := lo) (n1 := hi) e0 e1 hqq (hF.isL hN hs) (hF.own ho)).out
  refine ⟨⟨by rw [hgo]; exact hg.1, hg.2, by rw [hgo]⟩, trivial, fun i hi => ?_, trivial⟩
  have hi' : i < 2 := hi
  match i, hi' with
  | 0, _ =>
    show (rl k F (qq 0)).tags _
    rw [e0]
    exact D.tags_mono (fun b hb => .inl (tl_child (k := .agg [1, 1]) (i := 0) (by decide) (by rw [hq0]; exact hb))) hF.tags
  | 1, _ => show (rl k F (qq 1)).tags _; rw [e1]; trivial
theorem l6Victim_b (q : Nat → D) (x : Md.Pool) (t lo hi : Nat) (f : Nat → D) (hq0 : q 0 = .sl t true x.seats.length 20 f) (q1 : q 1 = .lit (.int .i64 x.hand)) (hqs : ∀ j, (q j).still) (hfs : ∀ i, (f i).still) (hfl : x.seats.length < 140737488355328)
    (hf : ∀ i (h : i < x.seats.length), IsSeat (f i) x.seats[i]) (ho : Own lo hi (.sl t true x.seats.length 20 f)) (hpo : Md.poolOk x = true) (h3 : x.seats.length = 3) :
    BCall Try.prog 221 (.sl t true x.seats.length 20 f) (.node (.agg [1, 1]) q) [] (VQ x lo hi) := by
  have hpf : ∀ i, i < (Kd.agg [1, 1]).cnt → i ≠ 0 → (q i).free t := fun i hi hne => by
    have : i = 1 := by have : i < 2 := hi; omega
    subst this; rw [q1]; trivial
  have hfree := own_free ho
  have hx : ∀ x ∈ ([] : List D), x.free t := fun x hx => absurd hx (by simp)
  refine bcall_intro_sl Try.func221 rfl (by decide) rfl (by decide) (by rw [Try.ntmps221]; simp) (i0 := 0) (by decide) hq0 hpf hfree hx fun w0 M n0 gb g hW hS hT hgb => ivc_sound ?_; simp -dsimp only [Try.f221, go_sem]
  refine iwp_forR 3 [0] (fun i n' s R => ∃ p fe qq, VInv x i p ∧ VF f p x.seats.length fe ∧ qq 0 = .msl 1001 g 0 [] 0 x.seats.length 20 ∧ qq 1 = .lit (.int .i64 p.hand) ∧ (∀ j, (qq j).still ∨ j = 0) ∧ R = upd (upd (fun _ => none) 1000 (some (0, gb, .node (.agg [1, 1]) qq))) 1001 (some (g, t, .node (.arr x.seats.length 20) fe))) 0 (Nat.zero_le _)
    ⟨x, f, upd q 0 (.msl 1001 g 0 [] 0 x.seats.length 20), VInv.start hpo h3, ⟨hfs, hf, fun _ _ => rfl, ho.wh.2⟩, by simp -dsimp only [go_sem], by simp -dsimp only [go_sem, q1], gs_upd fun j => .inl (hqs j), by simp -dsimp only [go_sem]⟩ ?_
  rintro i n' s R hile hn hk ⟨p, fe, qq, hv, hF, hq0', hq1, hqq, rfl⟩
  refine ivc_sound ?_
  simp -dsimp only [go_sem] at hk
  have hkl := hv.kl
  have hlen := hv.len
  have hh0 := hv.h0
  have hh1 : p.hand < (x.seats.length : Int) := by have := hv.l3; have := hv.h1; omega
  have hw : IntKind.i64.wrap (p.hand + 1) = p.hand + 1 := w64 (by omega) (by omega)
  have hse := hF.ok _ hkl
  have hfg := hse
  obtain ⟨ge, hge, ges, s0, s1, s2, s3⟩ := hfg
  have s3 : ge 3 = _ := s3
  have hkn : p.hand.toNat < x.seats.length := by omega
  have hshort : x.seats.length < 140737488355328 := by omega
  rcases Bool.eq_false_or_eq_true (p.seats[p.hand.toNat].hot) with hot | hot
  · have hi3 := hv.lt hot
    simp -dsimp only [go_sem, hk, hq0', hq1, hh0, hh1, hw, hge, s3, hot, hkn, hi3]
    exact into_r (by omega) (by simp -dsimp only [go_sem, hk]) ⟨vicStep p, _, _, hv.step hot, hF.cool hkl hlen hge, by simp -dsimp only [go_sem, hq0'], by simp -dsimp only [go_sem]; rfl, gs_upd1 hqq, rfl⟩
  · simp -dsimp only [go_sem, hk, hq0', hq1, hh0, hh1, hw, hge, s3, hot, hkn]
    refine ⟨_, rfl, fun n1 hn1 hfc => ?_⟩
    rw [rl_node]
    refine vic_end (p := p) hq0 ?_ ?_ (gs_upd1 hqq) hF hlen hshort ho (hv.stop hot) ?_
    · simp -dsimp only [go_sem, hq0']
      rw [rls_still hF.st]
    · simp -dsimp only [go_sem, rl_lit]
      rfl
    · simp -dsimp only [go_sem, rl_lit]
theorem specVictim_p (d : D) (x : Md.Pool) (h : IsPool d x) (hs : Md.szPool x ≤ 1048576) (hd : d.data) : PCall Try.prog 118 [d] fun n0 n1 r => Two (fun r => IsPool r (victim x).1 ∧ Own n0 n1 r) (.lit (.int .i64 (victim x).2)) r := by
  have hp := h
  have eq := shp_pool _ _ h
  obtain ⟨f0, rfl, hst, a0, a1⟩ := h
  have k1 : f0 1 = _ := a1
  have e1 := eq.1
  have e2 := eq.2.1
  have e3 := eq.2.2.1
  have e4 := eq.2.2.2
  have hsl : x.seats.length ≤ 1048576 := by unfold Md.szPool Md.szSeats at hs; omega
  refine pcall_intro_t Try.func118 rfl (by decide) rfl (by decide) (by rw [Try.ntmps118]; simp) fun w0 M n0 hW hT => ivc_sound ?_; simp -dsimp only [Try.f118, go_sem, k1, a0.size, a0.isNode, a0.plain, a0.lenT, e1, e2, e3]
  have dT : (D.node (.agg [1, 1]) f0).tags (· < n0) := hT _ (by simp) hd
  intro g1 b1 hb1 g2 b2 hb2
  refine xcall_p (l6Copy_p _ _ hp hs) (by simp -dsimp only [go_sem, rl_still, e4]) fun m0 p0 r0 hm0 hp0 hr0w => ?_
  have hr0 := hr0w.out
  have hm0' : b2 + 1 ≤ m0 := hm0
  refine ⟨hr0.2.tags, ?_⟩
  have ho := hr0.2
  have hrl := hr0.1
  obtain ⟨q, rfl, hqs, hq0, q1⟩ := hr0.1
  have q1 : q 1 = _ := q1
  simp -dsimp only [go_sem, q1, hq0.size, hq0.isNode, hq0.plain, hq0.lenT, k1, a0.size, a0.isNode, a0.plain, a0.lenT, e1, e2, e3]
  intro g4 b4 hb4
  refine xcall_v (specPoolOk_p _ _ hp) (by simp -dsimp only [go_sem, rl_still, e4]) (fun _ => trivial) fun n4 hn4 => ?_
  have hb4' : p0 ≤ b4 := hb4
  have hn4' : b4 + 1 ≤ n4 := hn4
  rcases Bool.eq_false_or_eq_true (Md.poolOk x) with hpo | hpo
  · by_cases h3 : x.seats.length = 3
    · have h0 : ((x.seats.length : Int) != 3) = false := by rw [h3]; rfl
      have hyes : victim x = vicGo 3 x := victim_yes (by unfold vicOk; rw [hpo, h3]; rfl)
      obtain ⟨t, zb, f, q0, hfs, hf⟩ := hq0.sl (i := 0) (by omega)
      have hoS : Own m0 p0 (.sl t zb x.seats.length 20 f) := by
        have := ho.node.own (i := 0) (by decide)
        rw [q0] at this
        exact this
      have hzb : zb = true := hoS.wh.1
      subst hzb
      simp -dsimp only [go_sem, hpo, h0, q1, hq0.size, hq0.isNode, hq0.plain, hq0.lenT, k1, a0.size, a0.isNode, a0.plain, a0.lenT, e1, e2, e3]
      refine xcall_b (l := 4) (g := g4) (b := b4) (l6Victim_b q x t m0 p0 f q0 q1 hqs hfs (by omega) hf hoS hpo h3) (by simp -dsimp only [go_sem]) (by simp -dsimp only [go_sem]) hrl.still trivial (fun b hb => tl_child (k := .agg [1, 1]) (i := 0) (by decide) (by rw [q0]; exact hb)) (fun b hb => hW b (by have := hoS.rg b hb; omega)) [1, 2, 3, 4] (upd (upd (fun _ => none) 1 (some (g1, b1, .node (.agg [1, 1]) f0))) 2 (some (g2, b2, .node (.agg [1, 1]) (nthD [.nil, .lit (.int .i64 0)])))) (by simp -dsimp only [go_sem]) fun n5 n6 d' r hn5 hn6 ht hq =>
        ⟨by simp -dsimp only [go_sem], CarR.skip (((CarR.none _ _ _).upd e3 (.apart _ (D.tags_mono (fun b hb hx => by have := hoS.rg b hx; omega) dT))).upd (show (D.node (.agg [1, 1]) (nthD [.nil, .lit (.int .i64 0)])).plain from trivial) (.apart _ zlog_tags)) (by simp -dsimp only [go_sem]), ?_⟩
      obtain ⟨v1, v2, rfl⟩ := hq
      have vp := shp_pool _ _ v1
      simp -dsimp only [go_sem, vp.1, vp.2.1, vp.2.2.1, k1, a0.size, a0.isNode, a0.plain, a0.lenT, e1, e2, e3]
      intro n1 hn1 hfc
      have hn5' : n4 ≤ n5 := hn5
      have hn1' : n6 ≤ n1 := hn1
      rw [hyes, rl_still vp.2.2.2]
      exact .mk _ ⟨v1, v2.mono (by omega) (by omega)⟩
    · have h0 : ((x.seats.length : Int) != 3) = true := by simp; omega
      have hno : victim x = (x, -1) := victim_no (by unfold vicOk; rw [show ((x.seats.length : Int) == 3) = false from beq_eq_false_iff_ne.2 (by omega)]; simp)
      simp -dsimp only [go_sem, hpo, h0, q1, hq0.size, hq0.isNode, hq0.plain, hq0.lenT, k1, a0.size, a0.isNode, a0.plain, a0.lenT, e1, e2, e3]
      intro n1 hn1 hfc
      have hn1' : n4 ≤ n1 := hn1
      rw [hno, rlnode_still hqs]
      exact .mk _ ⟨hrl, ho.mono (by omega) (by omega)⟩
  · have hno : victim x = (x, -1) := victim_no (by unfold vicOk; rw [hpo]; rfl)
    simp -dsimp only [go_sem, hpo, q1, hq0.size, hq0.isNode, hq0.plain, hq0.lenT, k1, a0.size, a0.isNode, a0.plain, a0.lenT, e1, e2, e3]
    intro n1 hn1 hfc
    have hn1' : n4 ≤ n1 := hn1
    rw [hno, rlnode_still hqs]
    exact .mk _ ⟨hrl, ho.mono (by omega) (by omega)⟩
end Go.Proofs.Ytpepddckmddbiaa.IM
end

section
/- The law of Victim. Printed by laws_b.py. -/
namespace Go.Proofs.Ytpepddckmddbiaa.IM
open Go Go.Proofs
set_option linter.unusedVariables false
set_option linter.unusedSimpArgs false
set_option maxHeartbeats 2000000
set_option maxRecDepth 20000

theorem vicGo_len : ∀ (n : Nat) (p : Md.Pool), (vicGo n p).1.seats.length = p.seats.length
  | 0, p => rfl
  | n + 1, p => by
    unfold vicGo
    split
    · rw [vicGo_len n]; exact List.length_modify ..
    · rfl
theorem c_victim (x : Md.Pool) : Md.cPool (victim x).1 ≤ 4 * Md.szPool x := by
  have h := cPool_le x
  cases e : vicOk x
  · rw [victim_no e]; exact h
  · rw [victim_yes e]
    rw [cPool_eq] at h ⊢
    rw [vicGo_len]; exact h
theorem lawVictim (d : D) (x : Md.Pool) (h : IsPool d x) : PCall Try.prog 22 [d] fun _ _ r => r = .lit (.bool true) := by
  have e := shp_pool _ _ h
  have e1 := e.1
  have e2 := e.2.1
  have e3 := e.2.2.1
  have e4 := e.2.2.2
  refine pcall_intro_vt Try.func22 rfl (by decide) rfl (by decide) (by rw [Try.ntmps22]; simp) fun w0 M n0 hW hT => ivc_sound ?_; simp -dsimp only [Try.f22, go_sem, e1, e2, e3]
  have dT : d.tags (· < n0) := hT d (by simp) h.data
  intro g1 b1 hb1
  refine xcall_v (szPool_p _ _ h 1048576 (by decide) (by decide)) (by simp -dsimp only [go_sem, rl_still, e4]) (fun _ => trivial) fun n1 hn1 => ?_
  simp -dsimp only [go_sem]
  intro hb
  have hs : Md.szPool x ≤ 1048576 := by
    have := Md.szR_le _ _ hb
    omega
  simp -dsimp only [go_sem, e1, e2, e3]
  refine xcall_p (toPool_p _ _ h hs) (by simp -dsimp only [go_sem, rl_still, e4]) fun rlo rhi r hrlo hrhi hr => ?_
  have ro := hr.2
  have ri := hr.1
  have rp := shp_pool _ _ ri
  have rp1 := rp.1
  have rp2 := rp.2.1
  have rp3 := rp.2.2.1
  have rp4 := rp.2.2.2
  refine ⟨ro.tags, ?_⟩
  simp -dsimp only [go_sem, e1, e2, e3, rp1, rp2, rp3]
  refine xcall_p (specVictim_p _ _ ri hs ri.data) (by simp -dsimp only [go_sem, rl_still, rp4]) fun vlo vhi vw hvlo hvhi hvw => ?_
  obtain ⟨v, rfl, hvw2⟩ := hvw.out
  have hv := hvw2
  have vo := hv.2
  have vi := hv.1
  have vp := shp_pool _ _ vi
  have vp1 := vp.1
  have vp2 := vp.2.1
  have vp3 := vp.2.2.1
  have vp4 := vp.2.2.2
  refine ⟨tags_two vo.tags, ?_⟩
  simp -dsimp only [go_sem, e1, e2, e3, rp1, rp2, rp3, vp1, vp2, vp3]
  intro g b hb
  refine xcall_p (toPool_p _ _ h hs) (by simp -dsimp only [go_sem, rl_still, e4]) fun xvlo xvhi xv hxvlo hxvhi hxv => ?_
  have xvo := hxv.2
  have xvi := hxv.1
  have xvp := shp_pool _ _ xvi
  have xvp1 := xvp.1
  have xvp2 := xvp.2.1
  have xvp3 := xvp.2.2.1
  have xvp4 := xvp.2.2.2
  refine ⟨xvo.tags, ?_⟩
  simp -dsimp only [go_sem, e1, e2, e3, vp1, vp2, vp3, xvp1, xvp2, xvp3]
  intro g12 b12 hb12
  refine xcall_p (victim_p _ _ xvi hs xvi.data) (by simp -dsimp only [go_sem, rl_still, xvp4]) fun ylo yhi yw hylo hyhi hyw => ?_
  obtain ⟨y, rfl, hyw2⟩ := hyw.out
  have hy := hyw2
  have yo := hy.2
  have yi := hy.1
  have yp := shp_pool _ _ yi
  have yp1 := yp.1
  have yp2 := yp.2.1
  have yp3 := yp.2.2.1
  have yp4 := yp.2.2.2
  refine ⟨tags_two yo.tags, ?_⟩
  simp -dsimp only [go_sem, e1, e2, e3, vp1, vp2, vp3, xvp1, xvp2, xvp3, yp1, yp2, yp3]
  intro g14 b14 hb14
  refine xcall_v (eqPool_p _ _ _ yi vi) (by simp -dsimp only [go_sem, rl_still, yp4, vp4]) (fun _ => trivial) fun n4 hn4 => ?_
  simp -dsimp only [go_sem, e1, e2, e3, vp1, vp2, vp3, xvp1, xvp2, xvp3, yp1, yp2, yp3, bne_self_eq_false, Bool.not_true, Bool.not_false, Bool.false_eq_true, Bool.true_eq_false, false_imp_iff, true_and, and_true, forall_const, reduceCtorEq]
  refine iwp_plan [(0, true), (1, true), (2, false), (3, false), (4, true)] [1, 6] rfl (by decide +kernel) (by decide) [] (by decide +kernel) ?_
  simp -dsimp only [go_sem, e1, e2, e3, vp1, vp2, vp3, xvp1, xvp2, xvp3, yp1, yp2, yp3]
  refine xcall_p (toPool_p _ _ h hs) (by simp -dsimp only [go_sem, rl_still, e4]) fun zlo zhi z hzlo hzhi hz => ?_
  have zo := hz.2
  have zi := hz.1
  have zp := shp_pool _ _ zi
  have zp1 := zp.1
  have zp2 := zp.2.1
  have zp3 := zp.2.2.1
  have zp4 := zp.2.2.2
  refine ⟨zo.tags, ?_⟩
  simp -dsimp only [go_sem, e1, e2, e3, vp1, vp2, vp3, xvp1, xvp2, xvp3, yp1, yp2, yp3, zp1, zp2, zp3]
  refine xcall_v (eqPool_p _ _ _ xvi zi) (by simp -dsimp only [go_sem, rl_still, xvp4, zp4]) (fun _ => trivial) fun n4 hn4 => ?_
  simp -dsimp only [go_sem, e1, e2, e3, vp1, vp2, vp3, xvp1, xvp2, xvp3, yp1, yp2, yp3, zp1, zp2, zp3, bne_self_eq_false, Bool.not_true, Bool.not_false, Bool.false_eq_true, Bool.true_eq_false, false_imp_iff, true_and, and_true, forall_const, reduceCtorEq]
  have hcb : Md.cPool x ≤ 4 * Md.szPool x := cPool_le x
  have hz : Md.cPool (victim x).1 ≤ 4 * Md.szPool x := c_victim x
  refine xcall_mk (markPool_p xv x (1) _ _ xvi xvo (by decide) (by omega)) (by simp -dsimp only [go_sem, e1, e2, e3, vp1, vp2, vp3, xvp1, xvp2, xvp3, yp1, yp2, yp3]) xvp3 xvp4 ⟨trivial, trivial⟩ (fun t ht => hW t (by have := xvo.rg t ht; omega)) [5, 8, 9, 1, 4, 6, 7] (fun _ _ => .any) (fun E => upd (upd (upd (upd (fun _ => none) 1 (some (g1, b1, d))) 4 (some (g, b, v))) 6 (some (g12, b12, E))) 7 (some (g14, b14, y))) fun m1 nm1 hnm1 hm1 =>
      ⟨by simp -dsimp only [go_sem, e1, e2, e3, vp1, vp2, vp3, xvp1, xvp2, xvp3, yp1, yp2, yp3], carry_any, ((((CarR.none _ _ _).upd e3 (carry_lo xvo (by omega) dT)).upd vp3 (carry_own xvo vo (.inr (by omega)))).upd (shp_pool _ _ hm1.rel).2.2.1 .here).upd yp3 (carry_own xvo yo (.inl (by omega))), ?_⟩
  have m1p := shp_pool _ _ hm1.rel
  have m1p1 := m1p.1
  have m1p2 := m1p.2.1
  have m1p3 := m1p.2.2.1
  have m1p4 := m1p.2.2.2
  have m1o := hm1.own xvo
  have m1i := hm1.rel
  have hk : ¬ (1 + (Md.cPool x : Nat) < (0 : Int)) := by omega
  simp -dsimp only [go_sem, e1, e2, e3, vp1, vp2, vp3, xvp1, xvp2, xvp3, yp1, yp2, yp3, m1p1, m1p2, m1p3, hk, bne_self_eq_false, Bool.not_true, Bool.not_false, Bool.false_eq_true, Bool.true_eq_false, false_imp_iff, true_and, and_true, forall_const, reduceCtorEq, decide_false]
  refine xcall_v (eqPool_p _ _ _ yi vi) (by simp -dsimp only [go_sem, rl_still, yp4, vp4]) (fun _ => trivial) fun n4 hn4 => ?_
  simp -dsimp only [go_sem, e1, e2, e3, vp1, vp2, vp3, xvp1, xvp2, xvp3, yp1, yp2, yp3, m1p1, m1p2, m1p3, hk, decide_false, bne_self_eq_false, Bool.not_true, Bool.not_false, Bool.false_eq_true, Bool.true_eq_false, false_imp_iff, true_and, and_true, forall_const, reduceCtorEq]
  refine xcall_mk (markPool_p y _ (1) _ _ yi yo (by decide) (by omega)) (by simp -dsimp only [go_sem, e1, e2, e3, vp1, vp2, vp3, xvp1, xvp2, xvp3, yp1, yp2, yp3, m1p1, m1p2, m1p3, hk]) yp3 yp4 ⟨trivial, trivial⟩ (fun t ht => hW t (by have := yo.rg t ht; omega)) [5, 8, 9, 1, 4, 6, 7] (fun _ _ => .any) (fun E => upd (upd (upd (upd (fun _ => none) 1 (some (g1, b1, d))) 4 (some (g, b, v))) 6 (some (g12, b12, m1))) 7 (some (g14, b14, E))) fun m3 nm3 hnm3 hm3 =>
      ⟨by simp -dsimp only [go_sem, e1, e2, e3, vp1, vp2, vp3, xvp1, xvp2, xvp3, yp1, yp2, yp3, m1p1, m1p2, m1p3, hk], carry_any, ((((CarR.none _ _ _).upd e3 (carry_lo yo (by omega) dT)).upd vp3 (carry_own yo vo (.inr (by omega)))).upd m1p3 (carry_own yo m1o (.inr (by omega)))).upd (shp_pool _ _ hm3.rel).2.2.1 .here, ?_⟩
  have m3p := shp_pool _ _ hm3.rel
  have m3p1 := m3p.1
  have m3p2 := m3p.2.1
  have m3p3 := m3p.2.2.1
  have m3p4 := m3p.2.2.2
  have m3o := hm3.own yo
  have m3i := hm3.rel
  simp -dsimp only [go_sem, e1, e2, e3, vp1, vp2, vp3, xvp1, xvp2, xvp3, yp1, yp2, yp3, m1p1, m1p2, m1p3, hk, m3p1, m3p2, m3p3]
  refine xcall_v (heldPool_p _ (victim x).1 (1) m3i (by decide) (by omega)) (by simp -dsimp only [go_sem, rl_still, m3p4]) (fun _ => trivial) fun n7 hn7 => ?_
  have hk2 : ¬ (1 + (Md.cPool (victim x).1 : Nat) < (0 : Int)) := by omega
  simp -dsimp only [go_sem, e1, e2, e3, vp1, vp2, vp3, xvp1, xvp2, xvp3, yp1, yp2, yp3, m1p1, m1p2, m1p3, hk, m3p1, m3p2, m3p3, hk2, bne_self_eq_false, Bool.not_true, Bool.not_false, Bool.false_eq_true, Bool.true_eq_false, false_imp_iff, true_and, and_true, forall_const, reduceCtorEq, decide_false]
  refine xcall_p (toPool_p _ _ h hs) (by simp -dsimp only [go_sem, rl_still, e4]) fun r2lo r2hi r2 hr2lo hr2hi hr2 => ?_
  have r2o := hr2.2
  have r2i := hr2.1
  have r2p := shp_pool _ _ r2i
  have r2p1 := r2p.1
  have r2p2 := r2p.2.1
  have r2p3 := r2p.2.2.1
  have r2p4 := r2p.2.2.2
  refine ⟨r2o.tags, ?_⟩
  simp -dsimp only [go_sem, e1, e2, e3, vp1, vp2, vp3, xvp1, xvp2, xvp3, yp1, yp2, yp3, m1p1, m1p2, m1p3, hk, m3p1, m3p2, m3p3, hk2, r2p1, r2p2, r2p3]
  refine xcall_p (victim_p _ _ r2i hs r2i.data) (by simp -dsimp only [go_sem, rl_still, r2p4]) fun hvlo hvhi hvw hhvlo hhvhi hhvw => ?_
  obtain ⟨hv, rfl, hhvw2⟩ := hhvw.out
  have hhv := hhvw2
  have hvo := hhv.2
  have hvi := hhv.1
  have hvp := shp_pool _ _ hvi
  have hvp1 := hvp.1
  have hvp2 := hvp.2.1
  have hvp3 := hvp.2.2.1
  have hvp4 := hvp.2.2.2
  refine ⟨tags_two hvo.tags, ?_⟩
  simp -dsimp only [go_sem, e1, e2, e3, vp1, vp2, vp3, xvp1, xvp2, xvp3, yp1, yp2, yp3, m1p1, m1p2, m1p3, hk, m3p1, m3p2, m3p3, hk2, r2p1, r2p2, r2p3, hvp1, hvp2, hvp3]
  intro g19 b19 hb19
  refine xcall_v (eqPool_p _ _ _ hvi vi) (by simp -dsimp only [go_sem, rl_still, hvp4, vp4]) (fun _ => trivial) fun n4 hn4 => ?_
  simp -dsimp only [go_sem, e1, e2, e3, vp1, vp2, vp3, xvp1, xvp2, xvp3, yp1, yp2, yp3, m1p1, m1p2, m1p3, hk, m3p1, m3p2, m3p3, hk2, hvp1, hvp2, hvp3, decide_false, bne_self_eq_false, Bool.not_true, Bool.not_false, Bool.false_eq_true, Bool.true_eq_false, false_imp_iff, true_and, and_true, forall_const, reduceCtorEq]
  refine xcall_v (heldPool_p _ (victim x).1 (1) m3i (by decide) (by omega)) (by simp -dsimp only [go_sem, rl_still, m3p4]) (fun _ => trivial) fun n9 hn9 => ?_
  simp -dsimp only [go_sem, e1, e2, e3, vp1, vp2, vp3, xvp1, xvp2, xvp3, yp1, yp2, yp3, m1p1, m1p2, m1p3, hk, m3p1, m3p2, m3p3, hk2, hvp1, hvp2, hvp3, bne_self_eq_false, Bool.not_true, Bool.not_false, Bool.false_eq_true, Bool.true_eq_false, false_imp_iff, true_and, and_true, forall_const, reduceCtorEq, decide_false]
end Go.Proofs.Ytpepddckmddbiaa.IM
end
