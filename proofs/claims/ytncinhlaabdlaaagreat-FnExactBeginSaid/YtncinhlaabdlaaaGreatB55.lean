/- Several of my texts in one module (merge.py). -/
import Derived.Test.YtncinhlaabdlaaaGreatB54
import Derived.Test.YtncinhlaabdlaaaGreatA4
import Derived.Test.YtncinhlaabdlaaaGreatB44
section
/- Contracts: Begin. Printed by begin.py. -/
namespace Go.Proofs.YtncinhlaabdlaaaGreat.IM
open Go Go.Proofs
set_option linter.unusedVariables false
set_option linter.unusedSimpArgs false
set_option maxHeartbeats 2000000
set_option maxRecDepth 20000

def beginCode (x : Md.Engine) : Int := if codeOf x true = 0 ∧ (x.txs.length = 6 ∨ 1000 < x.next) then 4 else codeOf x true
def beginDo (x : Md.Engine) : Md.Engine × Int × Int := if beginCode x = 0 then ({ x with txs := x.txs ++ [⟨x.next, 0, false⟩], next := x.next + 1 }, x.next, 0) else (x, 0, beginCode x)
def BeginR (x : Md.Engine) (n0 n1 : Nat) (r : D) : Prop := Three (fun a b => b = .lit (.int .i64 (beginDo x).2.1) ∧ IsEngine a (beginDo x).1 ∧ Own n0 n1 a) (.lit (.int .i64 (beginDo x).2.2)) r
theorem bg_no {x : Md.Engine} {n0 n1 lo hi : Nat} {a b c : D} (hb : beginCode x ≠ 0) (h : IsEngine a x) (ho : Own lo hi a) (h1 : n0 ≤ lo) (h2 : hi ≤ n1) (eb : b = .lit (.int .i64 0)) (ec : c = .lit (.int .i64 (beginCode x))) : BeginR x n0 n1 (.tup 3 (nthD [a, b, c])) := by
  subst eb; subst ec
  unfold BeginR beginDo
  rw [if_neg hb]
  exact .mk _ _ ⟨rfl, h, ho.mono h1 h2⟩
theorem bg_yes {x : Md.Engine} {n0 n1 : Nat} {a b c : D} (hb : beginCode x = 0) (h : IsEngine a { x with txs := x.txs ++ [⟨x.next, 0, false⟩], next := x.next + 1 }) (ho : Own n0 n1 a) (eb : b = .lit (.int .i64 x.next)) (ec : c = .lit (.int .i64 0)) : BeginR x n0 n1 (.tup 3 (nthD [a, b, c])) := by
  subst eb; subst ec
  unfold BeginR beginDo
  rw [if_pos hb]
  exact .mk _ _ ⟨rfl, h, ho⟩
/-- the codes of a beginning, case by case -/
theorem codeOf_01 (x : Md.Engine) : codeOf x true = 0 ∨ codeOf x true = 1 ∨ codeOf x true = 4 := by
  unfold codeOf; split
  · exact .inr (.inl rfl)
  · split
    · exact .inr (.inr rfl)
    · exact .inl rfl
theorem code0_ok {x : Md.Engine} (h : codeOf x true = 0) : engineOk x = true := by
  unfold codeOf at h
  by_cases h1 : engineOk x = true
  · exact h1
  · rw [if_pos (by simp [h1])] at h; cases h
theorem code0_len {x : Md.Engine} (h : codeOf x true = 0) : x.txs.length ≤ 6 := by
  have := code0_ok h
  simp only [engineOk, txsOk, Bool.and_eq_true, decide_eq_true_eq] at this
  omega
theorem code0_next {x : Md.Engine} (h : codeOf x true = 0) : 1 ≤ x.next ∧ x.next ≤ 1001 := by
  have := code0_ok h
  simp only [engineOk, headOk, Md.inB, Bool.and_eq_true, decide_eq_true_eq] at this
  omega
theorem ownN_rep {lo hi hi2 n k : Nat} {f G : Nat → D} {S : D} (h : OwnN lo hi n f) (hS : Own lo hi2 S) (h2 : hi ≤ hi2) (ht : ∀ t ∈ S.tl, t ∈ (f k).tl ∨ hi ≤ t) (hk : k < n) (eS : G k = S)
    (eo : ∀ i, i < n → i ≠ k → (G i).tl = (f i).tl ∧ (G i).whole) : OwnN lo hi2 n G := by
  refine ⟨fun i hi t hx => ?_, fun i hi => ?_, fun i j hij hj t hx hy => ?_, fun i hi => ?_⟩
  · by_cases hik : i = k
    · subst hik; rw [eS] at hx; exact hS.rg t hx
    · rw [(eo i hi hik).1] at hx; have := h.rg i hi t hx; omega
  · by_cases hik : i = k
    · subst hik; rw [eS]; exact hS.nd
    · rw [(eo i hi hik).1]; exact h.nd i hi
  · by_cases hik : i = k
    · subst hik
      rw [eS] at hx
      rw [(eo j hj (by omega)).1] at hy
      rcases ht t hx with h1 | h1
      · exact h.dj i j hij hj t h1 hy
      · have := h.rg j hj t hy; omega
    · by_cases hjk : j = k
      · subst hjk
        rw [eS] at hy
        rw [(eo i (by omega) hik).1] at hx
        rcases ht t hy with h1 | h1
        · exact h.dj i j hij hj t hx h1
        · have := h.rg i (by omega) t hx; omega
      · rw [(eo i (by omega) hik).1] at hx
        rw [(eo j hj hjk).1] at hy
        exact h.dj i j hij hj t hx hy
  · by_cases hik : i = k
    · subst hik; rw [eS]; exact hS.wh
    · exact (eo i hi hik).2
/-- the end: the transactions put anew, the next number raised -/
theorem bg_fin {G q : Nat → D} {x : Md.Engine} {S : D} {l : Md.Live} {lo hi n1 : Nat} {v : Int} (hE : IsEngine (.node (.agg [136, 2, 2, 1, 1, 1, 1]) q) x) (hO : Own lo hi (.node (.agg [136, 2, 2, 1, 1, 1, 1]) q))
    (hS : IsL 3 IsLive S (x.txs ++ [l])) (oS : Own lo n1 S) (h2 : hi ≤ n1) (ht : ∀ t ∈ S.tl, t ∈ (q 3).tl ∨ hi ≤ t) (eS : G 3 = S) (e5 : G 5 = .lit (.int .i64 v)) (eo : ∀ i, i ≠ 3 → i ≠ 5 → G i = q i) :
    IsEngine (.node (.agg [136, 2, 2, 1, 1, 1, 1]) G) { x with txs := x.txs ++ [l], next := v } ∧ Own lo n1 (.node (.agg [136, 2, 2, 1, 1, 1, 1]) G) := by
  obtain ⟨q', he, hq, q0, q1, q2, q3, q4, q5, q6⟩ := hE
  cases he
  refine ⟨⟨G, rfl, fun i => ?_, by rw [eo 0 (by decide) (by decide)]; exact q0, by rw [eo 1 (by decide) (by decide)]; exact q1, by rw [eo 2 (by decide) (by decide)]; exact q2, by rw [eS]; exact hS, by rw [eo 4 (by decide) (by decide)]; exact q4, e5, by rw [eo 6 (by decide) (by decide)]; exact q6⟩, own_node (ownN_rep hO.node oS h2 ht (by decide) eS fun i hi hik => ?_)⟩
  · by_cases h3 : i = 3
    · subst h3; rw [eS]; exact hS.still
    · by_cases h5 : i = 5
      · subst h5; rw [e5]; trivial
      · rw [eo i h3 h5]; exact hq i
  · by_cases h5 : i = 5
    · subst h5
      have q5 : q 5 = _ := q5
      rw [e5, q5]; exact ⟨rfl, trivial⟩
    · rw [eo i hik h5]; exact ⟨rfl, hO.node.wh i hi⟩
theorem cpZ_free (t : Nat) : (D.node (.agg [136, 2, 2, 1, 1, 1, 1]) cpZ).free t := fun i hi => by
  have hi' : i < 7 := hi
  match i, hi' with
  | 0, _ =>
    intro j hj k hk
    have hk' : k < 2 := hk
    match k, hk' with
    | 0, _ => trivial
    | 1, _ =>
      intro a ha b hb
      have hb' : b < 2 := hb
      match b, hb' with
      | 0, _ => trivial
      | 1, _ =>
        intro c hc
        have hc' : c < 3 := hc
        match c, hc' with
        | 0, _ => trivial
        | 1, _ => trivial
        | 2, _ => trivial
  | 1, _ =>
    intro j hj
    have hj' : j < 2 := hj
    match j, hj' with
    | 0, _ => trivial
    | 1, _ => trivial
  | 2, _ =>
    intro j hj
    have hj' : j < 2 := hj
    match j, hj' with
    | 0, _ => trivial
    | 1, _ => trivial
  | 3, _ => trivial
  | 4, _ => trivial
  | 5, _ => trivial
  | 6, _ => trivial
theorem own_fld_free {lo hi n k t : Nat} {f : Nat → D} (h : OwnN lo hi n f) (hk : k < n) (ht : t ∈ (f k).tl) : ∀ i, i < n → i ≠ k → (f i).free t := fun i hi hik => free_nil (h.wh i hi) fun hx => by
  rcases Nat.lt_or_gt_of_ne hik with h1 | h1
  · exact h.dj i k h1 hk t hx ht
  · exact h.dj k i h1 hi t ht hx
def bgLive (n : Int) : D := .node (.agg [1, 1, 1]) (upd (nthD [.lit (.int .i64 0), .lit (.int .i64 0), .lit (.bool false)]) 0 (.lit (.int .i64 n)))
theorem isLive_bg (n : Int) : IsLive (bgLive n) ⟨n, 0, false⟩ := ⟨_, rfl, still_upd (stN (by simp only [stillL_nil, stillL_cons, still_lit, still_nil, still_any, still_nodeN, still_nodeC, and_self])) trivial, rfl, rfl, rfl⟩
theorem own_bg (n : Int) (lo hi : Nat) : Own lo hi (bgLive n) := by
  have e : (bgLive n).tl = [] := rfl
  refine ⟨fun t ht => by rw [e] at ht; simp at ht, by rw [e]; simp, fun i hi => ?_⟩
  have hi' : i < 3 := hi
  match i, hi' with
  | 0, _ => trivial
  | 1, _ => trivial
  | 2, _ => trivial
def bgZ : D := .node (.agg [1, 1, 1]) (nthD [.lit (.int .i64 0), .lit (.int .i64 0), .lit (.bool false)])
theorem still_bgZ : bgZ.still := stN (by simp only [stillL_nil, stillL_cons, still_lit, still_nil, still_any, still_nodeN, still_nodeC, and_self])
theorem bg_flat {t n sz b : Nat} {z : Bool} {f : Nat → D} (h : ∀ i, i < n → (f i).tl = []) (hb : b ∈ (D.sl t z n sz f).tl) : b = t := by
  simp only [D.tl, List.mem_cons, List.mem_flatMap, List.mem_range] at hb
  rcases hb with rfl | ⟨i, hi, hx⟩
  · rfl
  · rw [h i hi] at hx; simp at hx
theorem tl_own {lo hi n t sz : Nat} {xs : List Md.Live} {f : Nat → D} (h : ∀ i (hi : i < xs.length), IsLive (f i) xs[i]) : ∀ b, b ∈ (D.sl t true xs.length sz f).tl → b = t := fun b hb => bg_flat (fun i hi => (h i hi).tl) hb
theorem specBegin_p (d : D) (x : Md.Engine) (h : IsEngine d x) (hs : Md.szEngine x ≤ 1048576) (hd : d.data) : PCall Tryz.prog 24 [d] (BeginR x) := by
  have hp := h
  have eq := shp_engine _ _ h
  have e1 := eq.1
  have e2 := eq.2.1
  have e3 := eq.2.2.1
  have e4 := eq.2.2.2
  obtain ⟨f0, rfl, hf0, k0, k1, k2, k3, k4, k5, k6⟩ := id h
  have k5 : f0 5 = _ := k5
  have c44 : ((4 : Int) != 0) = true := rfl
  have c00 : ((0 : Int) != 0) = false := rfl
  refine pcall_intro_t Tryz.func24 rfl (by decide) rfl (by decide) (by rw [Tryz.ntmps24]; simp) fun w0 M n0 hW hT => ivc_sound ?_; simp -dsimp only [Tryz.f24, go_sem, e1, e2, e3, k3.size, k3.isNode, k3.plain, k3.lenT, k5]
  have dT : (D.node (.agg [136, 2, 2, 1, 1, 1, 1]) f0).tags (· < n0) := hT _ (by simp) hd
  intro g1 b1 hb1 g2 b2 hb2
  by_cases hb : beginCode x = 0
  rotate_left
  · refine xcall_p (l7Copy_p _ _ hp hs) (by simp -dsimp only [go_sem, rl_still, e4]) fun m0 p0 r0 hm0 hp0 hr0 => ?_
    have hm0' : b2 + 1 ≤ m0 := hm0
    have ho := hr0.2
    have rq := shp_engine _ _ hr0.1
    refine ⟨ho.tags, ?_⟩
    simp -dsimp only [go_sem, e1, e2, e3, k3.size, k3.isNode, k3.plain, k3.lenT, k5, rq.1, rq.2.1, rq.2.2.1]
    intro g5 b5 hb5
    have hb5' : p0 ≤ b5 := hb5
    refine xcall_v (l7Code_p _ x hp hs) (by simp -dsimp only [go_sem, rl_still, e4]) (fun _ => trivial) fun n2 hn2 => ?_
    have hn2' : b5 + 1 ≤ n2 := hn2
    by_cases c0 : codeOf x true = 0
    · have c0l : (codeOf x true == 0) = true := by simpa using c0
      have cc : x.txs.length = 6 ∨ 1000 < x.next := by
        unfold beginCode at hb
        by_cases c : codeOf x true = 0 ∧ (x.txs.length = 6 ∨ 1000 < x.next)
        · exact c.2
        · rw [if_neg c] at hb; exact absurd c0 hb
      have hbc : beginCode x = 4 := if_pos ⟨c0, cc⟩
      have hlen := code0_len c0
      by_cases c6 : x.txs.length = 6
      · have cl : ((x.txs.length : Int) == 6) = true := by simp; omega
        simp -dsimp only [go_sem, e1, e2, e3, k3.size, k3.isNode, k3.plain, k3.lenT, k5, rq.1, rq.2.1, rq.2.2.1, c0, c0l, cl, c44]
        all_goals
          (intro n1 hn1 hfc
           rw [rl_still rq.2.2.2]
           exact bg_no (lo := m0) (hi := p0) hb hr0.1 ho (by omega) (by omega) rfl (by rw [hbc]))
      · have cn : 1000 < x.next := by rcases cc with c | c; exact absurd c c6; exact c
        have cl : ((x.txs.length : Int) == 6) = false := by simp; omega
        simp -dsimp only [go_sem, e1, e2, e3, k3.size, k3.isNode, k3.plain, k3.lenT, k5, rq.1, rq.2.1, rq.2.2.1, c0, c0l, cl, cn, c44]
        all_goals
          (intro n1 hn1 hfc
           rw [rl_still rq.2.2.2]
           exact bg_no (lo := m0) (hi := p0) hb hr0.1 ho (by omega) (by omega) rfl (by rw [hbc]))
    · have c0l : (codeOf x true == 0) = false := by simpa using c0
      have c0n : (codeOf x true != 0) = true := by simpa using c0
      have hbc : beginCode x = codeOf x true := if_neg fun h => c0 h.1
      simp -dsimp only [go_sem, e1, e2, e3, k3.size, k3.isNode, k3.plain, k3.lenT, k5, rq.1, rq.2.1, rq.2.2.1, c0l, c0n]
      all_goals
          (intro n1 hn1 hfc
           rw [rl_still rq.2.2.2]
           exact bg_no (lo := m0) (hi := p0) hb hr0.1 ho (by omega) (by omega) rfl (by rw [hbc]))
  · have c0 : codeOf x true = 0 := by
      unfold beginCode at hb
      by_cases c : codeOf x true = 0 ∧ (x.txs.length = 6 ∨ 1000 < x.next)
      · exact c.1
      · rw [if_neg c] at hb; exact hb
    have cc : ¬ (x.txs.length = 6 ∨ 1000 < x.next) := fun h => by
      unfold beginCode at hb
      rw [if_pos ⟨c0, h⟩] at hb
      exact absurd hb (by decide)
    have hlen := code0_len c0
    have hnx := code0_next c0
    have c0l : (codeOf x true == 0) = true := by simpa using c0
    have c0n : (codeOf x true != 0) = false := by simpa using c0
    have cl : ((x.txs.length : Int) == 6) = false := by simp; omega
    have cn : ¬ 1000 < x.next := fun h => cc (.inr h)
    refine xcall_t (l7Copy_p _ _ hp hs) (by simp -dsimp only [go_sem, rl_still, e4]) fun m0 p0 r0 hm0 hp0 hr0 => ?_
    have hm0' : b2 + 1 ≤ m0 := hm0
    have ho := hr0.2
    have rq := shp_engine _ _ hr0.1
    refine ⟨ho.tags, ?_⟩
    obtain ⟨q, rfl, hq, q0, q1, q2, q3, q4, q5, q6⟩ := id hr0.1
    have q5 : q 5 = _ := q5
    have rq1 := rq.1
    have rq2 := rq.2.2.1
    rcases q3 with ⟨q3, hnil⟩ | ⟨t, zb, f, q3, hfs, hfl, hf⟩
    · refine Conv.zero ?_
      simp -dsimp only [go_sem, e1, e2, e3, k3.size, k3.isNode, k3.plain, k3.lenT, k5, c0, c0l, c0n, cl, cn, rq1, rq2, c00, q3, q5]
      intro g5 b5 hb5
      have hb5' : p0 ≤ b5 := hb5
      refine xcall_v (l7Code_p _ x hp hs) (by simp -dsimp only [go_sem, rl_still, e4]) (fun _ => trivial) fun n2 hn2 => ?_
      have hn2' : b5 + 1 ≤ n2 := hn2
      simp -dsimp only [go_sem, e1, e2, e3, k3.size, k3.isNode, k3.plain, k3.lenT, k5, c0, c0l, c0n, cl, cn, rq1, rq2, c00, q3, q5]
      intro g6 b6 hb6
      refine ⟨fun y h => h.symm, fun g7 b7 n' hn' hb7 hb8 => ?_⟩
      refine iwp_plan [(0, true), (1, true), (2, true), (3, false), (4, true), (5, true)] [1, 5] rfl (by decide +kernel) (by decide) [] (by decide +kernel) ?_
      simp -dsimp only [go_sem, e1, e2, e3, k3.size, k3.isNode, k3.plain, k3.lenT, k5, c0, c0l, c0n, cl, cn, rq1, rq2, c00, q3, q5]
      intro n1 hn1 hfc
      rw [rl_node]
      have hF : Fill IsLive 3 m0 p0 [⟨x.next, 0, false⟩] 1 1 (upd (fun _ => bgZ) 0 (bgLive x.next)) := Fill.one (xs := [⟨x.next, 0, false⟩]) (fun _ => still_bgZ) shp_live (Nat.lt_succ_self 0) (isLive_bg x.next) (own_bg x.next m0 p0) (Nat.le_refl _) (Nat.le_refl _) (by omega)
      have hL := hF.isLs (b := b7) (n1 := n1) rfl (by decide) (by omega) hfc.here.1 (by omega) hfc.here.2
      have hS : IsL 3 IsLive (.sl b7 true 1 3 (upd (fun _ => bgZ) 0 (bgLive x.next))) (x.txs ++ [⟨x.next, 0, false⟩]) := by rw [hnil]; exact hL.1
      have hw : IntKind.i64.wrap (x.next + 1) = x.next + 1 := w64 (by omega) (by omega)
      refine (fun hz : IsEngine _ _ ∧ Own _ _ _ => bg_yes hb hz.1 hz.2 rfl rfl) (bg_fin (S := .sl b7 true 1 3 (upd (fun _ => bgZ) 0 (bgLive x.next))) (v := x.next + 1) hr0.1 (ho.mono (by omega) (Nat.le_refl _)) hS (hL.2.1.mono (by omega) (Nat.le_refl _)) (by omega) (fun b hb => .inr ?_) ?_ ?_ fun i h3 h5 => ?_)
      · have := bg_flat (fun i hi => by obtain rfl : i = 0 := by omega
                                        rfl) hb
        omega
      · simp -dsimp only [go_sem, q3]
        exact congrArg (D.sl b7 true 1 3) (rls_still hL.2.2)
      · simp -dsimp only [go_sem, hw, rl_lit]
      · rw [upd_ne _ _ h5, upd_ne _ _ h3]; exact rl_still (hq i)
    · have hoS : Own m0 p0 (.sl t zb x.txs.length 3 f) := by
        have := ho.node.own (i := 3) (by decide)
        rw [q3] at this
        exact this
      obtain rfl : zb = true := hoS.wh.1
      have ht3 : t ∈ (q 3).tl := by rw [q3]; simp [D.tl]
      have ht := hoS.rg t (by simp [D.tl])
      have hdf : (D.node (.agg [136, 2, 2, 1, 1, 1, 1]) f0).free t := free_of_tags (m := n0) (by omega) dT
      refine conv_field (l := 1000) [1, 2] (hW t (by omega)) (by simp -dsimp only [go_sem]) (own_free hoS) 3 (by decide) q3 (own_fld_free ho.node (by decide) ht3) (fun j hj => ?_) (fun l' g b z hz => ⟨hz, (((OkR.none t).upd e3 hdf).upd (plain_node _ _) (cpZ_free t)) _ _ _ _ hz⟩) fun g => ?_
      · simp only [List.mem_cons, List.not_mem_nil, or_false] at hj
        rcases hj with rfl | rfl
        all_goals first | exact free_ptr t _ _ _ _ | exact free_lit t _
      simp -dsimp only [go_sem, e1, e2, e3, k3.size, k3.isNode, k3.plain, k3.lenT, k5, c0, c0l, c0n, cl, cn, rq1, rq2, c00, q3, q5]
      intro g5 b5 hb5
      have hb5' : p0 ≤ b5 := hb5
      refine xcall_v (l7Code_p _ x hp hs) (by simp -dsimp only [go_sem, rl_still, e4]) (fun _ => trivial) fun n2 hn2 => ?_
      have hn2' : b5 + 1 ≤ n2 := hn2
      simp -dsimp only [go_sem, e1, e2, e3, k3.size, k3.isNode, k3.plain, k3.lenT, k5, c0, c0l, c0n, cl, cn, rq1, rq2, c00, q3, q5]
      intro g6 b6 hb6
      refine ⟨fun y h => h.symm, by omega, by omega, fun g7 b7 n' hn' hb7 hb8 => ?_⟩
      refine iwp_plan [(0, true), (1, true), (2, true), (3, false), (4, true), (5, true)] [1, 5] rfl (by decide +kernel) (by decide) [] (by decide +kernel) ?_
      simp -dsimp only [go_sem, e1, e2, e3, k3.size, k3.isNode, k3.plain, k3.lenT, k5, c0, c0l, c0n, cl, cn, rq1, rq2, c00, q3, q5]
      intro n1 hn1 hfc
      rw [rl_node]
      have hF := Fill.catA ((fill_snoc (x := (⟨x.next, 0, false⟩ : Md.Live)) shp_live hfs hf hoS)) (z := fun _ => bgZ) (fun _ => still_bgZ) shp_live (by simp) (by rw [snoc_get]; exact isLive_bg x.next) (own_bg x.next m0 p0) (fun j hj b hb hx => absurd hx (by rw [show (bgLive x.next).tl = [] from rfl]; simp))
      have hL := hF.isLs (b := b7) (n1 := n1) (by simp) (by omega) (by rcases hb8 with h | h <;> omega) hfc.here.1 (by omega) hfc.here.2
      have hw : IntKind.i64.wrap (x.next + 1) = x.next + 1 := w64 (by omega) (by omega)
      refine (fun hz : IsEngine _ _ ∧ Own _ _ _ => bg_yes hb hz.1 hz.2 rfl rfl) (bg_fin (S := .sl b7 true (x.txs.length + 1) 3 (catD x.txs.length f (upd (fun _ => bgZ) 0 (bgLive x.next)))) (v := x.next + 1) hr0.1 (ho.mono (by omega) (Nat.le_refl _)) hL.1 (hL.2.1.mono (by omega) (Nat.le_refl _)) (by omega) (fun b hb => ?_) ?_ ?_ fun i h3 h5 => ?_)
      · have hbb := bg_flat (fun i hi => by
          unfold catD
          by_cases hil : i < x.txs.length
          · rw [if_pos hil]; exact (hf i hil).tl
          · obtain rfl : i = x.txs.length := by omega
            rw [if_neg hil, Nat.sub_self]; rfl) hb
        rcases hb8 with h | h
        · exact .inr (by omega)
        · exact .inl (by rw [hbb, ← h]; exact ht3)
      · simp -dsimp only [go_sem, q3]
        exact congrArg (D.sl b7 true (x.txs.length + 1) 3) (rls_still hL.2.2)
      · simp -dsimp only [go_sem, hw, rl_lit]
      · rw [upd_ne _ _ h5, upd_ne _ _ h3]; exact rl_still (hq i)
theorem begin_p (d : D) (x : Md.Engine) (h : IsEngine d x) (hs : Md.szEngine x ≤ 1048576) (hd : d.data) : PCall Tryz.prog 25 [d] (BeginR x) := by
  have hp := h
  have eq := shp_engine _ _ h
  have e1 := eq.1
  have e2 := eq.2.1
  have e3 := eq.2.2.1
  have e4 := eq.2.2.2
  obtain ⟨f0, rfl, hf0, k0, k1, k2, k3, k4, k5, k6⟩ := id h
  have k5 : f0 5 = _ := k5
  have c44 : ((4 : Int) != 0) = true := rfl
  have c00 : ((0 : Int) != 0) = false := rfl
  refine pcall_intro_t Tryz.func25 rfl (by decide) rfl (by decide) (by rw [Tryz.ntmps25]; simp) fun w0 M n0 hW hT => ivc_sound ?_; simp -dsimp only [Tryz.f25, go_sem, e1, e2, e3, k3.size, k3.isNode, k3.plain, k3.lenT, k5]
  have dT : (D.node (.agg [136, 2, 2, 1, 1, 1, 1]) f0).tags (· < n0) := hT _ (by simp) hd
  intro g1 b1 hb1 g2 b2 hb2
  by_cases hb : beginCode x = 0
  rotate_left
  · refine xcall_p (cloneEngine_p _ _ hp hs) (by simp -dsimp only [go_sem, rl_still, e4]) fun m0 p0 r0 hm0 hp0 hr0 => ?_
    have hm0' : b2 + 1 ≤ m0 := hm0
    have ho := hr0.2
    have rq := shp_engine _ _ hr0.1
    refine ⟨ho.tags, ?_⟩
    simp -dsimp only [go_sem, e1, e2, e3, k3.size, k3.isNode, k3.plain, k3.lenT, k5, rq.1, rq.2.1, rq.2.2.1]
    intro g5 b5 hb5
    have hb5' : p0 ≤ b5 := hb5
    refine xcall_v (codeOf_p _ x true hp hs hd) (by simp -dsimp only [go_sem, rl_still, e4]) (fun _ => trivial) fun n2 hn2 => ?_
    have hn2' : b5 + 1 ≤ n2 := hn2
    by_cases c0 : codeOf x true = 0
    · have c0l : (codeOf x true == 0) = true := by simpa using c0
      have cc : x.txs.length = 6 ∨ 1000 < x.next := by
        unfold beginCode at hb
        by_cases c : codeOf x true = 0 ∧ (x.txs.length = 6 ∨ 1000 < x.next)
        · exact c.2
        · rw [if_neg c] at hb; exact absurd c0 hb
      have hbc : beginCode x = 4 := if_pos ⟨c0, cc⟩
      have hlen := code0_len c0
      by_cases c6 : x.txs.length = 6
      · have cl : (6 : Int) ≤ (x.txs.length : Int) := by omega
        simp -dsimp only [go_sem, e1, e2, e3, k3.size, k3.isNode, k3.plain, k3.lenT, k5, rq.1, rq.2.1, rq.2.2.1, c0, c0l, cl, c44]
        all_goals
          (intro n1 hn1 hfc
           rw [rl_still rq.2.2.2]
           exact bg_no (lo := m0) (hi := p0) hb hr0.1 ho (by omega) (by omega) rfl (by rw [hbc]))
      · have cn : 1000 < x.next := by rcases cc with c | c; exact absurd c c6; exact c
        have cl : ¬ (6 : Int) ≤ (x.txs.length : Int) := by omega
        simp -dsimp only [go_sem, e1, e2, e3, k3.size, k3.isNode, k3.plain, k3.lenT, k5, rq.1, rq.2.1, rq.2.2.1, c0, c0l, cl, cn, c44]
        all_goals
          (intro n1 hn1 hfc
           rw [rl_still rq.2.2.2]
           exact bg_no (lo := m0) (hi := p0) hb hr0.1 ho (by omega) (by omega) rfl (by rw [hbc]))
    · have c0l : (codeOf x true == 0) = false := by simpa using c0
      have c0n : (codeOf x true != 0) = true := by simpa using c0
      have hbc : beginCode x = codeOf x true := if_neg fun h => c0 h.1
      simp -dsimp only [go_sem, e1, e2, e3, k3.size, k3.isNode, k3.plain, k3.lenT, k5, rq.1, rq.2.1, rq.2.2.1, c0l, c0n]
      all_goals
          (intro n1 hn1 hfc
           rw [rl_still rq.2.2.2]
           exact bg_no (lo := m0) (hi := p0) hb hr0.1 ho (by omega) (by omega) rfl (by rw [hbc]))
  · have c0 : codeOf x true = 0 := by
      unfold beginCode at hb
      by_cases c : codeOf x true = 0 ∧ (x.txs.length = 6 ∨ 1000 < x.next)
      · exact c.1
      · rw [if_neg c] at hb; exact hb
    have cc : ¬ (x.txs.length = 6 ∨ 1000 < x.next) := fun h => by
      unfold beginCode at hb
      rw [if_pos ⟨c0, h⟩] at hb
      exact absurd hb (by decide)
    have hlen := code0_len c0
    have hnx := code0_next c0
    have c0l : (codeOf x true == 0) = true := by simpa using c0
    have c0n : (codeOf x true != 0) = false := by simpa using c0
    have cl : ¬ (6 : Int) ≤ (x.txs.length : Int) := by omega
    have cn : ¬ 1000 < x.next := fun h => cc (.inr h)
    refine xcall_t (cloneEngine_p _ _ hp hs) (by simp -dsimp only [go_sem, rl_still, e4]) fun m0 p0 r0 hm0 hp0 hr0 => ?_
    have hm0' : b2 + 1 ≤ m0 := hm0
    have ho := hr0.2
    have rq := shp_engine _ _ hr0.1
    refine ⟨ho.tags, ?_⟩
    obtain ⟨q, rfl, hq, q0, q1, q2, q3, q4, q5, q6⟩ := id hr0.1
    have q5 : q 5 = _ := q5
    have rq1 := rq.1
    have rq2 := rq.2.2.1
    rcases q3 with ⟨q3, hnil⟩ | ⟨t, zb, f, q3, hfs, hfl, hf⟩
    · refine Conv.zero ?_
      simp -dsimp only [go_sem, e1, e2, e3, k3.size, k3.isNode, k3.plain, k3.lenT, k5, c0, c0l, c0n, cl, cn, rq1, rq2, c00, q3, q5]
      intro g5 b5 hb5
      have hb5' : p0 ≤ b5 := hb5
      refine xcall_v (codeOf_p _ x true hp hs hd) (by simp -dsimp only [go_sem, rl_still, e4]) (fun _ => trivial) fun n2 hn2 => ?_
      have hn2' : b5 + 1 ≤ n2 := hn2
      simp -dsimp only [go_sem, e1, e2, e3, k3.size, k3.isNode, k3.plain, k3.lenT, k5, c0, c0l, c0n, cl, cn, rq1, rq2, c00, q3, q5]
      intro g6 b6 hb6
      refine ⟨fun y h => h.symm, fun g7 b7 n' hn' hb7 hb8 => ?_⟩
      refine iwp_plan [(0, true), (1, true), (2, true), (3, false), (4, true), (5, true)] [1, 5] rfl (by decide +kernel) (by decide) [] (by decide +kernel) ?_
      simp -dsimp only [go_sem, e1, e2, e3, k3.size, k3.isNode, k3.plain, k3.lenT, k5, c0, c0l, c0n, cl, cn, rq1, rq2, c00, q3, q5]
      intro n1 hn1 hfc
      rw [rl_node]
      have hF : Fill IsLive 3 m0 p0 [⟨x.next, 0, false⟩] 1 1 (upd (fun _ => bgZ) 0 (bgLive x.next)) := Fill.one (xs := [⟨x.next, 0, false⟩]) (fun _ => still_bgZ) shp_live (Nat.lt_succ_self 0) (isLive_bg x.next) (own_bg x.next m0 p0) (Nat.le_refl _) (Nat.le_refl _) (by omega)
      have hL := hF.isLs (b := b7) (n1 := n1) rfl (by decide) (by omega) hfc.here.1 (by omega) hfc.here.2
      have hS : IsL 3 IsLive (.sl b7 true 1 3 (upd (fun _ => bgZ) 0 (bgLive x.next))) (x.txs ++ [⟨x.next, 0, false⟩]) := by rw [hnil]; exact hL.1
      have hw : IntKind.i64.wrap (x.next + 1) = x.next + 1 := w64 (by omega) (by omega)
      refine (fun hz : IsEngine _ _ ∧ Own _ _ _ => bg_yes hb hz.1 hz.2 rfl rfl) (bg_fin (S := .sl b7 true 1 3 (upd (fun _ => bgZ) 0 (bgLive x.next))) (v := x.next + 1) hr0.1 (ho.mono (by omega) (Nat.le_refl _)) hS (hL.2.1.mono (by omega) (Nat.le_refl _)) (by omega) (fun b hb => .inr ?_) ?_ ?_ fun i h3 h5 => ?_)
      · have := bg_flat (fun i hi => by obtain rfl : i = 0 := by omega
                                        rfl) hb
        omega
      · simp -dsimp only [go_sem, q3]
        exact congrArg (D.sl b7 true 1 3) (rls_still hL.2.2)
      · simp -dsimp only [go_sem, hw, rl_lit]
      · rw [upd_ne _ _ h5, upd_ne _ _ h3]; exact rl_still (hq i)
    · have hoS : Own m0 p0 (.sl t zb x.txs.length 3 f) := by
        have := ho.node.own (i := 3) (by decide)
        rw [q3] at this
        exact this
      obtain rfl : zb = true := hoS.wh.1
      have ht3 : t ∈ (q 3).tl := by rw [q3]; simp [D.tl]
      have ht := hoS.rg t (by simp [D.tl])
      have hdf : (D.node (.agg [136, 2, 2, 1, 1, 1, 1]) f0).free t := free_of_tags (m := n0) (by omega) dT
      refine conv_field (l := 1000) [1, 2] (hW t (by omega)) (by simp -dsimp only [go_sem]) (own_free hoS) 3 (by decide) q3 (own_fld_free ho.node (by decide) ht3) (fun j hj => ?_) (fun l' g b z hz => ⟨hz, (((OkR.none t).upd e3 hdf).upd (plain_node _ _) (cpZ_free t)) _ _ _ _ hz⟩) fun g => ?_
      · simp only [List.mem_cons, List.not_mem_nil, or_false] at hj
        rcases hj with rfl | rfl
        all_goals first | exact free_ptr t _ _ _ _ | exact free_lit t _
      simp -dsimp only [go_sem, e1, e2, e3, k3.size, k3.isNode, k3.plain, k3.lenT, k5, c0, c0l, c0n, cl, cn, rq1, rq2, c00, q3, q5]
      intro g5 b5 hb5
      have hb5' : p0 ≤ b5 := hb5
      refine xcall_v (codeOf_p _ x true hp hs hd) (by simp -dsimp only [go_sem, rl_still, e4]) (fun _ => trivial) fun n2 hn2 => ?_
      have hn2' : b5 + 1 ≤ n2 := hn2
      simp -dsimp only [go_sem, e1, e2, e3, k3.size, k3.isNode, k3.plain, k3.lenT, k5, c0, c0l, c0n, cl, cn, rq1, rq2, c00, q3, q5]
      intro g6 b6 hb6
      refine ⟨fun y h => h.symm, by omega, by omega, fun g7 b7 n' hn' hb7 hb8 => ?_⟩
      refine iwp_plan [(0, true), (1, true), (2, true), (3, false), (4, true), (5, true)] [1, 5] rfl (by decide +kernel) (by decide) [] (by decide +kernel) ?_
      simp -dsimp only [go_sem, e1, e2, e3, k3.size, k3.isNode, k3.plain, k3.lenT, k5, c0, c0l, c0n, cl, cn, rq1, rq2, c00, q3, q5]
      intro n1 hn1 hfc
      rw [rl_node]
      have hF := Fill.catA ((fill_snoc (x := (⟨x.next, 0, false⟩ : Md.Live)) shp_live hfs hf hoS)) (z := fun _ => bgZ) (fun _ => still_bgZ) shp_live (by simp) (by rw [snoc_get]; exact isLive_bg x.next) (own_bg x.next m0 p0) (fun j hj b hb hx => absurd hx (by rw [show (bgLive x.next).tl = [] from rfl]; simp))
      have hL := hF.isLs (b := b7) (n1 := n1) (by simp) (by omega) (by rcases hb8 with h | h <;> omega) hfc.here.1 (by omega) hfc.here.2
      have hw : IntKind.i64.wrap (x.next + 1) = x.next + 1 := w64 (by omega) (by omega)
      refine (fun hz : IsEngine _ _ ∧ Own _ _ _ => bg_yes hb hz.1 hz.2 rfl rfl) (bg_fin (S := .sl b7 true (x.txs.length + 1) 3 (catD x.txs.length f (upd (fun _ => bgZ) 0 (bgLive x.next)))) (v := x.next + 1) hr0.1 (ho.mono (by omega) (Nat.le_refl _)) hL.1 (hL.2.1.mono (by omega) (Nat.le_refl _)) (by omega) (fun b hb => ?_) ?_ ?_ fun i h3 h5 => ?_)
      · have hbb := bg_flat (fun i hi => by
          unfold catD
          by_cases hil : i < x.txs.length
          · rw [if_pos hil]; exact (hf i hil).tl
          · obtain rfl : i = x.txs.length := by omega
            rw [if_neg hil, Nat.sub_self]; rfl) hb
        rcases hb8 with h | h
        · exact .inr (by omega)
        · exact .inl (by rw [hbb, ← h]; exact ht3)
      · simp -dsimp only [go_sem, q3]
        exact congrArg (D.sl b7 true (x.txs.length + 1) 3) (rls_still hL.2.2)
      · simp -dsimp only [go_sem, hw, rl_lit]
      · rw [upd_ne _ _ h5, upd_ne _ _ h3]; exact rl_still (hq i)
end Go.Proofs.YtncinhlaabdlaaaGreat.IM
end

section
/- The law of Begin. Printed by laws_b.py. -/
namespace Go.Proofs.YtncinhlaabdlaaaGreat.IM
open Go Go.Proofs
set_option linter.unusedVariables false
set_option linter.unusedSimpArgs false
set_option maxHeartbeats 2000000
set_option maxRecDepth 20000

theorem BeginR.out {x : Md.Engine} {n0 n1 : Nat} {r : D} (h : BeginR x n0 n1 r) : ∃ a, r = .tup 3 (nthD [a, .lit (.int .i64 (beginDo x).2.1), .lit (.int .i64 (beginDo x).2.2)]) ∧ IsEngine a (beginDo x).1 ∧ Own n0 n1 a := by
  obtain ⟨a, b, e, hb, h1, h2⟩ := Three.out h
  subst hb
  exact ⟨a, e, h1, h2⟩
theorem c_begin (x : Md.Engine) : Md.cEngine (beginDo x).1 ≤ Md.cEngine x + 3 := by
  unfold beginDo
  split
  · simp only [Md.cEngine, List.length_append, List.length_cons, List.length_nil]; omega
  · exact Nat.le_add_right _ _
theorem lawBegin (d : D) (x : Md.Engine) (h : IsEngine d x) : PCall Tryz.prog 5 [d] fun _ _ r => r = .lit (.bool true) := by
  have e := shp_engine _ _ h
  have e1 := e.1
  have e2 := e.2.1
  have e3 := e.2.2.1
  have e4 := e.2.2.2
  refine pcall_intro_vt Tryz.func5 rfl (by decide) rfl (by decide) (by rw [Tryz.ntmps5]; simp) fun w0 M n0 hW hT => ivc_sound ?_; simp -dsimp only [Tryz.f5, go_sem, e1, e2, e3]
  have dT : d.tags (· < n0) := hT d (by simp) h.data
  intro g1 b1 hb1
  refine xcall_v (szEngine_p _ _ h 1048576 (by decide) (by decide)) (by simp -dsimp only [go_sem, rl_still, e4]) (fun _ => trivial) fun n1 hn1 => ?_
  simp -dsimp only [go_sem]
  intro hb
  have hs : Md.szEngine x ≤ 1048576 := by
    have := Md.szR_le _ _ hb
    omega
  simp -dsimp only [go_sem, e1, e2, e3]
  refine xcall_p (toEngine_p _ _ h hs) (by simp -dsimp only [go_sem, rl_still, e4]) fun rlo rhi r hrlo hrhi hr => ?_
  have ro := hr.2
  have ri := hr.1
  have rp := shp_engine _ _ ri
  have rp1 := rp.1
  have rp2 := rp.2.1
  have rp3 := rp.2.2.1
  have rp4 := rp.2.2.2
  refine ⟨ro.tags, ?_⟩
  simp -dsimp only [go_sem, e1, e2, e3, rp1, rp2, rp3]
  refine xcall_p (specBegin_p _ _ ri hs ri.data) (by simp -dsimp only [go_sem, rl_still, rp4]) fun vlo vhi vw hvlo hvhi hvw => ?_
  obtain ⟨v, rfl, hvw2⟩ := hvw.out
  have hv := hvw2
  have vo := hv.2
  have vi := hv.1
  have vp := shp_engine _ _ vi
  have vp1 := vp.1
  have vp2 := vp.2.1
  have vp3 := vp.2.2.1
  have vp4 := vp.2.2.2
  refine ⟨tags_res3 vo.tags, ?_⟩
  simp -dsimp only [go_sem, e1, e2, e3, rp1, rp2, rp3, vp1, vp2, vp3]
  intro g b hb
  refine xcall_p (toEngine_p _ _ h hs) (by simp -dsimp only [go_sem, rl_still, e4]) fun xvlo xvhi xv hxvlo hxvhi hxv => ?_
  have xvo := hxv.2
  have xvi := hxv.1
  have xvp := shp_engine _ _ xvi
  have xvp1 := xvp.1
  have xvp2 := xvp.2.1
  have xvp3 := xvp.2.2.1
  have xvp4 := xvp.2.2.2
  refine ⟨xvo.tags, ?_⟩
  simp -dsimp only [go_sem, e1, e2, e3, vp1, vp2, vp3, xvp1, xvp2, xvp3]
  intro g12 b12 hb12
  refine xcall_p (begin_p _ _ xvi hs xvi.data) (by simp -dsimp only [go_sem, rl_still, xvp4]) fun ylo yhi yw hylo hyhi hyw => ?_
  obtain ⟨y, rfl, hyw2⟩ := hyw.out
  have hy := hyw2
  have yo := hy.2
  have yi := hy.1
  have yp := shp_engine _ _ yi
  have yp1 := yp.1
  have yp2 := yp.2.1
  have yp3 := yp.2.2.1
  have yp4 := yp.2.2.2
  refine ⟨tags_res3 yo.tags, ?_⟩
  simp -dsimp only [go_sem, e1, e2, e3, vp1, vp2, vp3, xvp1, xvp2, xvp3, yp1, yp2, yp3]
  intro g14 b14 hb14
  refine xcall_v (eqEngine_p _ _ _ yi vi) (by simp -dsimp only [go_sem, rl_still, yp4, vp4]) (fun _ => trivial) fun n4 hn4 => ?_
  simp -dsimp only [go_sem, e1, e2, e3, vp1, vp2, vp3, xvp1, xvp2, xvp3, yp1, yp2, yp3, bne_self_eq_false, Bool.not_true, Bool.not_false, Bool.false_eq_true, Bool.true_eq_false, false_imp_iff, true_and, and_true, forall_const, reduceCtorEq]
  refine iwp_plan [(0, true), (1, true), (2, false), (3, false), (4, true)] [1, 7] rfl (by decide +kernel) (by decide) [] (by decide +kernel) ?_
  simp -dsimp only [go_sem, e1, e2, e3, vp1, vp2, vp3, xvp1, xvp2, xvp3, yp1, yp2, yp3]
  refine xcall_p (toEngine_p _ _ h hs) (by simp -dsimp only [go_sem, rl_still, e4]) fun zlo zhi z hzlo hzhi hz => ?_
  have zo := hz.2
  have zi := hz.1
  have zp := shp_engine _ _ zi
  have zp1 := zp.1
  have zp2 := zp.2.1
  have zp3 := zp.2.2.1
  have zp4 := zp.2.2.2
  refine ⟨zo.tags, ?_⟩
  simp -dsimp only [go_sem, e1, e2, e3, vp1, vp2, vp3, xvp1, xvp2, xvp3, yp1, yp2, yp3, zp1, zp2, zp3]
  refine xcall_v (eqEngine_p _ _ _ xvi zi) (by simp -dsimp only [go_sem, rl_still, xvp4, zp4]) (fun _ => trivial) fun n4 hn4 => ?_
  simp -dsimp only [go_sem, e1, e2, e3, vp1, vp2, vp3, xvp1, xvp2, xvp3, yp1, yp2, yp3, zp1, zp2, zp3, bne_self_eq_false, Bool.not_true, Bool.not_false, Bool.false_eq_true, Bool.true_eq_false, false_imp_iff, true_and, and_true, forall_const, reduceCtorEq]
  have hcb := cEngine_le x
  have hz := c_begin x
  refine xcall_mk (markEngine_p xv x (1) _ _ xvi xvo (by decide) (by omega)) (by simp -dsimp only [go_sem, e1, e2, e3, vp1, vp2, vp3, xvp1, xvp2, xvp3, yp1, yp2, yp3]) xvp3 xvp4 ⟨trivial, trivial⟩ (fun t ht => hW t (by have := xvo.rg t ht; omega)) [5, 6, 9, 10, 11, 1, 4, 7, 8] (fun _ _ => .any) (fun E => upd (upd (upd (upd (fun _ => none) 1 (some (g1, b1, d))) 4 (some (g, b, v))) 7 (some (g12, b12, E))) 8 (some (g14, b14, y))) fun m1 nm1 hnm1 hm1 =>
      ⟨by simp -dsimp only [go_sem, e1, e2, e3, vp1, vp2, vp3, xvp1, xvp2, xvp3, yp1, yp2, yp3], carry_any, ((((CarR.none _ _ _).upd e3 (carry_lo xvo (by omega) dT)).upd vp3 (carry_own xvo vo (.inr (by omega)))).upd (shp_engine _ _ hm1.rel).2.2.1 .here).upd yp3 (carry_own xvo yo (.inl (by omega))), ?_⟩
  have m1p := shp_engine _ _ hm1.rel
  have m1p1 := m1p.1
  have m1p2 := m1p.2.1
  have m1p3 := m1p.2.2.1
  have m1p4 := m1p.2.2.2
  have m1o := hm1.own xvo
  have m1i := hm1.rel
  have hk : ¬ (1 + (Md.cEngine x : Nat) < (0 : Int)) := by omega
  simp -dsimp only [go_sem, e1, e2, e3, vp1, vp2, vp3, xvp1, xvp2, xvp3, yp1, yp2, yp3, m1p1, m1p2, m1p3, hk, bne_self_eq_false, Bool.not_true, Bool.not_false, Bool.false_eq_true, Bool.true_eq_false, false_imp_iff, true_and, and_true, forall_const, reduceCtorEq, decide_false]
  refine xcall_v (eqEngine_p _ _ _ yi vi) (by simp -dsimp only [go_sem, rl_still, yp4, vp4]) (fun _ => trivial) fun n4 hn4 => ?_
  simp -dsimp only [go_sem, e1, e2, e3, vp1, vp2, vp3, xvp1, xvp2, xvp3, yp1, yp2, yp3, m1p1, m1p2, m1p3, hk, decide_false, bne_self_eq_false, Bool.not_true, Bool.not_false, Bool.false_eq_true, Bool.true_eq_false, false_imp_iff, true_and, and_true, forall_const, reduceCtorEq]
  refine xcall_mk (markEngine_p y _ (1) _ _ yi yo (by decide) (by omega)) (by simp -dsimp only [go_sem, e1, e2, e3, vp1, vp2, vp3, xvp1, xvp2, xvp3, yp1, yp2, yp3, m1p1, m1p2, m1p3, hk]) yp3 yp4 ⟨trivial, trivial⟩ (fun t ht => hW t (by have := yo.rg t ht; omega)) [5, 6, 9, 10, 11, 1, 4, 7, 8] (fun _ _ => .any) (fun E => upd (upd (upd (upd (fun _ => none) 1 (some (g1, b1, d))) 4 (some (g, b, v))) 7 (some (g12, b12, m1))) 8 (some (g14, b14, E))) fun m3 nm3 hnm3 hm3 =>
      ⟨by simp -dsimp only [go_sem, e1, e2, e3, vp1, vp2, vp3, xvp1, xvp2, xvp3, yp1, yp2, yp3, m1p1, m1p2, m1p3, hk], carry_any, ((((CarR.none _ _ _).upd e3 (carry_lo yo (by omega) dT)).upd vp3 (carry_own yo vo (.inr (by omega)))).upd m1p3 (carry_own yo m1o (.inr (by omega)))).upd (shp_engine _ _ hm3.rel).2.2.1 .here, ?_⟩
  have m3p := shp_engine _ _ hm3.rel
  have m3p1 := m3p.1
  have m3p2 := m3p.2.1
  have m3p3 := m3p.2.2.1
  have m3p4 := m3p.2.2.2
  have m3o := hm3.own yo
  have m3i := hm3.rel
  simp -dsimp only [go_sem, e1, e2, e3, vp1, vp2, vp3, xvp1, xvp2, xvp3, yp1, yp2, yp3, m1p1, m1p2, m1p3, hk, m3p1, m3p2, m3p3]
  refine xcall_v (heldEngine_p _ (beginDo x).1 (1) m3i (by decide) (by omega)) (by simp -dsimp only [go_sem, rl_still, m3p4]) (fun _ => trivial) fun n7 hn7 => ?_
  have hk2 : ¬ (1 + (Md.cEngine (beginDo x).1 : Nat) < (0 : Int)) := by omega
  simp -dsimp only [go_sem, e1, e2, e3, vp1, vp2, vp3, xvp1, xvp2, xvp3, yp1, yp2, yp3, m1p1, m1p2, m1p3, hk, m3p1, m3p2, m3p3, hk2, bne_self_eq_false, Bool.not_true, Bool.not_false, Bool.false_eq_true, Bool.true_eq_false, false_imp_iff, true_and, and_true, forall_const, reduceCtorEq, decide_false]
  refine xcall_p (toEngine_p _ _ h hs) (by simp -dsimp only [go_sem, rl_still, e4]) fun r2lo r2hi r2 hr2lo hr2hi hr2 => ?_
  have r2o := hr2.2
  have r2i := hr2.1
  have r2p := shp_engine _ _ r2i
  have r2p1 := r2p.1
  have r2p2 := r2p.2.1
  have r2p3 := r2p.2.2.1
  have r2p4 := r2p.2.2.2
  refine ⟨r2o.tags, ?_⟩
  simp -dsimp only [go_sem, e1, e2, e3, vp1, vp2, vp3, xvp1, xvp2, xvp3, yp1, yp2, yp3, m1p1, m1p2, m1p3, hk, m3p1, m3p2, m3p3, hk2, r2p1, r2p2, r2p3]
  refine xcall_p (begin_p _ _ r2i hs r2i.data) (by simp -dsimp only [go_sem, rl_still, r2p4]) fun hvlo hvhi hvw hhvlo hhvhi hhvw => ?_
  obtain ⟨hv, rfl, hhvw2⟩ := hhvw.out
  have hhv := hhvw2
  have hvo := hhv.2
  have hvi := hhv.1
  have hvp := shp_engine _ _ hvi
  have hvp1 := hvp.1
  have hvp2 := hvp.2.1
  have hvp3 := hvp.2.2.1
  have hvp4 := hvp.2.2.2
  refine ⟨tags_res3 hvo.tags, ?_⟩
  simp -dsimp only [go_sem, e1, e2, e3, vp1, vp2, vp3, xvp1, xvp2, xvp3, yp1, yp2, yp3, m1p1, m1p2, m1p3, hk, m3p1, m3p2, m3p3, hk2, r2p1, r2p2, r2p3, hvp1, hvp2, hvp3]
  intro g19 b19 hb19
  refine xcall_v (eqEngine_p _ _ _ hvi vi) (by simp -dsimp only [go_sem, rl_still, hvp4, vp4]) (fun _ => trivial) fun n4 hn4 => ?_
  simp -dsimp only [go_sem, e1, e2, e3, vp1, vp2, vp3, xvp1, xvp2, xvp3, yp1, yp2, yp3, m1p1, m1p2, m1p3, hk, m3p1, m3p2, m3p3, hk2, hvp1, hvp2, hvp3, decide_false, bne_self_eq_false, Bool.not_true, Bool.not_false, Bool.false_eq_true, Bool.true_eq_false, false_imp_iff, true_and, and_true, forall_const, reduceCtorEq]
  refine xcall_v (heldEngine_p _ (beginDo x).1 (1) m3i (by decide) (by omega)) (by simp -dsimp only [go_sem, rl_still, m3p4]) (fun _ => trivial) fun n9 hn9 => ?_
  simp -dsimp only [go_sem, e1, e2, e3, vp1, vp2, vp3, xvp1, xvp2, xvp3, yp1, yp2, yp3, m1p1, m1p2, m1p3, hk, m3p1, m3p2, m3p3, hk2, hvp1, hvp2, hvp3, bne_self_eq_false, Bool.not_true, Bool.not_false, Bool.false_eq_true, Bool.true_eq_false, false_imp_iff, true_and, and_true, forall_const, reduceCtorEq, decide_false]
end Go.Proofs.YtncinhlaabdlaaaGreat.IM
end
