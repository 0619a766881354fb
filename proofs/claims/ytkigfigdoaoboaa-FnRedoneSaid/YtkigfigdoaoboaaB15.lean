/- Several of my texts in one module (merge.py). -/
import Derived.Test.YtkigfigdoaoboaaB12
import Derived.Test.YtkigfigdoaoboaaB13
import Derived.Test.YtkigfigdoaoboaaB30
section
/- Contracts: Victim. Printed by victim.py. -/
namespace Go.Proofs.Ytkigfigdoaoboaa.IM
open Go Go.Proofs
set_option linter.unusedVariables false
set_option linter.unusedSimpArgs false
set_option maxHeartbeats 2000000
set_option maxRecDepth 20000

@[go_sem] theorem labB_1001 (R : Roots) (g : Nat) : labB R 1001 g = labView R 1001 g := if_neg (by decide)
def cool (s : Md.Seat) : Md.Seat := { s with hot := false }
def nxt (h : Int) : Int := (h + 1).tmod 3
def hotAt (p : Md.Pool) : Bool := match p.seats[p.hand.toNat]? with | some s => s.hot | none => false
def vicStep (p : Md.Pool) : Md.Pool := ⟨p.seats.modify p.hand.toNat cool, nxt p.hand⟩
def vicGo : Nat → Md.Pool → Md.Pool × Int
  | 0, p => (⟨p.seats, nxt p.hand⟩, p.hand)
  | n + 1, p => if hotAt p = true then vicGo n (vicStep p) else (⟨p.seats, nxt p.hand⟩, p.hand)
def vicOk (x : Md.Pool) : Bool := Md.poolOk x && ((x.seats.length : Int) == 3)
def victim (x : Md.Pool) : Md.Pool × Int := if vicOk x then vicGo 3 x else (x, -1)
theorem victim_no {x : Md.Pool} (h : vicOk x = false) : victim x = (x, -1) := by unfold victim; rw [h]; rfl
theorem victim_yes {x : Md.Pool} (h : vicOk x = true) : victim x = vicGo 3 x := by unfold victim; rw [h]; rfl
theorem nxt_rg {h : Int} (h0 : 0 ≤ h) (h1 : h < 3) : 0 ≤ nxt h ∧ nxt h < 3 := by
  have : h = 0 ∨ h = 1 ∨ h = 2 := by omega
  rcases this with rfl | rfl | rfl <;> decide
theorem gs_upd1 {q : Nat → D} {v : Value} (h : ∀ j, (q j).still ∨ j = 0) (j : Nat) : (upd q 1 (.lit v) j).still ∨ j = 0 := by
  by_cases hj : j = 1
  · subst hj; exact .inl trivial
  · rw [upd_ne _ _ hj]; exact h j
theorem cool_count : ∀ (l : List Md.Seat) (k : Nat) (h : k < l.length), l[k].hot = true → (l.modify k cool).countP (·.hot) + 1 = l.countP (·.hot)
  | a :: l, 0, _, h => by
    have h : a.hot = true := h
    show (cool a :: l).countP _ + 1 = _
    rw [List.countP_cons, List.countP_cons, h]
    rfl
  | a :: l, k + 1, hk, h => by
    have ih := cool_count l k (by simpa using hk) (by simpa using h)
    show (a :: l.modify k cool).countP _ + 1 = _
    rw [List.countP_cons, List.countP_cons]
    omega
structure VInv (x : Md.Pool) (i : Nat) (p : Md.Pool) : Prop where
  len : p.seats.length = x.seats.length
  l3 : x.seats.length = 3
  h0 : 0 ≤ p.hand
  h1 : p.hand < 3
  go : vicGo (3 - i) p = vicGo 3 x
  cnt : p.seats.countP (·.hot) + i ≤ 3
theorem VInv.kl {x p : Md.Pool} {i : Nat} (h : VInv x i p) : p.hand.toNat < p.seats.length := by have := h.len; have := h.l3; have := h.h0; have := h.h1; omega
theorem hotAt_eq {p : Md.Pool} (h : p.hand.toNat < p.seats.length) : hotAt p = p.seats[p.hand.toNat].hot := by unfold hotAt; rw [List.getElem?_eq_getElem h]
theorem VInv.start {x : Md.Pool} (hp : Md.poolOk x = true) (h : x.seats.length = 3) : VInv x 0 x := by
  unfold Md.poolOk at hp
  rw [Bool.and_eq_true] at hp
  have := (inB_iff _ _ _).1 hp.2
  exact ⟨rfl, h, by omega, by omega, rfl, by have := List.countP_le_length (p := fun s : Md.Seat => s.hot) (l := x.seats); omega⟩
theorem VInv.lt {x p : Md.Pool} {i : Nat} (h : VInv x i p) (hh : p.seats[p.hand.toNat]'h.kl |>.hot) : i < 3 := by
  have := cool_count p.seats _ h.kl hh
  have := h.cnt
  omega
theorem VInv.step {x p : Md.Pool} {i : Nat} (h : VInv x i p) (hh : (p.seats[p.hand.toNat]'h.kl).hot = true) : VInv x (i + 1) (vicStep p) := by
  have hc := cool_count p.seats _ h.kl hh
  have hl := h.lt hh
  have hn := nxt_rg h.h0 h.h1
  refine ⟨by show (List.modify _ _ _).length = _; rw [List.length_modify]; exact h.len, h.l3, hn.1, hn.2, ?_, ?_⟩
  · rw [← h.go, show 3 - i = (3 - (i + 1)) + 1 by omega]
    show _ = if hotAt p = true then _ else _
    rw [if_pos (by rw [hotAt_eq h.kl]; exact hh)]
  · show (List.modify _ _ _).countP _ + _ ≤ 3
    have := h.cnt
    omega
theorem VInv.stop {x p : Md.Pool} {i : Nat} (h : VInv x i p) (hh : (p.seats[p.hand.toNat]'h.kl).hot = false) : vicGo 3 x = (⟨p.seats, nxt p.hand⟩, p.hand) := by
  rw [← h.go]
  cases 3 - i with
  | zero => rfl
  | succ n =>
    show (if hotAt p = true then _ else _) = _
    rw [if_neg (by rw [hotAt_eq h.kl, hh]; decide)]
structure VF (f : Nat → D) (p : Md.Pool) (n : Nat) (fe : Nat → D) : Prop where
  st : ∀ j, (fe j).still
  ok : ∀ j (h : j < p.seats.length), IsSeat (fe j) p.seats[j]
  tl : ∀ j, j < n → (fe j).tl = (f j).tl
  wh : ∀ j, j < n → (fe j).whole
theorem VF.own {f fe : Nat → D} {p : Md.Pool} {n t lo hi : Nat} (h : VF f p n fe) (ho : Own lo hi (.sl t true n 20 f)) : Own lo hi (.sl t true n 20 fe) := by
  have e : (D.sl t true n 20 fe).tl = (D.sl t true n 20 f).tl := by simp only [D.tl]; rw [flat_tl h.tl]
  exact ⟨fun b hb => ho.rg b (e ▸ hb), e ▸ ho.nd, ⟨rfl, h.wh⟩⟩
theorem VF.tags {f fe : Nat → D} {p : Md.Pool} {n t : Nat} (h : VF f p n fe) : (D.sl t true n 20 fe).tags (· ∈ (D.sl t true n 20 f).tl) := by
  have e : (D.sl t true n 20 fe).tl = (D.sl t true n 20 f).tl := by simp only [D.tl]; rw [flat_tl h.tl]
  exact tags_of_tl (whole_data (show (D.sl t true n 20 fe).whole from ⟨rfl, h.wh⟩)) fun b hb => e ▸ hb
theorem VF.isL {f fe : Nat → D} {p : Md.Pool} {n t : Nat} (h : VF f p n fe) (hn : p.seats.length = n) (hs : n < 140737488355328) : IsL 20 IsSeat (.sl t true n 20 fe) p.seats := by
  subst hn; exact .inr ⟨t, true, fe, rfl, h.st, hs, h.ok⟩
theorem VF.cool {f fe : Nat → D} {p : Md.Pool} {n : Nat} {g : Nat → D} (h : VF f p n fe) (hk : p.hand.toNat < p.seats.length) (hn : p.seats.length = n) (hg : fe p.hand.toNat = .node (.agg [1, 17, 1, 1]) g) :
    VF f (vicStep p) n (upd fe p.hand.toNat (.node (.agg [1, 17, 1, 1]) (upd g 3 (.lit (.bool false))))) := by
  have hs := h.ok _ hk
  rw [hg] at hs
  obtain ⟨g', e, hst, s0, s1, s2, s3⟩ := hs
  cases e
  have s3 : g 3 = _ := s3
  have hr : IsSeat (.node (.agg [1, 17, 1, 1]) (upd g 3 (.lit (.bool false)))) (IM.cool p.seats[p.hand.toNat]) := ⟨_, rfl, still_upd hst trivial, s0, s1, s2, rfl⟩
  have htl : (D.node (.agg [1, 17, 1, 1]) (upd g 3 (.lit (.bool false)))).tl = (fe p.hand.toNat).tl := by rw [hg]; exact tl_upd (by rw [s3]; rfl)
  have hw : (D.node (.agg [1, 17, 1, 1]) (upd g 3 (.lit (.bool false)))).whole := by
    have := h.wh p.hand.toNat (by omega)
    rw [hg] at this
    exact wh_upd this trivial
  refine ⟨still_upd h.st (show (D.node (.agg [1, 17, 1, 1]) _).still from still_upd hst trivial), fun j hj => ?_, fun j hj => ?_, fun j hj => ?_⟩
  · have hj' : j < p.seats.length := by have : j < (p.seats.modify p.hand.toNat IM.cool).length := hj; rwa [List.length_modify] at this
    have hj'' : j < (p.seats.modify p.hand.toNat IM.cool).length := hj
    show IsSeat _ ((p.seats.modify p.hand.toNat IM.cool)[j]'hj'')
    rw [List.getElem_modify]
    by_cases hjk : p.hand.toNat = j
    · subst hjk; rw [upd_same, if_pos rfl]; exact hr
    · rw [upd_ne _ _ (fun e => hjk e.symm), if_neg hjk]; exact h.ok j hj'
  · by_cases hjk : j = p.hand.toNat
    · subst hjk; rw [upd_same, htl]; exact h.tl _ hj
    · rw [upd_ne _ _ hjk]; exact h.tl j hj
  · by_cases hjk : j = p.hand.toNat
    · subst hjk; rw [upd_same]; exact hw
    · rw [upd_ne _ _ hjk]; exact h.wh j hj
theorem victim_p (d : D) (x : Md.Pool) (h : IsPool d x) (hs : Md.szPool x ≤ 1048576) (hd : d.data) : PCall Try.prog 54 [d] fun n0 n1 r => Two (fun r => IsPool r (victim x).1 ∧ Own n0 n1 r) (.lit (.int .i64 (victim x).2)) r := by
  have hp := h
  have eq := shp_pool _ _ h
  obtain ⟨f0, rfl, hst, a0, a1⟩ := h
  have k1 : f0 1 = _ := a1
  have e1 := eq.1
  have e2 := eq.2.1
  have e3 := eq.2.2.1
  have e4 := eq.2.2.2
  have hsl : x.seats.length ≤ 1048576 := by unfold Md.szPool Md.szSeats at hs; omega
  refine pcall_intro_t Try.func54 rfl (by decide) rfl (by decide) (by rw [Try.ntmps54]; simp) fun w0 M n0 hW hT => ivc_sound ?_; simp -dsimp only [Try.f54, go_sem, k1, a0.size, a0.isNode, a0.plain, a0.lenT, e1, e2, e3]
  have dT : (D.node (.agg [1, 1]) f0).tags (· < n0) := hT _ (by simp) hd
  intro g1 b1 hb1 g2 b2 hb2
  refine xcall_t (clonePool_p _ _ hp hs) (by simp -dsimp only [go_sem, rl_still, e4]) fun m0 p0 r0 hm0 hp0 hr0w => ?_
  have hr0 := hr0w.out
  have hm0' : b2 + 1 ≤ m0 := hm0
  refine ⟨hr0.2.tags, ?_⟩
  have ho := hr0.2
  have hrl := hr0.1
  obtain ⟨q, rfl, hqs, hq0, q1⟩ := hr0.1
  have q1 : q 1 = _ := q1
  rcases hq0 with ⟨q0, hnil⟩ | ⟨t, zb, f, q0, hfs, hfl, hf⟩
  · refine Conv.zero ?_
    have h0 : ((x.seats.length : Int) != 3) = true := by rw [hnil]; rfl
    have hno : victim x = (x, -1) := victim_no (by unfold vicOk; rw [hnil]; simp)
    simp -dsimp only [go_sem, q0, q1, k1, a0.size, a0.isNode, a0.plain, a0.lenT, e1, e2, e3]
    intro g4 b4 hb4
    refine xcall_v (poolOk_p _ _ hp) (by simp -dsimp only [go_sem, rl_still, e4]) (fun _ => trivial) fun n4 hn4 => ?_
    have hb4' : p0 ≤ b4 := hb4
    have hn4' : b4 + 1 ≤ n4 := hn4
    rcases Bool.eq_false_or_eq_true (Md.poolOk x) with hpo | hpo
    all_goals
      simp -dsimp only [go_sem, hpo, h0, q0, q1, k1, a0.size, a0.isNode, a0.plain, a0.lenT, e1, e2, e3]
      intro n1 hn1 hfc
      have hn1' : n4 ≤ n1 := hn1
      rw [hno, rlnode_still hqs]
      exact .mk _ ⟨hrl, ho.mono (by omega) (by omega)⟩
  · have hoS : Own m0 p0 (.sl t zb x.seats.length 20 f) := by
      have := ho.node.own (i := 0) (by decide)
      rw [q0] at this
      exact this
    have hzb : zb = true := hoS.wh.1
    subst hzb
    have ht := hoS.rg t (by simp [D.tl])
    have hdf : (D.node (.agg [1, 1]) f0).free t := free_of_tags (m := n0) (by omega) dT
    refine conv_field (l := 1000) [1, 2, 3] (hW t (by omega)) (by simp -dsimp only [go_sem]) (own_free hoS) 0 (by decide) q0 (fun i hi hne => ?_) (fun j hj => ?_) (fun l' g b x hx => ⟨hx, roots2 ⟨e3, hdf⟩ ⟨?_, ?_⟩ _ _ _ _ hx⟩) fun g => ?_
    · have : i = 1 := by have : i < 2 := hi; omega
      subst this; rw [q1]; trivial
    · simp only [List.mem_cons, List.not_mem_nil, or_false] at hj
      rcases hj with rfl | rfl | rfl
      · exact (show (D.ptr 1 g1 0 []).free t from trivial)
      · exact (show (D.ptr 2 g2 0 []).free t from trivial)
      · exact (show (D.lit (.int .i64 0)).free t from trivial)
    · simp -dsimp only [go_sem]
    · intro i hi
      have hi' : i < 2 := hi
      match i, hi' with
      | 0, _ => trivial
      | 1, _ => trivial
    · simp -dsimp only [go_sem, q0, q1, k1, a0.size, a0.isNode, a0.plain, a0.lenT, e1, e2, e3]
      intro g4 b4 hb4
      refine xcall_v (poolOk_p _ _ hp) (by simp -dsimp only [go_sem, rl_still, e4]) (fun _ => trivial) fun n4 hn4 => ?_
      have hb4' : p0 ≤ b4 := hb4
      have hn4' : b4 + 1 ≤ n4 := hn4
      rcases Bool.eq_false_or_eq_true (Md.poolOk x) with hpo | hpo
      · by_cases h3 : x.seats.length = 3
        · have h0 : ((x.seats.length : Int) != 3) = false := by rw [h3]; rfl
          have hyes : victim x = vicGo 3 x := victim_yes (by unfold vicOk; rw [hpo, h3]; rfl)
          simp -dsimp only [go_sem, hpo, h0, q0, q1, k1, a0.size, a0.isNode, a0.plain, a0.lenT, e1, e2, e3]
          refine iwp_forR 3 [2, 3, 4] (fun i n' s R => ∃ p fe qq, VInv x i p ∧ VF f p x.seats.length fe ∧ qq 0 = .msl 1000 g 0 [] 0 x.seats.length 20 ∧ qq 1 = .lit (.int .i64 p.hand) ∧ (∀ j, (qq j).still ∨ j = 0) ∧ R = upd (upd (upd (upd (fun _ => none) 1 (some (g1, b1, .node (.agg [1, 1]) f0))) 2 (some (g2, b2, .node (.agg [1, 1]) (nthD [.nil, .lit (.int .i64 0)])))) 1000 (some (g, t, .node (.arr x.seats.length 20) fe))) 4 (some (g4, b4, .node (.agg [1, 1]) qq))) 0 (Nat.zero_le _)
            ⟨x, f, upd q 0 (.msl 1000 g 0 [] 0 x.seats.length 20), VInv.start hpo h3, ⟨hfs, hf, fun _ _ => rfl, hoS.wh.2⟩, by simp -dsimp only [go_sem], by simp -dsimp only [go_sem, q1], gs_upd fun j => .inl (hqs j), by simp -dsimp only [go_sem]⟩ ?_
          rintro i n' s R hile hn hk ⟨p, fe, qq, hv, hF, hq0, hq1, hqq, rfl⟩
          refine ivc_sound ?_
          simp -dsimp only [go_sem] at hk
          have hkl := hv.kl
          have hlen := hv.len
          have hh0 := hv.h0
          have hh1 : p.hand < (x.seats.length : Int) := by have := hv.l3; have := hv.h1; omega
          have hw : IntKind.i64.wrap (p.hand + 1) = p.hand + 1 := w64 (by omega) (by omega)
          have hse := hF.ok _ hkl
          have hfg := hse
          obtain ⟨ge, hge, ges, s0, s1, s2, s3⟩ := hfg
          have s3 : ge 3 = _ := s3
          have hkn : p.hand.toNat < x.seats.length := by omega
          have hshort : x.seats.length < 140737488355328 := by omega
          rcases Bool.eq_false_or_eq_true (p.seats[p.hand.toNat].hot) with hot | hot
          · have hi3 := hv.lt hot
            simp -dsimp only [go_sem, hk, hq0, hq1, hh0, hh1, hw, hge, s3, hot, hkn, hi3]
            exact into_r (by omega) (by simp -dsimp only [go_sem, hk]) ⟨vicStep p, _, _, hv.step hot, hF.cool hkl hlen hge, by simp -dsimp only [go_sem, hq0], by simp -dsimp only [go_sem]; rfl, gs_upd1 hqq, rfl⟩
          · simp -dsimp only [go_sem, hk, hq0, hq1, hh0, hh1, hw, hge, s3, hot, hkn]
            intro n1 hn1 hfc
            have hn' : n4 ≤ n' := hn
            have hn1' : n' ≤ n1 := hn1
            rw [hyes, hv.stop hot, rl_node]
            refine .mk _ ?_
            refine (grow_fin (x := ⟨p.seats, nxt p.hand⟩) (n0 := n0) (n1 := n1) ?_ ?_ (gs_upd1 hqq) (hF.isL hlen hshort) ((hF.own hoS).mono (by omega) (by omega))).out
            · simp -dsimp only [go_sem, hq0]
              rw [rls_still hF.st]
            · simp -dsimp only [go_sem, rl_lit]
              rfl
        · have h0 : ((x.seats.length : Int) != 3) = true := by simp; omega
          have hno : victim x = (x, -1) := victim_no (by unfold vicOk; rw [show ((x.seats.length : Int) == 3) = false from beq_eq_false_iff_ne.2 (by omega)]; simp)
          simp -dsimp only [go_sem, hpo, h0, q0, q1, k1, a0.size, a0.isNode, a0.plain, a0.lenT, e1, e2, e3]
          intro n1 hn1 hfc
          have hn1' : n4 ≤ n1 := hn1
          rw [hno, rl_node]
          refine .mk _ ?_
          refine (grow_fin (n0 := n0) (n1 := n1) ?_ ?_ (gs_upd fun j => .inl (hqs j)) (.inr ⟨t, true, f, rfl, hfs, hfl, hf⟩) (hoS.mono (by omega) (by omega))).out
          · simp -dsimp only [go_sem, q0]
            rw [rls_still hfs]
          · simp -dsimp only [go_sem, q1, rl_lit]
      · have hno : victim x = (x, -1) := victim_no (by unfold vicOk; rw [hpo]; rfl)
        simp -dsimp only [go_sem, hpo, q0, q1, k1, a0.size, a0.isNode, a0.plain, a0.lenT, e1, e2, e3]
        intro n1 hn1 hfc
        have hn1' : n4 ≤ n1 := hn1
        rw [hno, rl_node]
        refine .mk _ ?_
        refine (grow_fin (n0 := n0) (n1 := n1) ?_ ?_ (gs_upd fun j => .inl (hqs j)) (.inr ⟨t, true, f, rfl, hfs, hfl, hf⟩) (hoS.mono (by omega) (by omega))).out
        · simp -dsimp only [go_sem, q0]
          rw [rls_still hfs]
        · simp -dsimp only [go_sem, q1, rl_lit]
def VQ (x : Md.Pool) (lo hi : Nat) (_ _ : Nat) (d' r : D) : Prop := IsPool d' (vicGo 3 x).1 ∧ Own lo hi d' ∧ r = .lit (.int .i64 (vicGo 3 x).2)
theorem vic_end {x p : Md.Pool} {t N n0 n1 lo hi k : Nat} {F : Relab} {f fe q qq : Nat → D} {r : D} (hq0 : q 0 = .sl t true N 20 f) (e0 : rl k F (qq 0) = .sl t true N 20 fe) (e1 : rl k F (qq 1) = .lit (.int .i64 (nxt p.hand))) (hqq : ∀ j, (qq j).still ∨ j = 0)
    (hF : VF f p N fe) (hN : p.seats.length = N) (hs : N < 140737488355328) (ho : Own lo hi (.sl t true N 20 f)) (hgo : vicGo 3 x = (⟨p.seats, nxt p.hand⟩, p.hand)) (hr : r = .lit (.int .i64 p.hand)) :
    BEnd (VQ x lo hi) (.node (.agg [1, 1]) q) n0 n1 (.node (.agg [1, 1]) fun i => rl k F (qq i)) r := by
  subst hr
  have hg := (grow_fin (x := ⟨p.seats, nxt p.hand⟩) (n0 := lo) (n1 := hi) e0 e1 hqq (hF.isL hN hs) (hF.own ho)).out
  refine ⟨⟨by rw [hgo]; exact hg.1, hg.2, by rw [hgo]⟩, trivial, fun i hi => ?_, trivial⟩
  have hi' : i < 2 := hi
  match i, hi' with
  | 0, _ =>
    show (rl k F (qq 0)).tags _
    rw [e0]
    exact D.tags_mono (fun b hb => .inl (tl_child (k := .agg [1, 1]) (i := 0) (by decide) (by rw [hq0]; exact hb))) hF.tags
  | 1, _ => show (rl k F (qq 1)).tags _; rw [e1]; trivial
theorem l6Victim_b (q : Nat → D) (x : Md.Pool) (t lo hi : Nat) (f : Nat → D) (hq0 : q 0 = .sl t true x.seats.length 20 f) (q1 : q 1 = .lit (.int .i64 x.hand)) (hqs : ∀ j, (q j).still) (hfs : ∀ i, (f i).still) (hfl : x.seats.length < 140737488355328)
    (hf : ∀ i (h : i < x.seats.length), IsSeat (f i) x.seats[i]) (ho : Own lo hi (.sl t true x.seats.length 20 f)) (hpo : Md.poolOk x = true) (h3 : x.seats.length = 3) :
    BCall Try.prog 194 (.sl t true x.seats.length 20 f) (.node (.agg [1, 1]) q) [] (VQ x lo hi) := by
  have hpf : ∀ i, i < (Kd.agg [1, 1]).cnt → i ≠ 0 → (q i).free t := fun i hi hne => by
    have : i = 1 := by have : i < 2 := hi; omega
    subst this; rw [q1]; trivial
  have hfree := own_free ho
  have hx : ∀ x ∈ ([] : List D), x.free t := fun x hx => absurd hx (by simp)
  refine bcall_intro_sl Try.func194 rfl (by decide) rfl (by decide) (by rw [Try.ntmps194]; simp) (i0 := 0) (by decide) hq0 hpf hfree hx fun w0 M n0 gb g hW hS hT hgb => ivc_sound ?_; simp -dsimp only [Try.f194, go_sem]
  refine iwp_forR 3 [0] (fun i n' s R => ∃ p fe qq, VInv x i p ∧ VF f p x.seats.length fe ∧ qq 0 = .msl 1001 g 0 [] 0 x.seats.length 20 ∧ qq 1 = .lit (.int .i64 p.hand) ∧ (∀ j, (qq j).still ∨ j = 0) ∧ R = upd (upd (fun _ => none) 1000 (some (0, gb, .node (.agg [1, 1]) qq))) 1001 (some (g, t, .node (.arr x.seats.length 20) fe))) 0 (Nat.zero_le _)
    ⟨x, f, upd q 0 (.msl 1001 g 0 [] 0 x.seats.length 20), VInv.start hpo h3, ⟨hfs, hf, fun _ _ => rfl, ho.wh.2⟩, by simp -dsimp only [go_sem], by simp -dsimp only [go_sem, q1], gs_upd fun j => .inl (hqs j), by simp -dsimp only [go_sem]⟩ ?_
  rintro i n' s R hile hn hk ⟨p, fe, qq, hv, hF, hq0', hq1, hqq, rfl⟩
  refine ivc_sound ?_
  simp -dsimp only [go_sem] at hk
  have hkl := hv.kl
  have hlen := hv.len
  have hh0 := hv.h0
  have hh1 : p.hand < (x.seats.length : Int) := by have := hv.l3; have := hv.h1; omega
  have hw : IntKind.i64.wrap (p.hand + 1) = p.hand + 1 := w64 (by omega) (by omega)
  have hse := hF.ok _ hkl
  have hfg := hse
  obtain ⟨ge, hge, ges, s0, s1, s2, s3⟩ := hfg
  have s3 : ge 3 = _ := s3
  have hkn : p.hand.toNat < x.seats.length := by omega
  have hshort : x.seats.length < 140737488355328 := by omega
  rcases Bool.eq_false_or_eq_true (p.seats[p.hand.toNat].hot) with hot | hot
  · have hi3 := hv.lt hot
    simp -dsimp only [go_sem, hk, hq0', hq1, hh0, hh1, hw, hge, s3, hot, hkn, hi3]
    exact into_r (by omega) (by simp -dsimp only [go_sem, hk]) ⟨vicStep p, _, _, hv.step hot, hF.cool hkl hlen hge, by simp -dsimp only [go_sem, hq0'], by simp -dsimp only [go_sem]; rfl, gs_upd1 hqq, rfl⟩
  · simp -dsimp only [go_sem, hk, hq0', hq1, hh0, hh1, hw, hge, s3, hot, hkn]
    refine ⟨_, rfl, fun n1 hn1 hfc => ?_⟩
    rw [rl_node]
    refine vic_end (p := p) hq0 ?_ ?_ (gs_upd1 hqq) hF hlen hshort ho (hv.stop hot) ?_
    · simp -dsimp only [go_sem, hq0']
      rw [rls_still hF.st]
    · simp -dsimp only [go_sem, rl_lit]
      rfl
    · simp -dsimp only [go_sem, rl_lit]
end Go.Proofs.Ytkigfigdoaoboaa.IM
end
