/- Several of my texts in one module (merge.py, shake.py). -/
import Derived.Test.YtncinhlaabdlaaaGreatGtB12
import Derived.Test.YtncinhlaabdlaaaGreatGtB13
import Derived.Test.YtncinhlaabdlaaaGreatGtB30
import Derived.Test.YtncinhlaabdlaaaGreatGtB7
import Derived.Test.YtncinhlaabdlaaaGreatGtB54
import Derived.Test.YtncinhlaabdlaaaGreatGtB5
import Derived.Test.YtncinhlaabdlaaaGreatGtB6
import Derived.Test.YtncinhlaabdlaaaGreatGtB44
import Derived.Test.YtncinhlaabdlaaaGreatGtB31
section
namespace Go.Proofs.YtncinhlaabdlaaaGreat.IM
open Go Go.Proofs
set_option linter.unusedVariables false
set_option linter.unusedSimpArgs false
set_option maxHeartbeats 2000000
set_option maxRecDepth 20000
@[go_sem] theorem labB_1001 (R : Roots) (g : Nat) : labB R 1001 g = labView R 1001 g := if_neg (by decide)
def cool (s : Md.Seat) : Md.Seat := { s with hot := false }
def nxt (h : Int) : Int := (h + 1).tmod 3
def hotAt (p : Md.Pool) : Bool := match p.seats[p.hand.toNat]? with | some s => s.hot | none => false
def vicStep (p : Md.Pool) : Md.Pool := ⟨p.seats.modify p.hand.toNat cool, nxt p.hand⟩
def vicGo : Nat → Md.Pool → Md.Pool × Int
  | 0, p => (⟨p.seats, nxt p.hand⟩, p.hand)
  | n + 1, p => if hotAt p = true then vicGo n (vicStep p) else (⟨p.seats, nxt p.hand⟩, p.hand)
def vicOk (x : Md.Pool) : Bool := Md.poolOk x && ((x.seats.length : Int) == 3)
def victim (x : Md.Pool) : Md.Pool × Int := if vicOk x then vicGo 3 x else (x, -1)
theorem victim_no {x : Md.Pool} (h : vicOk x = false) : victim x = (x, -1) := by unfold victim; rw [h]; rfl
theorem victim_yes {x : Md.Pool} (h : vicOk x = true) : victim x = vicGo 3 x := by unfold victim; rw [h]; rfl
theorem nxt_rg {h : Int} (h0 : 0 ≤ h) (h1 : h < 3) : 0 ≤ nxt h ∧ nxt h < 3 := by
  have : h = 0 ∨ h = 1 ∨ h = 2 := by omega
  rcases this with rfl | rfl | rfl <;> decide
theorem gs_upd1 {q : Nat → D} {v : Value} (h : ∀ j, (q j).still ∨ j = 0) (j : Nat) : (upd q 1 (.lit v) j).still ∨ j = 0 := by
  by_cases hj : j = 1
  · subst hj; exact .inl trivial
  · rw [upd_ne _ _ hj]; exact h j
theorem cool_count : ∀ (l : List Md.Seat) (k : Nat) (h : k < l.length), l[k].hot = true → (l.modify k cool).countP (·.hot) + 1 = l.countP (·.hot)
  | a :: l, 0, _, h => by
    have h : a.hot = true := h
    show (cool a :: l).countP _ + 1 = _
    rw [List.countP_cons, List.countP_cons, h]
    rfl
  | a :: l, k + 1, hk, h => by
    have ih := cool_count l k (by simpa using hk) (by simpa using h)
    show (a :: l.modify k cool).countP _ + 1 = _
    rw [List.countP_cons, List.countP_cons]
    omega
structure VInv (x : Md.Pool) (i : Nat) (p : Md.Pool) : Prop where
  len : p.seats.length = x.seats.length
  l3 : x.seats.length = 3
  h0 : 0 ≤ p.hand
  h1 : p.hand < 3
  go : vicGo (3 - i) p = vicGo 3 x
  cnt : p.seats.countP (·.hot) + i ≤ 3
theorem VInv.kl {x p : Md.Pool} {i : Nat} (h : VInv x i p) : p.hand.toNat < p.seats.length := by have := h.len; have := h.l3; have := h.h0; have := h.h1; omega
theorem hotAt_eq {p : Md.Pool} (h : p.hand.toNat < p.seats.length) : hotAt p = p.seats[p.hand.toNat].hot := by unfold hotAt; rw [List.getElem?_eq_getElem h]
theorem VInv.start {x : Md.Pool} (hp : Md.poolOk x = true) (h : x.seats.length = 3) : VInv x 0 x := by
  unfold Md.poolOk at hp
  rw [Bool.and_eq_true] at hp
  have := (inB_iff _ _ _).1 hp.2
  exact ⟨rfl, h, by omega, by omega, rfl, by have := List.countP_le_length (p := fun s : Md.Seat => s.hot) (l := x.seats); omega⟩
theorem VInv.lt {x p : Md.Pool} {i : Nat} (h : VInv x i p) (hh : p.seats[p.hand.toNat]'h.kl |>.hot) : i < 3 := by
  have := cool_count p.seats _ h.kl hh
  have := h.cnt
  omega
theorem VInv.step {x p : Md.Pool} {i : Nat} (h : VInv x i p) (hh : (p.seats[p.hand.toNat]'h.kl).hot = true) : VInv x (i + 1) (vicStep p) := by
  have hc := cool_count p.seats _ h.kl hh
  have hl := h.lt hh
  have hn := nxt_rg h.h0 h.h1
  refine ⟨by show (List.modify _ _ _).length = _; rw [List.length_modify]; exact h.len, h.l3, hn.1, hn.2, ?_, ?_⟩
  · rw [← h.go, show 3 - i = (3 - (i + 1)) + 1 by omega]
    show _ = if hotAt p = true then _ else _
    rw [if_pos (by rw [hotAt_eq h.kl]; exact hh)]
  · show (List.modify _ _ _).countP _ + _ ≤ 3
    have := h.cnt
    omega
theorem VInv.stop {x p : Md.Pool} {i : Nat} (h : VInv x i p) (hh : (p.seats[p.hand.toNat]'h.kl).hot = false) : vicGo 3 x = (⟨p.seats, nxt p.hand⟩, p.hand) := by
  rw [← h.go]
  cases 3 - i with
  | zero => rfl
  | succ n =>
    show (if hotAt p = true then _ else _) = _
    rw [if_neg (by rw [hotAt_eq h.kl, hh]; decide)]
structure VF (f : Nat → D) (p : Md.Pool) (n : Nat) (fe : Nat → D) : Prop where
  st : ∀ j, (fe j).still
  ok : ∀ j (h : j < p.seats.length), IsSeat (fe j) p.seats[j]
  tl : ∀ j, j < n → (fe j).tl = (f j).tl
  wh : ∀ j, j < n → (fe j).whole
theorem VF.own {f fe : Nat → D} {p : Md.Pool} {n t lo hi : Nat} (h : VF f p n fe) (ho : Own lo hi (.sl t true n 20 f)) : Own lo hi (.sl t true n 20 fe) := by
  have e : (D.sl t true n 20 fe).tl = (D.sl t true n 20 f).tl := by simp only [D.tl]; rw [flat_tl h.tl]
  exact ⟨fun b hb => ho.rg b (e ▸ hb), e ▸ ho.nd, ⟨rfl, h.wh⟩⟩
theorem VF.tags {f fe : Nat → D} {p : Md.Pool} {n t : Nat} (h : VF f p n fe) : (D.sl t true n 20 fe).tags (· ∈ (D.sl t true n 20 f).tl) := by
  have e : (D.sl t true n 20 fe).tl = (D.sl t true n 20 f).tl := by simp only [D.tl]; rw [flat_tl h.tl]
  exact tags_of_tl (whole_data (show (D.sl t true n 20 fe).whole from ⟨rfl, h.wh⟩)) fun b hb => e ▸ hb
theorem VF.isL {f fe : Nat → D} {p : Md.Pool} {n t : Nat} (h : VF f p n fe) (hn : p.seats.length = n) (hs : n < 140737488355328) : IsL 20 IsSeat (.sl t true n 20 fe) p.seats := by
  subst hn; exact .inr ⟨t, true, fe, rfl, h.st, hs, h.ok⟩
theorem VF.cool {f fe : Nat → D} {p : Md.Pool} {n : Nat} {g : Nat → D} (h : VF f p n fe) (hk : p.hand.toNat < p.seats.length) (hn : p.seats.length = n) (hg : fe p.hand.toNat = .node (.agg [1, 17, 1, 1]) g) :
    VF f (vicStep p) n (upd fe p.hand.toNat (.node (.agg [1, 17, 1, 1]) (upd g 3 (.lit (.bool false))))) := by
  have hs := h.ok _ hk
  rw [hg] at hs
  obtain ⟨g', e, hst, s0, s1, s2, s3⟩ := hs
  cases e
  have s3 : g 3 = _ := s3
  have hr : IsSeat (.node (.agg [1, 17, 1, 1]) (upd g 3 (.lit (.bool false)))) (IM.cool p.seats[p.hand.toNat]) := ⟨_, rfl, still_upd hst trivial, s0, s1, s2, rfl⟩
  have htl : (D.node (.agg [1, 17, 1, 1]) (upd g 3 (.lit (.bool false)))).tl = (fe p.hand.toNat).tl := by rw [hg]; exact tl_upd (by rw [s3]; rfl)
  have hw : (D.node (.agg [1, 17, 1, 1]) (upd g 3 (.lit (.bool false)))).whole := by
    have := h.wh p.hand.toNat (by omega)
    rw [hg] at this
    exact wh_upd this trivial
  refine ⟨still_upd h.st (show (D.node (.agg [1, 17, 1, 1]) _).still from still_upd hst trivial), fun j hj => ?_, fun j hj => ?_, fun j hj => ?_⟩
  · have hj' : j < p.seats.length := by have : j < (p.seats.modify p.hand.toNat IM.cool).length := hj; rwa [List.length_modify] at this
    have hj'' : j < (p.seats.modify p.hand.toNat IM.cool).length := hj
    show IsSeat _ ((p.seats.modify p.hand.toNat IM.cool)[j]'hj'')
    rw [List.getElem_modify]
    by_cases hjk : p.hand.toNat = j
    · subst hjk; rw [upd_same, if_pos rfl]; exact hr
    · rw [upd_ne _ _ (fun e => hjk e.symm), if_neg hjk]; exact h.ok j hj'
  · by_cases hjk : j = p.hand.toNat
    · subst hjk; rw [upd_same, htl]; exact h.tl _ hj
    · rw [upd_ne _ _ hjk]; exact h.tl j hj
  · by_cases hjk : j = p.hand.toNat
    · subst hjk; rw [upd_same]; exact hw
    · rw [upd_ne _ _ hjk]; exact h.wh j hj
theorem victim_p (d : D) (x : Md.Pool) (h : IsPool d x) (hs : Md.szPool x ≤ 1048576) (hd : d.data) : PCall Tryz.prog 224 [d] fun n0 n1 r => Two (fun r => IsPool r (victim x).1 ∧ Own n0 n1 r) (.lit (.int .i64 (victim x).2)) r := by
  have hp := h
  have eq := shp_pool _ _ h
  obtain ⟨f0, rfl, hst, a0, a1⟩ := h
  have k1 : f0 1 = _ := a1
  have e1 := eq.1
  have e2 := eq.2.1
  have e3 := eq.2.2.1
  have e4 := eq.2.2.2
  have hsl : x.seats.length ≤ 1048576 := by unfold Md.szPool Md.szSeats at hs; omega
  refine pcall_intro_t Tryz.func224 rfl (by decide) rfl (by decide) (by rw [Tryz.ntmps224]; simp) fun w0 M n0 hW hT => ivc_sound ?_; simp -dsimp only [Tryz.f224, go_sem, k1, a0.size, a0.isNode, a0.plain, a0.lenT, e1, e2, e3]
  have dT : (D.node (.agg [1, 1]) f0).tags (· < n0) := hT _ (by simp) hd
  intro g1 b1 hb1 g2 b2 hb2
  refine xcall_t (clonePool_p _ _ hp hs) (by simp -dsimp only [go_sem, rl_still, e4]) fun m0 p0 r0 hm0 hp0 hr0w => ?_
  have hr0 := hr0w.out
  have hm0' : b2 + 1 ≤ m0 := hm0
  refine ⟨hr0.2.tags, ?_⟩
  have ho := hr0.2
  have hrl := hr0.1
  obtain ⟨q, rfl, hqs, hq0, q1⟩ := hr0.1
  have q1 : q 1 = _ := q1
  rcases hq0 with ⟨q0, hnil⟩ | ⟨t, zb, f, q0, hfs, hfl, hf⟩
  · refine Conv.zero ?_
    have h0 : ((x.seats.length : Int) != 3) = true := by rw [hnil]; rfl
    have hno : victim x = (x, -1) := victim_no (by unfold vicOk; rw [hnil]; simp)
    simp -dsimp only [go_sem, q0, q1, k1, a0.size, a0.isNode, a0.plain, a0.lenT, e1, e2, e3]
    intro g4 b4 hb4
    refine xcall_v (poolOk_p _ _ hp) (by simp -dsimp only [go_sem, rl_still, e4]) (fun _ => trivial) fun n4 hn4 => ?_
    have hb4' : p0 ≤ b4 := hb4
    have hn4' : b4 + 1 ≤ n4 := hn4
    rcases Bool.eq_false_or_eq_true (Md.poolOk x) with hpo | hpo
    all_goals
      simp -dsimp only [go_sem, hpo, h0, q0, q1, k1, a0.size, a0.isNode, a0.plain, a0.lenT, e1, e2, e3]
      intro n1 hn1 hfc
      have hn1' : n4 ≤ n1 := hn1
      rw [hno, rlnode_still hqs]
      exact .mk _ ⟨hrl, ho.mono (by omega) (by omega)⟩
  · have hoS : Own m0 p0 (.sl t zb x.seats.length 20 f) := by
      have := ho.node.own (i := 0) (by decide)
      rw [q0] at this
      exact this
    have hzb : zb = true := hoS.wh.1
    subst hzb
    have ht := hoS.rg t (by simp [D.tl])
    have hdf : (D.node (.agg [1, 1]) f0).free t := free_of_tags (m := n0) (by omega) dT
    refine conv_field (l := 1000) [1, 2, 3] (hW t (by omega)) (by simp -dsimp only [go_sem]) (own_free hoS) 0 (by decide) q0 (fun i hi hne => ?_) (fun j hj => ?_) (fun l' g b x hx => ⟨hx, roots2 ⟨e3, hdf⟩ ⟨?_, ?_⟩ _ _ _ _ hx⟩) fun g => ?_
    · have : i = 1 := by have : i < 2 := hi; omega
      subst this; rw [q1]; trivial
    · simp only [List.mem_cons, List.not_mem_nil, or_false] at hj
      rcases hj with rfl | rfl | rfl
      · exact (show (D.ptr 1 g1 0 []).free t from trivial)
      · exact (show (D.ptr 2 g2 0 []).free t from trivial)
      · exact (show (D.lit (.int .i64 0)).free t from trivial)
    · simp -dsimp only [go_sem]
    · intro i hi
      have hi' : i < 2 := hi
      match i, hi' with
      | 0, _ => trivial
      | 1, _ => trivial
    · simp -dsimp only [go_sem, q0, q1, k1, a0.size, a0.isNode, a0.plain, a0.lenT, e1, e2, e3]
      intro g4 b4 hb4
      refine xcall_v (poolOk_p _ _ hp) (by simp -dsimp only [go_sem, rl_still, e4]) (fun _ => trivial) fun n4 hn4 => ?_
      have hb4' : p0 ≤ b4 := hb4
      have hn4' : b4 + 1 ≤ n4 := hn4
      rcases Bool.eq_false_or_eq_true (Md.poolOk x) with hpo | hpo
      · by_cases h3 : x.seats.length = 3
        · have h0 : ((x.seats.length : Int) != 3) = false := by rw [h3]; rfl
          have hyes : victim x = vicGo 3 x := victim_yes (by unfold vicOk; rw [hpo, h3]; rfl)
          simp -dsimp only [go_sem, hpo, h0, q0, q1, k1, a0.size, a0.isNode, a0.plain, a0.lenT, e1, e2, e3]
          refine iwp_forR 3 [2, 3, 4] (fun i n' s R => ∃ p fe qq, VInv x i p ∧ VF f p x.seats.length fe ∧ qq 0 = .msl 1000 g 0 [] 0 x.seats.length 20 ∧ qq 1 = .lit (.int .i64 p.hand) ∧ (∀ j, (qq j).still ∨ j = 0) ∧ R = upd (upd (upd (upd (fun _ => none) 1 (some (g1, b1, .node (.agg [1, 1]) f0))) 2 (some (g2, b2, .node (.agg [1, 1]) (nthD [.nil, .lit (.int .i64 0)])))) 1000 (some (g, t, .node (.arr x.seats.length 20) fe))) 4 (some (g4, b4, .node (.agg [1, 1]) qq))) 0 (Nat.zero_le _)
            ⟨x, f, upd q 0 (.msl 1000 g 0 [] 0 x.seats.length 20), VInv.start hpo h3, ⟨hfs, hf, fun _ _ => rfl, hoS.wh.2⟩, by simp -dsimp only [go_sem], by simp -dsimp only [go_sem, q1], gs_upd fun j => .inl (hqs j), by simp -dsimp only [go_sem]⟩ ?_
          rintro i n' s R hile hn hk ⟨p, fe, qq, hv, hF, hq0, hq1, hqq, rfl⟩
          refine ivc_sound ?_
          simp -dsimp only [go_sem] at hk
          have hkl := hv.kl
          have hlen := hv.len
          have hh0 := hv.h0
          have hh1 : p.hand < (x.seats.length : Int) := by have := hv.l3; have := hv.h1; omega
          have hw : IntKind.i64.wrap (p.hand + 1) = p.hand + 1 := w64 (by omega) (by omega)
          have hse := hF.ok _ hkl
          have hfg := hse
          obtain ⟨ge, hge, ges, s0, s1, s2, s3⟩ := hfg
          have s3 : ge 3 = _ := s3
          have hkn : p.hand.toNat < x.seats.length := by omega
          have hshort : x.seats.length < 140737488355328 := by omega
          rcases Bool.eq_false_or_eq_true (p.seats[p.hand.toNat].hot) with hot | hot
          · have hi3 := hv.lt hot
            simp -dsimp only [go_sem, hk, hq0, hq1, hh0, hh1, hw, hge, s3, hot, hkn, hi3]
            exact into_r (by omega) (by simp -dsimp only [go_sem, hk]) ⟨vicStep p, _, _, hv.step hot, hF.cool hkl hlen hge, by simp -dsimp only [go_sem, hq0], by simp -dsimp only [go_sem]; rfl, gs_upd1 hqq, rfl⟩
          · simp -dsimp only [go_sem, hk, hq0, hq1, hh0, hh1, hw, hge, s3, hot, hkn]
            intro n1 hn1 hfc
            have hn' : n4 ≤ n' := hn
            have hn1' : n' ≤ n1 := hn1
            rw [hyes, hv.stop hot, rl_node]
            refine .mk _ ?_
            refine (grow_fin (x := ⟨p.seats, nxt p.hand⟩) (n0 := n0) (n1 := n1) ?_ ?_ (gs_upd1 hqq) (hF.isL hlen hshort) ((hF.own hoS).mono (by omega) (by omega))).out
            · simp -dsimp only [go_sem, hq0]
              rw [rls_still hF.st]
            · simp -dsimp only [go_sem, rl_lit]
              rfl
        · have h0 : ((x.seats.length : Int) != 3) = true := by simp; omega
          have hno : victim x = (x, -1) := victim_no (by unfold vicOk; rw [show ((x.seats.length : Int) == 3) = false from beq_eq_false_iff_ne.2 (by omega)]; simp)
          simp -dsimp only [go_sem, hpo, h0, q0, q1, k1, a0.size, a0.isNode, a0.plain, a0.lenT, e1, e2, e3]
          intro n1 hn1 hfc
          have hn1' : n4 ≤ n1 := hn1
          rw [hno, rl_node]
          refine .mk _ ?_
          refine (grow_fin (n0 := n0) (n1 := n1) ?_ ?_ (gs_upd fun j => .inl (hqs j)) (.inr ⟨t, true, f, rfl, hfs, hfl, hf⟩) (hoS.mono (by omega) (by omega))).out
          · simp -dsimp only [go_sem, q0]
            rw [rls_still hfs]
          · simp -dsimp only [go_sem, q1, rl_lit]
      · have hno : victim x = (x, -1) := victim_no (by unfold vicOk; rw [hpo]; rfl)
        simp -dsimp only [go_sem, hpo, q0, q1, k1, a0.size, a0.isNode, a0.plain, a0.lenT, e1, e2, e3]
        intro n1 hn1 hfc
        have hn1' : n4 ≤ n1 := hn1
        rw [hno, rl_node]
        refine .mk _ ?_
        refine (grow_fin (n0 := n0) (n1 := n1) ?_ ?_ (gs_upd fun j => .inl (hqs j)) (.inr ⟨t, true, f, rfl, hfs, hfl, hf⟩) (hoS.mono (by omega) (by omega))).out
        · simp -dsimp only [go_sem, q0]
          rw [rls_still hfs]
        · simp -dsimp only [go_sem, q1, rl_lit]
def zPage : Md.Page := ⟨0, [Md.zSlot, Md.zSlot, Md.zSlot, Md.zSlot]⟩
def zSeat : Md.Seat := ⟨0, zPage, false, false⟩
def newSeat (no : Int) (y : Md.Page) : Md.Seat := ⟨no, y, false, true⟩
def brOk (x : Md.Pool) (no : Int) (y : Md.Page) : Bool := Md.poolOk x && (Md.inB no 0 7 && (Md.pageOk y && decide (Md.seated x no < 0)))
def bringDo (x : Md.Pool) (no : Int) (y : Md.Page) : Md.Pool × Md.Seat × Bool :=
  if x.seats.length < 3 then (⟨x.seats ++ [newSeat no y], x.hand⟩, zSeat, false)
  else (⟨(vicGo 3 x).1.seats.set (vicGo 3 x).2.toNat (newSeat no y), (vicGo 3 x).1.hand⟩, ((vicGo 3 x).1.seats[(vicGo 3 x).2.toNat]?).getD zSeat, true)
def bring (x : Md.Pool) (no : Int) (y : Md.Page) : Md.Pool × Md.Seat × Bool := if brOk x no y then bringDo x no y else (x, zSeat, false)
theorem bring_no {x : Md.Pool} {no : Int} {y : Md.Page} (h : brOk x no y = false) : bring x no y = (x, zSeat, false) := by unfold bring; rw [h]; rfl
theorem bring_yes {x : Md.Pool} {no : Int} {y : Md.Page} (h : brOk x no y = true) : bring x no y = bringDo x no y := by unfold bring; rw [h]; rfl
theorem bringDo_app {x : Md.Pool} {no : Int} {y : Md.Page} (h : x.seats.length < 3) : bringDo x no y = (⟨x.seats ++ [newSeat no y], x.hand⟩, zSeat, false) := if_pos h
theorem bringDo_vic {x : Md.Pool} {no : Int} {y : Md.Page} (h : ¬ x.seats.length < 3) : bringDo x no y = (⟨(vicGo 3 x).1.seats.set (vicGo 3 x).2.toNat (newSeat no y), (vicGo 3 x).1.hand⟩, ((vicGo 3 x).1.seats[(vicGo 3 x).2.toNat]?).getD zSeat, true) := if_neg h
theorem map_cool_modify : ∀ (l : List Md.Seat) (k : Nat), (l.modify k cool).map cool = l.map cool
  | [], k => by cases k <;> rfl
  | a :: l, 0 => rfl
  | a :: l, k + 1 => by
    show cool a :: (l.modify k cool).map cool = _
    rw [map_cool_modify l k]; rfl
theorem vicGo_rg : ∀ (n : Nat) (p : Md.Pool), 0 ≤ p.hand → p.hand < 3 → 0 ≤ (vicGo n p).2 ∧ (vicGo n p).2 < 3 ∧ (vicGo n p).1.seats.map cool = p.seats.map cool ∧ (vicGo n p).1.hand = nxt (vicGo n p).2
  | 0, p, h0, h1 => ⟨h0, h1, rfl, rfl⟩
  | n + 1, p, h0, h1 => by
    show 0 ≤ (if hotAt p = true then vicGo n (vicStep p) else (⟨p.seats, nxt p.hand⟩, p.hand)).2 ∧ _
    have e : vicGo (n + 1) p = if hotAt p = true then vicGo n (vicStep p) else (⟨p.seats, nxt p.hand⟩, p.hand) := rfl
    rw [e]
    by_cases h : hotAt p = true
    · rw [if_pos h]
      have hn := nxt_rg h0 h1
      have ih := vicGo_rg n (vicStep p) hn.1 hn.2
      refine ⟨ih.1, ih.2.1, ih.2.2.1.trans ?_, ih.2.2.2⟩
      exact map_cool_modify p.seats p.hand.toNat
    · rw [if_neg h]
      exact ⟨h0, h1, rfl, rfl⟩
theorem poolOk_hand {x : Md.Pool} (h : Md.poolOk x = true) : 0 ≤ x.hand ∧ x.hand < 3 ∧ x.seats.length ≤ 3 := by
  unfold Md.poolOk at h
  simp only [Bool.and_eq_true, decide_eq_true_eq] at h
  have := (inB_iff _ _ _).1 h.2
  have := h.1.2
  omega
theorem vicGo_lenP {x : Md.Pool} (h0 : 0 ≤ x.hand) (h1 : x.hand < 3) : (vicGo 3 x).1.seats.length = x.seats.length := by
  have := congrArg List.length (vicGo_rg 3 x h0 h1).2.2.1
  rwa [List.length_map, List.length_map] at this
theorem vicGo_p {x : Md.Pool} (h0 : 0 ≤ x.hand) (h1 : x.hand < 3) (i : Nat) (hi : i < (vicGo 3 x).1.seats.length) (hi' : i < x.seats.length) : (vicGo 3 x).1.seats[i].no = x.seats[i].no ∧ (vicGo 3 x).1.seats[i].p = x.seats[i].p ∧ (vicGo 3 x).1.seats[i].dirty = x.seats[i].dirty := by
  have h := (vicGo_rg 3 x h0 h1).2.2.1
  have h2 : ((vicGo 3 x).1.seats.map cool)[i]'(by simpa using hi) = (x.seats.map cool)[i]'(by simpa using hi') := by simp only [h]
  rw [List.getElem_map, List.getElem_map] at h2
  have e1 := congrArg Md.Seat.no h2
  have e2 := congrArg Md.Seat.p h2
  have e3 := congrArg Md.Seat.dirty h2
  exact ⟨e1, e2, e3⟩
theorem not_in {x : Md.Pool} {no : Int} (h : Md.seated x no < 0) : ∀ i (hi : i < x.seats.length), x.seats[i].no ≠ no := by
  intro i hi e
  have : x.seats.findIdx? (fun s => s.no == no) = none := by
    cases e : x.seats.findIdx? (fun s => s.no == no) with
    | none => rfl
    | some i => unfold Md.seated at h; rw [e] at h; simp at h; omega
  rw [List.findIdx?_eq_none_iff] at this
  have := this _ (List.getElem_mem hi)
  simp [e] at this
theorem seated_neg {x : Md.Pool} {no : Int} (h : ∀ i (hi : i < x.seats.length), x.seats[i].no ≠ no) : Md.seated x no = -1 := by
  have : x.seats.findIdx? (fun s => s.no == no) = none := by
    rw [List.findIdx?_eq_none_iff]
    intro s hs
    obtain ⟨i, hi, rfl⟩ := List.getElem_of_mem hs
    simpa using h i hi
  unfold Md.seated; rw [this]
theorem seated_is {x : Md.Pool} {no : Int} {k : Nat} (hk : k < x.seats.length) (h : x.seats[k].no = no) (hn : ∀ i (hi : i < x.seats.length), i ≠ k → x.seats[i].no ≠ no) : Md.seated x no = k := by
  have : x.seats.findIdx? (fun s => s.no == no) = some k := by
    rw [List.findIdx?_eq_some_iff_getElem]
    refine ⟨hk, by simpa using h, fun j hj => ?_⟩
    have := hn j (by omega) (by omega)
    simpa using this
  unfold Md.seated; rw [this]
theorem distinct_iff : ∀ l : List Int, Md.distinctNos l = true ↔ l.Nodup
  | [] => by simp [Md.distinctNos]
  | a :: l => by simp [Md.distinctNos, distinct_iff l]
theorem vic_hot {x : Md.Pool} (h0 : 0 ≤ x.hand) (h1 : x.hand < 3) (hl : x.seats.length = 3) (hk : (vicGo 3 x).2.toNat < x.seats.length) (hh : x.seats[(vicGo 3 x).2.toNat].hot = true) : ∀ i (hi : i < x.seats.length), x.seats[i].hot = true := by
  obtain ⟨ss, hd⟩ := x
  match ss, hl with
  | [a, b, c], _ =>
    have : hd = 0 ∨ hd = 1 ∨ hd = 2 := by have h0 : 0 ≤ hd := h0; have h1 : hd < 3 := h1; omega
    obtain ⟨an, ap, ad, ah⟩ := a
    obtain ⟨bn, bp, bd, bh⟩ := b
    obtain ⟨cn, cp, cd, ch⟩ := c
    rcases this with rfl | rfl | rfl <;> cases ah <;> cases bh <;> cases ch <;> first | (exfalso; revert hh; simp [vicGo, hotAt, vicStep, nxt, cool]; done) | (intro i hi; match i, hi with | 0, _ => rfl | 1, _ => rfl | 2, _ => rfl)
structure Went (x : Md.Pool) (no : Int) (y : Md.Page) (k : Nat) (n : Md.Pool) (old : Md.Seat) (v : Md.Pool × Int) : Prop where
  ok : Md.poolOk x = true
  l3 : x.seats.length = 3
  hv : v = (⟨v.1.seats, ((k : Int) + 1).tmod 3⟩, (k : Int))
  kx : k < x.seats.length
  ln : n.seats.length = 3
  kn : k < n.seats.length
  sn : Md.seated n no = k
  at_ : n.seats[k].p = y
  so : Md.seated n old.no = -1
  nk : Md.poolOk n = true
  old_ : x.seats[k].no = old.no
  hot : x.seats[k].hot = true → ∀ i (hi : i < x.seats.length), x.seats[i].hot = true
theorem went {x : Md.Pool} {no : Int} {y : Md.Page} (h : (bring x no y).2.2 = true) : ∃ k, Went x no y k (bring x no y).1 (bring x no y).2.1 (victim x) := by
  cases hb : brOk x no y with
  | false => rw [bring_no hb] at h; simp at h
  | true =>
    have hb' := hb
    unfold brOk at hb'
    simp only [Bool.and_eq_true, decide_eq_true_eq] at hb'
    obtain ⟨hp, hno, hy, hneg⟩ := hb'
    have hh := poolOk_hand hp
    rw [bring_yes hb] at h ⊢
    by_cases h3 : x.seats.length < 3
    · rw [bringDo_app h3] at h; simp at h
    have l3 : x.seats.length = 3 := by omega
    have hv : victim x = vicGo 3 x := victim_yes (by unfold vicOk; rw [hp, l3]; rfl)
    rw [bringDo_vic h3, hv]
    have rg := vicGo_rg 3 x hh.1 hh.2.1
    have vl := vicGo_lenP hh.1 hh.2.1
    have vp := vicGo_p hh.1 hh.2.1
    have vh := vic_hot hh.1 hh.2.1 l3
    generalize hG : vicGo 3 x = G at *
    obtain ⟨k, hk⟩ := Int.eq_ofNat_of_zero_le rg.1
    have hk' : G.2.toNat = k := by omega
    have kx : k < x.seats.length := by omega
    have kg : k < G.1.seats.length := by omega
    rw [hk'] at vh ⊢
    have hni := not_in hneg
    have hd : (x.seats.map (·.no)).Nodup := by
      unfold Md.poolOk at hp
      simp only [Bool.and_eq_true] at hp
      exact (distinct_iff _).1 hp.1.1.2
    have hinj : ∀ i j (hi : i < x.seats.length) (hj : j < x.seats.length), x.seats[i].no = x.seats[j].no → i = j := by
      intro i j hi hj he
      have hp2 := List.pairwise_iff_getElem.1 hd
      rcases Nat.lt_trichotomy i j with h4 | h4 | h4
      · exact absurd (by rw [List.getElem_map, List.getElem_map]; exact he) (hp2 i j (by simpa using hi) (by simpa using hj) h4)
      · exact h4
      · exact absurd (by rw [List.getElem_map, List.getElem_map]; exact he.symm) (hp2 j i (by simpa using hj) (by simpa using hi) h4)
    have hold : (G.1.seats[k]?).getD zSeat = G.1.seats[k] := by rw [List.getElem?_eq_getElem kg]; rfl
    simp only [hold]
    have ho := (vp k kg kx).1
    have hset : ∀ i (hi : i < (G.1.seats.set k (newSeat no y)).length), (G.1.seats.set k (newSeat no y))[i].no = if i = k then no else x.seats[i]'(by simpa [vl] using hi) |>.no := by
      intro i hi
      rw [List.getElem_set]
      by_cases e : k = i
      · subst e; simp [newSeat]
      · rw [if_neg e, if_neg (fun h => e h.symm)]
        exact (vp i (by simpa using hi) (by simpa [vl] using hi)).1
    refine ⟨k, hp, l3, ?_, kx, by simp [vl, l3], by simpa using kg, ?_, by simp [newSeat], ?_, ?_, ho.symm, vh kx⟩
    · have := rg.2.2.2
      rw [hk] at this
      obtain ⟨⟨gs, gh⟩, g2⟩ := G
      have hk : g2 = _ := hk
      have this : gh = _ := this
      rw [hk, this]; rfl
    · refine seated_is (by simpa using kg) (by rw [hset]; simp) fun i hi hne => ?_
      rw [hset, if_neg hne]
      exact hni i _
    · refine seated_neg fun i hi => ?_
      rw [hset, ho]
      have hi' : i < x.seats.length := by simpa [vl] using hi
      by_cases e : i = k
      · rw [if_pos e]; exact (hni k kx).symm
      · rw [if_neg e]
        intro h2
        exact e (hinj _ _ hi' kx h2)
    · unfold Md.poolOk at hp ⊢
      simp only [Bool.and_eq_true, decide_eq_true_eq] at hp ⊢
      refine ⟨⟨⟨?_, ?_⟩, by simp [vl, l3]⟩, ?_⟩
      · rw [List.all_eq_true]
        intro s hs
        obtain ⟨i, hi, rfl⟩ := List.getElem_of_mem hs
        have hi' : i < x.seats.length := by simpa [vl] using hi
        by_cases e : k = i
        · subst e
          rw [List.getElem_set_self]
          show (Md.inB no 0 7 && Md.pageOk y) = true
          rw [hno, hy]; rfl
        · rw [List.getElem_set_ne e]
          have q := vp i (by simpa using hi) hi'
          rw [q.1, q.2.1]
          exact (List.all_eq_true.1 hp.1.1.1) _ (List.getElem_mem hi')
      · rw [distinct_iff]
        refine List.pairwise_iff_getElem.2 fun i j hi hj hij he => ?_
        have hi2 : i < (G.1.seats.set k (newSeat no y)).length := by simpa using hi
        have hj2 : j < (G.1.seats.set k (newSeat no y)).length := by simpa using hj
        have he : (G.1.seats.set k (newSeat no y))[i].no = (G.1.seats.set k (newSeat no y))[j].no := by rw [List.getElem_map, List.getElem_map] at he; exact he
        have hi' : i < x.seats.length := by simpa [vl] using hi
        have hj' : j < x.seats.length := by simpa [vl] using hj
        rw [hset i hi2, hset j hj2] at he
        by_cases e1 : i = k
        · by_cases e2 : j = k
          · omega
          · rw [if_pos e1, if_neg e2] at he; exact absurd he.symm (hni j hj')
        · by_cases e2 : j = k
          · rw [if_neg e1, if_pos e2] at he; exact absurd he (hni i hi')
          · rw [if_neg e1, if_neg e2] at he
            have := hinj _ _ hi' hj' he
            omega
      · show Md.inB G.1.hand 0 2 = true
        rw [rg.2.2.2]
        have := nxt_rg rg.1 rg.2.1
        exact (inB_iff _ _ _).2 (by omega)
def sureL (l : Md.Log) (n : Int) : Md.Log := ⟨l.recs, max l.sure (min n l.recs.length)⟩
def sureE (x : Md.Engine) (n : Int) : Md.Engine := { x with log := sureL x.log n }
def diskAt (x : Md.Engine) (no : Int) : Md.Page := x.disk.getD no.toNat zPg
def writeE (x : Md.Engine) (s : Md.Seat) : Md.Engine := { x with log := sureL x.log s.p.lsn, disk := x.disk.set s.no.toNat s.p }
def broughtE (x : Md.Engine) (b : Md.Pool × Md.Seat × Bool) : Md.Engine := if b.2.2 = true ∧ b.2.1.dirty = true then writeE { x with pool := b.1 } b.2.1 else { x with pool := b.1 }
def fetchE (x : Md.Engine) (no : Int) : Md.Engine := if 0 ≤ Md.seated x.pool no then { x with pool := used x.pool no } else broughtE x (bringDo x.pool no (diskAt x no))
def seatAt (x : Md.Engine) (no : Int) : Md.Seat := x.pool.seats.getD (Md.seated x.pool no).toNat zSeat
def slotAt (x : Md.Engine) (oid : Int) : Md.Slot := (seatAt x (oid / 4)).p.slots.getD (oid % 4).toNat Md.zSlot
theorem poolOk_iff {x : Md.Pool} : Md.poolOk x = true ↔ x.seats.length ≤ 3 ∧ 0 ≤ x.hand ∧ x.hand ≤ 2 ∧ (∀ i (h : i < x.seats.length), 0 ≤ x.seats[i].no ∧ x.seats[i].no ≤ 7 ∧ Md.pageOk x.seats[i].p = true) ∧
    ∀ i j (hi : i < x.seats.length) (hj : j < x.seats.length), x.seats[i].no = x.seats[j].no → i = j := by
  unfold Md.poolOk
  simp only [Bool.and_eq_true, decide_eq_true_eq, List.all_eq_true, distinct_iff, inB_iff]
  constructor
  · rintro ⟨⟨⟨h1, h2⟩, h3⟩, h4, h5⟩
    refine ⟨h3, h4, h5, fun i hi => ?_, fun i j hi hj he => ?_⟩
    · have := h1 _ (List.getElem_mem hi)
      exact ⟨this.1.1, this.1.2, this.2⟩
    · have hp2 := List.pairwise_iff_getElem.1 h2
      rcases Nat.lt_trichotomy i j with h4 | h4 | h4
      · exact absurd (by rw [List.getElem_map, List.getElem_map]; exact he) (hp2 i j (by simpa using hi) (by simpa using hj) h4)
      · exact h4
      · exact absurd (by rw [List.getElem_map, List.getElem_map]; exact he.symm) (hp2 j i (by simpa using hj) (by simpa using hi) h4)
  · rintro ⟨h3, h4, h5, h1, h2⟩
    refine ⟨⟨⟨fun s hs => ?_, ?_⟩, h3⟩, h4, h5⟩
    · obtain ⟨i, hi, rfl⟩ := List.getElem_of_mem hs
      have := h1 i hi
      exact ⟨⟨this.1, this.2.1⟩, this.2.2⟩
    · refine List.pairwise_iff_getElem.2 fun i j hi hj hij he => ?_
      rw [List.getElem_map, List.getElem_map] at he
      have := h2 i j (by simpa using hi) (by simpa using hj) he
      omega
theorem seated_spec {x : Md.Pool} {no : Int} (h : 0 ≤ Md.seated x no) : ∃ (hk : (Md.seated x no).toNat < x.seats.length), x.seats[(Md.seated x no).toNat].no = no := by
  have key : ∃ i, ∃ hi : i < x.seats.length, Md.seated x no = (i : Int) ∧ x.seats[i].no = no := by
    unfold Md.seated at *
    cases e : x.seats.findIdx? (fun s => s.no == no) with
    | none => rw [e] at h; exact absurd h (by decide)
    | some i =>
      obtain ⟨hi, h1, _⟩ := List.findIdx?_eq_some_iff_getElem.1 e
      exact ⟨i, hi, rfl, by simpa using h1⟩
  obtain ⟨i, hi, e, h1⟩ := key
  have e2 : (Md.seated x no).toNat = i := by omega
  refine ⟨by omega, ?_⟩
  simp only [e2]; exact h1
structure Brought (x : Md.Pool) (no : Int) (y : Md.Page) (b : Md.Pool × Md.Seat × Bool) : Prop where
  ok : Md.poolOk b.1 = true
  k : ∃ k, ∃ hk : k < b.1.seats.length, Md.seated b.1 no = k ∧ b.1.seats[k] = newSeat no y
  old : ∀ i (h : i < b.1.seats.length), b.1.seats[i].p = y ∨ ∃ j, ∃ hj : j < x.seats.length, b.1.seats[i].p = x.seats[j].p
  gone : b.2.1.dirty = true → b.2.2 = true ∧ ∃ j, ∃ hj : j < x.seats.length, b.2.1.no = x.seats[j].no ∧ b.2.1.p = x.seats[j].p
theorem brought {x : Md.Pool} {no : Int} {y : Md.Page} (hp : Md.poolOk x = true) (h0 : 0 ≤ no) (h7 : no ≤ 7) (hy : Md.pageOk y = true) (hs : Md.seated x no < 0) : Brought x no y (bringDo x no y) := by
  have hh := poolOk_hand hp
  have hi := poolOk_iff.1 hp
  have hni := not_in hs
  by_cases h3 : x.seats.length < 3
  · rw [bringDo_app h3]
    have hln : (x.seats ++ [newSeat no y]).length = x.seats.length + 1 := by simp
    have hl : ∀ i (h : i < x.seats.length) (h' : i < (x.seats ++ [newSeat no y]).length), (x.seats ++ [newSeat no y])[i] = x.seats[i] := fun i h h' => List.getElem_append_left h
    have hr : ∀ (h' : x.seats.length < (x.seats ++ [newSeat no y]).length), (x.seats ++ [newSeat no y])[x.seats.length] = newSeat no y := fun h' => by simp
    refine ⟨poolOk_iff.2 ⟨by show (x.seats ++ [newSeat no y]).length ≤ 3; omega, hi.2.1, hi.2.2.1, fun i h => ?_, fun i j h h' he => ?_⟩, ⟨x.seats.length, by show _ < (x.seats ++ [newSeat no y]).length; omega, ?_, hr _⟩, fun i h => ?_, fun h => by cases h⟩
    · have h : i < (x.seats ++ [newSeat no y]).length := h
      show 0 ≤ (x.seats ++ [newSeat no y])[i].no ∧ (x.seats ++ [newSeat no y])[i].no ≤ 7 ∧ Md.pageOk (x.seats ++ [newSeat no y])[i].p = true
      by_cases hlt : i < x.seats.length
      · rw [hl i hlt h]; exact hi.2.2.2.1 i hlt
      · obtain rfl : i = x.seats.length := by omega
        rw [hr h]; exact ⟨h0, h7, hy⟩
    · have h : i < (x.seats ++ [newSeat no y]).length := h
      have h' : j < (x.seats ++ [newSeat no y]).length := h'
      have he : (x.seats ++ [newSeat no y])[i].no = (x.seats ++ [newSeat no y])[j].no := he
      by_cases hlt : i < x.seats.length
      · by_cases hlt' : j < x.seats.length
        · rw [hl i hlt h, hl j hlt' h'] at he; exact hi.2.2.2.2 i j hlt hlt' he
        · obtain rfl : j = x.seats.length := by omega
          rw [hl i hlt h, hr h'] at he; exact absurd he (hni i hlt)
      · obtain rfl : i = x.seats.length := by omega
        by_cases hlt' : j < x.seats.length
        · rw [hr h, hl j hlt' h'] at he; exact absurd he.symm (hni j hlt')
        · omega
    · refine seated_is (by show _ < (x.seats ++ [newSeat no y]).length; omega) (by show (x.seats ++ [newSeat no y])[x.seats.length].no = no; rw [hr (by omega)]; rfl) fun i h hne => ?_
      have h : i < (x.seats ++ [newSeat no y]).length := h
      show (x.seats ++ [newSeat no y])[i].no ≠ no
      rw [hl i (by omega) h]; exact hni i (by omega)
    · have h : i < (x.seats ++ [newSeat no y]).length := h
      show (x.seats ++ [newSeat no y])[i].p = y ∨ ∃ j, ∃ hj : j < x.seats.length, (x.seats ++ [newSeat no y])[i].p = x.seats[j].p
      by_cases hlt : i < x.seats.length
      · rw [hl i hlt h]; exact .inr ⟨i, hlt, rfl⟩
      · obtain rfl : i = x.seats.length := by omega
        rw [hr h]; exact .inl rfl
  · have hb : brOk x no y = true := by
      unfold brOk
      rw [hp, hy, (inB_iff _ _ _).2 ⟨h0, h7⟩]; simpa using hs
    have h2 : (bring x no y).2.2 = true := by rw [bring_yes hb, bringDo_vic h3]
    obtain ⟨k, w⟩ := went h2
    rw [bring_yes hb] at w
    have e := bringDo_vic (x := x) (no := no) (y := y) h3
    have vl := vicGo_lenP hh.1 hh.2.1
    have vp := vicGo_p hh.1 hh.2.1
    have rg := vicGo_rg 3 x hh.1 hh.2.1
    have hk2 : (vicGo 3 x).2.toNat < (vicGo 3 x).1.seats.length := by omega
    refine ⟨w.nk, ⟨k, w.kn, w.sn, ?_⟩, fun i h => ?_, fun h => ⟨by rw [e], ?_⟩⟩
    · have hsn := w.sn
      have hkn := w.kn
      simp only [e] at hsn hkn ⊢
      rw [List.getElem_set]
      by_cases hkk : (vicGo 3 x).2.toNat = k
      · rw [if_pos hkk]
      · exfalso
        have hj : (vicGo 3 x).2.toNat < ((vicGo 3 x).1.seats.set (vicGo 3 x).2.toNat (newSeat no y)).length := by rw [List.length_set]; exact hk2
        have h4 := (poolOk_iff.1 w.nk).2.2.2.2
        simp only [e] at h4
        have h5 := seated_spec (x := ⟨(vicGo 3 x).1.seats.set (vicGo 3 x).2.toNat (newSeat no y), (vicGo 3 x).1.hand⟩) (no := no) (by omega)
        obtain ⟨h6, h7⟩ := h5
        simp only [hsn] at h6 h7
        have := h4 _ _ hj h6 (by rw [h7, List.getElem_set_self]; rfl)
        exact hkk (by omega)
    · simp only [e] at h ⊢
      rw [List.getElem_set]
      by_cases hkk : (vicGo 3 x).2.toNat = i
      · rw [if_pos hkk]; exact .inl rfl
      · rw [if_neg hkk]
        have hi2 : i < (vicGo 3 x).1.seats.length := by simpa using h
        exact .inr ⟨i, by omega, (vp i hi2 (by omega)).2.1⟩
    · simp only [e, List.getElem?_eq_getElem hk2, Option.getD_some]
      exact ⟨_, by omega, (vp _ hk2 (by omega)).1, (vp _ hk2 (by omega)).2.1⟩
structure FOk (n : Int) (x : Md.Engine) : Prop where
  pool : Md.poolOk x.pool = true
  dl : x.disk.length = 8
  dok : ∀ i (h : i < x.disk.length), Md.pageOk x.disk[i] = true ∧ x.disk[i].lsn ≤ n
  pl : ∀ i (h : i < x.pool.seats.length), x.pool.seats[i].p.lsn ≤ n
theorem FOk.mono {n m : Int} {x : Md.Engine} (h : FOk n x) (hm : n ≤ m) : FOk m x := ⟨h.pool, h.dl, fun i hi => ⟨(h.dok i hi).1, by have := (h.dok i hi).2; omega⟩, fun i hi => by have := h.pl i hi; omega⟩
theorem FOk.page {n : Int} {x : Md.Engine} (h : FOk n x) {no : Int} (h0 : 0 ≤ no) (h7 : no ≤ 7) : ∃ hl : no.toNat < x.disk.length, diskAt x no = x.disk[no.toNat] ∧ Md.pageOk (diskAt x no) = true ∧ (diskAt x no).lsn ≤ n := by
  have hl : no.toNat < x.disk.length := by have := h.dl; omega
  have e : diskAt x no = x.disk[no.toNat] := getD_at hl
  exact ⟨hl, e, e ▸ (h.dok _ hl).1, e ▸ (h.dok _ hl).2⟩
theorem mod_get {α : Type} {l : List α} {k : Nat} {u : α → α} {i : Nat} (h : i < (l.modify k u).length) (h' : i < l.length) : (l.modify k u)[i] = if k = i then u l[i] else l[i] := by
  rw [List.getElem_modify]
theorem FOk.used {n : Int} {x : Md.Engine} (h : FOk n x) (no : Int) : FOk n { x with pool := used x.pool no } := by
  by_cases hs : 0 ≤ Md.seated x.pool no
  · have e : IM.used x.pool no = ⟨x.pool.seats.modify (Md.seated x.pool no).toNat fun s => { s with hot := true }, x.pool.hand⟩ := if_pos hs
    have hi := poolOk_iff.1 h.pool
    have hl : (x.pool.seats.modify (Md.seated x.pool no).toNat fun s => { s with hot := true }).length = x.pool.seats.length := List.length_modify ..
    have hg : ∀ i (h : i < (x.pool.seats.modify (Md.seated x.pool no).toNat fun s => { s with hot := true }).length) (h' : i < x.pool.seats.length), (x.pool.seats.modify (Md.seated x.pool no).toNat fun s => { s with hot := true })[i].no = x.pool.seats[i].no ∧ (x.pool.seats.modify (Md.seated x.pool no).toNat fun s => { s with hot := true })[i].p = x.pool.seats[i].p := fun i h h' => by
      rw [mod_get h h']; split <;> exact ⟨rfl, rfl⟩
    refine ⟨?_, h.dl, h.dok, fun i hi => ?_⟩
    · show Md.poolOk (IM.used x.pool no) = true
      rw [e]
      refine poolOk_iff.2 ⟨by show List.length _ ≤ 3; rw [hl]; exact hi.1, hi.2.1, hi.2.2.1, fun i h1 => ?_, fun i j h1 h2 he => ?_⟩
      · have h3 := hg i h1 (by rw [← hl]; exact h1)
        exact ⟨h3.1 ▸ (hi.2.2.2.1 i _).1, h3.1 ▸ (hi.2.2.2.1 i _).2.1, h3.2 ▸ (hi.2.2.2.1 i _).2.2⟩
      · have h3 := hg i h1 (by rw [← hl]; exact h1)
        have h4 := hg j h2 (by rw [← hl]; exact h2)
        exact hi.2.2.2.2 i j (by rw [← hl]; exact h1) (by rw [← hl]; exact h2) (by rw [← h3.1, ← h4.1]; exact he)
    · have hi : i < (IM.used x.pool no).seats.length := hi
      show (IM.used x.pool no).seats[i].p.lsn ≤ n
      simp only [e] at hi ⊢
      rw [(hg i hi (by rw [← hl]; exact hi)).2]; exact h.pl i _
  · have e : IM.used x.pool no = x.pool := if_neg hs
    rw [e]; exact h
theorem seated_used {x : Md.Pool} {no : Int} (h : 0 ≤ Md.seated x no) : Md.seated (used x no) no = Md.seated x no := by
  have e : used x no = ⟨x.seats.modify (Md.seated x no).toNat fun s => { s with hot := true }, x.hand⟩ := if_pos h
  have : ∀ k, (x.seats.modify k fun s => { s with hot := true }).map (·.no) = x.seats.map (·.no) := fun k => by
    apply List.ext_getElem
    · simp
    · intro i h1 h2
      simp only [List.getElem_map, List.getElem_modify]
      split <;> rfl
  have key : ∀ l : List Md.Seat, l.findIdx? (fun s => s.no == no) = (l.map (·.no)).findIdx? (fun z => z == no) := fun l => by rw [List.findIdx?_map]; rfl
  rw [e]
  unfold Md.seated
  simp only [key, this]
structure Fetched (n : Int) (x y : Md.Engine) (no : Int) : Prop where
  ok : FOk n y
  s0 : 0 ≤ Md.seated y.pool no
  hot : ∀ (h : (Md.seated y.pool no).toNat < y.pool.seats.length), y.pool.seats[(Md.seated y.pool no).toNat].no = no ∧ y.pool.seats[(Md.seated y.pool no).toNat].hot = true
  recs : y.log.recs = x.log.recs
  txs : y.txs = x.txs
  holds : y.holds = x.holds
  next : y.next = x.next
  down : y.down = x.down
  sure : x.log.sure ≤ y.log.sure ∧ (x.log.sure ≤ x.log.recs.length → y.log.sure ≤ x.log.recs.length)
theorem fetched {n : Int} {x : Md.Engine} {no : Int} (h : FOk n x) (h0 : 0 ≤ no) (h7 : no ≤ 7) : Fetched n x (fetchE x no) no := by
  unfold fetchE
  by_cases hs : 0 ≤ Md.seated x.pool no
  · rw [if_pos hs]
    have e := seated_used hs
    refine ⟨h.used no, by show 0 ≤ Md.seated (used x.pool no) no; omega, fun hk => ?_, rfl, rfl, rfl, rfl, rfl, Int.le_refl _, fun h => h⟩
    obtain ⟨hk1, hno⟩ := seated_spec hs
    have hk : (Md.seated (used x.pool no) no).toNat < (used x.pool no).seats.length := hk
    show (used x.pool no).seats[(Md.seated (used x.pool no) no).toNat].no = no ∧ (used x.pool no).seats[(Md.seated (used x.pool no) no).toNat].hot = true
    simp only [e]
    have e2 : used x.pool no = ⟨x.pool.seats.modify (Md.seated x.pool no).toNat fun s => { s with hot := true }, x.pool.hand⟩ := if_pos hs
    simp only [e2, List.getElem_modify_eq]
    exact ⟨hno, trivial⟩
  · rw [if_neg hs]
    obtain ⟨hl, hd, hy, hyl⟩ := h.page h0 h7
    have b := brought h.pool h0 h7 hy (by omega)
    have b1 := b.ok
    obtain ⟨k, hk, hsk, hnk⟩ := b.k
    have fp : FOk n { x with pool := (bringDo x.pool no (diskAt x no)).1 } := by
      refine ⟨b.ok, h.dl, h.dok, fun i hi => ?_⟩
      have hi : i < (bringDo x.pool no (diskAt x no)).1.seats.length := hi
      show (bringDo x.pool no (diskAt x no)).1.seats[i].p.lsn ≤ n
      rcases b.old i hi with e | ⟨j, hj, e⟩
      · rw [e]; exact hyl
      · rw [e]; exact h.pl j hj
    have hhot : ∀ (h : (Md.seated (bringDo x.pool no (diskAt x no)).1 no).toNat < (bringDo x.pool no (diskAt x no)).1.seats.length), (bringDo x.pool no (diskAt x no)).1.seats[(Md.seated (bringDo x.pool no (diskAt x no)).1 no).toNat].no = no ∧ (bringDo x.pool no (diskAt x no)).1.seats[(Md.seated (bringDo x.pool no (diskAt x no)).1 no).toNat].hot = true := fun h1 => by
      have : (Md.seated (bringDo x.pool no (diskAt x no)).1 no).toNat = k := by omega
      simp only [this, hnk, newSeat, and_self]
    unfold broughtE
    by_cases hdt : (bringDo x.pool no (diskAt x no)).2.2 = true ∧ (bringDo x.pool no (diskAt x no)).2.1.dirty = true
    · rw [if_pos hdt]
      obtain ⟨_, j, hj, hno, hpp⟩ := b.gone hdt.2
      have hjj := (poolOk_iff.1 h.pool).2.2.2.1 j hj
      refine ⟨⟨fp.pool, by show (List.set _ _ _).length = 8; rw [List.length_set]; exact h.dl, fun i hi => ?_, fp.pl⟩, by show 0 ≤ Md.seated (bringDo x.pool no (diskAt x no)).1 no; omega, hhot, rfl, rfl, rfl, rfl, rfl, by show x.log.sure ≤ max x.log.sure (min (bringDo x.pool no (diskAt x no)).2.1.p.lsn (x.log.recs.length : Int)); omega, fun h => by show max x.log.sure (min (bringDo x.pool no (diskAt x no)).2.1.p.lsn (x.log.recs.length : Int)) ≤ _; omega⟩
      have hi : i < (x.disk.set (bringDo x.pool no (diskAt x no)).2.1.no.toNat (bringDo x.pool no (diskAt x no)).2.1.p).length := hi
      show Md.pageOk (x.disk.set (bringDo x.pool no (diskAt x no)).2.1.no.toNat (bringDo x.pool no (diskAt x no)).2.1.p)[i] = true ∧ (x.disk.set (bringDo x.pool no (diskAt x no)).2.1.no.toNat (bringDo x.pool no (diskAt x no)).2.1.p)[i].lsn ≤ n
      rw [List.getElem_set]
      split
      · rw [hpp]; exact ⟨hjj.2.2, h.pl j hj⟩
      · exact h.dok i (by rw [List.length_set] at hi; exact hi)
    · rw [if_neg hdt]
      exact ⟨fp, by show 0 ≤ Md.seated (bringDo x.pool no (diskAt x no)).1 no; omega, hhot, rfl, rfl, rfl, rfl, rfl, Int.le_refl _, fun h => h⟩
abbrev engK : Kd := .agg [136, 2, 2, 1, 1, 1, 1]
structure EngF (q : Nat → D) (x : Md.Engine) : Prop where
  st : ∀ i, (q i).still
  q0 : IsA 8 17 IsPage (q 0) x.disk
  q1 : IsPool (q 1) x.pool
  q2 : IsLog (q 2) x.log
  q3 : IsL 3 IsLive (q 3) x.txs
  q4 : IsL 2 IsHold (q 4) x.holds
  q5 : q 5 = .lit (.int .i64 x.next)
  q6 : q 6 = .lit (.bool x.down)
theorem isEngine_f {q : Nat → D} {x : Md.Engine} (h : IsEngine (.node engK q) x) : EngF q x := by
  obtain ⟨q', e, hq, q0, q1, q2, q3, q4, q5, q6⟩ := h
  cases e
  exact ⟨hq, q0, q1, q2, q3, q4, q5, q6⟩
theorem EngF.is {q : Nat → D} {x : Md.Engine} (h : EngF q x) : IsEngine (.node engK q) x := ⟨q, rfl, h.st, h.q0, h.q1, h.q2, h.q3, h.q4, h.q5, h.q6⟩
theorem IsEngine.node {d : D} {x : Md.Engine} (h : IsEngine d x) : ∃ q, d = .node engK q ∧ EngF q x := by
  obtain ⟨q, rfl, hq, q0, q1, q2, q3, q4, q5, q6⟩ := h
  exact ⟨q, rfl, hq, q0, q1, q2, q3, q4, q5, q6⟩
section
variable {q : Nat → D} {x : Md.Engine} {r : D}
theorem EngF.disk (h : EngF q x) {l : List Md.Page} (hr : IsA 8 17 IsPage r l) : EngF (upd q 0 r) { x with disk := l } :=
  ⟨still_upd h.st hr.still, by rw [upd_same]; exact hr, by rw [upd_ne _ _ (by decide)]; exact h.q1, by rw [upd_ne _ _ (by decide)]; exact h.q2, by rw [upd_ne _ _ (by decide)]; exact h.q3, by rw [upd_ne _ _ (by decide)]; exact h.q4, by rw [upd_ne _ _ (by decide)]; exact h.q5, by rw [upd_ne _ _ (by decide)]; exact h.q6⟩
theorem EngF.pool (h : EngF q x) {l : Md.Pool} (hr : IsPool r l) : EngF (upd q 1 r) { x with pool := l } :=
  ⟨still_upd h.st hr.still, by rw [upd_ne _ _ (by decide)]; exact h.q0, by rw [upd_same]; exact hr, by rw [upd_ne _ _ (by decide)]; exact h.q2, by rw [upd_ne _ _ (by decide)]; exact h.q3, by rw [upd_ne _ _ (by decide)]; exact h.q4, by rw [upd_ne _ _ (by decide)]; exact h.q5, by rw [upd_ne _ _ (by decide)]; exact h.q6⟩
theorem EngF.log (h : EngF q x) {l : Md.Log} (hr : IsLog r l) : EngF (upd q 2 r) { x with log := l } :=
  ⟨still_upd h.st hr.still, by rw [upd_ne _ _ (by decide)]; exact h.q0, by rw [upd_ne _ _ (by decide)]; exact h.q1, by rw [upd_same]; exact hr, by rw [upd_ne _ _ (by decide)]; exact h.q3, by rw [upd_ne _ _ (by decide)]; exact h.q4, by rw [upd_ne _ _ (by decide)]; exact h.q5, by rw [upd_ne _ _ (by decide)]; exact h.q6⟩
theorem EngF.txs (h : EngF q x) {l : List Md.Live} (hr : IsL 3 IsLive r l) : EngF (upd q 3 r) { x with txs := l } :=
  ⟨still_upd h.st hr.still, by rw [upd_ne _ _ (by decide)]; exact h.q0, by rw [upd_ne _ _ (by decide)]; exact h.q1, by rw [upd_ne _ _ (by decide)]; exact h.q2, by rw [upd_same]; exact hr, by rw [upd_ne _ _ (by decide)]; exact h.q4, by rw [upd_ne _ _ (by decide)]; exact h.q5, by rw [upd_ne _ _ (by decide)]; exact h.q6⟩
theorem EngF.holds (h : EngF q x) {l : List Md.Hold} (hr : IsL 2 IsHold r l) : EngF (upd q 4 r) { x with holds := l } :=
  ⟨still_upd h.st hr.still, by rw [upd_ne _ _ (by decide)]; exact h.q0, by rw [upd_ne _ _ (by decide)]; exact h.q1, by rw [upd_ne _ _ (by decide)]; exact h.q2, by rw [upd_ne _ _ (by decide)]; exact h.q3, by rw [upd_same]; exact hr, by rw [upd_ne _ _ (by decide)]; exact h.q5, by rw [upd_ne _ _ (by decide)]; exact h.q6⟩
theorem EngF.next (h : EngF q x) {l : Int} (hr : r = .lit (.int .i64 l)) : EngF (upd q 5 r) { x with next := l } :=
  ⟨still_upd h.st (by rw [hr]; trivial), by rw [upd_ne _ _ (by decide)]; exact h.q0, by rw [upd_ne _ _ (by decide)]; exact h.q1, by rw [upd_ne _ _ (by decide)]; exact h.q2, by rw [upd_ne _ _ (by decide)]; exact h.q3, by rw [upd_ne _ _ (by decide)]; exact h.q4, by rw [upd_same]; exact hr, by rw [upd_ne _ _ (by decide)]; exact h.q6⟩
theorem EngF.down (h : EngF q x) {l : Bool} (hr : r = .lit (.bool l)) : EngF (upd q 6 r) { x with down := l } :=
  ⟨still_upd h.st (by rw [hr]; trivial), by rw [upd_ne _ _ (by decide)]; exact h.q0, by rw [upd_ne _ _ (by decide)]; exact h.q1, by rw [upd_ne _ _ (by decide)]; exact h.q2, by rw [upd_ne _ _ (by decide)]; exact h.q3, by rw [upd_ne _ _ (by decide)]; exact h.q4, by rw [upd_ne _ _ (by decide)]; exact h.q5, by rw [upd_same]; exact hr⟩
end
theorem rlsK_upd (k : Nat) (F : Relab) (f : Nat → D) (j : Nat) (x : D) : (fun i => rl k F (upd f j x i)) = upd (fun i => rl k F (f i)) j (rl k F x) := by
  funext i
  by_cases h : i = j
  · subst h; rw [upd_same, upd_same]
  · rw [upd_ne _ _ h, upd_ne _ _ h]
section
variable {q : Nat → D} {x : Md.Engine} (h : EngF q x)
include h
theorem EngF.all : (q 0).size = 136 ∧ (q 0).plain ∧ (q 0).isNode = some true ∧ (q 1).size = 2 ∧ (q 1).plain ∧ (q 1).isNode = some true ∧ (q 2).size = 2 ∧ (q 2).plain ∧ (q 2).isNode = some true ∧
    (q 3).size = 1 ∧ (q 3).plain ∧ (q 3).isNode = some false ∧ (∀ P T, lenT P T (q 3) = if (telem P T).isSome = true then some x.txs.length else none) ∧
    (q 4).size = 1 ∧ (q 4).plain ∧ (q 4).isNode = some false ∧ (∀ P T, lenT P T (q 4) = if (telem P T).isSome = true then some x.holds.length else none) ∧ q 5 = .lit (.int .i64 x.next) ∧ q 6 = .lit (.bool x.down) :=
  ⟨h.q0.size, h.q0.plain, h.q0.isNode, (shp_pool _ _ h.q1).1, (shp_pool _ _ h.q1).2.2.1, (shp_pool _ _ h.q1).2.1, (shp_log _ _ h.q2).1, (shp_log _ _ h.q2).2.2.1, (shp_log _ _ h.q2).2.1,
    h.q3.size, h.q3.plain, h.q3.isNode, h.q3.lenT, h.q4.size, h.q4.plain, h.q4.isNode, h.q4.lenT, h.q5, h.q6⟩
end
structure Eng (lo hi m : Nat) (d d' : D) (x : Md.Engine) : Prop where
  is : IsEngine d' x
  put : Put lo hi m d d'
theorem Put.tags {lo hi m : Nat} {d d' : D} (h : Put lo hi m d d') : d'.tags (fun b => b ∈ d.tl ∨ m ≤ b) := tags_of_tl (whole_data h.own.wh) h.sub
theorem Put.mono {lo lo' hi hi' m m' : Nat} {d d' : D} (h : Put lo hi m d d') (h1 : lo' ≤ lo) (h2 : hi ≤ hi') (h3 : m' ≤ m) : Put lo' hi' m' d d' := ⟨h.own.mono h1 h2, fun t ht => (h.sub t ht).imp id fun h => Nat.le_trans h3 h⟩
theorem Put.of {lo hi m : Nat} {d d' : D} (ho : Own lo hi d') (ht : d'.tags (fun b => b ∈ d.tl ∨ m ≤ b)) : Put lo hi m d d' := ⟨ho, tl_of_tags (whole_data ho.wh) ht⟩
theorem Eng.fin {Q : Nat → Nat → D → D → Prop} {lo hi m : Nat} {d d' r : D} {x : Md.Engine} (h : Eng lo hi m d d' x) (hq : Q m hi d' r) (hr : r.tags (fun b => b ∈ d.tl ∨ m ≤ b)) : BEnd Q d m hi d' r :=
  ⟨hq, (shp_engine _ _ h.is).2.2.1, h.put.tags, hr⟩
theorem Own.rep0 {lo hi : Nat} {k : Kd} {q : Nat → D} {i : Nat} {r : D} (h : Own lo hi (.node k q)) (hi' : i < k.cnt) (hr : r.tl = []) (hw : r.whole) : Own lo hi (.node k (upd q i r)) :=
  (Put.node (m := hi) h hi' ⟨⟨fun t ht => by rw [hr] at ht; simp at ht, by rw [hr]; simp, hw⟩, fun t ht => by rw [hr] at ht; simp at ht⟩ (Nat.le_refl _) (Nat.le_refl _)).own
theorem Put.step {lo hi m a b i : Nat} {d r : D} {k : Kd} {f : Nat → D} (P : Put lo hi m d (.node k f)) (hi' : i < k.cnt) (hr : Own a b r) (h1 : hi ≤ a) (h2 : hi ≤ b) (h3 : lo ≤ a) (h4 : m ≤ a) : Put lo b m d (.node k (upd f i r)) :=
  P.trans (Put.node P.own hi' (Put.new (d := f i) hr h3) h1 h2) h4
def zPoolD : D := .node (.agg [1, 1]) (nthD [.nil, .lit (.int .i64 0)])
theorem wh_zPool : zPoolD.whole := fun i hi => by
  have hi' : i < 2 := hi
  match i, hi' with
  | 0, _ => trivial
  | 1, _ => trivial
end Go.Proofs.YtncinhlaabdlaaaGreat.IM
end
