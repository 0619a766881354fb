/- Several of my texts in one module (merge.py). -/
import Derived.Test.YtpepddckmddbiaaB13
section
/- Contracts of the laws' functions over slots in a row. Printed by slots.py. -/
namespace Go.Proofs.Ytpepddckmddbiaa.IM
open Go Go.Proofs
set_option linter.unusedVariables false
set_option linter.unusedSimpArgs false
set_option maxHeartbeats 2000000
set_option maxRecDepth 20000

def mkSlots (k : Int) (l : List Md.Slot) : List Md.Slot := Md.mkL Md.mkSlotE Md.cSlotE k l
def cSlots (l : List Md.Slot) : Nat := Md.sumBy Md.cSlotE l
theorem cSlotE_eq (x : Md.Slot) : Md.cSlotE x = 2 + x.o.ints.length + x.o.refs.length := by unfold Md.cSlotE Md.szObj; omega
theorem markSlotS_p (d : D) (xs : List Md.Slot) (k : Int) (lo hi : Nat) (h : IsL 4 IsSlot d xs) (ho : Own lo hi d) (hk0 : 0 ≤ k) (hk1 : k + (cSlots xs : Nat) ≤ 4611686018427387904) :
    MCall Try.prog 110 d [.lit (.int .i64 k)] (.int .i64 (k + (cSlots xs : Nat))) (Mkd (IsL 4 IsSlot) (mkSlots k xs) d) := by
  rcases h with ⟨rfl, rfl⟩ | ⟨t, zb, f, rfl, hst, hsh, hf⟩
  · refine mcall_intro Try.func110 rfl (by decide) rfl (by decide) (by rw [Try.ntmps110]; simp) trivial fun w0 M n0 hW hS => ivc_sound ?_; simp -dsimp only [Try.f110, go_sem]
    refine iwp_forK 0 [0, 4] (fun i s => s 5 = .lit (.int .i64 i) ∧ s 1 = .lit (.int .i64 k)) 0 (Nat.zero_le _) ⟨by simp -dsimp only [go_sem]; rfl, by simp -dsimp only [go_sem]⟩ ?_
    rintro i n' s hi hn hk ⟨h5, h1⟩
    refine ivc_sound ?_
    simp -dsimp only [go_sem] at hk
    obtain rfl : i = 0 := by omega
    simp -dsimp only [go_sem, hk, h5, h1, Int.lt_irrefl, decide_false]
    exact ⟨by simp [cSlots, Md.sumBy], mkd_nil.fin⟩
  · obtain rfl : zb = true := ho.wh.1
    have hoN := ho.sl.1
    refine mcall_intro_sl Try.func110 rfl (by decide) rfl (by decide) (by rw [Try.ntmps110]; simp) trivial (own_free ho) trivial fun w0 M n0 g hW hS => ivc_sound ?_; simp -dsimp only [Try.f110, go_sem]
    have hlen : (mkSlots k xs).length = xs.length := Md.mkL_length _ _ _ _
    refine iwp_forR xs.length [0, 4] (fun i n' s R => s 5 = .lit (.int .i64 i) ∧ s 1 = .lit (.int .i64 (k + (Md.sumBy Md.cSlotE (xs.take i) : Nat))) ∧ ∃ fe, R = upd (fun _ => none) 1000 (some (g, t, .node (.arr xs.length 4) fe)) ∧ MFill IsSlot 4 (mkSlots k xs) f xs.length i fe) 0 (Nat.zero_le _)
      ⟨by simp -dsimp only [go_sem]; rfl, by simp -dsimp only [go_sem]; simp [Md.sumBy], _, rfl, MFill.start hst (fun j hj => by have q := shp_slot _ _ (hf j hj); exact ⟨q.2.2.1, q.1⟩) ho.wh.2⟩ ?_
    rintro i n' s R hile hn hk ⟨h5, h1, fe, rfl, hm⟩
    refine ivc_sound ?_
    simp -dsimp only [go_sem] at hk
    by_cases hlt : i < xs.length
    · have hw := i64_succ (i := i) (by omega)
      have hold : fe i = f i := hm.old i (Nat.le_refl _)
      have hrow : OwnN lo hi xs.length fe := hoN.of_tl hm.tl hm.wh
      have ht := Md.sumBy_take Md.cSlotE xs i hlt
      have hle := Md.sumBy_le Md.cSlotE xs (i + 1)
      have hcs : cSlots xs = Md.sumBy Md.cSlotE xs := rfl
      have hce := cSlotE_eq xs[i]
      have hf0 := hf i hlt
      have hget := Md.mkL_get Md.mkSlotE Md.cSlotE k xs i (by rw [show Md.mkL Md.mkSlotE Md.cSlotE k xs = mkSlots k xs from rfl, hlen]; exact hlt) hlt
      have hoi := hrow.own (i := i) hlt
      generalize hx : xs[i] = x at *
      generalize hmm : k + (Md.sumBy Md.cSlotE (xs.take i) : Nat) = m at *
      obtain ⟨a, hrf, has, a0, a1⟩ := hf0
      have hfe : fe i = _ := hold.trans hrf
      rw [hfe] at hoi
      obtain ⟨b, hb, hbs, b0, b1, b2⟩ := a1
      have o51 := hoi.node.own (i := 1) (by decide)
      rw [hb] at o51
      have oP1 := o51.node.own (i := 1) (by decide)
      have oP2 := o51.node.own (i := 2) (by decide)
      have a0 : a 0 = _ := a0
      have b0 : b 0 = _ := b0
      have w0 : IntKind.i64.wrap (m + 1) = m + 1 := (w64 (by omega) (by omega)).trans (by omega)
      have w1 : IntKind.i64.wrap (m + 1 + 1) = m + 2 := (w64 (by omega) (by omega)).trans (by omega)
      simp -dsimp only [go_sem, hk, h5, h1, hlt, hw, hfe, w0, w1, hb, a0, b0, b1.size, b1.isNode, b1.plain, b2.size, b2.isNode, b2.plain]
      have sB1 : Same _ (D.node (.agg [1, 1, 1]) (upd b 0 (.lit (.int .i64 (m + 1))))) := (Same.refl o51.wh hbs).lit (by rw [b0]; rfl)
      have sA1 : Same _ (D.node (.agg [1, 3]) (upd a 0 (.lit (.bool (Int.tmod m 3 == 0))))) := (Same.refl hoi.wh has).lit (by rw [a0]; rfl)
      have re1 : Same _ (D.node (.agg [1, 3]) (upd (upd a 0 (.lit (.bool (Int.tmod m 3 == 0)))) 1 (.node (.agg [1, 1, 1]) (upd b 0 (.lit (.int .i64 (m + 1))))))) := sA1.kid (by simp -dsimp only [go_sem, hb]; exact sB1)
      refine xcall_mk (markIntS_p _ _ (m + 2) lo hi b1 oP1 (by omega) (by omega)) (by simp -dsimp only [go_sem, hk, h5, h1, hlt, hw, hfe, w0, w1, hb, a0, b0, b1.size, b1.isNode, b1.plain, b2.size, b2.isNode, b2.plain]) b1.plain b1.still ⟨trivial, trivial⟩ (fun t' ht' => hS t' (in_row hm.tl (((((Deep.here _ .any).up (sB1.own o51) (i := 1) (by decide) (by simp -dsimp only [go_sem])).up (re1.own hoi) (i := 1) (by decide) rfl).up (own_node (k := .arr xs.length 4) (hrow.upd (i := i) (d' := (.node (.agg [1, 3]) (upd (upd a 0 (.lit (.bool (Int.tmod m 3 == 0)))) 1 (.node (.agg [1, 1, 1]) (upd b 0 (.lit (.int .i64 (m + 1)))))))) (by rw [hfe]; exact re1.tl) re1.wh)) (i := i) hlt (upd_same _ _ _)).w t' ht') (by rw [hfe]; exact re1.tl))) [0, 4, 5] (fun _ _ => .any) (fun E => upd (fun _ => none) 1000 (some (g, t, (.node (.arr xs.length 4) (upd (upd fe i (.node (.agg [1, 3]) (upd (upd a 0 (.lit (.bool (Int.tmod m 3 == 0)))) 1 (.node (.agg [1, 1, 1]) (upd b 0 (.lit (.int .i64 (m + 1)))))))) i (.node (.agg [1, 3]) (upd (upd (upd a 0 (.lit (.bool (Int.tmod m 3 == 0)))) 1 (.node (.agg [1, 1, 1]) (upd b 0 (.lit (.int .i64 (m + 1)))))) 1 (.node (.agg [1, 1, 1]) (upd (upd b 0 (.lit (.int .i64 (m + 1)))) 1 E))))))))) fun x1 n1 hn1 q1 =>
        ⟨by simp -dsimp only [go_sem, hk, h5, h1, hlt, hw, hfe, w0, w1, hb, a0, b0, b1.size, b1.isNode, b1.plain, b2.size, b2.isNode, b2.plain], carry_any, (CarR.none _ _ _).upd trivial ((((Deep.here _ _).up (sB1.own o51) (i := 1) (by decide) (by simp -dsimp only [go_sem])).up (re1.own hoi) (i := 1) (by decide) rfl).up (own_node (k := .arr xs.length 4) (hrow.upd (i := i) (d' := (.node (.agg [1, 3]) (upd (upd a 0 (.lit (.bool (Int.tmod m 3 == 0)))) 1 (.node (.agg [1, 1, 1]) (upd b 0 (.lit (.int .i64 (m + 1)))))))) (by rw [hfe]; exact re1.tl) re1.wh)) (i := i) hlt (upd_same _ _ _)).c, ?_⟩
      have p1 := q1.same q1.rel.still
      simp -dsimp only [go_sem, hk, h5, h1, hlt, hw, hfe, w0, w1, hb, a0, b0, b1.size, b1.isNode, b1.plain, b2.size, b2.isNode, b2.plain, q1.rel.size, q1.rel.isNode, q1.rel.plain]
      have sB2 : Same _ (D.node (.agg [1, 1, 1]) (upd (upd b 0 (.lit (.int .i64 (m + 1)))) 1 x1)) := sB1.kid (by simp -dsimp only [go_sem]; exact p1)
      have re2 : Same _ (D.node (.agg [1, 3]) (upd (upd a 0 (.lit (.bool (Int.tmod m 3 == 0)))) 1 (.node (.agg [1, 1, 1]) (upd (upd b 0 (.lit (.int .i64 (m + 1)))) 1 x1)))) := sA1.kid (by simp -dsimp only [go_sem, hb]; exact sB2)
      refine xcall_mk (markIntS_p _ _ (m + 2 + (x.o.ints.length : Nat)) lo hi b2 oP2 (by omega) (by omega)) (by simp -dsimp only [go_sem, hk, h5, h1, hlt, hw, hfe, w0, w1, hb, a0, b0, b1.size, b1.isNode, b1.plain, b2.size, b2.isNode, b2.plain, q1.rel.size, q1.rel.isNode, q1.rel.plain]) b2.plain b2.still ⟨trivial, trivial⟩ (fun t' ht' => hS t' (in_row hm.tl (((((Deep.here _ .any).up (sB2.own o51) (i := 2) (by decide) (by simp -dsimp only [go_sem])).up (re2.own hoi) (i := 1) (by decide) rfl).up (own_node (k := .arr xs.length 4) (hrow.upd (i := i) (d' := (.node (.agg [1, 3]) (upd (upd a 0 (.lit (.bool (Int.tmod m 3 == 0)))) 1 (.node (.agg [1, 1, 1]) (upd (upd b 0 (.lit (.int .i64 (m + 1)))) 1 x1))))) (by rw [hfe]; exact re2.tl) re2.wh)) (i := i) hlt (upd_same _ _ _)).w t' ht') (by rw [hfe]; exact re2.tl))) [0, 4, 5] (fun _ _ => .any) (fun E => upd (fun _ => none) 1000 (some (g, t, (.node (.arr xs.length 4) (upd (upd fe i (.node (.agg [1, 3]) (upd (upd a 0 (.lit (.bool (Int.tmod m 3 == 0)))) 1 (.node (.agg [1, 1, 1]) (upd (upd b 0 (.lit (.int .i64 (m + 1)))) 1 x1))))) i (.node (.agg [1, 3]) (upd (upd (upd a 0 (.lit (.bool (Int.tmod m 3 == 0)))) 1 (.node (.agg [1, 1, 1]) (upd (upd b 0 (.lit (.int .i64 (m + 1)))) 1 x1))) 1 (.node (.agg [1, 1, 1]) (upd (upd (upd b 0 (.lit (.int .i64 (m + 1)))) 1 x1) 2 E))))))))) fun x2 n2 hn2 q2 =>
        ⟨by simp -dsimp only [go_sem, hk, h5, h1, hlt, hw, hfe, w0, w1, hb, a0, b0, b1.size, b1.isNode, b1.plain, b2.size, b2.isNode, b2.plain, q1.rel.size, q1.rel.isNode, q1.rel.plain], carry_any, (CarR.none _ _ _).upd trivial ((((Deep.here _ _).up (sB2.own o51) (i := 2) (by decide) (by simp -dsimp only [go_sem])).up (re2.own hoi) (i := 1) (by decide) rfl).up (own_node (k := .arr xs.length 4) (hrow.upd (i := i) (d' := (.node (.agg [1, 3]) (upd (upd a 0 (.lit (.bool (Int.tmod m 3 == 0)))) 1 (.node (.agg [1, 1, 1]) (upd (upd b 0 (.lit (.int .i64 (m + 1)))) 1 x1))))) (by rw [hfe]; exact re2.tl) re2.wh)) (i := i) hlt (upd_same _ _ _)).c, ?_⟩
      have p2 := q2.same q2.rel.still
      simp -dsimp only [go_sem, hk, h5, h1, hlt, hw, hfe, w0, w1, hb, a0, b0, b1.size, b1.isNode, b1.plain, b2.size, b2.isNode, b2.plain, q1.rel.size, q1.rel.isNode, q1.rel.plain, q2.rel.size, q2.rel.isNode, q2.rel.plain]
      have sB3 : Same _ (D.node (.agg [1, 1, 1]) (upd (upd (upd b 0 (.lit (.int .i64 (m + 1)))) 1 x1) 2 x2)) := sB2.kid (by simp -dsimp only [go_sem]; exact p2)
      have re3 : Same _ (D.node (.agg [1, 3]) (upd (upd a 0 (.lit (.bool (Int.tmod m 3 == 0)))) 1 (.node (.agg [1, 1, 1]) (upd (upd (upd b 0 (.lit (.int .i64 (m + 1)))) 1 x1) 2 x2)))) := sA1.kid (by simp -dsimp only [go_sem, hb]; exact sB3)
      have hrel : IsSlot (D.node (.agg [1, 3]) (upd (upd a 0 (.lit (.bool (Int.tmod m 3 == 0)))) 1 (.node (.agg [1, 1, 1]) (upd (upd (upd b 0 (.lit (.int .i64 (m + 1)))) 1 x1) 2 x2)))) (mkSlots k xs)[i] := by
        rw [show (mkSlots k xs)[i] = _ from hget]
        exact ⟨_, rfl, re3.st, by simp -dsimp only [go_sem]; rfl, by simp -dsimp only [go_sem]; exact ⟨_, rfl, sB3.st, by simp -dsimp only [go_sem]; rfl, by simp -dsimp only [go_sem]; exact q1.rel, by simp -dsimp only [go_sem]; exact q2.rel⟩⟩
      have hn5' : n' ≤ n2 := by first | omega | (simp only at hn1 hn2; omega)
      exact into_r (by omega) (by simp -dsimp only [go_sem, hk]) ⟨by simp -dsimp only [go_sem], by simp -dsimp only [go_sem]; rw [ht, ← hmm, hce]; omega, _, rfl, hm.step shp_slot (by rw [hlen]; exact hlt) hrel (by rw [re3.tl, hrf]) re3.wh⟩
    · simp -dsimp only [go_sem, hk, h5, h1, hlt]
      have hmk := hm.mkd (t := t) hlen hlt hsh
      refine ⟨by rw [Md.sumBy_all Md.cSlotE xs i (by omega)]; rfl, ?_⟩
      rw [rls_still hm.st]
      exact hmk.fin
theorem heldSlotS_p (d : D) (xs : List Md.Slot) (k : Int) (h : IsL 4 IsSlot d (mkSlots k xs)) (hk0 : 0 ≤ k) (hk1 : k + (cSlots xs : Nat) ≤ 4611686018427387904) :
    PCall Try.prog 111 [d, .lit (.int .i64 k)] fun _ _ r => r = .lit (.int .i64 (k + (cSlots xs : Nat))) := by
  have hshort := h.short
  have hlen : (mkSlots k xs).length = xs.length := Md.mkL_length _ _ _ _
  rw [hlen] at hshort
  have hL0 := h.lenT
  rw [hlen] at hL0
  refine pcall_intro_v Try.func111 rfl (by decide) rfl (by decide) (by rw [Try.ntmps111]; simp) fun w0 M n0 => ivc_sound ?_; simp -dsimp only [Try.f111, go_sem, hL0]
  refine iwp_forK xs.length [0] (fun i s => s 5 = .lit (.int .i64 i) ∧ s 1 = .lit (.int .i64 (k + (Md.sumBy Md.cSlotE (xs.take i) : Nat)))) 0 (Nat.zero_le _) ⟨by simp -dsimp only [go_sem]; rfl, by simp -dsimp only [go_sem]; simp [Md.sumBy]⟩ ?_
  rintro i n' s hile hn hk ⟨h5, h1⟩
  refine ivc_sound ?_
  simp -dsimp only [go_sem] at hk
  by_cases hlt : i < xs.length
  · obtain ⟨t, zb, fi, hd, hst, hf⟩ := h.sl (i := i) (by rw [hlen]; exact hlt)
    rw [hlen] at hd
    have hlT := hL0
    rw [hd] at hlT
    have hf0 := hf i (by rw [hlen]; exact hlt)
    have hw := i64_succ (i := i) (by omega)
    have ht := Md.sumBy_take Md.cSlotE xs i hlt
    have hle := Md.sumBy_le Md.cSlotE xs (i + 1)
    have hcs : cSlots xs = Md.sumBy Md.cSlotE xs := rfl
    have hce := cSlotE_eq xs[i]
    have hget := Md.mkL_get Md.mkSlotE Md.cSlotE k xs i (by rw [show Md.mkL Md.mkSlotE Md.cSlotE k xs = mkSlots k xs from rfl, hlen]; exact hlt) hlt
    rw [show (mkSlots k xs)[i] = _ from hget] at hf0
    clear hget
    generalize hx : xs[i] = x at *
    generalize hmm : k + (Md.sumBy Md.cSlotE (xs.take i) : Nat) = m at *
    obtain ⟨a, ha, has, a0, a1⟩ := hf0
    obtain ⟨b, hb, hbs, b0, b1, b2⟩ := a1
    have a0 : a 0 = (.lit (.bool (Int.tmod m 3 == 0))) := a0
    have b0 : b 0 = (.lit (.int .i64 (m + 1))) := b0
    have w0 : IntKind.i64.wrap (m + 1) = m + 1 := (w64 (by omega) (by omega)).trans (by omega)
    have w1 : IntKind.i64.wrap (m + 1 + 1) = m + 2 := (w64 (by omega) (by omega)).trans (by omega)
    simp -dsimp only [go_sem, hk, h5, h1, hlt, hlT, hd, hw, w0, w1, ha, hb, a0, b0, b1.size, b1.isNode, b1.plain, b2.size, b2.isNode, b2.plain, bne_self_eq_false, Bool.not_true, Bool.not_false, Bool.false_eq_true, Bool.true_eq_false, false_imp_iff, true_and, and_true, forall_const, reduceCtorEq]
    refine xcall_v (heldIntS_p _ (Md.mkInts (m + 2) x.o.ints.length) (m + 2) b1 (fun i hi => Md.mkInts_get _ _ i hi) (by omega) (by rw [Md.mkInts_length]; omega)) (by simp -dsimp only [go_sem, rl_still, b1.still, hk, h5, h1, hlt, hlT, hd, hw, w0, w1, ha, hb, a0, b0, b1.size, b1.isNode, b1.plain, b2.size, b2.isNode, b2.plain, bne_self_eq_false, Bool.not_true, Bool.not_false, Bool.false_eq_true, Bool.true_eq_false, false_imp_iff, true_and, and_true, forall_const, reduceCtorEq]) (fun _ => trivial) fun n0 hn0 => ?_
    have g0 : ¬ (m + 2 + (x.o.ints.length : Nat) < 0) := by omega
    simp -dsimp only [go_sem, hk, h5, h1, hlt, hlT, hd, hw, w0, w1, ha, hb, a0, b0, b1.size, b1.isNode, b1.plain, b2.size, b2.isNode, b2.plain, bne_self_eq_false, Bool.not_true, Bool.not_false, Bool.false_eq_true, Bool.true_eq_false, false_imp_iff, true_and, and_true, forall_const, reduceCtorEq, g0, Md.mkInts_length, Nat.one_mul, decide_false]
    refine xcall_v (heldIntS_p _ (Md.mkInts (m + 2 + (x.o.ints.length : Nat)) x.o.refs.length) (m + 2 + (x.o.ints.length : Nat)) b2 (fun i hi => Md.mkInts_get _ _ i hi) (by omega) (by rw [Md.mkInts_length]; omega)) (by simp -dsimp only [go_sem, rl_still, b2.still, hk, h5, h1, hlt, hlT, hd, hw, w0, w1, ha, hb, a0, b0, b1.size, b1.isNode, b1.plain, b2.size, b2.isNode, b2.plain, bne_self_eq_false, Bool.not_true, Bool.not_false, Bool.false_eq_true, Bool.true_eq_false, false_imp_iff, true_and, and_true, forall_const, reduceCtorEq, g0, Md.mkInts_length, Nat.one_mul, decide_false]) (fun _ => trivial) fun n1 hn1 => ?_
    have g1 : ¬ (m + 2 + (x.o.ints.length : Nat) + (x.o.refs.length : Nat) < 0) := by omega
    simp -dsimp only [go_sem, hk, h5, h1, hlt, hlT, hd, hw, w0, w1, ha, hb, a0, b0, b1.size, b1.isNode, b1.plain, b2.size, b2.isNode, b2.plain, bne_self_eq_false, Bool.not_true, Bool.not_false, Bool.false_eq_true, Bool.true_eq_false, false_imp_iff, true_and, and_true, forall_const, reduceCtorEq, g0, Md.mkInts_length, Nat.one_mul, decide_false, g1, Md.mkInts_length, Nat.one_mul, decide_false]
    have hn5' : n' ≤ n1 := by first | omega | (simp only at hn0 hn1; omega)
    exact into_k (by omega) (by simp -dsimp only [go_sem, hk, hd]) ⟨by simp -dsimp only [go_sem], by simp -dsimp only [go_sem]; rw [ht, ← hmm, hce]; omega⟩
  · simp -dsimp only [go_sem, hk, h5, h1, hlt, hL0]
    rw [Md.sumBy_all Md.cSlotE xs i (by omega)]; rfl
end Go.Proofs.Ytpepddckmddbiaa.IM
end

section
/- Contracts: Committed. Printed by committed.py. -/
namespace Go.Proofs.Ytpepddckmddbiaa.IM
open Go Go.Proofs
set_option linter.unusedVariables false
set_option linter.unusedSimpArgs false
set_option maxHeartbeats 2000000
set_option maxRecDepth 20000

attribute [go_sem] Int.reduceToNat
def isDone (r : Md.Rec) (j : Int) : Bool := r.kind == 2 && (Md.inB r.tx 1 1000 && r.tx == j)
def doneB (rs : List Md.Rec) (j : Int) : Bool := rs.any fun r => isDone r j
def takes (rs : List Md.Rec) (r : Md.Rec) : Bool := r.kind == 1 && (Md.inB r.tx 1 1000 && (doneB rs r.tx && Md.inB r.oid 1 31))
def comStep (rs : List Md.Rec) (l : List Md.Slot) (r : Md.Rec) : List Md.Slot := if takes rs r then l.set r.oid.toNat r.after else l
def comUpto (rs : List Md.Rec) (i : Nat) : List Md.Slot := (rs.take i).foldl (comStep rs) (List.replicate 32 Md.zSlot)
def committed (x : Md.Log) : List Md.Slot := comUpto x.recs x.recs.length
theorem doneB_succ (rs : List Md.Rec) (i : Nat) (h : i < rs.length) (j : Int) : doneB (rs.take (i + 1)) j = (doneB (rs.take i) j || isDone rs[i] j) := by
  unfold doneB
  rw [List.take_succ_eq_append_getElem h, List.any_append]
  simp
theorem comUpto_succ (rs : List Md.Rec) (i : Nat) (h : i < rs.length) : comUpto rs (i + 1) = comStep rs (comUpto rs i) rs[i] := by
  unfold comUpto
  rw [List.take_succ_eq_append_getElem h, List.foldl_append]
  rfl
theorem comFold_len (rs : List Md.Rec) : ∀ (l : List Md.Rec) (z : List Md.Slot), (l.foldl (comStep rs) z).length = z.length
  | [], z => rfl
  | r :: l, z => by
    rw [List.foldl_cons, comFold_len rs l]
    unfold comStep
    split
    · exact List.length_set ..
    · rfl
theorem comUpto_len (rs : List Md.Rec) (i : Nat) : (comUpto rs i).length = 32 := by unfold comUpto; rw [comFold_len]; rfl
abbrev zSl : D := (.node (.agg [1, 3]) (nthD [.lit (.bool false), .node (.agg [1, 1, 1]) (nthD [.lit (.int .i64 0), .nil, .nil])]))
theorem zSl_is : IsSlot zSl Md.zSlot := ⟨_, rfl, stN (by simp only [stillL_nil, stillL_cons, still_lit, still_nil, still_any, still_nodeN, still_nodeC, and_self]), rfl, _, rfl, stN (by simp only [stillL_nil, stillL_cons, still_lit, still_nil, still_any, still_nodeN, still_nodeC, and_self]), rfl, .inl ⟨rfl, rfl⟩, .inl ⟨rfl, rfl⟩⟩
theorem zSl_tl : zSl.tl = [] := rfl
theorem zSl_wh1 : (D.node (.agg [1, 1, 1]) (nthD [.lit (.int .i64 0), .nil, .nil])).whole := fun i hi => by
  have hi' : i < 3 := hi
  match i, hi' with
  | 0, _ => trivial
  | 1, _ => trivial
  | 2, _ => trivial
theorem zSl_wh : zSl.whole := fun i hi => by
  have hi' : i < 2 := hi
  match i, hi' with
  | 0, _ => trivial
  | 1, _ => exact zSl_wh1
theorem zSl_free1 {t : Nat} : (D.node (.agg [1, 1, 1]) (nthD [.lit (.int .i64 0), .nil, .nil])).free t := fun i hi => by
  have hi' : i < 3 := hi
  match i, hi' with
  | 0, _ => trivial
  | 1, _ => trivial
  | 2, _ => trivial
theorem zSl_free {t : Nat} : zSl.free t := fun i hi => by
  have hi' : i < 2 := hi
  match i, hi' with
  | 0, _ => trivial
  | 1, _ => exact zSl_free1
/-- the slots that are gathered -/
structure ComF (lo hi : Nat) (l : List Md.Slot) (f : Nat → D) : Prop where
  len : l.length = 32
  st : ∀ j, (f j).still
  ok : ∀ j (h : j < l.length), IsSlot (f j) l[j]
  own : OwnN lo hi 32 f
theorem ComF.start (lo hi : Nat) : ComF lo hi (List.replicate 32 Md.zSlot) (fun _ => zSl) :=
  ⟨rfl, fun _ => zSl_is.still, fun j h => by rw [List.getElem_replicate]; exact zSl_is, ownN_plain fun _ _ => ⟨zSl_tl, zSl_wh⟩⟩
theorem ComF.set {lo hi a b k : Nat} {l : List Md.Slot} {f : Nat → D} {r : D} {s : Md.Slot} (h : ComF lo hi l f) (hr : IsSlot r s) (ho : Own a b r) (h1 : lo ≤ a) (h2 : hi ≤ a) (h3 : hi ≤ b) : ComF lo b (l.set k s) (upd f k r) := by
  refine ⟨by rw [List.length_set]; exact h.len, still_upd h.st hr.still, fun j hj => ?_, h.own.repl ho h1 h2 h3⟩
  rw [List.getElem_set]
  by_cases hjk : k = j
  · subst hjk; rw [upd_same, if_pos rfl]; exact hr
  · rw [upd_ne _ _ (fun e => hjk e.symm), if_neg hjk]; exact h.ok j (by rwa [List.length_set] at hj)
theorem ComF.mono {lo hi hi' : Nat} {l : List Md.Slot} {f : Nat → D} (h : ComF lo hi l f) (hh : hi ≤ hi') : ComF lo hi' l f := ⟨h.len, h.st, h.ok, h.own.mono (Nat.le_refl _) hh⟩
theorem ComF.fin {lo hi n0 n1 b : Nat} {l : List Md.Slot} {f : Nat → D} (h : ComF lo hi l f) (h1 : n0 ≤ b) (h2 : b < n1) (h3 : b < lo) (h4 : hi ≤ n1) : IsL 4 IsSlot (.sl b true 32 4 f) l ∧ Own n0 n1 (.sl b true 32 4 f) := by
  have e := h.len
  refine ⟨.inr ⟨b, true, f, by rw [e], h.st, by omega, h.ok⟩, own_sl (h.own.mono (by omega) h4) h1 h2 fun i hi hx => by have := h.own.rg i hi b hx; omega⟩
theorem drop0 {R : Roots} {a : Nat} {x : Option (Nat × Nat × D)} (h : R a = none) (j : Nat) : R j = (upd R a x) j ∨ R j = none := by
  by_cases hj : j = a
  · subst hj; exact .inr h
  · rw [upd_ne _ _ hj]; exact .inl rfl
theorem done_same {rs : List Md.Rec} {i : Nat} {g : Nat → D} (h : i < rs.length) (hg : ∀ j : Nat, j < 1001 → g j = .lit (.bool (doneB (rs.take i) j))) (hn : ∀ j : Nat, isDone rs[i] j = false) : ∀ j : Nat, j < 1001 → g j = .lit (.bool (doneB (rs.take (i + 1)) j)) := fun j hj => by
  rw [hg j hj, doneB_succ rs i h, hn, Bool.or_false]
theorem done_put {rs : List Md.Rec} {i : Nat} {g : Nat → D} (h : i < rs.length) (hg : ∀ j : Nat, j < 1001 → g j = .lit (.bool (doneB (rs.take i) j))) (hk : (rs[i].kind == 2) = true) (ht : Md.inB rs[i].tx 1 1000 = true) : ∀ j : Nat, j < 1001 → upd g rs[i].tx.toNat (.lit (.bool true)) j = .lit (.bool (doneB (rs.take (i + 1)) j)) := fun j hj => by
  have hr := (inB_iff _ _ _).1 ht
  rw [doneB_succ rs i h]
  by_cases hjt : j = rs[i].tx.toNat
  · have : isDone rs[i] j = true := by unfold isDone; rw [hk, ht, show (rs[i].tx == (j : Int)) = true from beq_iff_eq.2 (by omega)]; rfl
    rw [this, Bool.or_true, hjt, upd_same]
  · have : isDone rs[i] j = false := by unfold isDone; rw [show (rs[i].tx == (j : Int)) = false from beq_eq_false_iff_ne.2 (by omega)]; simp
    rw [this, Bool.or_false, upd_ne _ _ hjt]; exact hg j hj
theorem specCommitted_p (d : D) (x : Md.Log) (h : IsLog d x) (hs : Md.szLog x ≤ 1048576) : PCall Try.prog 107 [d] fun n0 n1 r => One (fun r => IsL 4 IsSlot r (committed x) ∧ Own n0 n1 r) r := by
  obtain ⟨e, rfl, hst, k0, k1⟩ := h
  have k1 : e 1 = _ := k1
  have hs' : x.recs.length ≤ 1048576 := by unfold Md.szLog Md.szRecs at hs; omega
  have hmem : ∀ i (h : i < x.recs.length), Md.szRec x.recs[i] ≤ 1048576 := fun i h => by have := Md.sumBy_mem Md.szRec x.recs _ (List.getElem_mem h); unfold Md.szLog Md.szRecs at hs; omega
  refine pcall_intro Try.func107 rfl (by decide) rfl (by decide) (by rw [Try.ntmps107]; simp) fun w0 M n0 hW => ivc_sound ?_; simp -dsimp only [Try.f107, go_sem, k1, k0.lenT, k0.size, k0.isNode, k0.plain]
  intro g1 b1 hb1
  refine ⟨by decide, by decide, by decide, by decide, fun g8 b8 hb8 => ?_⟩
  refine ⟨by decide, by decide, by decide, by decide, fun g9 b9 hb9 => ?_⟩
  refine iwp_forR x.recs.length [1, 2, 3, 4] (fun i n' s R => s 5 = .lit (.int .i64 i) ∧ ∃ g : Nat → D, R = upd (upd (upd (fun _ => none) 1 (some (g1, b1, .node (.agg [1, 1]) e))) 8 (some (g8, b8, .node (.arr 32 4) (fun _ => zSl)))) 9 (some (g9, b9, .node (.arr 1001 1) g)) ∧ ∀ j : Nat, j < 1001 → g j = .lit (.bool (doneB (x.recs.take i) j))) 0 (Nat.zero_le _) ⟨by simp -dsimp only [go_sem]; rfl, (fun _ => .lit (.bool false)), by first | rfl | (simp -dsimp only [go_sem]; done) | (simp -dsimp only [go_sem]; rfl), fun j hj => by simp [doneB]⟩ ?_
  rintro i n' s R hile hn hk ⟨h5, g, rfl, hg⟩
  refine ivc_sound ?_
  simp -dsimp only [go_sem] at hk
  by_cases hlt : i < x.recs.length
  · obtain ⟨t, zb, fi, hfe, hst', hf'⟩ := k0.sl hlt
    have hfi := hf' i hlt
    have hri := shp_rec _ _ hfi
    obtain ⟨rf, hrf, hrs, r0, r1, r2, r3, r4, r5, r6, r7, r8⟩ := hfi
    have r1 : rf 1 = _ := r1
    have r3 : rf 3 = _ := r3
    have hw := i64_succ (i := i) (by omega)
    have hl0 := k0.lenT
    rw [hfe] at hl0
    rw [hrf] at hri
    rcases Bool.eq_false_or_eq_true (x.recs[i].kind == 2) with hk2 | hk2
    · simp -dsimp only [go_sem, hk2, hk, h5, hlt, hw, hfe, hl0, hrf, r1, r3, hri.1, hri.2.1, hri.2.2.1]
      refine xcall_v (l1In_p x.recs[i].tx 1 1000) (by simp -dsimp only [go_sem, rl_still]) (fun _ => trivial) fun n4 hn4 => ?_
      have hn4' : n' ≤ n4 := hn4
      rcases Bool.eq_false_or_eq_true (Md.inB x.recs[i].tx 1 1000) with htx | htx
      · have hr := (inB_iff _ _ _).1 htx
        have q0 : 0 ≤ x.recs[i].tx := by omega
        have q1 : x.recs[i].tx < ((1001 : Nat) : Int) := by omega
        have q2 : x.recs[i].tx.toNat < 1001 := by omega
        have q3 := hg x.recs[i].tx.toNat q2
        simp -dsimp only [go_sem, hk2, htx, q0, q1, q2, q3, hk, h5, hlt, hw, hfe, hl0, hrf, r1, r3, hri.1, hri.2.1, hri.2.2.1]
        exact into_r (by omega) (by simp -dsimp only [go_sem, hk, hfe]) ⟨by simp -dsimp only [go_sem], (upd g x.recs[i].tx.toNat (.lit (.bool true))), by first | rfl | (simp -dsimp only [go_sem]; done) | (simp -dsimp only [go_sem]; rfl), done_put hlt hg hk2 htx⟩
      · simp -dsimp only [go_sem, hk2, htx, hk, h5, hlt, hw, hfe, hl0, hrf, r1, r3, hri.1, hri.2.1, hri.2.2.1]
        exact into_r (by omega) (by simp -dsimp only [go_sem, hk, hfe]) ⟨by simp -dsimp only [go_sem], g, by first | rfl | (simp -dsimp only [go_sem]; done) | (simp -dsimp only [go_sem]; rfl), done_same hlt hg fun j => by unfold isDone; rw [htx]; simp⟩
    · simp -dsimp only [go_sem, hk2, hk, h5, hlt, hw, hfe, hl0, hrf, r1, r3, hri.1, hri.2.1, hri.2.2.1]
      exact into_r (by omega) (by simp -dsimp only [go_sem, hk, hfe]) ⟨by simp -dsimp only [go_sem], g, by first | rfl | (simp -dsimp only [go_sem]; done) | (simp -dsimp only [go_sem]; rfl), done_same hlt hg fun j => by unfold isDone; rw [hk2]; rfl⟩
  · have hdone : ∀ j : Nat, j < 1001 → g j = .lit (.bool (doneB x.recs j)) := fun j hj => by rw [hg j hj, List.take_of_length_le (by omega)]
    simp -dsimp only [go_sem, hk, h5, hlt, k0.lenT, k0.size, k0.isNode, k0.plain]
    refine iwp_forR x.recs.length [1, 2, 3, 4] (fun i n' s R => s 6 = .lit (.int .i64 i) ∧ ∃ f : Nat → D, R = upd (upd (upd (fun _ => none) 1 (some (g1, b1, .node (.agg [1, 1]) e))) 8 (some (g8, b8, .node (.arr 32 4) f))) 9 (some (g9, b9, .node (.arr 1001 1) g)) ∧ ComF (b8 + 1) n' (comUpto x.recs i) f) 0 (Nat.zero_le _) ?_ ?_
    · exact ⟨by simp -dsimp only [go_sem]; rfl, (fun _ => zSl), by first | rfl | (simp -dsimp only [go_sem]; done) | (simp -dsimp only [go_sem]; rfl), ComF.start _ _⟩
    have hkA := hk
    clear hk h5 hg hile
    rintro i n2 s R hile hn2 hk ⟨h5, f, rfl, hF⟩
    refine ivc_sound ?_
    simp -dsimp only [go_sem, hkA] at hk
    by_cases hlt : i < x.recs.length
    · obtain ⟨t, zb, fi, hfe, hst', hf'⟩ := k0.sl hlt
      have hfi := hf' i hlt
      have hri := shp_rec _ _ hfi
      obtain ⟨rf, hrf, hrs, r0, r1, r2, r3, r4, r5, r6, r7, r8⟩ := hfi
      have r1 : rf 1 = _ := r1
      have r3 : rf 3 = _ := r3
      have r4 : rf 4 = _ := r4
      have q6 := shp_slot _ _ r6
      have hsz6 : Md.szSlot x.recs[i].after ≤ 1048576 := by have := hmem i hlt; unfold Md.szRec at this; omega
      have hw := i64_succ (i := i) (by omega)
      have hl0 := k0.lenT
      rw [hfe] at hl0
      rw [hrf] at hri
      simp -dsimp only [go_sem, hk, h5, hlt, hw, hfe, hl0, hrf, r1, r3, r4, hri.1, hri.2.1, hri.2.2.1, q6.1, q6.2.1, q6.2.2.1]
      intro g7 b7 hb7
      have hno : takes x.recs x.recs[i] = false → comUpto x.recs (i + 1) = comUpto x.recs i := fun h => by rw [comUpto_succ _ _ hlt]; unfold comStep; rw [h]; rfl
      rcases Bool.eq_false_or_eq_true (x.recs[i].kind == 1) with hk2 | hk2
      · simp -dsimp only [go_sem, hk2, hk, h5, hlt, hw, hfe, hl0, hrf, r1, r3, r4, hri.1, hri.2.1, hri.2.2.1, q6.1, q6.2.1, q6.2.2.1]
        refine xcall_v (l1In_p x.recs[i].tx 1 1000) (by simp -dsimp only [go_sem, rl_still]) (fun _ => trivial) fun n4 hn4 => ?_
        have hn4' : b7 + 1 ≤ n4 := hn4
        rcases Bool.eq_false_or_eq_true (Md.inB x.recs[i].tx 1 1000) with htx | htx
        · have hr := (inB_iff _ _ _).1 htx
          have q0 : 0 ≤ x.recs[i].tx := by omega
          have q1 : x.recs[i].tx < ((1001 : Nat) : Int) := by omega
          have q2 : x.recs[i].tx.toNat < 1001 := by omega
          have q3 := hdone x.recs[i].tx.toNat q2
          rw [show ((x.recs[i].tx.toNat : Nat) : Int) = x.recs[i].tx from by omega] at q3
          rcases Bool.eq_false_or_eq_true (doneB x.recs x.recs[i].tx) with hdo | hdo
          all_goals rw [hdo] at q3
          · simp -dsimp only [go_sem, hk2, htx, q0, q1, q2, q3, hk, h5, hlt, hw, hfe, hl0, hrf, r1, r3, r4, hri.1, hri.2.1, hri.2.2.1, q6.1, q6.2.1, q6.2.2.1]
            refine xcall_v (l1In_p x.recs[i].oid 1 31) (by simp -dsimp only [go_sem, rl_still]) (fun _ => trivial) fun n5 hn5 => ?_
            have hn5' : n4 ≤ n5 := hn5
            rcases Bool.eq_false_or_eq_true (Md.inB x.recs[i].oid 1 31) with hoi | hoi
            · have hr2 := (inB_iff _ _ _).1 hoi
              have u0 : 0 ≤ x.recs[i].oid := by omega
              have u1 : x.recs[i].oid < ((32 : Nat) : Int) := by omega
              have u2 : x.recs[i].oid.toNat < 32 := by omega
              have hso := shp_slot _ _ (hF.ok x.recs[i].oid.toNat (by rw [hF.len]; exact u2))
              simp -dsimp only [go_sem, hk2, htx, q0, q1, q2, q3, hoi, u0, u1, u2, hso.1, hso.2.1, hso.2.2.1, hk, h5, hlt, hw, hfe, hl0, hrf, r1, r3, r4, hri.1, hri.2.1, hri.2.2.1, q6.1, q6.2.1, q6.2.2.1]
              refine iwp_plan [(0, true), (1, true), (2, true), (3, true), (4, true), (5, false), (6, true), (7, false)] [7] rfl (by decide +kernel) (by decide) [7] (by decide +kernel) ?_
              simp -dsimp only [go_sem, hk2, htx, q0, q1, q2, q3, hoi, u0, u1, u2, hso.1, hso.2.1, hso.2.2.1, hk, h5, hlt, hw, hfe, hl0, hrf, r1, r3, r4, hri.1, hri.2.1, hri.2.2.1, q6.1, q6.2.1, q6.2.2.1]
              refine xcall_p (l3CopySlot_p _ _ r6 hsz6) (by simp -dsimp only [go_sem, rl_still, q6.2.2.2]) fun m1 p1 z1 hm1 hp1 hz1 => ?_
              have hm1' : n5 ≤ m1 := hm1
              have zq := shp_slot _ _ hz1.1
              refine ⟨hz1.2.tags, ?_⟩
              simp -dsimp only [go_sem, zq.1, zq.2.1, zq.2.2.1, hk2, htx, q0, q1, q2, q3, hoi, u0, u1, u2, hso.1, hso.2.1, hso.2.2.1, hk, h5, hlt, hw, hfe, hl0, hrf, r1, r3, r4, hri.1, hri.2.1, hri.2.2.1, q6.1, q6.2.1, q6.2.2.1]
              have hyes : comUpto x.recs (i + 1) = (comUpto x.recs i).set x.recs[i].oid.toNat x.recs[i].after := by rw [comUpto_succ _ _ hlt]; unfold comStep takes; rw [hk2, htx, hdo, hoi]; rfl
              exact into_rd (R' := upd (upd (upd (fun _ => none) 1 (some (g1, b1, .node (.agg [1, 1]) e))) 8 (some (g8, b8, .node (.arr 32 4) (upd f x.recs[i].oid.toNat z1)))) 9 (some (g9, b9, .node (.arr 1001 1) g))) (drop0 (by simp -dsimp only [go_sem])) (by omega) (by simp -dsimp only [go_sem, hk, hfe, hkA]) ⟨by simp -dsimp only [go_sem], (upd f x.recs[i].oid.toNat z1), by first | rfl | (simp -dsimp only [go_sem]; done) | (simp -dsimp only [go_sem]; rfl), by rw [hyes]; exact hF.set hz1.1 hz1.2 (by omega) (by omega) (by omega)⟩
            · simp -dsimp only [go_sem, hk2, htx, q0, q1, q2, q3, hoi, hk, h5, hlt, hw, hfe, hl0, hrf, r1, r3, r4, hri.1, hri.2.1, hri.2.2.1, q6.1, q6.2.1, q6.2.2.1]
              exact into_rd (R' := upd (upd (upd (fun _ => none) 1 (some (g1, b1, .node (.agg [1, 1]) e))) 8 (some (g8, b8, .node (.arr 32 4) f))) 9 (some (g9, b9, .node (.arr 1001 1) g))) (drop0 (by simp -dsimp only [go_sem])) (by omega) (by simp -dsimp only [go_sem, hk, hfe, hkA]) ⟨by simp -dsimp only [go_sem], f, by first | rfl | (simp -dsimp only [go_sem]; done) | (simp -dsimp only [go_sem]; rfl), by rw [hno (by unfold takes; rw [hoi]; simp)]; exact hF.mono (by omega)⟩
          · simp -dsimp only [go_sem, hk2, htx, q0, q1, q2, q3, hk, h5, hlt, hw, hfe, hl0, hrf, r1, r3, r4, hri.1, hri.2.1, hri.2.2.1, q6.1, q6.2.1, q6.2.2.1]
            exact into_rd (R' := upd (upd (upd (fun _ => none) 1 (some (g1, b1, .node (.agg [1, 1]) e))) 8 (some (g8, b8, .node (.arr 32 4) f))) 9 (some (g9, b9, .node (.arr 1001 1) g))) (drop0 (by simp -dsimp only [go_sem])) (by omega) (by simp -dsimp only [go_sem, hk, hfe, hkA]) ⟨by simp -dsimp only [go_sem], f, by first | rfl | (simp -dsimp only [go_sem]; done) | (simp -dsimp only [go_sem]; rfl), by rw [hno (by unfold takes; rw [hdo]; simp)]; exact hF.mono (by omega)⟩
        · simp -dsimp only [go_sem, hk2, htx, hk, h5, hlt, hw, hfe, hl0, hrf, r1, r3, r4, hri.1, hri.2.1, hri.2.2.1, q6.1, q6.2.1, q6.2.2.1]
          exact into_rd (R' := upd (upd (upd (fun _ => none) 1 (some (g1, b1, .node (.agg [1, 1]) e))) 8 (some (g8, b8, .node (.arr 32 4) f))) 9 (some (g9, b9, .node (.arr 1001 1) g))) (drop0 (by simp -dsimp only [go_sem])) (by omega) (by simp -dsimp only [go_sem, hk, hfe, hkA]) ⟨by simp -dsimp only [go_sem], f, by first | rfl | (simp -dsimp only [go_sem]; done) | (simp -dsimp only [go_sem]; rfl), by rw [hno (by unfold takes; rw [htx]; simp)]; exact hF.mono (by omega)⟩
      · simp -dsimp only [go_sem, hk2, hk, h5, hlt, hw, hfe, hl0, hrf, r1, r3, r4, hri.1, hri.2.1, hri.2.2.1, q6.1, q6.2.1, q6.2.2.1]
        exact into_rd (R' := upd (upd (upd (fun _ => none) 1 (some (g1, b1, .node (.agg [1, 1]) e))) 8 (some (g8, b8, .node (.arr 32 4) f))) 9 (some (g9, b9, .node (.arr 1001 1) g))) (drop0 (by simp -dsimp only [go_sem])) (by omega) (by simp -dsimp only [go_sem, hk, hfe, hkA]) ⟨by simp -dsimp only [go_sem], f, by first | rfl | (simp -dsimp only [go_sem]; done) | (simp -dsimp only [go_sem]; rfl), by rw [hno (by unfold takes; rw [hk2]; simp)]; exact hF.mono (by omega)⟩
    · simp -dsimp only [go_sem, hk, h5, hlt, k0.lenT, k0.size, k0.isNode, k0.plain]
      intro n1 hn1 hfc
      have hn1' : n2 ≤ n1 := hn1
      have hi : i = x.recs.length := by omega
      subst hi
      rw [rls_still hF.st]
      exact .mk (hF.fin (by omega) (by omega) (Nat.lt_succ_self _) (by omega))
theorem noView_p : PCall Try.prog 212 [] fun n0 n1 r => ∃ b, n0 ≤ b ∧ b < n1 ∧ r = .sl b true 32 4 (fun _ => zSl) := by
  refine pcall_intro Try.func212 rfl (by decide) rfl (by decide) (by rw [Try.ntmps212]; simp) fun w0 M n0 hW => ivc_sound ?_; simp -dsimp only [Try.f212, go_sem]
  refine ⟨by decide, by decide, by decide, by decide, fun g b hb n1 hn1 hfc => ?_⟩
  refine ⟨b, by omega, by omega, ?_⟩
  rw [rls_still (fun _ => zSl_is.still)]
theorem committed_p (d : D) (x : Md.Log) (h : IsLog d x) (hs : Md.szLog x ≤ 1048576) (hd : d.data) : PCall Try.prog 108 [d] fun n0 n1 r => One (fun r => IsL 4 IsSlot r (committed x) ∧ Own n0 n1 r) r := by
  obtain ⟨e, rfl, hst, k0, k1⟩ := h
  have k1 : e 1 = _ := k1
  have hs' : x.recs.length ≤ 1048576 := by unfold Md.szLog Md.szRecs at hs; omega
  have hmem : ∀ i (h : i < x.recs.length), Md.szRec x.recs[i] ≤ 1048576 := fun i h => by have := Md.sumBy_mem Md.szRec x.recs _ (List.getElem_mem h); unfold Md.szLog Md.szRecs at hs; omega
  refine pcall_intro_t Try.func108 rfl (by decide) rfl (by decide) (by rw [Try.ntmps108]; simp) fun w0 M n0 hW hT => ivc_sound ?_; simp -dsimp only [Try.f108, go_sem, k1, k0.lenT, k0.size, k0.isNode, k0.plain]
  have dT : (D.node (.agg [1, 1]) e).tags (· < n0) := hT _ (by simp) hd
  intro g1 b1 hb1
  skip
  refine ⟨by decide, by decide, by decide, by decide, fun g9 b9 hb9 => ?_⟩
  refine iwp_forR x.recs.length [1, 2, 3, 11, 12] (fun i n' s R => s 13 = .lit (.int .i64 i) ∧ ∃ g : Nat → D, R = upd (upd (fun _ => none) 1 (some (g1, b1, .node (.agg [1, 1]) e))) 9 (some (g9, b9, .node (.arr 1001 1) g)) ∧ ∀ j : Nat, j < 1001 → g j = .lit (.bool (doneB (x.recs.take i) j))) 0 (Nat.zero_le _) ⟨by simp -dsimp only [go_sem]; rfl, (fun _ => .lit (.bool false)), by first | rfl | (simp -dsimp only [go_sem]; done) | (simp -dsimp only [go_sem]; rfl), fun j hj => by simp [doneB]⟩ ?_
  rintro i n' s R hile hn hk ⟨h5, g, rfl, hg⟩
  refine ivc_sound ?_
  simp -dsimp only [go_sem] at hk
  by_cases hlt : i < x.recs.length
  · obtain ⟨t, zb, fi, hfe, hst', hf'⟩ := k0.sl hlt
    have hfi := hf' i hlt
    have hri := shp_rec _ _ hfi
    obtain ⟨rf, hrf, hrs, r0, r1, r2, r3, r4, r5, r6, r7, r8⟩ := hfi
    have r1 : rf 1 = _ := r1
    have r3 : rf 3 = _ := r3
    have hw := i64_succ (i := i) (by omega)
    have hl0 := k0.lenT
    rw [hfe] at hl0
    rw [hrf] at hri
    simp -dsimp only [go_sem, hk, h5, hlt, hw, hfe, hl0, hrf, r1, r3, hri.1, hri.2.1, hri.2.2.1]
    intro g5 b5 hb5
    rcases Bool.eq_false_or_eq_true (x.recs[i].kind == 2) with hk2 | hk2
    · simp -dsimp only [go_sem, hk2, hk, h5, hlt, hw, hfe, hl0, hrf, r1, r3, hri.1, hri.2.1, hri.2.2.1]
      refine xcall_v (isTx_p x.recs[i].tx) (by simp -dsimp only [go_sem, rl_still]) (fun _ => trivial) fun n4 hn4 => ?_
      have hn4' : n' ≤ n4 := by have : b5 + 1 ≤ n4 := hn4; omega
      rcases Bool.eq_false_or_eq_true (Md.inB x.recs[i].tx 1 1000) with htx | htx
      · have hr := (inB_iff _ _ _).1 htx
        have q0 : 0 ≤ x.recs[i].tx := by omega
        have q1 : x.recs[i].tx < ((1001 : Nat) : Int) := by omega
        have q2 : x.recs[i].tx.toNat < 1001 := by omega
        have q3 := hg x.recs[i].tx.toNat q2
        simp -dsimp only [go_sem, hk2, htx, q0, q1, q2, q3, hk, h5, hlt, hw, hfe, hl0, hrf, r1, r3, hri.1, hri.2.1, hri.2.2.1]
        exact into_rd (R' := upd (upd (fun _ => none) 1 (some (g1, b1, .node (.agg [1, 1]) e))) 9 (some (g9, b9, .node (.arr 1001 1) (upd g x.recs[i].tx.toNat (.lit (.bool true)))))) (drop0 (by simp -dsimp only [go_sem])) (by omega) (by simp -dsimp only [go_sem, hk, hfe]) ⟨by simp -dsimp only [go_sem], (upd g x.recs[i].tx.toNat (.lit (.bool true))), by first | rfl | (simp -dsimp only [go_sem]; done) | (simp -dsimp only [go_sem]; rfl), done_put hlt hg hk2 htx⟩
      · simp -dsimp only [go_sem, hk2, htx, hk, h5, hlt, hw, hfe, hl0, hrf, r1, r3, hri.1, hri.2.1, hri.2.2.1]
        exact into_rd (R' := upd (upd (fun _ => none) 1 (some (g1, b1, .node (.agg [1, 1]) e))) 9 (some (g9, b9, .node (.arr 1001 1) g))) (drop0 (by simp -dsimp only [go_sem])) (by omega) (by simp -dsimp only [go_sem, hk, hfe]) ⟨by simp -dsimp only [go_sem], g, by first | rfl | (simp -dsimp only [go_sem]; done) | (simp -dsimp only [go_sem]; rfl), done_same hlt hg fun j => by unfold isDone; rw [htx]; simp⟩
    · simp -dsimp only [go_sem, hk2, hk, h5, hlt, hw, hfe, hl0, hrf, r1, r3, hri.1, hri.2.1, hri.2.2.1]
      exact into_rd (R' := upd (upd (fun _ => none) 1 (some (g1, b1, .node (.agg [1, 1]) e))) 9 (some (g9, b9, .node (.arr 1001 1) g))) (drop0 (by simp -dsimp only [go_sem])) (by omega) (by simp -dsimp only [go_sem, hk, hfe]) ⟨by simp -dsimp only [go_sem], g, by first | rfl | (simp -dsimp only [go_sem]; done) | (simp -dsimp only [go_sem]; rfl), done_same hlt hg fun j => by unfold isDone; rw [hk2]; rfl⟩
  · have hdone : ∀ j : Nat, j < 1001 → g j = .lit (.bool (doneB x.recs j)) := fun j hj => by rw [hg j hj, List.take_of_length_le (by omega)]
    simp -dsimp only [go_sem, hk, h5, hlt, k0.lenT, k0.size, k0.isNode, k0.plain]
    refine xcall_t noView_p (by simp -dsimp only [go_sem]) fun m0 p0 r0 hm0 hp0 hr0 => ?_
    obtain ⟨bo, hbo1, hbo2, rfl⟩ := hr0
    have hm0' : n' ≤ m0 := hm0
    have ht9 : b9 + 1 ≤ n' := hn
    refine ⟨?_, conv_sl (l := 1000) [1, 2, 3] (hW bo (by omega)) (by simp -dsimp only [go_sem]) (fun i hi => zSl_free) (fun j hj => ?_) (fun l' gx bx xx hx => ⟨hx, roots2 (A := .node (.agg [1, 1]) e) (B := .node (.arr 1001 1) g) ⟨trivial, ?_⟩ ⟨trivial, ?_⟩ _ _ _ _ hx⟩) fun g8 => ?_⟩
    · exact ⟨hbo1, fun i _ => tags_of_tl (whole_data zSl_wh) fun t ht => by rw [zSl_tl] at ht; cases ht⟩
    · simp only [List.mem_cons, List.not_mem_nil, or_false] at hj
      rcases hj with rfl | rfl | rfl
      · simp -dsimp only [go_sem, hk]
        first | trivial | exact (show (D.ptr 1 g1 0 []).free bo from trivial)
      · simp -dsimp only [go_sem, hk]
        first | trivial | exact (show D.nil.free bo from trivial)
      · simp -dsimp only [go_sem, hk]
        first | trivial | exact (show (D.msl 9 g9 0 [] 0 1001 1).free bo from trivial)
    · exact free_of_tags (m := n0) (by omega) dT
    · intro i hi
      rw [hg i hi]; trivial
    · simp -dsimp only [go_sem, hk, k0.lenT, k0.size, k0.isNode, k0.plain]
      refine iwp_forR x.recs.length [2, 3, 6, 32, 33] (fun i n' s R => s 34 = .lit (.int .i64 i) ∧ ∃ f : Nat → D, R = upd (upd (upd (fun _ => none) 1 (some (g1, b1, .node (.agg [1, 1]) e))) 9 (some (g9, b9, .node (.arr 1001 1) g))) 1000 (some (g8, bo, .node (.arr 32 4) f)) ∧ ComF (bo + 1) n' (comUpto x.recs i) f) 0 (Nat.zero_le _) ?_ ?_
      · exact ⟨by simp -dsimp only [go_sem]; rfl, (fun _ => zSl), by first | rfl | (simp -dsimp only [go_sem]; done) | (simp -dsimp only [go_sem]; rfl), ComF.start _ _⟩
      have hkA := hk
      clear hk h5 hg hile
      rintro i n2 s R hile hn2 hk ⟨h5, f, rfl, hF⟩
      refine ivc_sound ?_
      simp -dsimp only [go_sem, hkA] at hk
      by_cases hlt : i < x.recs.length
      · obtain ⟨t, zb, fi, hfe, hst', hf'⟩ := k0.sl hlt
        have hfi := hf' i hlt
        have hri := shp_rec _ _ hfi
        obtain ⟨rf, hrf, hrs, r0, r1, r2, r3, r4, r5, r6, r7, r8⟩ := hfi
        have r1 : rf 1 = _ := r1
        have r3 : rf 3 = _ := r3
        have r4 : rf 4 = _ := r4
        have q6 := shp_slot _ _ r6
        have hsz6 : Md.szSlot x.recs[i].after ≤ 1048576 := by have := hmem i hlt; unfold Md.szRec at this; omega
        have hw := i64_succ (i := i) (by omega)
        have hl0 := k0.lenT
        rw [hfe] at hl0
        rw [hrf] at hri
        simp -dsimp only [go_sem, hk, h5, hlt, hw, hfe, hl0, hrf, r1, r3, r4, hri.1, hri.2.1, hri.2.2.1, q6.1, q6.2.1, q6.2.2.1]
        intro g7 b7 hb7
        have hno : takes x.recs x.recs[i] = false → comUpto x.recs (i + 1) = comUpto x.recs i := fun h => by rw [comUpto_succ _ _ hlt]; unfold comStep; rw [h]; rfl
        rcases Bool.eq_false_or_eq_true (x.recs[i].kind == 1) with hk2 | hk2
        · simp -dsimp only [go_sem, hk2, hk, h5, hlt, hw, hfe, hl0, hrf, r1, r3, r4, hri.1, hri.2.1, hri.2.2.1, q6.1, q6.2.1, q6.2.2.1]
          refine xcall_v (isTx_p x.recs[i].tx) (by simp -dsimp only [go_sem, rl_still]) (fun _ => trivial) fun n4 hn4 => ?_
          have hn4' : b7 + 1 ≤ n4 := hn4
          rcases Bool.eq_false_or_eq_true (Md.inB x.recs[i].tx 1 1000) with htx | htx
          · have hr := (inB_iff _ _ _).1 htx
            have q0 : 0 ≤ x.recs[i].tx := by omega
            have q1 : x.recs[i].tx < ((1001 : Nat) : Int) := by omega
            have q2 : x.recs[i].tx.toNat < 1001 := by omega
            have q3 := hdone x.recs[i].tx.toNat q2
            rw [show ((x.recs[i].tx.toNat : Nat) : Int) = x.recs[i].tx from by omega] at q3
            rcases Bool.eq_false_or_eq_true (doneB x.recs x.recs[i].tx) with hdo | hdo
            all_goals rw [hdo] at q3
            · simp -dsimp only [go_sem, hk2, htx, q0, q1, q2, q3, hk, h5, hlt, hw, hfe, hl0, hrf, r1, r3, r4, hri.1, hri.2.1, hri.2.2.1, q6.1, q6.2.1, q6.2.2.1]
              refine xcall_v (isOid_p x.recs[i].oid) (by simp -dsimp only [go_sem, rl_still]) (fun _ => trivial) fun n5 hn5 => ?_
              have hn5' : n4 ≤ n5 := hn5
              rcases Bool.eq_false_or_eq_true (Md.inB x.recs[i].oid 1 31) with hoi | hoi
              · have hr2 := (inB_iff _ _ _).1 hoi
                have u0 : 0 ≤ x.recs[i].oid := by omega
                have u1 : x.recs[i].oid < ((32 : Nat) : Int) := by omega
                have u2 : x.recs[i].oid.toNat < 32 := by omega
                have hso := shp_slot _ _ (hF.ok x.recs[i].oid.toNat (by rw [hF.len]; exact u2))
                simp -dsimp only [go_sem, hk2, htx, q0, q1, q2, q3, hoi, u0, u1, u2, hso.1, hso.2.1, hso.2.2.1, hk, h5, hlt, hw, hfe, hl0, hrf, r1, r3, r4, hri.1, hri.2.1, hri.2.2.1, q6.1, q6.2.1, q6.2.2.1]
                refine iwp_plan [(0, true), (1, true), (2, true), (3, true), (4, true), (5, false), (6, true), (7, false)] [8] rfl (by decide +kernel) (by decide) [7] (by decide +kernel) ?_
                simp -dsimp only [go_sem, hk2, htx, q0, q1, q2, q3, hoi, u0, u1, u2, hso.1, hso.2.1, hso.2.2.1, hk, h5, hlt, hw, hfe, hl0, hrf, r1, r3, r4, hri.1, hri.2.1, hri.2.2.1, q6.1, q6.2.1, q6.2.2.1]
                refine xcall_p (cloneSlot_p _ _ r6 hsz6) (by simp -dsimp only [go_sem, rl_still, q6.2.2.2]) fun m1 p1 z1 hm1 hp1 hz1 => ?_
                have hm1' : n5 ≤ m1 := hm1
                have zq := shp_slot _ _ hz1.1
                refine ⟨hz1.2.tags, ?_⟩
                simp -dsimp only [go_sem, zq.1, zq.2.1, zq.2.2.1, hk2, htx, q0, q1, q2, q3, hoi, u0, u1, u2, hso.1, hso.2.1, hso.2.2.1, hk, h5, hlt, hw, hfe, hl0, hrf, r1, r3, r4, hri.1, hri.2.1, hri.2.2.1, q6.1, q6.2.1, q6.2.2.1]
                have hyes : comUpto x.recs (i + 1) = (comUpto x.recs i).set x.recs[i].oid.toNat x.recs[i].after := by rw [comUpto_succ _ _ hlt]; unfold comStep takes; rw [hk2, htx, hdo, hoi]; rfl
                exact into_rd (R' := upd (upd (upd (fun _ => none) 1 (some (g1, b1, .node (.agg [1, 1]) e))) 9 (some (g9, b9, .node (.arr 1001 1) g))) 1000 (some (g8, bo, .node (.arr 32 4) (upd f x.recs[i].oid.toNat z1)))) (drop0 (by simp -dsimp only [go_sem])) (by omega) (by simp -dsimp only [go_sem, hk, hfe, hkA]) ⟨by simp -dsimp only [go_sem], (upd f x.recs[i].oid.toNat z1), by first | rfl | (simp -dsimp only [go_sem]; done) | (simp -dsimp only [go_sem]; rfl), by rw [hyes]; exact hF.set hz1.1 hz1.2 (by omega) (by omega) (by omega)⟩
              · simp -dsimp only [go_sem, hk2, htx, q0, q1, q2, q3, hoi, hk, h5, hlt, hw, hfe, hl0, hrf, r1, r3, r4, hri.1, hri.2.1, hri.2.2.1, q6.1, q6.2.1, q6.2.2.1]
                exact into_rd (R' := upd (upd (upd (fun _ => none) 1 (some (g1, b1, .node (.agg [1, 1]) e))) 9 (some (g9, b9, .node (.arr 1001 1) g))) 1000 (some (g8, bo, .node (.arr 32 4) f))) (drop0 (by simp -dsimp only [go_sem])) (by omega) (by simp -dsimp only [go_sem, hk, hfe, hkA]) ⟨by simp -dsimp only [go_sem], f, by first | rfl | (simp -dsimp only [go_sem]; done) | (simp -dsimp only [go_sem]; rfl), by rw [hno (by unfold takes; rw [hoi]; simp)]; exact hF.mono (by omega)⟩
            · simp -dsimp only [go_sem, hk2, htx, q0, q1, q2, q3, hk, h5, hlt, hw, hfe, hl0, hrf, r1, r3, r4, hri.1, hri.2.1, hri.2.2.1, q6.1, q6.2.1, q6.2.2.1]
              exact into_rd (R' := upd (upd (upd (fun _ => none) 1 (some (g1, b1, .node (.agg [1, 1]) e))) 9 (some (g9, b9, .node (.arr 1001 1) g))) 1000 (some (g8, bo, .node (.arr 32 4) f))) (drop0 (by simp -dsimp only [go_sem])) (by omega) (by simp -dsimp only [go_sem, hk, hfe, hkA]) ⟨by simp -dsimp only [go_sem], f, by first | rfl | (simp -dsimp only [go_sem]; done) | (simp -dsimp only [go_sem]; rfl), by rw [hno (by unfold takes; rw [hdo]; simp)]; exact hF.mono (by omega)⟩
          · simp -dsimp only [go_sem, hk2, htx, hk, h5, hlt, hw, hfe, hl0, hrf, r1, r3, r4, hri.1, hri.2.1, hri.2.2.1, q6.1, q6.2.1, q6.2.2.1]
            exact into_rd (R' := upd (upd (upd (fun _ => none) 1 (some (g1, b1, .node (.agg [1, 1]) e))) 9 (some (g9, b9, .node (.arr 1001 1) g))) 1000 (some (g8, bo, .node (.arr 32 4) f))) (drop0 (by simp -dsimp only [go_sem])) (by omega) (by simp -dsimp only [go_sem, hk, hfe, hkA]) ⟨by simp -dsimp only [go_sem], f, by first | rfl | (simp -dsimp only [go_sem]; done) | (simp -dsimp only [go_sem]; rfl), by rw [hno (by unfold takes; rw [htx]; simp)]; exact hF.mono (by omega)⟩
        · simp -dsimp only [go_sem, hk2, hk, h5, hlt, hw, hfe, hl0, hrf, r1, r3, r4, hri.1, hri.2.1, hri.2.2.1, q6.1, q6.2.1, q6.2.2.1]
          exact into_rd (R' := upd (upd (upd (fun _ => none) 1 (some (g1, b1, .node (.agg [1, 1]) e))) 9 (some (g9, b9, .node (.arr 1001 1) g))) 1000 (some (g8, bo, .node (.arr 32 4) f))) (drop0 (by simp -dsimp only [go_sem])) (by omega) (by simp -dsimp only [go_sem, hk, hfe, hkA]) ⟨by simp -dsimp only [go_sem], f, by first | rfl | (simp -dsimp only [go_sem]; done) | (simp -dsimp only [go_sem]; rfl), by rw [hno (by unfold takes; rw [hk2]; simp)]; exact hF.mono (by omega)⟩
      · simp -dsimp only [go_sem, hk, h5, hlt, k0.lenT, k0.size, k0.isNode, k0.plain]
        intro n1 hn1 hfc
        have hn1' : n2 ≤ n1 := hn1
        have hi : i = x.recs.length := by omega
        subst hi
        rw [rls_still hF.st]
        exact .mk (hF.fin (by omega) (by omega) (Nat.lt_succ_self _) (by omega))
end Go.Proofs.Ytpepddckmddbiaa.IM
end

section
/- The law of Committed. Printed by laws_b.py. -/
namespace Go.Proofs.Ytpepddckmddbiaa.IM
open Go Go.Proofs
set_option linter.unusedVariables false
set_option linter.unusedSimpArgs false
set_option maxHeartbeats 2000000
set_option maxRecDepth 20000

theorem sumBy_mul {α : Type} (f : α → Nat) (B : Nat) : ∀ (l : List α), (∀ s ∈ l, f s ≤ B) → Md.sumBy f l ≤ l.length * B
  | [], _ => by simp [Md.sumBy]
  | a :: l, h => by
    have h1 := h a (by simp)
    have h2 := sumBy_mul f B l fun s hs => h s (by simp [hs])
    have h3 : Md.sumBy f (a :: l) = f a + Md.sumBy f l := by simp [Md.sumBy]
    rw [h3, List.length_cons, Nat.succ_mul]; omega
theorem comFold_mem (rs : List Md.Rec) (B : Nat) : ∀ (l : List Md.Rec) (z : List Md.Slot), (∀ r ∈ l, Md.cSlotE r.after ≤ B) → (∀ s ∈ z, Md.cSlotE s ≤ B) → ∀ s ∈ l.foldl (comStep rs) z, Md.cSlotE s ≤ B
  | [], z, _, hz => hz
  | r :: l, z, hl, hz => by
    rw [List.foldl_cons]
    refine comFold_mem rs B l _ (fun r hr => hl r (by simp [hr])) fun s hs => ?_
    unfold comStep at hs
    split at hs
    · rcases List.mem_or_eq_of_mem_set hs with h | h
      · exact hz s h
      · subst h; exact hl r (by simp)
    · exact hz s hs
theorem c_committed (x : Md.Log) (hs : Md.szLog x ≤ 1048576) : cSlots (committed x) ≤ 32 * 1048578 := by
  have h := sumBy_mul Md.cSlotE 1048578 (committed x) (comFold_mem x.recs _ _ _ (fun r hr => ?_) fun s hs => ?_)
  · rw [show (committed x).length = 32 from comUpto_len _ _] at h; exact h
  · have hr' := List.mem_of_mem_take hr
    have := Md.sumBy_mem Md.szRec x.recs r hr'
    unfold Md.szLog Md.szRecs at hs
    have h2 : Md.szRec r = Md.szSlot r.before + Md.szSlot r.after + r.txs.length := rfl
    have h3 : Md.szSlot r.after = Md.szObj r.after.o := rfl
    unfold Md.cSlotE; omega
  · rw [(List.mem_replicate.1 hs).2]; decide
theorem lawCommitted (d : D) (x : Md.Log) (h : IsLog d x) : PCall Try.prog 20 [d] fun _ _ r => r = .lit (.bool true) := by
  have e := shp_log _ _ h
  have e1 := e.1
  have e2 := e.2.1
  have e3 := e.2.2.1
  have e4 := e.2.2.2
  refine pcall_intro_vt Try.func20 rfl (by decide) rfl (by decide) (by rw [Try.ntmps20]; simp) fun w0 M n0 hW hT => ivc_sound ?_; simp -dsimp only [Try.f20, go_sem, e1, e2, e3]
  have dT : d.tags (· < n0) := hT d (by simp) h.data
  intro g1 b1 hb1
  refine xcall_v (szLog_p _ _ h 1048576 (by decide) (by decide)) (by simp -dsimp only [go_sem, rl_still, e4]) (fun _ => trivial) fun n1 hn1 => ?_
  simp -dsimp only [go_sem]
  intro hb
  have hs : Md.szLog x ≤ 1048576 := by
    have := Md.szR_le _ _ hb
    omega
  simp -dsimp only [go_sem, e1, e2, e3]
  refine xcall_p (toLog_p _ _ h hs) (by simp -dsimp only [go_sem, rl_still, e4]) fun rlo rhi r hrlo hrhi hr => ?_
  have ro := hr.2
  have ri := hr.1
  have rp := shp_log _ _ ri
  have rp1 := rp.1
  have rp2 := rp.2.1
  have rp3 := rp.2.2.1
  have rp4 := rp.2.2.2
  refine ⟨ro.tags, ?_⟩
  simp -dsimp only [go_sem, e1, e2, e3, rp1, rp2, rp3]
  refine xcall_p (specCommitted_p _ _ ri hs) (by simp -dsimp only [go_sem, rl_still, rp4]) fun vlo vhi v hvlo hvhi hvw => ?_
  have hv := hvw.out
  have vo := hv.2
  have vi := hv.1
  have vp1 := vi.size
  have vp2 := vi.isNode
  have vp3 := vi.plain
  have vp4 := vi.still
  refine ⟨vo.tags, ?_⟩
  simp -dsimp only [go_sem, e1, e2, e3, rp1, rp2, rp3, vp1, vp2, vp3]
  refine xcall_p (toLog_p _ _ h hs) (by simp -dsimp only [go_sem, rl_still, e4]) fun xvlo xvhi xv hxvlo hxvhi hxv => ?_
  have xvo := hxv.2
  have xvi := hxv.1
  have xvp := shp_log _ _ xvi
  have xvp1 := xvp.1
  have xvp2 := xvp.2.1
  have xvp3 := xvp.2.2.1
  have xvp4 := xvp.2.2.2
  refine ⟨xvo.tags, ?_⟩
  simp -dsimp only [go_sem, e1, e2, e3, vp1, vp2, vp3, xvp1, xvp2, xvp3]
  intro g12 b12 hb12
  refine xcall_p (committed_p _ _ xvi hs xvi.data) (by simp -dsimp only [go_sem, rl_still, xvp4]) fun ylo yhi y hylo hyhi hyw => ?_
  have hy := hyw.out
  have yo := hy.2
  have yi := hy.1
  have yp1 := yi.size
  have yp2 := yi.isNode
  have yp3 := yi.plain
  have yp4 := yi.still
  refine ⟨yo.tags, ?_⟩
  simp -dsimp only [go_sem, e1, e2, e3, vp1, vp2, vp3, xvp1, xvp2, xvp3, yp1, yp2, yp3]
  refine xcall_v (eqSlotS_p _ _ _ yi vi) (by simp -dsimp only [go_sem, rl_still, yp4, vp4]) (fun _ => trivial) fun n4 hn4 => ?_
  simp -dsimp only [go_sem, e1, e2, e3, vp1, vp2, vp3, xvp1, xvp2, xvp3, yp1, yp2, yp3, bne_self_eq_false, Bool.not_true, Bool.not_false, Bool.false_eq_true, Bool.true_eq_false, false_imp_iff, true_and, and_true, forall_const, reduceCtorEq]
  refine iwp_plan [(0, true), (1, true), (2, false), (3, false), (4, true)] [1, 5] rfl (by decide +kernel) (by decide) [] (by decide +kernel) ?_
  simp -dsimp only [go_sem, e1, e2, e3, vp1, vp2, vp3, xvp1, xvp2, xvp3, yp1, yp2, yp3]
  refine xcall_p (toLog_p _ _ h hs) (by simp -dsimp only [go_sem, rl_still, e4]) fun zlo zhi z hzlo hzhi hz => ?_
  have zo := hz.2
  have zi := hz.1
  have zp := shp_log _ _ zi
  have zp1 := zp.1
  have zp2 := zp.2.1
  have zp3 := zp.2.2.1
  have zp4 := zp.2.2.2
  refine ⟨zo.tags, ?_⟩
  simp -dsimp only [go_sem, e1, e2, e3, vp1, vp2, vp3, xvp1, xvp2, xvp3, yp1, yp2, yp3, zp1, zp2, zp3]
  refine xcall_v (eqLog_p _ _ _ xvi zi) (by simp -dsimp only [go_sem, rl_still, xvp4, zp4]) (fun _ => trivial) fun n4 hn4 => ?_
  simp -dsimp only [go_sem, e1, e2, e3, vp1, vp2, vp3, xvp1, xvp2, xvp3, yp1, yp2, yp3, zp1, zp2, zp3, bne_self_eq_false, Bool.not_true, Bool.not_false, Bool.false_eq_true, Bool.true_eq_false, false_imp_iff, true_and, and_true, forall_const, reduceCtorEq]
  have hcb : Md.cLog x ≤ 10 * Md.szLog x := cLog_le x
  have hz : cSlots (committed x) ≤ 32 * 1048578 := c_committed x hs
  have cfm14 : ∀ E, Carry xv E v v := fun E => carry_own xvo vo (.inr (by omega))
  have cfm16 : ∀ E, Carry xv E y y := fun E => carry_own xvo yo (.inl (by omega))
  refine xcall_mk (markLog_p xv x (1) _ _ xvi xvo (by decide) (by omega)) (by simp -dsimp only [go_sem, e1, e2, e3, vp1, vp2, vp3, xvp1, xvp2, xvp3, yp1, yp2, yp3]) xvp3 xvp4 ⟨trivial, trivial⟩ (fun t ht => hW t (by have := xvo.rg t ht; omega)) [7, 1, 5, 4, 6] (fun _ _ => .any) (fun E => upd (upd (fun _ => none) 1 (some (g1, b1, d))) 5 (some (g12, b12, E))) fun m1 nm1 hnm1 hm1 =>
      ⟨by simp -dsimp only [go_sem, e1, e2, e3, vp1, vp2, vp3, xvp1, xvp2, xvp3, yp1, yp2, yp3, cfm14, cfm16], carry_any, ((CarR.none _ _ _).upd e3 (carry_lo xvo (by omega) dT)).upd (shp_log _ _ hm1.rel).2.2.1 .here, ?_⟩
  have m1p := shp_log _ _ hm1.rel
  have m1p1 := m1p.1
  have m1p2 := m1p.2.1
  have m1p3 := m1p.2.2.1
  have m1p4 := m1p.2.2.2
  have m1o := hm1.own xvo
  have m1i := hm1.rel
  have hk : ¬ (1 + (Md.cLog x : Nat) < (0 : Int)) := by omega
  simp -dsimp only [go_sem, e1, e2, e3, vp1, vp2, vp3, xvp1, xvp2, xvp3, yp1, yp2, yp3, m1p1, m1p2, m1p3, hk, bne_self_eq_false, Bool.not_true, Bool.not_false, Bool.false_eq_true, Bool.true_eq_false, false_imp_iff, true_and, and_true, forall_const, reduceCtorEq, decide_false]
  refine xcall_v (eqSlotS_p _ _ _ yi vi) (by simp -dsimp only [go_sem, rl_still, yp4, vp4]) (fun _ => trivial) fun n4 hn4 => ?_
  simp -dsimp only [go_sem, e1, e2, e3, vp1, vp2, vp3, xvp1, xvp2, xvp3, yp1, yp2, yp3, m1p1, m1p2, m1p3, hk, decide_false, bne_self_eq_false, Bool.not_true, Bool.not_false, Bool.false_eq_true, Bool.true_eq_false, false_imp_iff, true_and, and_true, forall_const, reduceCtorEq]
  have cfm34 : ∀ E, Carry y E v v := fun E => carry_own yo vo (.inr (by omega))
  refine xcall_mk (markSlotS_p y (committed x) (1) _ _ yi yo (by decide) (by omega)) (by simp -dsimp only [go_sem, e1, e2, e3, vp1, vp2, vp3, xvp1, xvp2, xvp3, yp1, yp2, yp3, m1p1, m1p2, m1p3, hk]) yp3 yp4 ⟨trivial, trivial⟩ (fun t ht => hW t (by have := yo.rg t ht; omega)) [7, 1, 5, 4] (fun E => upd (fun _ => .any) 6 E) (fun E => upd (upd (fun _ => none) 1 (some (g1, b1, d))) 5 (some (g12, b12, m1))) fun m3 nm3 hnm3 hm3 =>
      ⟨by simp -dsimp only [go_sem, e1, e2, e3, vp1, vp2, vp3, xvp1, xvp2, xvp3, yp1, yp2, yp3, m1p1, m1p2, m1p3, hk, cfm34], carry_upd (by simp -dsimp only [go_sem, e1, e2, e3, vp1, vp2, vp3, xvp1, xvp2, xvp3, yp1, yp2, yp3, m1p1, m1p2, m1p3, hk]; exact .here) carry_any, ((CarR.none _ _ _).upd e3 (carry_lo yo (by omega) dT)).upd m1p3 (carry_own yo m1o (.inr (by omega))), ?_⟩
  have m3p1 := hm3.rel.size
  have m3p2 := hm3.rel.isNode
  have m3p3 := hm3.rel.plain
  have m3p4 := hm3.rel.still
  have m3o := hm3.own yo
  have m3i := hm3.rel
  simp -dsimp only [go_sem, e1, e2, e3, vp1, vp2, vp3, xvp1, xvp2, xvp3, yp1, yp2, yp3, m1p1, m1p2, m1p3, hk, m3p1, m3p2, m3p3]
  refine xcall_v (heldSlotS_p _ (committed x) (1) m3i (by decide) (by omega)) (by simp -dsimp only [go_sem, rl_still, m3p4]) (fun _ => trivial) fun n7 hn7 => ?_
  have hk2 : ¬ (1 + (cSlots (committed x) : Nat) < (0 : Int)) := by omega
  simp -dsimp only [go_sem, e1, e2, e3, vp1, vp2, vp3, xvp1, xvp2, xvp3, yp1, yp2, yp3, m1p1, m1p2, m1p3, hk, m3p1, m3p2, m3p3, hk2, bne_self_eq_false, Bool.not_true, Bool.not_false, Bool.false_eq_true, Bool.true_eq_false, false_imp_iff, true_and, and_true, forall_const, reduceCtorEq, decide_false]
  refine xcall_p (toLog_p _ _ h hs) (by simp -dsimp only [go_sem, rl_still, e4]) fun r2lo r2hi r2 hr2lo hr2hi hr2 => ?_
  have r2o := hr2.2
  have r2i := hr2.1
  have r2p := shp_log _ _ r2i
  have r2p1 := r2p.1
  have r2p2 := r2p.2.1
  have r2p3 := r2p.2.2.1
  have r2p4 := r2p.2.2.2
  refine ⟨r2o.tags, ?_⟩
  simp -dsimp only [go_sem, e1, e2, e3, vp1, vp2, vp3, xvp1, xvp2, xvp3, yp1, yp2, yp3, m1p1, m1p2, m1p3, hk, m3p1, m3p2, m3p3, hk2, r2p1, r2p2, r2p3]
  refine xcall_p (committed_p _ _ r2i hs r2i.data) (by simp -dsimp only [go_sem, rl_still, r2p4]) fun hvlo hvhi hv hhvlo hhvhi hhvw => ?_
  have hhv := hhvw.out
  have hvo := hhv.2
  have hvi := hhv.1
  have hvp1 := hvi.size
  have hvp2 := hvi.isNode
  have hvp3 := hvi.plain
  have hvp4 := hvi.still
  refine ⟨hvo.tags, ?_⟩
  simp -dsimp only [go_sem, e1, e2, e3, vp1, vp2, vp3, xvp1, xvp2, xvp3, yp1, yp2, yp3, m1p1, m1p2, m1p3, hk, m3p1, m3p2, m3p3, hk2, r2p1, r2p2, r2p3, hvp1, hvp2, hvp3]
  refine xcall_v (eqSlotS_p _ _ _ hvi vi) (by simp -dsimp only [go_sem, rl_still, hvp4, vp4]) (fun _ => trivial) fun n4 hn4 => ?_
  simp -dsimp only [go_sem, e1, e2, e3, vp1, vp2, vp3, xvp1, xvp2, xvp3, yp1, yp2, yp3, m1p1, m1p2, m1p3, hk, m3p1, m3p2, m3p3, hk2, hvp1, hvp2, hvp3, decide_false, bne_self_eq_false, Bool.not_true, Bool.not_false, Bool.false_eq_true, Bool.true_eq_false, false_imp_iff, true_and, and_true, forall_const, reduceCtorEq]
  refine xcall_v (heldSlotS_p _ (committed x) (1) m3i (by decide) (by omega)) (by simp -dsimp only [go_sem, rl_still, m3p4]) (fun _ => trivial) fun n9 hn9 => ?_
  simp -dsimp only [go_sem, e1, e2, e3, vp1, vp2, vp3, xvp1, xvp2, xvp3, yp1, yp2, yp3, m1p1, m1p2, m1p3, hk, m3p1, m3p2, m3p3, hk2, hvp1, hvp2, hvp3, bne_self_eq_false, Bool.not_true, Bool.not_false, Bool.false_eq_true, Bool.true_eq_false, false_imp_iff, true_and, and_true, forall_const, reduceCtorEq, decide_false]
end Go.Proofs.Ytpepddckmddbiaa.IM
end
