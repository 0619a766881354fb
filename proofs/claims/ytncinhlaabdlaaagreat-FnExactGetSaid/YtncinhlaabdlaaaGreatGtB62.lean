/- Several of my texts in one module (merge.py, shake.py). -/
import Derived.Test.YtncinhlaabdlaaaGreatGtB57
import Derived.Test.YtncinhlaabdlaaaGreatGtB7
import Derived.Test.YtncinhlaabdlaaaGreatGtB61
import Derived.Test.YtncinhlaabdlaaaGreatGtA6
import Derived.Test.YtncinhlaabdlaaaGreatGtB59
import Derived.Test.YtncinhlaabdlaaaGreatGtB60
import Derived.Test.YtncinhlaabdlaaaGreatGtA4
import Derived.Test.YtncinhlaabdlaaaGreatGtB54
section
namespace Go.Proofs.YtncinhlaabdlaaaGreat.IM
open Go Go.Proofs
set_option linter.unusedVariables false
set_option linter.unusedSimpArgs false
set_option maxHeartbeats 2000000
set_option maxRecDepth 20000
theorem logOk_sure {l : Md.Log} (h : Md.logOk l = true) : 0 ≤ l.sure ∧ l.sure ≤ l.recs.length := by
  unfold Md.logOk at h
  simp only [Bool.and_eq_true, inB_iff] at h
  omega
theorem eng_fok {x : Md.Engine} (h : engineOk x = true) (h8 : x.disk.length = 8) : FOk x.log.recs.length x := by
  unfold engineOk headOk at h
  simp only [Bool.and_eq_true] at h
  have hs := logOk_sure h.1.1.1.1.1.1.1
  refine ⟨h.1.1.1.1.1.1.2, h8, fun i hi => ?_, fun i hi => ?_⟩
  · have h1 := allR_iff.1 h.1.1.2 i (by omega)
    unfold diskStep at h1
    rw [getD_at hi] at h1
    simp only [Bool.and_eq_true, decide_eq_true_eq] at h1
    exact ⟨h1.1, by omega⟩
  · have h1 := allR_iff.1 h.1.2 i hi
    unfold seatStep at h1
    rw [getD_at hi] at h1
    simp only [Bool.and_eq_true, decide_eq_true_eq] at h1
    exact h1.1
theorem code_told {x : Md.Engine} {b : Bool} : codeOf x b = if b = true then codeOf x true else 1 := by
  cases b with
  | true => rfl
  | false => exact codeOf_form (by simp)
theorem ret0_free {F : Relab} {st : St} (t : Nat) : (rl 9 F (retV st [])).free t := by
  rw [show retV st [] = .tup 0 fun i => match ([] : List ResultVar)[i]? with | some r => retD st r | none => .any from rfl, rl_tup]
  exact fun i hi => absurd hi (Nat.not_lt_zero i)
def WrQ (q : Nat → D) (x : Md.Engine) (s : Md.Seat) (lo n0 n1 : Nat) (d' v : D) : Prop :=
  (∀ t, v.free t) ∧ ∃ L D', d' = .node engK (upd (upd q 2 L) 0 D') ∧ IsLog L (sureL x.log s.p.lsn) ∧ IsA 8 17 IsPage D' (x.disk.set s.no.toNat s.p) ∧ Eng (min lo n0) n1 n0 (.node engK q) d' (writeE x s)
theorem l7Write_b (q w : Nat → D) (x : Md.Engine) (s : Md.Seat) (k : Nat) (lo hi : Nat) (h : EngF q x) (hs : IsSeat (.node (.agg [1, 17, 1, 1]) w) s) (ho : Own lo hi (.node engK q)) (hno : s.no = k) (hk : k ≤ 7) (hz : Md.szPage s.p ≤ 1048576) (hl : x.log.recs.length ≤ 2097152) :
    BCall Tryz.prog 175 .nil (.node engK q) [.node (.agg [1, 17, 1, 1]) w] (WrQ q x s lo) := by
  obtain ⟨w', e, hws, wz, w1, w2, w3⟩ := id hs
  cases e
  have wz : w 0 = _ := wz
  rw [hno] at wz
  have wp := shp_page _ _ w1
  obtain ⟨u, hu, hus, u0, u1⟩ := id w1
  have u0 : u 0 = _ := u0
  have pgu : IsPage (.node (.agg [1, 16]) u) s.p := hu ▸ w1
  have ss := shp_seat _ _ hs
  obtain ⟨fd, hd0, hdl, hdst, hdf⟩ := h.dk
  have hk8 : k < 8 := by omega
  have hk8i : (k : Int) < 8 := by omega
  refine bcall_intro Tryz.func175 rfl (by decide) rfl (by decide) (by rw [Tryz.ntmps175]; simp) fun w0 M n0 gb hW hS hT hgb => ivc_sound ?_; simp -dsimp only [Tryz.f175, go_sem, h.all, ss.1, ss.2.1, ss.2.2.1]
  have ho' := own_lt ho (hT _ (List.mem_cons_self ..) (whole_data ho.wh))
  intro g1 b1 hb1
  refine iwp_plan [(0, true), (1, true), (2, true), (3, true), (4, true), (5, true), (6, false)] [3] rfl (by decide +kernel) (by decide) [] (by decide +kernel) ?_
  simp -dsimp only [go_sem, h.all, ss.1, ss.2.1, ss.2.2.1, hu, u0]
  refine xcall_cs (l := 1000) (g := 0) (b := gb) (l5Force2_b q x s.p.lsn (min lo n0) n0 h ho' hl) (by simp -dsimp only [go_sem]) (by trivial) (by simp -dsimp only [go_sem]) h.is.still fun m0 m1 d' r hm0 hm1 hQ => ?_
  obtain ⟨L, rfl, hL, hLt, hE⟩ := hQ
  have hm0' : b1 + 1 ≤ m0 := hm0
  have E1 := h.log hL
  simp -dsimp only [go_sem, h.all, hd0, wz, hk8, hk8i]
  refine iwp_plan [(0, true), (1, true), (2, true), (3, true), (4, true), (6, true), (7, true), (5, false), (8, true), (9, false)] [3] rfl (by decide +kernel) (by decide) [] (by decide +kernel) ?_
  simp -dsimp only [go_sem, h.all, hd0, wz, hk8, hk8i, wp.1, wp.2.1, wp.2.2.1]
  refine xcall_p (l3Copy_p _ _ w1 hz) (by simp -dsimp only [go_sem, rl_still, wp.2.2.2]) fun m2 p2 r2 hm2 hp2 hr2 => ?_
  have hm2' : m1 ≤ m2 := hm2
  have rp := shp_page _ _ hr2.1
  refine ⟨hr2.2.tags, ?_⟩
  have yp := shp_page _ _ (hdf k (by omega))
  simp -dsimp only [go_sem, h.all, hd0, wz, hk8, hk8i, rp.1, rp.2.1, rp.2.2.1, yp.1, yp.2.1, yp.2.2.1]
  refine ⟨_, rfl, fun n1 hn1 hfc => ?_⟩
  have hn1' : p2 ≤ n1 := hn1
  have oE : Own (min lo n0) m1 (.node engK (upd q 2 L)) := hE.put.own.mono (by omega) (Nat.le_refl _)
  have o0 : Own (min lo n0) m1 (upd q 2 L 0) := own_sub (i := 0) oE (by decide)
  rw [upd_ne _ _ (by decide)] at o0
  rw [hd0] at o0
  have PD := Put.node (i := k) (m := m2) o0 (show k < (Kd.arr 8 17).cnt from hk8) (Put.new (d := fd k) (hr2.2.mono (Nat.le_refl _) hn1') (by omega)) hm2' (by omega)
  have hD := isA_set (sz := 17) (i := k) hdl hdst hdf hr2.1 rp.2.2.2
  have E2 := E1.disk hD
  have PE := Put.node (i := 0) (m := m2) oE (by decide) (show Put _ _ _ (q 0) _ from hd0 ▸ PD) hm2' (by omega)
  rw [rlnode_still E2.st]
  have hkn : s.no.toNat = k := by omega
  have hfin : Eng (min lo n0) n1 n0 (.node engK q) (.node engK (upd (upd q 2 L) 0 (.node (.arr 8 17) (upd fd k r2)))) (writeE x s) := ⟨by unfold writeE; rw [hkn]; exact E2.is, (hE.put.mono (lo' := min lo n0) (hi' := m1) (m' := n0) (by omega) (Nat.le_refl _) (by omega)).trans PE (by omega)⟩
  exact Eng.fin hfin ⟨ret0_free, L, _, rfl, hL, by rw [hkn]; exact hD, hfin⟩ ret0_tags
theorem rl_eng1 {q ql : Nat → D} {F : Relab} {m S : D} (hq : ∀ i, (q i).still) (hql : ∀ i, (ql i).still) (h : rl 7 F m = S) : rl 9 F (.node engK (upd q 1 (.node (.agg [1, 1]) (upd ql 0 m)))) = .node engK (upd q 1 (.node (.agg [1, 1]) (upd ql 0 S))) := by
  rw [rl_node, rlsK_upd, rls_still hq, rl_node, rlsK_upd, rls_still hql, h]
theorem seat_mod {q qp f : Nat → D} {y : Md.Engine} {t K : Nat} {lo hi : Nat} {r : D} {u : Md.Seat → Md.Seat} (E : EngF q y) (ho : Own lo hi (.node engK q)) (e1 : q 1 = .node (.agg [1, 1]) qp) (eh : qp 1 = .lit (.int .i64 y.pool.hand)) (es : ∀ i, (qp i).still) (e0 : qp 0 = .sl t true y.pool.seats.length 20 f)
    (hfs : ∀ i, (f i).still) (hfl : y.pool.seats.length < 140737488355328) (hf : ∀ i (h : i < y.pool.seats.length), IsSeat (f i) y.pool.seats[i]) (hlt : K < y.pool.seats.length) (hr : IsSeat r (u y.pool.seats[K])) (hs : r.still) (htl : r.tl = (f K).tl) (hw : r.whole) :
    EngF (upd q 1 (.node (.agg [1, 1]) (upd qp 0 (.sl t true y.pool.seats.length 20 (upd f K r))))) { y with pool := ⟨y.pool.seats.modify K u, y.pool.hand⟩ } ∧ Put lo hi hi (.node engK q) (.node engK (upd q 1 (.node (.agg [1, 1]) (upd qp 0 (.sl t true y.pool.seats.length 20 (upd f K r)))))) := by
  have hL := isL_mod (t := t) (u := u) hfs hfl hf hlt hr hs
  have o1 := own_sub (i := 1) ho (by decide)
  rw [e1] at o1
  have o2 := own_sub (i := 0) o1 (by decide)
  rw [e0] at o2
  have P0 : Put lo hi hi (qp 0) (.sl t true y.pool.seats.length 20 (upd f K r)) := ⟨own_mod o2 htl hw, fun b hb => .inl (by
    rw [e0]
    rcases tl_sl_upd hb with h | h
    · exact h
    · exact tl_row hlt (htl ▸ h))⟩
  have P1 := Put.node (i := 0) o1 (by decide) P0 (Nat.le_refl _) (Nat.le_refl _)
  have P2 := Put.node (i := 1) ho (by decide) (show Put _ _ _ (q 1) _ from e1 ▸ P1) (Nat.le_refl _) (Nat.le_refl _)
  exact ⟨E.pool ⟨_, rfl, still_upd es hL.still, hL, eh⟩, P2⟩
theorem seat_field {w : Nat → D} {s : Md.Seat} {i : Nat} {v v0 : Value} {s' : Md.Seat} (h : IsSeat (.node (.agg [1, 17, 1, 1]) w) s) (hw : (D.node (.agg [1, 17, 1, 1]) w).whole) (h0 : w i = .lit v0) (hr : IsSeat (.node (.agg [1, 17, 1, 1]) (upd w i (.lit v))) s') :
    (D.node (.agg [1, 17, 1, 1]) (upd w i (.lit v))).still ∧ (D.node (.agg [1, 17, 1, 1]) (upd w i (.lit v))).tl = (D.node (.agg [1, 17, 1, 1]) w).tl ∧ (D.node (.agg [1, 17, 1, 1]) (upd w i (.lit v))).whole :=
  ⟨hr.still, tl_lit0 h0, fun j hj => by
    by_cases e : j = i
    · subst e; rw [upd_same]; trivial
    · rw [upd_ne _ _ e]; exact hw j hj⟩
theorem sumBy_mem {α : Type} {f : α → Nat} : ∀ {l : List α} {a : α}, a ∈ l → f a ≤ Md.sumBy f l
  | b :: l, a, h => by
    have e : Md.sumBy f (b :: l) = f b + Md.sumBy f l := by simp [Md.sumBy]
    rw [e]
    rcases List.mem_cons.1 h with rfl | h
    · omega
    · have := sumBy_mem (f := f) h; omega
end Go.Proofs.YtncinhlaabdlaaaGreat.IM
end
