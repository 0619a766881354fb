/- Several of my texts in one module (merge.py, shake.py). -/
import Derived.Test.YtncinhlaabdlaaaGreatFlB57
import Derived.Test.YtncinhlaabdlaaaGreatFlB7
import Derived.Test.YtncinhlaabdlaaaGreatFlB61
import Derived.Test.YtncinhlaabdlaaaGreatFlA6
import Derived.Test.YtncinhlaabdlaaaGreatFlB59
import Derived.Test.YtncinhlaabdlaaaGreatFlB60
import Derived.Test.YtncinhlaabdlaaaGreatFlA4
import Derived.Test.YtncinhlaabdlaaaGreatFlB54
section
namespace Go.Proofs.YtncinhlaabdlaaaGreat.IM
open Go Go.Proofs
set_option linter.unusedVariables false
set_option linter.unusedSimpArgs false
set_option maxHeartbeats 2000000
set_option maxRecDepth 20000
theorem logOk_sure {l : Md.Log} (h : Md.logOk l = true) : 0 ≤ l.sure ∧ l.sure ≤ l.recs.length := by
  unfold Md.logOk at h
  simp only [Bool.and_eq_true, inB_iff] at h
  omega
theorem eng_fok {x : Md.Engine} (h : engineOk x = true) (h8 : x.disk.length = 8) : FOk x.log.recs.length x := by
  unfold engineOk headOk at h
  simp only [Bool.and_eq_true] at h
  have hs := logOk_sure h.1.1.1.1.1.1.1
  refine ⟨h.1.1.1.1.1.1.2, h8, fun i hi => ?_, fun i hi => ?_⟩
  · have h1 := allR_iff.1 h.1.1.2 i (by omega)
    unfold diskStep at h1
    rw [getD_at hi] at h1
    simp only [Bool.and_eq_true, decide_eq_true_eq] at h1
    exact ⟨h1.1, by omega⟩
  · have h1 := allR_iff.1 h.1.2 i hi
    unfold seatStep at h1
    rw [getD_at hi] at h1
    simp only [Bool.and_eq_true, decide_eq_true_eq] at h1
    exact h1.1
def flushE (x : Md.Engine) (no : Int) : Md.Engine := if 0 ≤ Md.seated x.pool no ∧ (seatAt x no).dirty = true then { writeE x (seatAt x no) with pool := clean x.pool no } else x
def flushDo (x : Md.Engine) (no : Int) : Md.Engine × Int := if codeOf x (Md.inB no 0 7) = 0 then (flushE x no, 0) else (x, codeOf x (Md.inB no 0 7))
theorem flushE_no {x : Md.Engine} {no : Int} (h : ¬ (0 ≤ Md.seated x.pool no ∧ (seatAt x no).dirty = true)) : flushE x no = x := if_neg h
theorem flushE_yes {x : Md.Engine} {no : Int} (h : 0 ≤ Md.seated x.pool no ∧ (seatAt x no).dirty = true) : flushE x no = { writeE x (seatAt x no) with pool := clean x.pool no } := if_pos h
theorem flush_no {x : Md.Engine} {no : Int} (h : codeOf x (Md.inB no 0 7) ≠ 0) : flushDo x no = (x, codeOf x (Md.inB no 0 7)) := if_neg h
theorem flush_yes {x : Md.Engine} {no : Int} (h : codeOf x (Md.inB no 0 7) = 0) : flushDo x no = (flushE x no, 0) := if_pos h
theorem code_told {x : Md.Engine} {b : Bool} : codeOf x b = if b = true then codeOf x true else 1 := by
  cases b with
  | true => rfl
  | false => exact codeOf_form (by simp)
theorem ret0_free {F : Relab} {st : St} (t : Nat) : (rl 9 F (retV st [])).free t := by
  rw [show retV st [] = .tup 0 fun i => match ([] : List ResultVar)[i]? with | some r => retD st r | none => .any from rfl, rl_tup]
  exact fun i hi => absurd hi (Nat.not_lt_zero i)
def WrQ (q : Nat → D) (x : Md.Engine) (s : Md.Seat) (lo n0 n1 : Nat) (d' v : D) : Prop :=
  (∀ t, v.free t) ∧ ∃ L D', d' = .node engK (upd (upd q 2 L) 0 D') ∧ IsLog L (sureL x.log s.p.lsn) ∧ IsA 8 17 IsPage D' (x.disk.set s.no.toNat s.p) ∧ Eng (min lo n0) n1 n0 (.node engK q) d' (writeE x s)
theorem l7Write_b (q w : Nat → D) (x : Md.Engine) (s : Md.Seat) (k : Nat) (lo hi : Nat) (h : EngF q x) (hs : IsSeat (.node (.agg [1, 17, 1, 1]) w) s) (ho : Own lo hi (.node engK q)) (hno : s.no = k) (hk : k ≤ 7) (hz : Md.szPage s.p ≤ 1048576) (hl : x.log.recs.length ≤ 2097152) :
    BCall Tryz.prog 175 .nil (.node engK q) [.node (.agg [1, 17, 1, 1]) w] (WrQ q x s lo) := by
  obtain ⟨w', e, hws, wz, w1, w2, w3⟩ := id hs
  cases e
  have wz : w 0 = _ := wz
  rw [hno] at wz
  have wp := shp_page _ _ w1
  obtain ⟨u, hu, hus, u0, u1⟩ := id w1
  have u0 : u 0 = _ := u0
  have pgu : IsPage (.node (.agg [1, 16]) u) s.p := hu ▸ w1
  have ss := shp_seat _ _ hs
  obtain ⟨fd, hd0, hdl, hdst, hdf⟩ := h.dk
  have hk8 : k < 8 := by omega
  have hk8i : (k : Int) < 8 := by omega
  refine bcall_intro Tryz.func175 rfl (by decide) rfl (by decide) (by rw [Tryz.ntmps175]; simp) fun w0 M n0 gb hW hS hT hgb => ivc_sound ?_; simp -dsimp only [Tryz.f175, go_sem, h.all, ss.1, ss.2.1, ss.2.2.1]
  have ho' := own_lt ho (hT _ (List.mem_cons_self ..) (whole_data ho.wh))
  intro g1 b1 hb1
  refine iwp_plan [(0, true), (1, true), (2, true), (3, true), (4, true), (5, true), (6, false)] [3] rfl (by decide +kernel) (by decide) [] (by decide +kernel) ?_
  simp -dsimp only [go_sem, h.all, ss.1, ss.2.1, ss.2.2.1, hu, u0]
  refine xcall_cs (l := 1000) (g := 0) (b := gb) (l5Force2_b q x s.p.lsn (min lo n0) n0 h ho' hl) (by simp -dsimp only [go_sem]) (by trivial) (by simp -dsimp only [go_sem]) h.is.still fun m0 m1 d' r hm0 hm1 hQ => ?_
  obtain ⟨L, rfl, hL, hLt, hE⟩ := hQ
  have hm0' : b1 + 1 ≤ m0 := hm0
  have E1 := h.log hL
  simp -dsimp only [go_sem, h.all, hd0, wz, hk8, hk8i]
  refine iwp_plan [(0, true), (1, true), (2, true), (3, true), (4, true), (6, true), (7, true), (5, false), (8, true), (9, false)] [3] rfl (by decide +kernel) (by decide) [] (by decide +kernel) ?_
  simp -dsimp only [go_sem, h.all, hd0, wz, hk8, hk8i, wp.1, wp.2.1, wp.2.2.1]
  refine xcall_p (l3Copy_p _ _ w1 hz) (by simp -dsimp only [go_sem, rl_still, wp.2.2.2]) fun m2 p2 r2 hm2 hp2 hr2 => ?_
  have hm2' : m1 ≤ m2 := hm2
  have rp := shp_page _ _ hr2.1
  refine ⟨hr2.2.tags, ?_⟩
  have yp := shp_page _ _ (hdf k (by omega))
  simp -dsimp only [go_sem, h.all, hd0, wz, hk8, hk8i, rp.1, rp.2.1, rp.2.2.1, yp.1, yp.2.1, yp.2.2.1]
  refine ⟨_, rfl, fun n1 hn1 hfc => ?_⟩
  have hn1' : p2 ≤ n1 := hn1
  have oE : Own (min lo n0) m1 (.node engK (upd q 2 L)) := hE.put.own.mono (by omega) (Nat.le_refl _)
  have o0 : Own (min lo n0) m1 (upd q 2 L 0) := own_sub (i := 0) oE (by decide)
  rw [upd_ne _ _ (by decide)] at o0
  rw [hd0] at o0
  have PD := Put.node (i := k) (m := m2) o0 (show k < (Kd.arr 8 17).cnt from hk8) (Put.new (d := fd k) (hr2.2.mono (Nat.le_refl _) hn1') (by omega)) hm2' (by omega)
  have hD := isA_set (sz := 17) (i := k) hdl hdst hdf hr2.1 rp.2.2.2
  have E2 := E1.disk hD
  have PE := Put.node (i := 0) (m := m2) oE (by decide) (show Put _ _ _ (q 0) _ from hd0 ▸ PD) hm2' (by omega)
  rw [rlnode_still E2.st]
  have hkn : s.no.toNat = k := by omega
  have hfin : Eng (min lo n0) n1 n0 (.node engK q) (.node engK (upd (upd q 2 L) 0 (.node (.arr 8 17) (upd fd k r2)))) (writeE x s) := ⟨by unfold writeE; rw [hkn]; exact E2.is, (hE.put.mono (lo' := min lo n0) (hi' := m1) (m' := n0) (by omega) (Nat.le_refl _) (by omega)).trans PE (by omega)⟩
  exact Eng.fin hfin ⟨ret0_free, L, _, rfl, hL, by rw [hkn]; exact hD, hfin⟩ ret0_tags
theorem rl_eng1 {q ql : Nat → D} {F : Relab} {m S : D} (hq : ∀ i, (q i).still) (hql : ∀ i, (ql i).still) (h : rl 7 F m = S) : rl 9 F (.node engK (upd q 1 (.node (.agg [1, 1]) (upd ql 0 m)))) = .node engK (upd q 1 (.node (.agg [1, 1]) (upd ql 0 S))) := by
  rw [rl_node, rlsK_upd, rls_still hq, rl_node, rlsK_upd, rls_still hql, h]
theorem seat_mod {q qp f : Nat → D} {y : Md.Engine} {t K : Nat} {lo hi : Nat} {r : D} {u : Md.Seat → Md.Seat} (E : EngF q y) (ho : Own lo hi (.node engK q)) (e1 : q 1 = .node (.agg [1, 1]) qp) (eh : qp 1 = .lit (.int .i64 y.pool.hand)) (es : ∀ i, (qp i).still) (e0 : qp 0 = .sl t true y.pool.seats.length 20 f)
    (hfs : ∀ i, (f i).still) (hfl : y.pool.seats.length < 140737488355328) (hf : ∀ i (h : i < y.pool.seats.length), IsSeat (f i) y.pool.seats[i]) (hlt : K < y.pool.seats.length) (hr : IsSeat r (u y.pool.seats[K])) (hs : r.still) (htl : r.tl = (f K).tl) (hw : r.whole) :
    EngF (upd q 1 (.node (.agg [1, 1]) (upd qp 0 (.sl t true y.pool.seats.length 20 (upd f K r))))) { y with pool := ⟨y.pool.seats.modify K u, y.pool.hand⟩ } ∧ Put lo hi hi (.node engK q) (.node engK (upd q 1 (.node (.agg [1, 1]) (upd qp 0 (.sl t true y.pool.seats.length 20 (upd f K r)))))) := by
  have hL := isL_mod (t := t) (u := u) hfs hfl hf hlt hr hs
  have o1 := own_sub (i := 1) ho (by decide)
  rw [e1] at o1
  have o2 := own_sub (i := 0) o1 (by decide)
  rw [e0] at o2
  have P0 : Put lo hi hi (qp 0) (.sl t true y.pool.seats.length 20 (upd f K r)) := ⟨own_mod o2 htl hw, fun b hb => .inl (by
    rw [e0]
    rcases tl_sl_upd hb with h | h
    · exact h
    · exact tl_row hlt (htl ▸ h))⟩
  have P1 := Put.node (i := 0) o1 (by decide) P0 (Nat.le_refl _) (Nat.le_refl _)
  have P2 := Put.node (i := 1) ho (by decide) (show Put _ _ _ (q 1) _ from e1 ▸ P1) (Nat.le_refl _) (Nat.le_refl _)
  exact ⟨E.pool ⟨_, rfl, still_upd es hL.still, hL, eh⟩, P2⟩
theorem seat_field {w : Nat → D} {s : Md.Seat} {i : Nat} {v v0 : Value} {s' : Md.Seat} (h : IsSeat (.node (.agg [1, 17, 1, 1]) w) s) (hw : (D.node (.agg [1, 17, 1, 1]) w).whole) (h0 : w i = .lit v0) (hr : IsSeat (.node (.agg [1, 17, 1, 1]) (upd w i (.lit v))) s') :
    (D.node (.agg [1, 17, 1, 1]) (upd w i (.lit v))).still ∧ (D.node (.agg [1, 17, 1, 1]) (upd w i (.lit v))).tl = (D.node (.agg [1, 17, 1, 1]) w).tl ∧ (D.node (.agg [1, 17, 1, 1]) (upd w i (.lit v))).whole :=
  ⟨hr.still, tl_lit0 h0, fun j hj => by
    by_cases e : j = i
    · subst e; rw [upd_same]; trivial
    · rw [upd_ne _ _ e]; exact hw j hj⟩
def FlQ (q : Nat → D) (x : Md.Engine) (no : Int) (lo n0 n1 : Nat) (d' _ : D) : Prop := Eng (min lo n0) n1 n0 (.node engK q) d' (flushE x no)
theorem l7Flush_b (q : Nat → D) (x : Md.Engine) (no : Int) (n : Int) (lo hi : Nat) (h : EngF q x) (ho : Own lo hi (.node engK q)) (hF : FOk n x) (hl : x.log.recs.length ≤ 2097152) :
    BCall Tryz.prog 100 (.node engK q) (.node engK q) [.lit (.int .i64 no)] (FlQ q x no lo) := by
  have q1 := shp_pool _ _ h.q1
  refine bcall_intro Tryz.func100 rfl (by decide) rfl (by decide) (by rw [Tryz.ntmps100]; simp) fun w0 M n0 gb hW hS hT hgb => ivc_sound ?_; simp -dsimp only [Tryz.f100, go_sem, h.all, q1.1, q1.2.1, q1.2.2.1]
  have ho' := own_lt ho (hT _ (List.mem_cons_self ..) (whole_data ho.wh))
  refine xcall_v (specSeated_p _ x.pool no h.q1) (by simp -dsimp only [go_sem, rl_still, q1.2.2.2, rl_lit]) (fun _ => trivial) fun n2 hn2 => ?_
  have hn2' : n0 ≤ n2 := hn2
  by_cases hs : 0 ≤ Md.seated x.pool no
  rotate_left
  · simp -dsimp only [go_sem, h.all, q1.1, q1.2.1, q1.2.2.1, hs]
    refine ⟨_, rfl, fun n1 hn1 hfc => ?_⟩
    have hn1' : n2 ≤ n1 := hn1
    rw [rlnode_still h.st]
    have hfin : Eng (min lo n0) n1 n0 (.node engK q) (.node engK q) (flushE x no) := ⟨by rw [flushE_no (fun hh => hs hh.1)]; exact h.is, Put.refl ho' (by omega)⟩
    exact Eng.fin hfin hfin ret0_tags
  obtain ⟨qp, f, w, u, us, t, zb, K, V⟩ := eng_seat h hs
  have hsK : (0 : Int) ≤ (K : Int) := by omega
  have wsh : IsSeat (.node (.agg [1, 17, 1, 1]) w) (seatAt x no) := ⟨w, rfl, V.ws, V.w0, V.pg, V.w2, V.w3⟩
  have ssp := shp_seat _ _ wsh
  rcases Bool.eq_false_or_eq_true (seatAt x no).dirty with c1 | c1
  rotate_left
  · simp -dsimp only [go_sem, h.all, q1.1, q1.2.1, q1.2.2.1, V.k, V.kli, V.kl, hsK, V.e1, V.e0, V.ek, V.w2, c1]
    refine ⟨_, rfl, fun n1 hn1 hfc => ?_⟩
    have hn1' : n2 ≤ n1 := hn1
    rw [rlnode_still h.st]
    have hfin : Eng (min lo n0) n1 n0 (.node engK q) (.node engK q) (flushE x no) := ⟨by rw [flushE_no (fun hh => by rw [c1] at hh; exact absurd hh.2 (by decide))]; exact h.is, Put.refl ho' (by omega)⟩
    exact Eng.fin hfin hfin ret0_tags
  have o1 := own_sub (i := 1) ho' (by decide)
  rw [V.e1] at o1
  have o2 := own_sub (i := 0) o1 (by decide)
  rw [V.e0] at o2
  obtain rfl : zb = true := o2.wh.1
  have ht2 : t ∈ (q 1).tl := by rw [V.e1]; exact tl_child (i := 0) (by decide) (V.e0 ▸ (by simp [D.tl]))
  have htl : t ∈ (D.node engK q).tl := tl_child (i := 1) (by decide) ht2
  have hpk := (poolOk_iff.1 hF.pool).2.2.2.1 K V.kl
  rw [← V.at_] at hpk
  have hnoE : (seatAt x no).no = no := by
    obtain ⟨hk1, hh⟩ := seated_spec hs
    rw [V.at_]
    have e : (Md.seated x.pool no).toNat = K := by have := V.k; omega
    simp only [e] at hh; exact hh
  obtain ⟨k, hk⟩ := Int.eq_ofNat_of_zero_le hpk.1
  have hsp := szPage_ok V.pg hpk.2.2
  simp -dsimp only [go_sem, h.all, q1.1, q1.2.1, q1.2.2.1, V.k, V.kli, V.kl, hsK, V.e1, V.e0, V.ek, V.w2, c1, ssp.1, ssp.2.1, ssp.2.2.1]
  refine xcall_bw (l := 1000) (g := 0) (b := gb) (l7Write_b q w x (seatAt x no) k (min lo n0) n0 h wsh ho' hk (by omega) (by omega) hl) (by simp -dsimp only [go_sem]) (still_mapBV ⟨wsh.still, trivial⟩) (by simp -dsimp only [go_sem]) h.is.still (fun _ h => by cases h) (fun _ h => by cases h) (fun t ht => .inl ht) (fun t ht => .inl ht) [0, 4] (fun _ => none) (by simp -dsimp only [go_sem]) fun m2 m3 d' r hm2 hm3 hlt hQ htg => ?_
  obtain ⟨hrf, L, D', rfl, hL, hD', hE⟩ := hQ
  have hm2' : n2 ≤ m2 := hm2
  obtain ⟨q', hq'e, hq'⟩ := hE.is.node
  have hq'e : upd (upd q 2 L) 0 D' = q' := by cases hq'e; rfl
  subst hq'e
  have oE : Own (min lo n0) m3 (.node engK (upd (upd q 2 L) 0 D')) := hE.put.own.mono (by omega) (Nat.le_refl _)
  have fr1 : ∀ i, i < (Kd.agg [1, 1]).cnt → i ≠ 0 → (qp i).free t := fun i hi hne => by
    have : i = 1 := by have : i < 2 := hi; omega
    subst this; rw [V.eh]; trivial
  refine ⟨by simp -dsimp only [go_sem], (CarR.none _ _ _).skip rfl, ?_⟩
  refine conv_root (l := 1001) (lq := 1000) (gq := 0) (bq := gb) (R' := fun _ => none) (xq' := fun g => .node engK (upd (upd (upd q 2 L) 0 D') 1 (.node (.agg [1, 1]) (upd qp 0 (.msl 1001 g 0 [] 0 x.pool.seats.length 20)))))
    (hS t htl) (by simp -dsimp only [go_sem]) (own_free o2) (by simp -dsimp only [go_sem]) (.node _ _ 1 (by decide) (has_at (show upd (upd q 2 L) 0 D' 1 = .node (.agg [1, 1]) qp from V.e1) (.node _ _ 0 (by decide) (has_eq V.e0))))
    (fun g => ⟨plain_node _ _, thaw_upd (thaw_at (show upd (upd q 2 L) 0 D' 1 = .node (.agg [1, 1]) qp from V.e1) (thaw_upd (thaw_eq V.e0) fr1)) fun i hi hne => own_free_ne oE (i0 := 1) (by decide) ht2 hi hne⟩) (free_put (free_pick fun j hj => ?_) (hrf t)) (by decide) (fun l' g b z hz hne => by cases hz) fun g => ?_
  · simp only [List.mem_cons, List.not_mem_nil, or_false] at hj
    rcases hj with rfl | rfl
    · exact (show (D.ptr 1000 0 0 []).free t from trivial)
    · exact (show (D.lit (.int .i64 K)).free t from trivial)
  simp -dsimp only [go_sem, h.all, V.kli, V.kl, hsK, V.e1, V.e0, V.ek, V.w2]
  refine ⟨_, rfl, fun n1 hn1 hfc => ?_⟩
  have hn1' : m3 ≤ n1 := hn1
  have hKl := V.kl
  have hr : IsSeat (.node (.agg [1, 17, 1, 1]) (upd w 2 (.lit (.bool false)))) { x.pool.seats[K] with dirty := false } := by
    rw [← V.at_]; exact ⟨_, rfl, still_upd V.ws trivial, V.w0, V.pg, rfl, V.w3⟩
  have hwK := o2.wh.2 K V.kl
  rw [V.ek] at hwK
  have SF := seat_field wsh hwK V.w2 hr
  have SM := seat_mod (u := fun s => { s with dirty := false }) hq' oE V.e1 V.eh V.es V.e0 V.fs V.fl V.fr V.kl hr SF.1 (by rw [V.ek]; exact SF.2.1) SF.2.2
  rw [rl_eng1 (S := .sl t true x.pool.seats.length 20 (upd f K (.node (.agg [1, 17, 1, 1]) (upd w 2 (.lit (.bool false)))))) hq'.st V.es (by simp -dsimp only [go_sem]; exact sl_eq (rls_still (still_upd V.fs SF.1)))]
  have hcl : clean x.pool no = ⟨x.pool.seats.modify K fun s => { s with dirty := false }, x.pool.hand⟩ := by
    unfold clean
    rw [if_pos hs, show (Md.seated x.pool no).toNat = K by have := V.k; omega]
  have hfin : Eng (min lo n0) n1 n0 (.node engK q) (.node engK (upd (upd (upd q 2 L) 0 D') 1 (.node (.agg [1, 1]) (upd qp 0 (.sl t true x.pool.seats.length 20 (upd f K (.node (.agg [1, 17, 1, 1]) (upd w 2 (.lit (.bool false)))))))))) (flushE x no) :=
    ⟨by rw [flushE_yes ⟨hs, c1⟩, hcl]; exact SM.1.is, (hE.put.mono (lo' := min lo n0) (hi' := m3) (m' := n0) (by omega) (Nat.le_refl _) (by omega)).trans (SM.2.mono (Nat.le_refl _) hn1' (Nat.le_refl _)) (by omega)⟩
  exact Eng.fin hfin hfin ret0_tags
def FlR (x : Md.Engine) (no : Int) (n0 n1 : Nat) (r : D) : Prop := Two (fun a => IsEngine a (flushDo x no).1 ∧ Own n0 n1 a) (.lit (.int .i64 (flushDo x no).2)) r
theorem specFlush_p (d : D) (x : Md.Engine) (no : Int) (h : IsEngine d x) (hs : Md.szEngine x ≤ 1048576) (hd : d.data) : PCall Tryz.prog 30 [d, .lit (.int .i64 no)] (FlR x no) := by
  have hp := h
  have eq := shp_engine _ _ h
  have e4 := eq.2.2.2
  have e1 := eq.1
  have e2 := eq.2.1
  have e3 := eq.2.2.1
  refine pcall_intro_t Tryz.func30 rfl (by decide) rfl (by decide) (by rw [Tryz.ntmps30]; simp) fun w0 M n0 hW hT => ivc_sound ?_; simp -dsimp only [Tryz.f30, go_sem, e1, e2, e3]
  intro g1 b1 hb1 g2 b2 hb2
  refine xcall_p (l7Copy_p _ _ hp hs) (by simp -dsimp only [go_sem, rl_still, e4]) fun m0 p0 r0 hm0 hp0 hr0 => ?_
  have hm0' : b2 + 1 ≤ m0 := hm0
  refine ⟨hr0.2.tags, ?_⟩
  obtain ⟨q, rfl, hq⟩ := hr0.1.node
  have ho := hr0.2
  have rq := shp_engine _ _ hr0.1
  simp -dsimp only [go_sem, rq.1, rq.2.1, rq.2.2.1, e1, e2, e3]
  intro g5 b5 hb5
  have hb5' : p0 ≤ b5 := hb5
  refine xcall_v (l7Code_p _ x hp hs) (by simp -dsimp only [go_sem, rl_still, e4]) (fun _ => trivial) fun n2 hn2 => ?_
  have hn2' : b5 + 1 ≤ n2 := hn2
  simp -dsimp only [go_sem]
  refine xcall_v (l1In_p no 0 7) (by simp -dsimp only [go_sem, rl_lit]) (fun _ => trivial) fun n3 hn3 => ?_
  have hn3' : n2 ≤ n3 := hn3
  have h10 : ((1 : Int) == 0) = false := rfl
  rcases Bool.eq_false_or_eq_true (Md.inB no 0 7) with hin | hin
  rotate_left
  · have hc : codeOf x (Md.inB no 0 7) = 1 := by rw [code_told, hin]; rfl
    simp -dsimp only [go_sem, rq.1, rq.2.1, rq.2.2.1, e1, e2, e3, hin, h10]
    intro n1 hn1 hfc
    have hn1' : n3 ≤ n1 := hn1
    rw [rl_still rq.2.2.2]
    exact .of (by rw [flush_no (by rw [hc]; decide)]; exact ⟨hr0.1, ho.mono (by omega) (by omega)⟩) (by rw [flush_no (by rw [hc]; decide), hc])
  have hc : codeOf x (Md.inB no 0 7) = codeOf x true := by rw [hin]
  by_cases c0 : codeOf x true = 0
  · have c0l : (codeOf x true == 0) = true := by simpa using c0
    obtain ⟨hok, hlen, _, _⟩ := code0_ok' c0
    have hF := eng_fok hok (hq.dk.choose_spec.2.1)
    simp -dsimp only [go_sem, rq.1, rq.2.1, rq.2.2.1, e1, e2, e3, hin, c0, c0l]
    refine xcall_b (l := 6) (g := g5) (b := b5) (l7Flush_b q x no _ m0 p0 hq ho hF (by omega)) (by simp -dsimp only [go_sem]) (by simp -dsimp only [go_sem]) hr0.1.still (by trivial) (fun _ h => h) (fun t ht => hW t (by have := ho.rg t ht; omega)) [4, 6, 7] (upd (fun _ => none) 4 (some (g2, b2, .node engK cpZ))) (by simp -dsimp only [go_sem]) fun m2 m3 d' r hm2 hm3 hlt hE => ?_
    refine ⟨by simp -dsimp only [go_sem], (((CarR.none _ _ _).skip rfl).upd (plain_node _ _) (carry_cpZ _ _)).skip rfl, ?_⟩
    have hm2' : n3 ≤ m2 := hm2
    have rp := shp_engine _ _ hE.is
    simp -dsimp only [go_sem, rp.1, rp.2.1, rp.2.2.1]
    intro n1 hn1 hfc
    have hn1' : m3 ≤ n1 := hn1
    rw [rl_still rp.2.2.2]
    exact .of (by rw [flush_yes (hc.trans c0)]; exact ⟨hE.is, hE.put.own.mono (by omega) (by omega)⟩) (by rw [flush_yes (hc.trans c0)])
  · have c0l : (codeOf x true == 0) = false := by simpa using c0
    simp -dsimp only [go_sem, rq.1, rq.2.1, rq.2.2.1, e1, e2, e3, hin, c0l]
    intro n1 hn1 hfc
    have hn1' : n3 ≤ n1 := hn1
    rw [rl_still rq.2.2.2]
    have hc0 : codeOf x (Md.inB no 0 7) ≠ 0 := by rw [hc]; exact c0
    exact .of (by rw [flush_no hc0]; exact ⟨hr0.1, ho.mono (by omega) (by omega)⟩) (by rw [flush_no hc0, hc])
theorem flush_p (d : D) (x : Md.Engine) (no : Int) (h : IsEngine d x) (hs : Md.szEngine x ≤ 1048576) (hd : d.data) : PCall Tryz.prog 31 [d, .lit (.int .i64 no)] (FlR x no) := by
  have hp := h
  have eq := shp_engine _ _ h
  have e4 := eq.2.2.2
  have e1 := eq.1
  have e2 := eq.2.1
  have e3 := eq.2.2.1
  obtain ⟨f, rfl, hf⟩ := h.node
  refine pcall_intro_t Tryz.func31 rfl (by decide) rfl (by decide) (by rw [Tryz.ntmps31]; simp) fun w0 M n0 hW hT => ivc_sound ?_; simp -dsimp only [Tryz.f31, go_sem, hf.all, e1, e2, e3]
  intro g1 b1 hb1 g2 b2 hb2
  refine xcall_p (cloneEngine_p _ _ hp hs) (by simp -dsimp only [go_sem, rl_still, e4]) fun m0 p0 r0 hm0 hp0 hr0 => ?_
  have hm0' : b2 + 1 ≤ m0 := hm0
  refine ⟨hr0.2.tags, ?_⟩
  obtain ⟨q, rfl, hq⟩ := hr0.1.node
  have ho := hr0.2
  have rq := shp_engine _ _ hr0.1
  simp -dsimp only [go_sem, rq.1, rq.2.1, rq.2.2.1, hf.all, e1, e2, e3]
  intro g5 b5 hb5
  have hb5' : p0 ≤ b5 := hb5
  refine iwp_plan [(0, true), (1, true), (2, false), (3, false), (4, true)] [2] rfl (by decide +kernel) (by decide) [] (by decide +kernel) ?_
  simp -dsimp only [go_sem, rq.1, rq.2.1, rq.2.2.1, hf.all, e1, e2, e3]
  refine xcall_v (in_p no 0 7) (by simp -dsimp only [go_sem, rl_lit]) (fun _ => trivial) fun n2 hn2 => ?_
  have hn2' : b5 + 1 ≤ n2 := hn2
  simp -dsimp only [go_sem, rq.1, rq.2.1, rq.2.2.1, hf.all, e1, e2, e3]
  refine xcall_v (codeOf_p _ x (Md.inB no 0 7) hp hs hd) (by simp -dsimp only [go_sem, rl_still, e4, rl_lit]) (fun _ => trivial) fun n3 hn3 => ?_
  have hn3' : n2 ≤ n3 := hn3
  by_cases c0 : codeOf x (Md.inB no 0 7) = 0
  rotate_left
  · have c0l : (codeOf x (Md.inB no 0 7) != 0) = true := by simpa using c0
    simp -dsimp only [go_sem, rq.1, rq.2.1, rq.2.2.1, hf.all, e1, e2, e3, c0l]
    intro n1 hn1 hfc
    have hn1' : n3 ≤ n1 := hn1
    rw [rl_still rq.2.2.2]
    exact .of (by rw [flush_no c0]; exact ⟨hr0.1, ho.mono (by omega) (by omega)⟩) (by rw [flush_no c0])
  have c0l : (codeOf x (Md.inB no 0 7) != 0) = false := by simpa using c0
  obtain ⟨hok, hlen, hin, _⟩ := code0_ok' c0
  have hin' := (inB_iff _ _ _).1 hin
  have hF := eng_fok hok (hq.dk.choose_spec.2.1)
  have c00 : ((0 : Int) != 0) = false := rfl
  have f1 := shp_pool _ _ hf.q1
  simp -dsimp only [go_sem, rq.1, rq.2.1, rq.2.2.1, hf.all, e1, e2, e3, c0, c0l, c00]
  refine xcall_v (seated_p _ x.pool no hf.q1) (by simp -dsimp only [go_sem, rl_still, f1.2.2.2, rl_lit]) (fun _ => trivial) fun n4 hn4 => ?_
  have hn4' : n3 ≤ n4 := hn4
  by_cases hs0 : 0 ≤ Md.seated x.pool no
  rotate_left
  · simp -dsimp only [go_sem, rq.1, rq.2.1, rq.2.2.1, hf.all, e1, e2, e3, hs0]
    intro n1 hn1 hfc
    have hn1' : n4 ≤ n1 := hn1
    rw [rl_still rq.2.2.2]
    have hfl : flushDo x no = (x, 0) := by rw [flush_yes c0, flushE_no (fun hh => hs0 hh.1)]
    exact .of (by rw [hfl]; exact ⟨hr0.1, ho.mono (by omega) (by omega)⟩) (by rw [hfl])
  obtain ⟨qp, fs, w, u, us, t, zb, K, V⟩ := eng_seat hf hs0
  have hsK : (0 : Int) ≤ (K : Int) := by omega
  rcases Bool.eq_false_or_eq_true (seatAt x no).dirty with c1 | c1
  rotate_left
  · simp -dsimp only [go_sem, rq.1, rq.2.1, rq.2.2.1, hf.all, e1, e2, e3, V.k, V.kli, V.kl, hsK, V.e1, V.e0, V.ek, V.w2, c1]
    intro n1 hn1 hfc
    have hn1' : n4 ≤ n1 := hn1
    rw [rl_still rq.2.2.2]
    have hfl : flushDo x no = (x, 0) := by rw [flush_yes c0, flushE_no (fun hh => by rw [c1] at hh; exact absurd hh.2 (by decide))]
    exact .of (by rw [hfl]; exact ⟨hr0.1, ho.mono (by omega) (by omega)⟩) (by rw [hfl])
  have hpk := (poolOk_iff.1 hF.pool).2.2.2.1 K V.kl
  rw [← V.at_] at hpk
  have hnoE : (seatAt x no).no = no := by
    obtain ⟨hk1, hh⟩ := seated_spec hs0
    rw [V.at_]
    have e : (Md.seated x.pool no).toNat = K := by have := V.k; omega
    simp only [e] at hh; exact hh
  obtain ⟨k, hk⟩ := Int.eq_ofNat_of_zero_le hin'.1
  subst hk
  have hk8 : k < 8 := by omega
  have hk8i : (k : Int) < 8 := by omega
  have hsp := szPage_ok V.pg hpk.2.2
  have wp := shp_page _ _ V.pg
  obtain ⟨fd, hd0, hdl, hdst, hdf⟩ := hq.dk
  simp -dsimp only [go_sem, rq.1, rq.2.1, rq.2.2.1, hf.all, e1, e2, e3, V.k, V.kli, V.kl, hsK, V.e1, V.e0, V.ek, V.w2, c1, wp.1, wp.2.1, wp.2.2.1]
  refine xcall_p (clonePage_p _ _ V.pg (by omega)) (by simp -dsimp only [go_sem, rl_still, wp.2.2.2]) fun m6 p6 r6 hm6 hp6 hr6 => ?_
  have hm6' : n4 ≤ m6 := hm6
  have rp6 := shp_page _ _ hr6.1
  obtain ⟨u6, hu6, hus6, u60, u61⟩ := id hr6.1
  have u60 : u6 0 = _ := u60
  refine ⟨hr6.2.tags, ?_⟩
  simp -dsimp only [go_sem, rp6.1, rp6.2.1, rp6.2.2.1, hu6, u60]
  intro g6 b6 hb6
  have hb6' : p6 ≤ b6 := hb6
  refine xcall_cs (l := 6) (g := g5) (b := b5) (sure_b q x (seatAt x k).p.lsn m0 p0 hq ho (by omega)) (by rfl) (by trivial) (by simp -dsimp only [go_sem]) hq.is.still fun m2 m3 d2 r2 hm2 hm3 hQ2 => ?_
  obtain ⟨L2, rfl, hL2, hLt2, hE2⟩ := hQ2
  have hm2' : b6 + 1 ≤ m2 := hm2
  have E1 := hq.log hL2
  rw [← hu6]
  have yp := shp_page _ _ (hdf k (by omega))
  simp -dsimp only [go_sem, hq.all, hd0, hk8, hk8i, rp6.1, rp6.2.1, rp6.2.2.1, yp.1, yp.2.1, yp.2.2.1]
  have qp1 := shp_pool _ _ hq.q1
  refine xcall_p (clean_p _ x.pool k hq.q1 (by have := szPool_ok hq.q1 hF.pool; omega) hq.q1.data) (by simp -dsimp only [go_sem, rl_still, qp1.2.2.2, rl_lit]) fun m7 p7 r7 hm7 hp7 hr7 => ?_
  have hr7 := hr7.out
  have hm7' : m3 ≤ m7 := hm7
  have rp7 := shp_pool _ _ hr7.1
  refine ⟨hr7.2.tags, ?_⟩
  simp -dsimp only [go_sem, rp7.1, rp7.2.1, rp7.2.2.1, hq.all, rp6.1, rp6.2.1, rp6.2.2.1, hd0]
  intro n1 hn1 hfc
  have hn1' : p7 ≤ n1 := hn1
  have oE : Own m0 m3 (.node engK (upd q 2 L2)) := hE2.put.own.mono (by omega) (Nat.le_refl _)
  have o0 := own_sub (i := 0) ho (by decide)
  rw [hd0] at o0
  have hD := isA_set (sz := 17) (i := k) hdl hdst hdf hr6.1 rp6.2.2.2
  have PD := Put.node (i := k) (m := p0) o0 (show k < (Kd.arr 8 17).cnt from hk8) (Put.new (d := fd k) (hr6.2.mono (by omega : p0 ≤ m6) (Nat.le_refl _)) (by omega)) (Nat.le_refl _) (by omega)
  have E2 := (E1.disk hD).pool hr7.1
  have hdj : ∀ j, j < engK.cnt → j ≠ 0 → ∀ t ∈ (D.node (.arr 8 17) (upd fd k r6)).tl, t ∉ (upd q 2 L2 j).tl := fun j hj hne t ht hx => by
    have hx' : t ∈ (q j).tl := by
      by_cases e : j = 2
      · subst e; rw [upd_same, hLt2] at hx; exact hx
      · rwa [upd_ne _ _ e] at hx
    rcases PD.sub t ht with h | h
    · exact ho.node.dj 0 j (by omega) hj t (hd0 ▸ h) hx'
    · have := ho.node.rg j hj t hx'; omega
  have oD := oE.repd (i := 0) (PD.own.mono (Nat.le_refl _) (by omega)) hdj
  have oP := (Put.refl (m := m0) oD (Nat.le_refl _)).step (i := 1) (b := n1) (by decide) (hr7.2.mono (Nat.le_refl _) hn1') (by omega) (by omega) (by omega) (by omega)
  rw [rl_still E2.is.still]
  have hfl : flushDo x k = ({ writeE x (seatAt x k) with pool := clean x.pool k }, 0) := by rw [flush_yes c0, flushE_yes ⟨hs0, c1⟩]
  have hkn : (seatAt x (k : Int)).no.toNat = k := by rw [hnoE]; omega
  exact .of (by rw [hfl]; exact ⟨by unfold writeE; rw [hkn]; exact E2.is, oP.own.mono (by omega) (Nat.le_refl _)⟩) (by rw [hfl])
theorem sumBy_mem {α : Type} {f : α → Nat} : ∀ {l : List α} {a : α}, a ∈ l → f a ≤ Md.sumBy f l
  | b :: l, a, h => by
    have e : Md.sumBy f (b :: l) = f b + Md.sumBy f l := by simp [Md.sumBy]
    rw [e]
    rcases List.mem_cons.1 h with rfl | h
    · omega
    · have := sumBy_mem (f := f) h; omega
theorem sumBy_setE {α : Type} {f : α → Nat} : ∀ {l : List α} {k : Nat} {a : α}, Md.sumBy f (l.set k a) ≤ Md.sumBy f l + f a
  | [], _, _ => by simp [Md.sumBy]
  | b :: l, 0, a => by simp [Md.sumBy]; omega
  | b :: l, k + 1, a => by
    have e : Md.sumBy f (b :: l) = f b + Md.sumBy f l := by simp [Md.sumBy]
    have e2 : Md.sumBy f ((b :: l).set (k + 1) a) = f b + Md.sumBy f (l.set k a) := by simp [Md.sumBy]
    have := sumBy_setE (f := f) (l := l) (k := k) (a := a)
    omega
theorem c_cleanE (p : Md.Pool) (no : Int) : Md.cPool (clean p no) = Md.cPool p := by
  unfold clean
  split
  · show Md.cSeats (p.seats.modify _ _) = Md.cSeats p.seats
    rw [Md.cSeats_eq, Md.cSeats_eq, List.length_modify]
  · rfl
theorem c_flush (x : Md.Engine) (no : Int) : Md.cEngine (flushDo x no).1 ≤ 11 * Md.szEngine x := by
  have h := cEngine_le x
  unfold flushDo
  split
  · by_cases hf : 0 ≤ Md.seated x.pool no ∧ (seatAt x no).dirty = true
    · rw [flushE_yes hf]
      have e : Md.cEngine { writeE x (seatAt x no) with pool := clean x.pool no } = Md.sumBy Md.szPage (x.disk.set (seatAt x no).no.toNat (seatAt x no).p) + Md.cPool (clean x.pool no) + Md.cLog x.log + 3 * x.txs.length + 2 * x.holds.length := rfl
      have e2 : Md.cEngine x = Md.sumBy Md.szPage x.disk + Md.cPool x.pool + Md.cLog x.log + 3 * x.txs.length + 2 * x.holds.length := rfl
      have h2 := sumBy_setE (f := Md.szPage) (l := x.disk) (k := (seatAt x no).no.toNat) (a := (seatAt x no).p)
      have h3 : Md.szPage (seatAt x no).p ≤ Md.sumBy Md.szSeat x.pool.seats := by
        have hlt := seated_lt hf.1
        have : seatAt x no = x.pool.seats[(Md.seated x.pool no).toNat] := getD_at hlt
        rw [this]
        exact sumBy_mem (f := Md.szSeat) (List.getElem_mem hlt)
      have h4 : Md.sumBy Md.szSeat x.pool.seats ≤ Md.szEngine x := by unfold Md.szEngine Md.szPool Md.szSeats; omega
      have h5 := c_cleanE x.pool no
      rw [e, h5]; omega
    · rw [flushE_no hf]; show Md.cEngine x ≤ _; omega
  · show Md.cEngine x ≤ _; omega
theorem lawFlush (d : D) (x : Md.Engine) (no : Int) (h : IsEngine d x) : PCall Tryz.prog 8 [d, .lit (.int .i64 no)] fun _ _ r => r = .lit (.bool true) := by
  have e := shp_engine _ _ h
  have e1 := e.1
  have e2 := e.2.1
  have e3 := e.2.2.1
  have e4 := e.2.2.2
  refine pcall_intro_vt Tryz.func8 rfl (by decide) rfl (by decide) (by rw [Tryz.ntmps8]; simp) fun w0 M n0 hW hT => ivc_sound ?_; simp -dsimp only [Tryz.f8, go_sem, e1, e2, e3]
  have dT : d.tags (· < n0) := hT d (by simp) h.data
  intro g1 b1 hb1
  refine xcall_v (szEngine_p _ _ h 1048576 (by decide) (by decide)) (by simp -dsimp only [go_sem, rl_still, e4]) (fun _ => trivial) fun n1 hn1 => ?_
  simp -dsimp only [go_sem]
  intro hb
  have hs : Md.szEngine x ≤ 1048576 := by
    have := Md.szR_le _ _ hb
    omega
  simp -dsimp only [go_sem, e1, e2, e3]
  refine xcall_p (toEngine_p _ _ h hs) (by simp -dsimp only [go_sem, rl_still, e4]) fun rlo rhi r hrlo hrhi hr => ?_
  have ro := hr.2
  have ri := hr.1
  have rp := shp_engine _ _ ri
  have rp1 := rp.1
  have rp2 := rp.2.1
  have rp3 := rp.2.2.1
  have rp4 := rp.2.2.2
  refine ⟨ro.tags, ?_⟩
  simp -dsimp only [go_sem, e1, e2, e3, rp1, rp2, rp3]
  refine xcall_p (specFlush_p _ _ no ri hs ri.data) (by simp -dsimp only [go_sem, rl_still, rp4]) fun vlo vhi vw hvlo hvhi hvw => ?_
  obtain ⟨v, rfl, hvw2⟩ := hvw.out
  have hv := hvw2
  have vo := hv.2
  have vi := hv.1
  have vp := shp_engine _ _ vi
  have vp1 := vp.1
  have vp2 := vp.2.1
  have vp3 := vp.2.2.1
  have vp4 := vp.2.2.2
  refine ⟨tags_two vo.tags, ?_⟩
  simp -dsimp only [go_sem, e1, e2, e3, rp1, rp2, rp3, vp1, vp2, vp3]
  intro g b hb
  refine xcall_p (toEngine_p _ _ h hs) (by simp -dsimp only [go_sem, rl_still, e4]) fun xvlo xvhi xv hxvlo hxvhi hxv => ?_
  have xvo := hxv.2
  have xvi := hxv.1
  have xvp := shp_engine _ _ xvi
  have xvp1 := xvp.1
  have xvp2 := xvp.2.1
  have xvp3 := xvp.2.2.1
  have xvp4 := xvp.2.2.2
  refine ⟨xvo.tags, ?_⟩
  simp -dsimp only [go_sem, e1, e2, e3, vp1, vp2, vp3, xvp1, xvp2, xvp3]
  intro g12 b12 hb12
  refine xcall_p (flush_p _ _ no xvi hs xvi.data) (by simp -dsimp only [go_sem, rl_still, xvp4]) fun ylo yhi yw hylo hyhi hyw => ?_
  obtain ⟨y, rfl, hyw2⟩ := hyw.out
  have hy := hyw2
  have yo := hy.2
  have yi := hy.1
  have yp := shp_engine _ _ yi
  have yp1 := yp.1
  have yp2 := yp.2.1
  have yp3 := yp.2.2.1
  have yp4 := yp.2.2.2
  refine ⟨tags_two yo.tags, ?_⟩
  simp -dsimp only [go_sem, e1, e2, e3, vp1, vp2, vp3, xvp1, xvp2, xvp3, yp1, yp2, yp3]
  intro g14 b14 hb14
  refine xcall_v (eqEngine_p _ _ _ yi vi) (by simp -dsimp only [go_sem, rl_still, yp4, vp4]) (fun _ => trivial) fun n4 hn4 => ?_
  simp -dsimp only [go_sem, e1, e2, e3, vp1, vp2, vp3, xvp1, xvp2, xvp3, yp1, yp2, yp3, bne_self_eq_false, Bool.not_true, Bool.not_false, Bool.false_eq_true, Bool.true_eq_false, false_imp_iff, true_and, and_true, forall_const, reduceCtorEq]
  refine iwp_plan [(0, true), (1, true), (2, false), (3, false), (4, true)] [2, 8] rfl (by decide +kernel) (by decide) [] (by decide +kernel) ?_
  simp -dsimp only [go_sem, e1, e2, e3, vp1, vp2, vp3, xvp1, xvp2, xvp3, yp1, yp2, yp3]
  refine xcall_p (toEngine_p _ _ h hs) (by simp -dsimp only [go_sem, rl_still, e4]) fun zlo zhi z hzlo hzhi hz => ?_
  have zo := hz.2
  have zi := hz.1
  have zp := shp_engine _ _ zi
  have zp1 := zp.1
  have zp2 := zp.2.1
  have zp3 := zp.2.2.1
  have zp4 := zp.2.2.2
  refine ⟨zo.tags, ?_⟩
  simp -dsimp only [go_sem, e1, e2, e3, vp1, vp2, vp3, xvp1, xvp2, xvp3, yp1, yp2, yp3, zp1, zp2, zp3]
  refine xcall_v (eqEngine_p _ _ _ xvi zi) (by simp -dsimp only [go_sem, rl_still, xvp4, zp4]) (fun _ => trivial) fun n4 hn4 => ?_
  simp -dsimp only [go_sem, e1, e2, e3, vp1, vp2, vp3, xvp1, xvp2, xvp3, yp1, yp2, yp3, zp1, zp2, zp3, bne_self_eq_false, Bool.not_true, Bool.not_false, Bool.false_eq_true, Bool.true_eq_false, false_imp_iff, true_and, and_true, forall_const, reduceCtorEq]
  have hcb := cEngine_le x
  have hz := c_flush x no
  refine xcall_mk (markEngine_p xv x (1) _ _ xvi xvo (by decide) (by omega)) (by simp -dsimp only [go_sem, e1, e2, e3, vp1, vp2, vp3, xvp1, xvp2, xvp3, yp1, yp2, yp3]) xvp3 xvp4 ⟨trivial, trivial⟩ (fun t ht => hW t (by have := xvo.rg t ht; omega)) [1, 7, 10, 11, 2, 6, 8, 9] (fun _ _ => .any) (fun E => upd (upd (upd (upd (fun _ => none) 2 (some (g1, b1, d))) 6 (some (g, b, v))) 8 (some (g12, b12, E))) 9 (some (g14, b14, y))) fun m1 nm1 hnm1 hm1 =>
      ⟨by simp -dsimp only [go_sem, e1, e2, e3, vp1, vp2, vp3, xvp1, xvp2, xvp3, yp1, yp2, yp3], carry_any, ((((CarR.none _ _ _).upd e3 (carry_lo xvo (by omega) dT)).upd vp3 (carry_own xvo vo (.inr (by omega)))).upd (shp_engine _ _ hm1.rel).2.2.1 .here).upd yp3 (carry_own xvo yo (.inl (by omega))), ?_⟩
  have m1p := shp_engine _ _ hm1.rel
  have m1p1 := m1p.1
  have m1p2 := m1p.2.1
  have m1p3 := m1p.2.2.1
  have m1p4 := m1p.2.2.2
  have m1o := hm1.own xvo
  have m1i := hm1.rel
  have hk : ¬ (1 + (Md.cEngine x : Nat) < (0 : Int)) := by omega
  simp -dsimp only [go_sem, e1, e2, e3, vp1, vp2, vp3, xvp1, xvp2, xvp3, yp1, yp2, yp3, m1p1, m1p2, m1p3, hk, bne_self_eq_false, Bool.not_true, Bool.not_false, Bool.false_eq_true, Bool.true_eq_false, false_imp_iff, true_and, and_true, forall_const, reduceCtorEq, decide_false]
  refine xcall_v (eqEngine_p _ _ _ yi vi) (by simp -dsimp only [go_sem, rl_still, yp4, vp4]) (fun _ => trivial) fun n4 hn4 => ?_
  simp -dsimp only [go_sem, e1, e2, e3, vp1, vp2, vp3, xvp1, xvp2, xvp3, yp1, yp2, yp3, m1p1, m1p2, m1p3, hk, decide_false, bne_self_eq_false, Bool.not_true, Bool.not_false, Bool.false_eq_true, Bool.true_eq_false, false_imp_iff, true_and, and_true, forall_const, reduceCtorEq]
  refine xcall_mk (markEngine_p y _ (1) _ _ yi yo (by decide) (by omega)) (by simp -dsimp only [go_sem, e1, e2, e3, vp1, vp2, vp3, xvp1, xvp2, xvp3, yp1, yp2, yp3, m1p1, m1p2, m1p3, hk]) yp3 yp4 ⟨trivial, trivial⟩ (fun t ht => hW t (by have := yo.rg t ht; omega)) [1, 7, 10, 11, 2, 6, 8, 9] (fun _ _ => .any) (fun E => upd (upd (upd (upd (fun _ => none) 2 (some (g1, b1, d))) 6 (some (g, b, v))) 8 (some (g12, b12, m1))) 9 (some (g14, b14, E))) fun m3 nm3 hnm3 hm3 =>
      ⟨by simp -dsimp only [go_sem, e1, e2, e3, vp1, vp2, vp3, xvp1, xvp2, xvp3, yp1, yp2, yp3, m1p1, m1p2, m1p3, hk], carry_any, ((((CarR.none _ _ _).upd e3 (carry_lo yo (by omega) dT)).upd vp3 (carry_own yo vo (.inr (by omega)))).upd m1p3 (carry_own yo m1o (.inr (by omega)))).upd (shp_engine _ _ hm3.rel).2.2.1 .here, ?_⟩
  have m3p := shp_engine _ _ hm3.rel
  have m3p1 := m3p.1
  have m3p2 := m3p.2.1
  have m3p3 := m3p.2.2.1
  have m3p4 := m3p.2.2.2
  have m3o := hm3.own yo
  have m3i := hm3.rel
  simp -dsimp only [go_sem, e1, e2, e3, vp1, vp2, vp3, xvp1, xvp2, xvp3, yp1, yp2, yp3, m1p1, m1p2, m1p3, hk, m3p1, m3p2, m3p3]
  refine xcall_v (heldEngine_p _ (flushDo x no).1 (1) m3i (by decide) (by omega)) (by simp -dsimp only [go_sem, rl_still, m3p4]) (fun _ => trivial) fun n7 hn7 => ?_
  have hk2 : ¬ (1 + (Md.cEngine (flushDo x no).1 : Nat) < (0 : Int)) := by omega
  simp -dsimp only [go_sem, e1, e2, e3, vp1, vp2, vp3, xvp1, xvp2, xvp3, yp1, yp2, yp3, m1p1, m1p2, m1p3, hk, m3p1, m3p2, m3p3, hk2, bne_self_eq_false, Bool.not_true, Bool.not_false, Bool.false_eq_true, Bool.true_eq_false, false_imp_iff, true_and, and_true, forall_const, reduceCtorEq, decide_false]
  refine xcall_p (toEngine_p _ _ h hs) (by simp -dsimp only [go_sem, rl_still, e4]) fun r2lo r2hi r2 hr2lo hr2hi hr2 => ?_
  have r2o := hr2.2
  have r2i := hr2.1
  have r2p := shp_engine _ _ r2i
  have r2p1 := r2p.1
  have r2p2 := r2p.2.1
  have r2p3 := r2p.2.2.1
  have r2p4 := r2p.2.2.2
  refine ⟨r2o.tags, ?_⟩
  simp -dsimp only [go_sem, e1, e2, e3, vp1, vp2, vp3, xvp1, xvp2, xvp3, yp1, yp2, yp3, m1p1, m1p2, m1p3, hk, m3p1, m3p2, m3p3, hk2, r2p1, r2p2, r2p3]
  refine xcall_p (flush_p _ _ no r2i hs r2i.data) (by simp -dsimp only [go_sem, rl_still, r2p4]) fun hvlo hvhi hvw hhvlo hhvhi hhvw => ?_
  obtain ⟨hv, rfl, hhvw2⟩ := hhvw.out
  have hhv := hhvw2
  have hvo := hhv.2
  have hvi := hhv.1
  have hvp := shp_engine _ _ hvi
  have hvp1 := hvp.1
  have hvp2 := hvp.2.1
  have hvp3 := hvp.2.2.1
  have hvp4 := hvp.2.2.2
  refine ⟨tags_two hvo.tags, ?_⟩
  simp -dsimp only [go_sem, e1, e2, e3, vp1, vp2, vp3, xvp1, xvp2, xvp3, yp1, yp2, yp3, m1p1, m1p2, m1p3, hk, m3p1, m3p2, m3p3, hk2, r2p1, r2p2, r2p3, hvp1, hvp2, hvp3]
  intro g19 b19 hb19
  refine xcall_v (eqEngine_p _ _ _ hvi vi) (by simp -dsimp only [go_sem, rl_still, hvp4, vp4]) (fun _ => trivial) fun n4 hn4 => ?_
  simp -dsimp only [go_sem, e1, e2, e3, vp1, vp2, vp3, xvp1, xvp2, xvp3, yp1, yp2, yp3, m1p1, m1p2, m1p3, hk, m3p1, m3p2, m3p3, hk2, hvp1, hvp2, hvp3, decide_false, bne_self_eq_false, Bool.not_true, Bool.not_false, Bool.false_eq_true, Bool.true_eq_false, false_imp_iff, true_and, and_true, forall_const, reduceCtorEq]
  refine xcall_v (heldEngine_p _ (flushDo x no).1 (1) m3i (by decide) (by omega)) (by simp -dsimp only [go_sem, rl_still, m3p4]) (fun _ => trivial) fun n9 hn9 => ?_
  simp -dsimp only [go_sem, e1, e2, e3, vp1, vp2, vp3, xvp1, xvp2, xvp3, yp1, yp2, yp3, m1p1, m1p2, m1p3, hk, m3p1, m3p2, m3p3, hk2, hvp1, hvp2, hvp3, bne_self_eq_false, Bool.not_true, Bool.not_false, Bool.false_eq_true, Bool.true_eq_false, false_imp_iff, true_and, and_true, forall_const, reduceCtorEq, decide_false]
end Go.Proofs.YtncinhlaabdlaaaGreat.IM
end
