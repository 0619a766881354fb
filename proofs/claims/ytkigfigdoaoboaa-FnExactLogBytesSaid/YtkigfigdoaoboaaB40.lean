/- Several of my texts in one module (merge.py). -/
import Derived.Test.YtkigfigdoaoboaaB38
import Derived.Test.YtkigfigdoaoboaaA5
import Derived.Test.YtkigfigdoaoboaaB36
import Derived.Test.YtkigfigdoaoboaaB13
section
/- Contracts: logs as bytes. -/
namespace Go.Proofs.Ytkigfigdoaoboaa.IM
open Go Go.Proofs Go.RowKit
set_option linter.unusedVariables false
set_option linter.unusedSimpArgs false
set_option maxHeartbeats 2000000
set_option maxRecDepth 20000

theorem putRec_small (r : Md.Rec) : (putRec r).length ≤ 3600 := by
  cases h : Md.recOk r with
  | false => rw [putRec_no h]; simp
  | true =>
    have h1 := putRec_length r
    have h2 : r.txs.length ≤ 20 := by
      unfold Md.recOk at h
      simp only [Bool.and_eq_true] at h
      have h := h.2
      split at h
      · unfold Md.livesOk at h
        simp only [Bool.and_eq_true, decide_eq_true_eq] at h
        exact h.2.2
      · simp only [Bool.and_eq_true] at h
        have := h.1.2
        rw [List.isEmpty_iff] at this
        rw [this]; exact Nat.zero_le _
    omega
/-- the frames of the first i records -/
def recFr (r : Md.Rec) : List Int := Md.frame (putRec r)
def logUp (l : Md.Log) (i : Nat) : List Int := ((l.recs.take i).map recFr).flatten
def logBytes (l : Md.Log) : List Int := if Md.logOk l = true then logUp l l.recs.length else []
theorem logBytes_yes {l : Md.Log} (h : Md.logOk l = true) : logBytes l = logUp l l.recs.length := if_pos h
theorem logBytes_no {l : Md.Log} (h : Md.logOk l = false) : logBytes l = [] := if_neg (by simp [h])
theorem logUp_zero (l : Md.Log) : logUp l 0 = [] := rfl
theorem logUp_succ {l : Md.Log} {i : Nat} (h : i < l.recs.length) : logUp l (i + 1) = logUp l i ++ recFr l.recs[i] := by
  unfold logUp; rw [List.take_succ_eq_append_getElem h, List.map_append, List.flatten_append]; simp
theorem recFr_pos (r : Md.Rec) : 0 < (recFr r).length := by
  unfold recFr; rw [← frame_flat]; simp [Md.four_length]; omega
theorem recFr_len (r : Md.Rec) : (recFr r).length ≤ 3614 := by
  have h1 := frame_len (putRec r)
  have h2 := putRec_small r
  unfold recFr; omega
theorem logUp_len {l : Md.Log} : ∀ i, i ≤ l.recs.length → (logUp l i).length ≤ 3614 * i
  | 0, _ => by rw [logUp_zero]; simp
  | i + 1, h => by
    have h1 := logUp_len (l := l) i (by omega)
    have hi : i < l.recs.length := by omega
    have h2 := recFr_len l.recs[i]
    rw [logUp_succ hi, List.length_append]; omega
theorem logOk_len {l : Md.Log} (h : Md.logOk l = true) : l.recs.length ≤ 4000 := by
  unfold Md.logOk at h
  simp only [Bool.and_eq_true, decide_eq_true_eq] at h
  exact h.1.2
theorem logBytes_length (l : Md.Log) : (logBytes l).length ≤ 14456000 := by
  cases h : Md.logOk l with
  | false => rw [logBytes_no h]; simp
  | true =>
    have h1 := logOk_len h
    have h2 := logUp_len (l := l) l.recs.length (Nat.le_refl _)
    rw [logBytes_yes h]; omega
theorem specLogBytes_p (d : D) (l : Md.Log) (h : IsLog d l) (hs : Md.szLog l ≤ 1048576) : PCall Try.prog 88 [d] fun n0 n1 r => IsL 1 IsByte r (logBytes l) ∧ Own n0 n1 r := by
  have hd := h
  have q := shp_log _ _ h
  have q1 := q.1
  have q2 := q.2.1
  have q3 := q.2.2.1
  have q4 := q.2.2.2
  obtain ⟨f, rfl, hst, h0, h1⟩ := h
  refine pcall_intro_t Try.func88 rfl (by decide) rfl (by decide) (by rw [Try.ntmps88]; simp) fun w0 M n0 hW hT => ivc_sound ?_; simp -dsimp only [Try.f88, go_sem, q1, q2, q3]
  intro g1 b1 hb1 g2 b2 hb2
  refine xcall_v (specLogOk_p _ _ hd) (by simp -dsimp only [go_sem, rl_still, q4]) (fun _ => trivial) fun n2 hn2 => ?_
  simp -dsimp only [go_sem]
  refine ⟨fun hb => ?_, fun hb => ?_⟩
  · intro n1 hn1 hfc
    rw [logBytes_no (by simpa using hb)]
    exact fin_zero (fun _ => by simp only [stillL_nil, stillL_cons, still_lit, still_nil, still_any, still_nodeN, still_nodeC, and_self]) rfl (by omega) (by omega)
  have hok : Md.logOk l = true := by simpa using hb
  refine iwp_forR l.recs.length [1, 2] (fun i n' s R => s 4 = .lit (.int .i64 i) ∧ ∃ g b fb, s 3 = .msl 5 g 0 [] 0 (logUp l i).length 1 ∧
      R = upd (upd (fun _ => none) 1 (some (g1, b1, .node (.agg [1, 1]) f))) 5 (some (g, b, .node (.arr (logUp l i).length 1) fb)) ∧ ByteRow fb (logUp l i) ∧ n0 ≤ b ∧ b < n') 0 (Nat.zero_le _)
    ⟨by simp -dsimp only [go_sem]; rfl, g2, b2, _, by simp -dsimp only [go_sem]; rfl, rfl, ByteRow.nil _ fun _ => trivial, by omega, by omega⟩ ?_
  rintro i n8 s8 R8 hi hn8 hk8 ⟨h4, g8, b8, f8, h38, rfl, hB8, hb8, hnb8⟩
  refine ivc_sound ?_
  simp -dsimp only [go_sem] at hk8
  have hlen := logOk_len hok
  have hpl := logUp_len i hi
  by_cases hlt : i < l.recs.length
  · have hlt' : (i : Int) < (l.recs.length : Int) := by omega
    obtain ⟨t, zb, fi, hfe, hst', hf'⟩ := h0.sl hlt
    have hfi := hf' i hlt
    have qs := shp_rec _ _ hfi
    have e1 := qs.1
    have e2 := qs.2.1
    have e3 := qs.2.2.1
    have e4 := qs.2.2.2
    have hl8 := h0.lenT
    rw [hfe] at hl8
    have hw := i64_succ (i := i) (by omega)
    have hsr : Md.szRec l.recs[i] ≤ 1048576 := by
      have := Md.sumBy_mem Md.szRec l.recs l.recs[i] (List.getElem_mem hlt)
      unfold Md.szLog Md.szRecs at hs
      omega
    simp -dsimp only [go_sem, hk8, h4, h38, hlt, hlt', hw, hfe, hl8, e1, e2, e3]
    refine xcall_p (specPutRec_p _ _ hfi hsr) (by simp -dsimp only [go_sem, rl_still, e4]) fun m1 p1 r1 hm1 hp1 hr1 => ?_
    have x1 := hr1.1.still
    refine ⟨hr1.2.tags, ?_⟩
    simp -dsimp only [go_sem, hk8, h4, h38]
    refine xcall_p (specFrame_p _ _ hr1.1 (inR_rec _) (by have := putRec_small l.recs[i]; omega)) (by simp -dsimp only [go_sem, rl_still, x1]) fun m2 p2 r2 hm2 hp2 hr2 => ?_
    refine ⟨hr2.2.tags, ?_⟩
    have hfl := recFr_len l.recs[i]
    obtain ⟨f9, sz, hsrc, hsz, hT, hrow0, hl0⟩ := hr2.1.src
    simp -dsimp only [go_sem, hk8, h4, h38, hsrc, hT]
    have hfl' : (Md.frame (putRec l.recs[i])).length ≤ 3614 := hfl
    refine ⟨hsz, by omega, by omega, fun g3 b3 n3 hn3 hb5 hb6 => ?_⟩
    simp -dsimp only [go_sem, hk8, h4, hw]
    have hrow2 := hB8.append hrow0
    have hlen2 : (logUp l i ++ Md.frame (putRec l.recs[i])).length = (logUp l i).length + (Md.frame (putRec l.recs[i])).length := List.length_append ..
    rw [← hlen2]
    rw [show logUp l i ++ Md.frame (putRec l.recs[i]) = logUp l (i + 1) from (logUp_succ hlt).symm] at hrow2 ⊢
    exact into_r (by omega) (by simp -dsimp only [go_sem, hk8, hfe]) ⟨by simp -dsimp only [go_sem], g3, b3, _, by simp -dsimp only [go_sem] <;> rfl, rfl, hrow2, by rcases hb6 with h | h <;> omega, by omega⟩
  · have hlt' : ¬ (i : Int) < (l.recs.length : Int) := by omega
    have ei : logUp l i = logBytes l := by rw [logBytes_yes hok]; congr 1; omega
    simp -dsimp only [go_sem, hk8, h4, h38, hlt', h0.lenT, h0.size, h0.isNode, h0.plain]
    intro n1 hn1 hfc
    rw [rls_still hB8.1]
    rw [ei] at hB8 hpl ⊢
    exact hB8.own (by omega) (by omega) (by omega)
theorem logBytes_p (d : D) (l : Md.Log) (h : IsLog d l) (hs : Md.szLog l ≤ 1048576) : PCall Try.prog 89 [d] fun n0 n1 r => IsL 1 IsByte r (logBytes l) ∧ Own n0 n1 r := by
  have hd := h
  have q := shp_log _ _ h
  have q1 := q.1
  have q2 := q.2.1
  have q3 := q.2.2.1
  have q4 := q.2.2.2
  obtain ⟨f, rfl, hst, h0, h1⟩ := h
  refine pcall_intro_t Try.func89 rfl (by decide) rfl (by decide) (by rw [Try.ntmps89]; simp) fun w0 M n0 hW hT => ivc_sound ?_; simp -dsimp only [Try.f89, go_sem, q1, q2, q3]
  intro g1 b1 hb1
  refine xcall_v (logOk_p _ _ hd) (by simp -dsimp only [go_sem, rl_still, q4]) (fun _ => trivial) fun n2 hn2 => ?_
  simp -dsimp only [go_sem]
  refine ⟨fun hb => ?_, fun hb => ?_⟩
  · intro n1 hn1 hfc
    rw [logBytes_no (by simpa using hb)]
    exact fin_nil
  have hok : Md.logOk l = true := by simpa using hb
  simp -dsimp only [go_sem, h0.lenT, h0.size, h0.isNode, h0.plain]
  refine iwp_forR l.recs.length [2, 10, 11] (fun i n' s R => s 12 = .lit (.int .i64 i) ∧ ((i = 0 ∧ s 3 = .nil ∧ R = upd (fun _ => none) 1 (some (g1, b1, .node (.agg [1, 1]) f))) ∨ (0 < i ∧ ∃ g b fb, s 3 = .msl 20 g 0 [] 0 (logUp l i).length 1 ∧
      R = upd (upd (fun _ => none) 1 (some (g1, b1, .node (.agg [1, 1]) f))) 20 (some (g, b, .node (.arr (logUp l i).length 1) fb)) ∧ ByteRow fb (logUp l i) ∧ n0 ≤ b ∧ b < n'))) 0 (Nat.zero_le _)
    ⟨by simp -dsimp only [go_sem]; rfl, .inl ⟨rfl, by simp -dsimp only [go_sem], rfl⟩⟩ ?_
  rintro i n8 s8 R8 hi hn8 hk8 ⟨h4, h3⟩
  refine ivc_sound ?_
  simp -dsimp only [go_sem] at hk8
  have hlen := logOk_len hok
  have hpl := logUp_len i hi
  by_cases hlt : i < l.recs.length
  · have hlt' : (i : Int) < (l.recs.length : Int) := by omega
    obtain ⟨t, zb, fi, hfe, hst', hf'⟩ := h0.sl hlt
    have hfi := hf' i hlt
    have qs := shp_rec _ _ hfi
    have e1 := qs.1
    have e2 := qs.2.1
    have e3 := qs.2.2.1
    have e4 := qs.2.2.2
    have hl8 := h0.lenT
    rw [hfe] at hl8
    have hw := i64_succ (i := i) (by omega)
    have hsr : Md.szRec l.recs[i] ≤ 1048576 := by
      have := Md.sumBy_mem Md.szRec l.recs l.recs[i] (List.getElem_mem hlt)
      unfold Md.szLog Md.szRecs at hs
      omega
    have hfl := recFr_len l.recs[i]
    have hfl' : (Md.frame (putRec l.recs[i])).length ≤ 3614 := hfl
    have hfp : 0 < (Md.frame (putRec l.recs[i])).length := recFr_pos l.recs[i]
    rcases h3 with ⟨rfl, h38, rfl⟩ | ⟨hpos, g8, b8, f8, h38, rfl, hB8, hb8, hnb8⟩
    · simp -dsimp only [go_sem, hk8, h4, h38, hlt, hlt', hw, hfe, hl8, e1, e2, e3]
      intro g9 b9 hb9
      refine xcall_p (putRec_p _ _ hfi hsr) (by simp -dsimp only [go_sem, rl_still, e4]) fun m1 p1 r1 hm1 hp1 hr1 => ?_
      have x1 := hr1.1.still
      refine ⟨hr1.2.tags, ?_⟩
      simp -dsimp only [go_sem, hk8, h4, h38]
      refine xcall_p (implFrame_p _ _ hr1.1 (inR_rec _) (by have := putRec_small l.recs[0]; omega)) (by simp -dsimp only [go_sem, rl_still, x1]) fun m2 p2 r2 hm2 hp2 hr2 => ?_
      refine ⟨hr2.2.tags, ?_⟩
      obtain ⟨f9, sz, hsrc, hsz, hT, hrow0, hl0⟩ := hr2.1.src
      simp -dsimp only [go_sem, hk8, h4, h38, hsrc, hT]
      refine ⟨hsz, by omega, by omega, fun h => absurd h (by omega), fun _ g3 b3 n3 hn3 hb5 hb6 => ?_⟩
      have e1 : logUp l 1 = Md.frame (putRec l.recs[0]) := by rw [logUp_succ hlt, logUp_zero]; rfl
      rw [← e1] at hrow0 ⊢
      exact into_rd (R' := upd (upd (fun _ => none) 1 (some (g1, b1, .node (.agg [1, 1]) f))) 20 (some (g3, b3, .node (.arr (logUp l 1).length 1) f9))) (drop1 rfl (by decide)) (by omega) (by simp -dsimp only [go_sem, hk8, hfe]) ⟨by simp -dsimp only [go_sem, hw], .inr ⟨g3, b3, f9, by simp -dsimp only [go_sem] <;> rfl, rfl, hrow0, by omega, by omega⟩⟩
    · simp -dsimp only [go_sem, hk8, h4, h38, hlt, hlt', hw, hfe, hl8, e1, e2, e3]
      intro g9 b9 hb9
      refine xcall_p (putRec_p _ _ hfi hsr) (by simp -dsimp only [go_sem, rl_still, e4]) fun m1 p1 r1 hm1 hp1 hr1 => ?_
      have x1 := hr1.1.still
      refine ⟨hr1.2.tags, ?_⟩
      simp -dsimp only [go_sem, hk8, h4, h38]
      refine xcall_p (implFrame_p _ _ hr1.1 (inR_rec _) (by have := putRec_small l.recs[i]; omega)) (by simp -dsimp only [go_sem, rl_still, x1]) fun m2 p2 r2 hm2 hp2 hr2 => ?_
      refine ⟨hr2.2.tags, ?_⟩
      obtain ⟨f9, sz, hsrc, hsz, hT, hrow0, hl0⟩ := hr2.1.src
      simp -dsimp only [go_sem, hk8, h4, h38, hsrc, hT]
      refine ⟨hsz, by omega, by omega, fun g3 b3 n3 hn3 hb5 hb6 => ?_⟩
      simp -dsimp only [go_sem, hk8, h4, hw]
      have hrow2 := hB8.append hrow0
      have hlen2 : (logUp l i ++ Md.frame (putRec l.recs[i])).length = (logUp l i).length + (Md.frame (putRec l.recs[i])).length := List.length_append ..
      rw [← hlen2]
      rw [show logUp l i ++ Md.frame (putRec l.recs[i]) = logUp l (i + 1) from (logUp_succ hlt).symm] at hrow2 ⊢
      exact into_rd (drop2 rfl (by decide)) (by omega) (by simp -dsimp only [go_sem, hk8, hfe]) ⟨by simp -dsimp only [go_sem], .inr ⟨by omega, g3, b3, _, by simp -dsimp only [go_sem] <;> rfl, rfl, hrow2, by rcases hb6 with h | h <;> omega, by omega⟩⟩
  · have hlt' : ¬ (i : Int) < (l.recs.length : Int) := by omega
    have ei : logUp l i = logBytes l := by rw [logBytes_yes hok]; congr 1; omega
    rcases h3 with ⟨rfl, h38, rfl⟩ | ⟨hpos, g8, b8, f8, h38, rfl, hB8, hb8, hnb8⟩
    · simp -dsimp only [go_sem, hk8, h4, h38, hlt', h0.lenT, h0.size, h0.isNode, h0.plain]
      intro n1 hn1 hfc
      rw [← ei, logUp_zero]
      exact fin_nil
    · simp -dsimp only [go_sem, hk8, h4, h38, hlt', h0.lenT, h0.size, h0.isNode, h0.plain]
      intro n1 hn1 hfc
      rw [rls_still hB8.1]
      rw [ei] at hB8 hpl ⊢
      exact hB8.own (by omega) (by omega) (by omega)
end Go.Proofs.Ytkigfigdoaoboaa.IM
end

section
/- The law of LogBytes. Printed by laws6.py. -/
namespace Go.Proofs.Ytkigfigdoaoboaa.IM
open Go Go.Proofs
set_option linter.unusedVariables false
set_option linter.unusedSimpArgs false
set_option maxHeartbeats 2000000
set_option maxRecDepth 20000

theorem lawLogBytes (d : D) (x : Md.Log) (h : IsLog d x) : PCall Try.prog 15 [d] fun _ _ r => r = .lit (.bool true) := by
  have e := shp_log _ _ h
  have e1 := e.1
  have e2 := e.2.1
  have e3 := e.2.2.1
  have e4 := e.2.2.2
  refine pcall_intro_vt Try.func15 rfl (by decide) rfl (by decide) (by rw [Try.ntmps15]; simp) fun w0 M n0 hW hT => ivc_sound ?_; simp -dsimp only [Try.f15, go_sem, e1, e2, e3]
  have dT : d.tags (· < n0) := hT d (by simp) h.data
  intro g1 b1 hb1
  refine xcall_v (szLog_p _ _ h 1048576 (by decide) (by decide)) (by simp -dsimp only [go_sem, rl_still, e4]) (fun _ => trivial) fun n1 hn1 => ?_
  simp -dsimp only [go_sem]
  intro hb
  have hs : Md.szLog x ≤ 1048576 := by
    have := Md.szR_le _ _ hb
    omega
  simp -dsimp only [go_sem, e1, e2, e3]
  refine xcall_p (toLog_p _ _ h hs) (by simp -dsimp only [go_sem, rl_still, e4]) fun rlo rhi r hrlo hrhi hr => ?_
  have ro := hr.2
  have ri := hr.1
  have rp := shp_log _ _ ri
  have rp1 := rp.1
  have rp2 := rp.2.1
  have rp3 := rp.2.2.1
  have rp4 := rp.2.2.2
  refine ⟨ro.tags, ?_⟩
  simp -dsimp only [go_sem, e1, e2, e3, rp1, rp2, rp3]
  refine xcall_p (specLogBytes_p _ _ ri hs) (by simp -dsimp only [go_sem, rl_still, rp4]) fun vlo vhi v hvlo hvhi hvw => ?_
  have hv := hvw
  have vo := hv.2
  have vi := hv.1
  have vp1 := vi.size
  have vp2 := vi.isNode
  have vp3 := vi.plain
  have vp4 := vi.still
  refine ⟨vo.tags, ?_⟩
  simp -dsimp only [go_sem, e1, e2, e3, rp1, rp2, rp3, vp1, vp2, vp3]
  refine xcall_p (toLog_p _ _ h hs) (by simp -dsimp only [go_sem, rl_still, e4]) fun xvlo xvhi xv hxvlo hxvhi hxv => ?_
  have xvo := hxv.2
  have xvi := hxv.1
  have xvp := shp_log _ _ xvi
  have xvp1 := xvp.1
  have xvp2 := xvp.2.1
  have xvp3 := xvp.2.2.1
  have xvp4 := xvp.2.2.2
  refine ⟨xvo.tags, ?_⟩
  simp -dsimp only [go_sem, e1, e2, e3, vp1, vp2, vp3, xvp1, xvp2, xvp3]
  intro g12 b12 hb12
  refine xcall_p (logBytes_p _ _ xvi hs) (by simp -dsimp only [go_sem, rl_still, xvp4]) fun ylo yhi y hylo hyhi hyw => ?_
  have hy := hyw
  have yo := hy.2
  have yi := hy.1
  have yp1 := yi.size
  have yp2 := yi.isNode
  have yp3 := yi.plain
  have yp4 := yi.still
  refine ⟨yo.tags, ?_⟩
  simp -dsimp only [go_sem, e1, e2, e3, vp1, vp2, vp3, xvp1, xvp2, xvp3, yp1, yp2, yp3]
  refine xcall_v (eqByteS_p _ _ _ yi vi) (by simp -dsimp only [go_sem, rl_still, yp4, vp4]) (fun _ => trivial) fun n4 hn4 => ?_
  simp -dsimp only [go_sem, e1, e2, e3, vp1, vp2, vp3, xvp1, xvp2, xvp3, yp1, yp2, yp3, bne_self_eq_false, Bool.not_true, Bool.not_false, Bool.false_eq_true, Bool.true_eq_false, false_imp_iff, true_and, and_true, forall_const, reduceCtorEq]
  refine iwp_plan [(0, true), (1, true), (2, false), (3, false), (4, true)] [1, 5] rfl (by decide +kernel) (by decide) [] (by decide +kernel) ?_
  simp -dsimp only [go_sem, e1, e2, e3, vp1, vp2, vp3, xvp1, xvp2, xvp3, yp1, yp2, yp3]
  refine xcall_p (toLog_p _ _ h hs) (by simp -dsimp only [go_sem, rl_still, e4]) fun zlo zhi z hzlo hzhi hz => ?_
  have zo := hz.2
  have zi := hz.1
  have zp := shp_log _ _ zi
  have zp1 := zp.1
  have zp2 := zp.2.1
  have zp3 := zp.2.2.1
  have zp4 := zp.2.2.2
  refine ⟨zo.tags, ?_⟩
  simp -dsimp only [go_sem, e1, e2, e3, vp1, vp2, vp3, xvp1, xvp2, xvp3, yp1, yp2, yp3, zp1, zp2, zp3]
  refine xcall_v (eqLog_p _ _ _ xvi zi) (by simp -dsimp only [go_sem, rl_still, xvp4, zp4]) (fun _ => trivial) fun n4 hn4 => ?_
  simp -dsimp only [go_sem, e1, e2, e3, vp1, vp2, vp3, xvp1, xvp2, xvp3, yp1, yp2, yp3, zp1, zp2, zp3, bne_self_eq_false, Bool.not_true, Bool.not_false, Bool.false_eq_true, Bool.true_eq_false, false_imp_iff, true_and, and_true, forall_const, reduceCtorEq]
  have hcb : Md.cLog x ≤ 10 * Md.szLog x := cLog_le x
  have hz := logBytes_length x
  have cfm14 : ∀ E, Carry xv E v v := fun E => carry_own xvo vo (.inr (by omega))
  have cfm16 : ∀ E, Carry xv E y y := fun E => carry_own xvo yo (.inl (by omega))
  refine xcall_mk (markLog_p xv x (1) _ _ xvi xvo (by decide) (by omega)) (by simp -dsimp only [go_sem, e1, e2, e3, vp1, vp2, vp3, xvp1, xvp2, xvp3, yp1, yp2, yp3]) xvp3 xvp4 ⟨trivial, trivial⟩ (fun t ht => hW t (by have := xvo.rg t ht; omega)) [7, 1, 5, 4, 6] (fun _ _ => .any) (fun E => upd (upd (fun _ => none) 1 (some (g1, b1, d))) 5 (some (g12, b12, E))) fun m1 nm1 hnm1 hm1 =>
      ⟨by simp -dsimp only [go_sem, e1, e2, e3, vp1, vp2, vp3, xvp1, xvp2, xvp3, yp1, yp2, yp3, cfm14, cfm16], carry_any, ((CarR.none _ _ _).upd e3 (carry_lo xvo (by omega) dT)).upd (shp_log _ _ hm1.rel).2.2.1 .here, ?_⟩
  have m1p := shp_log _ _ hm1.rel
  have m1p1 := m1p.1
  have m1p2 := m1p.2.1
  have m1p3 := m1p.2.2.1
  have m1p4 := m1p.2.2.2
  have m1o := hm1.own xvo
  have m1i := hm1.rel
  have hk : ¬ (1 + (Md.cLog x : Nat) < (0 : Int)) := by omega
  simp -dsimp only [go_sem, e1, e2, e3, vp1, vp2, vp3, xvp1, xvp2, xvp3, yp1, yp2, yp3, m1p1, m1p2, m1p3, hk, bne_self_eq_false, Bool.not_true, Bool.not_false, Bool.false_eq_true, Bool.true_eq_false, false_imp_iff, true_and, and_true, forall_const, reduceCtorEq, decide_false]
  refine xcall_v (eqByteS_p _ _ _ yi vi) (by simp -dsimp only [go_sem, rl_still, yp4, vp4]) (fun _ => trivial) fun n4 hn4 => ?_
  simp -dsimp only [go_sem, e1, e2, e3, vp1, vp2, vp3, xvp1, xvp2, xvp3, yp1, yp2, yp3, m1p1, m1p2, m1p3, hk, decide_false, bne_self_eq_false, Bool.not_true, Bool.not_false, Bool.false_eq_true, Bool.true_eq_false, false_imp_iff, true_and, and_true, forall_const, reduceCtorEq]
  have cfm34 : ∀ E, Carry y E v v := fun E => carry_own yo vo (.inr (by omega))
  refine xcall_mk (markByteS_p y _ (1) _ _ yi yo (by decide) (by omega)) (by simp -dsimp only [go_sem, e1, e2, e3, vp1, vp2, vp3, xvp1, xvp2, xvp3, yp1, yp2, yp3, m1p1, m1p2, m1p3, hk]) yp3 yp4 ⟨trivial, trivial⟩ (fun t ht => hW t (by have := yo.rg t ht; omega)) [7, 1, 5, 4] (fun E => upd (fun _ => .any) 6 E) (fun E => upd (upd (fun _ => none) 1 (some (g1, b1, d))) 5 (some (g12, b12, m1))) fun m3 nm3 hnm3 hm3 =>
      ⟨by simp -dsimp only [go_sem, e1, e2, e3, vp1, vp2, vp3, xvp1, xvp2, xvp3, yp1, yp2, yp3, m1p1, m1p2, m1p3, hk, cfm34], carry_upd (by simp -dsimp only [go_sem, e1, e2, e3, vp1, vp2, vp3, xvp1, xvp2, xvp3, yp1, yp2, yp3, m1p1, m1p2, m1p3, hk]; exact .here) carry_any, ((CarR.none _ _ _).upd e3 (carry_lo yo (by omega) dT)).upd m1p3 (carry_own yo m1o (.inr (by omega))), ?_⟩
  have m3p1 := hm3.rel.size
  have m3p2 := hm3.rel.isNode
  have m3p3 := hm3.rel.plain
  have m3p4 := hm3.rel.still
  have m3o := hm3.own yo
  have m3i := hm3.rel
  simp -dsimp only [go_sem, e1, e2, e3, vp1, vp2, vp3, xvp1, xvp2, xvp3, yp1, yp2, yp3, m1p1, m1p2, m1p3, hk, m3p1, m3p2, m3p3]
  refine xcall_v (heldBytes_p _ _ (1) m3i (by decide) (by omega)) (by simp -dsimp only [go_sem, rl_still, m3p4]) (fun _ => trivial) fun n7 hn7 => ?_
  have hk2 : ¬ (1 + ((logBytes x).length : Nat) < (0 : Int)) := by omega
  simp -dsimp only [go_sem, e1, e2, e3, vp1, vp2, vp3, xvp1, xvp2, xvp3, yp1, yp2, yp3, m1p1, m1p2, m1p3, hk, m3p1, m3p2, m3p3, hk2, bne_self_eq_false, Bool.not_true, Bool.not_false, Bool.false_eq_true, Bool.true_eq_false, false_imp_iff, true_and, and_true, forall_const, reduceCtorEq, decide_false]
  refine xcall_p (toLog_p _ _ h hs) (by simp -dsimp only [go_sem, rl_still, e4]) fun r2lo r2hi r2 hr2lo hr2hi hr2 => ?_
  have r2o := hr2.2
  have r2i := hr2.1
  have r2p := shp_log _ _ r2i
  have r2p1 := r2p.1
  have r2p2 := r2p.2.1
  have r2p3 := r2p.2.2.1
  have r2p4 := r2p.2.2.2
  refine ⟨r2o.tags, ?_⟩
  simp -dsimp only [go_sem, e1, e2, e3, vp1, vp2, vp3, xvp1, xvp2, xvp3, yp1, yp2, yp3, m1p1, m1p2, m1p3, hk, m3p1, m3p2, m3p3, hk2, r2p1, r2p2, r2p3]
  refine xcall_p (logBytes_p _ _ r2i hs) (by simp -dsimp only [go_sem, rl_still, r2p4]) fun hvlo hvhi hv hhvlo hhvhi hhvw => ?_
  have hhv := hhvw
  have hvo := hhv.2
  have hvi := hhv.1
  have hvp1 := hvi.size
  have hvp2 := hvi.isNode
  have hvp3 := hvi.plain
  have hvp4 := hvi.still
  refine ⟨hvo.tags, ?_⟩
  simp -dsimp only [go_sem, e1, e2, e3, vp1, vp2, vp3, xvp1, xvp2, xvp3, yp1, yp2, yp3, m1p1, m1p2, m1p3, hk, m3p1, m3p2, m3p3, hk2, r2p1, r2p2, r2p3, hvp1, hvp2, hvp3]
  refine xcall_v (eqByteS_p _ _ _ hvi vi) (by simp -dsimp only [go_sem, rl_still, hvp4, vp4]) (fun _ => trivial) fun n4 hn4 => ?_
  simp -dsimp only [go_sem, e1, e2, e3, vp1, vp2, vp3, xvp1, xvp2, xvp3, yp1, yp2, yp3, m1p1, m1p2, m1p3, hk, m3p1, m3p2, m3p3, hk2, hvp1, hvp2, hvp3, decide_false, bne_self_eq_false, Bool.not_true, Bool.not_false, Bool.false_eq_true, Bool.true_eq_false, false_imp_iff, true_and, and_true, forall_const, reduceCtorEq]
  refine xcall_v (heldBytes_p _ _ (1) m3i (by decide) (by omega)) (by simp -dsimp only [go_sem, rl_still, m3p4]) (fun _ => trivial) fun n9 hn9 => ?_
  simp -dsimp only [go_sem, e1, e2, e3, vp1, vp2, vp3, xvp1, xvp2, xvp3, yp1, yp2, yp3, m1p1, m1p2, m1p3, hk, m3p1, m3p2, m3p3, hk2, hvp1, hvp2, hvp3, bne_self_eq_false, Bool.not_true, Bool.not_false, Bool.false_eq_true, Bool.true_eq_false, false_imp_iff, true_and, and_true, forall_const, reduceCtorEq, decide_false]
end Go.Proofs.Ytkigfigdoaoboaa.IM
end
