/- Several of my texts in one module (merge.py, shake.py). -/
import Derived.Test.YtncinhlaabdlaaaGreatGtA4
import Derived.Test.YtncinhlaabdlaaaGreatGtA3
import Derived.Test.YtncinhlaabdlaaaGreatGtA5
section
namespace Go.Proofs.YtncinhlaabdlaaaGreat.IM
open Go Go.Proofs
set_option linter.unusedVariables false
set_option linter.unusedSimpArgs false
set_option maxHeartbeats 2000000
set_option maxRecDepth 20000
theorem w8 (n : Int) : IntKind.u8.wrap n = n % 256 := by simp [IntKind.wrap, IntKind.bits, IntKind.signed]
theorem markIntS_p (d : D) (xs : List Int) (k : Int) (lo hi : Nat) (h : IsL 1 IsInt d xs) (ho : Own lo hi d) (hk0 : 0 ≤ k) (hk1 : k + (xs.length : Nat) ≤ 4611686018427387904) :
    MCall Tryz.prog 150 d [.lit (.int .i64 k)] (.int .i64 (k + (xs.length : Nat))) (Mkd (IsL 1 IsInt) (Md.mkInts k xs.length) d) := by
  rcases h with ⟨rfl, rfl⟩ | ⟨t, zb, f, rfl, hst, hsh, hf⟩
  · refine mcall_intro Tryz.func150 rfl (by decide) rfl (by decide) (by rw [Tryz.ntmps150]; simp) trivial fun w0 M n0 hW hS => ivc_sound ?_; simp -dsimp only [Tryz.f150, go_sem]
    refine iwp_forK 0 [0, 4] (fun i s => s 5 = .lit (.int .i64 i) ∧ s 1 = .lit (.int .i64 k)) 0 (Nat.zero_le _) ⟨by simp -dsimp only [go_sem]; rfl, by simp -dsimp only [go_sem]⟩ ?_
    rintro i n' s hi hn hk ⟨h5, h1⟩
    refine ivc_sound ?_
    simp -dsimp only [go_sem] at hk
    obtain rfl : i = 0 := by omega
    simp -dsimp only [go_sem, hk, h5, h1, Int.lt_irrefl, decide_false]
    exact ⟨by simp, mkd_nil.fin⟩
  · obtain rfl : zb = true := ho.wh.1
    refine mcall_intro_sl Tryz.func150 rfl (by decide) rfl (by decide) (by rw [Tryz.ntmps150]; simp) trivial (own_free ho) trivial fun w0 M n0 g hW hS => ivc_sound ?_; simp -dsimp only [Tryz.f150, go_sem]
    have hlen : (Md.mkInts k xs.length).length = xs.length := by simp [Md.mkInts_length]
    refine iwp_forR xs.length [0, 4] (fun i n' s R => s 5 = .lit (.int .i64 i) ∧ s 1 = .lit (.int .i64 (k + (1 * i : Nat))) ∧ ∃ fe, R = upd (fun _ => none) 1000 (some (g, t, .node (.arr xs.length 1) fe)) ∧ MFill IsInt 1 (Md.mkInts k xs.length) f xs.length i fe) 0 (Nat.zero_le _)
      ⟨by simp -dsimp only [go_sem]; rfl, by simp -dsimp only [go_sem]; simp, _, rfl, MFill.start hst (fun j hj => by have q := shp_int _ _ (hf j hj); exact ⟨q.2.2.1, q.1⟩) ho.wh.2⟩ ?_
    rintro i n' s R hi hn hk ⟨h5, h1, fe, rfl, hm⟩
    refine ivc_sound ?_
    simp -dsimp only [go_sem] at hk
    by_cases hlt : i < xs.length
    · have hw := i64_succ (i := i) (by omega)
      have hold : fe i = f i := hm.old i (Nat.le_refl _)
      have hf0 := hf i hlt
      have hw1 : IntKind.i64.wrap (k + (1 * i : Nat) + 1) = k + (1 * (i + 1) : Nat) := by rw [w64 (by omega) (by omega)]; omega
      have q1 := (hm.sh i hlt).1
      have q2 := (hm.sh i hlt).2
      simp -dsimp only [go_sem, hk, h5, h1, hlt, hw, hw1, q1, q2]
      exact into_r (by omega) (by simp -dsimp only [go_sem, hk]) ⟨by simp -dsimp only [go_sem], by simp -dsimp only [go_sem], _, rfl, hm.step shp_int (by rw [hlen]; exact hlt) (by simp [IsInt, Md.mkInts_get]) (by rw [hf0.tl]; rfl) trivial⟩
    · simp -dsimp only [go_sem, hk, h5, h1, hlt]
      have hmk := hm.mkd (t := t) hlen hlt hsh
      refine ⟨by omega, ?_⟩
      rw [rls_still hm.st]
      exact hmk.fin
theorem markLiveS_p (d : D) (xs : List Md.Live) (k : Int) (lo hi : Nat) (h : IsL 3 IsLive d xs) (ho : Own lo hi d) (hk0 : 0 ≤ k) (hk1 : k + (3 * xs.length : Nat) ≤ 4611686018427387904) :
    MCall Tryz.prog 75 d [.lit (.int .i64 k)] (.int .i64 (k + (3 * xs.length : Nat))) (Mkd (IsL 3 IsLive) (Md.mkLives k xs) d) := by
  rcases h with ⟨rfl, rfl⟩ | ⟨t, zb, f, rfl, hst, hsh, hf⟩
  · refine mcall_intro Tryz.func75 rfl (by decide) rfl (by decide) (by rw [Tryz.ntmps75]; simp) trivial fun w0 M n0 hW hS => ivc_sound ?_; simp -dsimp only [Tryz.f75, go_sem]
    refine iwp_forK 0 [0, 4] (fun i s => s 5 = .lit (.int .i64 i) ∧ s 1 = .lit (.int .i64 k)) 0 (Nat.zero_le _) ⟨by simp -dsimp only [go_sem]; rfl, by simp -dsimp only [go_sem]⟩ ?_
    rintro i n' s hi hn hk ⟨h5, h1⟩
    refine ivc_sound ?_
    simp -dsimp only [go_sem] at hk
    obtain rfl : i = 0 := by omega
    simp -dsimp only [go_sem, hk, h5, h1, Int.lt_irrefl, decide_false]
    exact ⟨by simp, mkd_nil.fin⟩
  · obtain rfl : zb = true := ho.wh.1
    refine mcall_intro_sl Tryz.func75 rfl (by decide) rfl (by decide) (by rw [Tryz.ntmps75]; simp) trivial (own_free ho) trivial fun w0 M n0 g hW hS => ivc_sound ?_; simp -dsimp only [Tryz.f75, go_sem]
    have hlen : (Md.mkLives k xs).length = xs.length := by simp [mkLives_length]
    refine iwp_forR xs.length [0, 4] (fun i n' s R => s 5 = .lit (.int .i64 i) ∧ s 1 = .lit (.int .i64 (k + (3 * i : Nat))) ∧ ∃ fe, R = upd (fun _ => none) 1000 (some (g, t, .node (.arr xs.length 3) fe)) ∧ MFill IsLive 3 (Md.mkLives k xs) f xs.length i fe) 0 (Nat.zero_le _)
      ⟨by simp -dsimp only [go_sem]; rfl, by simp -dsimp only [go_sem]; simp, _, rfl, MFill.start hst (fun j hj => by have q := shp_live _ _ (hf j hj); exact ⟨q.2.2.1, q.1⟩) ho.wh.2⟩ ?_
    rintro i n' s R hi hn hk ⟨h5, h1, fe, rfl, hm⟩
    refine ivc_sound ?_
    simp -dsimp only [go_sem] at hk
    by_cases hlt : i < xs.length
    · have hw := i64_succ (i := i) (by omega)
      have hold : fe i = f i := hm.old i (Nat.le_refl _)
      have hf0 := hf i hlt
      obtain ⟨kf, hkf, hks, l0, l1, l2⟩ := hf0
      have hf0 := hf i hlt
      have hfe : fe i = _ := hold.trans hkf
      have l0 : kf 0 = _ := l0
      have l1 : kf 1 = _ := l1
      have l2 : kf 2 = _ := l2
      have hw0 : IntKind.i64.wrap (k + (3 * i : Nat) + 1) = k + (3 * i + 1 : Nat) := by rw [w64 (by omega) (by omega)]; omega
      have hw1 : IntKind.i64.wrap (k + (3 * i + 1 : Nat) + 1) = k + (3 * i + 2 : Nat) := by rw [w64 (by omega) (by omega)]; omega
      have hw2 : IntKind.i64.wrap (k + (3 * i + 2 : Nat) + 1) = k + (3 * (i + 1) : Nat) := by rw [w64 (by omega) (by omega)]; omega
      simp -dsimp only [go_sem, hk, h5, h1, hlt, hw, hfe, hw0, hw1, hw2, l0, l1, l2]
      have hrel : IsLive (.node (.agg [1, 1, 1]) (upd (upd (upd kf 0 (.lit (.int .i64 (k + (3 * i : Nat))))) 1 (.lit (.int .i64 (k + (3 * i + 1 : Nat))))) 2 (.lit (.bool (Int.tmod (k + (3 * i + 2 : Nat)) 3 == 0))))) (Md.mkLives k xs)[i] := by
        rw [mkLives_get k xs i (by rw [hlen]; exact hlt) hlt]
        exact ⟨_, rfl, still_upd (still_upd (still_upd hks trivial) trivial) trivial, rfl, rfl, rfl⟩
      exact into_r (by omega) (by simp -dsimp only [go_sem, hk]) ⟨by simp -dsimp only [go_sem], by simp -dsimp only [go_sem], _, rfl, hm.step shp_live (by rw [hlen]; exact hlt) hrel (by rw [hrel.tl, hf0.tl]) hrel.wh⟩
    · simp -dsimp only [go_sem, hk, h5, h1, hlt]
      have hmk := hm.mkd (t := t) hlen hlt hsh
      refine ⟨by omega, ?_⟩
      rw [rls_still hm.st]
      exact hmk.fin
theorem markHoldS_p (d : D) (xs : List Md.Hold) (k : Int) (lo hi : Nat) (h : IsL 2 IsHold d xs) (ho : Own lo hi d) (hk0 : 0 ≤ k) (hk1 : k + (2 * xs.length : Nat) ≤ 4611686018427387904) :
    MCall Tryz.prog 76 d [.lit (.int .i64 k)] (.int .i64 (k + (2 * xs.length : Nat))) (Mkd (IsL 2 IsHold) (Md.mkHolds k xs) d) := by
  rcases h with ⟨rfl, rfl⟩ | ⟨t, zb, f, rfl, hst, hsh, hf⟩
  · refine mcall_intro Tryz.func76 rfl (by decide) rfl (by decide) (by rw [Tryz.ntmps76]; simp) trivial fun w0 M n0 hW hS => ivc_sound ?_; simp -dsimp only [Tryz.f76, go_sem]
    refine iwp_forK 0 [0, 4] (fun i s => s 5 = .lit (.int .i64 i) ∧ s 1 = .lit (.int .i64 k)) 0 (Nat.zero_le _) ⟨by simp -dsimp only [go_sem]; rfl, by simp -dsimp only [go_sem]⟩ ?_
    rintro i n' s hi hn hk ⟨h5, h1⟩
    refine ivc_sound ?_
    simp -dsimp only [go_sem] at hk
    obtain rfl : i = 0 := by omega
    simp -dsimp only [go_sem, hk, h5, h1, Int.lt_irrefl, decide_false]
    exact ⟨by simp, mkd_nil.fin⟩
  · obtain rfl : zb = true := ho.wh.1
    refine mcall_intro_sl Tryz.func76 rfl (by decide) rfl (by decide) (by rw [Tryz.ntmps76]; simp) trivial (own_free ho) trivial fun w0 M n0 g hW hS => ivc_sound ?_; simp -dsimp only [Tryz.f76, go_sem]
    have hlen : (Md.mkHolds k xs).length = xs.length := by simp [mkHolds_length]
    refine iwp_forR xs.length [0, 4] (fun i n' s R => s 5 = .lit (.int .i64 i) ∧ s 1 = .lit (.int .i64 (k + (2 * i : Nat))) ∧ ∃ fe, R = upd (fun _ => none) 1000 (some (g, t, .node (.arr xs.length 2) fe)) ∧ MFill IsHold 2 (Md.mkHolds k xs) f xs.length i fe) 0 (Nat.zero_le _)
      ⟨by simp -dsimp only [go_sem]; rfl, by simp -dsimp only [go_sem]; simp, _, rfl, MFill.start hst (fun j hj => by have q := shp_hold _ _ (hf j hj); exact ⟨q.2.2.1, q.1⟩) ho.wh.2⟩ ?_
    rintro i n' s R hi hn hk ⟨h5, h1, fe, rfl, hm⟩
    refine ivc_sound ?_
    simp -dsimp only [go_sem] at hk
    by_cases hlt : i < xs.length
    · have hw := i64_succ (i := i) (by omega)
      have hold : fe i = f i := hm.old i (Nat.le_refl _)
      have hf0 := hf i hlt
      obtain ⟨kf, hkf, hks, l0, l1⟩ := hf0
      have hf0 := hf i hlt
      have hfe : fe i = _ := hold.trans hkf
      have l0 : kf 0 = _ := l0
      have l1 : kf 1 = _ := l1
      have hw0 : IntKind.i64.wrap (k + (2 * i : Nat) + 1) = k + (2 * i + 1 : Nat) := by rw [w64 (by omega) (by omega)]; omega
      have hw1 : IntKind.i64.wrap (k + (2 * i + 1 : Nat) + 1) = k + (2 * (i + 1) : Nat) := by rw [w64 (by omega) (by omega)]; omega
      simp -dsimp only [go_sem, hk, h5, h1, hlt, hw, hfe, hw0, hw1, l0, l1]
      have hrel : IsHold (.node (.agg [1, 1]) (upd (upd kf 0 (.lit (.int .i64 (k + (2 * i : Nat))))) 1 (.lit (.int .i64 (k + (2 * i + 1 : Nat)))))) (Md.mkHolds k xs)[i] := by
        rw [mkHolds_get k xs i (by rw [hlen]; exact hlt) hlt]
        exact ⟨_, rfl, still_upd (still_upd hks trivial) trivial, rfl, rfl⟩
      exact into_r (by omega) (by simp -dsimp only [go_sem, hk]) ⟨by simp -dsimp only [go_sem], by simp -dsimp only [go_sem], _, rfl, hm.step shp_hold (by rw [hlen]; exact hlt) hrel (by rw [hrel.tl, hf0.tl]) hrel.wh⟩
    · simp -dsimp only [go_sem, hk, h5, h1, hlt]
      have hmk := hm.mkd (t := t) hlen hlt hsh
      refine ⟨by omega, ?_⟩
      rw [rls_still hm.st]
      exact hmk.fin
theorem markSeatS_p (d : D) (xs : List Md.Seat) (k : Int) (lo hi : Nat) (h : IsL 20 IsSeat d xs) (ho : Own lo hi d) (hk0 : 0 ≤ k) (hk1 : k + (4 * xs.length : Nat) ≤ 4611686018427387904) :
    MCall Tryz.prog 148 d [.lit (.int .i64 k)] (.int .i64 (k + (4 * xs.length : Nat))) (Mkd (IsL 20 IsSeat) (Md.mkSeats k xs) d) := by
  rcases h with ⟨rfl, rfl⟩ | ⟨t, zb, f, rfl, hst, hsh, hf⟩
  · refine mcall_intro Tryz.func148 rfl (by decide) rfl (by decide) (by rw [Tryz.ntmps148]; simp) trivial fun w0 M n0 hW hS => ivc_sound ?_; simp -dsimp only [Tryz.f148, go_sem]
    refine iwp_forK 0 [0, 4] (fun i s => s 5 = .lit (.int .i64 i) ∧ s 1 = .lit (.int .i64 k)) 0 (Nat.zero_le _) ⟨by simp -dsimp only [go_sem]; rfl, by simp -dsimp only [go_sem]⟩ ?_
    rintro i n' s hi hn hk ⟨h5, h1⟩
    refine ivc_sound ?_
    simp -dsimp only [go_sem] at hk
    obtain rfl : i = 0 := by omega
    simp -dsimp only [go_sem, hk, h5, h1, Int.lt_irrefl, decide_false]
    exact ⟨by simp, mkd_nil.fin⟩
  · obtain rfl : zb = true := ho.wh.1
    refine mcall_intro_sl Tryz.func148 rfl (by decide) rfl (by decide) (by rw [Tryz.ntmps148]; simp) trivial (own_free ho) trivial fun w0 M n0 g hW hS => ivc_sound ?_; simp -dsimp only [Tryz.f148, go_sem]
    have hlen : (Md.mkSeats k xs).length = xs.length := by simp [mkSeats_length]
    refine iwp_forR xs.length [0, 4] (fun i n' s R => s 5 = .lit (.int .i64 i) ∧ s 1 = .lit (.int .i64 (k + (4 * i : Nat))) ∧ ∃ fe, R = upd (fun _ => none) 1000 (some (g, t, .node (.arr xs.length 20) fe)) ∧ MFill IsSeat 20 (Md.mkSeats k xs) f xs.length i fe) 0 (Nat.zero_le _)
      ⟨by simp -dsimp only [go_sem]; rfl, by simp -dsimp only [go_sem]; simp, _, rfl, MFill.start hst (fun j hj => by have q := shp_seat _ _ (hf j hj); exact ⟨q.2.2.1, q.1⟩) ho.wh.2⟩ ?_
    rintro i n' s R hi hn hk ⟨h5, h1, fe, rfl, hm⟩
    refine ivc_sound ?_
    simp -dsimp only [go_sem] at hk
    by_cases hlt : i < xs.length
    · have hw := i64_succ (i := i) (by omega)
      have hold : fe i = f i := hm.old i (Nat.le_refl _)
      have hf0 := hf i hlt
      obtain ⟨kf, hkf, hks, l0, l1, l2, l3⟩ := hf0
      have hf0 := hf i hlt
      have hfe : fe i = _ := hold.trans hkf
      obtain ⟨pf, hpf, hps, m0, m1⟩ := l1
      have l0 : kf 0 = _ := l0
      have l2 : kf 2 = _ := l2
      have l3 : kf 3 = _ := l3
      have m0 : pf 0 = _ := m0
      have hw0 : IntKind.i64.wrap (k + (4 * i : Nat) + 1) = k + (4 * i + 1 : Nat) := by rw [w64 (by omega) (by omega)]; omega
      have hw1 : IntKind.i64.wrap (k + (4 * i + 1 : Nat) + 1) = k + (4 * i + 2 : Nat) := by rw [w64 (by omega) (by omega)]; omega
      have hw2 : IntKind.i64.wrap (k + (4 * i + 2 : Nat) + 1) = k + (4 * i + 3 : Nat) := by rw [w64 (by omega) (by omega)]; omega
      have hw3 : IntKind.i64.wrap (k + (4 * i + 3 : Nat) + 1) = k + (4 * (i + 1) : Nat) := by rw [w64 (by omega) (by omega)]; omega
      simp -dsimp only [go_sem, hk, h5, h1, hlt, hw, hfe, hw0, hw1, hw2, hw3, l0, l2, l3, hpf, m0]
      have hw1 : (D.node (.agg [1, 17, 1, 1]) kf).whole := by rw [← hkf]; exact ho.wh.2 i hlt
      have hw2 : (D.node (.agg [1, 16]) pf).whole := by rw [← hpf]; exact hw1 1 (by decide)
      have hrel : IsSeat (.node (.agg [1, 17, 1, 1]) (upd (upd (upd (upd kf 0 (.lit (.int .i64 (k + (4 * i : Nat))))) 1 (.node (.agg [1, 16]) (upd pf 0 (.lit (.int .i64 (k + (4 * i + 1 : Nat))))))) 2 (.lit (.bool (Int.tmod (k + (4 * i + 2 : Nat)) 3 == 0)))) 3 (.lit (.bool (Int.tmod (k + (4 * i + 3 : Nat)) 3 == 0))))) (Md.mkSeats k xs)[i] := by
        rw [mkSeats_get k xs i (by rw [hlen]; exact hlt) hlt]
        exact ⟨_, rfl, still_upd (still_upd (still_upd (still_upd hks trivial) (still_upd hps trivial)) trivial) trivial, rfl, ⟨_, rfl, still_upd hps trivial, rfl, m1⟩, rfl, rfl⟩
      have htl : (D.node (.agg [1, 17, 1, 1]) (upd (upd (upd (upd kf 0 (.lit (.int .i64 (k + (4 * i : Nat))))) 1 (.node (.agg [1, 16]) (upd pf 0 (.lit (.int .i64 (k + (4 * i + 1 : Nat))))))) 2 (.lit (.bool (Int.tmod (k + (4 * i + 2 : Nat)) 3 == 0)))) 3 (.lit (.bool (Int.tmod (k + (4 * i + 3 : Nat)) 3 == 0))))).tl = (f i).tl := by
        rw [tl_upd (by simp -dsimp only [go_sem, l3]; rfl), tl_upd (by simp -dsimp only [go_sem, l2]; rfl), tl_upd (by simp -dsimp only [go_sem, hpf]; exact tl_upd (by rw [m0]; rfl)), tl_upd (by rw [l0]; rfl), hkf]
      exact into_r (by omega) (by simp -dsimp only [go_sem, hk]) ⟨by simp -dsimp only [go_sem], by simp -dsimp only [go_sem], _, rfl, hm.step shp_seat (by rw [hlen]; exact hlt) hrel htl (wh_upd (wh_upd (wh_upd (wh_upd hw1 trivial) (wh_upd hw2 trivial)) trivial) trivial)⟩
    · simp -dsimp only [go_sem, hk, h5, h1, hlt]
      have hmk := hm.mkd (t := t) hlen hlt hsh
      refine ⟨by omega, ?_⟩
      rw [rls_still hm.st]
      exact hmk.fin
theorem markObj_p (d : D) (x : Md.Obj) (k : Int) (lo hi : Nat) (h : IsObj d x) (ho : Own lo hi d) (hk0 : 0 ≤ k) (hk1 : k + (Md.szObj x : Nat) ≤ 4611686018427387904) :
    MCall Tryz.prog 77 d [.lit (.int .i64 k)] (.int .i64 (k + (Md.szObj x : Nat))) (Mkd IsObj (Md.mkObj k x) d) := by
  obtain ⟨f, rfl, hst, k0, k1, k2⟩ := h
  have hn := ho.node
  have hun : Md.szObj x = x.ints.length + x.refs.length := rfl
  refine mcall_intro Tryz.func77 rfl (by decide) rfl (by decide) (by rw [Tryz.ntmps77]; simp) trivial fun w0 M n0 hW hS => ivc_sound ?_; simp -dsimp only [Tryz.f77, go_sem, k1.size, k1.isNode, k1.plain, k1.still, k2.size, k2.isNode, k2.plain, k2.still]
  intro g b hb
  refine xcall_mk (markIntS_p _ _ (k) lo hi k1 (ho.node.own (i := 1) (by decide)) (by omega) (by omega)) (by simp -dsimp only [go_sem, k1.size, k1.isNode, k1.plain, k1.still, k2.size, k2.isNode, k2.plain, k2.still]) k1.plain k1.still ⟨trivial, trivial⟩ (fun t ht => hS t (tl_child (i := 1) (by decide) ht)) [2] (fun e => upd (fun _ => .any) 0 (.node (.agg [1, 1, 1]) (upd f 1 e))) (fun e => upd (fun _ => none) 2 (some (g, b, .node (.agg [1, 1, 1]) (upd f 1 e)))) fun e0 n0 hn0 hq0 =>
    ⟨by simp -dsimp only [go_sem], carry_upd (by simp -dsimp only [go_sem]; exact carry_field' hn (i := 1) (by decide) rfl) carry_any, (CarR.none _ _ _).upd trivial (carry_field' hn (i := 1) (by decide) rfl), ?_⟩
  have s0 := still_upd hst (k := 1) (by have := hq0.rel; exact this.still)
  have hx0 := hn.upd (i := 1) (d' := e0) hq0.tl hq0.wh
  have c0 := Ch.upd (Ch.refl hn) (i := 1) hq0
  simp -dsimp only [go_sem, k1.size, k1.isNode, k1.plain, k1.still, k2.size, k2.isNode, k2.plain, k2.still, hq0.rel.size, hq0.rel.isNode, hq0.rel.plain]
  refine xcall_mk (markIntS_p _ _ (k + (x.ints.length : Nat)) lo hi k2 (ho.node.own (i := 2) (by decide)) (by omega) (by omega)) (by simp -dsimp only [go_sem, k1.size, k1.isNode, k1.plain, k1.still, k2.size, k2.isNode, k2.plain, k2.still]) k2.plain k2.still ⟨trivial, trivial⟩ (fun t ht => hS t (tl_child (i := 2) (by decide) ht)) [2] (fun e => upd (fun _ => .any) 0 (.node (.agg [1, 1, 1]) (upd (upd f 1 e0) 2 e))) (fun e => upd (fun _ => none) 2 (some (g, b, .node (.agg [1, 1, 1]) (upd (upd f 1 e0) 2 e)))) fun e1 n1 hn1 hq1 =>
    ⟨by simp -dsimp only [go_sem], carry_upd (by simp -dsimp only [go_sem]; exact carry_field' hx0 (i := 2) (by decide) (by simp -dsimp only [go_sem])) carry_any, (CarR.none _ _ _).upd trivial (carry_field' hx0 (i := 2) (by decide) (by simp -dsimp only [go_sem])), ?_⟩
  have s1 := still_upd s0 (k := 2) (by have := hq1.rel; exact this.still)
  have hx1 := hx0.upd (i := 2) (d' := e1) (by simp -dsimp only [go_sem]; exact hq1.tl) hq1.wh
  have c1 := Ch.upd c0 (i := 2) hq1
  simp -dsimp only [go_sem, k1.size, k1.isNode, k1.plain, k1.still, k2.size, k2.isNode, k2.plain, k2.still, hq0.rel.size, hq0.rel.isNode, hq0.rel.plain, hq1.rel.size, hq1.rel.isNode, hq1.rel.plain]
  rw [rlnode_still s1]
  refine ⟨by omega, (mkd_node ⟨_, rfl, s1, by simp -dsimp only [go_sem]; exact k0, by simp -dsimp only [go_sem]; exact hq0.rel, by simp -dsimp only [go_sem]; exact hq1.rel⟩ c1).fin⟩
theorem markSlot_p (d : D) (x : Md.Slot) (k : Int) (lo hi : Nat) (h : IsSlot d x) (ho : Own lo hi d) (hk0 : 0 ≤ k) (hk1 : k + (Md.szSlot x : Nat) ≤ 4611686018427387904) :
    MCall Tryz.prog 20 d [.lit (.int .i64 k)] (.int .i64 (k + (Md.szSlot x : Nat))) (Mkd IsSlot (Md.mkSlot k x) d) := by
  obtain ⟨f, rfl, hst, k0, k1⟩ := h
  have hn := ho.node
  have q1 := shp_obj _ _ k1
  have hun : Md.szSlot x = Md.szObj x.o := rfl
  refine mcall_intro Tryz.func20 rfl (by decide) rfl (by decide) (by rw [Tryz.ntmps20]; simp) trivial fun w0 M n0 hW hS => ivc_sound ?_; simp -dsimp only [Tryz.f20, go_sem, q1.1, q1.2.1, q1.2.2.1, q1.2.2.2]
  intro g b hb
  refine xcall_mk (markObj_p _ _ (k) lo hi k1 (ho.node.own (i := 1) (by decide)) (by omega) (by omega)) (by simp -dsimp only [go_sem, q1.1, q1.2.1, q1.2.2.1, q1.2.2.2]) q1.2.2.1 q1.2.2.2 ⟨trivial, trivial⟩ (fun t ht => hS t (tl_child (i := 1) (by decide) ht)) [2] (fun e => upd (fun _ => .any) 0 (.node (.agg [1, 3]) (upd f 1 e))) (fun e => upd (fun _ => none) 2 (some (g, b, .node (.agg [1, 3]) (upd f 1 e)))) fun e0 n0 hn0 hq0 =>
    ⟨by simp -dsimp only [go_sem], carry_upd (by simp -dsimp only [go_sem]; exact carry_field' hn (i := 1) (by decide) rfl) carry_any, (CarR.none _ _ _).upd trivial (carry_field' hn (i := 1) (by decide) rfl), ?_⟩
  have s0 := still_upd hst (k := 1) (by exact (shp_obj _ _ hq0.rel).2.2.2)
  have hx0 := hn.upd (i := 1) (d' := e0) hq0.tl hq0.wh
  have c0 := Ch.upd (Ch.refl hn) (i := 1) hq0
  simp -dsimp only [go_sem, q1.1, q1.2.1, q1.2.2.1, q1.2.2.2, (shp_obj _ _ hq0.rel).1, (shp_obj _ _ hq0.rel).2.1, (shp_obj _ _ hq0.rel).2.2.1]
  rw [rlnode_still s0]
  refine ⟨by omega, (mkd_node ⟨_, rfl, s0, by simp -dsimp only [go_sem]; exact k0, by simp -dsimp only [go_sem]; exact hq0.rel⟩ c0).fin⟩
theorem markSlotA4_p (d : D) (xs : List Md.Slot) (k : Int) (lo hi : Nat) (h : IsA 4 4 IsSlot d xs) (ho : Own lo hi d) (hk0 : 0 ≤ k) (hk1 : k + (Md.sumBy Md.szSlot xs : Nat) ≤ 4611686018427387904) :
    MCall Tryz.prog 208 d [.lit (.int .i64 k)] (.int .i64 (k + (Md.sumBy Md.szSlot xs : Nat))) (Mkd (IsA 4 4 IsSlot) (Md.mkL Md.mkSlot Md.szSlot k xs) d) := by
  obtain ⟨hl, f, rfl, hst, hf⟩ := h
  have hn := ho.node
  have hlen : (Md.mkL Md.mkSlot Md.szSlot k xs).length = xs.length := Md.mkL_length _ _ _ _
  refine mcall_intro Tryz.func208 rfl (by decide) rfl (by decide) (by rw [Tryz.ntmps208]; simp) trivial fun w0 M n0 hW hS => ivc_sound ?_; simp -dsimp only [Tryz.f208, go_sem]
  intro g b hb
  refine iwp_forR 4 [2, 4] (fun i n' s R => s 5 = .lit (.int .i64 i) ∧ s 1 = .lit (.int .i64 (k + (Md.sumBy Md.szSlot (xs.take i) : Nat))) ∧ ∃ fe, s 0 = .node (.arr 4 4) fe ∧ R = upd (fun _ => none) 2 (some (g, b, .node (.arr 4 4) fe)) ∧ (∀ j, (fe j).still) ∧ Ch 4 f fe ∧ OwnN lo hi 4 fe ∧ (∀ j, i ≤ j → fe j = f j) ∧ ∀ j (hj : j < (Md.mkL Md.mkSlot Md.szSlot k xs).length), j < i → IsSlot (fe j) (Md.mkL Md.mkSlot Md.szSlot k xs)[j]) 0 (Nat.zero_le _)
    ⟨by simp -dsimp only [go_sem]; rfl, by simp -dsimp only [go_sem]; simp [Md.sumBy], f, by simp -dsimp only [go_sem], rfl, hst, Ch.refl hn, hn, fun _ _ => rfl, fun j _ hj => absurd hj (by omega)⟩ ?_
  rintro i n' s R hile hn' hk ⟨h5, h1, fe, h0, rfl, hst', hc, hon, hold, hok⟩
  refine ivc_sound ?_
  simp -dsimp only [go_sem] at hk
  by_cases hlt : i < 4
  · have hlt' : i < xs.length := by omega
    have hc' : (i : Int) < 4 := by omega
    have hw := i64_succ (i := i) (by omega)
    have hfe : fe i = f i := hold i (Nat.le_refl _)
    have hfi := hf i hlt'
    have q := shp_slot _ _ hfi
    have e1 := q.1
    have e2 := q.2.1
    have e3 := q.2.2.1
    have e4 := q.2.2.2
    have ht := Md.sumBy_take Md.szSlot xs i hlt'
    have hle := Md.sumBy_le Md.szSlot xs (i + 1)
    have hoi := hon.own (i := i) hlt
    rw [hfe] at hoi
    simp -dsimp only [go_sem, hk, h5, h1, hlt, hc', hw, hfe, e1, e2]
    refine xcall_mk (markSlot_p _ _ (k + (Md.sumBy Md.szSlot (xs.take i) : Nat)) lo hi hfi hoi (by omega) (by omega)) (by simp -dsimp only [go_sem, h1, hfe]) e3 e4 ⟨trivial, trivial⟩ (fun t ht => hS t (tl_child (i := i) (show i < 4 from hlt) ht)) [2, 4, 5] (fun e => upd (fun _ => .any) 0 (.node (.arr 4 4) (upd fe i e))) (fun e => upd (fun _ => none) 2 (some (g, b, .node (.arr 4 4) (upd fe i e)))) fun e0 n0' hn0 hq0 =>
      ⟨by simp -dsimp only [go_sem, hk, h5], carry_upd (by simp -dsimp only [go_sem, h0]; exact carry_field' hon (i := i) hlt hfe) carry_any, (CarR.none _ _ _).upd trivial (carry_field' hon (i := i) hlt hfe), ?_⟩
    have qe := shp_slot _ _ hq0.rel
    have hn0 : n' ≤ n0' := hn0
    simp -dsimp only [go_sem, hk, h5, h1, hlt, hw]
    refine into_r (by omega) (by simp -dsimp only [go_sem, hk]) ⟨by simp -dsimp only [go_sem], by simp -dsimp only [go_sem]; rw [ht, Int.natCast_add, ← Int.add_assoc], upd fe i e0, by simp -dsimp only [go_sem], rfl, still_upd hst' qe.2.2.2, Ch.upd hc (by rw [← hfe] at hq0; exact ⟨hq0.rel, hq0.tl.trans (by rw [hfe]), hq0.wh, by rw [← hfe]; exact hq0.sk⟩), hon.upd (by rw [hq0.tl, hfe]) hq0.wh, fun j hj => by rw [upd_ne _ _ (by omega)]; exact hold j (by omega), fun j hj hji => ?_⟩
    by_cases hjj : j = i
    · subst hjj
      rw [upd_same, Md.mkL_get Md.mkSlot Md.szSlot k xs j hj hlt']
      exact hq0.rel
    · rw [upd_ne _ _ hjj]; exact hok j hj (by omega)
  · have hc' : ¬ (i : Int) < 4 := by omega
    simp -dsimp only [go_sem, hk, h5, h1, hlt, hc', h0]
    rw [rlnode_still hst']
    refine ⟨by rw [Md.sumBy_all Md.szSlot xs i (by omega)], ?_⟩
    exact (mkd_node (k := .arr 4 4) ⟨by rw [hlen, hl], fe, rfl, hst', fun j hj => hok j hj (by omega)⟩ hc).fin
theorem markPage_p (d : D) (x : Md.Page) (k : Int) (lo hi : Nat) (h : IsPage d x) (ho : Own lo hi d) (hk0 : 0 ≤ k) (hk1 : k + (Md.szPage x : Nat) ≤ 4611686018427387904) :
    MCall Tryz.prog 147 d [.lit (.int .i64 k)] (.int .i64 (k + (Md.szPage x : Nat))) (Mkd IsPage (Md.mkPage k x) d) := by
  obtain ⟨f, rfl, hst, k0, k1⟩ := h
  have hn := ho.node
  have hun : Md.szPage x = Md.sumBy Md.szSlot x.slots := rfl
  refine mcall_intro Tryz.func147 rfl (by decide) rfl (by decide) (by rw [Tryz.ntmps147]; simp) trivial fun w0 M n0 hW hS => ivc_sound ?_; simp -dsimp only [Tryz.f147, go_sem, k1.size, k1.isNode, k1.plain, k1.still]
  intro g b hb
  refine xcall_mk (markSlotA4_p _ _ (k) lo hi k1 (ho.node.own (i := 1) (by decide)) (by omega) (by omega)) (by simp -dsimp only [go_sem, k1.size, k1.isNode, k1.plain, k1.still]) k1.plain k1.still ⟨trivial, trivial⟩ (fun t ht => hS t (tl_child (i := 1) (by decide) ht)) [2] (fun e => upd (fun _ => .any) 0 (.node (.agg [1, 16]) (upd f 1 e))) (fun e => upd (fun _ => none) 2 (some (g, b, .node (.agg [1, 16]) (upd f 1 e)))) fun e0 n0 hn0 hq0 =>
    ⟨by simp -dsimp only [go_sem], carry_upd (by simp -dsimp only [go_sem]; exact carry_field' hn (i := 1) (by decide) rfl) carry_any, (CarR.none _ _ _).upd trivial (carry_field' hn (i := 1) (by decide) rfl), ?_⟩
  have s0 := still_upd hst (k := 1) (by have := hq0.rel; exact this.still)
  have hx0 := hn.upd (i := 1) (d' := e0) hq0.tl hq0.wh
  have c0 := Ch.upd (Ch.refl hn) (i := 1) hq0
  simp -dsimp only [go_sem, k1.size, k1.isNode, k1.plain, k1.still, hq0.rel.size, hq0.rel.isNode, hq0.rel.plain]
  rw [rlnode_still s0]
  refine ⟨by omega, (mkd_node ⟨_, rfl, s0, by simp -dsimp only [go_sem]; exact k0, by simp -dsimp only [go_sem]; exact hq0.rel⟩ c0).fin⟩
theorem markPool_p (d : D) (x : Md.Pool) (k : Int) (lo hi : Nat) (h : IsPool d x) (ho : Own lo hi d) (hk0 : 0 ≤ k) (hk1 : k + (Md.cPool x : Nat) ≤ 4611686018427387904) :
    MCall Tryz.prog 73 d [.lit (.int .i64 k)] (.int .i64 (k + (Md.cPool x : Nat))) (Mkd IsPool (Md.mkPool k x) d) := by
  obtain ⟨f, rfl, hst, k0, k1⟩ := h
  have hn := ho.node
  have hun : Md.cPool x = 4 * x.seats.length := by simp only [Md.cPool, Md.cSeats_eq]
  refine mcall_intro Tryz.func73 rfl (by decide) rfl (by decide) (by rw [Tryz.ntmps73]; simp) trivial fun w0 M n0 hW hS => ivc_sound ?_; simp -dsimp only [Tryz.f73, go_sem, k0.size, k0.isNode, k0.plain, k0.still]
  intro g b hb
  refine xcall_mk (markSeatS_p _ _ (k) lo hi k0 (ho.node.own (i := 0) (by decide)) (by omega) (by omega)) (by simp -dsimp only [go_sem, k0.size, k0.isNode, k0.plain, k0.still]) k0.plain k0.still ⟨trivial, trivial⟩ (fun t ht => hS t (tl_child (i := 0) (by decide) ht)) [2] (fun e => upd (fun _ => .any) 0 (.node (.agg [1, 1]) (upd f 0 e))) (fun e => upd (fun _ => none) 2 (some (g, b, .node (.agg [1, 1]) (upd f 0 e)))) fun e0 n0 hn0 hq0 =>
    ⟨by simp -dsimp only [go_sem], carry_upd (by simp -dsimp only [go_sem]; exact carry_field' hn (i := 0) (by decide) rfl) carry_any, (CarR.none _ _ _).upd trivial (carry_field' hn (i := 0) (by decide) rfl), ?_⟩
  have s0 := still_upd hst (k := 0) (by have := hq0.rel; exact this.still)
  have hx0 := hn.upd (i := 0) (d' := e0) hq0.tl hq0.wh
  have c0 := Ch.upd (Ch.refl hn) (i := 0) hq0
  simp -dsimp only [go_sem, k0.size, k0.isNode, k0.plain, k0.still, hq0.rel.size, hq0.rel.isNode, hq0.rel.plain]
  rw [rlnode_still s0]
  refine ⟨by omega, (mkd_node ⟨_, rfl, s0, by simp -dsimp only [go_sem]; exact hq0.rel, by simp -dsimp only [go_sem]; exact k1⟩ c0).fin⟩
theorem heldIntS_p (d : D) (xs : List Int) (k : Int) (h : IsL 1 IsInt d xs) (hx : ∀ i (h : i < xs.length), xs[i] = k + (i : Int)) (hk0 : 0 ≤ k) (hk1 : k + (1 * xs.length : Nat) ≤ 4611686018427387904) :
    PCall Tryz.prog 185 [d, .lit (.int .i64 k)] fun _ _ r => r = .lit (.int .i64 (k + (1 * xs.length : Nat))) := by
  have hshort := h.short
  refine pcall_intro_v Tryz.func185 rfl (by decide) rfl (by decide) (by rw [Tryz.ntmps185]; simp) fun w0 M n0 => ivc_sound ?_; simp -dsimp only [Tryz.f185, go_sem, h.lenT]
  refine iwp_forK xs.length [0] (fun i s => s 5 = .lit (.int .i64 i) ∧ s 1 = .lit (.int .i64 (k + (1 * i : Nat)))) 0 (Nat.zero_le _) ⟨by simp -dsimp only [go_sem]; rfl, by simp -dsimp only [go_sem]; simp⟩ ?_
  rintro i n' s hi hn hk ⟨h5, h1⟩
  refine ivc_sound ?_
  simp -dsimp only [go_sem] at hk
  by_cases hlt : i < xs.length
  · obtain ⟨t, zb, fi, hd, hst, hf⟩ := h.sl (i := i) hlt
    have hlT := h.lenT
    rw [hd] at hlT
    have hf0 := hf i hlt
    have hw := i64_succ (i := i) (by omega)
    have hxi := hx i hlt
    have hfi : fi i = .lit (.int .i64 (k + (i : Int))) := hf0.trans (by rw [hxi])
    have e1 : k + ((1 * i : Nat) : Int) = k + i := by omega
    have hw0 : IntKind.i64.wrap (k + (1 * i : Nat) + 1) = k + (1 * (i + 1) : Nat) := by rw [w64 (by omega) (by omega)]; omega
    rw [e1] at hw0
    simp -dsimp only [go_sem, hk, h5, h1, hlt, hlT, hd, hfi, hw, hw0, w8, e1, bne_self_eq_false, Bool.not_true, Bool.not_false, Bool.false_eq_true, Bool.true_eq_false, false_imp_iff, true_and, and_true, forall_const, reduceCtorEq]
    exact into_k (by omega) (by simp -dsimp only [go_sem, hk, hd]) ⟨by simp -dsimp only [go_sem], by simp -dsimp only [go_sem]⟩
  · simp -dsimp only [go_sem, hk, h5, h1, hlt, h.lenT]
    obtain rfl : i = xs.length := by omega
    rfl
theorem heldLiveS_p (d : D) (xs : List Md.Live) (k : Int) (h : IsL 3 IsLive d xs) (hx : ∀ i (h : i < xs.length), xs[i] = ⟨k + (3 * i : Nat), k + (3 * i + 1 : Nat), Md.b3 (k + (3 * i + 2 : Nat))⟩) (hk0 : 0 ≤ k) (hk1 : k + (3 * xs.length : Nat) ≤ 4611686018427387904) :
    PCall Tryz.prog 81 [d, .lit (.int .i64 k)] fun _ _ r => r = .lit (.int .i64 (k + (3 * xs.length : Nat))) := by
  have hshort := h.short
  refine pcall_intro_v Tryz.func81 rfl (by decide) rfl (by decide) (by rw [Tryz.ntmps81]; simp) fun w0 M n0 => ivc_sound ?_; simp -dsimp only [Tryz.f81, go_sem, h.lenT]
  refine iwp_forK xs.length [0] (fun i s => s 5 = .lit (.int .i64 i) ∧ s 1 = .lit (.int .i64 (k + (3 * i : Nat)))) 0 (Nat.zero_le _) ⟨by simp -dsimp only [go_sem]; rfl, by simp -dsimp only [go_sem]; simp⟩ ?_
  rintro i n' s hi hn hk ⟨h5, h1⟩
  refine ivc_sound ?_
  simp -dsimp only [go_sem] at hk
  by_cases hlt : i < xs.length
  · obtain ⟨t, zb, fi, hd, hst, hf⟩ := h.sl (i := i) hlt
    have hlT := h.lenT
    rw [hd] at hlT
    have hf0 := hf i hlt
    have hw := i64_succ (i := i) (by omega)
    have hxi := hx i hlt
    obtain ⟨kf, hkf, hks, l0, l1, l2⟩ := hf0
    have l0 : kf 0 = .lit (.int .i64 (k + (3 * i : Nat))) := by rw [show kf 0 = _ from l0, hxi]
    have l1 : kf 1 = .lit (.int .i64 (k + (3 * i + 1 : Nat))) := by rw [show kf 1 = _ from l1, hxi]
    have l2 : kf 2 = .lit (.bool (Int.tmod (k + (3 * i + 2 : Nat)) 3 == 0)) := by rw [show kf 2 = _ from l2, hxi]; rfl
    have hw0 : IntKind.i64.wrap (k + (3 * i : Nat) + 1) = k + (3 * i + 1 : Nat) := by rw [w64 (by omega) (by omega)]; omega
    have hw1 : IntKind.i64.wrap (k + (3 * i + 1 : Nat) + 1) = k + (3 * i + 2 : Nat) := by rw [w64 (by omega) (by omega)]; omega
    have hw2 : IntKind.i64.wrap (k + (3 * i + 2 : Nat) + 1) = k + (3 * (i + 1) : Nat) := by rw [w64 (by omega) (by omega)]; omega
    simp -dsimp only [go_sem, hk, h5, h1, hlt, hlT, hd, hkf, l0, l1, l2, hw, hw0, hw1, hw2, bne_self_eq_false, Bool.not_true, Bool.not_false, Bool.false_eq_true, Bool.true_eq_false, false_imp_iff, true_and, and_true, forall_const, reduceCtorEq]
    exact into_k (by omega) (by simp -dsimp only [go_sem, hk, hd]) ⟨by simp -dsimp only [go_sem], by simp -dsimp only [go_sem]⟩
  · simp -dsimp only [go_sem, hk, h5, h1, hlt, h.lenT]
    obtain rfl : i = xs.length := by omega
    rfl
theorem heldHoldS_p (d : D) (xs : List Md.Hold) (k : Int) (h : IsL 2 IsHold d xs) (hx : ∀ i (h : i < xs.length), xs[i] = ⟨k + (2 * i : Nat), k + (2 * i + 1 : Nat)⟩) (hk0 : 0 ≤ k) (hk1 : k + (2 * xs.length : Nat) ≤ 4611686018427387904) :
    PCall Tryz.prog 82 [d, .lit (.int .i64 k)] fun _ _ r => r = .lit (.int .i64 (k + (2 * xs.length : Nat))) := by
  have hshort := h.short
  refine pcall_intro_v Tryz.func82 rfl (by decide) rfl (by decide) (by rw [Tryz.ntmps82]; simp) fun w0 M n0 => ivc_sound ?_; simp -dsimp only [Tryz.f82, go_sem, h.lenT]
  refine iwp_forK xs.length [0] (fun i s => s 5 = .lit (.int .i64 i) ∧ s 1 = .lit (.int .i64 (k + (2 * i : Nat)))) 0 (Nat.zero_le _) ⟨by simp -dsimp only [go_sem]; rfl, by simp -dsimp only [go_sem]; simp⟩ ?_
  rintro i n' s hi hn hk ⟨h5, h1⟩
  refine ivc_sound ?_
  simp -dsimp only [go_sem] at hk
  by_cases hlt : i < xs.length
  · obtain ⟨t, zb, fi, hd, hst, hf⟩ := h.sl (i := i) hlt
    have hlT := h.lenT
    rw [hd] at hlT
    have hf0 := hf i hlt
    have hw := i64_succ (i := i) (by omega)
    have hxi := hx i hlt
    obtain ⟨kf, hkf, hks, l0, l1⟩ := hf0
    have l0 : kf 0 = .lit (.int .i64 (k + (2 * i : Nat))) := by rw [show kf 0 = _ from l0, hxi]
    have l1 : kf 1 = .lit (.int .i64 (k + (2 * i + 1 : Nat))) := by rw [show kf 1 = _ from l1, hxi]
    have hw0 : IntKind.i64.wrap (k + (2 * i : Nat) + 1) = k + (2 * i + 1 : Nat) := by rw [w64 (by omega) (by omega)]; omega
    have hw1 : IntKind.i64.wrap (k + (2 * i + 1 : Nat) + 1) = k + (2 * (i + 1) : Nat) := by rw [w64 (by omega) (by omega)]; omega
    simp -dsimp only [go_sem, hk, h5, h1, hlt, hlT, hd, hkf, l0, l1, hw, hw0, hw1, bne_self_eq_false, Bool.not_true, Bool.not_false, Bool.false_eq_true, Bool.true_eq_false, false_imp_iff, true_and, and_true, forall_const, reduceCtorEq]
    exact into_k (by omega) (by simp -dsimp only [go_sem, hk, hd]) ⟨by simp -dsimp only [go_sem], by simp -dsimp only [go_sem]⟩
  · simp -dsimp only [go_sem, hk, h5, h1, hlt, h.lenT]
    obtain rfl : i = xs.length := by omega
    rfl
theorem heldSeatS_p (d : D) (xs : List Md.Seat) (k : Int) (h : IsL 20 IsSeat d xs) (hx : ∀ i (h : i < xs.length), xs[i].no = k + (4 * i : Nat) ∧ xs[i].p.lsn = k + (4 * i + 1 : Nat) ∧ xs[i].dirty = Md.b3 (k + (4 * i + 2 : Nat)) ∧ xs[i].hot = Md.b3 (k + (4 * i + 3 : Nat))) (hk0 : 0 ≤ k) (hk1 : k + (4 * xs.length : Nat) ≤ 4611686018427387904) :
    PCall Tryz.prog 152 [d, .lit (.int .i64 k)] fun _ _ r => r = .lit (.int .i64 (k + (4 * xs.length : Nat))) := by
  have hshort := h.short
  refine pcall_intro_v Tryz.func152 rfl (by decide) rfl (by decide) (by rw [Tryz.ntmps152]; simp) fun w0 M n0 => ivc_sound ?_; simp -dsimp only [Tryz.f152, go_sem, h.lenT]
  refine iwp_forK xs.length [0] (fun i s => s 5 = .lit (.int .i64 i) ∧ s 1 = .lit (.int .i64 (k + (4 * i : Nat)))) 0 (Nat.zero_le _) ⟨by simp -dsimp only [go_sem]; rfl, by simp -dsimp only [go_sem]; simp⟩ ?_
  rintro i n' s hi hn hk ⟨h5, h1⟩
  refine ivc_sound ?_
  simp -dsimp only [go_sem] at hk
  by_cases hlt : i < xs.length
  · obtain ⟨t, zb, fi, hd, hst, hf⟩ := h.sl (i := i) hlt
    have hlT := h.lenT
    rw [hd] at hlT
    have hf0 := hf i hlt
    have hw := i64_succ (i := i) (by omega)
    have hxi := hx i hlt
    obtain ⟨kf, hkf, hks, l0, l1, l2, l3⟩ := hf0
    obtain ⟨pf, hpf, hps, m0, m1⟩ := l1
    obtain ⟨x1, x2, x3, x4⟩ := hxi
    have l0 : kf 0 = .lit (.int .i64 (k + (4 * i : Nat))) := by rw [show kf 0 = _ from l0, x1]
    have m0 : pf 0 = .lit (.int .i64 (k + (4 * i + 1 : Nat))) := by rw [show pf 0 = _ from m0, x2]
    have l2 : kf 2 = .lit (.bool (Int.tmod (k + (4 * i + 2 : Nat)) 3 == 0)) := by rw [show kf 2 = _ from l2, x3]; rfl
    have l3 : kf 3 = .lit (.bool (Int.tmod (k + (4 * i + 3 : Nat)) 3 == 0)) := by rw [show kf 3 = _ from l3, x4]; rfl
    have hw0 : IntKind.i64.wrap (k + (4 * i : Nat) + 1) = k + (4 * i + 1 : Nat) := by rw [w64 (by omega) (by omega)]; omega
    have hw1 : IntKind.i64.wrap (k + (4 * i + 1 : Nat) + 1) = k + (4 * i + 2 : Nat) := by rw [w64 (by omega) (by omega)]; omega
    have hw2 : IntKind.i64.wrap (k + (4 * i + 2 : Nat) + 1) = k + (4 * i + 3 : Nat) := by rw [w64 (by omega) (by omega)]; omega
    have hw3 : IntKind.i64.wrap (k + (4 * i + 3 : Nat) + 1) = k + (4 * (i + 1) : Nat) := by rw [w64 (by omega) (by omega)]; omega
    simp -dsimp only [go_sem, hk, h5, h1, hlt, hlT, hd, hkf, hpf, m0, l0, l2, l3, hw, hw0, hw1, hw2, hw3, bne_self_eq_false, Bool.not_true, Bool.not_false, Bool.false_eq_true, Bool.true_eq_false, false_imp_iff, true_and, and_true, forall_const, reduceCtorEq]
    exact into_k (by omega) (by simp -dsimp only [go_sem, hk, hd]) ⟨by simp -dsimp only [go_sem], by simp -dsimp only [go_sem]⟩
  · simp -dsimp only [go_sem, hk, h5, h1, hlt, h.lenT]
    obtain rfl : i = xs.length := by omega
    rfl
theorem heldObj_p (d : D) (x : Md.Obj) (k : Int) (h : IsObj d (Md.mkObj k x)) (hk0 : 0 ≤ k) (hk1 : k + (Md.szObj x : Nat) ≤ 4611686018427387904) :
    PCall Tryz.prog 110 [d, .lit (.int .i64 k)] fun _ _ r => r = .lit (.int .i64 (k + (Md.szObj x : Nat))) := by
  obtain ⟨f, rfl, hst, k0, k1, k2⟩ := h
  have hun : Md.szObj x = x.ints.length + x.refs.length := rfl
  refine pcall_intro_v Tryz.func110 rfl (by decide) rfl (by decide) (by rw [Tryz.ntmps110]; simp) fun w0 M n0 => ivc_sound ?_; simp -dsimp only [Tryz.f110, go_sem, k1.size, k1.isNode, k1.plain, k1.still, k2.size, k2.isNode, k2.plain, k2.still]
  intro g b hb
  refine xcall_v (heldIntS_p _ (Md.mkInts (k) x.ints.length) (k) k1 (fun i hi => Md.mkInts_get _ _ i hi) (by omega) (by rw [Md.mkInts_length]; omega)) (by simp -dsimp only [go_sem, rl_still, k1.size, k1.isNode, k1.plain, k1.still, k2.size, k2.isNode, k2.plain, k2.still]) (fun _ => trivial) fun n0 hn0 => ?_
  have hg0 : ¬ (k + (x.ints.length : Nat) < 0) := by omega
  simp -dsimp only [go_sem, k1.size, k1.isNode, k1.plain, k1.still, k2.size, k2.isNode, k2.plain, k2.still, hg0, Md.mkInts_length, Nat.one_mul, decide_false]
  refine xcall_v (heldIntS_p _ (Md.mkInts (k + (x.ints.length : Nat)) x.refs.length) (k + (x.ints.length : Nat)) k2 (fun i hi => Md.mkInts_get _ _ i hi) (by omega) (by rw [Md.mkInts_length]; omega)) (by simp -dsimp only [go_sem, rl_still, k1.size, k1.isNode, k1.plain, k1.still, k2.size, k2.isNode, k2.plain, k2.still]) (fun _ => trivial) fun n1 hn1 => ?_
  have hg1 : ¬ (k + (x.ints.length : Nat) + (x.refs.length : Nat) < 0) := by omega
  simp -dsimp only [go_sem, k1.size, k1.isNode, k1.plain, k1.still, k2.size, k2.isNode, k2.plain, k2.still, hg1, Md.mkInts_length, Nat.one_mul, decide_false]
  omega
theorem heldSlot_p (d : D) (x : Md.Slot) (k : Int) (h : IsSlot d (Md.mkSlot k x)) (hk0 : 0 ≤ k) (hk1 : k + (Md.szSlot x : Nat) ≤ 4611686018427387904) :
    PCall Tryz.prog 36 [d, .lit (.int .i64 k)] fun _ _ r => r = .lit (.int .i64 (k + (Md.szSlot x : Nat))) := by
  obtain ⟨f, rfl, hst, k0, k1⟩ := h
  have q1 := shp_obj _ _ k1
  have hun : Md.szSlot x = Md.szObj x.o := rfl
  refine pcall_intro_v Tryz.func36 rfl (by decide) rfl (by decide) (by rw [Tryz.ntmps36]; simp) fun w0 M n0 => ivc_sound ?_; simp -dsimp only [Tryz.f36, go_sem, q1.1, q1.2.1, q1.2.2.1, q1.2.2.2]
  intro g b hb
  refine xcall_v (heldObj_p _ x.o (k) k1 (by omega) (by omega)) (by simp -dsimp only [go_sem, rl_still, q1.1, q1.2.1, q1.2.2.1, q1.2.2.2]) (fun _ => trivial) fun n0 hn0 => ?_
  have hg0 : ¬ (k + (Md.szObj x.o : Nat) < 0) := by omega
  simp -dsimp only [go_sem, q1.1, q1.2.1, q1.2.2.1, q1.2.2.2, hg0, decide_false]
  first | rfl | omega
theorem heldSlotA4_p (d : D) (xs : List Md.Slot) (k : Int) (h : IsA 4 4 IsSlot d (Md.mkL Md.mkSlot Md.szSlot k xs)) (hk0 : 0 ≤ k) (hk1 : k + (Md.sumBy Md.szSlot xs : Nat) ≤ 4611686018427387904) :
    PCall Tryz.prog 209 [d, .lit (.int .i64 k)] fun _ _ r => r = .lit (.int .i64 (k + (Md.sumBy Md.szSlot xs : Nat))) := by
  obtain ⟨hl, f, rfl, hst, hf⟩ := h
  have hlen : (Md.mkL Md.mkSlot Md.szSlot k xs).length = xs.length := Md.mkL_length _ _ _ _
  refine pcall_intro_v Tryz.func209 rfl (by decide) rfl (by decide) (by rw [Tryz.ntmps209]; simp) fun w0 M n0 => ivc_sound ?_; simp -dsimp only [Tryz.f209, go_sem]
  intro g b hb
  refine iwp_forK 4 [2] (fun i s => s 5 = .lit (.int .i64 i) ∧ s 1 = .lit (.int .i64 (k + (Md.sumBy Md.szSlot (xs.take i) : Nat)))) 0 (Nat.zero_le _) ⟨by simp -dsimp only [go_sem]; rfl, by simp -dsimp only [go_sem]; simp [Md.sumBy]⟩ ?_
  rintro i n' s hile hn' hk ⟨h5, h1⟩
  refine ivc_sound ?_
  simp -dsimp only [go_sem] at hk
  by_cases hlt : i < 4
  · have hlt' : i < xs.length := by omega
    have hc' : (i : Int) < 4 := by omega
    have hw := i64_succ (i := i) (by omega)
    have hfi := hf i (by omega)
    rw [Md.mkL_get Md.mkSlot Md.szSlot k xs i (by omega) hlt'] at hfi
    have q := shp_slot _ _ hfi
    have e1 := q.1
    have e2 := q.2.1
    have e4 := q.2.2.2
    have ht := Md.sumBy_take Md.szSlot xs i hlt'
    have hle := Md.sumBy_le Md.szSlot xs (i + 1)
    simp -dsimp only [go_sem, hk, h5, h1, hlt, hc', hw, e1, e2]
    refine xcall_v (heldSlot_p _ xs[i] (k + (Md.sumBy Md.szSlot (xs.take i) : Nat)) hfi (by omega) (by omega)) (by simp -dsimp only [go_sem, rl_still, e4, h1]) (fun _ => trivial) fun n0 hn0 => ?_
    have hg : ¬ (k + (Md.sumBy Md.szSlot (xs.take i) : Nat) + (Md.szSlot xs[i] : Nat) < 0) := by omega
    simp -dsimp only [go_sem, hk, h5, h1, hlt, hw, hg, decide_false]
    exact into_k (by omega) (by simp -dsimp only [go_sem, hk]) ⟨by simp -dsimp only [go_sem], by simp -dsimp only [go_sem]; rw [ht, Int.natCast_add, ← Int.add_assoc]⟩
  · have hc' : ¬ (i : Int) < 4 := by omega
    simp -dsimp only [go_sem, hk, h5, h1, hlt, hc']
    rw [Md.sumBy_all Md.szSlot xs i (by omega)]
theorem heldPage_p (d : D) (x : Md.Page) (k : Int) (h : IsPage d (Md.mkPage k x)) (hk0 : 0 ≤ k) (hk1 : k + (Md.szPage x : Nat) ≤ 4611686018427387904) :
    PCall Tryz.prog 151 [d, .lit (.int .i64 k)] fun _ _ r => r = .lit (.int .i64 (k + (Md.szPage x : Nat))) := by
  obtain ⟨f, rfl, hst, k0, k1⟩ := h
  have hun : Md.szPage x = Md.sumBy Md.szSlot x.slots := rfl
  refine pcall_intro_v Tryz.func151 rfl (by decide) rfl (by decide) (by rw [Tryz.ntmps151]; simp) fun w0 M n0 => ivc_sound ?_; simp -dsimp only [Tryz.f151, go_sem, k1.size, k1.isNode, k1.plain, k1.still]
  intro g b hb
  refine xcall_v (heldSlotA4_p _ x.slots (k) k1 (by omega) (by omega)) (by simp -dsimp only [go_sem, rl_still, k1.size, k1.isNode, k1.plain, k1.still]) (fun _ => trivial) fun n0 hn0 => ?_
  have hg0 : ¬ (k + (Md.sumBy Md.szSlot x.slots : Nat) < 0) := by omega
  simp -dsimp only [go_sem, k1.size, k1.isNode, k1.plain, k1.still, hg0, decide_false]
  first | rfl | omega
theorem heldPool_p (d : D) (x : Md.Pool) (k : Int) (h : IsPool d (Md.mkPool k x)) (hk0 : 0 ≤ k) (hk1 : k + (Md.cPool x : Nat) ≤ 4611686018427387904) :
    PCall Tryz.prog 79 [d, .lit (.int .i64 k)] fun _ _ r => r = .lit (.int .i64 (k + (Md.cPool x : Nat))) := by
  obtain ⟨f, rfl, hst, k0, k1⟩ := h
  have hun : Md.cPool x = 4 * x.seats.length := by simp only [Md.cPool, Md.cSeats_eq]
  refine pcall_intro_v Tryz.func79 rfl (by decide) rfl (by decide) (by rw [Tryz.ntmps79]; simp) fun w0 M n0 => ivc_sound ?_; simp -dsimp only [Tryz.f79, go_sem, k0.size, k0.isNode, k0.plain, k0.still]
  intro g b hb
  refine xcall_v (heldSeatS_p _ (Md.mkSeats (k) x.seats) (k) k0 (fun i hi => by rw [mkSeats_get _ _ i hi (by simpa [mkSeats_length] using hi)]; exact ⟨rfl, rfl, rfl, rfl⟩) (by omega) (by rw [mkSeats_length]; omega)) (by simp -dsimp only [go_sem, rl_still, k0.size, k0.isNode, k0.plain, k0.still]) (fun _ => trivial) fun n0 hn0 => ?_
  have hg0 : ¬ (k + (4 * x.seats.length : Nat) < 0) := by omega
  simp -dsimp only [go_sem, k0.size, k0.isNode, k0.plain, k0.still, hg0, mkSeats_length, decide_false]
  omega
theorem cloneInts_p (d : D) (xs : List Int) (h : IsL 1 IsInt d xs) (hs : xs.length ≤ 1048576) : PCall Tryz.prog 201 [d] fun n0 n1 r => IsL 1 IsInt r xs ∧ Own n0 n1 r := by
  have hp : ∀ d x, IsInt d x → d.tl = [] ∧ d.whole := fun d x h => ⟨h.tl, h.wh⟩
  rcases h with ⟨rfl, rfl⟩ | ⟨t, zb, f, rfl, hst, hsh, hf⟩
  · refine pcall_intro Tryz.func201 rfl (by decide) rfl (by decide) (by rw [Tryz.ntmps201]; simp) fun w0 M n0 hW => ivc_sound ?_; simp -dsimp only [Tryz.f201, go_sem]
    intro b
    refine ⟨fun _ n1 hn1 hfc => fin_nil, fun _ g b hb g1 b1 n' hn' hb1' hb2 n1 hn1 hfc => ?_⟩
    have hb3 : n0 ≤ b1 := by rcases hb2 with h | h <;> omega
    exact fin_zero (fun _ => trivial) rfl hb3 (by omega)
  · refine pcall_intro Tryz.func201 rfl (by decide) rfl (by decide) (by rw [Tryz.ntmps201]; simp) fun w0 M n0 hW => ivc_sound ?_; simp -dsimp only [Tryz.f201, go_sem]
    intro b hb
    refine ⟨fun h => absurd (hb.trans h) (by simp), fun _ g b hb1 => ⟨fun y h => h.symm, by omega, by omega, fun g1 b1 n' hn' hb1' hb2 n1 hn1 hfc => ?_⟩⟩
    rw [rls_still hst]
    have hb3 : n0 ≤ b1 := by rcases hb2 with h | h <;> omega
    exact fin_row hst hsh hf hp hb3 (by omega)
theorem cloneLives_p (d : D) (xs : List Md.Live) (h : IsL 3 IsLive d xs) (hs : xs.length ≤ 1048576) : PCall Tryz.prog 129 [d] fun n0 n1 r => IsL 3 IsLive r xs ∧ Own n0 n1 r := by
  have hp : ∀ d x, IsLive d x → d.tl = [] ∧ d.whole := fun d x h => ⟨h.tl, h.wh⟩
  rcases h with ⟨rfl, rfl⟩ | ⟨t, zb, f, rfl, hst, hsh, hf⟩
  · refine pcall_intro Tryz.func129 rfl (by decide) rfl (by decide) (by rw [Tryz.ntmps129]; simp) fun w0 M n0 hW => ivc_sound ?_; simp -dsimp only [Tryz.f129, go_sem]
    intro b
    refine ⟨fun _ n1 hn1 hfc => fin_nil, fun _ g b hb g1 b1 n' hn' hb1' hb2 n1 hn1 hfc => ?_⟩
    have hb3 : n0 ≤ b1 := by rcases hb2 with h | h <;> omega
    exact fin_zero (fun _ => trivial) rfl hb3 (by omega)
  · refine pcall_intro Tryz.func129 rfl (by decide) rfl (by decide) (by rw [Tryz.ntmps129]; simp) fun w0 M n0 hW => ivc_sound ?_; simp -dsimp only [Tryz.f129, go_sem]
    intro b hb
    refine ⟨fun h => absurd (hb.trans h) (by simp), fun _ g b hb1 => ⟨fun y h => h.symm, by omega, by omega, fun g1 b1 n' hn' hb1' hb2 n1 hn1 hfc => ?_⟩⟩
    rw [rls_still hst]
    have hb3 : n0 ≤ b1 := by rcases hb2 with h | h <;> omega
    exact fin_row hst hsh hf hp hb3 (by omega)
theorem cloneObj_p (d : D) (x : Md.Obj) (h : IsObj d x) (hs : Md.szObj x ≤ 1048576) : PCall Tryz.prog 138 [d] fun n0 n1 r => IsObj r x ∧ Own n0 n1 r := by
  obtain ⟨f, rfl, hst, k0, k1, k2⟩ := h
  have k0 : f 0 = _ := k0
  unfold Md.szObj at hs
  refine pcall_intro Tryz.func138 rfl (by decide) rfl (by decide) (by rw [Tryz.ntmps138]; simp) fun w0 M n0 hW => ivc_sound ?_; simp -dsimp only [Tryz.f138, go_sem, k0, k1.size, k1.isNode, k1.plain, k1.still, k2.size, k2.isNode, k2.plain, k2.still]
  intro g1 b1 hb1 g2 b2 hb2
  refine iwp_plan [(0, true), (1, true), (3, true), (4, true), (2, false), (6, true), (5, false), (7, false), (8, true), (9, false)] [1] rfl (by decide +kernel) (by decide) [7, 8, 9] (by decide +kernel) ?_
  simp -dsimp only [go_sem, k0, k1.size, k1.isNode, k1.plain, k1.still, k2.size, k2.isNode, k2.plain, k2.still]
  refine xcall_p (cloneInts_p _ _ k1 (by omega)) (by simp -dsimp only [go_sem, rl_still, k0, k1.size, k1.isNode, k1.plain, k1.still, k2.size, k2.isNode, k2.plain, k2.still]) fun m0 p0 r0 hm0 hp0 hr0 => ?_
  have ho0 := hr0.2
  have hq0 := hr0.1
  have v0 := hq0.still
  refine ⟨ho0.tags, ?_⟩
  simp -dsimp only [go_sem, k0, k1.size, k1.isNode, k1.plain, k1.still, k2.size, k2.isNode, k2.plain, k2.still, hq0.size, hq0.isNode, hq0.plain]
  refine xcall_p (cloneInts_p _ _ k2 (by omega)) (by simp -dsimp only [go_sem, rl_still, k0, k1.size, k1.isNode, k1.plain, k1.still, k2.size, k2.isNode, k2.plain, k2.still]) fun m1 p1 r1 hm1 hp1 hr1 => ?_
  have ho1 := hr1.2
  have hq1 := hr1.1
  have v1 := hq1.still
  refine ⟨ho1.tags, ?_⟩
  simp -dsimp only [go_sem, k0, k1.size, k1.isNode, k1.plain, k1.still, k2.size, k2.isNode, k2.plain, k2.still, hq0.size, hq0.isNode, hq0.plain, hq1.size, hq1.isNode, hq1.plain]
  intro n1 hn1 hfc
  refine fin_node (Q := fun r => IsObj r x ∧ Own n0 n1 r) (still_upd (still_upd hst v0) v1) fun hst' => ?_
  refine ⟨⟨_, rfl, hst', by simp -dsimp only [go_sem]; exact k0, by simp -dsimp only [go_sem]; exact hq0, by simp -dsimp only [go_sem]; exact hq1⟩, own_node ?_⟩
  exact OwnN.mono (hi := p1) (ownN_snoc_own (mid := p0) (hi := p1) (ownN_snoc_own (mid := n0) (hi := p0) (ownN_snoc_lit (ownN_zero n0 n0 _) (by simp -dsimp only [go_sem]; exact k0)) (by simp -dsimp only [go_sem]; exact ho0) (by omega) (by omega) (by omega) (by omega)) (by simp -dsimp only [go_sem]; exact ho1) (by omega) (by omega) (by omega) (by omega)) (Nat.le_refl _) (by omega)
theorem cloneSlot_p (d : D) (x : Md.Slot) (h : IsSlot d x) (hs : Md.szSlot x ≤ 1048576) : PCall Tryz.prog 63 [d] fun n0 n1 r => IsSlot r x ∧ Own n0 n1 r := by
  obtain ⟨f, rfl, hst, k0, k1⟩ := h
  have k0 : f 0 = _ := k0
  have q1 := shp_obj _ _ k1
  unfold Md.szSlot at hs
  refine pcall_intro Tryz.func63 rfl (by decide) rfl (by decide) (by rw [Tryz.ntmps63]; simp) fun w0 M n0 hW => ivc_sound ?_; simp -dsimp only [Tryz.f63, go_sem, k0, q1.1, q1.2.1, q1.2.2.1]
  intro g1 b1 hb1 g2 b2 hb2
  refine iwp_plan [(0, true), (1, true), (2, true), (3, true), (4, false), (5, true), (6, false)] [1] rfl (by decide +kernel) (by decide) [6] (by decide +kernel) ?_
  simp -dsimp only [go_sem, k0, q1.1, q1.2.1, q1.2.2.1]
  refine xcall_p (cloneObj_p _ _ k1 (by omega)) (by simp -dsimp only [go_sem, rl_still, q1.2.2.2]) fun m0 p0 r0 hm0 hp0 hr0 => ?_
  have ho0 := hr0.2
  have hq0 := hr0.1
  have s0 := shp_obj _ _ hq0
  refine ⟨ho0.tags, ?_⟩
  simp -dsimp only [go_sem, k0, q1.1, q1.2.1, q1.2.2.1, s0.1, s0.2.1, s0.2.2.1]
  intro n1 hn1 hfc
  refine fin_node (Q := fun r => IsSlot r x ∧ Own n0 n1 r) (still_upd (still_upd (stN (by simp only [stillL_nil, stillL_cons, still_lit, still_nil, still_any, still_nodeN, still_nodeC, and_self])) trivial) s0.2.2.2) fun hst' => ?_
  refine ⟨⟨_, rfl, hst', by simp -dsimp only [go_sem]; rfl, by simp -dsimp only [go_sem]; exact hq0⟩, own_node ?_⟩
  exact OwnN.mono (hi := p0) (ownN_snoc_own (mid := n0) (hi := p0) (ownN_snoc_lit (ownN_zero n0 n0 _) (by simp -dsimp only [go_sem]; rfl)) (by simp -dsimp only [go_sem]; exact ho0) (by omega) (by omega) (by omega) (by omega)) (Nat.le_refl _) (by omega)
inductive CpO (x : Md.Obj) (n0 n1 : Nat) (r : D) : Prop
  | mk (h : IsObj r x ∧ Own n0 n1 r) : CpO x n0 n1 r
  | no (h : False) : CpO x n0 n1 r
theorem CpO.out {x : Md.Obj} {n0 n1 : Nat} {r : D} (h : CpO x n0 n1 r) : IsObj r x ∧ Own n0 n1 r := by
  cases h with
  | mk h => exact h
  | no h => exact h.elim
theorem l2Copy_c (d : D) (kind : Int) (ints refs : List Int) (h : IsObj d ⟨kind, ints, refs⟩) (hs : ints.length + refs.length ≤ 1048576) : PCall Tryz.prog 184 [d] fun n0 n1 r => CpO ⟨kind, ints, refs⟩ n0 n1 r := by
  obtain ⟨f, rfl, hst, k0, k1, k2⟩ := h
  have j0 : f 0 = .lit (.int .i64 kind) := k0
  have j1 : IsL 1 IsInt (f 1) ints := k1
  have j2 : IsL 1 IsInt (f 2) refs := k2
  clear k0 k1 k2
  rcases j1 with ⟨e1, rfl⟩ | ⟨t1, z1, f1, e1, st1, sh1, hf1⟩ <;> rcases j2 with ⟨e2, rfl⟩ | ⟨t2, z2, f2, e2, st2, sh2, hf2⟩
  · refine pcall_intro Tryz.func184 rfl (by decide) rfl (by decide) (by rw [Tryz.ntmps184]; simp) fun w0 M n0 hW => ivc_sound ?_; simp -dsimp only [Tryz.f184, go_sem, j0, e1, e2]
    intro g1 b1 hb1 g2 b2 hb2
    refine iwp_planT (.early 0 (.early 1 (.early 3 (.early 4 (.early 7 (.early 8 (.fork 2 (.fork 5 (.late 6 (.late 9 (.early 10 (.late 11 .done)))) 6 (.late 5 (.late 9 (.early 10 (.late 11 .done))))) 6 (.late 2 (.late 5 (.late 9 (.early 10 (.late 11 .done)))))))))))) [1] [] rfl (by decide +kernel) (by decide) (by decide +kernel) ?_
    simp -dsimp only [go_sem, j0, e1, e2]
    repeat' (first | refine ⟨?_, ?_⟩ | with_reducible intro _)
    all_goals first
      | (with_reducible rfl)
      | omega
      | (simp only [List.length_nil] at hs ⊢; omega)
      | (rename_i hfc
         refine .mk ?_
         apply fin_obj2 (f1 := fun _ => .any) (f2 := fun _ => .any)
         · simp -dsimp only [go_sem]
         · first | (simp -dsimp only [go_sem]; done) | (simp -dsimp only [go_sem]; rfl)
         · first | (simp -dsimp only [go_sem]; done) | (simp -dsimp only [go_sem]; rfl)
         · intro i hi
           rw [upd_ne _ _ (by omega), upd_ne _ _ (by omega), upd_ne _ _ (by omega)]
           exact nthD_ge _ _ (by simpa using hi)
         · exact fun _ => trivial
         · exact fun _ => trivial
         · exact fun i h => absurd h (Nat.not_lt_zero i)
         · exact fun i h => absurd h (Nat.not_lt_zero i)
         · exact (by simp)
         · exact (by simp)
         · omega
         · omega
         · omega
         · omega
         · exact hfc.inj 5 _ _ _ 9 _ _ _ (by simp -dsimp only [go_sem]; rfl) (by simp -dsimp only [go_sem]; rfl) (by decide))
  · refine pcall_intro Tryz.func184 rfl (by decide) rfl (by decide) (by rw [Tryz.ntmps184]; simp) fun w0 M n0 hW => ivc_sound ?_; simp -dsimp only [Tryz.f184, go_sem, j0, e1, e2]
    intro g1 b1 hb1 g2 b2 hb2
    refine iwp_planT (.early 0 (.early 1 (.early 3 (.early 4 (.early 7 (.early 8 (.fork 2 (.fork 5 (.late 6 (.late 9 (.early 10 (.late 11 .done)))) 6 (.late 5 (.late 9 (.early 10 (.late 11 .done))))) 6 (.late 2 (.late 5 (.late 9 (.early 10 (.late 11 .done)))))))))))) [1] [] rfl (by decide +kernel) (by decide) (by decide +kernel) ?_
    simp -dsimp only [go_sem, j0, e1, e2]
    repeat' (first | refine ⟨?_, ?_⟩ | with_reducible intro _)
    all_goals first
      | (with_reducible rfl)
      | omega
      | (simp only [List.length_nil] at hs ⊢; omega)
      | (rename_i hfc
         refine .mk ?_
         apply fin_obj2 (f1 := fun _ => .any) (f2 := f2)
         · simp -dsimp only [go_sem]
         · first | (simp -dsimp only [go_sem]; done) | (simp -dsimp only [go_sem]; rfl)
         · first | (simp -dsimp only [go_sem]; done) | (simp -dsimp only [go_sem]; rfl)
         · intro i hi
           rw [upd_ne _ _ (by omega), upd_ne _ _ (by omega), upd_ne _ _ (by omega)]
           exact nthD_ge _ _ (by simpa using hi)
         · exact fun _ => trivial
         · exact st2
         · exact fun i h => absurd h (Nat.not_lt_zero i)
         · exact hf2
         · exact (by simp)
         · exact sh2
         · omega
         · omega
         · omega
         · omega
         · exact hfc.inj 5 _ _ _ 9 _ _ _ (by simp -dsimp only [go_sem]; rfl) (by simp -dsimp only [go_sem]; rfl) (by decide))
  · refine pcall_intro Tryz.func184 rfl (by decide) rfl (by decide) (by rw [Tryz.ntmps184]; simp) fun w0 M n0 hW => ivc_sound ?_; simp -dsimp only [Tryz.f184, go_sem, j0, e1, e2]
    intro g1 b1 hb1 g2 b2 hb2
    refine iwp_planT (.early 0 (.early 1 (.early 3 (.early 4 (.early 7 (.early 8 (.fork 2 (.fork 5 (.late 6 (.late 9 (.early 10 (.late 11 .done)))) 6 (.late 5 (.late 9 (.early 10 (.late 11 .done))))) 6 (.late 2 (.late 5 (.late 9 (.early 10 (.late 11 .done)))))))))))) [1] [] rfl (by decide +kernel) (by decide) (by decide +kernel) ?_
    simp -dsimp only [go_sem, j0, e1, e2]
    repeat' (first | refine ⟨?_, ?_⟩ | with_reducible intro _)
    all_goals first
      | (with_reducible rfl)
      | omega
      | (simp only [List.length_nil] at hs ⊢; omega)
      | (rename_i hfc
         refine .mk ?_
         apply fin_obj2 (f1 := f1) (f2 := fun _ => .any)
         · simp -dsimp only [go_sem]
         · first | (simp -dsimp only [go_sem]; done) | (simp -dsimp only [go_sem]; rfl)
         · first | (simp -dsimp only [go_sem]; done) | (simp -dsimp only [go_sem]; rfl)
         · intro i hi
           rw [upd_ne _ _ (by omega), upd_ne _ _ (by omega), upd_ne _ _ (by omega)]
           exact nthD_ge _ _ (by simpa using hi)
         · exact st1
         · exact fun _ => trivial
         · exact hf1
         · exact fun i h => absurd h (Nat.not_lt_zero i)
         · exact sh1
         · exact (by simp)
         · omega
         · omega
         · omega
         · omega
         · exact hfc.inj 5 _ _ _ 9 _ _ _ (by simp -dsimp only [go_sem]; rfl) (by simp -dsimp only [go_sem]; rfl) (by decide))
  · refine pcall_intro Tryz.func184 rfl (by decide) rfl (by decide) (by rw [Tryz.ntmps184]; simp) fun w0 M n0 hW => ivc_sound ?_; simp -dsimp only [Tryz.f184, go_sem, j0, e1, e2]
    intro g1 b1 hb1 g2 b2 hb2
    refine iwp_planT (.early 0 (.early 1 (.early 3 (.early 4 (.early 7 (.early 8 (.fork 2 (.fork 5 (.late 6 (.late 9 (.early 10 (.late 11 .done)))) 6 (.late 5 (.late 9 (.early 10 (.late 11 .done))))) 6 (.late 2 (.late 5 (.late 9 (.early 10 (.late 11 .done)))))))))))) [1] [] rfl (by decide +kernel) (by decide) (by decide +kernel) ?_
    simp -dsimp only [go_sem, j0, e1, e2]
    repeat' (first | refine ⟨?_, ?_⟩ | with_reducible intro _)
    all_goals first
      | (with_reducible rfl)
      | omega
      | (simp only [List.length_nil] at hs ⊢; omega)
      | (rename_i hfc
         refine .mk ?_
         apply fin_obj2 (f1 := f1) (f2 := f2)
         · simp -dsimp only [go_sem]
         · first | (simp -dsimp only [go_sem]; done) | (simp -dsimp only [go_sem]; rfl)
         · first | (simp -dsimp only [go_sem]; done) | (simp -dsimp only [go_sem]; rfl)
         · intro i hi
           rw [upd_ne _ _ (by omega), upd_ne _ _ (by omega), upd_ne _ _ (by omega)]
           exact nthD_ge _ _ (by simpa using hi)
         · exact st1
         · exact st2
         · exact hf1
         · exact hf2
         · exact sh1
         · exact sh2
         · omega
         · omega
         · omega
         · omega
         · exact hfc.inj 5 _ _ _ 9 _ _ _ (by simp -dsimp only [go_sem]; rfl) (by simp -dsimp only [go_sem]; rfl) (by decide))
theorem l2Copy_p (d : D) (x : Md.Obj) (h : IsObj d x) (hs : Md.szObj x ≤ 1048576) : PCall Tryz.prog 184 [d] fun n0 n1 r => IsObj r x ∧ Own n0 n1 r :=
  (l2Copy_c d x.kind x.ints x.refs h hs).mono fun _ _ _ _ h => h.out
theorem into_r1 {w0 : World} {M : Fr} {N n n' l : Nat} {x : Option (Nat × Nat × D)} {R : Roots} {s0 s : Nat → D} {K : List Nat} {J : Nat → (Nat → D) → Roots → Prop} (hR : R l = none) (hn : n ≤ n') (hk : keepL s s0 K) (hJ : J n' s R) :
    Into w0 M ⟨N, n', s, upd R l x⟩ (RoundR N n s0 K J) :=
  Into.le ⟨N, n', s, R⟩ ⟨rfl, Nat.le_refl _, fun t => .inl rfl, fun j => by
    by_cases h : j = l
    · subst h; exact .inr hR
    · exact .inl (upd_ne _ _ h).symm⟩ (into_r hn hk hJ)
theorem l3CopySlot_p (d : D) (x : Md.Slot) (h : IsSlot d x) (hs : Md.szSlot x ≤ 1048576) : PCall Tryz.prog 109 [d] fun n0 n1 r => IsSlot r x ∧ Own n0 n1 r := by
  obtain ⟨f, rfl, hst, k0, k1⟩ := h
  have k0 : f 0 = _ := k0
  have q1 := shp_obj _ _ k1
  unfold Md.szSlot at hs
  refine pcall_intro Tryz.func109 rfl (by decide) rfl (by decide) (by rw [Tryz.ntmps109]; simp) fun w0 M n0 hW => ivc_sound ?_; simp -dsimp only [Tryz.f109, go_sem, k0, q1.1, q1.2.1, q1.2.2.1]
  intro g1 b1 hb1 g2 b2 hb2
  refine iwp_plan [(0, true), (1, true), (2, true), (3, true), (4, false), (5, true), (6, false)] [1] rfl (by decide +kernel) (by decide) [6] (by decide +kernel) ?_
  simp -dsimp only [go_sem, k0, q1.1, q1.2.1, q1.2.2.1]
  refine xcall_p (l2Copy_p _ _ k1 (by omega)) (by simp -dsimp only [go_sem, rl_still, q1.2.2.2]) fun m0 p0 r0 hm0 hp0 hr0 => ?_
  have ho0 := hr0.2
  have hq0 := hr0.1
  have s0 := shp_obj _ _ hq0
  refine ⟨ho0.tags, ?_⟩
  simp -dsimp only [go_sem, k0, q1.1, q1.2.1, q1.2.2.1, s0.1, s0.2.1, s0.2.2.1]
  intro n1 hn1 hfc
  refine fin_node (Q := fun r => IsSlot r x ∧ Own n0 n1 r) (still_upd (still_upd (stN (by simp only [stillL_nil, stillL_cons, still_lit, still_nil, still_any, still_nodeN, still_nodeC, and_self])) trivial) s0.2.2.2) fun hst' => ?_
  refine ⟨⟨_, rfl, hst', by simp -dsimp only [go_sem]; rfl, by simp -dsimp only [go_sem]; exact hq0⟩, own_node ?_⟩
  exact OwnN.mono (hi := p0) (ownN_snoc_own (mid := n0) (hi := p0) (ownN_snoc_lit (ownN_zero n0 n0 _) (by simp -dsimp only [go_sem]; rfl)) (by simp -dsimp only [go_sem]; exact ho0) (by omega) (by omega) (by omega) (by omega)) (Nat.le_refl _) (by omega)
theorem l3Copy_p (d : D) (x : Md.Page) (h : IsPage d x) (hs : Md.szPage x ≤ 1048576) : PCall Tryz.prog 117 [d] fun n0 n1 r => IsPage r x ∧ Own n0 n1 r := by
  obtain ⟨f0, rfl, hst, k0, hl, g0, hg, hgs, hf'⟩ := h
  have k0 : f0 0 = _ := k0
  unfold Md.szPage at hs
  refine pcall_intro Tryz.func117 rfl (by decide) rfl (by decide) (by rw [Tryz.ntmps117]; simp) fun w0 M n0 hW => ivc_sound ?_; simp -dsimp only [Tryz.f117, go_sem, k0, hg]
  intro g1 b1 hb1 g2 b2 hb2 g3 b3 hb3
  refine iwp_forR 4 [1, 2, 3] (fun i n' s R => s 4 = .lit (.int .i64 i) ∧ ∃ q f, R = upd (upd (upd (fun _ => none) 1 (some (g1, b1, .node (.agg [1, 16]) f0))) 2 (some (g2, b2, zd Tryz.prog 48))) 3 (some (g3, b3, .node (.agg [1, 16]) q)) ∧
      q 0 = .lit (.int .i64 x.lsn) ∧ q 1 = .node (.arr 4 4) f ∧ (∀ j, (q j).still) ∧ Fill IsSlot 4 n0 n' x.slots 4 i f) 0 (Nat.zero_le _)
    ⟨by simp -dsimp only [go_sem]; rfl, _, _, by simp -dsimp only [go_sem]; rfl, by simp -dsimp only [go_sem], by simp -dsimp only [go_sem]; rfl, still_upd (stN (by simp only [stillL_nil, stillL_cons, still_lit, still_nil, still_any, still_nodeN, still_nodeC, and_self])) (show (D.lit (.int .i64 x.lsn)).still from trivial), Fill.start (fun j => by simp only [stillL_nil, stillL_cons, still_lit, still_nil, still_any, still_nodeN, still_nodeC, and_self]) fun _ _ => ⟨by trivial, by rfl⟩⟩ ?_
  rintro i n' s R hi hn hk ⟨h4, q, f, rfl, q0, q1, hqs, hf⟩
  refine ivc_sound ?_
  simp -dsimp only [go_sem] at hk
  by_cases hlt : i < 4
  · have hc : (i : Int) < 4 := by omega
    have hlt' : i < x.slots.length := by omega
    have hfi := hf' i hlt'
    have eq := shp_slot _ _ hfi
    have e1 := eq.1
    have e2 := eq.2.1
    have e4 := eq.2.2.2
    have hw := i64_succ (i := i) (by omega)
    have u1 := (hf.sh i hlt).1
    have u2 := (hf.sh i hlt).2
    simp -dsimp only [go_sem, hk, h4, hlt, hc, hw, hg, q1, u1, u2, e1, e2]
    refine xcall_p (l3CopySlot_p _ _ hfi (by have := Md.sumBy_mem Md.szSlot x.slots _ (List.getElem_mem hlt'); omega)) (by simp -dsimp only [go_sem, rl_still, e4]) fun m0 m1 r hm0 hm1 hr => ?_
    have hr1 := hr.1
    have hr2 := hr.2
    have rq := shp_slot _ _ hr1
    refine ⟨hr2.tags, ?_⟩
    simp -dsimp only [go_sem, hk, h4, hlt, hc, hw, hg, q1, u1, u2, rq.1, rq.2.1, rq.2.2.1, e1, e2]
    exact into_r (by omega) (by simp -dsimp only [go_sem, hk]) ⟨by simp -dsimp only [go_sem], upd q 1 (.node (.arr 4 4) (upd f i r)), upd f i r, by simp -dsimp only [go_sem], by simp -dsimp only [go_sem, q0], by simp -dsimp only [go_sem], still_upd hqs (still_upd hf.st rq.2.2.2), hf.step shp_slot hlt' hr1 hr2 (by omega) (by omega) (by omega) (by omega)⟩
  · have hc : ¬ (i : Int) < 4 := by omega
    simp -dsimp only [go_sem, hk, h4, hlt, hc]
    intro n1 hn1 hfc
    rw [rlnode_still hqs]
    have := hf.isA hl hlt
    refine ⟨⟨_, rfl, hqs, q0, by rw [q1]; exact this.1⟩, own_node ?_⟩
    exact OwnN.mono (hi := n') (ownN_snoc_own (mid := n0) (hi := n') (ownN_snoc_lit (ownN_zero n0 n0 _) q0) (by show Own n0 n' (q 1); rw [q1]; exact this.2) (by omega) (by omega) (by omega) (by omega)) (Nat.le_refl _) (by omega)
theorem clonePage_p (d : D) (x : Md.Page) (h : IsPage d x) (hs : Md.szPage x ≤ 1048576) : PCall Tryz.prog 103 [d] fun n0 n1 r => IsPage r x ∧ Own n0 n1 r := by
  obtain ⟨f0, rfl, hst, k0, hl, g0, hg, hgs, hf'⟩ := h
  have k0 : f0 0 = _ := k0
  unfold Md.szPage at hs
  refine pcall_intro Tryz.func103 rfl (by decide) rfl (by decide) (by rw [Tryz.ntmps103]; simp) fun w0 M n0 hW => ivc_sound ?_; simp -dsimp only [Tryz.f103, go_sem, k0, hg]
  intro g1 b1 hb1 g2 b2 hb2
  refine iwp_forR 4 [1, 2, 6] (fun i n' s R => s 7 = .lit (.int .i64 i) ∧ ∃ q f, R = upd (upd (fun _ => none) 1 (some (g1, b1, .node (.agg [1, 16]) q))) 2 (some (g2, b2, zd Tryz.prog 48)) ∧
      q 0 = .lit (.int .i64 x.lsn) ∧ q 1 = .node (.arr 4 4) f ∧ (∀ j, (q j).still) ∧ Fill IsSlot 4 n0 n' x.slots 4 i f) 0 (Nat.zero_le _)
    ⟨by simp -dsimp only [go_sem]; rfl, f0, g0, rfl, k0, hg, hst, Fill.start hgs fun j hj => by have q := shp_slot _ _ (hf' j (by omega)); exact ⟨q.2.2.1, q.1⟩⟩ ?_
  rintro i n' s R hi hn hk ⟨h7, q, f, rfl, q0, q1, hqs, hf⟩
  refine ivc_sound ?_
  simp -dsimp only [go_sem] at hk
  by_cases hlt : i < 4
  · have hc : (i : Int) < 4 := by omega
    have hlt' : i < x.slots.length := by omega
    have hfi := hf' i hlt'
    have eq := shp_slot _ _ hfi
    have e1 := eq.1
    have e2 := eq.2.1
    have e4 := eq.2.2.2
    have hw := i64_succ (i := i) (by omega)
    have u1 := (hf.sh i hlt).1
    have u2 := (hf.sh i hlt).2
    simp -dsimp only [go_sem, hk, h7, hlt, hc, hw, hg, q1, u1, u2, e1, e2, eq.2.2.1]
    intro g4 b4 hb4
    refine xcall_p (cloneSlot_p _ _ hfi (by have := Md.sumBy_mem Md.szSlot x.slots _ (List.getElem_mem hlt'); omega)) (by simp -dsimp only [go_sem, rl_still, e4]) fun m0 m1 r hm0 hm1 hr => ?_
    have hr1 := hr.1
    have hr2 := hr.2
    have rq := shp_slot _ _ hr1
    refine ⟨hr2.tags, ?_⟩
    simp -dsimp only [go_sem, hk, h7, hlt, hc, hw, hg, q1, u1, u2, rq.1, rq.2.1, rq.2.2.1, e1, e2]
    exact into_r1 rfl (by omega) (by simp -dsimp only [go_sem, hk, hg]) ⟨by simp -dsimp only [go_sem], upd q 1 (.node (.arr 4 4) (upd f i r)), upd f i r, by simp -dsimp only [go_sem], by simp -dsimp only [go_sem, q0], by simp -dsimp only [go_sem], still_upd hqs (still_upd hf.st rq.2.2.2), hf.step shp_slot hlt' hr1 hr2 (by omega) (by omega) (by omega) (by omega)⟩
  · have hc : ¬ (i : Int) < 4 := by omega
    simp -dsimp only [go_sem, hk, h7, hlt, hc]
    intro n1 hn1 hfc
    rw [rlnode_still hqs]
    have := hf.isA hl hlt
    refine ⟨⟨_, rfl, hqs, q0, by rw [q1]; exact this.1⟩, own_node ?_⟩
    exact OwnN.mono (hi := n') (ownN_snoc_own (mid := n0) (hi := n') (ownN_snoc_lit (ownN_zero n0 n0 _) q0) (by show Own n0 n' (q 1); rw [q1]; exact this.2) (by omega) (by omega) (by omega) (by omega)) (Nat.le_refl _) (by omega)
theorem tags_two {v : D} {b : Value} {p : Nat → Prop} (h : v.tags p) : (D.tup 2 (nthD [v, .lit b])).tags p := fun i hi => by
  match i, hi with
  | 0, _ => exact h
  | 1, _ => trivial
@[go_sem] theorem early_extract {Ls : List Nat} {ev : Operand → D} (x : Operand) (i : Nat) : earlyOp Ls (.extract x i) ev = True := (rfl)
theorem fork_k {P : Program} {ops : Array Oper} {Ls B : List Nat} {R0 : Roots} {K : St → Prop} {p : Pl} {st : St} (Pp : St → Prop) (hK : ∀ st, Pp st → K st)
    (h : ∀ K' : St → Prop, (∀ st, Pp st → K' st) → vcTT P ops Ls B R0 K' p st) : vcTT P ops Ls B R0 K p st := h K hK
end Go.Proofs.YtncinhlaabdlaaaGreat.IM
end
