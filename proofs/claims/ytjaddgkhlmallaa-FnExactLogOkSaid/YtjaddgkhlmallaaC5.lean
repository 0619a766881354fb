/- Contracts: pools. -/
import Derived.Test.YtjaddgkhlmallaaC4
namespace Go.Proofs.Ytjaddgkhlmallaa.IM
open Go Go.Proofs
set_option linter.unusedVariables false
set_option linter.unusedSimpArgs false
set_option maxHeartbeats 2000000
set_option maxRecDepth 20000

theorem distinctNos_iff : ∀ (l : List Int), Md.distinctNos l = decide l.Nodup
  | [] => by simp [Md.distinctNos]
  | x :: l => by simp [Md.distinctNos, distinctNos_iff l, List.nodup_cons]
/-- the numbers of the first i are apart -/
def Apart (xs : List Md.Seat) (i : Nat) : Prop := ∀ a b, a < b → b < i → ∀ (ha : a < xs.length) (hb : b < xs.length), xs[a].no ≠ xs[b].no
theorem Apart.zero (xs : List Md.Seat) : Apart xs 0 := fun a b _ h => absurd h (by omega)
theorem Apart.succ {xs : List Md.Seat} {i : Nat} (h : Apart xs i) (hi : i < xs.length) (hn : ∀ a (h : a < i), xs[a].no ≠ xs[i].no) : Apart xs (i + 1) := by
  intro a b hab hb ha' hb'
  rcases Nat.lt_or_ge b i with h1 | h1
  · exact h a b hab h1 ha' hb'
  · obtain rfl : b = i := by omega
    exact hn a hab
theorem Apart.all {xs : List Md.Seat} {i : Nat} (h : Apart xs i) (hi : ¬ i < xs.length) : Md.distinctNos (xs.map (·.no)) = true := by
  rw [distinctNos_iff, decide_eq_true_eq, List.Nodup, List.pairwise_iff_getElem]
  intro a b ha hb hab
  simp only [List.length_map] at ha hb
  simp only [List.getElem_map]
  exact h a b hab (by omega) ha hb
theorem not_apart {xs : List Md.Seat} {a b : Nat} (hab : a < b) (hb : b < xs.length) (he : xs[a].no = xs[b].no) : Md.distinctNos (xs.map (·.no)) = false := by
  rw [distinctNos_iff, decide_eq_false_iff_not, List.Nodup, List.pairwise_iff_getElem]
  intro h
  have := h a b (by simp; omega) (by simpa using hb) hab
  simp only [List.getElem_map] at this
  exact this he
def seatOk (s : Md.Seat) : Bool := Md.inB s.no 0 7 && Md.pageOk s.p

theorem specPoolOk_p (d : D) (p : Md.Pool) (h : IsPool d p) : PCall Try.prog 54 [d] fun _ _ r => r = .lit (.bool (Md.poolOk p)) := by
  obtain ⟨f, rfl, hst, h0, h1⟩ := h
  have h1 : f 1 = _ := h1
  refine pcall_intro_v Try.func54 rfl (by decide) rfl (by decide) (by rw [Try.ntmps54]; simp) fun w0 M n0 => ivc_sound ?_; simp -dsimp only [Try.f54, go_sem, Nat.reduceLT, Nat.reduceEqDiff, Nat.reduceAdd, Nat.reduceMul, Nat.reduceBEq, beq_self_eq_true, Nat.reduceLeDiff, Nat.le_refl, h0.size, h0.isNode, h0.plain, h0.lenT, h1]
  intro g1 b1 hb1
  refine ⟨fun hb => ?_, ?_⟩
  rotate_left
  · first | (simp [Md.poolOk, *]; done) | (simp_all [Md.poolOk]; done) | (simp_all [Md.poolOk]; omega)
  refine xcall_v (l1In_p _ _ _) (by simp -dsimp only [go_sem, Nat.reduceLT, Nat.reduceEqDiff, Nat.reduceAdd, Nat.reduceMul, Nat.reduceBEq, beq_self_eq_true, Nat.reduceLeDiff, Nat.le_refl, h1]; rfl) (fun _ => trivial) fun n1 hn1 => ?_
  simp -dsimp only [go_sem, Nat.reduceLT, Nat.reduceEqDiff, Nat.reduceAdd, Nat.reduceMul, Nat.reduceBEq, beq_self_eq_true, Nat.reduceLeDiff, Nat.le_refl, h0.size, h0.isNode, h0.plain, h0.lenT, h1]
  refine ⟨?_, fun hb1 => ?_⟩
  · first | (simp [Md.poolOk, *]; done) | (simp_all [Md.poolOk]; done) | (simp_all [Md.poolOk]; omega)
  refine iwp_forK p.seats.length [1] (fun i s => s 3 = .lit (.int .i64 i) ∧ Md.AllB seatOk p.seats i true ∧ Apart p.seats i) 0 (Nat.zero_le _) ⟨by simp -dsimp only [go_sem, Nat.reduceLT, Nat.reduceEqDiff, Nat.reduceAdd, Nat.reduceMul, Nat.reduceBEq, beq_self_eq_true, Nat.reduceLeDiff, Nat.le_refl]; rfl, Md.allB_zero _ _ _, Apart.zero _⟩ ?_
  rintro i n' s hi hn hk ⟨h3, hall, hap⟩
  refine ivc_sound ?_
  simp -dsimp only [go_sem, Nat.reduceLT, Nat.reduceEqDiff, Nat.reduceAdd, Nat.reduceMul, Nat.reduceBEq, beq_self_eq_true, Nat.reduceLeDiff, Nat.le_refl] at hk
  by_cases hlt : i < p.seats.length
  · obtain ⟨t, zb, fi, hfe, hst', hf'⟩ := h0.sl hlt
    obtain ⟨k, hkk, hks, k0, k1, k2, k3⟩ := hf' i hlt
    have k0 : k 0 = _ := k0
    have hw := i64_succ (i := i) (by have := h0.short; omega)
    have hl0 := h0.lenT
    rw [hfe] at hl0
    simp -dsimp only [go_sem, Nat.reduceLT, Nat.reduceEqDiff, Nat.reduceAdd, Nat.reduceMul, Nat.reduceBEq, beq_self_eq_true, Nat.reduceLeDiff, Nat.le_refl, hk, h3, hlt, hw, hfe, hl0, hkk, k0]
    refine xcall_v (l1In_p _ _ _) (by simp -dsimp only [go_sem, Nat.reduceLT, Nat.reduceEqDiff, Nat.reduceAdd, Nat.reduceMul, Nat.reduceBEq, beq_self_eq_true, Nat.reduceLeDiff, Nat.le_refl, hk, h3, hlt, hw, hfe, hkk, k0]; rfl) (fun _ => trivial) fun n2 hn2 => ?_
    simp -dsimp only [go_sem, Nat.reduceLT, Nat.reduceEqDiff, Nat.reduceAdd, Nat.reduceMul, Nat.reduceBEq, beq_self_eq_true, Nat.reduceLeDiff, Nat.le_refl, hk, h3, hlt, hw, hfe, hl0, hkk, k0]
    have q := shp_page _ _ k1
    have e1 := q.1
    have e2 := q.2.1
    have e3 := q.2.2.1
    have e4 := q.2.2.2
    have hno : Md.inB p.seats[i].no 0 7 = false → Md.poolOk p = false := fun h => by
      have := Md.not_all (p := seatOk) hlt (by simp [seatOk, h])
      unfold seatOk at this
      simp [Md.poolOk, this]
    have hpg : Md.pageOk p.seats[i].p = false → Md.poolOk p = false := fun h => by
      have := Md.not_all (p := seatOk) hlt (by simp [seatOk, h])
      unfold seatOk at this
      simp [Md.poolOk, this]
    refine ⟨fun hb2 => ?_, ?_⟩
    rotate_left
    · intro hb2
      rw [hno (by simpa using hb2)]
    simp -dsimp only [go_sem, Nat.reduceLT, Nat.reduceEqDiff, Nat.reduceAdd, Nat.reduceMul, Nat.reduceBEq, beq_self_eq_true, Nat.reduceLeDiff, Nat.le_refl, hk, h3, hlt, hw, hfe, hl0, hkk, k0, e1, e2, e3]
    refine xcall_v (specPageOk_p _ _ k1) (by simp -dsimp only [go_sem, Nat.reduceLT, Nat.reduceEqDiff, Nat.reduceAdd, Nat.reduceMul, Nat.reduceBEq, beq_self_eq_true, Nat.reduceLeDiff, Nat.le_refl, rl_still, e4]) (fun _ => trivial) fun n3 hn3 => ?_
    simp -dsimp only [go_sem, Nat.reduceLT, Nat.reduceEqDiff, Nat.reduceAdd, Nat.reduceMul, Nat.reduceBEq, beq_self_eq_true, Nat.reduceLeDiff, Nat.le_refl, hk, h3, hlt, hw, hfe, hl0, hkk, k0, e1, e2, e3]
    refine ⟨fun hb3 => ?_, fun hb3 => ?_⟩
    · rw [hpg (by simpa using hb3)]
    refine iwp_forK i [1, 3] (fun j s => s 4 = .lit (.int .i64 j) ∧ ∀ a (h : a < j) (ha : a < p.seats.length), p.seats[a].no ≠ p.seats[i].no) 0 (Nat.zero_le _) ⟨by simp -dsimp only [go_sem, Nat.reduceLT, Nat.reduceEqDiff, Nat.reduceAdd, Nat.reduceMul, Nat.reduceBEq, beq_self_eq_true, Nat.reduceLeDiff, Nat.le_refl]; rfl, fun a h => absurd h (by omega)⟩ ?_
    rintro j n4 s2 hj hn4 hk2 ⟨h4, hno2⟩
    refine ivc_sound ?_
    simp -dsimp only [go_sem, Nat.reduceLT, Nat.reduceEqDiff, Nat.reduceAdd, Nat.reduceMul, Nat.reduceBEq, beq_self_eq_true, Nat.reduceLeDiff, Nat.le_refl, hk, h3] at hk2
    by_cases hlt2 : j < i
    · have hlt3 : j < p.seats.length := by omega
      have hc : (j : Int) < i := by omega
      obtain ⟨k', hkk', hks', k0', _, _, _⟩ := hf' j hlt3
      have k0' : k' 0 = _ := k0'
      have hw2 := i64_succ (i := j) (by have := h0.short; omega)
      simp -dsimp only [go_sem, Nat.reduceLT, Nat.reduceEqDiff, Nat.reduceAdd, Nat.reduceMul, Nat.reduceBEq, beq_self_eq_true, Nat.reduceLeDiff, Nat.le_refl, hk2, h4, hc, hlt, hw2, hfe, hkk', k0', hkk, k0]
      refine iwp_plan [(0, true), (1, true), (2, true), (3, true), (4, true), (5, true), (6, true), (7, true), (8, true), (9, true), (10, true), (11, true), (12, true)] [1] rfl (by decide +kernel) (by decide) ?_
      simp -dsimp only [go_sem, Nat.reduceLT, Nat.reduceEqDiff, Nat.reduceAdd, Nat.reduceMul, Nat.reduceBEq, beq_self_eq_true, Nat.reduceLeDiff, Nat.le_refl, hk2, h4, hc, hlt, hlt2, hlt3, hw2, hfe, hl0, hkk', k0', hkk, k0]
      refine ⟨fun hb4 => ?_, fun hb4 => into_k (by omega) (by simp -dsimp only [go_sem, Nat.reduceLT, Nat.reduceEqDiff, Nat.reduceAdd, Nat.reduceMul, Nat.reduceBEq, beq_self_eq_true, Nat.reduceLeDiff, Nat.le_refl, hk2, hk, h3]) ⟨by simp -dsimp only [go_sem, Nat.reduceLT, Nat.reduceEqDiff, Nat.reduceAdd, Nat.reduceMul, Nat.reduceBEq, beq_self_eq_true, Nat.reduceLeDiff, Nat.le_refl], fun a h ha => ?_⟩⟩
      · have := not_apart hlt2 hlt (by simpa using hb4)
        have : Md.poolOk p = false := by simp [Md.poolOk, this]
        rw [this]
      · rcases Nat.lt_or_ge a j with h5 | h5
        · exact hno2 a h5 ha
        · obtain rfl : a = j := by omega
          simpa using hb4
    · have hc : ¬ (j : Int) < i := by omega
      simp -dsimp only [go_sem, Nat.reduceLT, Nat.reduceEqDiff, Nat.reduceAdd, Nat.reduceMul, Nat.reduceBEq, beq_self_eq_true, Nat.reduceLeDiff, Nat.le_refl, hk2, h4, hc, hw]
      refine into_k (by omega) (by simp -dsimp only [go_sem, Nat.reduceLT, Nat.reduceEqDiff, Nat.reduceAdd, Nat.reduceMul, Nat.reduceBEq, beq_self_eq_true, Nat.reduceLeDiff, Nat.le_refl, hk2]) ⟨by simp -dsimp only [go_sem, Nat.reduceLT, Nat.reduceEqDiff, Nat.reduceAdd, Nat.reduceMul, Nat.reduceBEq, beq_self_eq_true, Nat.reduceLeDiff, Nat.le_refl], hall.succ hlt ?_, hap.succ hlt fun a h => hno2 a (by omega) _⟩
      have a1 : Md.inB p.seats[i].no 0 7 = true := by simpa using hb2
      have a2 : Md.pageOk p.seats[i].p = true := by simpa using hb3
      simp [seatOk, a1, a2]
  · simp -dsimp only [go_sem, Nat.reduceLT, Nat.reduceEqDiff, Nat.reduceAdd, Nat.reduceMul, Nat.reduceBEq, beq_self_eq_true, Nat.reduceLeDiff, Nat.le_refl, hk, h3, hlt, h0.size, h0.isNode, h0.plain, h0.lenT]
    have e1 : p.seats.all seatOk = true := hall.all hlt
    have e2 := hap.all hlt
    unfold seatOk at e1
    first | (simp [Md.poolOk, *]; done) | (simp_all [Md.poolOk]; done) | (simp_all [Md.poolOk]; omega)
theorem into_k1 {w0 : World} {M : Fr} {N n n' l : Nat} {x : Option (Nat × Nat × D)} {R : Roots} {s0 s : Nat → D} {K : List Nat} {J : (Nat → D) → Prop} (hR : R l = none) (hn : n ≤ n') (hk : keepL s s0 K) (hJ : J s) :
    Into w0 M ⟨N, n', s, upd R l x⟩ (RoundK N n R s0 K J) :=
  Into.le ⟨N, n', s, R⟩ ⟨rfl, Nat.le_refl _, fun t => .inl rfl, fun j => by
    by_cases h : j = l
    · subst h; exact .inr hR
    · exact .inl (upd_ne _ _ h).symm⟩ (into_k hn hk hJ)
theorem idx_before {α : Type} {pr : α → Bool} {xs : List α} {i : Nat} (h : Md.idx pr xs = i) : ∀ j, j < i → ∀ (hj : j < xs.length), pr xs[j] = false := by
  unfold Md.idx at h
  cases hf : xs.findIdx? pr with
  | none => rw [hf] at h; simp at h
  | some k =>
    rw [hf] at h
    obtain rfl : k = i := by simp at h; omega
    rw [List.findIdx?_eq_some_iff_getElem] at hf
    obtain ⟨_, _, h3⟩ := hf
    exact fun j hj hj' => by simpa using h3 j hj
theorem idx_other {α : Type} {pr : α → Bool} {xs : List α} {i : Nat} (hi : i < xs.length) (hp : pr xs[i] = true) (h : Md.idx pr xs ≠ i) : ∃ j, ∃ (hj : j < i), pr (xs[j]'(by omega)) = true := by
  refine Classical.byContradiction fun hn => h (Md.idx_at hi hp fun j hj hj' => ?_)
  cases hc : pr xs[j] with
  | false => rfl
  | true => exact absurd ⟨j, hj, hc⟩ hn

theorem poolOk_p (d : D) (p : Md.Pool) (h : IsPool d p) : PCall Try.prog 55 [d] fun _ _ r => r = .lit (.bool (Md.poolOk p)) := by
  have hpool := h
  have hpq := shp_pool _ _ h
  obtain ⟨f, rfl, hst, h0, h1⟩ := h
  have h1 : f 1 = _ := h1
  refine pcall_intro_v Try.func55 rfl (by decide) rfl (by decide) (by rw [Try.ntmps55]; simp) fun w0 M n0 => ivc_sound ?_; simp -dsimp only [Try.f55, go_sem, Nat.reduceLT, Nat.reduceEqDiff, Nat.reduceAdd, Nat.reduceMul, Nat.reduceBEq, beq_self_eq_true, Nat.reduceLeDiff, Nat.le_refl, h0.size, h0.isNode, h0.plain, h0.lenT, h1]
  intro g1 b1 hb1
  refine iwp_forK p.seats.length [1, 6, 7] (fun i s => s 8 = .lit (.int .i64 i) ∧ Md.AllB seatOk p.seats i true ∧ Apart p.seats i) 0 (Nat.zero_le _) ⟨by simp -dsimp only [go_sem, Nat.reduceLT, Nat.reduceEqDiff, Nat.reduceAdd, Nat.reduceMul, Nat.reduceBEq, beq_self_eq_true, Nat.reduceLeDiff, Nat.le_refl]; rfl, Md.allB_zero _ _ _, Apart.zero _⟩ ?_
  rintro i n' s hi hn hk ⟨h8, hall, hap⟩
  refine ivc_sound ?_
  simp -dsimp only [go_sem, Nat.reduceLT, Nat.reduceEqDiff, Nat.reduceAdd, Nat.reduceMul, Nat.reduceBEq, beq_self_eq_true, Nat.reduceLeDiff, Nat.le_refl] at hk
  by_cases hlt : i < p.seats.length
  · obtain ⟨t, zb, fi, hfe, hst', hf'⟩ := h0.sl hlt
    have hsi := hf' i hlt
    have qs := shp_seat _ _ hsi
    obtain ⟨k, hkk, hks, k0, k1, k2, k3⟩ := hsi
    have k0 : k 0 = _ := k0
    have hw := i64_succ (i := i) (by have := h0.short; omega)
    have hl0 := h0.lenT
    rw [hfe] at hl0
    have q := shp_page _ _ k1
    have e1 := q.1
    have e2 := q.2.1
    have e3 := q.2.2.1
    have e4 := q.2.2.2
    have hno : Md.inB p.seats[i].no 0 7 = false → Md.poolOk p = false := fun h => by
      have := Md.not_all (p := seatOk) hlt (by simp [seatOk, h])
      unfold seatOk at this
      simp [Md.poolOk, this]
    have hpg : Md.pageOk p.seats[i].p = false → Md.poolOk p = false := fun h => by
      have := Md.not_all (p := seatOk) hlt (by simp [seatOk, h])
      unfold seatOk at this
      simp [Md.poolOk, this]
    simp -dsimp only [go_sem, Nat.reduceLT, Nat.reduceEqDiff, Nat.reduceAdd, Nat.reduceMul, Nat.reduceBEq, beq_self_eq_true, Nat.reduceLeDiff, Nat.le_refl, hk, h8, hlt, hw, hfe, hl0, hkk, k0]
    intro g2 b2 hb2
    refine xcall_v (in_p _ _ _) (by simp -dsimp only [go_sem, Nat.reduceLT, Nat.reduceEqDiff, Nat.reduceAdd, Nat.reduceMul, Nat.reduceBEq, beq_self_eq_true, Nat.reduceLeDiff, Nat.le_refl, hk, h8, hkk, k0]; rfl) (fun _ => trivial) fun n2 hn2 => ?_
    simp -dsimp only [go_sem, Nat.reduceLT, Nat.reduceEqDiff, Nat.reduceAdd, Nat.reduceMul, Nat.reduceBEq, beq_self_eq_true, Nat.reduceLeDiff, Nat.le_refl, hk, h8, hlt, hw, hfe, hl0, hkk, k0, e1, e2, e3]
    refine ⟨fun hb3 => ?_, ?_⟩
    rotate_left
    · intro hb3
      rw [hno (by simpa using hb3)]
    refine xcall_v (pageOk_p _ _ k1) (by simp -dsimp only [go_sem, Nat.reduceLT, Nat.reduceEqDiff, Nat.reduceAdd, Nat.reduceMul, Nat.reduceBEq, beq_self_eq_true, Nat.reduceLeDiff, Nat.le_refl, rl_still, e4]) (fun _ => trivial) fun n3 hn3 => ?_
    simp -dsimp only [go_sem, Nat.reduceLT, Nat.reduceEqDiff, Nat.reduceAdd, Nat.reduceMul, Nat.reduceBEq, beq_self_eq_true, Nat.reduceLeDiff, Nat.le_refl, hk, h8, hlt, hw, hfe, hl0, hkk, k0, e1, e2, e3]
    refine ⟨fun hb4 => ?_, ?_⟩
    rotate_left
    · intro hb4
      rw [hpg (by simpa using hb4)]
    refine xcall_v (seated_p _ _ _ hpool) (by simp -dsimp only [go_sem, Nat.reduceLT, Nat.reduceEqDiff, Nat.reduceAdd, Nat.reduceMul, Nat.reduceBEq, beq_self_eq_true, Nat.reduceLeDiff, Nat.le_refl, rl_still, hpq.2.2.2]; rfl) (fun _ => trivial) fun n4 hn4 => ?_
    simp -dsimp only [go_sem, Nat.reduceLT, Nat.reduceEqDiff, Nat.reduceAdd, Nat.reduceMul, Nat.reduceBEq, beq_self_eq_true, Nat.reduceLeDiff, Nat.le_refl, hk, h8, hlt, hw, hfe, hl0, hkk, k0, e1, e2, e3]
    refine ⟨fun hb5 => ?_, fun hb5 => into_k1 rfl (by omega) (by simp -dsimp only [go_sem, Nat.reduceLT, Nat.reduceEqDiff, Nat.reduceAdd, Nat.reduceMul, Nat.reduceBEq, beq_self_eq_true, Nat.reduceLeDiff, Nat.le_refl, hk, hfe]) ⟨by simp -dsimp only [go_sem, Nat.reduceLT, Nat.reduceEqDiff, Nat.reduceAdd, Nat.reduceMul, Nat.reduceBEq, beq_self_eq_true, Nat.reduceLeDiff, Nat.le_refl], hall.succ hlt ?_, hap.succ hlt fun a h => ?_⟩⟩
    · have hne : Md.idx (fun s => s.no == p.seats[i].no) p.seats ≠ i := by simpa [Md.seated, Md.idx] using hb5
      obtain ⟨a, ha, he⟩ := idx_other hlt (by simp) hne
      have := not_apart ha hlt (by simpa using he)
      have : Md.poolOk p = false := by simp [Md.poolOk, this]
      rw [this]
    · have a1 : Md.inB p.seats[i].no 0 7 = true := by simpa using hb3
      have a2 : Md.pageOk p.seats[i].p = true := by simpa using hb4
      simp [seatOk, a1, a2]
    · have he : Md.idx (fun s => s.no == p.seats[i].no) p.seats = i := by simpa [Md.seated, Md.idx] using hb5
      simpa using idx_before he a h (by omega)
  · simp -dsimp only [go_sem, Nat.reduceLT, Nat.reduceEqDiff, Nat.reduceAdd, Nat.reduceMul, Nat.reduceBEq, beq_self_eq_true, Nat.reduceLeDiff, Nat.le_refl, hk, h8, hlt, h0.size, h0.isNode, h0.plain, h0.lenT]
    have e1 : p.seats.all seatOk = true := hall.all hlt
    have e2 := hap.all hlt
    unfold seatOk at e1
    refine ⟨fun hb3 => ?_, ?_⟩
    rotate_left
    · first | (simp [Md.poolOk, *]; done) | (simp_all [Md.poolOk]; done) | (simp_all [Md.poolOk]; omega)
    simp -dsimp only [go_sem, Nat.reduceLT, Nat.reduceEqDiff, Nat.reduceAdd, Nat.reduceMul, Nat.reduceBEq, beq_self_eq_true, Nat.reduceLeDiff, Nat.le_refl, hk, h8, hlt, h0.size, h0.isNode, h0.plain, h0.lenT, h1]
    refine xcall_v (in_p _ _ _) (by simp -dsimp only [go_sem, Nat.reduceLT, Nat.reduceEqDiff, Nat.reduceAdd, Nat.reduceMul, Nat.reduceBEq, beq_self_eq_true, Nat.reduceLeDiff, Nat.le_refl, h1]; rfl) (fun _ => trivial) fun n3 hn3 => ?_
    simp -dsimp only [go_sem, Nat.reduceLT, Nat.reduceEqDiff, Nat.reduceAdd, Nat.reduceMul, Nat.reduceBEq, beq_self_eq_true, Nat.reduceLeDiff, Nat.le_refl, h1]
    first | (simp [Md.poolOk, *]; done) | (simp_all [Md.poolOk]; done) | (simp_all [Md.poolOk]; omega)
end Go.Proofs.Ytjaddgkhlmallaa.IM
