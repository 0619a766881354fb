/- Several of my texts in one module (merge.py, shake.py). -/
import Derived.Test.YtncinhlaabdlaaaGreatGtA4
section
namespace Go.Proofs.YtncinhlaabdlaaaGreat.IM
open Go Go.Proofs
set_option linter.unusedVariables false
set_option linter.unusedSimpArgs false
set_option maxHeartbeats 2000000
set_option maxRecDepth 20000
theorem distinctNos_iff : ∀ (l : List Int), Md.distinctNos l = decide l.Nodup
  | [] => by simp [Md.distinctNos]
  | x :: l => by simp [Md.distinctNos, distinctNos_iff l, List.nodup_cons]
def Apart (xs : List Md.Seat) (i : Nat) : Prop := ∀ a b, a < b → b < i → ∀ (ha : a < xs.length) (hb : b < xs.length), xs[a].no ≠ xs[b].no
theorem Apart.zero (xs : List Md.Seat) : Apart xs 0 := fun a b _ h => absurd h (by omega)
theorem Apart.succ {xs : List Md.Seat} {i : Nat} (h : Apart xs i) (hi : i < xs.length) (hn : ∀ a (h : a < i), xs[a].no ≠ xs[i].no) : Apart xs (i + 1) := by
  intro a b hab hb ha' hb'
  rcases Nat.lt_or_ge b i with h1 | h1
  · exact h a b hab h1 ha' hb'
  · obtain rfl : b = i := by omega
    exact hn a hab
theorem Apart.all {xs : List Md.Seat} {i : Nat} (h : Apart xs i) (hi : ¬ i < xs.length) : Md.distinctNos (xs.map (·.no)) = true := by
  rw [distinctNos_iff, decide_eq_true_eq, List.Nodup, List.pairwise_iff_getElem]
  intro a b ha hb hab
  simp only [List.length_map] at ha hb
  simp only [List.getElem_map]
  exact h a b hab (by omega) ha hb
theorem not_apart {xs : List Md.Seat} {a b : Nat} (hab : a < b) (hb : b < xs.length) (he : xs[a].no = xs[b].no) : Md.distinctNos (xs.map (·.no)) = false := by
  rw [distinctNos_iff, decide_eq_false_iff_not, List.Nodup, List.pairwise_iff_getElem]
  intro h
  have := h a b (by simp; omega) (by simpa using hb) hab
  simp only [List.getElem_map] at this
  exact this he
def seatOk (s : Md.Seat) : Bool := Md.inB s.no 0 7 && Md.pageOk s.p
theorem specPoolOk_p (d : D) (p : Md.Pool) (h : IsPool d p) : PCall Tryz.prog 155 [d] fun _ _ r => r = .lit (.bool (Md.poolOk p)) := by
  obtain ⟨f, rfl, hst, h0, h1⟩ := h
  have h1 : f 1 = _ := h1
  refine pcall_intro_v Tryz.func155 rfl (by decide) rfl (by decide) (by rw [Tryz.ntmps155]; simp) fun w0 M n0 => ivc_sound ?_; simp -dsimp only [Tryz.f155, go_sem, h0.size, h0.isNode, h0.plain, h0.lenT, h1]
  intro g1 b1 hb1
  refine ⟨fun hb => ?_, ?_⟩
  rotate_left
  · first | (simp [Md.poolOk, *]; done) | (simp_all [Md.poolOk]; done) | (simp_all [Md.poolOk]; omega)
  refine xcall_v (l1In_p _ _ _) (by simp -dsimp only [go_sem, h1]; rfl) (fun _ => trivial) fun n1 hn1 => ?_
  simp -dsimp only [go_sem, h0.size, h0.isNode, h0.plain, h0.lenT, h1]
  refine ⟨?_, fun hb1 => ?_⟩
  · first | (simp [Md.poolOk, *]; done) | (simp_all [Md.poolOk]; done) | (simp_all [Md.poolOk]; omega)
  refine iwp_forK p.seats.length [1] (fun i s => s 3 = .lit (.int .i64 i) ∧ Md.AllB seatOk p.seats i true ∧ Apart p.seats i) 0 (Nat.zero_le _) ⟨by simp -dsimp only [go_sem]; rfl, Md.allB_zero _ _ _, Apart.zero _⟩ ?_
  rintro i n' s hi hn hk ⟨h3, hall, hap⟩
  refine ivc_sound ?_
  simp -dsimp only [go_sem] at hk
  by_cases hlt : i < p.seats.length
  · obtain ⟨t, zb, fi, hfe, hst', hf'⟩ := h0.sl hlt
    obtain ⟨k, hkk, hks, k0, k1, k2, k3⟩ := hf' i hlt
    have k0 : k 0 = _ := k0
    have hw := i64_succ (i := i) (by have := h0.short; omega)
    have hl0 := h0.lenT
    rw [hfe] at hl0
    simp -dsimp only [go_sem, hk, h3, hlt, hw, hfe, hl0, hkk, k0]
    refine xcall_v (l1In_p _ _ _) (by simp -dsimp only [go_sem, hk, h3, hlt, hw, hfe, hkk, k0]; rfl) (fun _ => trivial) fun n2 hn2 => ?_
    simp -dsimp only [go_sem, hk, h3, hlt, hw, hfe, hl0, hkk, k0]
    have q := shp_page _ _ k1
    have e1 := q.1
    have e2 := q.2.1
    have e3 := q.2.2.1
    have e4 := q.2.2.2
    have hno : Md.inB p.seats[i].no 0 7 = false → Md.poolOk p = false := fun h => by
      have := Md.not_all (p := seatOk) hlt (by simp [seatOk, h])
      unfold seatOk at this
      simp [Md.poolOk, this]
    have hpg : Md.pageOk p.seats[i].p = false → Md.poolOk p = false := fun h => by
      have := Md.not_all (p := seatOk) hlt (by simp [seatOk, h])
      unfold seatOk at this
      simp [Md.poolOk, this]
    refine ⟨fun hb2 => ?_, ?_⟩
    rotate_left
    · intro hb2
      rw [hno (by simpa using hb2)]
    simp -dsimp only [go_sem, hk, h3, hlt, hw, hfe, hl0, hkk, k0, e1, e2, e3]
    refine xcall_v (specPageOk_p _ _ k1) (by simp -dsimp only [go_sem, rl_still, e4]) (fun _ => trivial) fun n3 hn3 => ?_
    simp -dsimp only [go_sem, hk, h3, hlt, hw, hfe, hl0, hkk, k0, e1, e2, e3]
    refine ⟨fun hb3 => ?_, fun hb3 => ?_⟩
    · rw [hpg (by simpa using hb3)]
    refine iwp_forK i [1, 3] (fun j s => s 4 = .lit (.int .i64 j) ∧ ∀ a (h : a < j) (ha : a < p.seats.length), p.seats[a].no ≠ p.seats[i].no) 0 (Nat.zero_le _) ⟨by simp -dsimp only [go_sem]; rfl, fun a h => absurd h (by omega)⟩ ?_
    rintro j n4 s2 hj hn4 hk2 ⟨h4, hno2⟩
    refine ivc_sound ?_
    simp -dsimp only [go_sem, hk, h3] at hk2
    by_cases hlt2 : j < i
    · have hlt3 : j < p.seats.length := by omega
      have hc : (j : Int) < i := by omega
      obtain ⟨k', hkk', hks', k0', _, _, _⟩ := hf' j hlt3
      have k0' : k' 0 = _ := k0'
      have hw2 := i64_succ (i := j) (by have := h0.short; omega)
      simp -dsimp only [go_sem, hk2, h4, hc, hlt, hw2, hfe, hkk', k0', hkk, k0]
      refine iwp_plan [(0, true), (1, true), (2, true), (3, true), (4, true), (5, true), (6, true), (7, true), (8, true), (9, true), (10, true), (11, true), (12, true)] [1] rfl (by decide +kernel) (by decide) [] (by decide +kernel) ?_
      simp -dsimp only [go_sem, hk2, h4, hc, hlt, hlt2, hlt3, hw2, hfe, hl0, hkk', k0', hkk, k0]
      refine ⟨fun hb4 => ?_, fun hb4 => into_k (by omega) (by simp -dsimp only [go_sem, hk2, hk, h3]) ⟨by simp -dsimp only [go_sem], fun a h ha => ?_⟩⟩
      · have := not_apart hlt2 hlt (by simpa using hb4)
        have : Md.poolOk p = false := by simp [Md.poolOk, this]
        rw [this]
      · rcases Nat.lt_or_ge a j with h5 | h5
        · exact hno2 a h5 ha
        · obtain rfl : a = j := by omega
          simpa using hb4
    · have hc : ¬ (j : Int) < i := by omega
      simp -dsimp only [go_sem, hk2, h4, hc, hw]
      refine into_k (by omega) (by simp -dsimp only [go_sem, hk2]) ⟨by simp -dsimp only [go_sem], hall.succ hlt ?_, hap.succ hlt fun a h => hno2 a (by omega) _⟩
      have a1 : Md.inB p.seats[i].no 0 7 = true := by simpa using hb2
      have a2 : Md.pageOk p.seats[i].p = true := by simpa using hb3
      simp [seatOk, a1, a2]
  · simp -dsimp only [go_sem, hk, h3, hlt, h0.size, h0.isNode, h0.plain, h0.lenT]
    have e1 : p.seats.all seatOk = true := hall.all hlt
    have e2 := hap.all hlt
    unfold seatOk at e1
    first | (simp [Md.poolOk, *]; done) | (simp_all [Md.poolOk]; done) | (simp_all [Md.poolOk]; omega)
theorem into_k1 {w0 : World} {M : Fr} {N n n' l : Nat} {x : Option (Nat × Nat × D)} {R : Roots} {s0 s : Nat → D} {K : List Nat} {J : (Nat → D) → Prop} (hR : R l = none) (hn : n ≤ n') (hk : keepL s s0 K) (hJ : J s) :
    Into w0 M ⟨N, n', s, upd R l x⟩ (RoundK N n R s0 K J) :=
  Into.le ⟨N, n', s, R⟩ ⟨rfl, Nat.le_refl _, fun t => .inl rfl, fun j => by
    by_cases h : j = l
    · subst h; exact .inr hR
    · exact .inl (upd_ne _ _ h).symm⟩ (into_k hn hk hJ)
theorem idx_before {α : Type} {pr : α → Bool} {xs : List α} {i : Nat} (h : Md.idx pr xs = i) : ∀ j, j < i → ∀ (hj : j < xs.length), pr xs[j] = false := by
  unfold Md.idx at h
  cases hf : xs.findIdx? pr with
  | none => rw [hf] at h; simp at h
  | some k =>
    rw [hf] at h
    obtain rfl : k = i := by simp at h; omega
    rw [List.findIdx?_eq_some_iff_getElem] at hf
    obtain ⟨_, _, h3⟩ := hf
    exact fun j hj hj' => by simpa using h3 j hj
theorem idx_other {α : Type} {pr : α → Bool} {xs : List α} {i : Nat} (hi : i < xs.length) (hp : pr xs[i] = true) (h : Md.idx pr xs ≠ i) : ∃ j, ∃ (hj : j < i), pr (xs[j]'(by omega)) = true := by
  refine Classical.byContradiction fun hn => h (Md.idx_at hi hp fun j hj hj' => ?_)
  cases hc : pr xs[j] with
  | false => rfl
  | true => exact absurd ⟨j, hj, hc⟩ hn
theorem poolOk_p (d : D) (p : Md.Pool) (h : IsPool d p) : PCall Tryz.prog 162 [d] fun _ _ r => r = .lit (.bool (Md.poolOk p)) := by
  have hpool := h
  have hpq := shp_pool _ _ h
  obtain ⟨f, rfl, hst, h0, h1⟩ := h
  have h1 : f 1 = _ := h1
  refine pcall_intro_v Tryz.func162 rfl (by decide) rfl (by decide) (by rw [Tryz.ntmps162]; simp) fun w0 M n0 => ivc_sound ?_; simp -dsimp only [Tryz.f162, go_sem, h0.size, h0.isNode, h0.plain, h0.lenT, h1]
  intro g1 b1 hb1
  refine iwp_forK p.seats.length [1, 6, 7] (fun i s => s 8 = .lit (.int .i64 i) ∧ Md.AllB seatOk p.seats i true ∧ Apart p.seats i) 0 (Nat.zero_le _) ⟨by simp -dsimp only [go_sem]; rfl, Md.allB_zero _ _ _, Apart.zero _⟩ ?_
  rintro i n' s hi hn hk ⟨h8, hall, hap⟩
  refine ivc_sound ?_
  simp -dsimp only [go_sem] at hk
  by_cases hlt : i < p.seats.length
  · obtain ⟨t, zb, fi, hfe, hst', hf'⟩ := h0.sl hlt
    have hsi := hf' i hlt
    have qs := shp_seat _ _ hsi
    obtain ⟨k, hkk, hks, k0, k1, k2, k3⟩ := hsi
    have k0 : k 0 = _ := k0
    have hw := i64_succ (i := i) (by have := h0.short; omega)
    have hl0 := h0.lenT
    rw [hfe] at hl0
    have q := shp_page _ _ k1
    have e1 := q.1
    have e2 := q.2.1
    have e3 := q.2.2.1
    have e4 := q.2.2.2
    have hno : Md.inB p.seats[i].no 0 7 = false → Md.poolOk p = false := fun h => by
      have := Md.not_all (p := seatOk) hlt (by simp [seatOk, h])
      unfold seatOk at this
      simp [Md.poolOk, this]
    have hpg : Md.pageOk p.seats[i].p = false → Md.poolOk p = false := fun h => by
      have := Md.not_all (p := seatOk) hlt (by simp [seatOk, h])
      unfold seatOk at this
      simp [Md.poolOk, this]
    simp -dsimp only [go_sem, hk, h8, hlt, hw, hfe, hl0, hkk, k0]
    intro g2 b2 hb2
    refine xcall_v (in_p _ _ _) (by simp -dsimp only [go_sem, hk, h8, hkk, k0]; rfl) (fun _ => trivial) fun n2 hn2 => ?_
    simp -dsimp only [go_sem, hk, h8, hlt, hw, hfe, hl0, hkk, k0, e1, e2, e3]
    refine ⟨fun hb3 => ?_, ?_⟩
    rotate_left
    · intro hb3
      rw [hno (by simpa using hb3)]
    refine xcall_v (pageOk_p _ _ k1) (by simp -dsimp only [go_sem, rl_still, e4]) (fun _ => trivial) fun n3 hn3 => ?_
    simp -dsimp only [go_sem, hk, h8, hlt, hw, hfe, hl0, hkk, k0, e1, e2, e3]
    refine ⟨fun hb4 => ?_, ?_⟩
    rotate_left
    · intro hb4
      rw [hpg (by simpa using hb4)]
    refine xcall_v (seated_p _ _ _ hpool) (by simp -dsimp only [go_sem, rl_still, hpq.2.2.2]; rfl) (fun _ => trivial) fun n4 hn4 => ?_
    simp -dsimp only [go_sem, hk, h8, hlt, hw, hfe, hl0, hkk, k0, e1, e2, e3]
    refine ⟨fun hb5 => ?_, fun hb5 => into_k1 rfl (by omega) (by simp -dsimp only [go_sem, hk, hfe]) ⟨by simp -dsimp only [go_sem], hall.succ hlt ?_, hap.succ hlt fun a h => ?_⟩⟩
    · have hne : Md.idx (fun s => s.no == p.seats[i].no) p.seats ≠ i := by simpa [Md.seated, Md.idx] using hb5
      obtain ⟨a, ha, he⟩ := idx_other hlt (by simp) hne
      have := not_apart ha hlt (by simpa using he)
      have : Md.poolOk p = false := by simp [Md.poolOk, this]
      rw [this]
    · have a1 : Md.inB p.seats[i].no 0 7 = true := by simpa using hb3
      have a2 : Md.pageOk p.seats[i].p = true := by simpa using hb4
      simp [seatOk, a1, a2]
    · have he : Md.idx (fun s => s.no == p.seats[i].no) p.seats = i := by simpa [Md.seated, Md.idx] using hb5
      simpa using idx_before he a h (by omega)
  · simp -dsimp only [go_sem, hk, h8, hlt, h0.size, h0.isNode, h0.plain, h0.lenT]
    have e1 : p.seats.all seatOk = true := hall.all hlt
    have e2 := hap.all hlt
    unfold seatOk at e1
    refine ⟨fun hb3 => ?_, ?_⟩
    rotate_left
    · first | (simp [Md.poolOk, *]; done) | (simp_all [Md.poolOk]; done) | (simp_all [Md.poolOk]; omega)
    simp -dsimp only [go_sem, hk, h8, hlt, h0.size, h0.isNode, h0.plain, h0.lenT, h1]
    refine xcall_v (in_p _ _ _) (by simp -dsimp only [go_sem, h1]; rfl) (fun _ => trivial) fun n3 hn3 => ?_
    simp -dsimp only [go_sem, h1]
    first | (simp [Md.poolOk, *]; done) | (simp_all [Md.poolOk]; done) | (simp_all [Md.poolOk]; omega)
theorem sameInts_p (d d' : D) (xs ys : List Int) (h : IsL 1 IsInt d xs) (h' : IsL 1 IsInt d' ys) : PCall Tryz.prog 239 [d, d'] fun _ _ r => r = .lit (.bool (decide (xs = ys))) := by
  refine pcall_intro_v Tryz.func239 rfl (by decide) rfl (by decide) (by rw [Tryz.ntmps239]; simp) fun w0 M n0 => ivc_sound ?_; simp -dsimp only [Tryz.f239, go_sem, h.lenT, h'.lenT]
  refine ⟨fun hb => ?_, fun hb => ?_⟩
  · have : ¬ xs = ys := by rintro rfl; simp at hb
    simp [this]
  have hl : xs.length = ys.length := by simp at hb; omega
  refine iwp_forK xs.length [0, 1] (fun i s => s 5 = .lit (.int .i64 i) ∧ ∀ j (_ : j < i) (h1 : j < xs.length) (h2 : j < ys.length), xs[j] = ys[j]) 0 (Nat.zero_le _) ⟨by simp -dsimp only [go_sem]; rfl, fun j h => absurd h (by omega)⟩ ?_
  rintro i n' s hi hn hk ⟨h5, hall⟩
  refine ivc_sound ?_
  by_cases hlt : i < xs.length
  · have hlt' : i < ys.length := by omega
    obtain ⟨t, zb, fi, rfl, hst, hf⟩ := h.sl hlt
    obtain ⟨t', zb', fi', rfl, hst', hf'⟩ := h'.sl hlt'
    have hfi : fi i = _ := hf i hlt
    have hfi' : fi' i = _ := hf' i hlt'
    have hw := i64_succ (i := i) (by have := h.short; omega)
    simp -dsimp only [go_sem] at hk
    simp -dsimp only [go_sem, hk, h5, hlt, hw]
    refine iwp_plan [(0, true), (1, true), (2, true), (3, true), (4, true), (5, true), (6, true), (7, true), (8, true)] [] rfl (by decide +kernel) (by decide) [] (by decide +kernel) ?_
    simp -dsimp only [go_sem, hk, h5, hlt, hlt', hw, hfi, hfi']
    refine ⟨fun hb2 => ?_, fun hb2 => into_k (by omega) (by simp -dsimp only [go_sem, hk]) ⟨by simp -dsimp only [go_sem], fun j h1 h2 h3 => ?_⟩⟩
    · have : ¬ xs = ys := by rintro rfl; simp at hb2
      simp [this]
    · rcases Nat.lt_or_ge j i with h4 | h4
      · exact hall j h4 h2 h3
      · obtain rfl : j = i := by omega
        simpa using hb2
  · simp -dsimp only [go_sem] at hk
    simp -dsimp only [go_sem, hk, h5, hlt, h.lenT]
    have : xs = ys := List.ext_getElem hl fun j h1 h2 => hall j (by omega) h1 h2
    simp [this]
def sameO (x y : Md.Obj) : Bool := x.kind == y.kind && decide (x.ints = y.ints) && decide (x.refs = y.refs)
def sameS (x y : Md.Slot) : Bool := x.has == y.has && sameO x.o y.o
theorem sameObj_p (d d' : D) (x y : Md.Obj) (h : IsObj d x) (h' : IsObj d' y) : PCall Tryz.prog 231 [d, d'] fun _ _ r => r = .lit (.bool (sameO x y)) := by
  obtain ⟨f, rfl, hst, k0, k1, k2⟩ := h
  obtain ⟨f', rfl, hst', l0, l1, l2⟩ := h'
  have k0 : f 0 = _ := k0
  have l0 : f' 0 = _ := l0
  refine pcall_intro_v Tryz.func231 rfl (by decide) rfl (by decide) (by rw [Tryz.ntmps231]; simp) fun w0 M n0 => ivc_sound ?_; simp -dsimp only [Tryz.f231, go_sem, k0, l0, k1.size, k1.isNode, k1.plain, l1.size, l1.isNode, l1.plain, k2.size, k2.isNode, k2.plain, l2.size, l2.isNode, l2.plain]
  intro g1 b1 hb1 g2 b2 hb2
  refine ⟨fun hb => ?_, ?_⟩
  rotate_left
  · first | (simp [sameO, *]; done) | (simp_all [sameO]; done) | (simp_all [sameO]; omega)
  refine xcall_v (sameInts_p _ _ _ _ k1 l1) (by simp -dsimp only [go_sem, rl_still, k1.still, l1.still]) (fun _ => trivial) fun n1 hn1 => ?_
  simp -dsimp only [go_sem, k0, l0, k1.size, k1.isNode, k1.plain, l1.size, l1.isNode, l1.plain, k2.size, k2.isNode, k2.plain, l2.size, l2.isNode, l2.plain]
  refine ⟨fun hb2 => ?_, ?_⟩
  rotate_left
  · first | (simp [sameO, *]; done) | (simp_all [sameO]; done) | (simp_all [sameO]; omega)
  refine xcall_v (sameInts_p _ _ _ _ k2 l2) (by simp -dsimp only [go_sem, rl_still, k2.still, l2.still]) (fun _ => trivial) fun n2 hn2 => ?_
  simp -dsimp only [go_sem, k0, l0, k1.size, k1.isNode, k1.plain, l1.size, l1.isNode, l1.plain, k2.size, k2.isNode, k2.plain, l2.size, l2.isNode, l2.plain]
  first | (simp [sameO, *]; done) | (simp_all [sameO]; done) | (simp_all [sameO]; omega)
theorem sameSlot_p (d d' : D) (x y : Md.Slot) (h : IsSlot d x) (h' : IsSlot d' y) : PCall Tryz.prog 211 [d, d'] fun _ _ r => r = .lit (.bool (sameS x y)) := by
  obtain ⟨f, rfl, hst, k0, k1⟩ := h
  obtain ⟨f', rfl, hst', l0, l1⟩ := h'
  have k0 : f 0 = _ := k0
  have l0 : f' 0 = _ := l0
  have q := shp_obj _ _ k1
  have q' := shp_obj _ _ l1
  refine pcall_intro_v Tryz.func211 rfl (by decide) rfl (by decide) (by rw [Tryz.ntmps211]; simp) fun w0 M n0 => ivc_sound ?_; simp -dsimp only [Tryz.f211, go_sem, k0, l0, q.1, q.2.1, q'.1, q'.2.1]
  intro g1 b1 hb1 g2 b2 hb2
  refine ⟨fun hb => ?_, ?_⟩
  rotate_left
  · first | (simp [sameS, *]; done) | (simp_all [sameS]; done) | (simp_all [sameS]; omega)
  refine xcall_v (sameObj_p _ _ _ _ k1 l1) (by simp -dsimp only [go_sem, rl_still, q.2.2.2, q'.2.2.2]) (fun _ => trivial) fun n1 hn1 => ?_
  simp -dsimp only [go_sem, k0, l0]
  first | (simp [sameS, *]; done) | (simp_all [sameS]; done) | (simp_all [sameS]; omega)
theorem noSlot_p (d : D) (s : Md.Slot) (h : IsSlot d s) : PCall Tryz.prog 227 [d] fun _ _ r => r = .lit (.bool (Md.noSlot s)) := by
  obtain ⟨f, rfl, hst, h0, h1⟩ := h
  have h0 : f 0 = _ := h0
  have q := shp_obj _ _ h1
  refine pcall_intro_v Tryz.func227 rfl (by decide) rfl (by decide) (by rw [Tryz.ntmps227]; simp) fun w0 M n0 => ivc_sound ?_; simp -dsimp only [Tryz.f227, go_sem, h0, q.1, q.2.1]
  intro g1 b1 hb1
  refine ⟨fun hb => ?_, ?_⟩
  rotate_left
  · first | (simp [Md.noSlot, *]; done) | (simp_all [Md.noSlot]; done) | (simp_all [Md.noSlot]; omega)
  refine xcall_v (noObj_p _ _ h1) (by simp -dsimp only [go_sem, rl_still, q.2.2.2]) (fun _ => trivial) fun n1 hn1 => ?_
  simp -dsimp only [go_sem]
  first | (simp [Md.noSlot, *]; done) | (simp_all [Md.noSlot]; done) | (simp_all [Md.noSlot]; omega)
theorem isTx_p (n : Int) : PCall Tryz.prog 214 [.lit (.int .i64 n)] fun _ _ r => r = .lit (.bool (Md.inB n 1 1000)) := by
  refine pcall_intro_v Tryz.func214 rfl (by decide) rfl (by decide) (by rw [Tryz.ntmps214]; simp) fun w0 M n0 => ivc_sound ?_; simp -dsimp only [Tryz.f214, go_sem]
  refine xcall_v (in_p _ _ _) (by simp -dsimp only [go_sem]; rfl) (fun _ => trivial) fun n1 hn1 => ?_
  simp -dsimp only [go_sem]
theorem isOid_p (n : Int) : PCall Tryz.prog 58 [.lit (.int .i64 n)] fun _ _ r => r = .lit (.bool (Md.inB n 1 31)) := by
  refine pcall_intro_v Tryz.func58 rfl (by decide) rfl (by decide) (by rw [Tryz.ntmps58]; simp) fun w0 M n0 => ivc_sound ?_; simp -dsimp only [Tryz.f58, go_sem]
  refine xcall_v (in_p _ _ _) (by simp -dsimp only [go_sem]; rfl) (fun _ => trivial) fun n1 hn1 => ?_
  simp -dsimp only [go_sem]
def zeroR (r : Md.Rec) (b1 b2 b3 b4 b5 : Bool) : Bool :=
  (b1 || (r.tx == 0 && r.prev == 0)) && (b2 || (r.oid == 0 && sameS r.after Md.zSlot)) && (b3 || sameS r.before Md.zSlot) && (b4 || r.next == 0) && (b5 || (r.txs.length : Int) == 0)
theorem isSlot_zero : IsSlot (.node (.agg [1, 3]) (nthD [.lit (.bool false), .node (.agg [1, 1, 1]) (nthD [.lit (.int .i64 0), .nil, .nil])])) Md.zSlot :=
  ⟨_, rfl, stN (by simp only [stillL_nil, stillL_cons, still_lit, still_nil, still_any, still_nodeN, still_nodeC, and_self]), rfl, _, rfl, stN (by simp only [stillL_nil, stillL_cons, still_lit, still_nil, still_any, still_nodeN, still_nodeC, and_self]), rfl, .inl ⟨rfl, rfl⟩, .inl ⟨rfl, rfl⟩⟩
theorem l4Zero_c (d : D) (r : Md.Rec) (h : IsRec d r) : PCall Tryz.prog 229 [d, .lit (.bool false), .lit (.bool false), .lit (.bool false), .lit (.bool false), .lit (.bool true)] fun _ _ x => x = .lit (.bool (zeroR r false false false false true)) := by
  obtain ⟨f, rfl, hst, k0, k1, k2, k3, k4, k5, k6, k7, k8⟩ := h
  have k0 : f 0 = _ := k0
  have k1 : f 1 = _ := k1
  have k2 : f 2 = _ := k2
  have k3 : f 3 = _ := k3
  have k4 : f 4 = _ := k4
  have k7 : f 7 = _ := k7
  have q5 := shp_slot _ _ k5
  have q6 := shp_slot _ _ k6
  refine pcall_intro_v Tryz.func229 rfl (by decide) rfl (by decide) (by rw [Tryz.ntmps229]; simp) fun w0 M n0 => ivc_sound ?_; simp -dsimp only [Tryz.f229, go_sem, k0, k1, k2, k3, k4, k7, q5.1, q5.2.1, q6.1, q6.2.1, k8.size, k8.isNode, k8.plain, k8.lenT]
  intro g1 b1 hb1 g2 b2 hb2
  refine ⟨fun t1 => ?_, ?_⟩
  rotate_left
  · first | (simp [zeroR, *]; done) | (simp_all [zeroR]; done) | (simp_all [zeroR]; omega)
  refine ⟨fun t2 => ?_, ?_⟩
  rotate_left
  · first | (simp [zeroR, *]; done) | (simp_all [zeroR]; done) | (simp_all [zeroR]; omega)
  refine ⟨fun t3 => ?_, ?_⟩
  rotate_left
  · first | (simp [zeroR, *]; done) | (simp_all [zeroR]; done) | (simp_all [zeroR]; omega)
  refine xcall_v (sameSlot_p _ _ _ _ k6 isSlot_zero) (by simp -dsimp only [go_sem, rl_still, q6.2.2.2, isSlot_zero.still]) (fun _ => trivial) fun n1 hn1 => ?_
  simp -dsimp only [go_sem, k0, k1, k2, k3, k4, k7, q5.1, q5.2.1, q6.1, q6.2.1, k8.size, k8.isNode, k8.plain, k8.lenT]
  refine ⟨fun t4 => ?_, ?_⟩
  rotate_left
  · first | (simp [zeroR, *]; done) | (simp_all [zeroR]; done) | (simp_all [zeroR]; omega)
  refine xcall_v (sameSlot_p _ _ _ _ k5 isSlot_zero) (by simp -dsimp only [go_sem, rl_still, q5.2.2.2, isSlot_zero.still]) (fun _ => trivial) fun n2 hn2 => ?_
  simp -dsimp only [go_sem, k0, k1, k2, k3, k4, k7, q5.1, q5.2.1, q6.1, q6.2.1, k8.size, k8.isNode, k8.plain, k8.lenT]
  refine ⟨fun t5 => ?_, ?_⟩
  rotate_left
  · first | (simp [zeroR, *]; done) | (simp_all [zeroR]; done) | (simp_all [zeroR]; omega)
  first | (simp [zeroR, *]; done) | (simp_all [zeroR]; done) | (simp_all [zeroR]; omega)
theorem l4Zero_s (d : D) (r : Md.Rec) (h : IsRec d r) : PCall Tryz.prog 229 [d, .lit (.bool true), .lit (.bool true), .lit (.bool true), .lit (.bool false), .lit (.bool false)] fun _ _ x => x = .lit (.bool (zeroR r true true true false false)) := by
  obtain ⟨f, rfl, hst, k0, k1, k2, k3, k4, k5, k6, k7, k8⟩ := h
  have k0 : f 0 = _ := k0
  have k1 : f 1 = _ := k1
  have k2 : f 2 = _ := k2
  have k3 : f 3 = _ := k3
  have k4 : f 4 = _ := k4
  have k7 : f 7 = _ := k7
  have q5 := shp_slot _ _ k5
  have q6 := shp_slot _ _ k6
  refine pcall_intro_v Tryz.func229 rfl (by decide) rfl (by decide) (by rw [Tryz.ntmps229]; simp) fun w0 M n0 => ivc_sound ?_; simp -dsimp only [Tryz.f229, go_sem, k0, k1, k2, k3, k4, k7, q5.1, q5.2.1, q6.1, q6.2.1, k8.size, k8.isNode, k8.plain, k8.lenT]
  intros
  refine ⟨fun t1 => ?_, fun t1 => ?_⟩
  · first | (simp [zeroR, *]; done) | (simp_all [zeroR]; done) | (simp_all [zeroR]; omega)
  · first | (simp [zeroR, *]; done) | (simp_all [zeroR]; done) | (simp_all [zeroR]; omega)
theorem l4Zero_b (d : D) (r : Md.Rec) (h : IsRec d r) : PCall Tryz.prog 229 [d, .lit (.bool true), .lit (.bool true), .lit (.bool false), .lit (.bool true), .lit (.bool false)] fun _ _ x => x = .lit (.bool (zeroR r true true false true false)) := by
  obtain ⟨f, rfl, hst, k0, k1, k2, k3, k4, k5, k6, k7, k8⟩ := h
  have k0 : f 0 = _ := k0
  have k1 : f 1 = _ := k1
  have k2 : f 2 = _ := k2
  have k3 : f 3 = _ := k3
  have k4 : f 4 = _ := k4
  have k7 : f 7 = _ := k7
  have q5 := shp_slot _ _ k5
  have q6 := shp_slot _ _ k6
  refine pcall_intro_v Tryz.func229 rfl (by decide) rfl (by decide) (by rw [Tryz.ntmps229]; simp) fun w0 M n0 => ivc_sound ?_; simp -dsimp only [Tryz.f229, go_sem, k0, k1, k2, k3, k4, k7, q5.1, q5.2.1, q6.1, q6.2.1, k8.size, k8.isNode, k8.plain, k8.lenT]
  intro g1 b1 hb1 g2 b2 hb2
  refine xcall_v (sameSlot_p _ _ _ _ k5 isSlot_zero) (by simp -dsimp only [go_sem, rl_still, q5.2.2.2, isSlot_zero.still]) (fun _ => trivial) fun n2 hn2 => ?_
  simp -dsimp only [go_sem, k0, k1, k2, k3, k4, k7, q5.1, q5.2.1, q6.1, q6.2.1, k8.size, k8.isNode, k8.plain, k8.lenT]
  refine ⟨fun t5 => ?_, ?_⟩
  rotate_left
  · first | (simp [zeroR, *]; done) | (simp_all [zeroR]; done) | (simp_all [zeroR]; omega)
  first | (simp [zeroR, *]; done) | (simp_all [zeroR]; done) | (simp_all [zeroR]; omega)
theorem l4Zero_o (d : D) (r : Md.Rec) (h : IsRec d r) : PCall Tryz.prog 229 [d, .lit (.bool true), .lit (.bool false), .lit (.bool false), .lit (.bool false), .lit (.bool false)] fun _ _ x => x = .lit (.bool (zeroR r true false false false false)) := by
  obtain ⟨f, rfl, hst, k0, k1, k2, k3, k4, k5, k6, k7, k8⟩ := h
  have k0 : f 0 = _ := k0
  have k1 : f 1 = _ := k1
  have k2 : f 2 = _ := k2
  have k3 : f 3 = _ := k3
  have k4 : f 4 = _ := k4
  have k7 : f 7 = _ := k7
  have q5 := shp_slot _ _ k5
  have q6 := shp_slot _ _ k6
  refine pcall_intro_v Tryz.func229 rfl (by decide) rfl (by decide) (by rw [Tryz.ntmps229]; simp) fun w0 M n0 => ivc_sound ?_; simp -dsimp only [Tryz.f229, go_sem, k0, k1, k2, k3, k4, k7, q5.1, q5.2.1, q6.1, q6.2.1, k8.size, k8.isNode, k8.plain, k8.lenT]
  intro g1 b1 hb1 g2 b2 hb2
  refine ⟨fun t3 => ?_, ?_⟩
  rotate_left
  · first | (simp [zeroR, *]; done) | (simp_all [zeroR]; done) | (simp_all [zeroR]; omega)
  refine xcall_v (sameSlot_p _ _ _ _ k6 isSlot_zero) (by simp -dsimp only [go_sem, rl_still, q6.2.2.2, isSlot_zero.still]) (fun _ => trivial) fun n1 hn1 => ?_
  simp -dsimp only [go_sem, k0, k1, k2, k3, k4, k7, q5.1, q5.2.1, q6.1, q6.2.1, k8.size, k8.isNode, k8.plain, k8.lenT]
  refine ⟨fun t4 => ?_, ?_⟩
  rotate_left
  · first | (simp [zeroR, *]; done) | (simp_all [zeroR]; done) | (simp_all [zeroR]; omega)
  refine xcall_v (sameSlot_p _ _ _ _ k5 isSlot_zero) (by simp -dsimp only [go_sem, rl_still, q5.2.2.2, isSlot_zero.still]) (fun _ => trivial) fun n2 hn2 => ?_
  simp -dsimp only [go_sem, k0, k1, k2, k3, k4, k7, q5.1, q5.2.1, q6.1, q6.2.1, k8.size, k8.isNode, k8.plain, k8.lenT]
  refine ⟨fun t5 => ?_, ?_⟩
  rotate_left
  · first | (simp [zeroR, *]; done) | (simp_all [zeroR]; done) | (simp_all [zeroR]; omega)
  refine ⟨fun t6 => ?_, ?_⟩
  rotate_left
  · first | (simp [zeroR, *]; done) | (simp_all [zeroR]; done) | (simp_all [zeroR]; omega)
  first | (simp [zeroR, *]; done) | (simp_all [zeroR]; done) | (simp_all [zeroR]; omega)
theorem asc_iff : ∀ (l : List Md.Live), Md.ascending l = true ↔ ∀ j (h : j + 1 < l.length), (l[j]'(by omega)).tx < l[j + 1].tx
  | [] => by simp [Md.ascending]
  | [x] => by simp [Md.ascending]
  | x :: y :: l => by
    simp only [Md.ascending, Bool.and_eq_true, decide_eq_true_eq, asc_iff (y :: l)]
    constructor
    · rintro ⟨h1, h2⟩ j hj
      cases j with
      | zero => exact h1
      | succ j => exact h2 j (by simpa using hj)
    · intro h
      exact ⟨h 0 (by simp), fun j hj => h (j + 1) (by simpa using hj)⟩
def liveIn (lsn : Int) (x : Md.Live) : Bool := Md.inB x.tx 1 1000 && Md.inB x.last 1 (lsn - 1)
def AscTo (l : List Md.Live) (i : Nat) : Prop := ∀ j (h : j + 1 < l.length), j + 1 < i → (l[j]'(by omega)).tx < l[j + 1].tx
theorem AscTo.zero (l : List Md.Live) : AscTo l 0 := fun j _ h => absurd h (by omega)
theorem AscTo.succ {l : List Md.Live} {i : Nat} (h : AscTo l i) (hi : i < l.length) (hn : 0 < i → (l[i - 1]'(by omega)).tx < l[i].tx) : AscTo l (i + 1) := by
  intro j hj hji
  rcases Nat.lt_or_ge (j + 1) i with h1 | h1
  · exact h j hj h1
  · obtain rfl : i = j + 1 := by omega
    exact hn (by omega)
theorem livesOk_end {l : List Md.Live} {lsn : Int} {i : Nat} (hall : Md.AllB (liveIn lsn) l i true) (hasc : AscTo l i) (hi : ¬ i < l.length) : Md.livesOk l lsn = decide (l.length ≤ 20) := by
  have h1 : l.all (liveIn lsn) = true := hall.all hi
  have h2 : Md.ascending l = true := (asc_iff l).2 fun j hj => hasc j hj (by omega)
  unfold liveIn at h1
  simp [Md.livesOk, h1, h2]
theorem livesOk_bad {l : List Md.Live} {lsn : Int} {i : Nat} (hi : i < l.length) (h : liveIn lsn l[i] = false) : Md.livesOk l lsn = false := by
  have h1 : l.all (liveIn lsn) = false := Md.not_all hi h
  unfold liveIn at h1
  simp [Md.livesOk, h1]
theorem livesOk_desc {l : List Md.Live} {lsn : Int} {i : Nat} (hi : i < l.length) (h0 : 0 < i) (h : l[i].tx ≤ (l[i - 1]'(by omega)).tx) : Md.livesOk l lsn = false := by
  have h1 : ¬ Md.ascending l = true := fun ha => by
    have := (asc_iff l).1 ha (i - 1) (by omega)
    have e : i - 1 + 1 = i := by omega
    simp only [e] at this
    omega
  simp [Md.livesOk, h1]
theorem l4Lives_p (d : D) (r : Md.Rec) (h : IsRec d r) (hl1 : 1 ≤ r.lsn) (hl2 : r.lsn ≤ 1000000) : PCall Tryz.prog 230 [d] fun _ _ x => x = .lit (.bool (Md.livesOk r.txs r.lsn)) := by
  obtain ⟨f, rfl, hst, k0, k1, k2, k3, k4, k5, k6, k7, k8⟩ := h
  have k0 : f 0 = _ := k0
  have hsub : IntKind.i64.wrap (r.lsn - 1) = r.lsn - 1 := by rw [IntKind.wrap_i64]; omega
  refine pcall_intro_v Tryz.func230 rfl (by decide) rfl (by decide) (by rw [Tryz.ntmps230]; simp) fun w0 M n0 => ivc_sound ?_; simp -dsimp only [Tryz.f230, go_sem, k0, k8.size, k8.isNode, k8.plain, k8.lenT]
  intro g1 b1 hb1
  refine iwp_forK r.txs.length [1] (fun i s => s 3 = .lit (.int .i64 i) ∧ Md.AllB (liveIn r.lsn) r.txs i true ∧ AscTo r.txs i) 0 (Nat.zero_le _) ⟨by simp -dsimp only [go_sem]; rfl, Md.allB_zero _ _ _, AscTo.zero _⟩ ?_
  rintro i n' s hi hn hk ⟨h3, hall, hasc⟩
  refine ivc_sound ?_
  simp -dsimp only [go_sem] at hk
  by_cases hlt : i < r.txs.length
  · obtain ⟨t, zb, fi, hfe, hst', hf'⟩ := k8.sl hlt
    obtain ⟨k, hkk, hks, l0, l1, l2⟩ := hf' i hlt
    have l0 : k 0 = _ := l0
    have l1 : k 1 = _ := l1
    have hw := i64_succ (i := i) (by have := k8.short; omega)
    have hl0 := k8.lenT
    rw [hfe] at hl0
    simp -dsimp only [go_sem, hk, h3, hlt, hw, hfe, hl0, hkk, l0, l1]
    refine iwp_plan [(0, true), (1, true), (2, true), (3, true), (4, true), (5, true), (6, false), (7, true), (8, true), (9, true), (10, true), (11, true), (12, true), (13, true), (14, true), (15, true), (16, true), (17, true), (18, false), (19, true), (20, true), (21, true), (22, true), (23, true), (24, true), (25, true), (26, true), (27, true), (28, true), (29, true), (30, true), (31, true), (32, true), (33, true), (34, true), (35, true), (36, true), (37, true), (38, true), (39, true), (40, true)] [1] rfl (by decide +kernel) (by decide) [] (by decide +kernel) ?_
    simp -dsimp only [go_sem, hk, h3, hlt, hw, hfe, hl0, hkk, l0, l1]
    refine xcall_v (l1In_p _ _ _) (by simp -dsimp only [go_sem, hk, h3, hlt, hw, hfe, hkk, l0]; rfl) (fun _ => trivial) fun n2 hn2 => ?_
    simp -dsimp only [go_sem, hk, h3, hlt, hw, hfe, hl0, hkk, k0, l0, l1, hsub]
    have hbad : liveIn r.lsn r.txs[i] = false → Md.livesOk r.txs r.lsn = false := livesOk_bad hlt
    refine ⟨fun hb2 => ?_, fun hb2 => by rw [hbad (by simp [liveIn, show Md.inB r.txs[i].tx 1 1000 = false by simpa using hb2])]⟩
    refine xcall_v (l1In_p _ _ _) (by simp -dsimp only [go_sem, hk, h3, hlt, hfe, hkk, k0, l0, l1, hsub]; rfl) (fun _ => trivial) fun n3 hn3 => ?_
    by_cases h0 : 0 < i
    · have hw2 : IntKind.i64.wrap ((i : Int) - 1) = ((i - 1 : Nat) : Int) := by rw [IntKind.wrap_i64]; have := k8.short; omega
      have hlt2 : i - 1 < r.txs.length := by omega
      have h0' : (0 : Int) < (i : Int) := by omega
      obtain ⟨kp, hkp, hksp, p0, p1, p2⟩ := hf' (i - 1) hlt2
      have p0 : kp 0 = _ := p0
      simp -dsimp only [go_sem, hk, h3, hlt, hw, hfe, hl0, hkk, k0, l0, l1, hsub, h0, h0', hw2, hlt2, hkp, p0, decide_true]
      refine ⟨fun hb3 => ?_, fun hb3 => by rw [hbad (by simp [liveIn, show Md.inB r.txs[i].last 1 (r.lsn - 1) = false by simpa using hb3])]⟩
      refine ⟨fun hb4 => ?_, fun hb4 => ?_⟩
      · rw [livesOk_desc hlt h0 (by simpa using hb4)]
      · refine into_k (by omega) (by simp -dsimp only [go_sem, hk]) ⟨by simp -dsimp only [go_sem], hall.succ hlt ?_, hasc.succ hlt fun _ => by simpa using hb4⟩
        have a1 : Md.inB r.txs[i].tx 1 1000 = true := by simpa using hb2
        have a2 : Md.inB r.txs[i].last 1 (r.lsn - 1) = true := by simpa using hb3
        simp [liveIn, a1, a2]
    · have h0' : ¬ (0 : Int) < (i : Int) := by omega
      simp -dsimp only [go_sem, hk, h3, hlt, hw, hfe, hl0, hkk, k0, l0, l1, hsub, h0, h0', decide_false]
      refine ⟨fun hb3 => ?_, fun hb3 => by rw [hbad (by simp [liveIn, show Md.inB r.txs[i].last 1 (r.lsn - 1) = false by simpa using hb3])]⟩
      refine into_k (by omega) (by simp -dsimp only [go_sem, hk]) ⟨by simp -dsimp only [go_sem], hall.succ hlt ?_, hasc.succ hlt fun h => absurd h h0⟩
      have a1 : Md.inB r.txs[i].tx 1 1000 = true := by simpa using hb2
      have a2 : Md.inB r.txs[i].last 1 (r.lsn - 1) = true := by simpa using hb3
      simp [liveIn, a1, a2]
  · simp -dsimp only [go_sem, hk, h3, hlt, k8.size, k8.isNode, k8.plain, k8.lenT]
    rw [livesOk_end hall hasc hlt]
    exact decide_eq_decide.2 (by omega)
theorem livesOk_p (d : D) (xs : List Md.Live) (lsn : Int) (h : IsL 3 IsLive d xs) (hl1 : 1 ≤ lsn) (hl2 : lsn ≤ 1000000) : PCall Tryz.prog 228 [d, .lit (.int .i64 lsn)] fun _ _ x => x = .lit (.bool (Md.livesOk xs lsn)) := by
  have hsub : IntKind.i64.wrap (lsn - 1) = lsn - 1 := by rw [IntKind.wrap_i64]; omega
  refine pcall_intro_v Tryz.func228 rfl (by decide) rfl (by decide) (by rw [Tryz.ntmps228]; simp) fun w0 M n0 => ivc_sound ?_; simp -dsimp only [Tryz.f228, go_sem, h.size, h.isNode, h.plain, h.lenT]
  refine iwp_forK xs.length [0, 1, 7, 8] (fun i s => s 9 = .lit (.int .i64 i) ∧ Md.AllB (liveIn lsn) xs i true ∧ AscTo xs i) 0 (Nat.zero_le _) ⟨by simp -dsimp only [go_sem]; rfl, Md.allB_zero _ _ _, AscTo.zero _⟩ ?_
  rintro i n' s hi hn hk ⟨h9, hall, hasc⟩
  refine ivc_sound ?_
  simp -dsimp only [go_sem] at hk
  by_cases hlt : i < xs.length
  · obtain ⟨t, zb, fi, hfe, hst', hf'⟩ := h.sl hlt
    obtain ⟨k, hkk, hks, l0, l1, l2⟩ := hf' i hlt
    have l0 : k 0 = _ := l0
    have l1 : k 1 = _ := l1
    have hw := i64_succ (i := i) (by have := h.short; omega)
    have hl0 := h.lenT
    rw [hfe] at hl0
    simp -dsimp only [go_sem, hk, h9, hlt, hw, hfe, hl0, hkk, l0, l1]
    intro g2 b2 hb2
    refine iwp_plan [(0, true), (1, true), (2, false), (3, true), (4, true), (5, true), (6, true), (7, true), (8, true), (9, false), (10, true), (11, true), (12, true), (13, true), (14, true), (15, true), (16, true), (17, true), (18, true), (19, true), (20, true), (21, true), (22, true), (23, true), (24, true), (25, true), (26, true)] [6] rfl (by decide +kernel) (by decide) [] (by decide +kernel) ?_
    simp -dsimp only [go_sem, hk, h9, hlt, hw, hfe, hl0, hkk, l0, l1]
    refine xcall_v (isTx_p _) (by simp -dsimp only [go_sem, hk, h9, hlt, hw, hfe, hkk, l0]; rfl) (fun _ => trivial) fun n2 hn2 => ?_
    simp -dsimp only [go_sem, hk, h9, hlt, hw, hfe, hl0, hkk, l0, l1, hsub]
    have hbad : liveIn lsn xs[i] = false → Md.livesOk xs lsn = false := livesOk_bad hlt
    refine ⟨fun hb2 => ?_, fun hb2 => by rw [hbad (by simp [liveIn, show Md.inB xs[i].tx 1 1000 = false by simpa using hb2])]⟩
    refine xcall_v (in_p _ _ _) (by simp -dsimp only [go_sem, hk, h9, hlt, hfe, hkk, l0, l1, hsub]; rfl) (fun _ => trivial) fun n3 hn3 => ?_
    by_cases h0 : 0 < i
    · have hw2 : IntKind.i64.wrap ((i : Int) - 1) = ((i - 1 : Nat) : Int) := by rw [IntKind.wrap_i64]; have := h.short; omega
      have hlt2 : i - 1 < xs.length := by omega
      have h0' : (0 : Int) < (i : Int) := by omega
      obtain ⟨kp, hkp, hksp, p0, p1, p2⟩ := hf' (i - 1) hlt2
      have p0 : kp 0 = _ := p0
      simp -dsimp only [go_sem, hk, h9, hlt, hw, hfe, hl0, hkk, l0, l1, hsub, h0, h0', hw2, hlt2, hkp, p0, decide_true]
      refine ⟨fun hb3 => ?_, fun hb3 => by rw [hbad (by simp [liveIn, show Md.inB xs[i].last 1 (lsn - 1) = false by simpa using hb3])]⟩
      refine ⟨fun hb4 => ?_, fun hb4 => ?_⟩
      · rw [livesOk_desc hlt h0 (by simpa using hb4)]
      · refine into_k1 rfl (by omega) (by simp -dsimp only [go_sem, hk, hfe]) ⟨by simp -dsimp only [go_sem], hall.succ hlt ?_, hasc.succ hlt fun _ => by simpa using hb4⟩
        have a1 : Md.inB xs[i].tx 1 1000 = true := by simpa using hb2
        have a2 : Md.inB xs[i].last 1 (lsn - 1) = true := by simpa using hb3
        simp [liveIn, a1, a2]
    · have h0' : ¬ (0 : Int) < (i : Int) := by omega
      simp -dsimp only [go_sem, hk, h9, hlt, hw, hfe, hl0, hkk, l0, l1, hsub, h0, h0', decide_false]
      refine ⟨fun hb3 => ?_, fun hb3 => by rw [hbad (by simp [liveIn, show Md.inB xs[i].last 1 (lsn - 1) = false by simpa using hb3])]⟩
      refine into_k1 rfl (by omega) (by simp -dsimp only [go_sem, hk, hfe]) ⟨by simp -dsimp only [go_sem], hall.succ hlt ?_, hasc.succ hlt fun h => absurd h h0⟩
      have a1 : Md.inB xs[i].tx 1 1000 = true := by simpa using hb2
      have a2 : Md.inB xs[i].last 1 (lsn - 1) = true := by simpa using hb3
      simp [liveIn, a1, a2]
  · simp -dsimp only [go_sem, hk, h9, hlt, h.size, h.isNode, h.plain, h.lenT]
    rw [livesOk_end hall hasc hlt]
    exact decide_eq_decide.2 (by omega)
theorem sameS_z (s : Md.Slot) : sameS s Md.zSlot = Md.noSlot s := by
  have e : ∀ l : List Int, (decide (l = [])) = ((l.length : Int) == 0) := fun l => by
    cases l with
    | nil => rfl
    | cons x l =>
      have : ¬ ((x :: l).length : Int) = 0 := by simp only [List.length_cons]; omega
      rw [show (((x :: l).length : Int) == 0) = false by simpa using this]
      simp
  have h0 : (s.has == false) = !s.has := by cases s.has <;> rfl
  show ((s.has == false) && ((s.o.kind == 0) && decide (s.o.ints = []) && decide (s.o.refs = []))) = _
  rw [e, e, h0]
  rfl
theorem inB_iff (n lo hi : Int) : Md.inB n lo hi = true ↔ lo ≤ n ∧ n ≤ hi := by simp [Md.inB]
theorem slotOk_no {s : Md.Slot} (h : Md.noSlot s = true) : Md.slotOk s = true := by
  simp only [Md.noSlot, Bool.and_eq_true, Bool.not_eq_true'] at h
  simp [Md.slotOk, h.1, h.2]
theorem specRecOk_p (d : D) (r : Md.Rec) (h : IsRec d r) : PCall Tryz.prog 210 [d] fun _ _ x => x = .lit (.bool (Md.recOk r)) := by
  have hr := h
  have hq := shp_rec _ _ h
  obtain ⟨f, rfl, hst, k0, k1, k2, k3, k4, k5, k6, k7, k8⟩ := h
  have k0 : f 0 = _ := k0
  have k1 : f 1 = _ := k1
  have k2 : f 2 = _ := k2
  have k3 : f 3 = _ := k3
  have k4 : f 4 = _ := k4
  have k7 : f 7 = _ := k7
  have q5 := shp_slot _ _ k5
  have q6 := shp_slot _ _ k6
  refine pcall_intro_v Tryz.func210 rfl (by decide) rfl (by decide) (by rw [Tryz.ntmps210]; simp) fun w0 M n0 => ivc_sound ?_; simp -dsimp only [Tryz.f210, go_sem, k0, k1, k2, k3, k4, k7, q5.1, q5.2.1, q6.1, q6.2.1, k8.size, k8.isNode, k8.plain, k8.lenT]
  intro g1 b1 hb1
  refine xcall_v (l1In_p _ _ _) (by simp -dsimp only [go_sem, k0]; rfl) (fun _ => trivial) fun _ _ => ?_
  simp -dsimp only [go_sem, k0, k1, k2, k3, k4, k7, q5.1, q5.2.1, q6.1, q6.2.1, k8.size, k8.isNode, k8.plain, k8.lenT]
  refine ⟨fun hA => ?_, fun hA => ?_⟩
  rotate_left
  · first | (simp [Md.recOk, *]; done) | (simp_all [Md.recOk]; done) | (simp_all [Md.recOk]; omega)
  have hA : 1 ≤ r.lsn ∧ r.lsn ≤ 1000000 := by simpa [Md.inB] using hA
  have hsub : IntKind.i64.wrap (r.lsn - 1) = r.lsn - 1 := by rw [IntKind.wrap_i64]; omega
  repeat' (first
    | (refine xcall_v (l3Slot_p _ _ k5) ?_ (fun _ => trivial) (fun _ _ => ?_); (focus (simp -dsimp only [go_sem, rl_still, q5.2.2.2, k0, k1, k2, k3, k4, k7, q5.1, q5.2.1, q6.1, q6.2.1, k8.size, k8.isNode, k8.plain, k8.lenT, hsub]; first | done | rfl)); simp -dsimp only [go_sem, k0, k1, k2, k3, k4, k7, q5.1, q5.2.1, q6.1, q6.2.1, k8.size, k8.isNode, k8.plain, k8.lenT, hsub])
    | (refine xcall_v (l3Slot_p _ _ k6) ?_ (fun _ => trivial) (fun _ _ => ?_); (focus (simp -dsimp only [go_sem, rl_still, q6.2.2.2, k0, k1, k2, k3, k4, k7, q5.1, q5.2.1, q6.1, q6.2.1, k8.size, k8.isNode, k8.plain, k8.lenT, hsub]; first | done | rfl)); simp -dsimp only [go_sem, k0, k1, k2, k3, k4, k7, q5.1, q5.2.1, q6.1, q6.2.1, k8.size, k8.isNode, k8.plain, k8.lenT, hsub])
    | (refine xcall_v (l4Lives_p _ _ hr hA.1 hA.2) ?_ (fun _ => trivial) (fun _ _ => ?_); (focus (simp -dsimp only [go_sem, rl_still, hq.2.2.2, k0, k1, k2, k3, k4, k7, q5.1, q5.2.1, q6.1, q6.2.1, k8.size, k8.isNode, k8.plain, k8.lenT, hsub]; first | done | rfl)); simp -dsimp only [go_sem, k0, k1, k2, k3, k4, k7, q5.1, q5.2.1, q6.1, q6.2.1, k8.size, k8.isNode, k8.plain, k8.lenT, hsub])
    | (refine xcall_v (l4Zero_c _ _ hr) ?_ (fun _ => trivial) (fun _ _ => ?_); (focus (simp -dsimp only [go_sem, rl_still, hq.2.2.2, k0, k1, k2, k3, k4, k7, q5.1, q5.2.1, q6.1, q6.2.1, k8.size, k8.isNode, k8.plain, k8.lenT, hsub]; first | done | rfl)); simp -dsimp only [go_sem, k0, k1, k2, k3, k4, k7, q5.1, q5.2.1, q6.1, q6.2.1, k8.size, k8.isNode, k8.plain, k8.lenT, hsub])
    | (refine xcall_v (l4Zero_s _ _ hr) ?_ (fun _ => trivial) (fun _ _ => ?_); (focus (simp -dsimp only [go_sem, rl_still, hq.2.2.2, k0, k1, k2, k3, k4, k7, q5.1, q5.2.1, q6.1, q6.2.1, k8.size, k8.isNode, k8.plain, k8.lenT, hsub]; first | done | rfl)); simp -dsimp only [go_sem, k0, k1, k2, k3, k4, k7, q5.1, q5.2.1, q6.1, q6.2.1, k8.size, k8.isNode, k8.plain, k8.lenT, hsub])
    | (refine xcall_v (l4Zero_b _ _ hr) ?_ (fun _ => trivial) (fun _ _ => ?_); (focus (simp -dsimp only [go_sem, rl_still, hq.2.2.2, k0, k1, k2, k3, k4, k7, q5.1, q5.2.1, q6.1, q6.2.1, k8.size, k8.isNode, k8.plain, k8.lenT, hsub]; first | done | rfl)); simp -dsimp only [go_sem, k0, k1, k2, k3, k4, k7, q5.1, q5.2.1, q6.1, q6.2.1, k8.size, k8.isNode, k8.plain, k8.lenT, hsub])
    | (refine xcall_v (l4Zero_o _ _ hr) ?_ (fun _ => trivial) (fun _ _ => ?_); (focus (simp -dsimp only [go_sem, rl_still, hq.2.2.2, k0, k1, k2, k3, k4, k7, q5.1, q5.2.1, q6.1, q6.2.1, k8.size, k8.isNode, k8.plain, k8.lenT, hsub]; first | done | rfl)); simp -dsimp only [go_sem, k0, k1, k2, k3, k4, k7, q5.1, q5.2.1, q6.1, q6.2.1, k8.size, k8.isNode, k8.plain, k8.lenT, hsub])
    | (refine xcall_v (l1In_p r.tx 1 1000) ?_ (fun _ => trivial) (fun _ _ => ?_); (focus (simp -dsimp only [go_sem, rl_still, k0, k1, k2, k3, k4, k7, q5.1, q5.2.1, q6.1, q6.2.1, k8.size, k8.isNode, k8.plain, k8.lenT, hsub]; first | done | rfl)); simp -dsimp only [go_sem, k0, k1, k2, k3, k4, k7, q5.1, q5.2.1, q6.1, q6.2.1, k8.size, k8.isNode, k8.plain, k8.lenT, hsub])
    | (refine xcall_v (l1In_p r.prev 0 (r.lsn - 1)) ?_ (fun _ => trivial) (fun _ _ => ?_); (focus (simp -dsimp only [go_sem, rl_still, k0, k1, k2, k3, k4, k7, q5.1, q5.2.1, q6.1, q6.2.1, k8.size, k8.isNode, k8.plain, k8.lenT, hsub]; first | done | rfl)); simp -dsimp only [go_sem, k0, k1, k2, k3, k4, k7, q5.1, q5.2.1, q6.1, q6.2.1, k8.size, k8.isNode, k8.plain, k8.lenT, hsub])
    | (refine xcall_v (l1In_p r.oid 1 31) ?_ (fun _ => trivial) (fun _ _ => ?_); (focus (simp -dsimp only [go_sem, rl_still, k0, k1, k2, k3, k4, k7, q5.1, q5.2.1, q6.1, q6.2.1, k8.size, k8.isNode, k8.plain, k8.lenT, hsub]; first | done | rfl)); simp -dsimp only [go_sem, k0, k1, k2, k3, k4, k7, q5.1, q5.2.1, q6.1, q6.2.1, k8.size, k8.isNode, k8.plain, k8.lenT, hsub])
    | (refine xcall_v (l1In_p r.next 0 (r.lsn - 1)) ?_ (fun _ => trivial) (fun _ _ => ?_); (focus (simp -dsimp only [go_sem, rl_still, k0, k1, k2, k3, k4, k7, q5.1, q5.2.1, q6.1, q6.2.1, k8.size, k8.isNode, k8.plain, k8.lenT, hsub]; first | done | rfl)); simp -dsimp only [go_sem, k0, k1, k2, k3, k4, k7, q5.1, q5.2.1, q6.1, q6.2.1, k8.size, k8.isNode, k8.plain, k8.lenT, hsub])
    | refine ⟨?_, ?_⟩ | with_reducible intro _)
  all_goals
    have hA' := (inB_iff r.lsn 1 1000000).2 hA
    have no1 := @slotOk_no r.before
    have no2 := @slotOk_no r.after
    have nz : ((r.txs.length : Int) == 0) = r.txs.isEmpty := by cases r.txs with
      | nil => rfl
      | cons x l =>
        have : ¬ ((x :: l).length : Int) = 0 := by simp only [List.length_cons]; omega
        rw [show (((x :: l).length : Int) == 0) = false by simpa using this]; rfl
    simp only [zeroR, sameS_z, nz] at *
    unfold Md.recOk
    generalize Md.noSlot r.before = z1 at *
    generalize Md.noSlot r.after = z2 at *
    generalize Md.slotOk r.before = s1 at *
    generalize Md.slotOk r.after = s2 at *
    generalize Md.livesOk r.txs r.lsn = l1 at *
    generalize r.txs.isEmpty = l2 at *
    generalize Md.inB r.lsn 1 1000000 = i1 at *
    generalize Md.inB r.tx 1 1000 = i2 at *
    generalize Md.inB r.prev 0 (r.lsn - 1) = i3 at *
    generalize Md.inB r.oid 1 31 = i4 at *
    generalize Md.inB r.next 0 (r.lsn - 1) = i5 at *
    clear hq hr q5 q6 k5 k6 k8
    grind
theorem recOk_p (d : D) (r : Md.Rec) (h : IsRec d r) : PCall Tryz.prog 203 [d] fun _ _ x => x = .lit (.bool (Md.recOk r)) := by
  have hr := h
  have hq := shp_rec _ _ h
  obtain ⟨f, rfl, hst, k0, k1, k2, k3, k4, k5, k6, k7, k8⟩ := h
  have k0 : f 0 = _ := k0
  have k1 : f 1 = _ := k1
  have k2 : f 2 = _ := k2
  have k3 : f 3 = _ := k3
  have k4 : f 4 = _ := k4
  have k7 : f 7 = _ := k7
  have q5 := shp_slot _ _ k5
  have q6 := shp_slot _ _ k6
  refine pcall_intro_v Tryz.func203 rfl (by decide) rfl (by decide) (by rw [Tryz.ntmps203]; simp) fun w0 M n0 => ivc_sound ?_; simp -dsimp only [Tryz.f203, go_sem, k0, k1, k2, k3, k4, k7, q5.1, q5.2.1, q6.1, q6.2.1, k8.size, k8.isNode, k8.plain, k8.lenT]
  intro g1 b1 hb1
  refine xcall_v (in_p _ _ _) (by simp -dsimp only [go_sem, k0]; rfl) (fun _ => trivial) fun _ _ => ?_
  simp -dsimp only [go_sem, k0, k1, k2, k3, k4, k7, q5.1, q5.2.1, q6.1, q6.2.1, k8.size, k8.isNode, k8.plain, k8.lenT]
  refine ⟨fun hA => ?_, fun hA => ?_⟩
  · first | (simp [Md.recOk, *]; done) | (simp_all [Md.recOk]; done) | (simp_all [Md.recOk]; omega)
  have hA : 1 ≤ r.lsn ∧ r.lsn ≤ 1000000 := by simpa [Md.inB] using hA
  have hsub : IntKind.i64.wrap (r.lsn - 1) = r.lsn - 1 := by rw [IntKind.wrap_i64]; omega
  repeat' (first
    | (refine xcall_v (noSlot_p _ _ k5) ?_ (fun _ => trivial) (fun _ _ => ?_); (focus (simp -dsimp only [go_sem, rl_still, q5.2.2.2, k0, k1, k2, k3, k4, k7, q5.1, q5.2.1, q6.1, q6.2.1, k8.size, k8.isNode, k8.plain, k8.lenT, hsub]; first | done | rfl)); simp -dsimp only [go_sem, k0, k1, k2, k3, k4, k7, q5.1, q5.2.1, q6.1, q6.2.1, k8.size, k8.isNode, k8.plain, k8.lenT, hsub])
    | (refine xcall_v (noSlot_p _ _ k6) ?_ (fun _ => trivial) (fun _ _ => ?_); (focus (simp -dsimp only [go_sem, rl_still, q6.2.2.2, k0, k1, k2, k3, k4, k7, q5.1, q5.2.1, q6.1, q6.2.1, k8.size, k8.isNode, k8.plain, k8.lenT, hsub]; first | done | rfl)); simp -dsimp only [go_sem, k0, k1, k2, k3, k4, k7, q5.1, q5.2.1, q6.1, q6.2.1, k8.size, k8.isNode, k8.plain, k8.lenT, hsub])
    | (refine xcall_v (slotOk_p _ _ k5) ?_ (fun _ => trivial) (fun _ _ => ?_); (focus (simp -dsimp only [go_sem, rl_still, q5.2.2.2, k0, k1, k2, k3, k4, k7, q5.1, q5.2.1, q6.1, q6.2.1, k8.size, k8.isNode, k8.plain, k8.lenT, hsub]; first | done | rfl)); simp -dsimp only [go_sem, k0, k1, k2, k3, k4, k7, q5.1, q5.2.1, q6.1, q6.2.1, k8.size, k8.isNode, k8.plain, k8.lenT, hsub])
    | (refine xcall_v (slotOk_p _ _ k6) ?_ (fun _ => trivial) (fun _ _ => ?_); (focus (simp -dsimp only [go_sem, rl_still, q6.2.2.2, k0, k1, k2, k3, k4, k7, q5.1, q5.2.1, q6.1, q6.2.1, k8.size, k8.isNode, k8.plain, k8.lenT, hsub]; first | done | rfl)); simp -dsimp only [go_sem, k0, k1, k2, k3, k4, k7, q5.1, q5.2.1, q6.1, q6.2.1, k8.size, k8.isNode, k8.plain, k8.lenT, hsub])
    | (refine xcall_v (livesOk_p _ _ r.lsn k8 hA.1 hA.2) ?_ (fun _ => trivial) (fun _ _ => ?_); (focus (simp -dsimp only [go_sem, rl_still, k8.still, k0, k1, k2, k3, k4, k7, q5.1, q5.2.1, q6.1, q6.2.1, k8.size, k8.isNode, k8.plain, k8.lenT, hsub]; first | done | rfl)); simp -dsimp only [go_sem, k0, k1, k2, k3, k4, k7, q5.1, q5.2.1, q6.1, q6.2.1, k8.size, k8.isNode, k8.plain, k8.lenT, hsub])
    | (refine xcall_v (isTx_p r.tx) ?_ (fun _ => trivial) (fun _ _ => ?_); (focus (simp -dsimp only [go_sem, rl_still, k0, k1, k2, k3, k4, k7, q5.1, q5.2.1, q6.1, q6.2.1, k8.size, k8.isNode, k8.plain, k8.lenT, hsub]; first | done | rfl)); simp -dsimp only [go_sem, k0, k1, k2, k3, k4, k7, q5.1, q5.2.1, q6.1, q6.2.1, k8.size, k8.isNode, k8.plain, k8.lenT, hsub])
    | (refine xcall_v (isOid_p r.oid) ?_ (fun _ => trivial) (fun _ _ => ?_); (focus (simp -dsimp only [go_sem, rl_still, k0, k1, k2, k3, k4, k7, q5.1, q5.2.1, q6.1, q6.2.1, k8.size, k8.isNode, k8.plain, k8.lenT, hsub]; first | done | rfl)); simp -dsimp only [go_sem, k0, k1, k2, k3, k4, k7, q5.1, q5.2.1, q6.1, q6.2.1, k8.size, k8.isNode, k8.plain, k8.lenT, hsub])
    | (refine xcall_v (in_p r.prev 0 (r.lsn - 1)) ?_ (fun _ => trivial) (fun _ _ => ?_); (focus (simp -dsimp only [go_sem, rl_still, k0, k1, k2, k3, k4, k7, q5.1, q5.2.1, q6.1, q6.2.1, k8.size, k8.isNode, k8.plain, k8.lenT, hsub]; first | done | rfl)); simp -dsimp only [go_sem, k0, k1, k2, k3, k4, k7, q5.1, q5.2.1, q6.1, q6.2.1, k8.size, k8.isNode, k8.plain, k8.lenT, hsub])
    | (refine xcall_v (in_p r.next 0 (r.lsn - 1)) ?_ (fun _ => trivial) (fun _ _ => ?_); (focus (simp -dsimp only [go_sem, rl_still, k0, k1, k2, k3, k4, k7, q5.1, q5.2.1, q6.1, q6.2.1, k8.size, k8.isNode, k8.plain, k8.lenT, hsub]; first | done | rfl)); simp -dsimp only [go_sem, k0, k1, k2, k3, k4, k7, q5.1, q5.2.1, q6.1, q6.2.1, k8.size, k8.isNode, k8.plain, k8.lenT, hsub])
    | refine ⟨?_, ?_⟩ | with_reducible intro _)
  all_goals
    have hA' := (inB_iff r.lsn 1 1000000).2 hA
    have no1 := @slotOk_no r.before
    have no2 := @slotOk_no r.after
    have nz : (0 < (r.txs.length : Int)) ↔ r.txs.isEmpty = false := by cases r.txs with
      | nil => simp
      | cons x l =>
        have : 0 < ((x :: l).length : Int) := by simp only [List.length_cons]; omega
        simp [this]
    unfold Md.recOk
    generalize Md.noSlot r.before = z1 at *
    generalize Md.noSlot r.after = z2 at *
    generalize Md.slotOk r.before = s1 at *
    generalize Md.slotOk r.after = s2 at *
    generalize Md.livesOk r.txs r.lsn = l1 at *
    generalize r.txs.isEmpty = l2 at *
    generalize Md.inB r.lsn 1 1000000 = i1 at *
    generalize Md.inB r.tx 1 1000 = i2 at *
    generalize Md.inB r.prev 0 (r.lsn - 1) = i3 at *
    generalize Md.inB r.oid 1 31 = i4 at *
    generalize Md.inB r.next 0 (r.lsn - 1) = i5 at *
    clear hq hr q5 q6 k5 k6 k8
    grind
def recAt (x : Md.Rec × Nat) : Bool := x.1.lsn == (x.2 : Int) + 1 && Md.recOk x.1
def RecsTo (xs : List Md.Rec) (i : Nat) : Prop := ∀ j (_ : j < i) (h : j < xs.length), recAt (xs[j], j) = true
theorem RecsTo.zero (xs : List Md.Rec) : RecsTo xs 0 := fun j h => absurd h (by omega)
theorem RecsTo.succ {xs : List Md.Rec} {i : Nat} (h : RecsTo xs i) (hi : i < xs.length) (hp : recAt (xs[i], i) = true) : RecsTo xs (i + 1) := by
  intro j hj hj'
  by_cases h1 : j < i
  · exact h j h1 hj'
  · obtain rfl : j = i := by omega
    exact hp
theorem recs_end {xs : List Md.Rec} {i : Nat} (h : RecsTo xs i) (hi : ¬ i < xs.length) : xs.zipIdx.all recAt = true := by
  rw [List.all_eq_true]
  intro x hx
  obtain ⟨j, hj, rfl⟩ := List.getElem_of_mem hx
  have hj' : j < xs.length := by simpa using hj
  simp only [List.getElem_zipIdx, Nat.zero_add]
  exact h j (by omega) hj'
theorem recs_bad {xs : List Md.Rec} {i : Nat} (hi : i < xs.length) (hp : recAt (xs[i], i) = false) : xs.zipIdx.all recAt = false := by
  rw [List.all_eq_false]
  refine ⟨(xs[i], i), ?_, by simp [hp]⟩
  have : (xs.zipIdx)[i]'(by simpa using hi) = (xs[i], i) := by simp
  rw [← this]; exact List.getElem_mem _
theorem logOk_eq (l : Md.Log) : Md.logOk l = (l.recs.zipIdx.all recAt && decide (l.recs.length ≤ 4000) && Md.inB l.sure 0 l.recs.length) := rfl
theorem specLogOk_p (d : D) (l : Md.Log) (h : IsLog d l) : PCall Tryz.prog 154 [d] fun _ _ x => x = .lit (.bool (Md.logOk l)) := by
  obtain ⟨f, rfl, hst, h0, h1⟩ := h
  have h1 : f 1 = _ := h1
  refine pcall_intro_v Tryz.func154 rfl (by decide) rfl (by decide) (by rw [Tryz.ntmps154]; simp) fun w0 M n0 => ivc_sound ?_; simp -dsimp only [Tryz.f154, go_sem, h0.size, h0.isNode, h0.plain, h0.lenT, h1]
  intro g1 b1 hb1
  refine ⟨fun hb => ?_, ?_⟩
  rotate_left
  · intro hb
    have : ¬ l.recs.length ≤ 4000 := by first | omega | (simp at hb; omega)
    simp [logOk_eq, this]
  refine xcall_v (l1In_p l.sure 0 l.recs.length) (by simp -dsimp only [go_sem, h1, h0.size, h0.isNode, h0.plain, h0.lenT]) (fun _ => trivial) fun n1 hn1 => ?_
  simp -dsimp only [go_sem, h0.size, h0.isNode, h0.plain, h0.lenT, h1]
  refine ⟨?_, fun hb1 => ?_⟩
  · intro hb1
    simp [logOk_eq, show Md.inB l.sure 0 l.recs.length = false by simpa using hb1]
  refine iwp_forK l.recs.length [1] (fun i s => s 3 = .lit (.int .i64 i) ∧ RecsTo l.recs i) 0 (Nat.zero_le _) ⟨by simp -dsimp only [go_sem]; rfl, RecsTo.zero _⟩ ?_
  rintro i n' s hi hn hk ⟨h3, hall⟩
  refine ivc_sound ?_
  simp -dsimp only [go_sem] at hk
  by_cases hlt : i < l.recs.length
  · obtain ⟨t, zb, fi, hfe, hst', hf'⟩ := h0.sl hlt
    have hri := hf' i hlt
    have qr := shp_rec _ _ hri
    obtain ⟨k, hkk, hks, k0, k1, k2, k3, k4, k5, k6, k7, k8⟩ := hf' i hlt
    have k0 : k 0 = _ := k0
    have hw := i64_succ (i := i) (by have := h0.short; omega)
    have hl0 := h0.lenT
    rw [hfe] at hl0
    simp -dsimp only [go_sem, hk, h3, hlt, hw, hfe, hl0, hkk, k0]
    refine ⟨fun hb2 => ?_, ?_⟩
    rotate_left
    · intro hb2
      have : recAt (l.recs[i], i) = false := by
        have : ¬ l.recs[i].lsn = (i : Int) + 1 := by simpa using hb2
        simp [recAt, this]
      simp [logOk_eq, recs_bad hlt this]
    rw [← hkk]
    refine xcall_v (specRecOk_p _ _ hri) (by simp -dsimp only [go_sem, rl_still, qr.2.2.2]) (fun _ => trivial) fun n3 hn3 => ?_
    simp -dsimp only [go_sem, hk, h3, hlt, hw, hfe, hl0, hkk, k0]
    refine ⟨fun hb3 => ?_, fun hb3 => into_k (by omega) (by simp -dsimp only [go_sem, hk]) ⟨by simp -dsimp only [go_sem], hall.succ hlt ?_⟩⟩
    · have : recAt (l.recs[i], i) = false := by simp [recAt, show Md.recOk l.recs[i] = false by simpa using hb3]
      simp [logOk_eq, recs_bad hlt this]
    · have a1 : l.recs[i].lsn = (i : Int) + 1 := by simpa using hb2
      have a2 : Md.recOk l.recs[i] = true := by simpa using hb3
      simp [recAt, a1, a2]
  · simp -dsimp only [go_sem, hk, h3, hlt, h0.size, h0.isNode, h0.plain, h0.lenT]
    have e1 := recs_end hall hlt
    have e2 : l.recs.length ≤ 4000 := by first | omega | (simp at hb; omega)
    have e3 : Md.inB l.sure 0 l.recs.length = true := by simpa using hb1
    simp [logOk_eq, e1, e2, e3]
theorem logOk_p (d : D) (l : Md.Log) (h : IsLog d l) : PCall Tryz.prog 163 [d] fun _ _ x => x = .lit (.bool (Md.logOk l)) := by
  obtain ⟨f, rfl, hst, h0, h1⟩ := h
  have h1 : f 1 = _ := h1
  refine pcall_intro_v Tryz.func163 rfl (by decide) rfl (by decide) (by rw [Tryz.ntmps163]; simp) fun w0 M n0 => ivc_sound ?_; simp -dsimp only [Tryz.f163, go_sem, h0.size, h0.isNode, h0.plain, h0.lenT, h1]
  intro g1 b1 hb1
  refine iwp_forK l.recs.length [1, 6, 7] (fun i s => s 8 = .lit (.int .i64 i) ∧ RecsTo l.recs i) 0 (Nat.zero_le _) ⟨by simp -dsimp only [go_sem]; rfl, RecsTo.zero _⟩ ?_
  rintro i n' s hi hn hk ⟨h8, hall⟩
  refine ivc_sound ?_
  simp -dsimp only [go_sem] at hk
  by_cases hlt : i < l.recs.length
  · obtain ⟨t, zb, fi, hfe, hst', hf'⟩ := h0.sl hlt
    have hri := hf' i hlt
    have qr := shp_rec _ _ hri
    obtain ⟨k, hkk, hks, k0, k1, k2, k3, k4, k5, k6, k7, k8⟩ := hf' i hlt
    have k0 : k 0 = _ := k0
    have hw := i64_succ (i := i) (by have := h0.short; omega)
    have hl0 := h0.lenT
    rw [hfe] at hl0
    simp -dsimp only [go_sem, hk, h8, hlt, hw, hfe, hl0, hkk, k0]
    intro g2 b2 hb2
    refine ⟨fun hb2 => ?_, ?_⟩
    rotate_left
    · intro hb2
      have : recAt (l.recs[i], i) = false := by
        have : ¬ l.recs[i].lsn = (i : Int) + 1 := by simpa using hb2
        simp [recAt, this]
      simp [logOk_eq, recs_bad hlt this]
    refine xcall_v (recOk_p _ _ hri) (by simp -dsimp only [go_sem, hkk, rl_still]; rw [rl_still (by rw [← hkk]; exact qr.2.2.2)]) (fun _ => trivial) fun n3 hn3 => ?_
    simp -dsimp only [go_sem, hk, h8, hlt, hw, hfe, hl0, hkk, k0]
    refine ⟨fun hb3 => ?_, fun hb3 => into_k1 rfl (by omega) (by simp -dsimp only [go_sem, hk, hfe]) ⟨by simp -dsimp only [go_sem], hall.succ hlt ?_⟩⟩
    · have : recAt (l.recs[i], i) = false := by simp [recAt, show Md.recOk l.recs[i] = false by simpa using hb3]
      simp [logOk_eq, recs_bad hlt this]
    · have a1 : l.recs[i].lsn = (i : Int) + 1 := by simpa using hb2
      have a2 : Md.recOk l.recs[i] = true := by simpa using hb3
      simp [recAt, a1, a2]
  · simp -dsimp only [go_sem, hk, h8, hlt, h0.size, h0.isNode, h0.plain, h0.lenT, h1]
    have e1 := recs_end hall hlt
    refine ⟨fun hb3 => ?_, ?_⟩
    rotate_left
    · intro hb3
      have : ¬ l.recs.length ≤ 4000 := by first | omega | (simp at hb3; omega)
      simp [logOk_eq, this]
    refine xcall_v (in_p l.sure 0 l.recs.length) (by simp -dsimp only [go_sem, h1, h0.size, h0.isNode, h0.plain, h0.lenT]) (fun _ => trivial) fun n3 hn3 => ?_
    simp -dsimp only [go_sem, h1]
    have e2 : l.recs.length ≤ 4000 := by first | omega | (simp at hb3; omega)
    simp [logOk_eq, e1, e2]
end Go.Proofs.YtncinhlaabdlaaaGreat.IM
end
