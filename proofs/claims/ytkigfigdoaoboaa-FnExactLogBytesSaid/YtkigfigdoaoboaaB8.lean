/- Several of my texts in one module (merge.py). -/
import Derived.Test.YtkigfigdoaoboaaA4
import Derived.Test.YtkigfigdoaoboaaA3
section
/- Contracts: numbers are put behind bytes. -/
namespace Go.Proofs.Ytkigfigdoaoboaa.IM
open Go Go.Proofs
set_option linter.unusedVariables false
set_option linter.unusedSimpArgs false
set_option maxHeartbeats 2000000
set_option maxRecDepth 20000

theorem into_drop {w0 : World} {M : Fr} {N n : Nat} {s : Nat → D} {R R' : Roots} {K : St → Prop} (hR : ∀ j, R' j = R j ∨ R' j = none) (h : K ⟨N, n, s, R'⟩) : Into w0 M ⟨N, n, s, R⟩ K :=
  Into.le ⟨N, n, s, R'⟩ ⟨rfl, Nat.le_refl _, fun t => .inl rfl, fun j => hR j⟩ (Into.of h)
theorem dropA {a b : Nat} {x y z : Option (Nat × Nat × D)} (hab : a ≠ b) (j : Nat) : (upd (fun _ => none) b y : Roots) j = (upd (upd (upd (fun _ => none) b z) a x) b y : Roots) j ∨ (upd (fun _ => none) b y : Roots) j = none := by
  by_cases h1 : j = b
  · subst h1; left; simp [upd]
  · right; simp [upd, h1]
/-- a row of bytes as something to append -/
theorem IsL.src {d : D} {xs : List Int} (h : IsL 1 IsByte d xs) : ∃ f sz, (∀ R, srcD R d = some (xs.length, sz, f)) ∧ (∀ y, sz = some y → y = 1) ∧ (∀ (P : Program) (T T' : TypeId), srcT P T T' d = (T' = T)) ∧ ByteRow f xs ∧ xs.length < 140737488355328 := by
  rcases h.bytes with ⟨rfl, rfl⟩ | ⟨t, zb, f, rfl, h1, h2⟩
  · exact ⟨fun _ => .any, none, fun _ => rfl, fun y h => (by cases h), fun _ _ _ => rfl, ByteRow.nil _ fun _ => trivial, by simp⟩
  · exact ⟨f, some 1, fun _ => rfl, fun y h => (Option.some.inj h).symm, fun _ _ _ => rfl, h1, h2⟩
theorem clamp_cases (n : Int) : (1000000000000 < n ∧ Md.clampI n = 1000000000000) ∨ (¬ 1000000000000 < n ∧ n < -1000000000000 ∧ Md.clampI n = -1000000000000) ∨
    (¬ 1000000000000 < n ∧ ¬ n < -1000000000000 ∧ n < 0 ∧ Md.clampI n = n) ∨ (¬ 1000000000000 < n ∧ ¬ n < -1000000000000 ∧ ¬ n < 0 ∧ Md.clampI n = n) := by
  unfold Md.clampI; omega

theorem putInt_pos' (b : List Int) (n : Int) : 0 < (Md.putInt b n).length := by
  rw [putInt_eq, List.length_append]
  have : 0 < (Md.groupsOf 9 (zg n)).length := by unfold Md.groupsOf; split <;> simp
  omega
theorem specPutInt_p (d : D) (xs : List Int) (n : Int) (h : IsL 1 IsByte d xs) (hs : xs.length ≤ 1099511627776) : PCall Try.prog 101 [d, .lit (.int .i64 n)] fun n0 n1 r => IsL 1 IsByte r (Md.putInt xs n) ∧ Own n0 n1 r := by
  obtain ⟨f0, sz, hsrc, hsz, hT, hrow, hl⟩ := h.src
  have hm1 : ∀ v, ¬ Md.clampI n < 0 → Md.clampI n = v → IntKind.i64.wrap (2 * v) = (zg n : Int) := fun v h e => e ▸ zg_pos h
  have hm2 : ∀ v, Md.clampI n < 0 → Md.clampI n = v → IntKind.i64.wrap (IntKind.i64.wrap (-2 * v) - 1) = (zg n : Int) := fun v h e => e ▸ zg_neg h
  refine pcall_intro Try.func101 rfl (by decide) rfl (by decide) (by rw [Try.ntmps101]; simp) fun w0 M n0 hW => ivc_sound ?_; simp -dsimp only [Try.f101, go_sem, hsrc, hT]
  intro g1 b1 hb1
  refine ⟨hsz, by omega, by omega, fun g b n' hn' hbn hb => ?_⟩
  repeat' (first | refine ⟨?_, ?_⟩ | with_reducible intro _)
  all_goals first | (exfalso; omega) | skip
  all_goals
    refine iwp_loop (fun k st => ∃ (n' : Nat) (s : Nat → D) (g b : Nat) (f : Nat → D) (ys : List Int) (m : Nat), st = ⟨37, n', s, upd (fun _ => none) 7 (some (g, b, .node (.arr ys.length 1) f))⟩ ∧ n0 ≤ n' ∧ n0 ≤ b ∧ s 5 = .msl 7 g 0 [] 0 ys.length 1 ∧ s 6 = .lit (.int .i64 (m : Nat)) ∧
      ByteRow f ys ∧ ys ++ Md.groupsOf k m = Md.putInt xs n ∧ m < 128 ^ (k + 1) ∧ m < 4611686018427387904) (m := 9) ⟨n', _, g, b, _, xs, zg n, rfl, by omega, by omega, by simp -dsimp only [go_sem], ?_, hrow, (putInt_eq xs n).symm, zg_lt n, by have := zg_le n; omega⟩ ?_
    · simp -dsimp only [go_sem]
      first
        | exact hm1 _ (by unfold Md.clampI; omega) (by unfold Md.clampI; omega)
        | exact hm2 _ (by unfold Md.clampI; omega) (by unfold Md.clampI; omega)
    rintro k st ⟨n2, s, g2, b2, f, ys, m, rfl, hn2, hb2, h5, h6, hf, hys, hm, hm62⟩
    refine ivc_sound ?_
    have hlen : ys.length ≤ xs.length + 10 := by
      have := putInt_length xs n
      rw [← hys, List.length_append] at this; omega
    by_cases hgt : 127 < m
    · have hc : (127 : Int) < (m : Int) := by omega
      rcases k with _ | k
      · omega
      simp -dsimp only [go_sem, h5, h6, hc, decide_true, binAnd127 hm62, binOr128, wrapMore, binShr7]
      intro g3 b3 hb3
      refine ⟨fun y h => h.symm, by omega, by omega, fun g4 b4 n4 hn4 hb4 hb5 => ?_⟩
      refine ⟨k, by omega, into_drop (dropA (by decide)) ⟨_, _, g4, b4, _, ys ++ [((m % 128 + 128 : Nat) : Int)], m / 128, by rw [List.length_append, List.length_singleton], by omega, ?_, by simp -dsimp only [go_sem]; rw [List.length_append, List.length_singleton], by simp -dsimp only [go_sem], hf.cat (z := fun _ => .lit (.int .u8 0)) fun _ => trivial, ?_, ?_, by omega⟩⟩
      · omega
      · rw [← hys, groups_more hgt, List.append_assoc]; rfl
      · rw [Nat.pow_succ] at hm; omega
    · have hc : ¬ (127 : Int) < (m : Int) := by omega
      simp -dsimp only [go_sem, h5, h6, hc, decide_false, grpLast (by omega : m ≤ 127)]
      intro g3 b3 hb3
      refine ⟨fun y h => h.symm, by omega, by omega, fun g4 b4 n4 hn4 hb4 hb5 n1 hn1 hfc => ?_⟩
      have hfin := hf.cat (z := fun _ => .lit (.int .u8 0)) (v := (m : Int)) fun _ => trivial
      rw [← groups_last (k := k) (by omega : m ≤ 127), hys] at hfin
      have hlast : (Md.putInt xs n).length = ys.length + 1 := by rw [← hys, groups_last (by omega), List.length_append, List.length_singleton]
      rw [rls_still hfin.1, ← hlast]
      exact hfin.own (by have := putInt_length xs n; omega) (by omega) (by omega)
/-- bytes as they grow: nothing yet, or a root of their own -/
def Buf (bad : List Nat) (ys : List Int) (hd : D) (R : Roots) : Prop :=
  (hd = .nil ∧ ys = [] ∧ R = fun _ => none) ∨ ∃ (l g b : Nat) (f : Nat → D), hd = .msl l g 0 [] 0 ys.length 1 ∧ R = upd (fun _ => none) l (some (g, b, .node (.arr ys.length 1) f)) ∧ l ∉ bad ∧ ByteRow f ys
theorem dropN {a b : Nat} {x y : Option (Nat × Nat × D)} (hab : a ≠ b) (j : Nat) : (upd (fun _ => none) b y : Roots) j = (upd (upd (fun _ => none) a x) b y : Roots) j ∨ (upd (fun _ => none) b y : Roots) j = none := by
  by_cases h1 : j = b
  · subst h1; left; simp [upd]
  · right; simp [upd, h1]
theorem putInt_n (n : Int) : ICall Try.prog 97 [.nil, .lit (.int .i64 n)] [] (RowOut 1 (Bytes (Md.putInt [] n))) := by
  have hcl : max (-1000000000000) (min n 1000000000000) = Md.clampI n := rfl
  refine iput_nil Try.func97 rfl (by decide) rfl (by decide) (by rw [Try.ntmps97]; simp) fun w0 M n0 hW hT => ivc_sound ?_; simp -dsimp only [Try.f97, go_sem, hcl]
  repeat' (first | refine ⟨?_, ?_⟩ | with_reducible intro _)
  all_goals
    refine iwp_loop (fun k st => ∃ (n' : Nat) (s : Nat → D) (R : Roots) (ys : List Int) (hd : D) (m : Nat), st = ⟨32, n', s, R⟩ ∧ n0 ≤ n' ∧ Buf [23, 30] ys hd R ∧ s 0 = hd ∧ s 5 = .lit (.int .i64 (m : Nat)) ∧
      ys ++ Md.groupsOf k m = Md.putInt [] n ∧ m < 128 ^ (k + 1) ∧ m < 4611686018427387904) (m := 9) ⟨_, _, _, [], _, zg n, rfl, by omega, .inl ⟨rfl, rfl, rfl⟩, by simp -dsimp only [go_sem], ?_, (putInt_eq [] n).symm, zg_lt n, by have := zg_le n; omega⟩ ?_
    · simp -dsimp only [go_sem]
      first
        | exact zg_pos (by omega)
        | exact zg_neg (by omega)
    rintro k st ⟨n2, s, R, ys, hd, m, rfl, hn2, hB, h5, h6, hys, hm, hm62⟩
    refine ivc_sound ?_
    have hlen : ys.length ≤ 1099511627776 + 10 := by
      have := putInt_length [] n
      rw [← hys, List.length_append] at this
      try simp only [List.length_nil] at *
      omega
    by_cases hgt : 127 < m
    · have hc : (127 : Int) < (m : Int) := by omega
      rcases k with _ | k
      · omega
      have hl1 : (ys ++ [((m % 128 + 128 : Nat) : Int)]).length = ys.length + 1 := by rw [List.length_append, List.length_singleton]
      have hy1 : (ys ++ [((m % 128 + 128 : Nat) : Int)]) ++ Md.groupsOf k (m / 128) = Md.putInt [] n := by rw [← hys, groups_more hgt, List.append_assoc]; rfl
      have hm1 : m / 128 < 128 ^ (k + 1) := by rw [Nat.pow_succ] at hm; omega
      rcases hB with ⟨rfl, rfl, rfl⟩ | ⟨l, g2, b2, f, rfl, rfl, hbad, hf⟩
      · simp -dsimp only [go_sem, h5, h6, hc, decide_true, binAnd127 hm62, binOr128, wrapMore, binShr7]
        intro g3 b3 hb3
        refine ⟨fun y h => h.symm, fun g4 b4 n4 hn4 hb4 hb5 => ?_⟩
        refine ⟨k, by omega, into_drop (dropN (by decide)) ⟨_, _, _, [((m % 128 + 128 : Nat) : Int)], _, m / 128, rfl, by omega, .inr ⟨24, g4, b4, _, rfl, rfl, by decide, ByteRow.one (z := fun _ => .lit (.int .u8 0)) fun _ => trivial⟩, by simp -dsimp only [go_sem], by simp -dsimp only [go_sem], hy1, hm1, by omega⟩⟩
      · have hl23 : l ≠ 23 := fun e => hbad (by simp [e])
        simp -dsimp only [go_sem, h5, h6, hc, decide_true, binAnd127 hm62, binOr128, wrapMore, binShr7, hl23]
        intro g3 b3 hb3
        refine ⟨fun y h => h.symm, by omega, by omega, fun g4 b4 n4 hn4 hb4 hb5 => ?_⟩
        exact ⟨k, by omega, into_drop (dropA hl23.symm) ⟨_, _, _, _, _, m / 128, rfl, by omega, .inr ⟨l, g4, b4, _, rfl, by rw [hl1], hbad, hf.cat (z := fun _ => .lit (.int .u8 0)) fun _ => trivial⟩, by simp -dsimp only [go_sem]; rw [hl1], by simp -dsimp only [go_sem], hy1, hm1, by omega⟩⟩
    · have hc : ¬ (127 : Int) < (m : Int) := by omega
      have hlast : (Md.putInt [] n).length = ys.length + 1 := by rw [← hys, groups_last (by omega), List.length_append, List.length_singleton]
      rcases hB with ⟨rfl, rfl, rfl⟩ | ⟨l, g2, b2, f, rfl, rfl, hbad, hf⟩
      · simp -dsimp only [go_sem, h5, h6, hc, decide_false, grpLast (by omega : m ≤ 127)]
        intro g3 b3 hb3
        refine ⟨fun y h => h.symm, fun g4 b4 n4 hn4 hb4 hb5 => ?_⟩
        have hfin := ByteRow.one (z := fun _ => .lit (.int .u8 0)) (v := (m : Int)) fun _ => trivial
        rw [← groups_last (k := k) (by omega : m ≤ 127), ← List.nil_append (Md.groupsOf k m), hys] at hfin
        exact oend_tmp (by simp -dsimp only [go_sem]; rfl) (by simp -dsimp only [go_sem]; rfl) hfin.1 ⟨hlast.symm, hfin⟩
      · have hl30 : l ≠ 30 := fun e => hbad (by simp [e])
        simp -dsimp only [go_sem, h5, h6, hc, decide_false, grpLast (by omega : m ≤ 127), hl30]
        intro g3 b3 hb3
        refine ⟨fun y h => h.symm, by omega, by omega, fun g4 b4 n4 hn4 hb4 hb5 => ?_⟩
        have hfin := hf.cat (z := fun _ => .lit (.int .u8 0)) (v := (m : Int)) fun _ => trivial
        rw [← groups_last (k := k) (by omega : m ≤ 127), hys] at hfin
        exact oend_tmp (by simp -dsimp only [go_sem]; rfl) (by simp -dsimp only [go_sem]; rfl) hfin.1 ⟨hlast.symm, hfin⟩
theorem putInt_r (xs : List Int) (n : Int) (f0 : Nat → D) (hrow : ByteRow f0 xs) (hs : xs.length ≤ 1099511627776) : ICall Try.prog 97 [.msl 1000 0 0 [] 0 xs.length 1, .lit (.int .i64 n)] [.node (.arr xs.length 1) f0] (RowOut 1 (Bytes (Md.putInt xs n))) := by
  have hcl : max (-1000000000000) (min n 1000000000000) = Md.clampI n := rfl
  refine iput_root Try.func97 rfl (by decide) rfl (by decide) (by rw [Try.ntmps97]; simp) fun w0 M n0 gb hW hT => ivc_sound ?_; simp -dsimp only [Try.f97, go_sem, hcl]
  repeat' (first | refine ⟨?_, ?_⟩ | with_reducible intro _)
  all_goals
    refine iwp_loop (fun k st => ∃ (n' : Nat) (s : Nat → D) (R : Roots) (ys : List Int) (hd : D) (m : Nat), st = ⟨32, n', s, R⟩ ∧ n0 ≤ n' ∧ Buf [23, 30] ys hd R ∧ s 0 = hd ∧ s 5 = .lit (.int .i64 (m : Nat)) ∧
      ys ++ Md.groupsOf k m = Md.putInt xs n ∧ m < 128 ^ (k + 1) ∧ m < 4611686018427387904) (m := 9) ⟨_, _, _, xs, _, zg n, rfl, by omega, .inr ⟨1000, 0, gb, f0, rfl, rfl, by decide, hrow⟩, by simp -dsimp only [go_sem], ?_, (putInt_eq xs n).symm, zg_lt n, by have := zg_le n; omega⟩ ?_
    · simp -dsimp only [go_sem]
      first
        | exact zg_pos (by omega)
        | exact zg_neg (by omega)
    rintro k st ⟨n2, s, R, ys, hd, m, rfl, hn2, hB, h5, h6, hys, hm, hm62⟩
    refine ivc_sound ?_
    have hlen : ys.length ≤ 1099511627776 + 10 := by
      have := putInt_length xs n
      rw [← hys, List.length_append] at this
      try simp only [List.length_nil] at *
      omega
    by_cases hgt : 127 < m
    · have hc : (127 : Int) < (m : Int) := by omega
      rcases k with _ | k
      · omega
      have hl1 : (ys ++ [((m % 128 + 128 : Nat) : Int)]).length = ys.length + 1 := by rw [List.length_append, List.length_singleton]
      have hy1 : (ys ++ [((m % 128 + 128 : Nat) : Int)]) ++ Md.groupsOf k (m / 128) = Md.putInt xs n := by rw [← hys, groups_more hgt, List.append_assoc]; rfl
      have hm1 : m / 128 < 128 ^ (k + 1) := by rw [Nat.pow_succ] at hm; omega
      rcases hB with ⟨rfl, rfl, rfl⟩ | ⟨l, g2, b2, f, rfl, rfl, hbad, hf⟩
      · simp -dsimp only [go_sem, h5, h6, hc, decide_true, binAnd127 hm62, binOr128, wrapMore, binShr7]
        intro g3 b3 hb3
        refine ⟨fun y h => h.symm, fun g4 b4 n4 hn4 hb4 hb5 => ?_⟩
        refine ⟨k, by omega, into_drop (dropN (by decide)) ⟨_, _, _, [((m % 128 + 128 : Nat) : Int)], _, m / 128, rfl, by omega, .inr ⟨24, g4, b4, _, rfl, rfl, by decide, ByteRow.one (z := fun _ => .lit (.int .u8 0)) fun _ => trivial⟩, by simp -dsimp only [go_sem], by simp -dsimp only [go_sem], hy1, hm1, by omega⟩⟩
      · have hl23 : l ≠ 23 := fun e => hbad (by simp [e])
        simp -dsimp only [go_sem, h5, h6, hc, decide_true, binAnd127 hm62, binOr128, wrapMore, binShr7, hl23]
        intro g3 b3 hb3
        refine ⟨fun y h => h.symm, by omega, by omega, fun g4 b4 n4 hn4 hb4 hb5 => ?_⟩
        exact ⟨k, by omega, into_drop (dropA hl23.symm) ⟨_, _, _, _, _, m / 128, rfl, by omega, .inr ⟨l, g4, b4, _, rfl, by rw [hl1], hbad, hf.cat (z := fun _ => .lit (.int .u8 0)) fun _ => trivial⟩, by simp -dsimp only [go_sem]; rw [hl1], by simp -dsimp only [go_sem], hy1, hm1, by omega⟩⟩
    · have hc : ¬ (127 : Int) < (m : Int) := by omega
      have hlast : (Md.putInt xs n).length = ys.length + 1 := by rw [← hys, groups_last (by omega), List.length_append, List.length_singleton]
      rcases hB with ⟨rfl, rfl, rfl⟩ | ⟨l, g2, b2, f, rfl, rfl, hbad, hf⟩
      · simp -dsimp only [go_sem, h5, h6, hc, decide_false, grpLast (by omega : m ≤ 127)]
        intro g3 b3 hb3
        refine ⟨fun y h => h.symm, fun g4 b4 n4 hn4 hb4 hb5 => ?_⟩
        have hfin := ByteRow.one (z := fun _ => .lit (.int .u8 0)) (v := (m : Int)) fun _ => trivial
        rw [← groups_last (k := k) (by omega : m ≤ 127), ← List.nil_append (Md.groupsOf k m), hys] at hfin
        exact oend_tmp (by simp -dsimp only [go_sem]; rfl) (by simp -dsimp only [go_sem]; rfl) hfin.1 ⟨hlast.symm, hfin⟩
      · have hl30 : l ≠ 30 := fun e => hbad (by simp [e])
        simp -dsimp only [go_sem, h5, h6, hc, decide_false, grpLast (by omega : m ≤ 127), hl30]
        intro g3 b3 hb3
        refine ⟨fun y h => h.symm, by omega, by omega, fun g4 b4 n4 hn4 hb4 hb5 => ?_⟩
        have hfin := hf.cat (z := fun _ => .lit (.int .u8 0)) (v := (m : Int)) fun _ => trivial
        rw [← groups_last (k := k) (by omega : m ≤ 127), hys] at hfin
        exact oend_tmp (by simp -dsimp only [go_sem]; rfl) (by simp -dsimp only [go_sem]; rfl) hfin.1 ⟨hlast.symm, hfin⟩
theorem cloneBytes_p (d : D) (xs : List Int) (h : IsL 1 IsByte d xs) (hs : xs.length ≤ 1048576) : PCall Try.prog 98 [d] fun n0 n1 r => IsL 1 IsByte r xs ∧ Own n0 n1 r := by
  have hp : ∀ d x, IsByte d x → d.tl = [] ∧ d.whole := fun d x h => ⟨h.tl, h.wh⟩
  rcases h with ⟨rfl, rfl⟩ | ⟨t, zb, f, rfl, hst, hsh, hf⟩
  · refine pcall_intro Try.func98 rfl (by decide) rfl (by decide) (by rw [Try.ntmps98]; simp) fun w0 M n0 hW => ivc_sound ?_; simp -dsimp only [Try.f98, go_sem]
    intro b
    refine ⟨fun _ n1 hn1 hfc => fin_nil, fun _ g b hb g1 b1 n' hn' hb1' hb2 n1 hn1 hfc => ?_⟩
    have hb3 : n0 ≤ b1 := by rcases hb2 with h | h <;> omega
    exact fin_zero (fun _ => trivial) rfl hb3 (by omega)
  · refine pcall_intro Try.func98 rfl (by decide) rfl (by decide) (by rw [Try.ntmps98]; simp) fun w0 M n0 hW => ivc_sound ?_; simp -dsimp only [Try.f98, go_sem]
    intro b hb
    refine ⟨fun h => absurd (hb.trans h) (by simp), fun _ g b hb1 => ⟨fun y h => h.symm, by omega, by omega, fun g1 b1 n' hn' hb1' hb2 n1 hn1 hfc => ?_⟩⟩
    rw [rls_still hst]
    have hb3 : n0 ≤ b1 := by rcases hb2 with h | h <;> omega
    exact fin_row hst hsh hf hp hb3 (by omega)
theorem implPutInt_p (d : D) (xs : List Int) (n : Int) (h : IsL 1 IsByte d xs) (hs : xs.length ≤ 1048576) : PCall Try.prog 19 [d, .lit (.int .i64 n)] fun n0 n1 r => IsL 1 IsByte r (Md.putInt xs n) ∧ Own n0 n1 r := by
  have e4 := h.still
  have hpl := putInt_length xs n
  refine pcall_intro Try.func19 rfl (by decide) rfl (by decide) (by rw [Try.ntmps19]; simp) fun w0 M n0 hW => ivc_sound ?_; simp -dsimp only [Try.f19, go_sem]
  refine xcall_t (cloneBytes_p _ _ h hs) (by simp -dsimp only [go_sem, rl_still, e4]) fun m0 p0 r0 hm0 hp0 hr0 => ?_
  have hm0' : n0 ≤ m0 := hm0
  have ho := hr0.2
  have hi := hr0.1
  rcases hi.bytes with ⟨rfl, rfl⟩ | ⟨t, zb, f, rfl, hrow, hl⟩
  · refine ⟨ho.tags, Conv.zero ?_⟩
    simp -dsimp only [go_sem]
    refine xcall_o0 (putInt_n n) rfl (by simp -dsimp only [go_sem]) ⟨trivial, trivial, trivial⟩ fun n1 q f' G b' hn1 hst hA hb1 hb2 => ?_
    simp -dsimp only [go_sem]
    intro n2 hn2 hfc
    rw [rls_still hst, hA.1]
    exact hA.2.own (by omega) (by omega) (by omega)
  · obtain rfl : zb = true := ho.wh.1
    have ht := ho.rg t (by simp [D.tl])
    refine ⟨ho.tags, conv_sl (l := 1000) (R' := fun _ => none) [1] (hW t (by omega)) rfl (own_free ho) (fun j hj => ?_) (fun l' g b x hx => by cases hx) fun g => ?_⟩
    · obtain rfl : j = 1 := by simpa using hj
      exact (show (D.lit (.int .i64 n)).free t from trivial)
    simp -dsimp only [go_sem]
    refine xcall_o1 (l := 1000) (g := g) (putInt_r xs n f hrow (by omega)) (by simp -dsimp only [go_sem]) rfl hrow.1 ⟨trivial, trivial⟩ fun n1 q f' G b' hn1 hst hA hb1 hb2 => ?_
    simp -dsimp only [go_sem]
    intro n2 hn2 hfc
    rw [rls_still hst, hA.1]
    exact hA.2.own (by omega) (by rcases hb2 with h | h <;> omega) (by omega)
end Go.Proofs.Ytkigfigdoaoboaa.IM
end

section
/- Contracts: texts are put behind bytes. -/
namespace Go.Proofs.Ytkigfigdoaoboaa.IM
open Go Go.Proofs
set_option linter.unusedVariables false
set_option linter.unusedSimpArgs false
set_option maxHeartbeats 2000000
set_option maxRecDepth 20000

/-- the bytes of a text -/
def strBytes (s : ByteArray) : List Int := (List.range s.size).map fun i => byteAt s i
theorem strBytes_length (s : ByteArray) : (strBytes s).length = s.size := by simp [strBytes]
theorem strRow (s : ByteArray) : ByteRow (fun i => .lit (.int .u8 (byteAt s i))) (strBytes s) := ⟨fun _ => trivial, fun i hi => by simp [IsByte, strBytes]⟩
theorem putInt_pos (b : List Int) (n : Int) : 0 < (Md.putInt b n).length := by
  rw [putInt_eq, List.length_append]
  have : 0 < (Md.groupsOf 9 (zg n)).length := by unfold Md.groupsOf; split <;> simp
  omega
theorem putText_p (d : D) (xs : List Int) (tx : ByteArray) (h : IsL 1 IsByte d xs) (hs : xs.length ≤ 1048576) (hs2 : tx.size ≤ 1099511627776) : PCall Try.prog 22 [d, .lit (.string tx)] fun n0 n1 r => IsL 1 IsByte r (Md.putInt xs tx.size ++ strBytes tx) ∧ Own n0 n1 r := by
  have e4 := h.still
  refine pcall_intro Try.func22 rfl (by decide) rfl (by decide) (by rw [Try.ntmps22]; simp) fun w0 M n0 hW => ivc_sound ?_; simp -dsimp only [Try.f22, go_sem]
  refine xcall_t (implPutInt_p _ _ (tx.size : Int) h hs) (by simp -dsimp only [go_sem, rl_still, e4]) fun m0 p0 r hm0 hp0 hr => ?_
  have hm0' : n0 ≤ m0 := hm0
  have hri := hr.1
  have hro := hr.2
  have hpl := putInt_length xs tx.size
  rcases hri.bytes with ⟨rfl, he⟩ | ⟨t, zb, f, rfl, hrow, hl⟩
  · have := putInt_pos xs tx.size
    rw [he] at this; simp at this
  obtain rfl : zb = true := hro.wh.1
  have ht := hro.rg t (by simp [D.tl])
  refine ⟨hro.tags, conv_sl (l := 1000) (R' := fun _ => none) [1] (hW t (by omega)) rfl (own_free hro) (fun j hj => ?_) (fun l' g b x hx => by cases hx) fun g => ?_⟩
  · obtain rfl : j = 1 := by simpa using hj
    exact (show (D.lit (.string tx)).free t from trivial)
  simp -dsimp only [go_sem]
  refine ⟨fun y h => h.symm, by omega, by omega, fun g1 b1 n2 hn2 hb1 hb2 n1 hn1 hfc => ?_⟩
  have hrow2 := hrow.append (strRow tx)
  have hlen : (Md.putInt xs tx.size ++ strBytes tx).length = (Md.putInt xs tx.size).length + tx.size := by rw [List.length_append, strBytes_length]
  rw [rls_still hrow2.1, ← hlen]
  exact hrow2.own (by omega) (by rcases hb2 with h | h <;> omega) (by omega)
end Go.Proofs.Ytkigfigdoaoboaa.IM
end
