/- Several of my texts in one module (merge.py). -/
import Derived.Test.YtpepddckmddbiaaA4
import Derived.Test.YtpepddckmddbiaaA3
import Derived.Test.YtpepddckmddbiaaA6
section
/- Contracts: numbers are put behind bytes. -/
namespace Go.Proofs.Ytpepddckmddbiaa.IM
open Go Go.Proofs
set_option linter.unusedVariables false
set_option linter.unusedSimpArgs false
set_option maxHeartbeats 2000000
set_option maxRecDepth 20000

theorem into_drop {w0 : World} {M : Fr} {N n : Nat} {s : Nat → D} {R R' : Roots} {K : St → Prop} (hR : ∀ j, R' j = R j ∨ R' j = none) (h : K ⟨N, n, s, R'⟩) : Into w0 M ⟨N, n, s, R⟩ K :=
  Into.le ⟨N, n, s, R'⟩ ⟨rfl, Nat.le_refl _, fun t => .inl rfl, fun j => hR j⟩ (Into.of h)
theorem dropA {a b : Nat} {x y z : Option (Nat × Nat × D)} (hab : a ≠ b) (j : Nat) : (upd (fun _ => none) b y : Roots) j = (upd (upd (upd (fun _ => none) b z) a x) b y : Roots) j ∨ (upd (fun _ => none) b y : Roots) j = none := by
  by_cases h1 : j = b
  · subst h1; left; simp [upd]
  · right; simp [upd, h1]
/-- a row of bytes as something to append -/
theorem IsL.src {d : D} {xs : List Int} (h : IsL 1 IsByte d xs) : ∃ f sz, (∀ R, srcD R d = some (xs.length, sz, f)) ∧ (∀ y, sz = some y → y = 1) ∧ (∀ (P : Program) (T T' : TypeId), srcT P T T' d = (T' = T)) ∧ ByteRow f xs ∧ xs.length < 140737488355328 := by
  rcases h.bytes with ⟨rfl, rfl⟩ | ⟨t, zb, f, rfl, h1, h2⟩
  · exact ⟨fun _ => .any, none, fun _ => rfl, fun y h => (by cases h), fun _ _ _ => rfl, ByteRow.nil _ fun _ => trivial, by simp⟩
  · exact ⟨f, some 1, fun _ => rfl, fun y h => (Option.some.inj h).symm, fun _ _ _ => rfl, h1, h2⟩
theorem clamp_cases (n : Int) : (1000000000000 < n ∧ Md.clampI n = 1000000000000) ∨ (¬ 1000000000000 < n ∧ n < -1000000000000 ∧ Md.clampI n = -1000000000000) ∨
    (¬ 1000000000000 < n ∧ ¬ n < -1000000000000 ∧ n < 0 ∧ Md.clampI n = n) ∨ (¬ 1000000000000 < n ∧ ¬ n < -1000000000000 ∧ ¬ n < 0 ∧ Md.clampI n = n) := by
  unfold Md.clampI; omega

theorem putInt_pos' (b : List Int) (n : Int) : 0 < (Md.putInt b n).length := by
  rw [putInt_eq, List.length_append]
  have : 0 < (Md.groupsOf 9 (zg n)).length := by unfold Md.groupsOf; split <;> simp
  omega
theorem specPutInt_p (d : D) (xs : List Int) (n : Int) (h : IsL 1 IsByte d xs) (hs : xs.length ≤ 1099511627776) : PCall Try.prog 39 [d, .lit (.int .i64 n)] fun n0 n1 r => IsL 1 IsByte r (Md.putInt xs n) ∧ Own n0 n1 r := by
  obtain ⟨f0, sz, hsrc, hsz, hT, hrow, hl⟩ := h.src
  have hm1 : ∀ v, ¬ Md.clampI n < 0 → Md.clampI n = v → IntKind.i64.wrap (2 * v) = (zg n : Int) := fun v h e => e ▸ zg_pos h
  have hm2 : ∀ v, Md.clampI n < 0 → Md.clampI n = v → IntKind.i64.wrap (IntKind.i64.wrap (-2 * v) - 1) = (zg n : Int) := fun v h e => e ▸ zg_neg h
  refine pcall_intro Try.func39 rfl (by decide) rfl (by decide) (by rw [Try.ntmps39]; simp) fun w0 M n0 hW => ivc_sound ?_; simp -dsimp only [Try.f39, go_sem, Nat.reduceLT, Nat.reduceEqDiff, Nat.reduceAdd, Nat.reduceMul, Nat.reduceBEq, beq_self_eq_true, Nat.reduceLeDiff, Nat.le_refl, Int.reduceEq, reduceCtorEq, hsrc, hT]
  intro g1 b1 hb1
  refine ⟨hsz, by omega, by omega, fun g b n' hn' hbn hb => ?_⟩
  repeat' (first | refine ⟨?_, ?_⟩ | with_reducible intro _)
  all_goals first | (exfalso; omega) | skip
  all_goals
    refine iwp_loop (fun k st => ∃ (n' : Nat) (s : Nat → D) (g b : Nat) (f : Nat → D) (ys : List Int) (m : Nat), st = ⟨37, n', s, upd (fun _ => none) 7 (some (g, b, .node (.arr ys.length 1) f))⟩ ∧ n0 ≤ n' ∧ n0 ≤ b ∧ s 5 = .msl 7 g 0 [] 0 ys.length 1 ∧ s 6 = .lit (.int .i64 (m : Nat)) ∧
      ByteRow f ys ∧ ys ++ Md.groupsOf k m = Md.putInt xs n ∧ m < 128 ^ (k + 1) ∧ m < 4611686018427387904) (m := 9) ⟨n', _, g, b, _, xs, zg n, rfl, by omega, by omega, by simp -dsimp only [go_sem, Nat.reduceLT, Nat.reduceEqDiff, Nat.reduceAdd, Nat.reduceMul, Nat.reduceBEq, beq_self_eq_true, Nat.reduceLeDiff, Nat.le_refl, Int.reduceEq, reduceCtorEq], ?_, hrow, (putInt_eq xs n).symm, zg_lt n, by have := zg_le n; omega⟩ ?_
    · simp -dsimp only [go_sem, Nat.reduceLT, Nat.reduceEqDiff, Nat.reduceAdd, Nat.reduceMul, Nat.reduceBEq, beq_self_eq_true, Nat.reduceLeDiff, Nat.le_refl, Int.reduceEq, reduceCtorEq]
      first
        | exact hm1 _ (by unfold Md.clampI; omega) (by unfold Md.clampI; omega)
        | exact hm2 _ (by unfold Md.clampI; omega) (by unfold Md.clampI; omega)
    rintro k st ⟨n2, s, g2, b2, f, ys, m, rfl, hn2, hb2, h5, h6, hf, hys, hm, hm62⟩
    refine ivc_sound ?_
    have hlen : ys.length ≤ xs.length + 10 := by
      have := putInt_length xs n
      rw [← hys, List.length_append] at this; omega
    by_cases hgt : 127 < m
    · have hc : (127 : Int) < (m : Int) := by omega
      rcases k with _ | k
      · omega
      simp -dsimp only [go_sem, Nat.reduceLT, Nat.reduceEqDiff, Nat.reduceAdd, Nat.reduceMul, Nat.reduceBEq, beq_self_eq_true, Nat.reduceLeDiff, Nat.le_refl, Int.reduceEq, reduceCtorEq, h5, h6, hc, decide_true, binAnd127 hm62, binOr128, wrapMore, binShr7]
      intro g3 b3 hb3
      refine ⟨fun y h => h.symm, by omega, by omega, fun g4 b4 n4 hn4 hb4 hb5 => ?_⟩
      refine ⟨k, by omega, into_drop (dropA (by decide)) ⟨_, _, g4, b4, _, ys ++ [((m % 128 + 128 : Nat) : Int)], m / 128, by rw [List.length_append, List.length_singleton], by omega, ?_, by simp -dsimp only [go_sem, Nat.reduceLT, Nat.reduceEqDiff, Nat.reduceAdd, Nat.reduceMul, Nat.reduceBEq, beq_self_eq_true, Nat.reduceLeDiff, Nat.le_refl, Int.reduceEq, reduceCtorEq]; rw [List.length_append, List.length_singleton], by simp -dsimp only [go_sem, Nat.reduceLT, Nat.reduceEqDiff, Nat.reduceAdd, Nat.reduceMul, Nat.reduceBEq, beq_self_eq_true, Nat.reduceLeDiff, Nat.le_refl, Int.reduceEq, reduceCtorEq], hf.cat (z := fun _ => .lit (.int .u8 0)) fun _ => trivial, ?_, ?_, by omega⟩⟩
      · omega
      · rw [← hys, groups_more hgt, List.append_assoc]; rfl
      · rw [Nat.pow_succ] at hm; omega
    · have hc : ¬ (127 : Int) < (m : Int) := by omega
      simp -dsimp only [go_sem, Nat.reduceLT, Nat.reduceEqDiff, Nat.reduceAdd, Nat.reduceMul, Nat.reduceBEq, beq_self_eq_true, Nat.reduceLeDiff, Nat.le_refl, Int.reduceEq, reduceCtorEq, h5, h6, hc, decide_false, grpLast (by omega : m ≤ 127)]
      intro g3 b3 hb3
      refine ⟨fun y h => h.symm, by omega, by omega, fun g4 b4 n4 hn4 hb4 hb5 n1 hn1 hfc => ?_⟩
      have hfin := hf.cat (z := fun _ => .lit (.int .u8 0)) (v := (m : Int)) fun _ => trivial
      rw [← groups_last (k := k) (by omega : m ≤ 127), hys] at hfin
      have hlast : (Md.putInt xs n).length = ys.length + 1 := by rw [← hys, groups_last (by omega), List.length_append, List.length_singleton]
      rw [rls_still hfin.1, ← hlast]
      exact hfin.own (by have := putInt_length xs n; omega) (by omega) (by omega)
/-- bytes as they grow: nothing yet, or a root of their own -/
def Buf (bad : List Nat) (ys : List Int) (hd : D) (R : Roots) : Prop :=
  (hd = .nil ∧ ys = [] ∧ R = fun _ => none) ∨ ∃ (l g b : Nat) (f : Nat → D), hd = .msl l g 0 [] 0 ys.length 1 ∧ R = upd (fun _ => none) l (some (g, b, .node (.arr ys.length 1) f)) ∧ l ∉ bad ∧ ByteRow f ys
theorem dropN {a b : Nat} {x y : Option (Nat × Nat × D)} (hab : a ≠ b) (j : Nat) : (upd (fun _ => none) b y : Roots) j = (upd (upd (fun _ => none) a x) b y : Roots) j ∨ (upd (fun _ => none) b y : Roots) j = none := by
  by_cases h1 : j = b
  · subst h1; left; simp [upd]
  · right; simp [upd, h1]
theorem putInt_n (n : Int) : ICall Try.prog 148 [.nil, .lit (.int .i64 n)] [] (RowOut 1 (Bytes (Md.putInt [] n))) := by
  have hcl : max (-1000000000000) (min n 1000000000000) = Md.clampI n := rfl
  refine iput_nil Try.func148 rfl (by decide) rfl (by decide) (by rw [Try.ntmps148]; simp) fun w0 M n0 hW hT => ivc_sound ?_; simp -dsimp only [Try.f148, go_sem, Nat.reduceLT, Nat.reduceEqDiff, Nat.reduceAdd, Nat.reduceMul, Nat.reduceBEq, beq_self_eq_true, Nat.reduceLeDiff, Nat.le_refl, Int.reduceEq, reduceCtorEq, hcl]
  repeat' (first | refine ⟨?_, ?_⟩ | with_reducible intro _)
  all_goals
    refine iwp_loop (fun k st => ∃ (n' : Nat) (s : Nat → D) (R : Roots) (ys : List Int) (hd : D) (m : Nat), st = ⟨32, n', s, R⟩ ∧ n0 ≤ n' ∧ Buf [23, 30] ys hd R ∧ s 0 = hd ∧ s 5 = .lit (.int .i64 (m : Nat)) ∧
      ys ++ Md.groupsOf k m = Md.putInt [] n ∧ m < 128 ^ (k + 1) ∧ m < 4611686018427387904) (m := 9) ⟨_, _, _, [], _, zg n, rfl, by omega, .inl ⟨rfl, rfl, rfl⟩, by simp -dsimp only [go_sem, Nat.reduceLT, Nat.reduceEqDiff, Nat.reduceAdd, Nat.reduceMul, Nat.reduceBEq, beq_self_eq_true, Nat.reduceLeDiff, Nat.le_refl, Int.reduceEq, reduceCtorEq], ?_, (putInt_eq [] n).symm, zg_lt n, by have := zg_le n; omega⟩ ?_
    · simp -dsimp only [go_sem, Nat.reduceLT, Nat.reduceEqDiff, Nat.reduceAdd, Nat.reduceMul, Nat.reduceBEq, beq_self_eq_true, Nat.reduceLeDiff, Nat.le_refl, Int.reduceEq, reduceCtorEq]
      first
        | exact zg_pos (by omega)
        | exact zg_neg (by omega)
    rintro k st ⟨n2, s, R, ys, hd, m, rfl, hn2, hB, h5, h6, hys, hm, hm62⟩
    refine ivc_sound ?_
    have hlen : ys.length ≤ 1099511627776 + 10 := by
      have := putInt_length [] n
      rw [← hys, List.length_append] at this
      try simp only [List.length_nil] at *
      omega
    by_cases hgt : 127 < m
    · have hc : (127 : Int) < (m : Int) := by omega
      rcases k with _ | k
      · omega
      have hl1 : (ys ++ [((m % 128 + 128 : Nat) : Int)]).length = ys.length + 1 := by rw [List.length_append, List.length_singleton]
      have hy1 : (ys ++ [((m % 128 + 128 : Nat) : Int)]) ++ Md.groupsOf k (m / 128) = Md.putInt [] n := by rw [← hys, groups_more hgt, List.append_assoc]; rfl
      have hm1 : m / 128 < 128 ^ (k + 1) := by rw [Nat.pow_succ] at hm; omega
      rcases hB with ⟨rfl, rfl, rfl⟩ | ⟨l, g2, b2, f, rfl, rfl, hbad, hf⟩
      · simp -dsimp only [go_sem, Nat.reduceLT, Nat.reduceEqDiff, Nat.reduceAdd, Nat.reduceMul, Nat.reduceBEq, beq_self_eq_true, Nat.reduceLeDiff, Nat.le_refl, Int.reduceEq, reduceCtorEq, h5, h6, hc, decide_true, binAnd127 hm62, binOr128, wrapMore, binShr7]
        intro g3 b3 hb3
        refine ⟨fun y h => h.symm, fun g4 b4 n4 hn4 hb4 hb5 => ?_⟩
        refine ⟨k, by omega, into_drop (dropN (by decide)) ⟨_, _, _, [((m % 128 + 128 : Nat) : Int)], _, m / 128, rfl, by omega, .inr ⟨24, g4, b4, _, rfl, rfl, by decide, ByteRow.one (z := fun _ => .lit (.int .u8 0)) fun _ => trivial⟩, by simp -dsimp only [go_sem, Nat.reduceLT, Nat.reduceEqDiff, Nat.reduceAdd, Nat.reduceMul, Nat.reduceBEq, beq_self_eq_true, Nat.reduceLeDiff, Nat.le_refl, Int.reduceEq, reduceCtorEq], by simp -dsimp only [go_sem, Nat.reduceLT, Nat.reduceEqDiff, Nat.reduceAdd, Nat.reduceMul, Nat.reduceBEq, beq_self_eq_true, Nat.reduceLeDiff, Nat.le_refl, Int.reduceEq, reduceCtorEq], hy1, hm1, by omega⟩⟩
      · have hl23 : l ≠ 23 := fun e => hbad (by simp [e])
        simp -dsimp only [go_sem, Nat.reduceLT, Nat.reduceEqDiff, Nat.reduceAdd, Nat.reduceMul, Nat.reduceBEq, beq_self_eq_true, Nat.reduceLeDiff, Nat.le_refl, Int.reduceEq, reduceCtorEq, h5, h6, hc, decide_true, binAnd127 hm62, binOr128, wrapMore, binShr7, hl23]
        intro g3 b3 hb3
        refine ⟨fun y h => h.symm, by omega, by omega, fun g4 b4 n4 hn4 hb4 hb5 => ?_⟩
        exact ⟨k, by omega, into_drop (dropA hl23.symm) ⟨_, _, _, _, _, m / 128, rfl, by omega, .inr ⟨l, g4, b4, _, rfl, by rw [hl1], hbad, hf.cat (z := fun _ => .lit (.int .u8 0)) fun _ => trivial⟩, by simp -dsimp only [go_sem, Nat.reduceLT, Nat.reduceEqDiff, Nat.reduceAdd, Nat.reduceMul, Nat.reduceBEq, beq_self_eq_true, Nat.reduceLeDiff, Nat.le_refl, Int.reduceEq, reduceCtorEq]; rw [hl1], by simp -dsimp only [go_sem, Nat.reduceLT, Nat.reduceEqDiff, Nat.reduceAdd, Nat.reduceMul, Nat.reduceBEq, beq_self_eq_true, Nat.reduceLeDiff, Nat.le_refl, Int.reduceEq, reduceCtorEq], hy1, hm1, by omega⟩⟩
    · have hc : ¬ (127 : Int) < (m : Int) := by omega
      have hlast : (Md.putInt [] n).length = ys.length + 1 := by rw [← hys, groups_last (by omega), List.length_append, List.length_singleton]
      rcases hB with ⟨rfl, rfl, rfl⟩ | ⟨l, g2, b2, f, rfl, rfl, hbad, hf⟩
      · simp -dsimp only [go_sem, Nat.reduceLT, Nat.reduceEqDiff, Nat.reduceAdd, Nat.reduceMul, Nat.reduceBEq, beq_self_eq_true, Nat.reduceLeDiff, Nat.le_refl, Int.reduceEq, reduceCtorEq, h5, h6, hc, decide_false, grpLast (by omega : m ≤ 127)]
        intro g3 b3 hb3
        refine ⟨fun y h => h.symm, fun g4 b4 n4 hn4 hb4 hb5 => ?_⟩
        have hfin := ByteRow.one (z := fun _ => .lit (.int .u8 0)) (v := (m : Int)) fun _ => trivial
        rw [← groups_last (k := k) (by omega : m ≤ 127), ← List.nil_append (Md.groupsOf k m), hys] at hfin
        exact oend_tmp (by simp -dsimp only [go_sem, Nat.reduceLT, Nat.reduceEqDiff, Nat.reduceAdd, Nat.reduceMul, Nat.reduceBEq, beq_self_eq_true, Nat.reduceLeDiff, Nat.le_refl, Int.reduceEq, reduceCtorEq]; rfl) (by simp -dsimp only [go_sem, Nat.reduceLT, Nat.reduceEqDiff, Nat.reduceAdd, Nat.reduceMul, Nat.reduceBEq, beq_self_eq_true, Nat.reduceLeDiff, Nat.le_refl, Int.reduceEq, reduceCtorEq]; rfl) hfin.1 ⟨hlast.symm, hfin⟩
      · have hl30 : l ≠ 30 := fun e => hbad (by simp [e])
        simp -dsimp only [go_sem, Nat.reduceLT, Nat.reduceEqDiff, Nat.reduceAdd, Nat.reduceMul, Nat.reduceBEq, beq_self_eq_true, Nat.reduceLeDiff, Nat.le_refl, Int.reduceEq, reduceCtorEq, h5, h6, hc, decide_false, grpLast (by omega : m ≤ 127), hl30]
        intro g3 b3 hb3
        refine ⟨fun y h => h.symm, by omega, by omega, fun g4 b4 n4 hn4 hb4 hb5 => ?_⟩
        have hfin := hf.cat (z := fun _ => .lit (.int .u8 0)) (v := (m : Int)) fun _ => trivial
        rw [← groups_last (k := k) (by omega : m ≤ 127), hys] at hfin
        exact oend_tmp (by simp -dsimp only [go_sem, Nat.reduceLT, Nat.reduceEqDiff, Nat.reduceAdd, Nat.reduceMul, Nat.reduceBEq, beq_self_eq_true, Nat.reduceLeDiff, Nat.le_refl, Int.reduceEq, reduceCtorEq]; rfl) (by simp -dsimp only [go_sem, Nat.reduceLT, Nat.reduceEqDiff, Nat.reduceAdd, Nat.reduceMul, Nat.reduceBEq, beq_self_eq_true, Nat.reduceLeDiff, Nat.le_refl, Int.reduceEq, reduceCtorEq]; rfl) hfin.1 ⟨hlast.symm, hfin⟩
theorem putInt_r (xs : List Int) (n : Int) (f0 : Nat → D) (hrow : ByteRow f0 xs) (hs : xs.length ≤ 1099511627776) : ICall Try.prog 148 [.msl 1000 0 0 [] 0 xs.length 1, .lit (.int .i64 n)] [.node (.arr xs.length 1) f0] (RowOut 1 (Bytes (Md.putInt xs n))) := by
  have hcl : max (-1000000000000) (min n 1000000000000) = Md.clampI n := rfl
  refine iput_root Try.func148 rfl (by decide) rfl (by decide) (by rw [Try.ntmps148]; simp) fun w0 M n0 gb hW hT => ivc_sound ?_; simp -dsimp only [Try.f148, go_sem, Nat.reduceLT, Nat.reduceEqDiff, Nat.reduceAdd, Nat.reduceMul, Nat.reduceBEq, beq_self_eq_true, Nat.reduceLeDiff, Nat.le_refl, Int.reduceEq, reduceCtorEq, hcl]
  repeat' (first | refine ⟨?_, ?_⟩ | with_reducible intro _)
  all_goals
    refine iwp_loop (fun k st => ∃ (n' : Nat) (s : Nat → D) (R : Roots) (ys : List Int) (hd : D) (m : Nat), st = ⟨32, n', s, R⟩ ∧ n0 ≤ n' ∧ Buf [23, 30] ys hd R ∧ s 0 = hd ∧ s 5 = .lit (.int .i64 (m : Nat)) ∧
      ys ++ Md.groupsOf k m = Md.putInt xs n ∧ m < 128 ^ (k + 1) ∧ m < 4611686018427387904) (m := 9) ⟨_, _, _, xs, _, zg n, rfl, by omega, .inr ⟨1000, 0, gb, f0, rfl, rfl, by decide, hrow⟩, by simp -dsimp only [go_sem, Nat.reduceLT, Nat.reduceEqDiff, Nat.reduceAdd, Nat.reduceMul, Nat.reduceBEq, beq_self_eq_true, Nat.reduceLeDiff, Nat.le_refl, Int.reduceEq, reduceCtorEq], ?_, (putInt_eq xs n).symm, zg_lt n, by have := zg_le n; omega⟩ ?_
    · simp -dsimp only [go_sem, Nat.reduceLT, Nat.reduceEqDiff, Nat.reduceAdd, Nat.reduceMul, Nat.reduceBEq, beq_self_eq_true, Nat.reduceLeDiff, Nat.le_refl, Int.reduceEq, reduceCtorEq]
      first
        | exact zg_pos (by omega)
        | exact zg_neg (by omega)
    rintro k st ⟨n2, s, R, ys, hd, m, rfl, hn2, hB, h5, h6, hys, hm, hm62⟩
    refine ivc_sound ?_
    have hlen : ys.length ≤ 1099511627776 + 10 := by
      have := putInt_length xs n
      rw [← hys, List.length_append] at this
      try simp only [List.length_nil] at *
      omega
    by_cases hgt : 127 < m
    · have hc : (127 : Int) < (m : Int) := by omega
      rcases k with _ | k
      · omega
      have hl1 : (ys ++ [((m % 128 + 128 : Nat) : Int)]).length = ys.length + 1 := by rw [List.length_append, List.length_singleton]
      have hy1 : (ys ++ [((m % 128 + 128 : Nat) : Int)]) ++ Md.groupsOf k (m / 128) = Md.putInt xs n := by rw [← hys, groups_more hgt, List.append_assoc]; rfl
      have hm1 : m / 128 < 128 ^ (k + 1) := by rw [Nat.pow_succ] at hm; omega
      rcases hB with ⟨rfl, rfl, rfl⟩ | ⟨l, g2, b2, f, rfl, rfl, hbad, hf⟩
      · simp -dsimp only [go_sem, Nat.reduceLT, Nat.reduceEqDiff, Nat.reduceAdd, Nat.reduceMul, Nat.reduceBEq, beq_self_eq_true, Nat.reduceLeDiff, Nat.le_refl, Int.reduceEq, reduceCtorEq, h5, h6, hc, decide_true, binAnd127 hm62, binOr128, wrapMore, binShr7]
        intro g3 b3 hb3
        refine ⟨fun y h => h.symm, fun g4 b4 n4 hn4 hb4 hb5 => ?_⟩
        refine ⟨k, by omega, into_drop (dropN (by decide)) ⟨_, _, _, [((m % 128 + 128 : Nat) : Int)], _, m / 128, rfl, by omega, .inr ⟨24, g4, b4, _, rfl, rfl, by decide, ByteRow.one (z := fun _ => .lit (.int .u8 0)) fun _ => trivial⟩, by simp -dsimp only [go_sem, Nat.reduceLT, Nat.reduceEqDiff, Nat.reduceAdd, Nat.reduceMul, Nat.reduceBEq, beq_self_eq_true, Nat.reduceLeDiff, Nat.le_refl, Int.reduceEq, reduceCtorEq], by simp -dsimp only [go_sem, Nat.reduceLT, Nat.reduceEqDiff, Nat.reduceAdd, Nat.reduceMul, Nat.reduceBEq, beq_self_eq_true, Nat.reduceLeDiff, Nat.le_refl, Int.reduceEq, reduceCtorEq], hy1, hm1, by omega⟩⟩
      · have hl23 : l ≠ 23 := fun e => hbad (by simp [e])
        simp -dsimp only [go_sem, Nat.reduceLT, Nat.reduceEqDiff, Nat.reduceAdd, Nat.reduceMul, Nat.reduceBEq, beq_self_eq_true, Nat.reduceLeDiff, Nat.le_refl, Int.reduceEq, reduceCtorEq, h5, h6, hc, decide_true, binAnd127 hm62, binOr128, wrapMore, binShr7, hl23]
        intro g3 b3 hb3
        refine ⟨fun y h => h.symm, by omega, by omega, fun g4 b4 n4 hn4 hb4 hb5 => ?_⟩
        exact ⟨k, by omega, into_drop (dropA hl23.symm) ⟨_, _, _, _, _, m / 128, rfl, by omega, .inr ⟨l, g4, b4, _, rfl, by rw [hl1], hbad, hf.cat (z := fun _ => .lit (.int .u8 0)) fun _ => trivial⟩, by simp -dsimp only [go_sem, Nat.reduceLT, Nat.reduceEqDiff, Nat.reduceAdd, Nat.reduceMul, Nat.reduceBEq, beq_self_eq_true, Nat.reduceLeDiff, Nat.le_refl, Int.reduceEq, reduceCtorEq]; rw [hl1], by simp -dsimp only [go_sem, Nat.reduceLT, Nat.reduceEqDiff, Nat.reduceAdd, Nat.reduceMul, Nat.reduceBEq, beq_self_eq_true, Nat.reduceLeDiff, Nat.le_refl, Int.reduceEq, reduceCtorEq], hy1, hm1, by omega⟩⟩
    · have hc : ¬ (127 : Int) < (m : Int) := by omega
      have hlast : (Md.putInt xs n).length = ys.length + 1 := by rw [← hys, groups_last (by omega), List.length_append, List.length_singleton]
      rcases hB with ⟨rfl, rfl, rfl⟩ | ⟨l, g2, b2, f, rfl, rfl, hbad, hf⟩
      · simp -dsimp only [go_sem, Nat.reduceLT, Nat.reduceEqDiff, Nat.reduceAdd, Nat.reduceMul, Nat.reduceBEq, beq_self_eq_true, Nat.reduceLeDiff, Nat.le_refl, Int.reduceEq, reduceCtorEq, h5, h6, hc, decide_false, grpLast (by omega : m ≤ 127)]
        intro g3 b3 hb3
        refine ⟨fun y h => h.symm, fun g4 b4 n4 hn4 hb4 hb5 => ?_⟩
        have hfin := ByteRow.one (z := fun _ => .lit (.int .u8 0)) (v := (m : Int)) fun _ => trivial
        rw [← groups_last (k := k) (by omega : m ≤ 127), ← List.nil_append (Md.groupsOf k m), hys] at hfin
        exact oend_tmp (by simp -dsimp only [go_sem, Nat.reduceLT, Nat.reduceEqDiff, Nat.reduceAdd, Nat.reduceMul, Nat.reduceBEq, beq_self_eq_true, Nat.reduceLeDiff, Nat.le_refl, Int.reduceEq, reduceCtorEq]; rfl) (by simp -dsimp only [go_sem, Nat.reduceLT, Nat.reduceEqDiff, Nat.reduceAdd, Nat.reduceMul, Nat.reduceBEq, beq_self_eq_true, Nat.reduceLeDiff, Nat.le_refl, Int.reduceEq, reduceCtorEq]; rfl) hfin.1 ⟨hlast.symm, hfin⟩
      · have hl30 : l ≠ 30 := fun e => hbad (by simp [e])
        simp -dsimp only [go_sem, Nat.reduceLT, Nat.reduceEqDiff, Nat.reduceAdd, Nat.reduceMul, Nat.reduceBEq, beq_self_eq_true, Nat.reduceLeDiff, Nat.le_refl, Int.reduceEq, reduceCtorEq, h5, h6, hc, decide_false, grpLast (by omega : m ≤ 127), hl30]
        intro g3 b3 hb3
        refine ⟨fun y h => h.symm, by omega, by omega, fun g4 b4 n4 hn4 hb4 hb5 => ?_⟩
        have hfin := hf.cat (z := fun _ => .lit (.int .u8 0)) (v := (m : Int)) fun _ => trivial
        rw [← groups_last (k := k) (by omega : m ≤ 127), hys] at hfin
        exact oend_tmp (by simp -dsimp only [go_sem, Nat.reduceLT, Nat.reduceEqDiff, Nat.reduceAdd, Nat.reduceMul, Nat.reduceBEq, beq_self_eq_true, Nat.reduceLeDiff, Nat.le_refl, Int.reduceEq, reduceCtorEq]; rfl) (by simp -dsimp only [go_sem, Nat.reduceLT, Nat.reduceEqDiff, Nat.reduceAdd, Nat.reduceMul, Nat.reduceBEq, beq_self_eq_true, Nat.reduceLeDiff, Nat.le_refl, Int.reduceEq, reduceCtorEq]; rfl) hfin.1 ⟨hlast.symm, hfin⟩
theorem cloneBytes_p (d : D) (xs : List Int) (h : IsL 1 IsByte d xs) (hs : xs.length ≤ 1048576) : PCall Try.prog 149 [d] fun n0 n1 r => IsL 1 IsByte r xs ∧ Own n0 n1 r := by
  have hp : ∀ d x, IsByte d x → d.tl = [] ∧ d.whole := fun d x h => ⟨h.tl, h.wh⟩
  rcases h with ⟨rfl, rfl⟩ | ⟨t, zb, f, rfl, hst, hsh, hf⟩
  · refine pcall_intro Try.func149 rfl (by decide) rfl (by decide) (by rw [Try.ntmps149]; simp) fun w0 M n0 hW => ivc_sound ?_; simp -dsimp only [Try.f149, go_sem, Nat.reduceLT, Nat.reduceEqDiff, Nat.reduceAdd, Nat.reduceMul, Nat.reduceBEq, beq_self_eq_true, Nat.reduceLeDiff, Nat.le_refl, Int.reduceEq, reduceCtorEq]
    intro b
    refine ⟨fun _ n1 hn1 hfc => fin_nil, fun _ g b hb g1 b1 n' hn' hb1' hb2 n1 hn1 hfc => ?_⟩
    have hb3 : n0 ≤ b1 := by rcases hb2 with h | h <;> omega
    exact fin_zero (fun _ => trivial) rfl hb3 (by omega)
  · refine pcall_intro Try.func149 rfl (by decide) rfl (by decide) (by rw [Try.ntmps149]; simp) fun w0 M n0 hW => ivc_sound ?_; simp -dsimp only [Try.f149, go_sem, Nat.reduceLT, Nat.reduceEqDiff, Nat.reduceAdd, Nat.reduceMul, Nat.reduceBEq, beq_self_eq_true, Nat.reduceLeDiff, Nat.le_refl, Int.reduceEq, reduceCtorEq]
    intro b hb
    refine ⟨fun h => absurd (hb.trans h) (by simp), fun _ g b hb1 => ⟨fun y h => h.symm, by omega, by omega, fun g1 b1 n' hn' hb1' hb2 n1 hn1 hfc => ?_⟩⟩
    rw [rls_still hst]
    have hb3 : n0 ≤ b1 := by rcases hb2 with h | h <;> omega
    exact fin_row hst hsh hf hp hb3 (by omega)
theorem implPutInt_p (d : D) (xs : List Int) (n : Int) (h : IsL 1 IsByte d xs) (hs : xs.length ≤ 1048576) : PCall Try.prog 41 [d, .lit (.int .i64 n)] fun n0 n1 r => IsL 1 IsByte r (Md.putInt xs n) ∧ Own n0 n1 r := by
  have e4 := h.still
  have hpl := putInt_length xs n
  refine pcall_intro Try.func41 rfl (by decide) rfl (by decide) (by rw [Try.ntmps41]; simp) fun w0 M n0 hW => ivc_sound ?_; simp -dsimp only [Try.f41, go_sem, Nat.reduceLT, Nat.reduceEqDiff, Nat.reduceAdd, Nat.reduceMul, Nat.reduceBEq, beq_self_eq_true, Nat.reduceLeDiff, Nat.le_refl, Int.reduceEq, reduceCtorEq]
  refine xcall_t (cloneBytes_p _ _ h hs) (by simp -dsimp only [go_sem, Nat.reduceLT, Nat.reduceEqDiff, Nat.reduceAdd, Nat.reduceMul, Nat.reduceBEq, beq_self_eq_true, Nat.reduceLeDiff, Nat.le_refl, Int.reduceEq, reduceCtorEq, rl_still, e4]) fun m0 p0 r0 hm0 hp0 hr0 => ?_
  have hm0' : n0 ≤ m0 := hm0
  have ho := hr0.2
  have hi := hr0.1
  rcases hi.bytes with ⟨rfl, rfl⟩ | ⟨t, zb, f, rfl, hrow, hl⟩
  · refine ⟨ho.tags, Conv.zero ?_⟩
    simp -dsimp only [go_sem, Nat.reduceLT, Nat.reduceEqDiff, Nat.reduceAdd, Nat.reduceMul, Nat.reduceBEq, beq_self_eq_true, Nat.reduceLeDiff, Nat.le_refl, Int.reduceEq, reduceCtorEq]
    refine xcall_o0 (putInt_n n) rfl (by simp -dsimp only [go_sem, Nat.reduceLT, Nat.reduceEqDiff, Nat.reduceAdd, Nat.reduceMul, Nat.reduceBEq, beq_self_eq_true, Nat.reduceLeDiff, Nat.le_refl, Int.reduceEq, reduceCtorEq]) ⟨trivial, trivial, trivial⟩ fun n1 q f' G b' hn1 hst hA hb1 hb2 => ?_
    simp -dsimp only [go_sem, Nat.reduceLT, Nat.reduceEqDiff, Nat.reduceAdd, Nat.reduceMul, Nat.reduceBEq, beq_self_eq_true, Nat.reduceLeDiff, Nat.le_refl, Int.reduceEq, reduceCtorEq]
    intro n2 hn2 hfc
    rw [rls_still hst, hA.1]
    exact hA.2.own (by omega) (by omega) (by omega)
  · obtain rfl : zb = true := ho.wh.1
    have ht := ho.rg t (by simp [D.tl])
    refine ⟨ho.tags, conv_sl (l := 1000) (R' := fun _ => none) [1] (hW t (by omega)) rfl (own_free ho) (fun j hj => ?_) (fun l' g b x hx => by cases hx) fun g => ?_⟩
    · obtain rfl : j = 1 := by simpa using hj
      exact (show (D.lit (.int .i64 n)).free t from trivial)
    simp -dsimp only [go_sem, Nat.reduceLT, Nat.reduceEqDiff, Nat.reduceAdd, Nat.reduceMul, Nat.reduceBEq, beq_self_eq_true, Nat.reduceLeDiff, Nat.le_refl, Int.reduceEq, reduceCtorEq]
    refine xcall_o1 (l := 1000) (g := g) (putInt_r xs n f hrow (by omega)) (by simp -dsimp only [go_sem, Nat.reduceLT, Nat.reduceEqDiff, Nat.reduceAdd, Nat.reduceMul, Nat.reduceBEq, beq_self_eq_true, Nat.reduceLeDiff, Nat.le_refl, Int.reduceEq, reduceCtorEq]) rfl hrow.1 ⟨trivial, trivial⟩ fun n1 q f' G b' hn1 hst hA hb1 hb2 => ?_
    simp -dsimp only [go_sem, Nat.reduceLT, Nat.reduceEqDiff, Nat.reduceAdd, Nat.reduceMul, Nat.reduceBEq, beq_self_eq_true, Nat.reduceLeDiff, Nat.le_refl, Int.reduceEq, reduceCtorEq]
    intro n2 hn2 hfc
    rw [rls_still hst, hA.1]
    exact hA.2.own (by omega) (by rcases hb2 with h | h <;> omega) (by omega)
end Go.Proofs.Ytpepddckmddbiaa.IM
end

section
/- Contracts: texts are put behind bytes. -/
namespace Go.Proofs.Ytpepddckmddbiaa.IM
open Go Go.Proofs
set_option linter.unusedVariables false
set_option linter.unusedSimpArgs false
set_option maxHeartbeats 2000000
set_option maxRecDepth 20000

/-- the bytes of a text -/
def strBytes (s : ByteArray) : List Int := (List.range s.size).map fun i => byteAt s i
theorem strBytes_length (s : ByteArray) : (strBytes s).length = s.size := by simp [strBytes]
theorem strRow (s : ByteArray) : ByteRow (fun i => .lit (.int .u8 (byteAt s i))) (strBytes s) := ⟨fun _ => trivial, fun i hi => by simp [IsByte, strBytes]⟩
theorem putInt_pos (b : List Int) (n : Int) : 0 < (Md.putInt b n).length := by
  rw [putInt_eq, List.length_append]
  have : 0 < (Md.groupsOf 9 (zg n)).length := by unfold Md.groupsOf; split <;> simp
  omega
theorem specPutText_p (d : D) (xs : List Int) (tx : ByteArray) (h : IsL 1 IsByte d xs) (hs : xs.length ≤ 1099511627776) (hs2 : tx.size ≤ 1099511627776) : PCall Try.prog 45 [d, .lit (.string tx)] fun n0 n1 r => IsL 1 IsByte r (Md.putInt xs tx.size ++ strBytes tx) ∧ Own n0 n1 r := by
  have e4 := h.still
  refine pcall_intro Try.func45 rfl (by decide) rfl (by decide) (by rw [Try.ntmps45]; simp) fun w0 M n0 hW => ivc_sound ?_; simp -dsimp only [Try.f45, go_sem, Nat.reduceLT, Nat.reduceEqDiff, Nat.reduceAdd, Nat.reduceMul, Nat.reduceBEq, beq_self_eq_true, Nat.reduceLeDiff, Nat.le_refl, Int.reduceEq, reduceCtorEq]
  refine xcall_t (specPutInt_p _ _ (tx.size : Int) h hs) (by simp -dsimp only [go_sem, Nat.reduceLT, Nat.reduceEqDiff, Nat.reduceAdd, Nat.reduceMul, Nat.reduceBEq, beq_self_eq_true, Nat.reduceLeDiff, Nat.le_refl, Int.reduceEq, reduceCtorEq, rl_still, e4]) fun m0 p0 r hm0 hp0 hr => ?_
  have hm0' : n0 ≤ m0 := hm0
  have hri := hr.1
  have hro := hr.2
  have hpl := putInt_length xs tx.size
  rcases hri.bytes with ⟨rfl, he⟩ | ⟨t, zb, f, rfl, hrow, hl⟩
  · have := putInt_pos xs tx.size
    rw [he] at this; simp at this
  obtain rfl : zb = true := hro.wh.1
  have ht := hro.rg t (by simp [D.tl])
  refine ⟨hro.tags, conv_sl (l := 1000) (R' := fun _ => none) [1] (hW t (by omega)) rfl (own_free hro) (fun j hj => ?_) (fun l' g b x hx => by cases hx) fun g => ?_⟩
  · obtain rfl : j = 1 := by simpa using hj
    exact (show (D.lit (.string tx)).free t from trivial)
  simp -dsimp only [go_sem, Nat.reduceLT, Nat.reduceEqDiff, Nat.reduceAdd, Nat.reduceMul, Nat.reduceBEq, beq_self_eq_true, Nat.reduceLeDiff, Nat.le_refl, Int.reduceEq, reduceCtorEq]
  refine ⟨fun y h => h.symm, by omega, by omega, fun g1 b1 n2 hn2 hb1 hb2 n1 hn1 hfc => ?_⟩
  have hrow2 := hrow.append (strRow tx)
  have hlen : (Md.putInt xs tx.size ++ strBytes tx).length = (Md.putInt xs tx.size).length + tx.size := by rw [List.length_append, strBytes_length]
  rw [rls_still hrow2.1, ← hlen]
  exact hrow2.own (by omega) (by rcases hb2 with h | h <;> omega) (by omega)
theorem putText_p (d : D) (xs : List Int) (tx : ByteArray) (h : IsL 1 IsByte d xs) (hs : xs.length ≤ 1048576) (hs2 : tx.size ≤ 1099511627776) : PCall Try.prog 46 [d, .lit (.string tx)] fun n0 n1 r => IsL 1 IsByte r (Md.putInt xs tx.size ++ strBytes tx) ∧ Own n0 n1 r := by
  have e4 := h.still
  refine pcall_intro Try.func46 rfl (by decide) rfl (by decide) (by rw [Try.ntmps46]; simp) fun w0 M n0 hW => ivc_sound ?_; simp -dsimp only [Try.f46, go_sem, Nat.reduceLT, Nat.reduceEqDiff, Nat.reduceAdd, Nat.reduceMul, Nat.reduceBEq, beq_self_eq_true, Nat.reduceLeDiff, Nat.le_refl, Int.reduceEq, reduceCtorEq]
  refine xcall_t (implPutInt_p _ _ (tx.size : Int) h hs) (by simp -dsimp only [go_sem, Nat.reduceLT, Nat.reduceEqDiff, Nat.reduceAdd, Nat.reduceMul, Nat.reduceBEq, beq_self_eq_true, Nat.reduceLeDiff, Nat.le_refl, Int.reduceEq, reduceCtorEq, rl_still, e4]) fun m0 p0 r hm0 hp0 hr => ?_
  have hm0' : n0 ≤ m0 := hm0
  have hri := hr.1
  have hro := hr.2
  have hpl := putInt_length xs tx.size
  rcases hri.bytes with ⟨rfl, he⟩ | ⟨t, zb, f, rfl, hrow, hl⟩
  · have := putInt_pos xs tx.size
    rw [he] at this; simp at this
  obtain rfl : zb = true := hro.wh.1
  have ht := hro.rg t (by simp [D.tl])
  refine ⟨hro.tags, conv_sl (l := 1000) (R' := fun _ => none) [1] (hW t (by omega)) rfl (own_free hro) (fun j hj => ?_) (fun l' g b x hx => by cases hx) fun g => ?_⟩
  · obtain rfl : j = 1 := by simpa using hj
    exact (show (D.lit (.string tx)).free t from trivial)
  simp -dsimp only [go_sem, Nat.reduceLT, Nat.reduceEqDiff, Nat.reduceAdd, Nat.reduceMul, Nat.reduceBEq, beq_self_eq_true, Nat.reduceLeDiff, Nat.le_refl, Int.reduceEq, reduceCtorEq]
  refine ⟨fun y h => h.symm, by omega, by omega, fun g1 b1 n2 hn2 hb1 hb2 n1 hn1 hfc => ?_⟩
  have hrow2 := hrow.append (strRow tx)
  have hlen : (Md.putInt xs tx.size ++ strBytes tx).length = (Md.putInt xs tx.size).length + tx.size := by rw [List.length_append, strBytes_length]
  rw [rls_still hrow2.1, ← hlen]
  exact hrow2.own (by omega) (by rcases hb2 with h | h <;> omega) (by omega)
end Go.Proofs.Ytpepddckmddbiaa.IM
end

section
/- Contracts: objects are put into bytes. -/
namespace Go.Proofs.Ytpepddckmddbiaa.IM
open Go Go.Proofs
set_option linter.unusedVariables false
set_option linter.unusedSimpArgs false
set_option maxHeartbeats 2000000
set_option maxRecDepth 20000

theorem foldl_putInt_length : ∀ (l : List Int) (b : List Int), (l.foldl Md.putInt b).length ≤ b.length + 10 * l.length
  | [], b => by simp
  | x :: l, b => by
    have h1 := foldl_putInt_length l (Md.putInt b x)
    have h2 := putInt_length b x
    simp only [List.foldl_cons, List.length_cons]; omega
theorem foldl_take {l : List Int} {b : List Int} {i : Nat} (h : i < l.length) : (l.take (i + 1)).foldl Md.putInt b = Md.putInt ((l.take i).foldl Md.putInt b) l[i] := by
  rw [List.take_succ_eq_append_getElem h, List.foldl_append]; rfl
theorem putInts_length (b l : List Int) : (Md.putInts b l).length ≤ b.length + 10 + 10 * l.length := by
  have h1 := foldl_putInt_length l (Md.putInt b l.length)
  have h2 := putInt_length b l.length
  unfold Md.putInts; omega
theorem putInts_all {l : List Int} {b : List Int} {i : Nat} (h : ¬ i < l.length) : (l.take i).foldl Md.putInt (Md.putInt b l.length) = Md.putInts b l := by
  rw [List.take_of_length_le (by omega)]; rfl

theorem l2PutList_p (d dl : D) (xs l : List Int) (h : IsL 1 IsByte d xs) (hL : IsL 1 IsInt dl l) (hs : xs.length ≤ 549755813888) (hs2 : l.length ≤ 1048576) : PCall Try.prog 175 [d, dl] fun n0 n1 r => IsL 1 IsByte r (Md.putInts xs l) ∧ Own n0 n1 r := by
  have e4 := h.still
  have l4 := hL.still
  refine pcall_intro Try.func175 rfl (by decide) rfl (by decide) (by rw [Try.ntmps175]; simp) fun w0 M n0 hW => ivc_sound ?_; simp -dsimp only [Try.f175, go_sem, Nat.reduceLT, Nat.reduceEqDiff, Nat.reduceAdd, Nat.reduceMul, Nat.reduceBEq, beq_self_eq_true, Nat.reduceLeDiff, Nat.le_refl, Int.reduceEq, reduceCtorEq, hL.lenT]
  refine xcall_p (specPutInt_p _ _ (l.length : Int) h (by omega)) (by simp -dsimp only [go_sem, Nat.reduceLT, Nat.reduceEqDiff, Nat.reduceAdd, Nat.reduceMul, Nat.reduceBEq, beq_self_eq_true, Nat.reduceLeDiff, Nat.le_refl, Int.reduceEq, reduceCtorEq, rl_still, e4]) fun m0 p0 r0 hm0 hp0 hr0 => ?_
  have hm0' : n0 ≤ m0 := hm0
  have hp1 := putInt_length xs l.length
  refine ⟨hr0.2.tags, ?_⟩
  simp -dsimp only [go_sem, Nat.reduceLT, Nat.reduceEqDiff, Nat.reduceAdd, Nat.reduceMul, Nat.reduceBEq, beq_self_eq_true, Nat.reduceLeDiff, Nat.le_refl, Int.reduceEq, reduceCtorEq]
  refine iwp_forR l.length [1, 4] (fun i n' s R => s 5 = .lit (.int .i64 i) ∧ R = (fun _ => none) ∧ IsL 1 IsByte (s 0) ((l.take i).foldl Md.putInt (Md.putInt xs l.length)) ∧ Own n0 n' (s 0)) 0 (Nat.zero_le _)
    ⟨by simp -dsimp only [go_sem, Nat.reduceLT, Nat.reduceEqDiff, Nat.reduceAdd, Nat.reduceMul, Nat.reduceBEq, beq_self_eq_true, Nat.reduceLeDiff, Nat.le_refl, Int.reduceEq, reduceCtorEq]; rfl, rfl, by simp -dsimp only [go_sem, Nat.reduceLT, Nat.reduceEqDiff, Nat.reduceAdd, Nat.reduceMul, Nat.reduceBEq, beq_self_eq_true, Nat.reduceLeDiff, Nat.le_refl, Int.reduceEq, reduceCtorEq]; exact hr0.1, by simp -dsimp only [go_sem, Nat.reduceLT, Nat.reduceEqDiff, Nat.reduceAdd, Nat.reduceMul, Nat.reduceBEq, beq_self_eq_true, Nat.reduceLeDiff, Nat.le_refl, Int.reduceEq, reduceCtorEq]; exact hr0.2.mono (by omega) (by omega)⟩ ?_
  rintro i n' s R hi hn hk ⟨h5, rfl, hB, hO⟩
  obtain ⟨hd, h0⟩ : ∃ hd, s 0 = hd := ⟨_, rfl⟩
  rw [h0] at hB hO
  refine ivc_sound ?_
  simp -dsimp only [go_sem, Nat.reduceLT, Nat.reduceEqDiff, Nat.reduceAdd, Nat.reduceMul, Nat.reduceBEq, beq_self_eq_true, Nat.reduceLeDiff, Nat.le_refl, Int.reduceEq, reduceCtorEq] at hk
  by_cases hlt : i < l.length
  · obtain ⟨t, zb, fi, rfl, hst, hf⟩ := hL.sl hlt
    have hfi : fi i = _ := hf i hlt
    have hw := i64_succ (i := i) (by have := hL.short; omega)
    have b4 := hB.still
    have hl2 := foldl_putInt_length (l.take i) (Md.putInt xs l.length)
    have hl3 : (l.take i).length ≤ l.length := by rw [List.length_take]; omega
    simp -dsimp only [go_sem, Nat.reduceLT, Nat.reduceEqDiff, Nat.reduceAdd, Nat.reduceMul, Nat.reduceBEq, beq_self_eq_true, Nat.reduceLeDiff, Nat.le_refl, Int.reduceEq, reduceCtorEq, hk, h5, h0, hlt, hfi, hw]
    refine xcall_p (specPutInt_p _ _ l[i] hB (by omega)) (by simp -dsimp only [go_sem, Nat.reduceLT, Nat.reduceEqDiff, Nat.reduceAdd, Nat.reduceMul, Nat.reduceBEq, beq_self_eq_true, Nat.reduceLeDiff, Nat.le_refl, Int.reduceEq, reduceCtorEq, rl_still, b4]) fun m1 p1 r1 hm1 hp1 hr1 => ?_
    refine ⟨hr1.2.tags, ?_⟩
    simp -dsimp only [go_sem, Nat.reduceLT, Nat.reduceEqDiff, Nat.reduceAdd, Nat.reduceMul, Nat.reduceBEq, beq_self_eq_true, Nat.reduceLeDiff, Nat.le_refl, Int.reduceEq, reduceCtorEq, hk, h5, hlt, hw]
    refine into_r (by omega) (by simp -dsimp only [go_sem, Nat.reduceLT, Nat.reduceEqDiff, Nat.reduceAdd, Nat.reduceMul, Nat.reduceBEq, beq_self_eq_true, Nat.reduceLeDiff, Nat.le_refl, Int.reduceEq, reduceCtorEq, hk]) ⟨by simp -dsimp only [go_sem, Nat.reduceLT, Nat.reduceEqDiff, Nat.reduceAdd, Nat.reduceMul, Nat.reduceBEq, beq_self_eq_true, Nat.reduceLeDiff, Nat.le_refl, Int.reduceEq, reduceCtorEq], rfl, ?_, by simp -dsimp only [go_sem, Nat.reduceLT, Nat.reduceEqDiff, Nat.reduceAdd, Nat.reduceMul, Nat.reduceBEq, beq_self_eq_true, Nat.reduceLeDiff, Nat.le_refl, Int.reduceEq, reduceCtorEq]; exact hr1.2.mono (by omega) (by omega)⟩
    simp -dsimp only [go_sem, Nat.reduceLT, Nat.reduceEqDiff, Nat.reduceAdd, Nat.reduceMul, Nat.reduceBEq, beq_self_eq_true, Nat.reduceLeDiff, Nat.le_refl, Int.reduceEq, reduceCtorEq]
    rw [foldl_take hlt]; exact hr1.1
  · simp -dsimp only [go_sem, Nat.reduceLT, Nat.reduceEqDiff, Nat.reduceAdd, Nat.reduceMul, Nat.reduceBEq, beq_self_eq_true, Nat.reduceLeDiff, Nat.le_refl, Int.reduceEq, reduceCtorEq, hk, h5, h0, hlt, hL.lenT]
    intro n1 hn1 hfc
    have b4 := hB.still
    rw [putInts_all hlt] at hB
    rw [rl_still b4]
    exact ⟨hB, hO.mono (by omega) (by omega)⟩
theorem putInts_n (dl : D) (l : List Int) (hL : IsL 1 IsInt dl l) (hs2 : l.length ≤ 1048576) : ICall Try.prog 176 [.nil, dl] [] (RowOut 1 (Bytes (Md.putInts [] l))) := by
  have l4 := hL.still
  have hpl := putInt_length [] l.length
  rw [List.length_nil] at hpl
  refine iput_nil Try.func176 rfl (by decide) rfl (by decide) (by rw [Try.ntmps176]; simp) fun w0 M n0 hW hT => ivc_sound ?_; simp -dsimp only [Try.f176, go_sem, Nat.reduceLT, Nat.reduceEqDiff, Nat.reduceAdd, Nat.reduceMul, Nat.reduceBEq, beq_self_eq_true, Nat.reduceLeDiff, Nat.le_refl, Int.reduceEq, reduceCtorEq, hL.lenT]
  refine xcall_o0 (putInt_n l.length) rfl (by simp -dsimp only [go_sem, Nat.reduceLT, Nat.reduceEqDiff, Nat.reduceAdd, Nat.reduceMul, Nat.reduceBEq, beq_self_eq_true, Nat.reduceLeDiff, Nat.le_refl, Int.reduceEq, reduceCtorEq]) ⟨trivial, trivial, trivial⟩ fun n1 q f' G b' hn1 hst hA hb1 hb2 => ?_
  obtain ⟨rfl, hA⟩ := hA
  simp -dsimp only [go_sem, Nat.reduceLT, Nat.reduceEqDiff, Nat.reduceAdd, Nat.reduceMul, Nat.reduceBEq, beq_self_eq_true, Nat.reduceLeDiff, Nat.le_refl, Int.reduceEq, reduceCtorEq, hL.lenT]
  refine iwp_forR l.length [4, 11, 12] (fun i n' s R => s 13 = .lit (.int .i64 i) ∧ ∃ lb g b f, s 0 = .msl lb g 0 [] 0 ((l.take i).foldl Md.putInt (Md.putInt [] l.length)).length 1 ∧
      R = upd (fun _ => none) lb (some (g, b, .node (.arr ((l.take i).foldl Md.putInt (Md.putInt [] l.length)).length 1) f)) ∧ ByteRow f ((l.take i).foldl Md.putInt (Md.putInt [] l.length))) 0 (Nat.zero_le _)
    ⟨by simp -dsimp only [go_sem, Nat.reduceLT, Nat.reduceEqDiff, Nat.reduceAdd, Nat.reduceMul, Nat.reduceBEq, beq_self_eq_true, Nat.reduceLeDiff, Nat.le_refl, Int.reduceEq, reduceCtorEq]; rfl, 2500, G, b', f', by simp -dsimp only [go_sem, Nat.reduceLT, Nat.reduceEqDiff, Nat.reduceAdd, Nat.reduceMul, Nat.reduceBEq, beq_self_eq_true, Nat.reduceLeDiff, Nat.le_refl, Int.reduceEq, reduceCtorEq]; rfl, rfl, hA⟩ ?_
  rintro i n' s R hi hn hk ⟨h13, lb, g, b, f, h0, rfl, hB⟩
  refine ivc_sound ?_
  simp -dsimp only [go_sem, Nat.reduceLT, Nat.reduceEqDiff, Nat.reduceAdd, Nat.reduceMul, Nat.reduceBEq, beq_self_eq_true, Nat.reduceLeDiff, Nat.le_refl, Int.reduceEq, reduceCtorEq] at hk
  by_cases hlt : i < l.length
  · obtain ⟨t, zb, fi, rfl, hst, hf⟩ := hL.sl hlt
    have hfi : fi i = _ := hf i hlt
    have hw := i64_succ (i := i) (by have := hL.short; omega)
    have hl2 := foldl_putInt_length (l.take i) (Md.putInt [] l.length)
    have hl3 : (l.take i).length ≤ l.length := by rw [List.length_take]; omega
    simp -dsimp only [go_sem, Nat.reduceLT, Nat.reduceEqDiff, Nat.reduceAdd, Nat.reduceMul, Nat.reduceBEq, beq_self_eq_true, Nat.reduceLeDiff, Nat.le_refl, Int.reduceEq, reduceCtorEq, hk, h13, h0, hlt, hfi, hw]
    refine xcall_o1 (l := lb) (g := g) (putInt_r _ l[i] f hB (by omega)) (by simp -dsimp only [go_sem, Nat.reduceLT, Nat.reduceEqDiff, Nat.reduceAdd, Nat.reduceMul, Nat.reduceBEq, beq_self_eq_true, Nat.reduceLeDiff, Nat.le_refl, Int.reduceEq, reduceCtorEq]) (upd_same _ _ _) hB.1 ⟨trivial, trivial⟩ fun n2 q f2 G2 b2 hn2 hst2 hA2 hb3 hb4 => ?_
    obtain ⟨rfl, hA2⟩ := hA2
    simp -dsimp only [go_sem, Nat.reduceLT, Nat.reduceEqDiff, Nat.reduceAdd, Nat.reduceMul, Nat.reduceBEq, beq_self_eq_true, Nat.reduceLeDiff, Nat.le_refl, Int.reduceEq, reduceCtorEq, hk, h13, hlt, hw]
    rw [← foldl_take hlt] at hA2 ⊢
    exact into_r (by omega) (by simp -dsimp only [go_sem, Nat.reduceLT, Nat.reduceEqDiff, Nat.reduceAdd, Nat.reduceMul, Nat.reduceBEq, beq_self_eq_true, Nat.reduceLeDiff, Nat.le_refl, Int.reduceEq, reduceCtorEq, hk]) ⟨by simp -dsimp only [go_sem, Nat.reduceLT, Nat.reduceEqDiff, Nat.reduceAdd, Nat.reduceMul, Nat.reduceBEq, beq_self_eq_true, Nat.reduceLeDiff, Nat.le_refl, Int.reduceEq, reduceCtorEq], lb, G2, b2, f2, by simp -dsimp only [go_sem, Nat.reduceLT, Nat.reduceEqDiff, Nat.reduceAdd, Nat.reduceMul, Nat.reduceBEq, beq_self_eq_true, Nat.reduceLeDiff, Nat.le_refl, Int.reduceEq, reduceCtorEq], rfl, hA2⟩
  · simp -dsimp only [go_sem, Nat.reduceLT, Nat.reduceEqDiff, Nat.reduceAdd, Nat.reduceMul, Nat.reduceBEq, beq_self_eq_true, Nat.reduceLeDiff, Nat.le_refl, Int.reduceEq, reduceCtorEq, hk, h13, h0, hlt, hL.lenT]
    rw [putInts_all hlt] at *
    exact oend_tmp (by simp -dsimp only [go_sem, Nat.reduceLT, Nat.reduceEqDiff, Nat.reduceAdd, Nat.reduceMul, Nat.reduceBEq, beq_self_eq_true, Nat.reduceLeDiff, Nat.le_refl, Int.reduceEq, reduceCtorEq] <;> rfl) (upd_same _ _ _) hB.1 ⟨rfl, hB⟩
theorem putInts_r (dl : D) (xs l : List Int) (f0 : Nat → D) (hrow : ByteRow f0 xs) (hL : IsL 1 IsInt dl l) (hs : xs.length ≤ 549755813888) (hs2 : l.length ≤ 1048576) : ICall Try.prog 176 [.msl 1000 0 0 [] 0 xs.length 1, dl] [.node (.arr xs.length 1) f0] (RowOut 1 (Bytes (Md.putInts xs l))) := by
  have l4 := hL.still
  have hpl := putInt_length xs l.length
  refine iput_root Try.func176 rfl (by decide) rfl (by decide) (by rw [Try.ntmps176]; simp) fun w0 M n0 gb hW hT => ivc_sound ?_; simp -dsimp only [Try.f176, go_sem, Nat.reduceLT, Nat.reduceEqDiff, Nat.reduceAdd, Nat.reduceMul, Nat.reduceBEq, beq_self_eq_true, Nat.reduceLeDiff, Nat.le_refl, Int.reduceEq, reduceCtorEq, hL.lenT]
  refine xcall_o1 (l := 1000) (g := 0) (putInt_r xs l.length f0 hrow (by omega)) (by simp -dsimp only [go_sem, Nat.reduceLT, Nat.reduceEqDiff, Nat.reduceAdd, Nat.reduceMul, Nat.reduceBEq, beq_self_eq_true, Nat.reduceLeDiff, Nat.le_refl, Int.reduceEq, reduceCtorEq]) rfl hrow.1 ⟨trivial, trivial⟩ fun n1 q f' G b' hn1 hst hA hb1 hb2 => ?_
  obtain ⟨rfl, hA⟩ := hA
  simp -dsimp only [go_sem, Nat.reduceLT, Nat.reduceEqDiff, Nat.reduceAdd, Nat.reduceMul, Nat.reduceBEq, beq_self_eq_true, Nat.reduceLeDiff, Nat.le_refl, Int.reduceEq, reduceCtorEq, hL.lenT]
  refine iwp_forR l.length [4, 11, 12] (fun i n' s R => s 13 = .lit (.int .i64 i) ∧ ∃ lb g b f, s 0 = .msl lb g 0 [] 0 ((l.take i).foldl Md.putInt (Md.putInt xs l.length)).length 1 ∧
      R = upd (fun _ => none) lb (some (g, b, .node (.arr ((l.take i).foldl Md.putInt (Md.putInt xs l.length)).length 1) f)) ∧ ByteRow f ((l.take i).foldl Md.putInt (Md.putInt xs l.length))) 0 (Nat.zero_le _)
    ⟨by simp -dsimp only [go_sem, Nat.reduceLT, Nat.reduceEqDiff, Nat.reduceAdd, Nat.reduceMul, Nat.reduceBEq, beq_self_eq_true, Nat.reduceLeDiff, Nat.le_refl, Int.reduceEq, reduceCtorEq]; rfl, 1000, G, b', f', by simp -dsimp only [go_sem, Nat.reduceLT, Nat.reduceEqDiff, Nat.reduceAdd, Nat.reduceMul, Nat.reduceBEq, beq_self_eq_true, Nat.reduceLeDiff, Nat.le_refl, Int.reduceEq, reduceCtorEq]; rfl, rfl, hA⟩ ?_
  rintro i n' s R hi hn hk ⟨h13, lb, g, b, f, h0, rfl, hB⟩
  refine ivc_sound ?_
  simp -dsimp only [go_sem, Nat.reduceLT, Nat.reduceEqDiff, Nat.reduceAdd, Nat.reduceMul, Nat.reduceBEq, beq_self_eq_true, Nat.reduceLeDiff, Nat.le_refl, Int.reduceEq, reduceCtorEq] at hk
  by_cases hlt : i < l.length
  · obtain ⟨t, zb, fi, rfl, hst, hf⟩ := hL.sl hlt
    have hfi : fi i = _ := hf i hlt
    have hw := i64_succ (i := i) (by have := hL.short; omega)
    have hl2 := foldl_putInt_length (l.take i) (Md.putInt xs l.length)
    have hl3 : (l.take i).length ≤ l.length := by rw [List.length_take]; omega
    simp -dsimp only [go_sem, Nat.reduceLT, Nat.reduceEqDiff, Nat.reduceAdd, Nat.reduceMul, Nat.reduceBEq, beq_self_eq_true, Nat.reduceLeDiff, Nat.le_refl, Int.reduceEq, reduceCtorEq, hk, h13, h0, hlt, hfi, hw]
    refine xcall_o1 (l := lb) (g := g) (putInt_r _ l[i] f hB (by omega)) (by simp -dsimp only [go_sem, Nat.reduceLT, Nat.reduceEqDiff, Nat.reduceAdd, Nat.reduceMul, Nat.reduceBEq, beq_self_eq_true, Nat.reduceLeDiff, Nat.le_refl, Int.reduceEq, reduceCtorEq]) (upd_same _ _ _) hB.1 ⟨trivial, trivial⟩ fun n2 q f2 G2 b2 hn2 hst2 hA2 hb3 hb4 => ?_
    obtain ⟨rfl, hA2⟩ := hA2
    simp -dsimp only [go_sem, Nat.reduceLT, Nat.reduceEqDiff, Nat.reduceAdd, Nat.reduceMul, Nat.reduceBEq, beq_self_eq_true, Nat.reduceLeDiff, Nat.le_refl, Int.reduceEq, reduceCtorEq, hk, h13, hlt, hw]
    rw [← foldl_take hlt] at hA2 ⊢
    exact into_r (by omega) (by simp -dsimp only [go_sem, Nat.reduceLT, Nat.reduceEqDiff, Nat.reduceAdd, Nat.reduceMul, Nat.reduceBEq, beq_self_eq_true, Nat.reduceLeDiff, Nat.le_refl, Int.reduceEq, reduceCtorEq, hk]) ⟨by simp -dsimp only [go_sem, Nat.reduceLT, Nat.reduceEqDiff, Nat.reduceAdd, Nat.reduceMul, Nat.reduceBEq, beq_self_eq_true, Nat.reduceLeDiff, Nat.le_refl, Int.reduceEq, reduceCtorEq], lb, G2, b2, f2, by simp -dsimp only [go_sem, Nat.reduceLT, Nat.reduceEqDiff, Nat.reduceAdd, Nat.reduceMul, Nat.reduceBEq, beq_self_eq_true, Nat.reduceLeDiff, Nat.le_refl, Int.reduceEq, reduceCtorEq], rfl, hA2⟩
  · simp -dsimp only [go_sem, Nat.reduceLT, Nat.reduceEqDiff, Nat.reduceAdd, Nat.reduceMul, Nat.reduceBEq, beq_self_eq_true, Nat.reduceLeDiff, Nat.le_refl, Int.reduceEq, reduceCtorEq, hk, h13, h0, hlt, hL.lenT]
    rw [putInts_all hlt] at *
    exact oend_tmp (by simp -dsimp only [go_sem, Nat.reduceLT, Nat.reduceEqDiff, Nat.reduceAdd, Nat.reduceMul, Nat.reduceBEq, beq_self_eq_true, Nat.reduceLeDiff, Nat.le_refl, Int.reduceEq, reduceCtorEq] <;> rfl) (upd_same _ _ _) hB.1 ⟨rfl, hB⟩
theorem putObj_yes {o : Md.Obj} (h : Md.objOk o = true) : Md.putObj o = Md.putInts (Md.putInts (Md.putInt [] o.kind) o.ints) o.refs := by unfold Md.putObj; rw [if_pos h]
theorem putObj_no {o : Md.Obj} (h : Md.objOk o = false) : Md.putObj o = [] := by unfold Md.putObj; rw [if_neg (by simp [h])]
theorem objOk_len {o : Md.Obj} (h : Md.objOk o = true) : o.ints.length ≤ 5 ∧ o.refs.length ≤ 5 := by
  unfold Md.objOk at h
  simp only [Bool.and_eq_true, decide_eq_true_eq] at h
  exact ⟨h.1.1.1.2, h.1.1.2⟩
theorem putObj_length (o : Md.Obj) : (Md.putObj o).length ≤ 1000 := by
  cases h : Md.objOk o with
  | false => rw [putObj_no h]; simp
  | true =>
    rw [putObj_yes h]
    have h1 := putInts_length (Md.putInts (Md.putInt [] o.kind) o.ints) o.refs
    have h2 := putInts_length (Md.putInt [] o.kind) o.ints
    have h3 := putInt_length [] o.kind
    have h4 := objOk_len h
    simp only [List.length_nil] at h3
    omega
theorem implPutObj_p (d : D) (o : Md.Obj) (h : IsObj d o) : PCall Try.prog 67 [d] fun n0 n1 r => IsL 1 IsByte r (Md.putObj o) ∧ Own n0 n1 r := by
  have hd := h
  have q := shp_obj _ _ h
  have q1 := q.1
  have q2 := q.2.1
  have q3 := q.2.2.1
  have q4 := q.2.2.2
  obtain ⟨f, rfl, hst, k0, k1, k2⟩ := h
  have k0 : f 0 = _ := k0
  refine pcall_intro Try.func67 rfl (by decide) rfl (by decide) (by rw [Try.ntmps67]; simp) fun w0 M n0 hW => ivc_sound ?_; simp -dsimp only [Try.f67, go_sem, Nat.reduceLT, Nat.reduceEqDiff, Nat.reduceAdd, Nat.reduceMul, Nat.reduceBEq, beq_self_eq_true, Nat.reduceLeDiff, Nat.le_refl, Int.reduceEq, reduceCtorEq, q1, q2, q3]
  intro g1 b1 hb1
  refine xcall_v (objOk_p _ _ hd) (by simp -dsimp only [go_sem, Nat.reduceLT, Nat.reduceEqDiff, Nat.reduceAdd, Nat.reduceMul, Nat.reduceBEq, beq_self_eq_true, Nat.reduceLeDiff, Nat.le_refl, Int.reduceEq, reduceCtorEq, rl_still, q4]) (fun _ => trivial) fun n2 hn2 => ?_
  simp -dsimp only [go_sem, Nat.reduceLT, Nat.reduceEqDiff, Nat.reduceAdd, Nat.reduceMul, Nat.reduceBEq, beq_self_eq_true, Nat.reduceLeDiff, Nat.le_refl, Int.reduceEq, reduceCtorEq]
  refine ⟨fun hb => ?_, fun hb => ?_⟩
  · intro n1 hn1 hfc
    rw [putObj_no (by simpa using hb)]
    exact fin_nil
  have hok : Md.objOk o = true := by simpa using hb
  have hlen := objOk_len hok
  refine iwp_plan [(0, true), (1, true), (3, true), (4, true), (6, true), (7, true), (2, false), (5, false), (8, false), (9, true)] [1] rfl (by decide +kernel) (by decide) [] (by decide +kernel) ?_
  simp -dsimp only [go_sem, Nat.reduceLT, Nat.reduceEqDiff, Nat.reduceAdd, Nat.reduceMul, Nat.reduceBEq, beq_self_eq_true, Nat.reduceLeDiff, Nat.le_refl, Int.reduceEq, reduceCtorEq, k0, k1.size, k1.isNode, k2.size, k2.isNode]
  have hp0 := putInt_length [] o.kind
  rw [List.length_nil] at hp0
  have hp1 := putInts_length (Md.putInt [] o.kind) o.ints
  refine xcall_o0 (putInt_n o.kind) rfl (by simp -dsimp only [go_sem, Nat.reduceLT, Nat.reduceEqDiff, Nat.reduceAdd, Nat.reduceMul, Nat.reduceBEq, beq_self_eq_true, Nat.reduceLeDiff, Nat.le_refl, Int.reduceEq, reduceCtorEq]) ⟨trivial, trivial, trivial⟩ fun n3 m3 f3 G3 b3 hn3 hst3 hA3 hb3 hb3' => ?_
  obtain ⟨rfl, hA3⟩ := hA3
  simp -dsimp only [go_sem, Nat.reduceLT, Nat.reduceEqDiff, Nat.reduceAdd, Nat.reduceMul, Nat.reduceBEq, beq_self_eq_true, Nat.reduceLeDiff, Nat.le_refl, Int.reduceEq, reduceCtorEq, k0, k1.size, k1.isNode, k2.size, k2.isNode]
  refine xcall_o1 (l := 2400) (g := G3) (putInts_r _ _ o.ints f3 hA3 k1 (by omega) (by omega)) (by simp -dsimp only [go_sem, Nat.reduceLT, Nat.reduceEqDiff, Nat.reduceAdd, Nat.reduceMul, Nat.reduceBEq, beq_self_eq_true, Nat.reduceLeDiff, Nat.le_refl, Int.reduceEq, reduceCtorEq]) (by simp -dsimp only [go_sem, Nat.reduceLT, Nat.reduceEqDiff, Nat.reduceAdd, Nat.reduceMul, Nat.reduceBEq, beq_self_eq_true, Nat.reduceLeDiff, Nat.le_refl, Int.reduceEq, reduceCtorEq] <;> rfl) hst3 ⟨k1.still, trivial⟩ fun n4 m4 f4 G4 b4 hn4 hst4 hA4 hb4 hb4' => ?_
  obtain ⟨rfl, hA4⟩ := hA4
  simp -dsimp only [go_sem, Nat.reduceLT, Nat.reduceEqDiff, Nat.reduceAdd, Nat.reduceMul, Nat.reduceBEq, beq_self_eq_true, Nat.reduceLeDiff, Nat.le_refl, Int.reduceEq, reduceCtorEq, k0, k1.size, k1.isNode, k2.size, k2.isNode]
  refine xcall_o1 (l := 2400) (g := G4) (putInts_r _ _ o.refs f4 hA4 k2 (by omega) (by omega)) (by simp -dsimp only [go_sem, Nat.reduceLT, Nat.reduceEqDiff, Nat.reduceAdd, Nat.reduceMul, Nat.reduceBEq, beq_self_eq_true, Nat.reduceLeDiff, Nat.le_refl, Int.reduceEq, reduceCtorEq]) (by simp -dsimp only [go_sem, Nat.reduceLT, Nat.reduceEqDiff, Nat.reduceAdd, Nat.reduceMul, Nat.reduceBEq, beq_self_eq_true, Nat.reduceLeDiff, Nat.le_refl, Int.reduceEq, reduceCtorEq] <;> rfl) hst4 ⟨k2.still, trivial⟩ fun n5 m5 f5 G5 b5 hn5 hst5 hA5 hb5 hb5' => ?_
  obtain ⟨rfl, hA5⟩ := hA5
  simp -dsimp only [go_sem, Nat.reduceLT, Nat.reduceEqDiff, Nat.reduceAdd, Nat.reduceMul, Nat.reduceBEq, beq_self_eq_true, Nat.reduceLeDiff, Nat.le_refl, Int.reduceEq, reduceCtorEq, k0, k1.size, k1.isNode, k2.size, k2.isNode]
  intro n1 hn1 hfc
  have hp2 := putObj_length o
  rw [rls_still hst5]
  rw [← putObj_yes hok] at *
  exact hA5.own (by omega) (by rcases hb5' with h | h <;> rcases hb4' with h' | h' <;> omega) (by omega)
theorem specPutObj_p (d : D) (o : Md.Obj) (h : IsObj d o) : PCall Try.prog 66 [d] fun n0 n1 r => IsL 1 IsByte r (Md.putObj o) ∧ Own n0 n1 r := by
  have hd := h
  have q := shp_obj _ _ h
  have q1 := q.1
  have q2 := q.2.1
  have q3 := q.2.2.1
  have q4 := q.2.2.2
  obtain ⟨f, rfl, hst, k0, k1, k2⟩ := h
  have k0 : f 0 = _ := k0
  refine pcall_intro Try.func66 rfl (by decide) rfl (by decide) (by rw [Try.ntmps66]; simp) fun w0 M n0 hW => ivc_sound ?_; simp -dsimp only [Try.f66, go_sem, Nat.reduceLT, Nat.reduceEqDiff, Nat.reduceAdd, Nat.reduceMul, Nat.reduceBEq, beq_self_eq_true, Nat.reduceLeDiff, Nat.le_refl, Int.reduceEq, reduceCtorEq, q1, q2, q3]
  intro g1 b1 hb1
  refine xcall_v (l1ObjOk_p _ _ hd) (by simp -dsimp only [go_sem, Nat.reduceLT, Nat.reduceEqDiff, Nat.reduceAdd, Nat.reduceMul, Nat.reduceBEq, beq_self_eq_true, Nat.reduceLeDiff, Nat.le_refl, Int.reduceEq, reduceCtorEq, rl_still, q4]) (fun _ => trivial) fun n2 hn2 => ?_
  simp -dsimp only [go_sem, Nat.reduceLT, Nat.reduceEqDiff, Nat.reduceAdd, Nat.reduceMul, Nat.reduceBEq, beq_self_eq_true, Nat.reduceLeDiff, Nat.le_refl, Int.reduceEq, reduceCtorEq]
  refine ⟨fun hb => ?_, fun hb => ?_⟩
  · intro g b hgb n1 hn1 hfc
    rw [putObj_no (by simpa using hb)]
    exact fin_zero (fun _ => by simp only [stillL_nil, stillL_cons, still_lit, still_nil, still_any, still_nodeN, still_nodeC, and_self]) rfl (by omega) (by omega)
  have hok : Md.objOk o = true := by simpa using hb
  have hlen := objOk_len hok
  refine iwp_plan [(1, true), (2, true), (4, true), (5, true), (7, true), (8, true), (0, false), (3, false), (6, false), (9, false), (10, true)] [1] rfl (by decide +kernel) (by decide) [] (by decide +kernel) ?_
  simp -dsimp only [go_sem, Nat.reduceLT, Nat.reduceEqDiff, Nat.reduceAdd, Nat.reduceMul, Nat.reduceBEq, beq_self_eq_true, Nat.reduceLeDiff, Nat.le_refl, Int.reduceEq, reduceCtorEq, k0, k1.size, k1.isNode, k2.size, k2.isNode]
  intro g b hgb
  have he : IsL 1 IsByte (.sl b true 0 1 fun _ => .lit (.int .u8 0)) [] := .inr ⟨b, true, _, rfl, fun _ => trivial, by simp, fun i hi => absurd hi (by simp)⟩
  have hp0 := putInt_length [] o.kind
  rw [List.length_nil] at hp0
  have hp1 := putInts_length (Md.putInt [] o.kind) o.ints
  refine xcall_p (specPutInt_p _ _ o.kind he (by simp)) (by simp -dsimp only [go_sem, Nat.reduceLT, Nat.reduceEqDiff, Nat.reduceAdd, Nat.reduceMul, Nat.reduceBEq, beq_self_eq_true, Nat.reduceLeDiff, Nat.le_refl, Int.reduceEq, reduceCtorEq, rl_still]) fun m0 p0 r0 hm0 hp0' hr0 => ?_
  have x0 := hr0.1.still
  refine ⟨hr0.2.tags, ?_⟩
  simp -dsimp only [go_sem, Nat.reduceLT, Nat.reduceEqDiff, Nat.reduceAdd, Nat.reduceMul, Nat.reduceBEq, beq_self_eq_true, Nat.reduceLeDiff, Nat.le_refl, Int.reduceEq, reduceCtorEq, k0, k1.size, k1.isNode, k2.size, k2.isNode]
  refine xcall_p (l2PutList_p _ _ _ o.ints hr0.1 k1 (by omega) (by omega)) (by simp -dsimp only [go_sem, Nat.reduceLT, Nat.reduceEqDiff, Nat.reduceAdd, Nat.reduceMul, Nat.reduceBEq, beq_self_eq_true, Nat.reduceLeDiff, Nat.le_refl, Int.reduceEq, reduceCtorEq, rl_still, x0, k1.still]) fun m1 p1 r1 hm1 hp1' hr1 => ?_
  have x1 := hr1.1.still
  refine ⟨hr1.2.tags, ?_⟩
  simp -dsimp only [go_sem, Nat.reduceLT, Nat.reduceEqDiff, Nat.reduceAdd, Nat.reduceMul, Nat.reduceBEq, beq_self_eq_true, Nat.reduceLeDiff, Nat.le_refl, Int.reduceEq, reduceCtorEq, k0, k1.size, k1.isNode, k2.size, k2.isNode]
  refine xcall_p (l2PutList_p _ _ _ o.refs hr1.1 k2 (by omega) (by omega)) (by simp -dsimp only [go_sem, Nat.reduceLT, Nat.reduceEqDiff, Nat.reduceAdd, Nat.reduceMul, Nat.reduceBEq, beq_self_eq_true, Nat.reduceLeDiff, Nat.le_refl, Int.reduceEq, reduceCtorEq, rl_still, x1, k2.still]) fun m2 p2 r2 hm2 hp2' hr2 => ?_
  have x2 := hr2.1.still
  refine ⟨hr2.2.tags, ?_⟩
  simp -dsimp only [go_sem, Nat.reduceLT, Nat.reduceEqDiff, Nat.reduceAdd, Nat.reduceMul, Nat.reduceBEq, beq_self_eq_true, Nat.reduceLeDiff, Nat.le_refl, Int.reduceEq, reduceCtorEq, k0, k1.size, k1.isNode, k2.size, k2.isNode, rl_still, x2]
  intro n1 hn1 hfc
  rw [putObj_yes hok]
  exact ⟨hr2.1, hr2.2.mono (by omega) (by omega)⟩
end Go.Proofs.Ytpepddckmddbiaa.IM
end

section
/- The law of PutInt. Printed by laws_b.py. -/
namespace Go.Proofs.Ytpepddckmddbiaa.IM
open Go Go.Proofs
set_option linter.unusedVariables false
set_option linter.unusedSimpArgs false
set_option maxHeartbeats 2000000
set_option maxRecDepth 20000

theorem heldBytes_p (d : D) (n : Nat) (k : Int) (h : IsL 1 IsByte d (Md.mkBytes k n)) (hk0 : 0 ≤ k) (hk1 : k + (n : Nat) ≤ 4611686018427387904) :
    PCall Try.prog 44 [d, .lit (.int .i64 k)] fun _ _ r => r = .lit (.int .i64 (k + (n : Nat))) := by
  have := heldByteS_p d _ k h (fun i hi => Md.mkBytes_get _ _ _ hi) hk0 (by rw [Md.mkBytes_length]; omega)
  rw [Md.mkBytes_length, Nat.one_mul] at this
  exact this
theorem lawPutInt (d : D) (x : List Int) (n : Int) (h : (IsL 1 IsByte) d x) : PCall Try.prog 4 [d, .lit (.int .i64 n)] fun _ _ r => r = .lit (.bool true) := by
  have hlT := h.lenT
  have e4 := h.still
  refine pcall_intro_vt Try.func4 rfl (by decide) rfl (by decide) (by rw [Try.ntmps4]; simp) fun w0 M n0 hW hT => ivc_sound ?_; simp -dsimp only [Try.f4, go_sem, Nat.reduceLT, Nat.reduceEqDiff, Nat.reduceAdd, Nat.reduceMul, Nat.reduceBEq, beq_self_eq_true, Nat.reduceLeDiff, Nat.le_refl, Int.reduceEq, reduceCtorEq, hlT]
  have dT : d.tags (· < n0) := hT d (by simp) (h.data fun _ _ h => h.data)
  intro hb
  have hs : x.length ≤ 1048576 := by omega
  refine xcall_p (toByteS_p _ _ h hs) (by simp -dsimp only [go_sem, Nat.reduceLT, Nat.reduceEqDiff, Nat.reduceAdd, Nat.reduceMul, Nat.reduceBEq, beq_self_eq_true, Nat.reduceLeDiff, Nat.le_refl, Int.reduceEq, reduceCtorEq, rl_still, e4]) fun rlo rhi r hrlo hrhi hr => ?_
  have ro := hr.2
  have ri := hr.1
  have rp1 := ri.size
  have rp2 := ri.isNode
  have rp3 := ri.plain
  have rp4 := ri.still
  refine ⟨ro.tags, ?_⟩
  simp -dsimp only [go_sem, Nat.reduceLT, Nat.reduceEqDiff, Nat.reduceAdd, Nat.reduceMul, Nat.reduceBEq, beq_self_eq_true, Nat.reduceLeDiff, Nat.le_refl, Int.reduceEq, reduceCtorEq, hlT, rp1, rp2, rp3]
  refine xcall_p (specPutInt_p _ _ n ri (by omega)) (by simp -dsimp only [go_sem, Nat.reduceLT, Nat.reduceEqDiff, Nat.reduceAdd, Nat.reduceMul, Nat.reduceBEq, beq_self_eq_true, Nat.reduceLeDiff, Nat.le_refl, Int.reduceEq, reduceCtorEq, rl_still, rp4]) fun vlo vhi v hvlo hvhi hvw => ?_
  have hv := hvw
  have vo := hv.2
  have vi := hv.1
  have vp1 := vi.size
  have vp2 := vi.isNode
  have vp3 := vi.plain
  have vp4 := vi.still
  refine ⟨vo.tags, ?_⟩
  simp -dsimp only [go_sem, Nat.reduceLT, Nat.reduceEqDiff, Nat.reduceAdd, Nat.reduceMul, Nat.reduceBEq, beq_self_eq_true, Nat.reduceLeDiff, Nat.le_refl, Int.reduceEq, reduceCtorEq, hlT, rp1, rp2, rp3, vp1, vp2, vp3]
  refine xcall_p (toByteS_p _ _ h hs) (by simp -dsimp only [go_sem, Nat.reduceLT, Nat.reduceEqDiff, Nat.reduceAdd, Nat.reduceMul, Nat.reduceBEq, beq_self_eq_true, Nat.reduceLeDiff, Nat.le_refl, Int.reduceEq, reduceCtorEq, rl_still, e4]) fun xvlo xvhi xv hxvlo hxvhi hxv => ?_
  have xvo := hxv.2
  have xvi := hxv.1
  have xvp1 := xvi.size
  have xvp2 := xvi.isNode
  have xvp3 := xvi.plain
  have xvp4 := xvi.still
  refine ⟨xvo.tags, ?_⟩
  simp -dsimp only [go_sem, Nat.reduceLT, Nat.reduceEqDiff, Nat.reduceAdd, Nat.reduceMul, Nat.reduceBEq, beq_self_eq_true, Nat.reduceLeDiff, Nat.le_refl, Int.reduceEq, reduceCtorEq, hlT, vp1, vp2, vp3, xvp1, xvp2, xvp3]
  refine xcall_p (implPutInt_p _ _ n xvi hs) (by simp -dsimp only [go_sem, Nat.reduceLT, Nat.reduceEqDiff, Nat.reduceAdd, Nat.reduceMul, Nat.reduceBEq, beq_self_eq_true, Nat.reduceLeDiff, Nat.le_refl, Int.reduceEq, reduceCtorEq, rl_still, xvp4]) fun ylo yhi y hylo hyhi hyw => ?_
  have hy := hyw
  have yo := hy.2
  have yi := hy.1
  have yp1 := yi.size
  have yp2 := yi.isNode
  have yp3 := yi.plain
  have yp4 := yi.still
  refine ⟨yo.tags, ?_⟩
  simp -dsimp only [go_sem, Nat.reduceLT, Nat.reduceEqDiff, Nat.reduceAdd, Nat.reduceMul, Nat.reduceBEq, beq_self_eq_true, Nat.reduceLeDiff, Nat.le_refl, Int.reduceEq, reduceCtorEq, hlT, vp1, vp2, vp3, xvp1, xvp2, xvp3, yp1, yp2, yp3]
  refine xcall_v (eqByteS_p _ _ _ yi vi) (by simp -dsimp only [go_sem, Nat.reduceLT, Nat.reduceEqDiff, Nat.reduceAdd, Nat.reduceMul, Nat.reduceBEq, beq_self_eq_true, Nat.reduceLeDiff, Nat.le_refl, Int.reduceEq, reduceCtorEq, rl_still, yp4, vp4]) (fun _ => trivial) fun n4 hn4 => ?_
  simp -dsimp only [go_sem, Nat.reduceLT, Nat.reduceEqDiff, Nat.reduceAdd, Nat.reduceMul, Nat.reduceBEq, beq_self_eq_true, Nat.reduceLeDiff, Nat.le_refl, Int.reduceEq, reduceCtorEq, hlT, vp1, vp2, vp3, xvp1, xvp2, xvp3, yp1, yp2, yp3, bne_self_eq_false, Bool.not_true, Bool.not_false, Bool.false_eq_true, Bool.true_eq_false, false_imp_iff, true_and, and_true, forall_const, reduceCtorEq]
  refine xcall_p (toByteS_p _ _ h hs) (by simp -dsimp only [go_sem, Nat.reduceLT, Nat.reduceEqDiff, Nat.reduceAdd, Nat.reduceMul, Nat.reduceBEq, beq_self_eq_true, Nat.reduceLeDiff, Nat.le_refl, Int.reduceEq, reduceCtorEq, rl_still, e4]) fun zlo zhi z hzlo hzhi hz => ?_
  have zo := hz.2
  have zi := hz.1
  have zp1 := zi.size
  have zp2 := zi.isNode
  have zp3 := zi.plain
  have zp4 := zi.still
  refine ⟨zo.tags, ?_⟩
  simp -dsimp only [go_sem, Nat.reduceLT, Nat.reduceEqDiff, Nat.reduceAdd, Nat.reduceMul, Nat.reduceBEq, beq_self_eq_true, Nat.reduceLeDiff, Nat.le_refl, Int.reduceEq, reduceCtorEq, hlT, vp1, vp2, vp3, xvp1, xvp2, xvp3, yp1, yp2, yp3, zp1, zp2, zp3]
  refine xcall_v (eqByteS_p _ _ _ xvi zi) (by simp -dsimp only [go_sem, Nat.reduceLT, Nat.reduceEqDiff, Nat.reduceAdd, Nat.reduceMul, Nat.reduceBEq, beq_self_eq_true, Nat.reduceLeDiff, Nat.le_refl, Int.reduceEq, reduceCtorEq, rl_still, xvp4, zp4]) (fun _ => trivial) fun n4 hn4 => ?_
  simp -dsimp only [go_sem, Nat.reduceLT, Nat.reduceEqDiff, Nat.reduceAdd, Nat.reduceMul, Nat.reduceBEq, beq_self_eq_true, Nat.reduceLeDiff, Nat.le_refl, Int.reduceEq, reduceCtorEq, hlT, vp1, vp2, vp3, xvp1, xvp2, xvp3, yp1, yp2, yp3, zp1, zp2, zp3, bne_self_eq_false, Bool.not_true, Bool.not_false, Bool.false_eq_true, Bool.true_eq_false, false_imp_iff, true_and, and_true, forall_const, reduceCtorEq]
  have hz := putInt_length x n
  have cfm10 : ∀ E, Carry xv E d d := fun E => carry_lo xvo (by omega) dT
  have cfm15 : ∀ E, Carry xv E v v := fun E => carry_own xvo vo (.inr (by omega))
  have cfm17 : ∀ E, Carry xv E y y := fun E => carry_own xvo yo (.inl (by omega))
  refine xcall_mk (markByteS_p xv x (1) _ _ xvi xvo (by decide) (by omega)) (by simp -dsimp only [go_sem, Nat.reduceLT, Nat.reduceEqDiff, Nat.reduceAdd, Nat.reduceMul, Nat.reduceBEq, beq_self_eq_true, Nat.reduceLeDiff, Nat.le_refl, Int.reduceEq, reduceCtorEq, hlT, vp1, vp2, vp3, xvp1, xvp2, xvp3, yp1, yp2, yp3]) xvp3 xvp4 ⟨trivial, trivial⟩ (fun t ht => hW t (by have := xvo.rg t ht; omega)) [1, 8, 0, 5, 7] (fun E => upd (fun _ => .any) 6 E) (fun E => fun _ => none) fun m1 nm1 hnm1 hm1 =>
      ⟨by simp -dsimp only [go_sem, Nat.reduceLT, Nat.reduceEqDiff, Nat.reduceAdd, Nat.reduceMul, Nat.reduceBEq, beq_self_eq_true, Nat.reduceLeDiff, Nat.le_refl, Int.reduceEq, reduceCtorEq, hlT, vp1, vp2, vp3, xvp1, xvp2, xvp3, yp1, yp2, yp3, cfm10, cfm15, cfm17], carry_upd (by simp -dsimp only [go_sem, Nat.reduceLT, Nat.reduceEqDiff, Nat.reduceAdd, Nat.reduceMul, Nat.reduceBEq, beq_self_eq_true, Nat.reduceLeDiff, Nat.le_refl, Int.reduceEq, reduceCtorEq, hlT, vp1, vp2, vp3, xvp1, xvp2, xvp3, yp1, yp2, yp3]; exact .here) carry_any, CarR.none _ _ _, ?_⟩
  have m1p1 := hm1.rel.size
  have m1p2 := hm1.rel.isNode
  have m1p3 := hm1.rel.plain
  have m1p4 := hm1.rel.still
  have m1o := hm1.own xvo
  have m1i := hm1.rel
  have hk : ¬ (1 + (x.length : Nat) < (0 : Int)) := by omega
  simp -dsimp only [go_sem, Nat.reduceLT, Nat.reduceEqDiff, Nat.reduceAdd, Nat.reduceMul, Nat.reduceBEq, beq_self_eq_true, Nat.reduceLeDiff, Nat.le_refl, Int.reduceEq, reduceCtorEq, hlT, vp1, vp2, vp3, xvp1, xvp2, xvp3, yp1, yp2, yp3, m1p1, m1p2, m1p3, hk, bne_self_eq_false, Bool.not_true, Bool.not_false, Bool.false_eq_true, Bool.true_eq_false, false_imp_iff, true_and, and_true, forall_const, reduceCtorEq, decide_false]
  refine xcall_v (eqByteS_p _ _ _ yi vi) (by simp -dsimp only [go_sem, Nat.reduceLT, Nat.reduceEqDiff, Nat.reduceAdd, Nat.reduceMul, Nat.reduceBEq, beq_self_eq_true, Nat.reduceLeDiff, Nat.le_refl, Int.reduceEq, reduceCtorEq, rl_still, yp4, vp4]) (fun _ => trivial) fun n4 hn4 => ?_
  simp -dsimp only [go_sem, Nat.reduceLT, Nat.reduceEqDiff, Nat.reduceAdd, Nat.reduceMul, Nat.reduceBEq, beq_self_eq_true, Nat.reduceLeDiff, Nat.le_refl, Int.reduceEq, reduceCtorEq, hlT, vp1, vp2, vp3, xvp1, xvp2, xvp3, yp1, yp2, yp3, m1p1, m1p2, m1p3, hk, decide_false, bne_self_eq_false, Bool.not_true, Bool.not_false, Bool.false_eq_true, Bool.true_eq_false, false_imp_iff, true_and, and_true, forall_const, reduceCtorEq]
  have cfm30 : ∀ E, Carry y E d d := fun E => carry_lo yo (by omega) dT
  have cfm35 : ∀ E, Carry y E v v := fun E => carry_own yo vo (.inr (by omega))
  have cfm36 : ∀ E, Carry y E m1 m1 := fun E => carry_own yo m1o (.inr (by omega))
  refine xcall_mk (markByteS_p y _ (1) _ _ yi yo (by decide) (by omega)) (by simp -dsimp only [go_sem, Nat.reduceLT, Nat.reduceEqDiff, Nat.reduceAdd, Nat.reduceMul, Nat.reduceBEq, beq_self_eq_true, Nat.reduceLeDiff, Nat.le_refl, Int.reduceEq, reduceCtorEq, hlT, vp1, vp2, vp3, xvp1, xvp2, xvp3, yp1, yp2, yp3, m1p1, m1p2, m1p3, hk]) yp3 yp4 ⟨trivial, trivial⟩ (fun t ht => hW t (by have := yo.rg t ht; omega)) [1, 8, 0, 5, 6] (fun E => upd (fun _ => .any) 7 E) (fun E => fun _ => none) fun m3 nm3 hnm3 hm3 =>
      ⟨by simp -dsimp only [go_sem, Nat.reduceLT, Nat.reduceEqDiff, Nat.reduceAdd, Nat.reduceMul, Nat.reduceBEq, beq_self_eq_true, Nat.reduceLeDiff, Nat.le_refl, Int.reduceEq, reduceCtorEq, hlT, vp1, vp2, vp3, xvp1, xvp2, xvp3, yp1, yp2, yp3, m1p1, m1p2, m1p3, hk, cfm30, cfm35, cfm36], carry_upd (by simp -dsimp only [go_sem, Nat.reduceLT, Nat.reduceEqDiff, Nat.reduceAdd, Nat.reduceMul, Nat.reduceBEq, beq_self_eq_true, Nat.reduceLeDiff, Nat.le_refl, Int.reduceEq, reduceCtorEq, hlT, vp1, vp2, vp3, xvp1, xvp2, xvp3, yp1, yp2, yp3, m1p1, m1p2, m1p3, hk]; exact .here) carry_any, CarR.none _ _ _, ?_⟩
  have m3p1 := hm3.rel.size
  have m3p2 := hm3.rel.isNode
  have m3p3 := hm3.rel.plain
  have m3p4 := hm3.rel.still
  have m3o := hm3.own yo
  have m3i := hm3.rel
  simp -dsimp only [go_sem, Nat.reduceLT, Nat.reduceEqDiff, Nat.reduceAdd, Nat.reduceMul, Nat.reduceBEq, beq_self_eq_true, Nat.reduceLeDiff, Nat.le_refl, Int.reduceEq, reduceCtorEq, hlT, vp1, vp2, vp3, xvp1, xvp2, xvp3, yp1, yp2, yp3, m1p1, m1p2, m1p3, hk, m3p1, m3p2, m3p3]
  refine xcall_v (heldBytes_p _ _ (1) m3i (by decide) (by omega)) (by simp -dsimp only [go_sem, Nat.reduceLT, Nat.reduceEqDiff, Nat.reduceAdd, Nat.reduceMul, Nat.reduceBEq, beq_self_eq_true, Nat.reduceLeDiff, Nat.le_refl, Int.reduceEq, reduceCtorEq, rl_still, m3p4]) (fun _ => trivial) fun n7 hn7 => ?_
  have hk2 : ¬ (1 + ((Md.putInt x n).length : Nat) < (0 : Int)) := by omega
  simp -dsimp only [go_sem, Nat.reduceLT, Nat.reduceEqDiff, Nat.reduceAdd, Nat.reduceMul, Nat.reduceBEq, beq_self_eq_true, Nat.reduceLeDiff, Nat.le_refl, Int.reduceEq, reduceCtorEq, hlT, vp1, vp2, vp3, xvp1, xvp2, xvp3, yp1, yp2, yp3, m1p1, m1p2, m1p3, hk, m3p1, m3p2, m3p3, hk2, bne_self_eq_false, Bool.not_true, Bool.not_false, Bool.false_eq_true, Bool.true_eq_false, false_imp_iff, true_and, and_true, forall_const, reduceCtorEq, decide_false]
  refine xcall_p (toByteS_p _ _ h hs) (by simp -dsimp only [go_sem, Nat.reduceLT, Nat.reduceEqDiff, Nat.reduceAdd, Nat.reduceMul, Nat.reduceBEq, beq_self_eq_true, Nat.reduceLeDiff, Nat.le_refl, Int.reduceEq, reduceCtorEq, rl_still, e4]) fun r2lo r2hi r2 hr2lo hr2hi hr2 => ?_
  have r2o := hr2.2
  have r2i := hr2.1
  have r2p1 := r2i.size
  have r2p2 := r2i.isNode
  have r2p3 := r2i.plain
  have r2p4 := r2i.still
  refine ⟨r2o.tags, ?_⟩
  simp -dsimp only [go_sem, Nat.reduceLT, Nat.reduceEqDiff, Nat.reduceAdd, Nat.reduceMul, Nat.reduceBEq, beq_self_eq_true, Nat.reduceLeDiff, Nat.le_refl, Int.reduceEq, reduceCtorEq, hlT, vp1, vp2, vp3, xvp1, xvp2, xvp3, yp1, yp2, yp3, m1p1, m1p2, m1p3, hk, m3p1, m3p2, m3p3, hk2, r2p1, r2p2, r2p3]
  refine xcall_p (implPutInt_p _ _ n r2i hs) (by simp -dsimp only [go_sem, Nat.reduceLT, Nat.reduceEqDiff, Nat.reduceAdd, Nat.reduceMul, Nat.reduceBEq, beq_self_eq_true, Nat.reduceLeDiff, Nat.le_refl, Int.reduceEq, reduceCtorEq, rl_still, r2p4]) fun hvlo hvhi hv hhvlo hhvhi hhvw => ?_
  have hhv := hhvw
  have hvo := hhv.2
  have hvi := hhv.1
  have hvp1 := hvi.size
  have hvp2 := hvi.isNode
  have hvp3 := hvi.plain
  have hvp4 := hvi.still
  refine ⟨hvo.tags, ?_⟩
  simp -dsimp only [go_sem, Nat.reduceLT, Nat.reduceEqDiff, Nat.reduceAdd, Nat.reduceMul, Nat.reduceBEq, beq_self_eq_true, Nat.reduceLeDiff, Nat.le_refl, Int.reduceEq, reduceCtorEq, hlT, vp1, vp2, vp3, xvp1, xvp2, xvp3, yp1, yp2, yp3, m1p1, m1p2, m1p3, hk, m3p1, m3p2, m3p3, hk2, r2p1, r2p2, r2p3, hvp1, hvp2, hvp3]
  refine xcall_v (eqByteS_p _ _ _ hvi vi) (by simp -dsimp only [go_sem, Nat.reduceLT, Nat.reduceEqDiff, Nat.reduceAdd, Nat.reduceMul, Nat.reduceBEq, beq_self_eq_true, Nat.reduceLeDiff, Nat.le_refl, Int.reduceEq, reduceCtorEq, rl_still, hvp4, vp4]) (fun _ => trivial) fun n4 hn4 => ?_
  simp -dsimp only [go_sem, Nat.reduceLT, Nat.reduceEqDiff, Nat.reduceAdd, Nat.reduceMul, Nat.reduceBEq, beq_self_eq_true, Nat.reduceLeDiff, Nat.le_refl, Int.reduceEq, reduceCtorEq, hlT, vp1, vp2, vp3, xvp1, xvp2, xvp3, yp1, yp2, yp3, m1p1, m1p2, m1p3, hk, m3p1, m3p2, m3p3, hk2, hvp1, hvp2, hvp3, decide_false, bne_self_eq_false, Bool.not_true, Bool.not_false, Bool.false_eq_true, Bool.true_eq_false, false_imp_iff, true_and, and_true, forall_const, reduceCtorEq]
  refine xcall_v (heldBytes_p _ _ (1) m3i (by decide) (by omega)) (by simp -dsimp only [go_sem, Nat.reduceLT, Nat.reduceEqDiff, Nat.reduceAdd, Nat.reduceMul, Nat.reduceBEq, beq_self_eq_true, Nat.reduceLeDiff, Nat.le_refl, Int.reduceEq, reduceCtorEq, rl_still, m3p4]) (fun _ => trivial) fun n9 hn9 => ?_
  simp -dsimp only [go_sem, Nat.reduceLT, Nat.reduceEqDiff, Nat.reduceAdd, Nat.reduceMul, Nat.reduceBEq, beq_self_eq_true, Nat.reduceLeDiff, Nat.le_refl, Int.reduceEq, reduceCtorEq, hlT, vp1, vp2, vp3, xvp1, xvp2, xvp3, yp1, yp2, yp3, m1p1, m1p2, m1p3, hk, m3p1, m3p2, m3p3, hk2, hvp1, hvp2, hvp3, bne_self_eq_false, Bool.not_true, Bool.not_false, Bool.false_eq_true, Bool.true_eq_false, false_imp_iff, true_and, and_true, forall_const, reduceCtorEq, decide_false]
end Go.Proofs.Ytpepddckmddbiaa.IM
end

section
/- The law of PutText. Printed by laws_b.py. -/
namespace Go.Proofs.Ytpepddckmddbiaa.IM
open Go Go.Proofs
set_option linter.unusedVariables false
set_option linter.unusedSimpArgs false
set_option maxHeartbeats 2000000
set_option maxRecDepth 20000

theorem lawPutText (d : D) (x : List Int) (tx : ByteArray) (h : (IsL 1 IsByte) d x) : PCall Try.prog 5 [d, .lit (.string tx)] fun _ _ r => r = .lit (.bool true) := by
  have hlT := h.lenT
  have e4 := h.still
  refine pcall_intro_vt Try.func5 rfl (by decide) rfl (by decide) (by rw [Try.ntmps5]; simp) fun w0 M n0 hW hT => ivc_sound ?_; simp -dsimp only [Try.f5, go_sem, Nat.reduceLT, Nat.reduceEqDiff, Nat.reduceAdd, Nat.reduceMul, Nat.reduceBEq, beq_self_eq_true, Nat.reduceLeDiff, Nat.le_refl, Int.reduceEq, reduceCtorEq, hlT]
  have dT : d.tags (· < n0) := hT d (by simp) (h.data fun _ _ h => h.data)
  intro hb
  have hs : x.length ≤ 1048576 := by omega
  intro hbtx
  have hstx : tx.size ≤ 1048576 := by omega
  refine xcall_p (toByteS_p _ _ h hs) (by simp -dsimp only [go_sem, Nat.reduceLT, Nat.reduceEqDiff, Nat.reduceAdd, Nat.reduceMul, Nat.reduceBEq, beq_self_eq_true, Nat.reduceLeDiff, Nat.le_refl, Int.reduceEq, reduceCtorEq, rl_still, e4]) fun rlo rhi r hrlo hrhi hr => ?_
  have ro := hr.2
  have ri := hr.1
  have rp1 := ri.size
  have rp2 := ri.isNode
  have rp3 := ri.plain
  have rp4 := ri.still
  refine ⟨ro.tags, ?_⟩
  simp -dsimp only [go_sem, Nat.reduceLT, Nat.reduceEqDiff, Nat.reduceAdd, Nat.reduceMul, Nat.reduceBEq, beq_self_eq_true, Nat.reduceLeDiff, Nat.le_refl, Int.reduceEq, reduceCtorEq, hlT, rp1, rp2, rp3]
  refine xcall_p (specPutText_p _ _ tx ri (by omega) (by omega)) (by simp -dsimp only [go_sem, Nat.reduceLT, Nat.reduceEqDiff, Nat.reduceAdd, Nat.reduceMul, Nat.reduceBEq, beq_self_eq_true, Nat.reduceLeDiff, Nat.le_refl, Int.reduceEq, reduceCtorEq, rl_still, rp4]) fun vlo vhi v hvlo hvhi hvw => ?_
  have hv := hvw
  have vo := hv.2
  have vi := hv.1
  have vp1 := vi.size
  have vp2 := vi.isNode
  have vp3 := vi.plain
  have vp4 := vi.still
  refine ⟨vo.tags, ?_⟩
  simp -dsimp only [go_sem, Nat.reduceLT, Nat.reduceEqDiff, Nat.reduceAdd, Nat.reduceMul, Nat.reduceBEq, beq_self_eq_true, Nat.reduceLeDiff, Nat.le_refl, Int.reduceEq, reduceCtorEq, hlT, rp1, rp2, rp3, vp1, vp2, vp3]
  refine xcall_p (toByteS_p _ _ h hs) (by simp -dsimp only [go_sem, Nat.reduceLT, Nat.reduceEqDiff, Nat.reduceAdd, Nat.reduceMul, Nat.reduceBEq, beq_self_eq_true, Nat.reduceLeDiff, Nat.le_refl, Int.reduceEq, reduceCtorEq, rl_still, e4]) fun xvlo xvhi xv hxvlo hxvhi hxv => ?_
  have xvo := hxv.2
  have xvi := hxv.1
  have xvp1 := xvi.size
  have xvp2 := xvi.isNode
  have xvp3 := xvi.plain
  have xvp4 := xvi.still
  refine ⟨xvo.tags, ?_⟩
  simp -dsimp only [go_sem, Nat.reduceLT, Nat.reduceEqDiff, Nat.reduceAdd, Nat.reduceMul, Nat.reduceBEq, beq_self_eq_true, Nat.reduceLeDiff, Nat.le_refl, Int.reduceEq, reduceCtorEq, hlT, vp1, vp2, vp3, xvp1, xvp2, xvp3]
  refine xcall_p (putText_p _ _ tx xvi hs (by omega)) (by simp -dsimp only [go_sem, Nat.reduceLT, Nat.reduceEqDiff, Nat.reduceAdd, Nat.reduceMul, Nat.reduceBEq, beq_self_eq_true, Nat.reduceLeDiff, Nat.le_refl, Int.reduceEq, reduceCtorEq, rl_still, xvp4]) fun ylo yhi y hylo hyhi hyw => ?_
  have hy := hyw
  have yo := hy.2
  have yi := hy.1
  have yp1 := yi.size
  have yp2 := yi.isNode
  have yp3 := yi.plain
  have yp4 := yi.still
  refine ⟨yo.tags, ?_⟩
  simp -dsimp only [go_sem, Nat.reduceLT, Nat.reduceEqDiff, Nat.reduceAdd, Nat.reduceMul, Nat.reduceBEq, beq_self_eq_true, Nat.reduceLeDiff, Nat.le_refl, Int.reduceEq, reduceCtorEq, hlT, vp1, vp2, vp3, xvp1, xvp2, xvp3, yp1, yp2, yp3]
  refine xcall_v (eqByteS_p _ _ _ yi vi) (by simp -dsimp only [go_sem, Nat.reduceLT, Nat.reduceEqDiff, Nat.reduceAdd, Nat.reduceMul, Nat.reduceBEq, beq_self_eq_true, Nat.reduceLeDiff, Nat.le_refl, Int.reduceEq, reduceCtorEq, rl_still, yp4, vp4]) (fun _ => trivial) fun n4 hn4 => ?_
  simp -dsimp only [go_sem, Nat.reduceLT, Nat.reduceEqDiff, Nat.reduceAdd, Nat.reduceMul, Nat.reduceBEq, beq_self_eq_true, Nat.reduceLeDiff, Nat.le_refl, Int.reduceEq, reduceCtorEq, hlT, vp1, vp2, vp3, xvp1, xvp2, xvp3, yp1, yp2, yp3, bne_self_eq_false, Bool.not_true, Bool.not_false, Bool.false_eq_true, Bool.true_eq_false, false_imp_iff, true_and, and_true, forall_const, reduceCtorEq]
  refine xcall_p (toByteS_p _ _ h hs) (by simp -dsimp only [go_sem, Nat.reduceLT, Nat.reduceEqDiff, Nat.reduceAdd, Nat.reduceMul, Nat.reduceBEq, beq_self_eq_true, Nat.reduceLeDiff, Nat.le_refl, Int.reduceEq, reduceCtorEq, rl_still, e4]) fun zlo zhi z hzlo hzhi hz => ?_
  have zo := hz.2
  have zi := hz.1
  have zp1 := zi.size
  have zp2 := zi.isNode
  have zp3 := zi.plain
  have zp4 := zi.still
  refine ⟨zo.tags, ?_⟩
  simp -dsimp only [go_sem, Nat.reduceLT, Nat.reduceEqDiff, Nat.reduceAdd, Nat.reduceMul, Nat.reduceBEq, beq_self_eq_true, Nat.reduceLeDiff, Nat.le_refl, Int.reduceEq, reduceCtorEq, hlT, vp1, vp2, vp3, xvp1, xvp2, xvp3, yp1, yp2, yp3, zp1, zp2, zp3]
  refine xcall_v (eqByteS_p _ _ _ xvi zi) (by simp -dsimp only [go_sem, Nat.reduceLT, Nat.reduceEqDiff, Nat.reduceAdd, Nat.reduceMul, Nat.reduceBEq, beq_self_eq_true, Nat.reduceLeDiff, Nat.le_refl, Int.reduceEq, reduceCtorEq, rl_still, xvp4, zp4]) (fun _ => trivial) fun n4 hn4 => ?_
  simp -dsimp only [go_sem, Nat.reduceLT, Nat.reduceEqDiff, Nat.reduceAdd, Nat.reduceMul, Nat.reduceBEq, beq_self_eq_true, Nat.reduceLeDiff, Nat.le_refl, Int.reduceEq, reduceCtorEq, hlT, vp1, vp2, vp3, xvp1, xvp2, xvp3, yp1, yp2, yp3, zp1, zp2, zp3, bne_self_eq_false, Bool.not_true, Bool.not_false, Bool.false_eq_true, Bool.true_eq_false, false_imp_iff, true_and, and_true, forall_const, reduceCtorEq]
  have hz0 := putInt_length x tx.size
  have hz1 := strBytes_length tx
  have hz : (Md.putInt x tx.size ++ strBytes tx).length = (Md.putInt x tx.size).length + (strBytes tx).length := List.length_append ..
  have cfm10 : ∀ E, Carry xv E d d := fun E => carry_lo xvo (by omega) dT
  have cfm15 : ∀ E, Carry xv E v v := fun E => carry_own xvo vo (.inr (by omega))
  have cfm17 : ∀ E, Carry xv E y y := fun E => carry_own xvo yo (.inl (by omega))
  refine xcall_mk (markByteS_p xv x (1) _ _ xvi xvo (by decide) (by omega)) (by simp -dsimp only [go_sem, Nat.reduceLT, Nat.reduceEqDiff, Nat.reduceAdd, Nat.reduceMul, Nat.reduceBEq, beq_self_eq_true, Nat.reduceLeDiff, Nat.le_refl, Int.reduceEq, reduceCtorEq, hlT, vp1, vp2, vp3, xvp1, xvp2, xvp3, yp1, yp2, yp3]) xvp3 xvp4 ⟨trivial, trivial⟩ (fun t ht => hW t (by have := xvo.rg t ht; omega)) [1, 8, 0, 5, 7] (fun E => upd (fun _ => .any) 6 E) (fun E => fun _ => none) fun m1 nm1 hnm1 hm1 =>
      ⟨by simp -dsimp only [go_sem, Nat.reduceLT, Nat.reduceEqDiff, Nat.reduceAdd, Nat.reduceMul, Nat.reduceBEq, beq_self_eq_true, Nat.reduceLeDiff, Nat.le_refl, Int.reduceEq, reduceCtorEq, hlT, vp1, vp2, vp3, xvp1, xvp2, xvp3, yp1, yp2, yp3, cfm10, cfm15, cfm17], carry_upd (by simp -dsimp only [go_sem, Nat.reduceLT, Nat.reduceEqDiff, Nat.reduceAdd, Nat.reduceMul, Nat.reduceBEq, beq_self_eq_true, Nat.reduceLeDiff, Nat.le_refl, Int.reduceEq, reduceCtorEq, hlT, vp1, vp2, vp3, xvp1, xvp2, xvp3, yp1, yp2, yp3]; exact .here) carry_any, CarR.none _ _ _, ?_⟩
  have m1p1 := hm1.rel.size
  have m1p2 := hm1.rel.isNode
  have m1p3 := hm1.rel.plain
  have m1p4 := hm1.rel.still
  have m1o := hm1.own xvo
  have m1i := hm1.rel
  have hk : ¬ (1 + (x.length : Nat) < (0 : Int)) := by omega
  simp -dsimp only [go_sem, Nat.reduceLT, Nat.reduceEqDiff, Nat.reduceAdd, Nat.reduceMul, Nat.reduceBEq, beq_self_eq_true, Nat.reduceLeDiff, Nat.le_refl, Int.reduceEq, reduceCtorEq, hlT, vp1, vp2, vp3, xvp1, xvp2, xvp3, yp1, yp2, yp3, m1p1, m1p2, m1p3, hk, bne_self_eq_false, Bool.not_true, Bool.not_false, Bool.false_eq_true, Bool.true_eq_false, false_imp_iff, true_and, and_true, forall_const, reduceCtorEq, decide_false]
  refine xcall_v (eqByteS_p _ _ _ yi vi) (by simp -dsimp only [go_sem, Nat.reduceLT, Nat.reduceEqDiff, Nat.reduceAdd, Nat.reduceMul, Nat.reduceBEq, beq_self_eq_true, Nat.reduceLeDiff, Nat.le_refl, Int.reduceEq, reduceCtorEq, rl_still, yp4, vp4]) (fun _ => trivial) fun n4 hn4 => ?_
  simp -dsimp only [go_sem, Nat.reduceLT, Nat.reduceEqDiff, Nat.reduceAdd, Nat.reduceMul, Nat.reduceBEq, beq_self_eq_true, Nat.reduceLeDiff, Nat.le_refl, Int.reduceEq, reduceCtorEq, hlT, vp1, vp2, vp3, xvp1, xvp2, xvp3, yp1, yp2, yp3, m1p1, m1p2, m1p3, hk, decide_false, bne_self_eq_false, Bool.not_true, Bool.not_false, Bool.false_eq_true, Bool.true_eq_false, false_imp_iff, true_and, and_true, forall_const, reduceCtorEq]
  have cfm30 : ∀ E, Carry y E d d := fun E => carry_lo yo (by omega) dT
  have cfm35 : ∀ E, Carry y E v v := fun E => carry_own yo vo (.inr (by omega))
  have cfm36 : ∀ E, Carry y E m1 m1 := fun E => carry_own yo m1o (.inr (by omega))
  refine xcall_mk (markByteS_p y _ (1) _ _ yi yo (by decide) (by omega)) (by simp -dsimp only [go_sem, Nat.reduceLT, Nat.reduceEqDiff, Nat.reduceAdd, Nat.reduceMul, Nat.reduceBEq, beq_self_eq_true, Nat.reduceLeDiff, Nat.le_refl, Int.reduceEq, reduceCtorEq, hlT, vp1, vp2, vp3, xvp1, xvp2, xvp3, yp1, yp2, yp3, m1p1, m1p2, m1p3, hk]) yp3 yp4 ⟨trivial, trivial⟩ (fun t ht => hW t (by have := yo.rg t ht; omega)) [1, 8, 0, 5, 6] (fun E => upd (fun _ => .any) 7 E) (fun E => fun _ => none) fun m3 nm3 hnm3 hm3 =>
      ⟨by simp -dsimp only [go_sem, Nat.reduceLT, Nat.reduceEqDiff, Nat.reduceAdd, Nat.reduceMul, Nat.reduceBEq, beq_self_eq_true, Nat.reduceLeDiff, Nat.le_refl, Int.reduceEq, reduceCtorEq, hlT, vp1, vp2, vp3, xvp1, xvp2, xvp3, yp1, yp2, yp3, m1p1, m1p2, m1p3, hk, cfm30, cfm35, cfm36], carry_upd (by simp -dsimp only [go_sem, Nat.reduceLT, Nat.reduceEqDiff, Nat.reduceAdd, Nat.reduceMul, Nat.reduceBEq, beq_self_eq_true, Nat.reduceLeDiff, Nat.le_refl, Int.reduceEq, reduceCtorEq, hlT, vp1, vp2, vp3, xvp1, xvp2, xvp3, yp1, yp2, yp3, m1p1, m1p2, m1p3, hk]; exact .here) carry_any, CarR.none _ _ _, ?_⟩
  have m3p1 := hm3.rel.size
  have m3p2 := hm3.rel.isNode
  have m3p3 := hm3.rel.plain
  have m3p4 := hm3.rel.still
  have m3o := hm3.own yo
  have m3i := hm3.rel
  simp -dsimp only [go_sem, Nat.reduceLT, Nat.reduceEqDiff, Nat.reduceAdd, Nat.reduceMul, Nat.reduceBEq, beq_self_eq_true, Nat.reduceLeDiff, Nat.le_refl, Int.reduceEq, reduceCtorEq, hlT, vp1, vp2, vp3, xvp1, xvp2, xvp3, yp1, yp2, yp3, m1p1, m1p2, m1p3, hk, m3p1, m3p2, m3p3]
  refine xcall_v (heldBytes_p _ _ (1) m3i (by decide) (by omega)) (by simp -dsimp only [go_sem, Nat.reduceLT, Nat.reduceEqDiff, Nat.reduceAdd, Nat.reduceMul, Nat.reduceBEq, beq_self_eq_true, Nat.reduceLeDiff, Nat.le_refl, Int.reduceEq, reduceCtorEq, rl_still, m3p4]) (fun _ => trivial) fun n7 hn7 => ?_
  have hk2 : ¬ (1 + ((Md.putInt x tx.size ++ strBytes tx).length : Nat) < (0 : Int)) := by omega
  simp -dsimp only [go_sem, Nat.reduceLT, Nat.reduceEqDiff, Nat.reduceAdd, Nat.reduceMul, Nat.reduceBEq, beq_self_eq_true, Nat.reduceLeDiff, Nat.le_refl, Int.reduceEq, reduceCtorEq, hlT, vp1, vp2, vp3, xvp1, xvp2, xvp3, yp1, yp2, yp3, m1p1, m1p2, m1p3, hk, m3p1, m3p2, m3p3, hk2, bne_self_eq_false, Bool.not_true, Bool.not_false, Bool.false_eq_true, Bool.true_eq_false, false_imp_iff, true_and, and_true, forall_const, reduceCtorEq, decide_false]
  refine xcall_p (toByteS_p _ _ h hs) (by simp -dsimp only [go_sem, Nat.reduceLT, Nat.reduceEqDiff, Nat.reduceAdd, Nat.reduceMul, Nat.reduceBEq, beq_self_eq_true, Nat.reduceLeDiff, Nat.le_refl, Int.reduceEq, reduceCtorEq, rl_still, e4]) fun r2lo r2hi r2 hr2lo hr2hi hr2 => ?_
  have r2o := hr2.2
  have r2i := hr2.1
  have r2p1 := r2i.size
  have r2p2 := r2i.isNode
  have r2p3 := r2i.plain
  have r2p4 := r2i.still
  refine ⟨r2o.tags, ?_⟩
  simp -dsimp only [go_sem, Nat.reduceLT, Nat.reduceEqDiff, Nat.reduceAdd, Nat.reduceMul, Nat.reduceBEq, beq_self_eq_true, Nat.reduceLeDiff, Nat.le_refl, Int.reduceEq, reduceCtorEq, hlT, vp1, vp2, vp3, xvp1, xvp2, xvp3, yp1, yp2, yp3, m1p1, m1p2, m1p3, hk, m3p1, m3p2, m3p3, hk2, r2p1, r2p2, r2p3]
  refine xcall_p (putText_p _ _ tx r2i hs (by omega)) (by simp -dsimp only [go_sem, Nat.reduceLT, Nat.reduceEqDiff, Nat.reduceAdd, Nat.reduceMul, Nat.reduceBEq, beq_self_eq_true, Nat.reduceLeDiff, Nat.le_refl, Int.reduceEq, reduceCtorEq, rl_still, r2p4]) fun hvlo hvhi hv hhvlo hhvhi hhvw => ?_
  have hhv := hhvw
  have hvo := hhv.2
  have hvi := hhv.1
  have hvp1 := hvi.size
  have hvp2 := hvi.isNode
  have hvp3 := hvi.plain
  have hvp4 := hvi.still
  refine ⟨hvo.tags, ?_⟩
  simp -dsimp only [go_sem, Nat.reduceLT, Nat.reduceEqDiff, Nat.reduceAdd, Nat.reduceMul, Nat.reduceBEq, beq_self_eq_true, Nat.reduceLeDiff, Nat.le_refl, Int.reduceEq, reduceCtorEq, hlT, vp1, vp2, vp3, xvp1, xvp2, xvp3, yp1, yp2, yp3, m1p1, m1p2, m1p3, hk, m3p1, m3p2, m3p3, hk2, r2p1, r2p2, r2p3, hvp1, hvp2, hvp3]
  refine xcall_v (eqByteS_p _ _ _ hvi vi) (by simp -dsimp only [go_sem, Nat.reduceLT, Nat.reduceEqDiff, Nat.reduceAdd, Nat.reduceMul, Nat.reduceBEq, beq_self_eq_true, Nat.reduceLeDiff, Nat.le_refl, Int.reduceEq, reduceCtorEq, rl_still, hvp4, vp4]) (fun _ => trivial) fun n4 hn4 => ?_
  simp -dsimp only [go_sem, Nat.reduceLT, Nat.reduceEqDiff, Nat.reduceAdd, Nat.reduceMul, Nat.reduceBEq, beq_self_eq_true, Nat.reduceLeDiff, Nat.le_refl, Int.reduceEq, reduceCtorEq, hlT, vp1, vp2, vp3, xvp1, xvp2, xvp3, yp1, yp2, yp3, m1p1, m1p2, m1p3, hk, m3p1, m3p2, m3p3, hk2, hvp1, hvp2, hvp3, decide_false, bne_self_eq_false, Bool.not_true, Bool.not_false, Bool.false_eq_true, Bool.true_eq_false, false_imp_iff, true_and, and_true, forall_const, reduceCtorEq]
  refine xcall_v (heldBytes_p _ _ (1) m3i (by decide) (by omega)) (by simp -dsimp only [go_sem, Nat.reduceLT, Nat.reduceEqDiff, Nat.reduceAdd, Nat.reduceMul, Nat.reduceBEq, beq_self_eq_true, Nat.reduceLeDiff, Nat.le_refl, Int.reduceEq, reduceCtorEq, rl_still, m3p4]) (fun _ => trivial) fun n9 hn9 => ?_
  simp -dsimp only [go_sem, Nat.reduceLT, Nat.reduceEqDiff, Nat.reduceAdd, Nat.reduceMul, Nat.reduceBEq, beq_self_eq_true, Nat.reduceLeDiff, Nat.le_refl, Int.reduceEq, reduceCtorEq, hlT, vp1, vp2, vp3, xvp1, xvp2, xvp3, yp1, yp2, yp3, m1p1, m1p2, m1p3, hk, m3p1, m3p2, m3p3, hk2, hvp1, hvp2, hvp3, bne_self_eq_false, Bool.not_true, Bool.not_false, Bool.false_eq_true, Bool.true_eq_false, false_imp_iff, true_and, and_true, forall_const, reduceCtorEq, decide_false]
end Go.Proofs.Ytpepddckmddbiaa.IM
end

section
/- The law of PutObj. Printed by laws_b.py. -/
namespace Go.Proofs.Ytpepddckmddbiaa.IM
open Go Go.Proofs
set_option linter.unusedVariables false
set_option linter.unusedSimpArgs false
set_option maxHeartbeats 2000000
set_option maxRecDepth 20000

theorem lawPutObj (d : D) (x : Md.Obj) (h : IsObj d x) : PCall Try.prog 12 [d] fun _ _ r => r = .lit (.bool true) := by
  have e := shp_obj _ _ h
  have e1 := e.1
  have e2 := e.2.1
  have e3 := e.2.2.1
  have e4 := e.2.2.2
  refine pcall_intro_vt Try.func12 rfl (by decide) rfl (by decide) (by rw [Try.ntmps12]; simp) fun w0 M n0 hW hT => ivc_sound ?_; simp -dsimp only [Try.f12, go_sem, Nat.reduceLT, Nat.reduceEqDiff, Nat.reduceAdd, Nat.reduceMul, Nat.reduceBEq, beq_self_eq_true, Nat.reduceLeDiff, Nat.le_refl, Int.reduceEq, reduceCtorEq, e1, e2, e3]
  have dT : d.tags (· < n0) := hT d (by simp) h.data
  intro g1 b1 hb1
  refine xcall_v (szObj_p _ _ h 1048576 (by decide) (by decide)) (by simp -dsimp only [go_sem, Nat.reduceLT, Nat.reduceEqDiff, Nat.reduceAdd, Nat.reduceMul, Nat.reduceBEq, beq_self_eq_true, Nat.reduceLeDiff, Nat.le_refl, Int.reduceEq, reduceCtorEq, rl_still, e4]) (fun _ => trivial) fun n1 hn1 => ?_
  simp -dsimp only [go_sem, Nat.reduceLT, Nat.reduceEqDiff, Nat.reduceAdd, Nat.reduceMul, Nat.reduceBEq, beq_self_eq_true, Nat.reduceLeDiff, Nat.le_refl, Int.reduceEq, reduceCtorEq]
  intro hb
  have hs : Md.szObj x ≤ 1048576 := by
    have := Md.szR_le _ _ hb
    omega
  simp -dsimp only [go_sem, Nat.reduceLT, Nat.reduceEqDiff, Nat.reduceAdd, Nat.reduceMul, Nat.reduceBEq, beq_self_eq_true, Nat.reduceLeDiff, Nat.le_refl, Int.reduceEq, reduceCtorEq, e1, e2, e3]
  refine xcall_p (toObj_p _ _ h hs) (by simp -dsimp only [go_sem, Nat.reduceLT, Nat.reduceEqDiff, Nat.reduceAdd, Nat.reduceMul, Nat.reduceBEq, beq_self_eq_true, Nat.reduceLeDiff, Nat.le_refl, Int.reduceEq, reduceCtorEq, rl_still, e4]) fun rlo rhi r hrlo hrhi hr => ?_
  have ro := hr.2
  have ri := hr.1
  have rp := shp_obj _ _ ri
  have rp1 := rp.1
  have rp2 := rp.2.1
  have rp3 := rp.2.2.1
  have rp4 := rp.2.2.2
  refine ⟨ro.tags, ?_⟩
  simp -dsimp only [go_sem, Nat.reduceLT, Nat.reduceEqDiff, Nat.reduceAdd, Nat.reduceMul, Nat.reduceBEq, beq_self_eq_true, Nat.reduceLeDiff, Nat.le_refl, Int.reduceEq, reduceCtorEq, e1, e2, e3, rp1, rp2, rp3]
  refine xcall_p (specPutObj_p _ _ ri) (by simp -dsimp only [go_sem, Nat.reduceLT, Nat.reduceEqDiff, Nat.reduceAdd, Nat.reduceMul, Nat.reduceBEq, beq_self_eq_true, Nat.reduceLeDiff, Nat.le_refl, Int.reduceEq, reduceCtorEq, rl_still, rp4]) fun vlo vhi v hvlo hvhi hvw => ?_
  have hv := hvw
  have vo := hv.2
  have vi := hv.1
  have vp1 := vi.size
  have vp2 := vi.isNode
  have vp3 := vi.plain
  have vp4 := vi.still
  refine ⟨vo.tags, ?_⟩
  simp -dsimp only [go_sem, Nat.reduceLT, Nat.reduceEqDiff, Nat.reduceAdd, Nat.reduceMul, Nat.reduceBEq, beq_self_eq_true, Nat.reduceLeDiff, Nat.le_refl, Int.reduceEq, reduceCtorEq, e1, e2, e3, rp1, rp2, rp3, vp1, vp2, vp3]
  refine xcall_p (toObj_p _ _ h hs) (by simp -dsimp only [go_sem, Nat.reduceLT, Nat.reduceEqDiff, Nat.reduceAdd, Nat.reduceMul, Nat.reduceBEq, beq_self_eq_true, Nat.reduceLeDiff, Nat.le_refl, Int.reduceEq, reduceCtorEq, rl_still, e4]) fun xvlo xvhi xv hxvlo hxvhi hxv => ?_
  have xvo := hxv.2
  have xvi := hxv.1
  have xvp := shp_obj _ _ xvi
  have xvp1 := xvp.1
  have xvp2 := xvp.2.1
  have xvp3 := xvp.2.2.1
  have xvp4 := xvp.2.2.2
  refine ⟨xvo.tags, ?_⟩
  simp -dsimp only [go_sem, Nat.reduceLT, Nat.reduceEqDiff, Nat.reduceAdd, Nat.reduceMul, Nat.reduceBEq, beq_self_eq_true, Nat.reduceLeDiff, Nat.le_refl, Int.reduceEq, reduceCtorEq, e1, e2, e3, vp1, vp2, vp3, xvp1, xvp2, xvp3]
  intro g12 b12 hb12
  refine xcall_p (implPutObj_p _ _ xvi) (by simp -dsimp only [go_sem, Nat.reduceLT, Nat.reduceEqDiff, Nat.reduceAdd, Nat.reduceMul, Nat.reduceBEq, beq_self_eq_true, Nat.reduceLeDiff, Nat.le_refl, Int.reduceEq, reduceCtorEq, rl_still, xvp4]) fun ylo yhi y hylo hyhi hyw => ?_
  have hy := hyw
  have yo := hy.2
  have yi := hy.1
  have yp1 := yi.size
  have yp2 := yi.isNode
  have yp3 := yi.plain
  have yp4 := yi.still
  refine ⟨yo.tags, ?_⟩
  simp -dsimp only [go_sem, Nat.reduceLT, Nat.reduceEqDiff, Nat.reduceAdd, Nat.reduceMul, Nat.reduceBEq, beq_self_eq_true, Nat.reduceLeDiff, Nat.le_refl, Int.reduceEq, reduceCtorEq, e1, e2, e3, vp1, vp2, vp3, xvp1, xvp2, xvp3, yp1, yp2, yp3]
  refine xcall_v (eqByteS_p _ _ _ yi vi) (by simp -dsimp only [go_sem, Nat.reduceLT, Nat.reduceEqDiff, Nat.reduceAdd, Nat.reduceMul, Nat.reduceBEq, beq_self_eq_true, Nat.reduceLeDiff, Nat.le_refl, Int.reduceEq, reduceCtorEq, rl_still, yp4, vp4]) (fun _ => trivial) fun n4 hn4 => ?_
  simp -dsimp only [go_sem, Nat.reduceLT, Nat.reduceEqDiff, Nat.reduceAdd, Nat.reduceMul, Nat.reduceBEq, beq_self_eq_true, Nat.reduceLeDiff, Nat.le_refl, Int.reduceEq, reduceCtorEq, e1, e2, e3, vp1, vp2, vp3, xvp1, xvp2, xvp3, yp1, yp2, yp3, bne_self_eq_false, Bool.not_true, Bool.not_false, Bool.false_eq_true, Bool.true_eq_false, false_imp_iff, true_and, and_true, forall_const, reduceCtorEq]
  refine iwp_plan [(0, true), (1, true), (2, false), (3, false), (4, true)] [1, 5] rfl (by decide +kernel) (by decide) [] (by decide +kernel) ?_
  simp -dsimp only [go_sem, Nat.reduceLT, Nat.reduceEqDiff, Nat.reduceAdd, Nat.reduceMul, Nat.reduceBEq, beq_self_eq_true, Nat.reduceLeDiff, Nat.le_refl, Int.reduceEq, reduceCtorEq, e1, e2, e3, vp1, vp2, vp3, xvp1, xvp2, xvp3, yp1, yp2, yp3]
  refine xcall_p (toObj_p _ _ h hs) (by simp -dsimp only [go_sem, Nat.reduceLT, Nat.reduceEqDiff, Nat.reduceAdd, Nat.reduceMul, Nat.reduceBEq, beq_self_eq_true, Nat.reduceLeDiff, Nat.le_refl, Int.reduceEq, reduceCtorEq, rl_still, e4]) fun zlo zhi z hzlo hzhi hz => ?_
  have zo := hz.2
  have zi := hz.1
  have zp := shp_obj _ _ zi
  have zp1 := zp.1
  have zp2 := zp.2.1
  have zp3 := zp.2.2.1
  have zp4 := zp.2.2.2
  refine ⟨zo.tags, ?_⟩
  simp -dsimp only [go_sem, Nat.reduceLT, Nat.reduceEqDiff, Nat.reduceAdd, Nat.reduceMul, Nat.reduceBEq, beq_self_eq_true, Nat.reduceLeDiff, Nat.le_refl, Int.reduceEq, reduceCtorEq, e1, e2, e3, vp1, vp2, vp3, xvp1, xvp2, xvp3, yp1, yp2, yp3, zp1, zp2, zp3]
  refine xcall_v (eqObj_p _ _ _ xvi zi) (by simp -dsimp only [go_sem, Nat.reduceLT, Nat.reduceEqDiff, Nat.reduceAdd, Nat.reduceMul, Nat.reduceBEq, beq_self_eq_true, Nat.reduceLeDiff, Nat.le_refl, Int.reduceEq, reduceCtorEq, rl_still, xvp4, zp4]) (fun _ => trivial) fun n4 hn4 => ?_
  simp -dsimp only [go_sem, Nat.reduceLT, Nat.reduceEqDiff, Nat.reduceAdd, Nat.reduceMul, Nat.reduceBEq, beq_self_eq_true, Nat.reduceLeDiff, Nat.le_refl, Int.reduceEq, reduceCtorEq, e1, e2, e3, vp1, vp2, vp3, xvp1, xvp2, xvp3, yp1, yp2, yp3, zp1, zp2, zp3, bne_self_eq_false, Bool.not_true, Bool.not_false, Bool.false_eq_true, Bool.true_eq_false, false_imp_iff, true_and, and_true, forall_const, reduceCtorEq]
  have hz := putObj_length x
  have cfm14 : ∀ E, Carry xv E v v := fun E => carry_own xvo vo (.inr (by omega))
  have cfm16 : ∀ E, Carry xv E y y := fun E => carry_own xvo yo (.inl (by omega))
  refine xcall_mk (markObj_p xv x (1) _ _ xvi xvo (by decide) (by omega)) (by simp -dsimp only [go_sem, Nat.reduceLT, Nat.reduceEqDiff, Nat.reduceAdd, Nat.reduceMul, Nat.reduceBEq, beq_self_eq_true, Nat.reduceLeDiff, Nat.le_refl, Int.reduceEq, reduceCtorEq, e1, e2, e3, vp1, vp2, vp3, xvp1, xvp2, xvp3, yp1, yp2, yp3]) xvp3 xvp4 ⟨trivial, trivial⟩ (fun t ht => hW t (by have := xvo.rg t ht; omega)) [7, 1, 5, 4, 6] (fun _ _ => .any) (fun E => upd (upd (fun _ => none) 1 (some (g1, b1, d))) 5 (some (g12, b12, E))) fun m1 nm1 hnm1 hm1 =>
      ⟨by simp -dsimp only [go_sem, Nat.reduceLT, Nat.reduceEqDiff, Nat.reduceAdd, Nat.reduceMul, Nat.reduceBEq, beq_self_eq_true, Nat.reduceLeDiff, Nat.le_refl, Int.reduceEq, reduceCtorEq, e1, e2, e3, vp1, vp2, vp3, xvp1, xvp2, xvp3, yp1, yp2, yp3, cfm14, cfm16], carry_any, ((CarR.none _ _ _).upd e3 (carry_lo xvo (by omega) dT)).upd (shp_obj _ _ hm1.rel).2.2.1 .here, ?_⟩
  have m1p := shp_obj _ _ hm1.rel
  have m1p1 := m1p.1
  have m1p2 := m1p.2.1
  have m1p3 := m1p.2.2.1
  have m1p4 := m1p.2.2.2
  have m1o := hm1.own xvo
  have m1i := hm1.rel
  have hk : ¬ (1 + (Md.szObj x : Nat) < (0 : Int)) := by omega
  simp -dsimp only [go_sem, Nat.reduceLT, Nat.reduceEqDiff, Nat.reduceAdd, Nat.reduceMul, Nat.reduceBEq, beq_self_eq_true, Nat.reduceLeDiff, Nat.le_refl, Int.reduceEq, reduceCtorEq, e1, e2, e3, vp1, vp2, vp3, xvp1, xvp2, xvp3, yp1, yp2, yp3, m1p1, m1p2, m1p3, hk, bne_self_eq_false, Bool.not_true, Bool.not_false, Bool.false_eq_true, Bool.true_eq_false, false_imp_iff, true_and, and_true, forall_const, reduceCtorEq, decide_false]
  refine xcall_v (eqByteS_p _ _ _ yi vi) (by simp -dsimp only [go_sem, Nat.reduceLT, Nat.reduceEqDiff, Nat.reduceAdd, Nat.reduceMul, Nat.reduceBEq, beq_self_eq_true, Nat.reduceLeDiff, Nat.le_refl, Int.reduceEq, reduceCtorEq, rl_still, yp4, vp4]) (fun _ => trivial) fun n4 hn4 => ?_
  simp -dsimp only [go_sem, Nat.reduceLT, Nat.reduceEqDiff, Nat.reduceAdd, Nat.reduceMul, Nat.reduceBEq, beq_self_eq_true, Nat.reduceLeDiff, Nat.le_refl, Int.reduceEq, reduceCtorEq, e1, e2, e3, vp1, vp2, vp3, xvp1, xvp2, xvp3, yp1, yp2, yp3, m1p1, m1p2, m1p3, hk, decide_false, bne_self_eq_false, Bool.not_true, Bool.not_false, Bool.false_eq_true, Bool.true_eq_false, false_imp_iff, true_and, and_true, forall_const, reduceCtorEq]
  have cfm34 : ∀ E, Carry y E v v := fun E => carry_own yo vo (.inr (by omega))
  refine xcall_mk (markByteS_p y _ (1) _ _ yi yo (by decide) (by omega)) (by simp -dsimp only [go_sem, Nat.reduceLT, Nat.reduceEqDiff, Nat.reduceAdd, Nat.reduceMul, Nat.reduceBEq, beq_self_eq_true, Nat.reduceLeDiff, Nat.le_refl, Int.reduceEq, reduceCtorEq, e1, e2, e3, vp1, vp2, vp3, xvp1, xvp2, xvp3, yp1, yp2, yp3, m1p1, m1p2, m1p3, hk]) yp3 yp4 ⟨trivial, trivial⟩ (fun t ht => hW t (by have := yo.rg t ht; omega)) [7, 1, 5, 4] (fun E => upd (fun _ => .any) 6 E) (fun E => upd (upd (fun _ => none) 1 (some (g1, b1, d))) 5 (some (g12, b12, m1))) fun m3 nm3 hnm3 hm3 =>
      ⟨by simp -dsimp only [go_sem, Nat.reduceLT, Nat.reduceEqDiff, Nat.reduceAdd, Nat.reduceMul, Nat.reduceBEq, beq_self_eq_true, Nat.reduceLeDiff, Nat.le_refl, Int.reduceEq, reduceCtorEq, e1, e2, e3, vp1, vp2, vp3, xvp1, xvp2, xvp3, yp1, yp2, yp3, m1p1, m1p2, m1p3, hk, cfm34], carry_upd (by simp -dsimp only [go_sem, Nat.reduceLT, Nat.reduceEqDiff, Nat.reduceAdd, Nat.reduceMul, Nat.reduceBEq, beq_self_eq_true, Nat.reduceLeDiff, Nat.le_refl, Int.reduceEq, reduceCtorEq, e1, e2, e3, vp1, vp2, vp3, xvp1, xvp2, xvp3, yp1, yp2, yp3, m1p1, m1p2, m1p3, hk]; exact .here) carry_any, ((CarR.none _ _ _).upd e3 (carry_lo yo (by omega) dT)).upd m1p3 (carry_own yo m1o (.inr (by omega))), ?_⟩
  have m3p1 := hm3.rel.size
  have m3p2 := hm3.rel.isNode
  have m3p3 := hm3.rel.plain
  have m3p4 := hm3.rel.still
  have m3o := hm3.own yo
  have m3i := hm3.rel
  simp -dsimp only [go_sem, Nat.reduceLT, Nat.reduceEqDiff, Nat.reduceAdd, Nat.reduceMul, Nat.reduceBEq, beq_self_eq_true, Nat.reduceLeDiff, Nat.le_refl, Int.reduceEq, reduceCtorEq, e1, e2, e3, vp1, vp2, vp3, xvp1, xvp2, xvp3, yp1, yp2, yp3, m1p1, m1p2, m1p3, hk, m3p1, m3p2, m3p3]
  refine xcall_v (heldBytes_p _ _ (1) m3i (by decide) (by omega)) (by simp -dsimp only [go_sem, Nat.reduceLT, Nat.reduceEqDiff, Nat.reduceAdd, Nat.reduceMul, Nat.reduceBEq, beq_self_eq_true, Nat.reduceLeDiff, Nat.le_refl, Int.reduceEq, reduceCtorEq, rl_still, m3p4]) (fun _ => trivial) fun n7 hn7 => ?_
  have hk2 : ¬ (1 + ((Md.putObj x).length : Nat) < (0 : Int)) := by omega
  simp -dsimp only [go_sem, Nat.reduceLT, Nat.reduceEqDiff, Nat.reduceAdd, Nat.reduceMul, Nat.reduceBEq, beq_self_eq_true, Nat.reduceLeDiff, Nat.le_refl, Int.reduceEq, reduceCtorEq, e1, e2, e3, vp1, vp2, vp3, xvp1, xvp2, xvp3, yp1, yp2, yp3, m1p1, m1p2, m1p3, hk, m3p1, m3p2, m3p3, hk2, bne_self_eq_false, Bool.not_true, Bool.not_false, Bool.false_eq_true, Bool.true_eq_false, false_imp_iff, true_and, and_true, forall_const, reduceCtorEq, decide_false]
  refine xcall_p (toObj_p _ _ h hs) (by simp -dsimp only [go_sem, Nat.reduceLT, Nat.reduceEqDiff, Nat.reduceAdd, Nat.reduceMul, Nat.reduceBEq, beq_self_eq_true, Nat.reduceLeDiff, Nat.le_refl, Int.reduceEq, reduceCtorEq, rl_still, e4]) fun r2lo r2hi r2 hr2lo hr2hi hr2 => ?_
  have r2o := hr2.2
  have r2i := hr2.1
  have r2p := shp_obj _ _ r2i
  have r2p1 := r2p.1
  have r2p2 := r2p.2.1
  have r2p3 := r2p.2.2.1
  have r2p4 := r2p.2.2.2
  refine ⟨r2o.tags, ?_⟩
  simp -dsimp only [go_sem, Nat.reduceLT, Nat.reduceEqDiff, Nat.reduceAdd, Nat.reduceMul, Nat.reduceBEq, beq_self_eq_true, Nat.reduceLeDiff, Nat.le_refl, Int.reduceEq, reduceCtorEq, e1, e2, e3, vp1, vp2, vp3, xvp1, xvp2, xvp3, yp1, yp2, yp3, m1p1, m1p2, m1p3, hk, m3p1, m3p2, m3p3, hk2, r2p1, r2p2, r2p3]
  refine xcall_p (implPutObj_p _ _ r2i) (by simp -dsimp only [go_sem, Nat.reduceLT, Nat.reduceEqDiff, Nat.reduceAdd, Nat.reduceMul, Nat.reduceBEq, beq_self_eq_true, Nat.reduceLeDiff, Nat.le_refl, Int.reduceEq, reduceCtorEq, rl_still, r2p4]) fun hvlo hvhi hv hhvlo hhvhi hhvw => ?_
  have hhv := hhvw
  have hvo := hhv.2
  have hvi := hhv.1
  have hvp1 := hvi.size
  have hvp2 := hvi.isNode
  have hvp3 := hvi.plain
  have hvp4 := hvi.still
  refine ⟨hvo.tags, ?_⟩
  simp -dsimp only [go_sem, Nat.reduceLT, Nat.reduceEqDiff, Nat.reduceAdd, Nat.reduceMul, Nat.reduceBEq, beq_self_eq_true, Nat.reduceLeDiff, Nat.le_refl, Int.reduceEq, reduceCtorEq, e1, e2, e3, vp1, vp2, vp3, xvp1, xvp2, xvp3, yp1, yp2, yp3, m1p1, m1p2, m1p3, hk, m3p1, m3p2, m3p3, hk2, r2p1, r2p2, r2p3, hvp1, hvp2, hvp3]
  refine xcall_v (eqByteS_p _ _ _ hvi vi) (by simp -dsimp only [go_sem, Nat.reduceLT, Nat.reduceEqDiff, Nat.reduceAdd, Nat.reduceMul, Nat.reduceBEq, beq_self_eq_true, Nat.reduceLeDiff, Nat.le_refl, Int.reduceEq, reduceCtorEq, rl_still, hvp4, vp4]) (fun _ => trivial) fun n4 hn4 => ?_
  simp -dsimp only [go_sem, Nat.reduceLT, Nat.reduceEqDiff, Nat.reduceAdd, Nat.reduceMul, Nat.reduceBEq, beq_self_eq_true, Nat.reduceLeDiff, Nat.le_refl, Int.reduceEq, reduceCtorEq, e1, e2, e3, vp1, vp2, vp3, xvp1, xvp2, xvp3, yp1, yp2, yp3, m1p1, m1p2, m1p3, hk, m3p1, m3p2, m3p3, hk2, hvp1, hvp2, hvp3, decide_false, bne_self_eq_false, Bool.not_true, Bool.not_false, Bool.false_eq_true, Bool.true_eq_false, false_imp_iff, true_and, and_true, forall_const, reduceCtorEq]
  refine xcall_v (heldBytes_p _ _ (1) m3i (by decide) (by omega)) (by simp -dsimp only [go_sem, Nat.reduceLT, Nat.reduceEqDiff, Nat.reduceAdd, Nat.reduceMul, Nat.reduceBEq, beq_self_eq_true, Nat.reduceLeDiff, Nat.le_refl, Int.reduceEq, reduceCtorEq, rl_still, m3p4]) (fun _ => trivial) fun n9 hn9 => ?_
  simp -dsimp only [go_sem, Nat.reduceLT, Nat.reduceEqDiff, Nat.reduceAdd, Nat.reduceMul, Nat.reduceBEq, beq_self_eq_true, Nat.reduceLeDiff, Nat.le_refl, Int.reduceEq, reduceCtorEq, e1, e2, e3, vp1, vp2, vp3, xvp1, xvp2, xvp3, yp1, yp2, yp3, m1p1, m1p2, m1p3, hk, m3p1, m3p2, m3p3, hk2, hvp1, hvp2, hvp3, bne_self_eq_false, Bool.not_true, Bool.not_false, Bool.false_eq_true, Bool.true_eq_false, false_imp_iff, true_and, and_true, forall_const, reduceCtorEq, decide_false]
end Go.Proofs.Ytpepddckmddbiaa.IM
end
