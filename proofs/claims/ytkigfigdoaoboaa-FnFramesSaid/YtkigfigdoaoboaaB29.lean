/- Several of my texts in one module (merge.py). -/
import Derived.Test.YtkigfigdoaoboaaB22
import Derived.Test.YtkigfigdoaoboaaB8
import Derived.Test.YtkigfigdoaoboaaB28
section
/- Contracts: drawn bytes. Printed by draws10.py. -/
namespace Go.Proofs.Ytkigfigdoaoboaa.IM
open Go Go.Proofs
set_option linter.unusedVariables false
set_option linter.unusedSimpArgs false
set_option maxHeartbeats 2000000
set_option maxRecDepth 20000

theorem cxb_end {e c cc r : D} {N n0 n1 : Nat} {A : D → Prop} (hc : Cur e N c) (hcc : Cur e N cc) (hd : e.data) (hr : A r) (ho : Own n0 n1 r) : BEnd (CurX e N A) c n0 n1 cc r :=
  ⟨⟨hcc, hr, ho⟩, hcc.shape.2.2.1, cur_tags hc hcc hd, tags_of_tl (whole_data ho.wh) fun t ht => .inr (ho.rg t ht).1⟩
theorem rg_snoc {ys : List Int} {v : Int} (h : ∀ j (h : j < ys.length), 0 ≤ ys[j] ∧ ys[j] < 256) (v0 : 0 ≤ v) (v1 : v < 256) : ∀ j (h : j < (ys ++ [v]).length), 0 ≤ (ys ++ [v])[j] ∧ (ys ++ [v])[j] < 256 := fun j hj => by
  by_cases e : j < ys.length
  · rw [List.getElem_append_left e]; exact h j e
  · rw [List.getElem_append_right (by omega)]; simpa using ⟨v0, v1⟩
/-- bytes that are appended, in a root -/
def GBy (l m : Nat) (ys : List Int) (hd : D) (R R' : Roots) : Prop :=
  ∃ g b f, hd = .msl l g 0 [] 0 ys.length 1 ∧ m ≤ b ∧ R' = upd R l (some (g, b, .node (.arr ys.length 1) f)) ∧ ByteRow f ys
theorem l1Bytes_b (e c : D) (xs : List Int) (n : Int) (h : IsL 1 IsByte e xs) (hd : e.data) (hc : Cur e xs.length c) (hn0' : 0 ≤ n) (hn1' : n ≤ 100) : BCall Try.prog 176 .nil c [.lit (.int .i64 n)] (CurX e xs.length fun r => r ≠ .nil ∧ ∃ ys : List Int, ys.length = n.toNat ∧ IsL 1 IsByte r ys ∧ ∀ i (h : i < ys.length), 0 ≤ ys[i] ∧ ys[i] < 256) := by
  have sc := hc.shape
  refine bcall_intro Try.func176 rfl (by decide) rfl (by decide) (by rw [Try.ntmps176]; simp) fun w0 M n0 gb hW hS hT hgb => ivc_sound ?_; simp -dsimp only [Try.f176, go_sem, sc.1, sc.2.1, sc.2.2.1]
  intro g7 b7 hb7
  have sc0 := sc
  refine iwp_forR n.toNat [0, 1, 4] (fun i n' s R => s 6 = .lit (.int .i64 i) ∧ ∃ (cc hd' : D) (ys : List Int), Cur e xs.length cc ∧ s 5 = hd' ∧ ys.length = i ∧ (∀ j (h : j < ys.length), 0 ≤ ys[j] ∧ ys[j] < 256) ∧
      GBy 7 n0 ys hd' (upd (fun _ => none) 1000 (some (0, gb, cc))) R) 0 (Nat.zero_le _)
    ⟨by simp -dsimp only [go_sem] <;> rfl, c, _, [], hc, by simp -dsimp only [go_sem] <;> rfl, rfl, fun j h => absurd h (by simp), g7, b7, _, rfl, hb7, rfl, ByteRow.nil (fun _ => D.lit (.int .u8 0)) fun _ => trivial⟩ ?_
  rintro i n' s R hi hn hk ⟨h6, cc, hd', ys, hcc, h5, hys, hrg, hG⟩
  refine ivc_sound ?_
  simp -dsimp only [go_sem] at hk
  have scc := hcc.shape
  have hn9 : b7 + 1 ≤ n' := hn
  have hnn : (n.toNat : Int) = n := Int.toNat_of_nonneg hn0'
  by_cases hlt : i < n.toNat
  · have hpos : (i : Int) < n := by omega
    have hw := i64_succ (i := i) (by omega)
    obtain ⟨g8, b8, f8, rfl, hb8, rfl, hF⟩ := hG
    simp -dsimp only [go_sem, hk, h5, h6, hpos]
    refine xcall_cs (l := 1000) (g := 0) (b := gb) (l1Byte_b e cc xs h hd hcc) (by simp -dsimp only [go_sem, hk]) trivial (by simp -dsimp only [go_sem]) scc.2.2.2 fun m1 m2 c3 r hm1 hm2 hq => ?_
    obtain ⟨hc3, v, rfl, v0, v1⟩ := hq
    have sc3 := hc3.shape
    have hwv : IntKind.u8.wrap v = v := by unfold IntKind.wrap; simp [IntKind.bits, IntKind.signed]; omega
    simp -dsimp only [go_sem, hk, h5, h6, hpos, sc3.1, sc3.2.1, sc3.2.2.1, hwv]
    have hm1' : n' ≤ m1 := hm1
    intro g6 b6 hb6
    have hb6' : m2 ≤ b6 := hb6
    refine ⟨fun y h => h.symm, by omega, by omega, fun g9 b9 n2 hn2 hb9 hb11 => ?_⟩
    have hb10 : n0 ≤ b9 := by rcases hb11 with h | h <;> omega
    refine ⟨hlt, into_rd (R' := upd (upd (fun _ => none) 1000 (some (0, gb, c3))) 7 (some (g9, b9, .node (.arr (ys.length + 1) 1) (catD ys.length f8 (upd (fun _ => .lit (.int .u8 0)) 0 (.lit (.int .u8 v))))))) (fun j => by
      by_cases h2 : j = 17
      · subst h2; right; simp [upd]
      · by_cases h3 : j = 7
        · subst h3; left; simp [upd]
        · left; simp [upd, h2, h3]) (by omega) (by simp -dsimp only [go_sem, hk])
      ⟨by simp -dsimp only [go_sem, hw], c3, _, ys ++ [v], hc3, by simp -dsimp only [go_sem] <;> rfl, by simp at hys ⊢; omega, rg_snoc hrg v0 v1, g9, b9, _, by rw [List.length_append]; rfl, hb10, by rw [List.length_append]; rfl, hF.cat (z := fun _ => .lit (.int .u8 0)) fun _ => trivial⟩⟩
  · have hni : ¬ (i : Int) < n := by omega
    obtain ⟨g8, b8, f8, rfl, hb8, rfl, hF⟩ := hG
    simp -dsimp only [go_sem, hk, h5, h6, hni, scc.1, scc.2.1, scc.2.2.1]
    refine ⟨_, rfl, fun n1 hn1 hfc => ?_⟩
    have hn1' : n' ≤ n1 := hn1
    rw [rl_still scc.2.2.2, rls_still hF.1]
    have hB := hF.own (b := b8) (n0 := n0) (n1 := n1) (by omega) (by omega) (hfc.lt 7 _ _ _ (by simp -dsimp only [go_sem]; rfl))
    exact cxb_end hc hcc hd ⟨fun hx => (by cases hx), ys, by omega, hB.1, hrg⟩ hB.2
/-- few bytes -/
def SomeA (r : D) : Prop := r ≠ .nil ∧ ∃ ys : List Int, ys.length ≤ 9 ∧ IsL 1 IsByte r ys ∧ ∀ i (h : i < ys.length), 0 ≤ ys[i] ∧ ys[i] < 256
theorem in01259 {j : Nat} (h : j < ([0, 1, 2, 5, 9] : List Int).length) : 0 ≤ ([0, 1, 2, 5, 9] : List Int)[j] ∧ ([0, 1, 2, 5, 9] : List Int)[j] ≤ 9 := by
  have h' : j < 5 := h
  match j, h' with
  | 0, _ => show (0 : Int) ≤ 0 ∧ (0 : Int) ≤ 9; decide
  | 1, _ => show (0 : Int) ≤ 1 ∧ (1 : Int) ≤ 9; decide
  | 2, _ => show (0 : Int) ≤ 2 ∧ (2 : Int) ≤ 9; decide
  | 3, _ => show (0 : Int) ≤ 5 ∧ (5 : Int) ≤ 9; decide
  | 4, _ => show (0 : Int) ≤ 9 ∧ (9 : Int) ≤ 9; decide
theorem l1Some_b (e c : D) (xs : List Int) (h : IsL 1 IsByte e xs) (hd : e.data) (hc : Cur e xs.length c) : BCall Try.prog 95 .nil c [] (CurX e xs.length SomeA) := by
  have sc := hc.shape
  refine bcall_intro Try.func95 rfl (by decide) rfl (by decide) (by rw [Try.ntmps95]; simp) fun w0 M n0 gb hW hS hT hgb => ivc_sound ?_; simp -dsimp only [Try.f95, go_sem, sc.1, sc.2.1, sc.2.2.1]
  intro g5 b5 hb5
  refine xcall_c (rest0 := [.msl 5 g5 0 [] 0 5 1]) (l := 1000) (g := 0) (b := gb) (l1Int_b e c _ xs [0, 1, 2, 5, 9] h hd hc (isL_LD b5 (vals := [0, 1, 2, 5, 9]) (by simp)) (by simp) (by simp)) (by simp -dsimp only [go_sem]) (by
    simp -dsimp only [go_sem]
    exact congrArg (fun f => [D.sl b5 true 5 1 f]) (lits fun i => by match i with | 0 => rfl | 1 => rfl | 2 => rfl | 3 => rfl | 4 => rfl | i + 5 => rfl)) (by simp -dsimp only [go_sem]) sc.2.2.2 fun m1 m2 c3 r hm1 hm2 hq => ?_
  obtain ⟨hc3, j4, hj4, hr4⟩ := hq
  obtain ⟨u, hu4, u0, u1⟩ : ∃ u : Int, r = .lit (.int .i64 u) ∧ 0 ≤ u ∧ u ≤ 9 := ⟨_, hr4, in01259 hj4⟩
  subst hu4
  have sc3 := hc3.shape
  simp -dsimp only [go_sem, sc3.1, sc3.2.1, sc3.2.2.1]
  refine xcall_cs (l := 1000) (g := 0) (b := gb) (l1Bytes_b e c3 xs u h hd hc3 u0 (by omega)) (by simp -dsimp only [go_sem]) ⟨trivial, trivial⟩ (by simp -dsimp only [go_sem]) sc3.2.2.2 fun m3 m4 c4 r hm3 hm4 hq => ?_
  obtain ⟨hc4, ⟨hnn, ys, hyl, hy, hyr⟩, ho⟩ := hq
  have sc4 := hc4.shape
  have hm3' : m2 ≤ m3 := hm3
  have hm1' : b5 + 1 ≤ m1 := hm1
  simp -dsimp only [go_sem, sc4.1, sc4.2.1, sc4.2.2.1]
  refine ⟨_, rfl, fun n1 hn1 hfc => ?_⟩
  have hn1' : m4 ≤ n1 := hn1
  rw [rl_still sc4.2.2.2, rl_still hy.still]
  exact cxb_end hc hc4 hd ⟨hnn, ys, by omega, hy, hyr⟩ (ho.mono (by omega) (by omega))
def CurI (e : D) (N : Nat) (_ _ : Nat) (d' r : D) : Prop := Cur e N d' ∧ ∃ v : Int, r = .lit (.int .i64 v)
theorem l1Big_b (e c : D) (xs : List Int) (n : Int) (h : IsL 1 IsByte e xs) (hd : e.data) (hc : Cur e xs.length c) (hn1 : 256 < n) : BCall Try.prog 110 .nil c [.lit (.int .i64 n)] (CurI e xs.length) := by
  have sc := hc.shape
  have hz : ¬ n ≤ 0 := by omega
  have hne : ¬ n = 0 := by omega
  have hn1' : ¬ n ≤ 256 := by omega
  refine bcall_intro Try.func110 rfl (by decide) rfl (by decide) (by rw [Try.ntmps110]; simp) fun w0 M n0 gb hW hS hT hgb => ivc_sound ?_; simp -dsimp only [Try.f110, go_sem, sc.1, sc.2.1, sc.2.2.1, hz, hn1']
  refine xcall_cs (l := 1000) (g := 0) (b := gb) (l1Byte_b e c xs h hd hc) (by simp -dsimp only [go_sem]) trivial (by simp -dsimp only [go_sem]) sc.2.2.2 fun n00 n01 c1 r hn00 hn01 hq => ?_
  obtain ⟨hc1, v1, rfl, v10, v11⟩ := hq
  have sc1 := hc1.shape
  simp -dsimp only [go_sem, sc1.1, sc1.2.1, sc1.2.2.1, hne]
  refine xcall_cs (l := 1000) (g := 0) (b := gb) (l1Byte_b e c1 xs h hd hc1) (by simp -dsimp only [go_sem]) trivial (by simp -dsimp only [go_sem]) sc1.2.2.2 fun n10 n11 c2 r hn10 hn11 hq => ?_
  obtain ⟨hc2, v2, rfl, v20, v21⟩ := hq
  have sc2 := hc2.shape
  simp -dsimp only [go_sem, sc2.1, sc2.2.1, sc2.2.2.1, hne]
  refine xcall_cs (l := 1000) (g := 0) (b := gb) (l1Byte_b e c2 xs h hd hc2) (by simp -dsimp only [go_sem]) trivial (by simp -dsimp only [go_sem]) sc2.2.2.2 fun n20 n21 c3 r hn20 hn21 hq => ?_
  obtain ⟨hc3, v3, rfl, v30, v31⟩ := hq
  have sc3 := hc3.shape
  simp -dsimp only [go_sem, sc3.1, sc3.2.1, sc3.2.2.1, hne]
  refine ⟨_, rfl, fun n1 hn1 hfc => ?_⟩
  rw [rl_still sc3.2.2.2]
  try simp -dsimp only [go_sem, rl_lit]
  exact ⟨⟨hc3, _, rfl⟩, sc3.2.2.1, cur_tags hc hc3 hd, trivial⟩
theorem l1Number_b (e c : D) (xs : List Int) (h : IsL 1 IsByte e xs) (hd : e.data) (hc : Cur e xs.length c) : BCall Try.prog 96 .nil c [] (CurI e xs.length) := by
  have sc := hc.shape
  refine bcall_intro Try.func96 rfl (by decide) rfl (by decide) (by rw [Try.ntmps96]; simp) fun w0 M n0 gb hW hS hT hgb => ivc_sound ?_; simp -dsimp only [Try.f96, go_sem, sc.1, sc.2.1, sc.2.2.1]
  refine xcall_cs (l := 1000) (g := 0) (b := gb) (l1Big_b e c xs 100000 h hd hc (by decide)) (by simp -dsimp only [go_sem]) ⟨trivial, trivial⟩ (by simp -dsimp only [go_sem]) sc.2.2.2 fun n5 n6 c1 r hn5 hn6 hq => ?_
  obtain ⟨hc1, z, rfl⟩ := hq
  have sc1 := hc1.shape
  simp -dsimp only [go_sem, sc1.1, sc1.2.1, sc1.2.2.1]
  intro g6 b6 hb6
  refine xcall_c (rest0 := [.msl 6 g6 0 [] 0 15 1]) (l := 1000) (g := 0) (b := gb) (l1Int_b e c1 _ xs [0, 1, -1, 63, 64, -64, -65, 8191, 8192, 1000000000000, -1000000000000, 1000000000001, -9223372036854775808, 9223372036854775807, z] h hd hc1 (isL_LD b6 (vals := [0, 1, -1, 63, 64, -64, -65, 8191, 8192, 1000000000000, -1000000000000, 1000000000001, -9223372036854775808, 9223372036854775807, z]) (by simp)) (by simp) (by simp)) (by simp -dsimp only [go_sem]) (by
    simp -dsimp only [go_sem]
    exact congrArg (fun f => [D.sl b6 true 15 1 f]) (lits fun i => by match i with | 0 => rfl | 1 => rfl | 2 => rfl | 3 => rfl | 4 => rfl | 5 => rfl | 6 => rfl | 7 => rfl | 8 => rfl | 9 => rfl | 10 => rfl | 11 => rfl | 12 => rfl | 13 => rfl | 14 => rfl | i + 15 => rfl)) (by simp -dsimp only [go_sem]) sc1.2.2.2 fun m1 m2 c3 r hm1 hm2 hq => ?_
  obtain ⟨hc3, j4, hj4, hr4⟩ := hq
  obtain ⟨u, hu4⟩ : ∃ u : Int, r = .lit (.int .i64 u) := ⟨_, hr4⟩
  subst hu4
  have sc3 := hc3.shape
  simp -dsimp only [go_sem, sc3.1, sc3.2.1, sc3.2.2.1]
  refine ⟨_, rfl, fun n1 hn1 hfc => ?_⟩
  rw [rl_still sc3.2.2.2]
  try simp -dsimp only [go_sem, rl_lit]
  exact ⟨⟨hc3, _, rfl⟩, sc3.2.2.1, cur_tags hc hc3 hd, trivial⟩
end Go.Proofs.Ytkigfigdoaoboaa.IM
end

section
/- Numbers and texts come back of their bytes. Printed by ints.py. -/
namespace Go.Proofs.Ytkigfigdoaoboaa.IM
open Go Go.Proofs
set_option linter.unusedVariables false
set_option linter.unusedSimpArgs false
set_option maxHeartbeats 2000000
set_option maxRecDepth 20000

theorem and7_fin : ∀ c : Fin 256, and7 (c.val : Int) = ((c.val % 128 : Nat) : Int) := by decide +kernel
theorem and7_eq {c : Nat} (h : c < 256) : and7 (c : Int) = ((c % 128 : Nat) : Int) := and7_fin ⟨c, h⟩
theorem scan_groups : ∀ (j k m : Nat) (acc : Int) (rest : List Int), k < 6 → m < 128 ^ (6 - k) → 6 - k ≤ j + 1 → (k = 0 ∨ 0 < m) → scanG k acc (Md.groupsOf j m ++ rest) = some (acc + m * 128 ^ k, k + (Md.groupsOf j m).length) := by
  intro j
  induction j with
  | zero =>
    intro k m acc rest hk hm hj hz
    have hk5 : k = 5 := by omega
    subst hk5
    have hm : m < 128 := by simpa using hm
    rw [groups_last (by omega), List.singleton_append, scanG_end hk (by omega) (by omega), and7_eq (by omega), Nat.mod_eq_of_lt (by omega)]; rfl
  | succ j ih =>
    intro k m acc rest hk hm hj hz
    by_cases h : m ≤ 127
    · rw [groups_last h, List.singleton_append, scanG_end hk (by omega) (by omega), and7_eq (by omega), Nat.mod_eq_of_lt (by omega)]; rfl
    · have hk4 : k < 5 := by
        rcases Nat.lt_or_ge k 5 with h5 | h5
        · exact h5
        · have : k = 5 := by omega
          subst this
          have : m < 128 := by simpa using hm
          omega
      have hp : 128 ^ (6 - k) = 128 ^ (6 - (k + 1)) * 128 := by rw [← Nat.pow_succ]; congr 1; omega
      rw [hp] at hm
      rw [groups_more (by omega), List.cons_append, scanG_more hk (by omega), and7_eq (by omega), ih (k + 1) (m / 128) _ rest (by omega) (by omega) (by omega) (by omega)]
      have e1 : (m % 128 + 128) % 128 = m % 128 := by omega
      rw [e1, List.length_cons]
      have e2 : (m : Int) = ((m % 128 : Nat) : Int) + ((m / 128 : Nat) : Int) * 128 := by omega
      have e3 : acc + ((m % 128 : Nat) : Int) * 128 ^ k + ((m / 128 : Nat) : Int) * 128 ^ (k + 1) = acc + (m : Int) * 128 ^ k := by
        have e4 : (m : Int) * 128 ^ k = ((m % 128 : Nat) : Int) * 128 ^ k + ((m / 128 : Nat) : Int) * (128 * 128 ^ k) := by
          rw [← Int.mul_assoc, ← Int.add_mul, ← e2]
        rw [e4, Int.pow_succ, Int.mul_comm (128 ^ k) 128]
        omega
      rw [e3]
      congr 2
      omega
theorem scan_cut : ∀ (j k m : Nat) (acc : Int), k < 6 → m < 128 ^ (6 - k) → 6 - k ≤ j + 1 → scanG k acc (Md.groupsOf j m).dropLast = none := by
  intro j
  induction j with
  | zero =>
    intro k m acc hk hm hj
    have hk5 : k = 5 := by omega
    subst hk5
    have hm : m < 128 := by simpa using hm
    rw [groups_last (by omega)]; rfl
  | succ j ih =>
    intro k m acc hk hm hj
    by_cases h : m ≤ 127
    · rw [groups_last h]; rfl
    · have hk4 : k < 5 := by
        rcases Nat.lt_or_ge k 5 with h5 | h5
        · exact h5
        · have : k = 5 := by omega
          subst this
          have : m < 128 := by simpa using hm
          omega
      have hp : 128 ^ (6 - k) = 128 ^ (6 - (k + 1)) * 128 := by rw [← Nat.pow_succ]; congr 1; omega
      rw [hp] at hm
      have hne : Md.groupsOf j (m / 128) ≠ [] := by intro e; have := congrArg List.length e; cases j <;> (unfold Md.groupsOf at this; try split at this) <;> simp at this
      rw [groups_more (by omega), List.dropLast_cons_of_ne_nil hne, scanG_more hk (by omega)]
      exact ih (k + 1) (m / 128) _ (by omega) (by omega) (by omega)
theorem groups_rg : ∀ (j m : Nat), ∀ c ∈ Md.groupsOf j m, 0 ≤ c ∧ c < 256
  | 0, m => by intro c hc; unfold Md.groupsOf at hc; simp at hc; omega
  | j + 1, m => by
    intro c hc
    unfold Md.groupsOf at hc
    split at hc
    · rcases List.mem_cons.1 hc with rfl | hc
      · omega
      · exact groups_rg j (m / 128) c hc
    · simp at hc; omega
theorem wrap_rg {xs : List Int} (h : ∀ c ∈ xs, 0 ≤ c ∧ c < 256) : xs.map IntKind.i64.wrap = xs := by
  conv => rhs; rw [← List.map_id xs]
  refine List.map_congr_left fun c hc => ?_
  have := h c hc
  exact w64 (by omega) (by omega)
theorem unz_zg (n : Int) : unz (zg n) = Md.clampI n := by
  have := clamp_rg n
  unfold unz zg Md.zig
  split <;> split <;> omega
theorem zg_lt6 (n : Int) : zg n < 128 ^ (6 - 0) := by have := zg_le n; omega
theorem clamp_in (n : Int) : Md.inB (Md.clampI n) (-1000000000000) 1000000000000 = true := (inB_iff2 _ _ _).2 (clamp_rg n)
theorem getInt_back {b rest : List Int} {n : Int} (hb : ∀ c ∈ b, 0 ≤ c ∧ c < 256) (hr : ∀ c ∈ rest, 0 ≤ c ∧ c < 256) : getInt (Md.putInt b n ++ rest) b.length = (Md.clampI n, ((Md.putInt b n).length : Int), true) := by
  have hp := putInt_pos [] n
  have hl : (Md.putInt b n).length = b.length + (Md.groupsOf 9 (zg n)).length := by rw [putInt_eq, List.length_append]
  have hl0 : 0 < (Md.groupsOf 9 (zg n)).length := by rw [putInt_eq] at hp; simpa using hp
  have hs := scan_groups 9 0 (zg n) 0 rest (by decide) (zg_lt6 n) (by decide) (.inl rfl)
  have hw : (Md.putInt b n ++ rest).map IntKind.i64.wrap = Md.putInt b n ++ rest := wrap_rg fun c hc => by
    rw [putInt_eq] at hc
    rcases List.mem_append.1 hc with hc | hc
    · rcases List.mem_append.1 hc with hc | hc
      · exact hb c hc
      · exact groups_rg _ _ c hc
    · exact hr c hc
  have hd : ((Md.putInt b n ++ rest).map IntKind.i64.wrap).drop ((b.length : Int)).toNat = Md.groupsOf 9 (zg n) ++ rest := by
    rw [hw, putInt_eq, List.append_assoc, Int.toNat_natCast, List.drop_left]
  have h := getInt_some (xs := Md.putInt b n ++ rest) (a := (b.length : Int)) (by rw [List.length_append]; omega) (by rw [hd]; exact hs)
  rw [h]
  have e : (0 : Int) + (zg n : Int) * 128 ^ 0 = (zg n : Int) := by simp
  rw [e, unz_zg, clamp_in, if_pos rfl, hl]
  simp
theorem getInt_cut {b : List Int} {n : Int} (hb : ∀ c ∈ b, 0 ≤ c ∧ c < 256) : (getInt (Md.putInt b n).dropLast b.length).2.2 = false := by
  have hl : (Md.putInt b n).length = b.length + (Md.groupsOf 9 (zg n)).length := by rw [putInt_eq, List.length_append]
  have hp := putInt_pos [] n
  have hl0 : 0 < (Md.groupsOf 9 (zg n)).length := by rw [putInt_eq] at hp; simpa using hp
  have hne : Md.groupsOf 9 (zg n) ≠ [] := by intro e; rw [e] at hl0; simp at hl0
  have he : (Md.putInt b n).dropLast = b ++ (Md.groupsOf 9 (zg n)).dropLast := by rw [putInt_eq, List.dropLast_append_of_ne_nil hne]
  by_cases h : (b.length : Int) < ((Md.putInt b n).dropLast.length : Nat)
  · have hw : (Md.putInt b n).dropLast.map IntKind.i64.wrap = (Md.putInt b n).dropLast := wrap_rg fun c hc => by
      rw [he] at hc
      rcases List.mem_append.1 hc with hc | hc
      · exact hb c hc
      · exact groups_rg _ _ c (List.dropLast_subset _ hc)
    have hd : ((Md.putInt b n).dropLast.map IntKind.i64.wrap).drop ((b.length : Int)).toNat = (Md.groupsOf 9 (zg n)).dropLast := by
      rw [hw, he, Int.toNat_natCast, List.drop_left]
    rw [getInt_none ⟨by omega, h⟩ (by rw [hd]; exact scan_cut 9 0 (zg n) 0 (by decide) (zg_lt6 n) (by decide))]
  · have : getInt (Md.putInt b n).dropLast b.length = (0, 0, false) := by unfold getInt; rw [if_neg (fun hh => h hh.2)]
    rw [this]
theorem strOf_size (ns : List Int) : (strOf ns).size = ns.length := by
  have key : ∀ (l : List Int) (r : ByteArray), (l.foldl (fun r n => r.push (UInt8.ofNat n.toNat)) r).size = r.size + l.length := by
    intro l
    induction l with
    | nil => intro r; rfl
    | cons a l ih => intro r; rw [List.foldl_cons, ih, ByteArray.size_push, List.length_cons]; omega
  have := key ns ByteArray.empty
  unfold strOf
  rw [this]
  simp
theorem strOf_back (s : ByteArray) : strOf (strBytes s) = s := by
  have key : ∀ (l : List Int) (r : ByteArray), (l.foldl (fun r n => r.push (UInt8.ofNat n.toNat)) r).data = r.data ++ (l.map fun n => UInt8.ofNat n.toNat).toArray := by
    intro l
    induction l with
    | nil => intro r; simp
    | cons a l ih => intro r; rw [List.foldl_cons, ih]; simp [ByteArray.push]
  have h := key (strBytes s) ByteArray.empty
  have e : (strOf (strBytes s)).data = s.data := by
    unfold strOf
    rw [h]
    have : (strBytes s).map (fun n => UInt8.ofNat n.toNat) = s.data.toList := by
      refine List.ext_getElem (by rw [List.length_map, strBytes_length, Array.length_toList]; rfl) fun i h1 h2 => ?_
      have hi : i < s.size := by rw [Array.length_toList] at h2; exact h2
      simp only [strBytes, List.getElem_map, List.getElem_range, byteAt]
      rw [getElem?_pos s i hi]
      simp
      rfl
    rw [this]; show (#[] : Array UInt8) ++ s.data.toList.toArray = s.data; simp
  cases hs : strOf (strBytes s)
  cases s
  rw [hs] at e
  exact congrArg ByteArray.mk e
theorem byteAt_rg (s : ByteArray) : ∀ c ∈ strBytes s, 0 ≤ c ∧ c < 256 := by
  intro c hc
  obtain ⟨i, _, rfl⟩ := List.mem_map.1 hc
  unfold byteAt
  split
  · rename_i b _; have := b.toNat_lt; omega
  · omega
theorem getText_back {b : List Int} {s : ByteArray} (hb : ∀ c ∈ b, 0 ≤ c ∧ c < 256) (hs : s.size ≤ 1000000000000) : getText (Md.putInt b s.size ++ strBytes s) b.length = (s, ((Md.putInt b s.size ++ strBytes s).length : Int), true) := by
  have h := getInt_back (n := (s.size : Int)) hb (byteAt_rg s)
  have hc : Md.clampI (s.size : Int) = s.size := by unfold Md.clampI; omega
  rw [hc] at h
  have hl := strBytes_length s
  rw [getText_yes h (by rw [List.length_append]; simp; omega)]
  have e1 : ((Md.putInt b s.size ++ strBytes s).drop ((Md.putInt b s.size).length : Int).toNat).take (s.size : Int).toNat = strBytes s := by
    rw [Int.toNat_natCast, Int.toNat_natCast, List.drop_left, ← hl, List.take_length]
  rw [e1, strOf_back, List.length_append, hl]
  simp
end Go.Proofs.Ytkigfigdoaoboaa.IM
end

section
/- Contracts: the draws of numbers and texts. Printed by draws11.py. -/
namespace Go.Proofs.Ytkigfigdoaoboaa.IM
open Go Go.Proofs
set_option linter.unusedVariables false
set_option linter.unusedSimpArgs false
set_option maxHeartbeats 2000000
set_option maxRecDepth 20000

/-- few bytes and a number, drawn -/
def PutIntR (n0 n1 : Nat) (r : D) : Prop := ∃ (a : D) (k : Int), r = .tup 2 (nthD [a, .lit (.int .i64 k)]) ∧ SomeA a ∧ Own n0 n1 a
def PutTextR (n0 n1 : Nat) (r : D) : Prop := ∃ (a : D) (s : ByteArray), r = .tup 2 (nthD [a, .lit (.string s)]) ∧ SomeA a ∧ s.size ≤ 9 ∧ Own n0 n1 a
theorem drawPutInt_p (e : D) (xs : List Int) (h : IsL 1 IsByte e xs) (hd : e.data) : PCall Try.prog 18 [e] PutIntR := by
  refine pcall_intro Try.func18 rfl (by decide) rfl (by decide) (by rw [Try.ntmps18]; simp) fun w0 M n0 hW => ivc_sound ?_; simp -dsimp only [Try.f18, go_sem, h.lenT]
  refine xcall_ptr (l := 2300) (l1New_o e xs h) rfl (by simp -dsimp only [go_sem]) ⟨h.still, trivial⟩ fun n1 c G b' hn1 hst hpl hc hb1 hb2 => ?_
  have sc := hc.shape
  simp -dsimp only [go_sem, sc.1, sc.2.1, sc.2.2.1]
  refine xcall_cs (l := 2300) (g := G) (b := b') (l1Some_b e c xs h hd hc) (by simp -dsimp only [go_sem]) trivial (by simp -dsimp only [go_sem]) sc.2.2.2 fun m0 p0 c1 r0 hm0 hp0 hq => ?_
  obtain ⟨hc1, hA, ho⟩ := hq
  obtain ⟨hnn, ys, hyl, hy, hyr⟩ := id hA
  have sc1 := hc1.shape
  simp -dsimp only [go_sem, sc1.1, sc1.2.1, sc1.2.2.1]
  refine xcall_cs (l := 2300) (g := G) (b := b') (l1Number_b e c1 xs h hd hc1) (by simp -dsimp only [go_sem]) trivial (by simp -dsimp only [go_sem]) sc1.2.2.2 fun m1 p1 c2 r1 hm1 hp1 hq => ?_
  obtain ⟨hc2, v, rfl⟩ := hq
  have sc2 := hc2.shape
  simp -dsimp only [go_sem, sc2.1, sc2.2.1, sc2.2.2.1]
  intro n9 hn9 hfc
  have hm1' : p0 ≤ m1 := hm1
  have hn9' : p1 ≤ n9 := hn9
  have hm0' : n1 ≤ m0 := hm0
  rw [rl_still hy.still]
  exact ⟨_, _, rfl, hA, ho.mono (by omega) (by omega)⟩
theorem drawPutText_p (e : D) (xs : List Int) (h : IsL 1 IsByte e xs) (hd : e.data) : PCall Try.prog 21 [e] PutTextR := by
  refine pcall_intro Try.func21 rfl (by decide) rfl (by decide) (by rw [Try.ntmps21]; simp) fun w0 M n0 hW => ivc_sound ?_; simp -dsimp only [Try.f21, go_sem, h.lenT]
  refine xcall_ptr (l := 2300) (l1New_o e xs h) rfl (by simp -dsimp only [go_sem]) ⟨h.still, trivial⟩ fun n1 c G b' hn1 hst hpl hc hb1 hb2 => ?_
  have sc := hc.shape
  simp -dsimp only [go_sem, sc.1, sc.2.1, sc.2.2.1]
  refine iwp_plan [(0, true), (2, true), (1, false), (3, false), (5, true), (4, false), (6, true)] [] rfl (by decide +kernel) (by decide) [] (by decide +kernel) ?_
  simp -dsimp only [go_sem, sc.1, sc.2.1, sc.2.2.1]
  refine xcall_cs (l := 2300) (g := G) (b := b') (l1Some_b e c xs h hd hc) (by simp -dsimp only [go_sem]) trivial (by simp -dsimp only [go_sem]) sc.2.2.2 fun m0 p0 c1 r0 hm0 hp0 hq => ?_
  obtain ⟨hc1, hA, ho⟩ := hq
  obtain ⟨hnn, ys, hyl, hy, hyr⟩ := id hA
  have sc1 := hc1.shape
  simp -dsimp only [go_sem, sc1.1, sc1.2.1, sc1.2.2.1]
  refine xcall_cs (l := 2300) (g := G) (b := b') (l1Some_b e c1 xs h hd hc1) (by simp -dsimp only [go_sem]) trivial (by simp -dsimp only [go_sem]) sc1.2.2.2 fun m1 p1 c2 r1 hm1 hp1 hq => ?_
  obtain ⟨hc2, ⟨hznn, zs, hzl, hz, hzr⟩, ho1⟩ := hq
  have sc2 := hc2.shape
  rcases hz.bytes with ⟨rfl, rfl⟩ | ⟨t, zb, f, rfl, hrow, hl⟩
  · exact absurd rfl hznn
  · have hcv := fun R' n' k' => wConv_str (P := Try.prog) (R := R') (n := n') (k := k') 22 9 (E := 5) (t := t) (zb := zb) (f := f) (ns := zs) rfl (fun i hi => hrow.2 i hi) telem_22 tint_5 strT_9
    simp -dsimp only [go_sem, sc2.1, sc2.2.1, sc2.2.2.1, hcv]
    intro n9 hn9 hfc
    have hm1' : p0 ≤ m1 := hm1
    have hn9' : p1 ≤ n9 := hn9
    have hm0' : n1 ≤ m0 := hm0
    rw [rl_still hy.still]
    try simp -dsimp only [go_sem, rl_lit]
    exact ⟨_, _, rfl, hA, by rw [strOf_size]; exact hzl, ho.mono (by omega) (by omega)⟩
end Go.Proofs.Ytkigfigdoaoboaa.IM
end
