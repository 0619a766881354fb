/- The pure side of FnExactGetInt: for every list of bytes and every 64-bit number the law answers true. No condition. -/
import Derived.Test.YthoehmcijbjkdaaPFnExactGetIntx2
namespace Go.Proofs.Ythoehmcijbjkdaa.Pure
open Go.RowKit Go.Proofs.Ythoehmcijbjkdaa.PFnExactGetInt Go.Proofs.YthoehmcijbjkdaaW.PrintWords Go.Proofs.YthoehmcijbjkdaaW.PrintLast

theorem wrap_up {i : Int} {n : Nat} (h0 : 0 ≤ i) (h : i < (n : Int)) (hn : n ≤ 140737488351232) : wrap64 (i + 1) = i + 1 := by
  unfold wrap64; omega

theorem toByteS_l0 (xs : List Int) (hn : xs.length ≤ 140737488351232) : ∀ (d : Nat) (k : Nat) (i : Int) (ys : List Int), 0 ≤ i → i ≤ xs.length → (xs.length : Int) - i = d → d < k →
    ys.length = xs.length → (∀ j : Nat, (j : Int) < i → ys[j]? = xs[j]?) → laws_toByteS.l0 k xs ys i = some xs := by
  intro d
  induction d with
  | zero =>
    intro k i ys h0 h1 hd hk hl hs
    obtain ⟨k, rfl⟩ : ∃ m, k = m + 1 := ⟨k - 1, by omega⟩
    simp only [laws_toByteS.l0]; rw [if_neg (by omega)]
    congr 1
    apply List.ext_getElem? 
    intro j
    by_cases hj : (j : Int) < i
    · exact hs j hj
    · rw [List.getElem?_eq_none (by omega), List.getElem?_eq_none (by omega)]
  | succ d ih =>
    intro k i ys h0 h1 hd hk hl hs
    obtain ⟨k, rfl⟩ : ∃ m, k = m + 1 := ⟨k - 1, by omega⟩
    simp only [laws_toByteS.l0]; rw [if_pos (by omega), if_pos (by omega), if_pos (by omega), wrap_up h0 (n := xs.length) (by omega) hn]
    refine ih k (i + 1) _ (by omega) (by omega) (by omega) (by omega) (by simp [hl]) ?_
    intro j hj
    rw [List.getElem?_set]
    by_cases e : i.toNat = j
    · subst e
      have hlt : i.toNat < xs.length := by omega
      rw [if_pos rfl, if_pos (by omega)]
      unfold rd
      rw [List.getD_eq_getElem?_getD, List.getElem?_eq_getElem hlt]; rfl
    · rw [if_neg e]; exact hs j (by omega)

theorem toByteS_f (xs : List Int) (hn : xs.length ≤ 140737488351232) (k : Nat) (hk : xs.length < k) : laws_toByteS.f k xs = some xs := by
  unfold laws_toByteS.f
  rw [if_pos (by omega), if_pos (by omega)]
  exact toByteS_l0 xs hn xs.length k 0 _ (by omega) (by omega) (by omega) hk (by simp) (by intro j hj; omega)

theorem eqByteS_l0 (xs : List Int) (hn : xs.length ≤ 140737488351232) : ∀ (d : Nat) (k : Nat) (i : Int), 0 ≤ i → i ≤ xs.length → (xs.length : Int) - i = d → d < k →
    laws_eqByteS.l0 k xs xs i = some true := by
  intro d
  induction d with
  | zero =>
    intro k i h0 h1 hd hk
    obtain ⟨k, rfl⟩ : ∃ m, k = m + 1 := ⟨k - 1, by omega⟩
    simp only [laws_eqByteS.l0]; rw [if_neg (by omega)]
  | succ d ih =>
    intro k i h0 h1 hd hk
    obtain ⟨k, rfl⟩ : ∃ m, k = m + 1 := ⟨k - 1, by omega⟩
    simp only [laws_eqByteS.l0]; rw [if_pos (by omega), if_pos (by omega), if_pos (by omega), if_pos trivial, wrap_up h0 (n := xs.length) (by omega) hn]
    exact ih k (i + 1) (by omega) (by omega) (by omega) (by omega)

theorem eqByteS_f (xs : List Int) (hn : xs.length ≤ 140737488351232) (k : Nat) (hk : xs.length < k) : laws_eqByteS.f k xs xs = some true := by
  unfold laws_eqByteS.f
  rw [if_pos rfl]
  exact eqByteS_l0 xs hn xs.length k 0 (by omega) (by omega) (by omega) hk

theorem rd_byte (xs : List Int) (hb : ∀ x ∈ xs, (Lit.int .u8 x).wf = true) (i : Int) : 0 ≤ rd xs i ∧ rd xs i ≤ 255 := by
  unfold rd
  rw [List.getD_eq_getElem?_getD]
  cases h : xs[i.toNat]? with
  | none => simp
  | some v =>
    have := hb v (List.mem_of_getElem? h)
    simp [Lit.wf, IntKind.min, IntKind.max, IntKind.signed, IntKind.bits] at this ⊢
    omega

theorem in_some (a b c : Int) : impl_in.f a b c = some (decide (b ≤ a ∧ a ≤ c)) := by
  unfold impl_in.f
  by_cases h : a ≥ b <;> by_cases g : a ≤ c <;> simp [h, g] <;> omega

theorem l1In_some (a b c : Int) : spec_l1In.f a b c = some (decide (b ≤ a ∧ a ≤ c)) := in_some a b c

/-- what becomes of the groups that were read -/
def fin (g : Int × Int × Bool × Bool) : Int × Int × Bool :=
  if Int.tmod g.1 2 = 1 then
    (if g.2.2.1 = true ∧ -1000000000000 ≤ wrap64 (Int.tdiv (wrap64 (-(wrap64 (g.1 + 1)))) 2) ∧ wrap64 (Int.tdiv (wrap64 (-(wrap64 (g.1 + 1)))) 2) ≤ 1000000000000
      then (wrap64 (Int.tdiv (wrap64 (-(wrap64 (g.1 + 1)))) 2), g.2.1, true) else (0, 0, false))
  else
    (if g.2.2.1 = true ∧ -1000000000000 ≤ wrap64 (Int.tdiv g.1 2) ∧ wrap64 (Int.tdiv g.1 2) ≤ 1000000000000
      then (wrap64 (Int.tdiv g.1 2), g.2.1, true) else (0, 0, false))

theorem fin_bad {g : Int × Int × Bool × Bool} (h : g.2.2.1 = false) : fin g = (0, 0, false) := by
  unfold fin
  split <;> rw [if_neg (by rw [h]; simp)]

theorem fin_next {g : Int × Int × Bool × Bool} {n : Nat} (hx : g.2.2.1 = true → 0 ≤ g.2.1 ∧ g.2.1 ≤ (n : Int)) (ht : (fin g).2.2 = true) :
    0 ≤ (fin g).2.1 ∧ (fin g).2.1 ≤ (n : Int) ∧ (fin g).1 ≤ 1000000000000 := by
  unfold fin at ht ⊢
  by_cases hodd : Int.tmod g.1 2 = 1
  · rw [if_pos hodd] at ht ⊢
    by_cases hc : g.2.2.1 = true ∧ -1000000000000 ≤ wrap64 (Int.tdiv (wrap64 (-(wrap64 (g.1 + 1)))) 2) ∧ wrap64 (Int.tdiv (wrap64 (-(wrap64 (g.1 + 1)))) 2) ≤ 1000000000000
    · rw [if_pos hc]; exact ⟨(hx hc.1).1, (hx hc.1).2, hc.2.2⟩
    · rw [if_neg hc] at ht; cases ht
  · rw [if_neg hodd] at ht ⊢
    by_cases hc : g.2.2.1 = true ∧ -1000000000000 ≤ wrap64 (Int.tdiv g.1 2) ∧ wrap64 (Int.tdiv g.1 2) ≤ 1000000000000
    · rw [if_pos hc]; exact ⟨(hx hc.1).1, (hx hc.1).2, hc.2.2⟩
    · rw [if_neg hc] at ht; cases ht

/-- read on without good: nothing comes of it -/
theorem groups_bad (xs : List Int) (hn : xs.length ≤ 140737488351232) (hb : ∀ x ∈ xs, (Lit.int .u8 x).wf = true) (p : Int) (hp : 0 ≤ p) (hp2 : p ≤ xs.length) : ∀ (d k : Nat) (m j : Int) (good : Bool),
    6 ≤ j → (xs.length : Int) - (p + j) = d - 7 → d < k → 
    ∃ g, impl_groups.l0 k xs p m good j = some g ∧ g.2.2.1 = false := by
  intro d
  induction d with
  | zero =>
    intro k m j good h6 hd hk
    obtain ⟨k, rfl⟩ : ∃ q, k = q + 1 := ⟨k - 1, by omega⟩
    have hw : wrap64 (p + j) = p + j := by unfold wrap64; omega
    refine ⟨(0, 0, false, true), ?_, rfl⟩
    simp only [impl_groups.l0]; rw [hw, if_neg (by omega)]
  | succ d ih =>
    intro k m j good h6 hd hk
    obtain ⟨k, rfl⟩ : ∃ q, k = q + 1 := ⟨k - 1, by omega⟩
    have hw : wrap64 (p + j) = p + j := by unfold wrap64; omega
    have hw1 : wrap64 (j + 1) = j + 1 := by unfold wrap64; omega
    simp only [impl_groups.l0]; rw [hw]
    by_cases hlt : p + j < xs.length
    · rw [if_pos hlt, if_pos (by omega), if_neg (by omega), hw1]
      obtain ⟨b0, b1⟩ := rd_byte xs hb (p + j)
      have hwv : wrap64 (rd xs (p + j)) = rd xs (p + j) := by unfold wrap64; omega
      rw [hwv]
      have hand : Go.bits .and .i64 (rd xs (p + j)) 127 = rd xs (p + j) % 128 :=
        bits_mask .i64 63 (by decide) (fun n h0 h1 => by rw [IntKind.wrap_i64]; omega) 7 (by decide) _ b0 (by omega)
      rw [hand]
      by_cases hz : rd xs (p + j) % 128 = 0
      · rw [if_pos hz]
        by_cases hc : rd xs (p + j) > 127
        · rw [if_pos hc]; exact ih k m (j + 1) good (by omega) (by omega) (by omega)
        · rw [if_neg hc]
          have h0 : rd xs (p + j) = 0 := by omega
          cases good
          · exact ⟨(m, wrap64 (p + j + 1), false, false), by simp, rfl⟩
          · rw [if_pos rfl, if_pos h0]
            exact ⟨_, rfl, by simp; omega⟩
      · rw [if_neg hz]
        by_cases hc : rd xs (p + j) > 127
        · rw [if_pos hc]; exact ih k m (j + 1) false (by omega) (by omega) (by omega)
        · rw [if_neg hc]; exact ⟨_, rfl, rfl⟩
    · refine ⟨(0, 0, false, true), ?_, rfl⟩
      rw [if_neg hlt]

/-- the number that the groups come to with one more -/
def more (m v j : Int) : Int := Go.bits .or .i64 m (shl .i64 (Go.bits .and .i64 v 127) (wrap64 (7 * j)))

theorem more_range (m v j : Int) (hm0 : 0 ≤ m) (hm1 : m < 4398046511104) (hv0 : 0 ≤ v) (hv1 : v ≤ 255) (hj0 : 0 ≤ j) (hj : j < 6) : 0 ≤ more m v j ∧ more m v j < 4398046511104 := by
  unfold more
  have hand : Go.bits .and .i64 v 127 = v % 128 :=
    bits_mask .i64 63 (by decide) (fun n h0 h1 => by rw [IntKind.wrap_i64]; omega) 7 (by decide) _ hv0 (by omega)
  rw [hand]
  have hs : 0 ≤ shl .i64 (v % 128) (wrap64 (7 * j)) ∧ shl .i64 (v % 128) (wrap64 (7 * j)) < 4398046511104 := by
    have e : j = 0 ∨ j = 1 ∨ j = 2 ∨ j = 3 ∨ j = 4 ∨ j = 5 := by omega
    have c0 : wrap64 (7 * 0) = 0 := by unfold wrap64; omega
    have c1 : wrap64 (7 * 1) = 7 := by unfold wrap64; omega
    have c2 : wrap64 (7 * 2) = 14 := by unfold wrap64; omega
    have c3 : wrap64 (7 * 3) = 21 := by unfold wrap64; omega
    have c4 : wrap64 (7 * 4) = 28 := by unfold wrap64; omega
    have c5 : wrap64 (7 * 5) = 35 := by unfold wrap64; omega
    unfold shl
    rcases e with rfl | rfl | rfl | rfl | rfl | rfl
    · rw [c0, IntKind.wrap_i64]; simp [IntKind.bits]; omega
    · rw [c1, IntKind.wrap_i64]; simp [IntKind.bits]; omega
    · rw [c2, IntKind.wrap_i64]; simp [IntKind.bits]; omega
    · rw [c3, IntKind.wrap_i64]; simp [IntKind.bits]; omega
    · rw [c4, IntKind.wrap_i64]; simp [IntKind.bits]; omega
    · rw [c5, IntKind.wrap_i64]; simp [IntKind.bits]; omega
  generalize shl .i64 (v % 128) (wrap64 (7 * j)) = s at hs
  obtain ⟨a, rfl⟩ := Int.eq_ofNat_of_zero_le hm0
  obtain ⟨b, rfl⟩ := Int.eq_ofNat_of_zero_le hs.1
  rw [(bits_nat .i64 42 (by decide) (fun n h0 h1 => by rw [IntKind.wrap_i64]; omega) a b (by omega) (by omega)).2]
  have := Nat.or_lt_two_pow (n := 42) (x := a) (y := b) (by omega) (by omega)
  omega

theorem count_u64 (j : Int) (h0 : 0 ≤ j) (h : j < 6) : IntKind.u64.wrap (wrap64 (7 * j)) = wrap64 (7 * j) ∧ 0 ≤ wrap64 (7 * j) := by
  have : wrap64 (7 * j) = 7 * j := by unfold wrap64; omega
  rw [this]; constructor
  · simp [IntKind.wrap, IntKind.bits, IntKind.signed]; omega
  · omega

theorem half_same (m : Int) (h0 : 0 ≤ m) (h1 : m < 4398046511104) :
    (Go.bits .and .i64 m 1 = Int.tmod m 2) ∧ (Int.tmod m 2 = 1 → wrap64 (wrap64 (-(m / 2)) - 1) = wrap64 (Int.tdiv (wrap64 (-(wrap64 (m + 1)))) 2)) ∧ m / 2 = wrap64 (Int.tdiv m 2) := by
  have hand : Go.bits .and .i64 m 1 = m % 2 :=
    bits_mask .i64 63 (by decide) (fun n h0 h1 => by rw [IntKind.wrap_i64]; omega) 1 (by decide) _ h0 (by omega)
  have ht : Int.tmod m 2 = m % 2 := Int.tmod_eq_emod_of_nonneg h0
  have hd : Int.tdiv m 2 = m / 2 := Int.tdiv_eq_ediv_of_nonneg h0
  refine ⟨by rw [hand, ht], fun hodd => ?_, ?_⟩
  · have w1 : wrap64 (m + 1) = m + 1 := by unfold wrap64; omega
    have w2 : wrap64 (-(m + 1)) = -(m + 1) := by unfold wrap64; omega
    rw [w1, w2]
    have hodd' : m % 2 = 1 := by rw [← ht]; exact hodd
    have : Int.tdiv (-(m + 1)) 2 = -((m + 1) / 2) := by
      rw [Int.neg_tdiv, Int.tdiv_eq_ediv_of_nonneg (by omega)]
    rw [this]
    unfold wrap64; omega
  · rw [hd]; unfold wrap64; omega

theorem get_same (xs : List Int) (hn : xs.length ≤ 140737488351232) (hb : ∀ x ∈ xs, (Lit.int .u8 x).wf = true) (p : Int) (hp : 0 ≤ p) (hp2 : p ≤ xs.length) : ∀ (d k : Nat) (m j : Int),
    0 ≤ j → j = 6 - (d : Int) → 0 ≤ m → m < 4398046511104 → 2 * d + xs.length + 20 < k →
    ∃ g, impl_groups.l0 k xs p m true j = some g ∧ spec_GetInt.l0 k xs p m j = some (fin g) ∧ (g.2.2.1 = true → 0 ≤ g.2.1 ∧ g.2.1 ≤ xs.length) := by
  intro d
  induction d with
  | zero =>
    intro k m j hj hjd hm0 hm1 hk
    obtain ⟨g, hg, hbad⟩ := groups_bad xs hn hb p hp hp2 (((xs.length : Int) - (p + j) + 7).toNat) k m j true (by omega) (by omega) (by omega)
    refine ⟨g, hg, ?_, fun h => by simp [hbad] at h⟩
    obtain ⟨k, rfl⟩ : ∃ q, k = q + 1 + 1 := ⟨k - 2, by omega⟩
    simp only [spec_GetInt.l0, spec_GetInt.j1]; rw [if_neg (by omega), fin_bad hbad, if_neg (by simp)]
  | succ d ih =>
    intro k m j hj hjd hm0 hm1 hk
    obtain ⟨k, rfl⟩ : ∃ q, k = q + 1 + 1 := ⟨k - 2, by omega⟩
    have hw : wrap64 (p + j) = p + j := by unfold wrap64; omega
    have hw1 : wrap64 (j + 1) = j + 1 := by unfold wrap64; omega
    by_cases hlt : p + j < xs.length
    · obtain ⟨b0, b1⟩ := rd_byte xs hb (p + j)
      have hwv : wrap64 (rd xs (p + j)) = rd xs (p + j) := by unfold wrap64; omega
      obtain ⟨hc1, hc2⟩ := count_u64 j hj (by omega)
      obtain ⟨r0, r1⟩ := more_range m (rd xs (p + j)) j hm0 hm1 b0 b1 hj (by omega)
      have hmore : Go.bits .or .i64 m (shl .i64 (Go.bits .and .i64 (rd xs (p + j)) 127) (wrap64 (7 * j))) = more m (rd xs (p + j)) j := rfl
      by_cases hc : rd xs (p + j) > 127
      · obtain ⟨g, hg, hs, hx⟩ := ih k (more m (rd xs (p + j)) j) (j + 1) (by omega) (by omega) r0 r1 (by omega)
        refine ⟨g, ?_, ?_, hx⟩
        · have hg' : impl_groups.l0 (k + 1) xs p (more m (rd xs (p + j)) j) true (j + 1) = some g := (impl_groups.mono_l k) _ _ _ _ _ _ hg
          simp only [impl_groups.l0]; rw [hw, if_pos hlt, if_pos (by omega), if_pos (by omega), if_pos hc2, hwv, if_pos hc, hmore, hw1]
          exact hg'
        · simp only [spec_GetInt.l0, spec_GetInt.j1]; rw [hw, if_pos (by omega), if_pos (by omega), if_pos (by omega), if_pos (by simpa using hlt), if_pos (by omega), if_pos hlt, hc1, if_pos hc2, hwv, if_pos hc, hmore, hw1]
          exact hs
      · obtain ⟨e1, e2, e3⟩ := half_same (more m (rd xs (p + j)) j) r0 r1
        refine ⟨(more m (rd xs (p + j)) j, p + j + 1, (!(rd xs (p + j) == 0)) || (j == 0), false), ?_, ?_, fun _ => ⟨by show 0 ≤ p + j + 1; omega, by show p + j + 1 ≤ _; omega⟩⟩
        · have hw2 : wrap64 (p + j + 1) = p + j + 1 := by unfold wrap64; omega
          simp only [impl_groups.l0]; rw [hw, if_pos hlt, if_pos (by omega), if_pos (by omega), if_pos hc2, hwv, if_neg hc, hmore, if_pos trivial, hw2]
          by_cases hz : rd xs (p + j) = 0
          · rw [if_pos hz]; simp [hz]
          · rw [if_neg hz]; simp [hz]
        · have hw2 : wrap64 (p + j + 1) = p + j + 1 := by unfold wrap64; omega
          simp only [spec_GetInt.l0, spec_GetInt.j1]; rw [hw, if_pos (by omega), if_pos (by omega), if_pos (by omega), if_pos (by simpa using hlt), if_pos (by omega), if_pos hlt, hc1, if_pos hc2, hwv, if_neg hc, hmore, hw2]
          simp only [l1In_some, Option.bind_some]
          rw [e1]
          generalize more m (rd xs (p + j)) j = q at *
          unfold fin
          by_cases hodd : Int.tmod q 2 = 1
          · rw [if_pos hodd, if_pos hodd, e2 hodd]
            by_cases h0 : j > 0
            · rw [if_pos h0]
              by_cases hz : rd xs (p + j) = 0
              · rw [if_pos hz, if_neg (by simp [hz]; omega)]
              · rw [if_neg hz]
                by_cases hr : -1000000000000 ≤ wrap64 (Int.tdiv (wrap64 (-(wrap64 (q + 1)))) 2) ∧ wrap64 (Int.tdiv (wrap64 (-(wrap64 (q + 1)))) 2) ≤ 1000000000000
                · rw [if_pos (by simpa using hr), if_pos ⟨by simp [hz], hr⟩]
                · rw [if_neg (by simpa using hr), if_neg (fun h => hr h.2)]
            · have h00 : j = 0 := by omega
              rw [if_neg h0]
              by_cases hr : -1000000000000 ≤ wrap64 (Int.tdiv (wrap64 (-(wrap64 (q + 1)))) 2) ∧ wrap64 (Int.tdiv (wrap64 (-(wrap64 (q + 1)))) 2) ≤ 1000000000000
              · rw [if_pos (by simpa using hr), if_pos ⟨by simp [h00], hr⟩]
              · rw [if_neg (by simpa using hr), if_neg (fun h => hr h.2)]
          · rw [if_neg hodd, if_neg hodd, e3]
            by_cases h0 : j > 0
            · rw [if_pos h0]
              by_cases hz : rd xs (p + j) = 0
              · rw [if_pos hz, if_neg (by simp [hz]; omega)]
              · rw [if_neg hz]
                by_cases hr : -1000000000000 ≤ wrap64 (Int.tdiv q 2) ∧ wrap64 (Int.tdiv q 2) ≤ 1000000000000
                · rw [if_pos (by simpa using hr), if_pos ⟨by simp [hz], hr⟩]
                · rw [if_neg (by simpa using hr), if_neg (fun h => hr h.2)]
            · have h00 : j = 0 := by omega
              rw [if_neg h0]
              by_cases hr : -1000000000000 ≤ wrap64 (Int.tdiv q 2) ∧ wrap64 (Int.tdiv q 2) ≤ 1000000000000
              · rw [if_pos (by simpa using hr), if_pos ⟨by simp [h00], hr⟩]
              · rw [if_neg (by simpa using hr), if_neg (fun h => hr h.2)]
    · refine ⟨(0, 0, false, true), ?_, ?_, fun h => by cases h⟩
      · simp only [impl_groups.l0]; rw [hw, if_neg hlt]
      · rw [fin_bad rfl]
        simp only [spec_GetInt.l0, spec_GetInt.j1]; rw [hw, if_pos (by omega), if_pos (by omega)]
        by_cases h2 : p < xs.length
        · rw [if_pos h2, if_neg (by simpa using hlt)]
        · rw [if_neg h2, if_neg (by simp)]

theorem getInt_same (xs : List Int) (hn : xs.length ≤ 140737488351232) (hb : ∀ x ∈ xs, (Lit.int .u8 x).wf = true) (p : Int) (k : Nat) (hk : xs.length + 32 < k) :
    ∃ r, spec_GetInt.f k xs p = some r ∧ impl_GetInt.f k xs p = some r ∧ (r.2.2 = true → 0 ≤ r.2.1 ∧ r.2.1 ≤ xs.length ∧ r.1 ≤ 1000000000000) := by
  unfold spec_GetInt.f impl_GetInt.f impl_groups.f
  rw [in_some]
  simp only [Option.bind_some]
  by_cases h : 0 ≤ p ∧ p ≤ xs.length
  · obtain ⟨g, hg, hs, hx⟩ := get_same xs hn hb p h.1 h.2 6 k 0 0 (by omega) (by omega) (by omega) (by omega) (by omega)
    refine ⟨fin g, hs, ?_, fun ht => fin_next hx ht⟩
    rw [if_pos (by simpa using h), hg]
    simp only [Option.bind_some, in_some]
    unfold fin
    by_cases hodd : Int.tmod g.1 2 = 1
    · rw [if_pos hodd, if_pos hodd]
      by_cases hg2 : g.2.2.1 = true
      · rw [if_pos hg2]
        by_cases hr : -1000000000000 ≤ wrap64 (Int.tdiv (wrap64 (-(wrap64 (g.1 + 1)))) 2) ∧ wrap64 (Int.tdiv (wrap64 (-(wrap64 (g.1 + 1)))) 2) ≤ 1000000000000
        · rw [if_pos (by simpa using hr), if_pos ⟨hg2, hr⟩]
        · rw [if_neg (by simpa using hr), if_neg (fun h => hr h.2)]
      · rw [if_neg hg2, if_neg (fun h => hg2 h.1)]
    · rw [if_neg hodd, if_neg hodd]
      by_cases hg2 : g.2.2.1 = true
      · rw [if_pos hg2]
        by_cases hr : -1000000000000 ≤ wrap64 (Int.tdiv g.1 2) ∧ wrap64 (Int.tdiv g.1 2) ≤ 1000000000000
        · rw [if_pos (by simpa using hr), if_pos ⟨hg2, hr⟩]
        · rw [if_neg (by simpa using hr), if_neg (fun h => hr h.2)]
      · rw [if_neg hg2, if_neg (fun h => hg2 h.1)]
  · refine ⟨(0, 0, false), ?_, ?_, fun h => by cases h⟩
    · obtain ⟨k, rfl⟩ : ∃ q, k = q + 1 + 1 := ⟨k - 2, by omega⟩
      simp only [spec_GetInt.l0, spec_GetInt.j1]
      rw [if_pos (by omega)]
      by_cases h1 : p ≥ 0
      · rw [if_pos h1, if_neg (by omega), if_neg (by simp)]
      · rw [if_neg h1, if_neg (by simp)]
    · rw [if_neg (by simpa using h)]

theorem FnExactGetInt : laws_FnExactGetInt.Pure := by
  intro xs p _ hn hb _
  have hn' : xs.length ≤ 140737488351232 := by omega
  refine ⟨xs.length + 34, ?_⟩
  unfold laws_FnExactGetInt.f
  by_cases hbig : (xs.length : Int) > 1048576
  · rw [if_pos hbig]
  · rw [if_neg hbig]
    obtain ⟨r, h1, h2, _⟩ := getInt_same xs hn' hb p (xs.length + 34) (by omega)
    rw [toByteS_f xs hn' _ (by omega)]
    simp only [Option.bind_some]
    rw [h1, h2]
    simp only [Option.bind_some, if_true, bne_self_eq_false]
    simp only [laws_FnExactGetInt.j0]
    rw [toByteS_f xs hn' _ (by omega)]
    simp only [Option.bind_some]
    rw [eqByteS_f xs hn' _ (by omega)]
    rfl

end Go.Proofs.Ythoehmcijbjkdaa.Pure
