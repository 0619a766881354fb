/- The pure side of FnExactCrc: for every list of bytes the law answers true. No condition. -/
import Derived.Test.YthoehmcijbjkdaaPFnExactCrcx1
namespace Go.Proofs.Ythoehmcijbjkdaa.Pure
open Go.RowKit Go.Proofs.Ythoehmcijbjkdaa.PFnExactCrc Go.Proofs.YthoehmcijbjkdaaW.PrintWords Go.Proofs.YthoehmcijbjkdaaW.PrintLast

theorem wrap_up {i : Int} {n : Nat} (h0 : 0 ≤ i) (h : i < (n : Int)) (hn : n ≤ 140737488351232) : wrap64 (i + 1) = i + 1 := by
  unfold wrap64; omega

theorem toByteS_l0 (xs : List Int) (hn : xs.length ≤ 140737488351232) : ∀ (d : Nat) (k : Nat) (i : Int) (ys : List Int), 0 ≤ i → i ≤ xs.length → (xs.length : Int) - i = d → d < k →
    ys.length = xs.length → (∀ j : Nat, (j : Int) < i → ys[j]? = xs[j]?) → laws_toByteS.l0 k xs ys i = some xs := by
  intro d
  induction d with
  | zero =>
    intro k i ys h0 h1 hd hk hl hs
    obtain ⟨k, rfl⟩ : ∃ m, k = m + 1 := ⟨k - 1, by omega⟩
    simp only [laws_toByteS.l0]; rw [if_neg (by omega)]
    congr 1
    apply List.ext_getElem? 
    intro j
    by_cases hj : (j : Int) < i
    · exact hs j hj
    · rw [List.getElem?_eq_none (by omega), List.getElem?_eq_none (by omega)]
  | succ d ih =>
    intro k i ys h0 h1 hd hk hl hs
    obtain ⟨k, rfl⟩ : ∃ m, k = m + 1 := ⟨k - 1, by omega⟩
    simp only [laws_toByteS.l0]; rw [if_pos (by omega), if_pos (by omega), if_pos (by omega), wrap_up h0 (n := xs.length) (by omega) hn]
    refine ih k (i + 1) _ (by omega) (by omega) (by omega) (by omega) (by simp [hl]) ?_
    intro j hj
    rw [List.getElem?_set]
    by_cases e : i.toNat = j
    · subst e
      have hlt : i.toNat < xs.length := by omega
      rw [if_pos rfl, if_pos (by omega)]
      unfold rd
      rw [List.getD_eq_getElem?_getD, List.getElem?_eq_getElem hlt]; rfl
    · rw [if_neg e]; exact hs j (by omega)

theorem toByteS_f (xs : List Int) (hn : xs.length ≤ 140737488351232) (k : Nat) (hk : xs.length < k) : laws_toByteS.f k xs = some xs := by
  unfold laws_toByteS.f
  rw [if_pos (by omega), if_pos (by omega)]
  exact toByteS_l0 xs hn xs.length k 0 _ (by omega) (by omega) (by omega) hk (by simp) (by intro j hj; omega)

theorem eqByteS_l0 (xs : List Int) (hn : xs.length ≤ 140737488351232) : ∀ (d : Nat) (k : Nat) (i : Int), 0 ≤ i → i ≤ xs.length → (xs.length : Int) - i = d → d < k →
    laws_eqByteS.l0 k xs xs i = some true := by
  intro d
  induction d with
  | zero =>
    intro k i h0 h1 hd hk
    obtain ⟨k, rfl⟩ : ∃ m, k = m + 1 := ⟨k - 1, by omega⟩
    simp only [laws_eqByteS.l0]; rw [if_neg (by omega)]
  | succ d ih =>
    intro k i h0 h1 hd hk
    obtain ⟨k, rfl⟩ : ∃ m, k = m + 1 := ⟨k - 1, by omega⟩
    simp only [laws_eqByteS.l0]; rw [if_pos (by omega), if_pos (by omega), if_pos (by omega), if_pos trivial, wrap_up h0 (n := xs.length) (by omega) hn]
    exact ih k (i + 1) (by omega) (by omega) (by omega) (by omega)

theorem eqByteS_f (xs : List Int) (hn : xs.length ≤ 140737488351232) (k : Nat) (hk : xs.length < k) : laws_eqByteS.f k xs xs = some true := by
  unfold laws_eqByteS.f
  rw [if_pos rfl]
  exact eqByteS_l0 xs hn xs.length k 0 (by omega) (by omega) (by omega) hk

theorem xor_i64 (a b : Nat) (ha : a < 4294967296) (hb : b < 4294967296) : Go.bits .xor .i64 (a : Int) (b : Int) = ((a ^^^ b : Nat) : Int) := by
  have hx : a ^^^ b < 2 ^ 32 := Nat.xor_lt_two_pow (by omega) (by omega)
  have h1 : (BitVec.ofInt 64 (a : Int)).toNat = a := by
    rw [BitVec.ofInt_natCast, BitVec.toNat_ofNat]; exact Nat.mod_eq_of_lt (by omega)
  have h2 : (BitVec.ofInt 64 (b : Int)).toNat = b := by
    rw [BitVec.ofInt_natCast, BitVec.toNat_ofNat]; exact Nat.mod_eq_of_lt (by omega)
  show IntKind.i64.wrap ((BitVec.ofInt 64 (a : Int) ^^^ BitVec.ofInt 64 (b : Int)).toNat : Int) = _
  rw [BitVec.toNat_xor, h1, h2, IntKind.wrap_i64]
  omega

theorem xor_u32 (a b : Nat) (ha : a < 4294967296) (hb : b < 4294967296) : Go.bits .xor .u32 (a : Int) (b : Int) = ((a ^^^ b : Nat) : Int) := by
  have hx : a ^^^ b < 2 ^ 32 := Nat.xor_lt_two_pow (by omega) (by omega)
  have h1 : (BitVec.ofInt 32 (a : Int)).toNat = a := by
    rw [BitVec.ofInt_natCast, BitVec.toNat_ofNat]; exact Nat.mod_eq_of_lt (by omega)
  have h2 : (BitVec.ofInt 32 (b : Int)).toNat = b := by
    rw [BitVec.ofInt_natCast, BitVec.toNat_ofNat]; exact Nat.mod_eq_of_lt (by omega)
  show IntKind.u32.wrap ((BitVec.ofInt 32 (a : Int) ^^^ BitVec.ofInt 32 (b : Int)).toNat : Int) = _
  rw [BitVec.toNat_xor, h1, h2, IntKind.wrap_u32]
  omega

theorem and1_i64 (a : Nat) (ha : a < 4294967296) : Go.bits .and .i64 (a : Int) 1 = (a : Int) % 2 :=
  bits_mask .i64 63 (by decide) (fun n h0 h1 => by rw [IntKind.wrap_i64]; omega) 1 (by decide) a (by omega) (by omega)

theorem and1_u32 (a : Nat) (ha : a < 4294967296) : Go.bits .and .u32 (a : Int) 1 = (a : Int) % 2 :=
  bits_mask .u32 32 (by decide) (fun n h0 h1 => by rw [IntKind.wrap_u32]; omega) 1 (by decide) a (by omega) (by omega)

/-- one of the eight halvings -/
def half (x : Nat) : Nat := if x % 2 = 1 then (x / 2) ^^^ 3988292384 else x / 2
theorem half_lt (x : Nat) (h : x < 4294967296) : half x < 4294967296 := by
  unfold half
  split
  · exact Nat.xor_lt_two_pow (n := 32) (by omega) (by omega)
  · omega

def halves : Nat → Nat → Nat
  | 0, x => x
  | n + 1, x => halves n (half x)
theorem halves_lt : ∀ (n x : Nat), x < 4294967296 → halves n x < 4294967296
  | 0, _, h => h
  | n + 1, x, h => halves_lt n _ (half_lt x h)

theorem spec_l1 (xs : List Int) (i : Int) (k : Nat) : ∀ (n x : Nat), n ≤ 8 → x < 4294967296 →
    spec_Crc.l1 (k + n + 1) xs (x : Int) i (8 - (n : Int)) = spec_Crc.l0 k xs ((halves n x : Nat) : Int) (wrap64 (i + 1)) := by
  intro n
  induction n with
  | zero => intro x _ _; simp only [spec_Crc.l1, halves]; rw [if_neg (by omega)]
  | succ n ih =>
    intro x hn hx
    have hw : wrap64 (8 - ((n + 1 : Nat) : Int) + 1) = 8 - (n : Int) := by unfold wrap64; omega
    show spec_Crc.l1 (k + n + 1 + 1) xs (x : Int) i (8 - ((n + 1 : Nat) : Int)) = _
    simp only [spec_Crc.l1, halves]
    rw [if_pos (by omega), and1_i64 x hx, hw]
    unfold half
    by_cases h : x % 2 = 1
    · rw [if_pos (by omega), if_pos h]
      have e : Go.bits .xor .i64 ((x : Int) / 2) 3988292384 = (((x / 2) ^^^ 3988292384 : Nat) : Int) := xor_i64 (x / 2) 3988292384 (by omega) (by omega)
      rw [e]; exact ih _ (by omega) (Nat.xor_lt_two_pow (n := 32) (by omega) (by omega))
    · rw [if_neg (by omega), if_neg h]
      exact ih (x / 2) (by omega) (by omega)

theorem impl_l1 (xs : List Int) (m i : Int) (k : Nat) : ∀ (n x : Nat), n ≤ 8 → x < 4294967296 →
    impl_Crc.l1 (k + n + 1) (x : Int) xs m i (8 - (n : Int)) = impl_Crc.l0 k ((halves n x : Nat) : Int) xs m (wrap64 (i + 1)) := by
  intro n
  induction n with
  | zero => intro x _ _; simp only [impl_Crc.l1, halves]; rw [if_neg (by omega)]
  | succ n ih =>
    intro x hn hx
    have hw : wrap64 (8 - ((n + 1 : Nat) : Int) + 1) = 8 - (n : Int) := by unfold wrap64; omega
    show impl_Crc.l1 (k + n + 1 + 1) (x : Int) xs m i (8 - ((n + 1 : Nat) : Int)) = _
    simp only [impl_Crc.l1, halves]
    rw [if_pos (by omega), and1_u32 x hx, hw]
    unfold half
    by_cases h : x % 2 = 1
    · rw [if_pos (by omega), if_pos h]
      have e : Go.bits .xor .u32 ((x : Int) / 2) 3988292384 = (((x / 2) ^^^ 3988292384 : Nat) : Int) := xor_u32 (x / 2) 3988292384 (by omega) (by omega)
      rw [e]; exact ih _ (by omega) (Nat.xor_lt_two_pow (n := 32) (by omega) (by omega))
    · rw [if_neg (by omega), if_neg h]
      exact ih (x / 2) (by omega) (by omega)

theorem rd_byte (xs : List Int) (hb : ∀ x ∈ xs, (Lit.int .u8 x).wf = true) (i : Int) : 0 ≤ rd xs i ∧ rd xs i ≤ 255 := by
  unfold rd
  rw [List.getD_eq_getElem?_getD]
  cases h : xs[i.toNat]? with
  | none => simp
  | some v =>
    have := hb v (List.mem_of_getElem? h)
    simp [Lit.wf, IntKind.min, IntKind.max, IntKind.signed, IntKind.bits] at this ⊢
    omega

theorem crc_same (xs : List Int) (hn : xs.length ≤ 140737488351232) (hb : ∀ x ∈ xs, (Lit.int .u8 x).wf = true) : ∀ (d k x : Nat) (i : Int), 0 ≤ i → i ≤ xs.length → (xs.length : Int) - i = d → 10 * d < k → x < 4294967296 →
    ∃ r, spec_Crc.l0 k xs (x : Int) i = some r ∧ impl_Crc.l0 k (x : Int) xs xs.length i = some r := by
  intro d
  induction d with
  | zero =>
    intro k x i h0 h1 hd hk hx
    obtain ⟨k, rfl⟩ : ∃ m, k = m + 1 := ⟨k - 1, by omega⟩
    refine ⟨((x ^^^ 4294967295 : Nat) : Int), ?_, ?_⟩
    · simp only [spec_Crc.l0]; rw [if_neg (by omega)]; exact congrArg some (xor_i64 x 4294967295 hx (by omega))
    · simp only [impl_Crc.l0]; rw [if_neg (by omega)]
      have e : Go.bits .xor .u32 (x : Int) 4294967295 = ((x ^^^ 4294967295 : Nat) : Int) := xor_u32 x 4294967295 hx (by omega)
      rw [e]
      have hlt : x ^^^ 4294967295 < 4294967296 := Nat.xor_lt_two_pow (n := 32) (by omega) (by omega)
      congr 1
      unfold wrap64; omega
  | succ d ih =>
    intro k x i h0 h1 hd hk hx
    obtain ⟨k, rfl⟩ : ∃ m, k = m + 8 + 1 + 1 := ⟨k - 10, by omega⟩
    obtain ⟨b0, b1⟩ := rd_byte xs hb i
    have hw := wrap_up (n := xs.length) h0 (by omega) hn
    have hv : ∃ v : Nat, rd xs i = (v : Int) ∧ v < 256 := ⟨(rd xs i).toNat, by omega, by omega⟩
    obtain ⟨v, hv, hv2⟩ := hv
    have e1 : wrap64 (v : Int) = v := by unfold wrap64; omega
    have e2 : (v : Int) % 4294967296 = v := by omega
    have hxv : x ^^^ v < 4294967296 := Nat.xor_lt_two_pow (n := 32) (by omega) (by omega)
    obtain ⟨r, hr1, hr2⟩ := ih k (halves 8 (x ^^^ v)) (i + 1) (by omega) (by omega) (by omega) (by omega) (halves_lt _ _ hxv)
    refine ⟨r, ?_, ?_⟩
    · simp only [spec_Crc.l0]; rw [if_pos (by omega), if_pos (by omega), hv, e1, xor_i64 x v hx (by omega)]
      have := spec_l1 xs i k 8 (x ^^^ v) (by omega) hxv
      simp only [Int.reduceSub, Int.cast_ofNat_Int] at this
      rw [this, hw]; exact hr1
    · simp only [impl_Crc.l0]; rw [if_pos (by omega), if_pos (by omega), if_pos (by omega), hv, e2, xor_u32 x v hx (by omega)]
      have := impl_l1 xs xs.length i k 8 (x ^^^ v) (by omega) hxv
      simp only [Int.reduceSub, Int.cast_ofNat_Int] at this
      rw [this, hw]; exact hr2

theorem FnExactCrc : laws_FnExactCrc.Pure := by
  intro xs _ hn hb
  have hn' : xs.length ≤ 140737488351232 := by omega
  refine ⟨10 * xs.length + 1, ?_⟩
  unfold laws_FnExactCrc.f
  by_cases hbig : (xs.length : Int) > 1048576
  · rw [if_pos hbig]
  · rw [if_neg hbig]
    obtain ⟨r, h1, h2⟩ := crc_same xs hn' hb xs.length (10 * xs.length + 1) 4294967295 0 (by omega) (by omega) (by omega) (by omega) (by omega)
    rw [toByteS_f xs hn' _ (by omega)]
    simp only [Option.bind_some]
    unfold spec_Crc.f impl_Crc.f
    have h1' : spec_Crc.l0 (10 * xs.length + 1) xs 4294967295 0 = some r := h1
    have h2' : impl_Crc.l0 (10 * xs.length + 1) 4294967295 xs xs.length 0 = some r := h2
    rw [h1', h2']
    simp only [Option.bind_some, if_true]
    rw [eqByteS_f xs hn' _ (by omega)]
    rfl

end Go.Proofs.Ythoehmcijbjkdaa.Pure
