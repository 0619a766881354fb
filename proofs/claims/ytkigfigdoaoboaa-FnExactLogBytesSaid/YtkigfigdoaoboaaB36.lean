/- Several of my texts in one module (merge.py). -/
import Derived.Test.YtkigfigdoaoboaaA4
import Derived.Test.YtkigfigdoaoboaaA6
import Derived.Test.YtkigfigdoaoboaaB8
import Derived.Test.YtkigfigdoaoboaaA3
import Derived.Test.YtkigfigdoaoboaaB30
import Derived.Test.YtkigfigdoaoboaaB28
import Derived.Test.YtkigfigdoaoboaaB35
section
/- The law of PutInt. Printed by laws_b.py. -/
namespace Go.Proofs.Ytkigfigdoaoboaa.IM
open Go Go.Proofs
set_option linter.unusedVariables false
set_option linter.unusedSimpArgs false
set_option maxHeartbeats 2000000
set_option maxRecDepth 20000

theorem heldBytes_p (d : D) (n : Nat) (k : Int) (h : IsL 1 IsByte d (Md.mkBytes k n)) (hk0 : 0 ≤ k) (hk1 : k + (n : Nat) ≤ 4611686018427387904) :
    PCall Try.prog 29 [d, .lit (.int .i64 k)] fun _ _ r => r = .lit (.int .i64 (k + (n : Nat))) := by
  have := heldByteS_p d _ k h (fun i hi => Md.mkBytes_get _ _ _ hi) hk0 (by rw [Md.mkBytes_length]; omega)
  rw [Md.mkBytes_length, Nat.one_mul] at this
  exact this
end Go.Proofs.Ytkigfigdoaoboaa.IM
end

section
/- The mathematics of the sum over bytes, and of frames. Plain definitions and laws; nothing of Go is in it. -/
namespace Go.Proofs.Ytkigfigdoaoboaa.Md

/-- one bit of the sum's step -/
def crcBit (x : Nat) : Nat := if x % 2 = 1 then x / 2 ^^^ 3988292384 else x / 2
def crcN : Nat → Nat → Nat
  | 0, x => x
  | k + 1, x => crcBit (crcN k x)
def crcStep (x : Nat) (b : Int) : Nat := crcN 8 (x ^^^ b.toNat)
def crcUp (xs : List Int) : Nat := xs.foldl crcStep 4294967295
def crc (xs : List Int) : Nat := crcUp xs ^^^ 4294967295
def four (x : Nat) : List Int := [((x % 256 : Nat) : Int), ((x / 256 % 256 : Nat) : Int), ((x / 65536 % 256 : Nat) : Int), ((x / 16777216 % 256 : Nat) : Int)]
def frame (xs : List Int) : List Int := intBytes xs.length ++ xs ++ four (crc xs)

theorem xor_lt32 {x y : Nat} (h : x < 4294967296) (h' : y < 4294967296) : x ^^^ y < 4294967296 := Nat.xor_lt_two_pow (n := 32) h h'
theorem crcBit_lt {x : Nat} (h : x < 4294967296) : crcBit x < 4294967296 := by
  unfold crcBit
  split
  · exact xor_lt32 (by omega) (by decide)
  · omega
theorem crcN_lt {x : Nat} (h : x < 4294967296) : ∀ k, crcN k x < 4294967296
  | 0 => h
  | k + 1 => crcBit_lt (crcN_lt h k)
theorem byte_lt {b : Int} (h : 0 ≤ b ∧ b < 256) : b.toNat < 4294967296 := by omega
theorem crcStep_lt {x : Nat} {b : Int} (h : x < 4294967296) (hb : 0 ≤ b ∧ b < 256) : crcStep x b < 4294967296 := crcN_lt (xor_lt32 h (byte_lt hb)) 8
theorem foldl_lt : ∀ (xs : List Int) (x : Nat), x < 4294967296 → (∀ b ∈ xs, 0 ≤ b ∧ b < 256) → xs.foldl crcStep x < 4294967296
  | [], x, h, _ => h
  | b :: xs, x, h, hb => foldl_lt xs _ (crcStep_lt h (hb b (by simp))) fun c hc => hb c (by simp [hc])
theorem crcUp_lt {xs : List Int} (hb : ∀ b ∈ xs, 0 ≤ b ∧ b < 256) : crcUp xs < 4294967296 := foldl_lt xs _ (by decide) hb
theorem crc_lt {xs : List Int} (hb : ∀ b ∈ xs, 0 ≤ b ∧ b < 256) : crc xs < 4294967296 := xor_lt32 (crcUp_lt hb) (by decide)
theorem crcUp_snoc (xs : List Int) (b : Int) : crcUp (xs ++ [b]) = crcStep (crcUp xs) b := by unfold crcUp; rw [List.foldl_append]; rfl

theorem xor_cancel {a b c : Nat} (h : a ^^^ c = b ^^^ c) : a = b := by
  have := congrArg (· ^^^ c) h
  simpa [Nat.xor_assoc] using this
theorem xor_cancel' {a b c : Nat} (h : c ^^^ a = c ^^^ b) : a = b := by
  rw [Nat.xor_comm c a, Nat.xor_comm c b] at h; exact xor_cancel h
theorem poly_ne {x y : Nat} (hx : x < 2147483648) (hy : y < 2147483648) : x ^^^ 3988292384 ≠ y := fun e => by
  have h1 : (x ^^^ 3988292384).testBit 31 = true := by
    rw [Nat.testBit_xor, Nat.testBit_lt_two_pow (show x < 2 ^ 31 from hx)]; decide
  rw [e, Nat.testBit_lt_two_pow (show y < 2 ^ 31 from hy)] at h1
  cases h1
theorem crcBit_inj {x y : Nat} (hx : x < 4294967296) (hy : y < 4294967296) (h : crcBit x = crcBit y) : x = y := by
  unfold crcBit at h
  by_cases h1 : x % 2 = 1 <;> by_cases h2 : y % 2 = 1
  · rw [if_pos h1, if_pos h2] at h
    have := xor_cancel h
    omega
  · rw [if_pos h1, if_neg h2] at h
    exact absurd h (poly_ne (by omega) (by omega))
  · rw [if_neg h1, if_pos h2] at h
    exact absurd h.symm (poly_ne (by omega) (by omega))
  · rw [if_neg h1, if_neg h2] at h
    omega
theorem crcN_inj {x y : Nat} (hx : x < 4294967296) (hy : y < 4294967296) : ∀ k, crcN k x = crcN k y → x = y
  | 0, h => h
  | k + 1, h => crcN_inj hx hy k (crcBit_inj (crcN_lt hx k) (crcN_lt hy k) h)
theorem crcStep_inj {x y : Nat} {b : Int} (hx : x < 4294967296) (hy : y < 4294967296) (hb : 0 ≤ b ∧ b < 256) (h : crcStep x b = crcStep y b) : x = y :=
  xor_cancel (crcN_inj (xor_lt32 hx (byte_lt hb)) (xor_lt32 hy (byte_lt hb)) 8 h)
theorem crcStep_inj' {x : Nat} {b c : Int} (hx : x < 4294967296) (hb : 0 ≤ b ∧ b < 256) (hc : 0 ≤ c ∧ c < 256) (h : crcStep x b = crcStep x c) : b = c := by
  have := xor_cancel' (crcN_inj (xor_lt32 hx (byte_lt hb)) (xor_lt32 hx (byte_lt hc)) 8 h)
  omega
theorem foldl_inj : ∀ (xs : List Int) (x y : Nat), x < 4294967296 → y < 4294967296 → (∀ b ∈ xs, 0 ≤ b ∧ b < 256) → xs.foldl crcStep x = xs.foldl crcStep y → x = y
  | [], x, y, _, _, _, h => h
  | b :: xs, x, y, hx, hy, hb, h => crcStep_inj hx hy (hb b (by simp)) (foldl_inj xs _ _ (crcStep_lt hx (hb b (by simp))) (crcStep_lt hy (hb b (by simp))) (fun c hc => hb c (by simp [hc])) h)
/-- a byte that is another one makes another sum -/
theorem crc_set {xs : List Int} {k : Nat} {c : Int} (hk : k < xs.length) (hb : ∀ b ∈ xs, 0 ≤ b ∧ b < 256) (hc : 0 ≤ c ∧ c < 256) (hne : c ≠ xs[k]) : crc (xs.set k c) ≠ crc xs := fun e => by
  have h1 : crcUp (xs.set k c) = crcUp xs := xor_cancel e
  have e1 : xs = xs.take k ++ xs[k] :: xs.drop (k + 1) := by rw [List.getElem_cons_drop, List.take_append_drop]
  have e2 : xs.set k c = xs.take k ++ c :: xs.drop (k + 1) := by rw [List.set_eq_take_append_cons_drop, if_pos hk]
  have hu : ∀ y, crcUp (xs.take k ++ y :: xs.drop (k + 1)) = (xs.drop (k + 1)).foldl crcStep (crcStep (crcUp (xs.take k)) y) := fun y => by
    unfold crcUp; rw [List.foldl_append]; rfl
  have hx0 : crcUp (xs.take k) < 4294967296 := crcUp_lt fun b hb' => hb b (List.mem_of_mem_take hb')
  have hk2 := hb xs[k] (List.getElem_mem hk)
  have h2 : crcUp (xs.take k ++ c :: xs.drop (k + 1)) = crcUp (xs.take k ++ xs[k] :: xs.drop (k + 1)) := by rw [← e2, ← e1]; exact h1
  rw [hu, hu] at h2
  exact hne (crcStep_inj' hx0 hc hk2 (foldl_inj _ _ _ (crcStep_lt hx0 hc) (crcStep_lt hx0 hk2) (fun b hb' => hb b (List.mem_of_mem_drop hb')) h2))
theorem four_inj {x y : Nat} (hx : x < 4294967296) (hy : y < 4294967296) (h : four x = four y) : x = y := by
  unfold four at h
  simp only [List.cons.injEq, and_true] at h
  omega
theorem four_length (x : Nat) : (four x).length = 4 := rfl
theorem four_byte (x : Nat) : ∀ b ∈ four x, 0 ≤ b ∧ b < 256 := fun b hb => by
  unfold four at hb
  simp only [List.mem_cons, List.not_mem_nil, or_false] at hb
  omega
end Go.Proofs.Ytkigfigdoaoboaa.Md
end

section
/- Contracts: sums over bytes. -/
namespace Go.Proofs.Ytkigfigdoaoboaa.IM
open Go Go.Proofs Go.RowKit
set_option linter.unusedVariables false
set_option linter.unusedSimpArgs false
set_option maxHeartbeats 2000000
set_option maxRecDepth 20000

theorem xor64 {x y : Nat} (h : x < 4294967296) (h' : y < 4294967296) : bits .xor .i64 (x : Int) (y : Int) = ((x ^^^ y : Nat) : Int) := by
  have hx := Md.xor_lt32 h h'
  show IntKind.i64.wrap (((BitVec.ofInt 64 (x : Int)) ^^^ (BitVec.ofInt 64 (y : Int))).toNat : Int) = _
  rw [BitVec.toNat_xor, BitVec.ofInt_natCast, BitVec.ofInt_natCast, BitVec.toNat_ofNat, BitVec.toNat_ofNat, Nat.mod_eq_of_lt (by omega), Nat.mod_eq_of_lt (by omega), IntKind.wrap_i64]
  omega
theorem xor32 {x y : Nat} (h : x < 4294967296) (h' : y < 4294967296) : bits .xor .u32 (x : Int) (y : Int) = ((x ^^^ y : Nat) : Int) := by
  have hx := Md.xor_lt32 h h'
  show IntKind.u32.wrap (((BitVec.ofInt 32 (x : Int)) ^^^ (BitVec.ofInt 32 (y : Int))).toNat : Int) = _
  rw [BitVec.toNat_xor, BitVec.ofInt_natCast, BitVec.ofInt_natCast, BitVec.toNat_ofNat, BitVec.toNat_ofNat, Nat.mod_eq_of_lt (by omega), Nat.mod_eq_of_lt (by omega), IntKind.wrap_u32]
  omega
theorem and1_64 {x : Nat} (h : x < 4294967296) : bits .and .i64 (x : Int) 1 = ((x % 2 : Nat) : Int) := by
  have := bits_mask .i64 63 (by decide) (fun n h0 h1 => by rw [IntKind.wrap_i64]; omega) 1 (by decide) (x : Int) (by omega) (by omega)
  rw [show (1 : Int) = 2 ^ 1 - 1 by decide, this]
  norm_cast
theorem and1_32 {x : Nat} (h : x < 4294967296) : bits .and .u32 (x : Int) 1 = ((x % 2 : Nat) : Int) := by
  have := bits_mask .u32 32 (by decide) (fun n h0 h1 => by rw [IntKind.wrap_u32]; omega) 1 (by decide) (x : Int) (by omega) (by omega)
  rw [show (1 : Int) = 2 ^ 1 - 1 by decide, this]
  norm_cast
theorem half (x : Nat) (k : IntKind) (hk : 1 ≤ k.bits) : (x : Int) / 2 ^ min (1 : Int).toNat k.bits = ((x / 2 : Nat) : Int) := by
  rw [show min (1 : Int).toNat k.bits = 1 from Nat.min_eq_left hk]
  norm_cast
theorem crcBit_odd {x : Nat} (h : x % 2 = 1) : Md.crcBit x = x / 2 ^^^ 3988292384 := if_pos h
theorem crcBit_even {x : Nat} (h : ¬ x % 2 = 1) : Md.crcBit x = x / 2 := if_neg h
theorem shr1_64 (P : Program) (T : TypeId) (x : Nat) : bin P T .shr (.int .i64 (x : Int)) (.int .u64 1) = some (.int .i64 ((x / 2 : Nat) : Int)) := by
  rw [bin_shr _ _ _ _ _ _ (by decide), half x .i64 (by decide)]
theorem shr1_32 (P : Program) (T : TypeId) (x : Nat) : bin P T .shr (.int .u32 (x : Int)) (.int .u64 1) = some (.int .u32 ((x / 2 : Nat) : Int)) := by
  rw [bin_shr _ _ _ _ _ _ (by decide), half x .u32 (by decide)]
theorem shrB (P : Program) (T : TypeId) (x j : Nat) (hj : j ≤ 64) : bin P T .shr (.int .i64 (x : Int)) (.int .u64 (j : Int)) = some (.int .i64 ((x / 2 ^ j : Nat) : Int)) := by
  rw [bin_shr _ _ _ _ _ _ (by omega), show min ((j : Int)).toNat IntKind.i64.bits = j from Nat.min_eq_left hj]
  norm_cast
theorem shr8 (P : Program) (T : TypeId) (x : Nat) : bin P T .shr (.int .i64 (x : Int)) (.int .u64 8) = some (.int .i64 ((x / 256 : Nat) : Int)) := shrB P T x 8 (by decide)
theorem shr16 (P : Program) (T : TypeId) (x : Nat) : bin P T .shr (.int .i64 (x : Int)) (.int .u64 16) = some (.int .i64 ((x / 65536 : Nat) : Int)) := shrB P T x 16 (by decide)
theorem shr24 (P : Program) (T : TypeId) (x : Nat) : bin P T .shr (.int .i64 (x : Int)) (.int .u64 24) = some (.int .i64 ((x / 16777216 : Nat) : Int)) := shrB P T x 24 (by decide)
theorem wrap8 (x : Nat) : IntKind.u8.wrap (x : Int) = ((x % 256 : Nat) : Int) := by rw [IntKind.wrap_u8]; omega
/-- all are bytes -/
def InR (xs : List Int) : Prop := ∀ b ∈ xs, 0 ≤ b ∧ b < 256
theorem InR.take {xs : List Int} (h : InR xs) (i : Nat) : InR (xs.take i) := fun b hb => h b (List.mem_of_mem_take hb)
theorem crcTake {xs : List Int} {i : Nat} (hi : i < xs.length) : Md.crcUp (xs.take (i + 1)) = Md.crcN 8 (Md.crcUp (xs.take i) ^^^ xs[i].toNat) := by
  rw [List.take_succ_eq_append_getElem hi, Md.crcUp_snoc]; rfl
theorem poly64 {x : Nat} (h : x < 4294967296) : bits .xor .i64 (x : Int) 3988292384 = ((x ^^^ 3988292384 : Nat) : Int) := xor64 h (by decide)
theorem poly32 {x : Nat} (h : x < 4294967296) : bits .xor .u32 (x : Int) 3988292384 = ((x ^^^ 3988292384 : Nat) : Int) := xor32 h (by decide)
theorem last64 {x : Nat} (h : x < 4294967296) : bits .xor .i64 (x : Int) 4294967295 = ((x ^^^ 4294967295 : Nat) : Int) := xor64 h (by decide)
theorem last32 {x : Nat} (h : x < 4294967296) : bits .xor .u32 (x : Int) 4294967295 = ((x ^^^ 4294967295 : Nat) : Int) := xor32 h (by decide)
theorem specCrc_p (d : D) (xs : List Int) (h : IsL 1 IsByte d xs) (hr : InR xs) (hs : xs.length ≤ 1099511627776) : PCall Try.prog 103 [d] fun _ _ r => r = .lit (.int .i64 (Md.crc xs : Nat)) := by
  refine pcall_intro_v Try.func103 rfl (by decide) rfl (by decide) (by rw [Try.ntmps103]; simp) fun w0 M n0 => ivc_sound ?_; simp -dsimp only [Try.f103, go_sem, h.lenT]
  refine iwp_forK xs.length [0, 2] (fun i s => s 4 = .lit (.int .i64 i) ∧ s 3 = .lit (.int .i64 (Md.crcUp (xs.take i) : Nat))) 0 (Nat.zero_le _) ⟨by simp -dsimp only [go_sem]; rfl, by simp -dsimp only [go_sem]; rfl⟩ ?_
  rintro i n' s hi hn hk ⟨h4, h3⟩
  refine ivc_sound ?_
  simp -dsimp only [go_sem] at hk
  have hx32 : Md.crcUp (xs.take i) < 4294967296 := Md.crcUp_lt (hr.take i)
  by_cases hlt : i < xs.length
  · have hlt' : (i : Int) < (xs.length : Int) := by omega
    have hb := hr xs[i] (List.getElem_mem hlt)
    obtain ⟨t, zb, f, e0, _, hf⟩ := h.sl hlt
    have hfi : f i = .lit (.int .u8 xs[i]) := hf i hlt
    have eb : (xs[i] : Int) = ((xs[i].toNat : Nat) : Int) := by omega
    have hw : IntKind.i64.wrap ((xs[i].toNat : Nat) : Int) = ((xs[i].toNat : Nat) : Int) := by rw [IntKind.wrap_i64]; omega
    have ey := xor64 hx32 (show xs[i].toNat < 4294967296 by omega)
    rw [eb] at hfi
    simp -dsimp only [go_sem, hk, h4, h3, hlt', e0, hlt, hfi, hw, ey]
    have hy0 := Md.xor_lt32 hx32 (show xs[i].toNat < 4294967296 by omega)
    have hct := crcTake hlt
    have hwi := i64_succ (i := i) (by omega)
    generalize Md.crcUp (xs.take i) ^^^ xs[i].toNat = Y at hy0 hct
    refine iwp_forK 8 [0, 2, 4] (fun k s => s 5 = .lit (.int .i64 k) ∧ s 3 = .lit (.int .i64 (Md.crcN k Y : Nat))) 0 (by decide) ⟨by simp -dsimp only [go_sem]; rfl, by simp -dsimp only [go_sem]; rfl⟩ ?_
    rintro k n2 s2 hk2 hn2 hk' ⟨h5, h3'⟩
    refine ivc_sound ?_
    simp -dsimp only [go_sem, hk, h4] at hk'
    have hy := Md.crcN_lt hy0 k
    by_cases hk8 : k < 8
    · have hk8' : (k : Int) < 8 := by omega
      have hwk := i64_succ (i := k) (by omega)
      by_cases hp : Md.crcN k Y % 2 = 1
      · have e1 : ((Md.crcN k Y % 2 : Nat) : Int) = 1 := by omega
        have ep := poly64 (x := Md.crcN k Y / 2) (by omega)
        have ec := crcBit_odd hp
        simp -dsimp only [go_sem, hk', h5, h3', hk8', and1_64 hy, e1, shr1_64, ep, beq_self_eq_true]
        exact ⟨hk8, into_k (by omega) (by simp -dsimp only [go_sem, hk', hk, h4]) ⟨by simp -dsimp only [go_sem, hwk], by simp -dsimp only [go_sem]; exact congrArg (fun n : Nat => (n : Int)) ec.symm⟩⟩
      · have e1 : ((Md.crcN k Y % 2 : Nat) : Int) = 0 := by omega
        have e2 : ((0 : Int) == 1) = false := rfl
        have ec := crcBit_even hp
        simp -dsimp only [go_sem, hk', h5, h3', hk8', and1_64 hy, e1, e2, shr1_64]
        exact ⟨hk8, into_k (by omega) (by simp -dsimp only [go_sem, hk', hk, h4]) ⟨by simp -dsimp only [go_sem, hwk], by simp -dsimp only [go_sem]; exact congrArg (fun n : Nat => (n : Int)) ec.symm⟩⟩
    · have hk8' : ¬ (k : Int) < 8 := by omega
      have e8 : k = 8 := by omega
      subst e8
      simp -dsimp only [go_sem, hk', h5, h3', hk8', h4, hk]
      exact into_k (by omega) (by simp -dsimp only [go_sem, hk', hk, e0]) ⟨by simp -dsimp only [go_sem, hwi], by simp -dsimp only [go_sem, h3', hct]⟩
  · have hlt' : ¬ (i : Int) < (xs.length : Int) := by omega
    have ei : xs.take i = xs := List.take_of_length_le (by omega)
    rw [ei] at h3 hx32
    simp -dsimp only [go_sem, hk, h4, h3, hlt', last64 hx32, h.lenT]
    rfl
theorem implCrc_p (d : D) (xs : List Int) (h : IsL 1 IsByte d xs) (hr : InR xs) (hs : xs.length ≤ 1099511627776) : PCall Try.prog 178 [d] fun _ _ r => r = .lit (.int .i64 (Md.crc xs : Nat)) := by
  refine pcall_intro_v Try.func178 rfl (by decide) rfl (by decide) (by rw [Try.ntmps178]; simp) fun w0 M n0 => ivc_sound ?_; simp -dsimp only [Try.f178, go_sem, h.lenT]
  refine iwp_forK xs.length [2, 7, 8] (fun i s => s 9 = .lit (.int .i64 i) ∧ s 3 = .lit (.int .u32 (Md.crcUp (xs.take i) : Nat))) 0 (Nat.zero_le _) ⟨by simp -dsimp only [go_sem]; rfl, by simp -dsimp only [go_sem]; rfl⟩ ?_
  rintro i n' s hi hn hk ⟨h4, h3⟩
  refine ivc_sound ?_
  simp -dsimp only [go_sem] at hk
  have hx32 : Md.crcUp (xs.take i) < 4294967296 := Md.crcUp_lt (hr.take i)
  by_cases hlt : i < xs.length
  · have hlt' : (i : Int) < (xs.length : Int) := by omega
    have hb := hr xs[i] (List.getElem_mem hlt)
    obtain ⟨t, zb, f, e0, _, hf⟩ := h.sl hlt
    have hfi : f i = .lit (.int .u8 xs[i]) := hf i hlt
    have eb : (xs[i] : Int) = ((xs[i].toNat : Nat) : Int) := by omega
    have hw : IntKind.u32.wrap ((xs[i].toNat : Nat) : Int) = ((xs[i].toNat : Nat) : Int) := by rw [IntKind.wrap_u32]; omega
    have ey := xor32 hx32 (show xs[i].toNat < 4294967296 by omega)
    rw [eb] at hfi
    simp -dsimp only [go_sem, hk, h4, h3, hlt', e0, hlt, hfi, hw, ey]
    have hy0 := Md.xor_lt32 hx32 (show xs[i].toNat < 4294967296 by omega)
    have hct := crcTake hlt
    have hwi := i64_succ (i := i) (by omega)
    generalize Md.crcUp (xs.take i) ^^^ xs[i].toNat = Y at hy0 hct
    refine iwp_forK 8 [2, 7, 8, 9] (fun k s => s 17 = .lit (.int .i64 k) ∧ s 3 = .lit (.int .u32 (Md.crcN k Y : Nat))) 0 (by decide) ⟨by simp -dsimp only [go_sem]; rfl, by simp -dsimp only [go_sem]; rfl⟩ ?_
    rintro k n2 s2 hk2 hn2 hk' ⟨h5, h3'⟩
    refine ivc_sound ?_
    simp -dsimp only [go_sem, hk, h4] at hk'
    have hy := Md.crcN_lt hy0 k
    by_cases hk8 : k < 8
    · have hk8' : (k : Int) < 8 := by omega
      have hwk := i64_succ (i := k) (by omega)
      by_cases hp : Md.crcN k Y % 2 = 1
      · have e1 : ((Md.crcN k Y % 2 : Nat) : Int) = 1 := by omega
        have ep := poly32 (x := Md.crcN k Y / 2) (by omega)
        have ec := crcBit_odd hp
        simp -dsimp only [go_sem, hk', h5, h3', hk8', and1_32 hy, e1, shr1_32, ep, beq_self_eq_true]
        exact ⟨hk8, into_k (by omega) (by simp -dsimp only [go_sem, hk', hk, h4]) ⟨by simp -dsimp only [go_sem, hwk], by simp -dsimp only [go_sem]; exact congrArg (fun n : Nat => (n : Int)) ec.symm⟩⟩
      · have e1 : ((Md.crcN k Y % 2 : Nat) : Int) = 0 := by omega
        have e2 : ((0 : Int) == 1) = false := rfl
        have ec := crcBit_even hp
        simp -dsimp only [go_sem, hk', h5, h3', hk8', and1_32 hy, e1, e2, shr1_32]
        exact ⟨hk8, into_k (by omega) (by simp -dsimp only [go_sem, hk', hk, h4]) ⟨by simp -dsimp only [go_sem, hwk], by simp -dsimp only [go_sem]; exact congrArg (fun n : Nat => (n : Int)) ec.symm⟩⟩
    · have hk8' : ¬ (k : Int) < 8 := by omega
      have e8 : k = 8 := by omega
      subst e8
      simp -dsimp only [go_sem, hk', h5, h3', hk8', h4, hk]
      exact into_k (by omega) (by simp -dsimp only [go_sem, hk', hk, e0]) ⟨by simp -dsimp only [go_sem, hwi], by simp -dsimp only [go_sem, h3', hct]⟩
  · have hlt' : ¬ (i : Int) < (xs.length : Int) := by omega
    have ei : xs.take i = xs := List.take_of_length_le (by omega)
    rw [ei] at h3 hx32
    have hc := Md.xor_lt32 hx32 (show 4294967295 < 4294967296 by decide)
    have hw : IntKind.i64.wrap ((Md.crcUp xs ^^^ 4294967295 : Nat) : Int) = ((Md.crcUp xs ^^^ 4294967295 : Nat) : Int) := by rw [IntKind.wrap_i64]; omega
    simp -dsimp only [go_sem, hk, h4, h3, hlt', last32 hx32, h.lenT, hw]
    rfl
theorem fourRow (x : Nat) : ByteRow (upd (upd (upd (upd (fun _ => D.lit (.int .u8 0)) 0 (.lit (.int .u8 ((x % 256 : Nat) : Int)))) 1 (.lit (.int .u8 ((x / 256 % 256 : Nat) : Int)))) 2 (.lit (.int .u8 ((x / 65536 % 256 : Nat) : Int)))) 3 (.lit (.int .u8 ((x / 16777216 % 256 : Nat) : Int)))) (Md.four x) :=
  ⟨still_upd (still_upd (still_upd (still_upd (fun _ => trivial) trivial) trivial) trivial) trivial, fun i hi => by
    have hi' : i < 4 := hi
    match i, hi' with
    | 0, _ => rfl
    | 1, _ => rfl
    | 2, _ => rfl
    | 3, _ => rfl⟩
theorem sumBytes_o (d : D) (xs : List Int) (h : IsL 1 IsByte d xs) (hr : InR xs) (hs : xs.length ≤ 1099511627776) : ICall Try.prog 105 [d] [] (RowOut 1 (Bytes (Md.four (Md.crc xs)))) := by
  refine iput_nil Try.func105 rfl (by decide) rfl (by decide) (by rw [Try.ntmps105]; simp) fun w0 M n0 hW hT => ivc_sound ?_; simp -dsimp only [Try.f105, go_sem, h.lenT]
  refine xcall_v (implCrc_p d xs h hr hs) (by simp -dsimp only [go_sem, rl_still, h.still]) (fun _ => trivial) fun n1 hn1 => ?_
  simp -dsimp only [go_sem, shr8, shr16, shr24, wrap8]
  intro g b hb
  exact oend_tmp (by simp -dsimp only [go_sem]; rfl) (by simp -dsimp only [go_sem]; rfl) (fourRow _).1 ⟨rfl, fourRow _⟩
theorem l1Four_p (x : Nat) (hx : x < 4294967296) : PCall Try.prog 102 [.lit (.int .i64 (x : Int))] fun n0 n1 r => IsL 1 IsByte r (Md.four x) ∧ Own n0 n1 r := by
  refine pcall_intro_t Try.func102 rfl (by decide) rfl (by decide) (by rw [Try.ntmps102]; simp) fun w0 M n0 hW hT => ivc_sound ?_; simp -dsimp only [Try.f102, go_sem, shr8, shr16, shr24, wrap8]
  intro g b hb n1 hn1 hfc
  rw [rls_still (fourRow x).1]
  exact (fourRow x).own (show 4 < 140737488355328 by decide) hb (by omega)
theorem grow_o (n : Nat) (h0 : 0 < n) (h1 : n ≤ 16777216) : ICall Try.prog 177 [.nil, .lit (.int .i64 (n : Int))] [] (RowOut 1 fun m _ => m = 0) := by
  refine ⟨⟨_, Try.func177, rfl, by decide⟩, fun w p gb vs hsz hp _ _ hvs => ?_⟩
  have e0 := hvs 0 .nil rfl
  have e1 := hvs 1 (.lit (.int .i64 (n : Int))) rfl
  obtain ⟨ad, e0⟩ := e0
  have e0 : vs.getD 0 undef = .slice ad 0 0 := by simpa using e0
  have e1 : vs.getD 1 undef = .int .i64 n := (VRep_lit e1).1
  have ev : vs = #[.slice ad 0 0, .int .i64 n] := by
    obtain ⟨l⟩ := vs
    match l, hsz with
    | [a, b], _ =>
      have h0 : a = .slice ad 0 0 := e0
      have h1 : b = .int .i64 n := e1
      rw [h0, h1]
  subst ev
  refine (grow_calls n h0 h1 w ad).mono ?_
  rintro en w' ⟨c, C, T, rfl, hC, rfl⟩
  have hheap : ((w.alloc (.cells C T)).drew).heap = w.heap.push (.cells C T) := rfl
  have hnew : ((w.alloc (.cells C T)).drew).heap[w.heap.size]? = some (.cells C T (0, 0)) := by rw [hheap]; simp
  refine ⟨_, .msl 1000 0 0 [] 0 0 1, [.node (.arr 0 1) fun _ => .any], fun _ => w.heap.size, p, rfl, ⟨0, fun _ => .any, rfl, rfl, fun _ => trivial, rfl⟩, ?_, fun b hb => hb, fun b hb => ⟨?_, .inl hb⟩, fun i d hi => ⟨?_, .inl (Nat.le_refl _)⟩, fun i j hi hj _ => ?_, ?_⟩
  · refine ⟨rfl, rfl, rfl, by rw [hheap, Array.size_push]; omega, fun k hk _ => by rw [hheap, Array.getElem?_push, if_neg (by omega)], fun k C' T' z hk => ⟨C', ?_, rfl⟩⟩
    have := lt_of_block hk
    rw [hheap, Array.getElem?_push, if_neg (by omega)]; exact hk
  · rw [hheap, Array.size_push]; have := hp b hb; omega
  · have hi0 : i = 0 := by
      have := (List.getElem?_eq_some_iff.1 hi).1
      simpa using this
    subst hi0
    obtain rfl : D.node (.arr 0 1) (fun _ => .any) = d := by simpa using hi
    exact ⟨fun hb => absurd (hp w.heap.size hb) (Nat.lt_irrefl _), trivial, C, T, [], hnew, ⟨fun _ => [], fun i hi => absurd hi (Nat.not_lt_zero i), rfl⟩, fun j v hj => by simp at hj⟩
  · have h1 : i = 0 := by simpa using hi
    have h2 : j = 0 := by simpa using hj
    omega
  · refine ⟨Nat.one_pos, _, c, rfl, Nat.zero_le _, fun b d hb => ?_⟩
    have hb : InsR (fun _ => w.heap.size) [D.node (.arr 0 1) fun _ => .any] 1000 = some (0, b, d) := hb
    obtain ⟨i, hi, h2, h3, _, rfl⟩ := InsR_some hb
    exact ⟨rfl, C, T, (0, 0), hnew, by rw [hC]; omega⟩
end Go.Proofs.Ytkigfigdoaoboaa.IM
end

section
/- Contracts: slices.Concat of bytes; frames. -/
namespace Go.Proofs.Ytkigfigdoaoboaa.IM
open Go Go.Proofs Go.RowKit
set_option linter.unusedVariables false
set_option linter.unusedSimpArgs false
set_option maxHeartbeats 2000000
set_option maxRecDepth 20000

def catUp (xss : List (List Int)) (i : Nat) : List Int := (xss.take i).flatten
theorem catUp_zero (xss : List (List Int)) : catUp xss 0 = [] := rfl
theorem catUp_succ {xss : List (List Int)} {i : Nat} (h : i < xss.length) : catUp xss (i + 1) = catUp xss i ++ xss[i] := by
  unfold catUp; rw [List.take_succ_eq_append_getElem h, List.flatten_append]; simp
theorem catUp_all {xss : List (List Int)} {i : Nat} (h : ¬ i < xss.length) : catUp xss i = xss.flatten := by unfold catUp; rw [List.take_of_length_le (by omega)]
theorem catUp_len {xss : List (List Int)} (i : Nat) : (catUp xss i).length ≤ xss.flatten.length := by
  have h : xss.flatten = catUp xss i ++ (xss.drop i).flatten := by unfold catUp; rw [← List.flatten_append, List.take_append_drop]
  rw [h, List.length_append]; omega
theorem concat_p (d : D) (xss : List (List Int)) (h : IsL 1 (IsL 1 IsByte) d xss) (h0 : 0 < xss.flatten.length) (h1 : xss.flatten.length ≤ 16777216) : PCall Try.prog 104 [d] fun n0 n1 r => IsL 1 IsByte r xss.flatten ∧ Own n0 n1 r := by
  have hsh := h.short
  refine pcall_intro_t Try.func104 rfl (by decide) rfl (by decide) (by rw [Try.ntmps104]; simp) fun w0 M n0 hW hT => ivc_sound ?_; simp -dsimp only [Try.f104, go_sem, h.lenT]
  refine iwp_forK xss.length [0, 2, 9, 10] (fun i s => s 11 = .lit (.int .i64 i) ∧ s 3 = .lit (.int .i64 ((catUp xss i).length : Nat))) 0 (Nat.zero_le _) ⟨by simp -dsimp only [go_sem]; rfl, by simp -dsimp only [go_sem]; rfl⟩ ?_
  rintro i n' s hi hn hk ⟨h11, h3⟩
  refine ivc_sound ?_
  simp -dsimp only [go_sem] at hk
  by_cases hlt : i < xss.length
  · have hlt' : (i : Int) < (xss.length : Int) := by omega
    obtain ⟨t, zb, f, e0, _, hf⟩ := h.sl hlt
    have hfi := hf i hlt
    have hcl := catUp_len (xss := xss) (i + 1)
    have hcs := catUp_succ hlt
    have hwi := i64_succ (i := i) (by omega)
    have hlen : (catUp xss (i + 1)).length = (catUp xss i).length + xss[i].length := by rw [hcs, List.length_append]
    have hws : IntKind.i64.wrap (((catUp xss i).length : Int) + (xss[i].length : Int)) = ((catUp xss (i + 1)).length : Int) := by rw [IntKind.wrap_i64]; omega
    have hge : ¬ ((catUp xss (i + 1)).length : Int) < 0 := by omega
    simp -dsimp only [go_sem, hk, h11, h3, hlt', e0, hlt, hfi.lenT, hfi.size, hfi.isNode, hfi.plain, hws, hge]
    exact into_k (by omega) (by simp -dsimp only [go_sem, hk, e0]) ⟨by simp -dsimp only [go_sem, hwi], by simp -dsimp only [go_sem]⟩
  · have hlt' : ¬ (i : Int) < (xss.length : Int) := by omega
    have ei := catUp_all (xss := xss) hlt
    rw [ei] at h3
    simp -dsimp only [go_sem, hk, h11, h3, hlt', h.lenT]
    refine xcall_o0 (l := 3200) (grow_o xss.flatten.length h0 h1) rfl (by simp -dsimp only [go_sem]) ⟨trivial, trivial, trivial⟩ fun n1 q f' G b' hn1 hst hA hb1 hb2 => ?_
    obtain rfl : q = 0 := hA
    simp -dsimp only [go_sem, hk, h.lenT]
    refine iwp_forR xss.length [2, 25, 26] (fun i n' s R => s 27 = .lit (.int .i64 i) ∧ ∃ g b f, s 6 = .msl 3200 g 0 [] 0 (catUp xss i).length 1 ∧
        R = upd (fun _ => none) 3200 (some (g, b, .node (.arr (catUp xss i).length 1) f)) ∧ ByteRow f (catUp xss i) ∧ n0 ≤ b ∧ b < n') 0 (Nat.zero_le _)
      ⟨by simp -dsimp only [go_sem]; rfl, G, b', f', by simp -dsimp only [go_sem]; rfl, by rfl, ⟨hst, fun i hi => absurd hi (Nat.not_lt_zero i)⟩, by omega, by omega⟩ ?_
    rintro i n' s R hi hn hk ⟨h27, g, b, f, h6, rfl, hB, hb3, hb4⟩
    refine ivc_sound ?_
    simp -dsimp only [go_sem] at hk
    by_cases hlt2 : i < xss.length
    · have hlt2' : (i : Int) < (xss.length : Int) := by omega
      obtain ⟨t, zb, f0, e0, _, hf⟩ := h.sl hlt2
      have hfi := hf i hlt2
      have hcl := catUp_len (xss := xss) (i + 1)
      have hcs := catUp_succ hlt2
      have hwi := i64_succ (i := i) (by omega)
      have hlen : (catUp xss (i + 1)).length = (catUp xss i).length + xss[i].length := by rw [hcs, List.length_append]
      obtain ⟨f9, sz, hsrc, hsz, hT, hrow0, hl0⟩ := hfi.src
      simp -dsimp only [go_sem, hk, h27, h6, hlt2', e0, hlt2, hfi.lenT, hfi.size, hfi.isNode, hfi.plain, hsrc, hT]
      refine ⟨hsz, by omega, by omega, fun g3 b3 n2 hn2 hb5 hb6 => ?_⟩
      have hrow2 := hB.append hrow0
      rw [← hcs] at hrow2
      exact into_r (by omega) (by simp -dsimp only [go_sem, hk, e0]) ⟨by simp -dsimp only [go_sem, hwi], g3, b3, _, by simp -dsimp only [go_sem, hlen], by rw [hlen], hrow2, by rcases hb6 with h | h <;> omega, by omega⟩
    · have hlt2' : ¬ (i : Int) < (xss.length : Int) := by omega
      have ei := catUp_all (xss := xss) hlt2
      rw [ei] at h6 hB ⊢
      simp -dsimp only [go_sem, hk, h27, h6, hlt2', h.lenT]
      intro n3 hn3 hfc
      rw [rls_still hB.1]
      exact hB.own (by omega) (by omega) (by omega)
theorem frame_flat (xs : List Int) : [Md.putInt [] xs.length, xs, Md.four (Md.crc xs)].flatten = Md.frame xs := by
  unfold Md.frame Md.putInt
  simp [List.flatten]
theorem isL3 {α : Type} {R : D → α → Prop} {b sz : Nat} {F : Nat → D} {x y z : α} (hs : ∀ i, (F i).still) (h0 : R (F 0) x) (h1 : R (F 1) y) (h2 : R (F 2) z) : IsL sz R (.sl b true 3 sz F) [x, y, z] :=
  .inr ⟨b, true, F, rfl, hs, show 3 < 140737488355328 by decide, fun i hi => by
    have hi' : i < 3 := hi
    match i, hi' with
    | 0, _ => exact h0
    | 1, _ => exact h1
    | 2, _ => exact h2⟩
theorem ByteRow.isL {f : Nat → D} {xs : List Int} {t : Nat} (h : ByteRow f xs) (hl : xs.length < 140737488355328) : IsL 1 IsByte (.sl t true xs.length 1 f) xs := .inr ⟨t, true, f, rfl, h.1, hl, h.2⟩
theorem still_rowEnd {G : Nat → D} {m : Nat} (h : ∀ i, i < m → (G i).still) (h2 : ∀ i, m ≤ i → (G i).still) (i : Nat) : (G i).still := (Nat.lt_or_ge i m).elim (h i) (h2 i)
theorem byteData {d : D} {xs : List Int} (h : IsL 1 IsByte d xs) : d.data := IsL.data (fun d x h => by have h : d = _ := h; subst h; trivial) h
theorem implFrame_p (d : D) (xs : List Int) (h : IsL 1 IsByte d xs) (hr : InR xs) (hs : xs.length ≤ 1048576) : PCall Try.prog 26 [d] fun n0 n1 r => IsL 1 IsByte r (Md.frame xs) ∧ Own n0 n1 r := by
  have e4 := h.still
  have hpl := putInt_length [] xs.length
  rw [List.length_nil] at hpl
  refine pcall_intro_t Try.func26 rfl (by decide) rfl (by decide) (by rw [Try.ntmps26]; simp) fun w0 M n0 hW hT => ivc_sound ?_; simp -dsimp only [Try.f26, go_sem, h.lenT]
  refine xcall_o0 (l := 2250) (putInt_n xs.length) rfl (by simp -dsimp only [go_sem]) ⟨trivial, trivial, trivial⟩ fun n1 q f' G b' hn1 hst hA hb1 hb2 => ?_
  obtain ⟨rfl, hA⟩ := hA
  simp -dsimp only [go_sem, h.lenT]
  refine xcall_o0 (l := 2400) (sumBytes_o d xs h hr (by omega)) rfl (by simp -dsimp only [go_sem]) ⟨e4, trivial⟩ fun n2 q2 f2 G2 b2 hn2 hst2 hA2 hb3 hb4 => ?_
  obtain ⟨rfl, hA2⟩ := hA2
  simp -dsimp only [go_sem, h.lenT, h.size, h.plain, h.isNode]
  intro g b hb
  have hfl := frame_flat xs
  have hfl2 : (Md.frame xs).length ≤ 2000000 := by
    rw [← hfl]; simp [Md.four_length] at *; omega
  have hfl0 : 0 < (Md.frame xs).length := by
    rw [← hfl]; simp [Md.four_length] at *; omega
  have hq : IsL 1 (IsL 1 IsByte) (.sl b true 3 1 fun i => if i = 0 then .sl b' true (Md.putInt [] xs.length).length 1 f' else if i = 1 then d else if i = 2 then .sl b2 true (Md.four (Md.crc xs)).length 1 f2 else .nil) [Md.putInt [] xs.length, xs, Md.four (Md.crc xs)] :=
    isL3 (fun i => by
      show (if i = 0 then _ else if i = 1 then _ else if i = 2 then _ else _ : D).still
      split
      · exact hst
      · split
        · exact e4
        · split
          · exact hst2
          · trivial) (hA.isL (by omega)) h (hA2.isL (by simp [Md.four_length]))
  refine xcall_p (concat_p _ _ hq (by rw [hfl]; omega) (by rw [hfl]; omega)) (by
    simp -dsimp only [go_sem]
    refine congrArg (fun F => [D.sl b true 3 1 F]) (funext fun i => ?_)
    by_cases i0 : i = 0
    · subst i0; simp -dsimp only [go_sem, rls_still hst]
    · by_cases i1 : i = 1
      · subst i1; simp -dsimp only [go_sem, rl_still, e4]
      · by_cases i2 : i = 2
        · subst i2; simp -dsimp only [go_sem, rls_still hst2]
        · rw [upd_ne _ _ i2, upd_ne _ _ i1, upd_ne _ _ i0, if_neg i0, if_neg i1, if_neg i2]; exact rl_still (d := .nil) trivial
      ) fun m0 p0 r hm0 hp0 hr => ?_
  rw [hfl] at hr
  refine ⟨hr.2.tags, ?_⟩
  have x0 := hr.1.still
  simp -dsimp only [go_sem]
  intro n1 hn1 hfc
  rw [rl_still x0]
  exact ⟨hr.1, hr.2.mono (by omega) (by omega)⟩
theorem specFrame_p (d : D) (xs : List Int) (h : IsL 1 IsByte d xs) (hr9 : InR xs) (hs : xs.length ≤ 1048576) : PCall Try.prog 24 [d] fun n0 n1 r => IsL 1 IsByte r (Md.frame xs) ∧ Own n0 n1 r := by
  have e4 := h.still
  have hpl := putInt_length [] xs.length
  rw [List.length_nil] at hpl
  have dd := byteData h
  refine pcall_intro_t Try.func24 rfl (by decide) rfl (by decide) (by rw [Try.ntmps24]; simp) fun w0 M n0 hW hT => ivc_sound ?_; simp -dsimp only [Try.f24, go_sem, h.lenT]
  intro g b hb
  have dT := hT d (by simp) dd
  have he : IsL 1 IsByte (.sl b true 0 1 fun _ => .lit (.int .u8 0)) [] := .inr ⟨b, true, _, rfl, fun _ => trivial, by simp, fun i hi => absurd hi (by simp)⟩
  refine xcall_t (specPutInt_p _ _ xs.length he (by simp)) (by simp -dsimp only [go_sem, rl_still]) fun m0 p0 r hm0 hp0 hr => ?_
  have hm0' : b + 1 ≤ m0 := hm0
  have hro := hr.2
  rcases hr.1.bytes with ⟨rfl, h0⟩ | ⟨t, zb, f, rfl, hrow, hl⟩
  · have := putInt_pos' [] xs.length
    rw [h0] at this; simp at this
  obtain rfl : zb = true := hro.wh.1
  have ht := hro.rg t (by simp [D.tl])
  have hdf : d.free t := free_of_tags (m := n0) (by omega) dT
  refine ⟨hro.tags, conv_sl (l := 1000) (R' := fun _ => none) [0] (hW t (by omega)) rfl (own_free hro) (fun j hj => ?_) (fun l' g b x hx => by cases hx) fun g => ?_⟩
  · obtain rfl : j = 0 := by simpa using hj
    simp -dsimp only [go_sem]
    exact hdf
  obtain ⟨f9, sz, hsrc, hsz, hT9, hrow0, hl0⟩ := h.src
  simp -dsimp only [go_sem, hsrc, hT9]
  refine ⟨hsz, by omega, by omega, fun g3 b3 n2 hn2 hb3 hb4 => ?_⟩
  have hrow1 := hrow.append hrow0
  have hlen1 : (Md.putInt [] xs.length ++ xs).length = (Md.putInt [] xs.length).length + xs.length := List.length_append ..
  rw [← hlen1]
  refine xcall_v (specCrc_p _ _ h hr9 (by omega)) (by simp -dsimp only [go_sem, rl_still, e4]) (fun _ => trivial) fun n3 hn3 => ?_
  simp -dsimp only [go_sem]
  refine xcall_p (l1Four_p _ (Md.crc_lt hr9)) (by simp -dsimp only [go_sem]) fun m1 p1 r1 hm1 hp1 hr1 => ?_
  refine ⟨hr1.2.tags, ?_⟩
  obtain ⟨f8, sz8, hsrc8, hsz8, hT8, hrow8, hl8⟩ := hr1.1.src
  simp -dsimp only [go_sem, hsrc8, hT8]
  have hfl := frame_flat xs
  have hfl2 : Md.putInt [] xs.length ++ xs ++ Md.four (Md.crc xs) = Md.frame xs := by rw [← hfl]; simp
  have hrow2 := hrow1.append hrow8
  have hlen2 : (Md.putInt [] xs.length ++ xs ++ Md.four (Md.crc xs)).length = (Md.putInt [] xs.length ++ xs).length + (Md.four (Md.crc xs)).length := List.length_append ..
  have h4 : (Md.four (Md.crc xs)).length = 4 := rfl
  have hpl9 : (Md.putInt [] xs.length).length ≤ 10 := by simpa using hpl
  refine ⟨hsz8, by omega, by omega, fun g4 b4 n4 hn4 hb5 hb6 n5 hn5 hfc => ?_⟩
  rw [rls_still hrow2.1, ← hlen2]
  rw [hfl2] at hrow2 hlen2 ⊢
  have hm1' : n3 ≤ m1 := hm1
  exact hrow2.own (by omega) (by rcases hb6 with h | h <;> rcases hb4 with h' | h' <;> omega) (by omega)
end Go.Proofs.Ytkigfigdoaoboaa.IM
end
