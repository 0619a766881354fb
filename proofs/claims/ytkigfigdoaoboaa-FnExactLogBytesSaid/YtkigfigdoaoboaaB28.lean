/- Several of my texts in one module (merge.py). -/
import Derived.Test.YtkigfigdoaoboaaA4
import Derived.Test.YtkigfigdoaoboaaB30
import Derived.Test.YtkigfigdoaoboaaA3
import Derived.Test.YtkigfigdoaoboaaA8
section
/- Contracts: GetInt. Printed by getint.py. -/
namespace Go.Proofs.Ytkigfigdoaoboaa.IM
open Go Go.Proofs
set_option linter.unusedVariables false
set_option linter.unusedSimpArgs false
set_option maxHeartbeats 2000000
set_option maxRecDepth 20000

theorem inB_iff2 (a b c : Int) : Md.inB a b c = true ↔ b ≤ a ∧ a ≤ c := by simp [Md.inB]
/-- the seven bits of a group -/
def and7 (c : Int) : Int := bits .and .i64 c 127
theorem and7_rg (c : Int) : 0 ≤ and7 c ∧ and7 c ≤ 127 := by
  have h : (BitVec.ofInt 64 c &&& BitVec.ofInt 64 127).toNat ≤ 127 := by rw [BitVec.toNat_and]; exact Nat.le_trans Nat.and_le_right (by decide)
  have e : and7 c = IntKind.i64.wrap ((BitVec.ofInt 64 c &&& BitVec.ofInt 64 127).toNat : Int) := rfl
  rw [e, IntKind.wrap_i64]; omega
theorem binAnd7 (P : Program) (c : Int) : ∀ T, bin P T .and (.int .i64 c) (.int .i64 127) = some (.int .i64 (and7 c)) := fun T => bin_and P T _ _ _
def scanG : Nat → Int → List Int → Option (Int × Nat)
  | _, _, [] => none
  | k, m, c :: l => if 6 ≤ k then none else if 127 < c then scanG (k + 1) (m + and7 c * 128 ^ k) l else if 0 < k ∧ c = 0 then none else some (m + and7 c * 128 ^ k, k + 1)
def unz (m : Int) : Int := if m % 2 = 1 then -(m / 2) - 1 else m / 2
def getInt (xs : List Int) (at_ : Int) : Int × Int × Bool :=
  if 0 ≤ at_ ∧ at_ < xs.length then
    match scanG 0 0 ((xs.map IntKind.i64.wrap).drop at_.toNat) with
    | some (m, j) => if Md.inB (unz m) (-1000000000000) 1000000000000 then (unz m, at_ + j, true) else (0, 0, false)
    | none => (0, 0, false)
  else (0, 0, false)
theorem scanG_six {k : Nat} {m : Int} (h : 6 ≤ k) : ∀ l, scanG k m l = none
  | [] => rfl
  | c :: l => by show (if 6 ≤ k then none else _) = _; rw [if_pos h]
theorem scanG_more {k : Nat} {m c : Int} {l : List Int} (hk : k < 6) (h : 127 < c) : scanG k m (c :: l) = scanG (k + 1) (m + and7 c * 128 ^ k) l := by
  show (if 6 ≤ k then none else _) = _
  rw [if_neg (by omega), if_pos h]
theorem scanG_bad {k : Nat} {m c : Int} {l : List Int} (hk : k < 6) (h : ¬ 127 < c) (h0 : 0 < k ∧ c = 0) : scanG k m (c :: l) = none := by
  show (if 6 ≤ k then none else _) = _
  rw [if_neg (by omega), if_neg h, if_pos h0]
theorem scanG_end {k : Nat} {m c : Int} {l : List Int} (hk : k < 6) (h : ¬ 127 < c) (h0 : ¬ (0 < k ∧ c = 0)) : scanG k m (c :: l) = some (m + and7 c * 128 ^ k, k + 1) := by
  show (if 6 ≤ k then none else _) = _
  rw [if_neg (by omega), if_neg h, if_neg h0]
theorem six {k : Nat} (h : k < 6) : k = 0 ∨ k = 1 ∨ k = 2 ∨ k = 3 ∨ k = 4 ∨ k = 5 := by omega
theorem binShlK (P : Program) {a : Int} {k : Nat} (h0 : 0 ≤ a) (h1 : a ≤ 127) (hk : k < 6) (k' : IntKind) : ∀ T, bin P T .shl (.int .i64 a) (.int k' ((7 * k : Nat) : Int)) = some (.int .i64 (a * 128 ^ k)) := fun T => by
  rw [bin_shl P T _ _ _ _ (by omega)]
  congr 2
  rcases six hk with rfl | rfl | rfl | rfl | rfl | rfl
  · rw [show (2 : Int) ^ min (Int.toNat ((7 * 0 : Nat) : Int)) IntKind.i64.bits = 1 from by decide, show (128 : Int) ^ 0 = 1 from by decide, IntKind.wrap_i64]; omega
  · rw [show (2 : Int) ^ min (Int.toNat ((7 * 1 : Nat) : Int)) IntKind.i64.bits = 128 from by decide, show (128 : Int) ^ 1 = 128 from by decide, IntKind.wrap_i64]; omega
  · rw [show (2 : Int) ^ min (Int.toNat ((7 * 2 : Nat) : Int)) IntKind.i64.bits = 16384 from by decide, show (128 : Int) ^ 2 = 16384 from by decide, IntKind.wrap_i64]; omega
  · rw [show (2 : Int) ^ min (Int.toNat ((7 * 3 : Nat) : Int)) IntKind.i64.bits = 2097152 from by decide, show (128 : Int) ^ 3 = 2097152 from by decide, IntKind.wrap_i64]; omega
  · rw [show (2 : Int) ^ min (Int.toNat ((7 * 4 : Nat) : Int)) IntKind.i64.bits = 268435456 from by decide, show (128 : Int) ^ 4 = 268435456 from by decide, IntKind.wrap_i64]; omega
  · rw [show (2 : Int) ^ min (Int.toNat ((7 * 5 : Nat) : Int)) IntKind.i64.bits = 34359738368 from by decide, show (128 : Int) ^ 5 = 34359738368 from by decide, IntKind.wrap_i64]; omega
theorem orNat (m a i : Nat) (hi : i ≤ 56) (hm : m < 2 ^ i) (ha : a ≤ 127) : bits .or .i64 (m : Int) ((2 ^ i * a : Nat) : Int) = ((m + 2 ^ i * a : Nat) : Int) := by
  have hp : 2 ^ i ≤ 2 ^ 56 := Nat.pow_le_pow_right (by decide) hi
  have h1 : 2 ^ i * a ≤ 2 ^ 56 * 127 := Nat.mul_le_mul hp ha
  have e := (bits_nat .i64 63 (by decide) (fun n h0 h1 => by rw [IntKind.wrap_i64]; omega) m (2 ^ i * a) (by omega) (by omega)).2
  rw [e, Nat.or_comm, ← Nat.two_pow_add_eq_or_of_lt hm a]
  congr 1; omega
theorem binOrK (P : Program) {m a : Int} {k : Nat} (hm0 : 0 ≤ m) (hm1 : m < 128 ^ k) (h0 : 0 ≤ a) (h1 : a ≤ 127) (hk : k < 6) : ∀ T, bin P T .or (.int .i64 m) (.int .i64 (a * 128 ^ k)) = some (.int .i64 (m + a * 128 ^ k)) := fun T => by
  rw [bin_or P T _ _ _]
  congr 2
  obtain ⟨mn, rfl⟩ := Int.eq_ofNat_of_zero_le hm0
  obtain ⟨an, rfl⟩ := Int.eq_ofNat_of_zero_le h0
  have e : (128 : Int) ^ k = ((2 ^ (7 * k) : Nat) : Int) := by
    rw [Nat.pow_mul]; norm_cast
  have hm2 : mn < 2 ^ (7 * k) := by rw [e] at hm1; exact_mod_cast hm1
  rw [e, show (an : Int) * ((2 ^ (7 * k) : Nat) : Int) = ((2 ^ (7 * k) * an : Nat) : Int) from by rw [Int.natCast_mul, Int.mul_comm], orNat mn an (7 * k) (by omega) hm2 (by omega)]
  rw [Int.natCast_add]
theorem next_rg {m a : Int} {k : Nat} (hm0 : 0 ≤ m) (hm1 : m < 128 ^ k) (h0 : 0 ≤ a) (h1 : a ≤ 127) : 0 ≤ m + a * 128 ^ k ∧ m + a * 128 ^ k < 128 ^ (k + 1) := by
  have hp : (0 : Int) ≤ 128 ^ k := Int.le_of_lt (Int.pow_pos (by decide))
  have h2 : 0 ≤ a * 128 ^ k := Int.mul_nonneg h0 hp
  have h3 : a * 128 ^ k ≤ 127 * 128 ^ k := Int.mul_le_mul_of_nonneg_right h1 hp
  rw [Int.pow_succ]
  omega
theorem rg_top {m : Int} {k : Nat} (hk : k < 6) (hm1 : m < 128 ^ (k + 1)) : m < 4398046511104 := by
  rcases six hk with rfl | rfl | rfl | rfl | rfl | rfl
  · have : (128 : Int) ^ (0 + 1) = 128 := by decide
    omega
  · have : (128 : Int) ^ (1 + 1) = 16384 := by decide
    omega
  · have : (128 : Int) ^ (2 + 1) = 2097152 := by decide
    omega
  · have : (128 : Int) ^ (3 + 1) = 268435456 := by decide
    omega
  · have : (128 : Int) ^ (4 + 1) = 34359738368 := by decide
    omega
  · have : (128 : Int) ^ (5 + 1) = 4398046511104 := by decide
    omega
theorem binShr1 (P : Program) (m : Int) : ∀ T, bin P T .shr (.int .i64 m) (.int .u64 1) = some (.int .i64 (m / 2)) := fun T => by
  rw [bin_shr P T _ _ _ _ (by decide)]
  rfl
theorem binAnd1 (P : Program) {m : Int} (h0 : 0 ≤ m) (h1 : m < 4398046511104) : ∀ T, bin P T .and (.int .i64 m) (.int .i64 1) = some (.int .i64 (m % 2)) := fun T => by
  rw [bin_and P T _ _ _]
  have := bits_mask .i64 63 (by decide) (fun n h0 h1 => by rw [IntKind.wrap_i64]; omega) 1 (by decide) m h0 (by omega)
  rw [show (1 : Int) = 2 ^ 1 - 1 by decide, this]
  rfl
theorem drop_cons {xs : List Int} {k : Nat} (h : k < xs.length) : (xs.map IntKind.i64.wrap).drop k = IntKind.i64.wrap xs[k] :: (xs.map IntKind.i64.wrap).drop (k + 1) := by
  rw [List.drop_eq_getElem_cons (by rw [List.length_map]; exact h), List.getElem_map]
theorem drop_nil {xs : List Int} {k : Nat} (h : ¬ k < xs.length) : (xs.map IntKind.i64.wrap).drop k = [] := List.drop_eq_nil_of_le (by rw [List.length_map]; omega)
theorem getInt_out {xs : List Int} {a : Int} (h : ¬ (0 ≤ a ∧ a < xs.length)) : getInt xs a = (0, 0, false) := if_neg h
theorem getInt_none {xs : List Int} {a : Int} (h : 0 ≤ a ∧ a < xs.length) (hs : scanG 0 0 ((xs.map IntKind.i64.wrap).drop a.toNat) = none) : getInt xs a = (0, 0, false) := by unfold getInt; rw [if_pos h, hs]
theorem getInt_some {xs : List Int} {a m : Int} {j : Nat} (h : 0 ≤ a ∧ a < xs.length) (hs : scanG 0 0 ((xs.map IntKind.i64.wrap).drop a.toNat) = some (m, j)) : getInt xs a = if Md.inB (unz m) (-1000000000000) 1000000000000 then (unz m, a + j, true) else (0, 0, false) := by unfold getInt; rw [if_pos h, hs]
@[go_sem] theorem retV_four (st : St) (r1 r2 r3 r4 : ResultVar) : retV st [r1, r2, r3, r4] = .tup 4 (nthD [retD st r1, retD st r2, retD st r3, retD st r4]) := by
  show D.tup 4 _ = _
  congr 1
  funext i
  match i with
  | 0 => rfl
  | 1 => rfl
  | 2 => rfl
  | 3 => rfl
  | i + 4 => simp [nthD]
def GRes (o : Option (Int × Nat)) (at_ n e : Int) (ok : Bool) : Prop := match o with
  | some (m, j) => n = m ∧ e = at_ + j ∧ ok = true
  | none => ok = false
theorem and7_small {c : Int} (h0 : 0 ≤ c) (h1 : c ≤ 127) : and7 c = c := by
  obtain ⟨m, rfl⟩ := Int.eq_ofNat_of_zero_le h0
  show bits .and .i64 (m : Int) 127 = _
  rw [and127 (by omega)]; omega
theorem gres_none {at_ n e : Int} {o : Option (Int × Nat)} (h : o = none) : GRes o at_ n e false := by subst h; rfl
theorem gres_some {at_ m : Int} {j : Nat} {o : Option (Int × Nat)} {e : Int} (h : o = some (m, j)) (he : e = at_ + j) : GRes o at_ m e true := by subst h; exact ⟨rfl, he, rfl⟩
theorem groups_p (d : D) (xs : List Int) (at_ : Int) (h : IsL 1 IsByte d xs) (hx : ∀ i (h : i < xs.length), 0 ≤ xs[i] ∧ xs[i] < 256) (hin1 : 0 ≤ at_) (hin2 : at_ ≤ xs.length) :
    PCall Try.prog 100 [d, .lit (.int .i64 at_)] fun _ _ r => ∃ (n e : Int) (ok ends : Bool), r = .tup 4 (nthD [.lit (.int .i64 n), .lit (.int .i64 e), .lit (.bool ok), .lit (.bool ends)]) ∧ GRes (scanG 0 0 ((xs.map IntKind.i64.wrap).drop at_.toNat)) at_ n e ok := by
  have hsh := h.short
  generalize hs0 : scanG 0 0 ((xs.map IntKind.i64.wrap).drop at_.toNat) = o
  refine pcall_intro Try.func100 rfl (by decide) rfl (by decide) (by rw [Try.ntmps100]; simp) fun w0 M n0 hW => ivc_sound ?_; simp -dsimp only [Try.f100, go_sem, h.lenT]
  refine iwp_forK xs.length [0, 1] (fun i s => s 10 = .lit (.int .i64 i) ∧ ∃ (n : Int) (good : Bool), s 8 = .lit (.int .i64 n) ∧ s 9 = .lit (.bool good) ∧ (i < 6 → good = true ∧ 0 ≤ n ∧ n < 128 ^ i ∧ o = scanG i n ((xs.map IntKind.i64.wrap).drop (at_.toNat + i))) ∧ (6 ≤ i → o = none)) 0 (Nat.zero_le _)
    ⟨by simp -dsimp only [go_sem]; rfl, 0, true, by simp -dsimp only [go_sem], by simp -dsimp only [go_sem], fun _ => ⟨rfl, by decide, by decide, hs0.symm⟩, fun h => absurd h (by decide)⟩ ?_
  rintro i n' s hi hn hk ⟨h10, n, good, h8, h9, hA6, hB6⟩
  refine ivc_sound ?_
  simp -dsimp only [go_sem] at hk
  have hwa : IntKind.i64.wrap (at_ + (i : Int)) = at_ + i := w64 (by omega) (by omega)
  have hw1 : IntKind.i64.wrap (at_ + (i : Int) + 1) = at_ + i + 1 := w64 (by omega) (by omega)
  by_cases hlen : at_.toNat + i < xs.length
  · have hlen' : at_ + (i : Int) < xs.length := by omega
    have hilt : i < xs.length := by omega
    obtain ⟨t, zb, fi, hfe, hst', hf'⟩ := h.sl hlen
    have hfi := hf' _ hlen
    have hfi : fi (at_.toNat + i) = _ := hfi
    have hl0 := h.lenT
    subst hfe
    have hidx : (at_ + (i : Int)).toNat = at_.toNat + i := by omega
    have hpos : 0 ≤ at_ + (i : Int) := by omega
    have hlt2 : at_.toNat + i < xs.length := hlen
    have hxr := hx _ hlen
    have hcc : IntKind.i64.wrap xs[at_.toNat + i] = xs[at_.toNat + i] := w64 (by omega) (by omega)
    have hdc := drop_cons hlen
    rw [hcc] at hdc
    generalize hcx : xs[at_.toNat + i] = c at *
    have h7r := and7_rg c
    have hA := binAnd7 Try.prog c
    have hw := i64_succ (i := i) (by omega)
    by_cases hk6 : i < 6
    · have hk6' : (i : Int) < 6 := by omega
      obtain ⟨rfl, hm0, hm1, hs⟩ := hA6 hk6
      rw [hdc] at hs
      have hmul : IntKind.i64.wrap (7 * (i : Int)) = ((7 * i : Nat) : Int) := (w64 (by omega) (by omega)).trans (by omega)
      have hS := binShlK Try.prog h7r.1 h7r.2 hk6 .i64
      have hO := binOrK Try.prog hm0 hm1 h7r.1 h7r.2 hk6
      have hrg := next_rg hm0 hm1 h7r.1 h7r.2
      generalize hm2 : n + and7 c * 128 ^ i = m2 at *
      generalize hs1 : and7 c * 128 ^ i = s1 at *
      by_cases hc : 127 < c
      · simp -dsimp only [go_sem, hk, h10, h8, h9, hk6', hlen', hwa, hl0, hidx, hpos, hlt2, hfi, hcc, hA, hmul, hS, hO, hc, hw, hilt]
        refine into_k (by omega) (by simp -dsimp only [go_sem, hk]) ⟨by simp -dsimp only [go_sem], m2, true, by simp -dsimp only [go_sem], by simp -dsimp only [go_sem, h9], fun hi6 => ⟨rfl, hrg.1, hrg.2, ?_⟩, fun hi6 => ?_⟩
        · rw [hs, scanG_more hk6 hc, hs1, hm2]; rfl
        · rw [hs, scanG_more hk6 hc]; exact scanG_six (by omega) _
      · rcases Bool.eq_false_or_eq_true (c != 0) with hz | hz
        · simp -dsimp only [go_sem, hk, h10, h8, h9, hk6', hlen', hwa, hl0, hidx, hpos, hlt2, hfi, hcc, hA, hmul, hS, hO, hc, hw, hw1, hz]
          intro n9 hn9 hfc
          exact ⟨_, _, _, _, rfl, gres_some (by rw [hs, scanG_end hk6 hc (fun hh => by simp [hh.2] at hz), hs1, hm2]) (by omega)⟩
        · rcases Bool.eq_false_or_eq_true ((i : Int) == 0) with hi0 | hi0
          · simp -dsimp only [go_sem, hk, h10, h8, h9, hk6', hlen', hwa, hl0, hidx, hpos, hlt2, hfi, hcc, hA, hmul, hS, hO, hc, hw, hw1, hz, hi0]
            intro n9 hn9 hfc
            have hi0' : (i : Int) = 0 := by simpa using hi0
            exact ⟨_, _, _, _, rfl, gres_some (by rw [hs, scanG_end hk6 hc (fun hh => by omega), hs1, hm2]) (by omega)⟩
          · simp -dsimp only [go_sem, hk, h10, h8, h9, hk6', hlen', hwa, hl0, hidx, hpos, hlt2, hfi, hcc, hA, hmul, hS, hO, hc, hw, hw1, hz, hi0]
            intro n9 hn9 hfc
            have hi0' : ¬ (i : Int) = 0 := by simpa using hi0
            have hz' : c = 0 := by simpa using hz
            exact ⟨_, _, _, _, rfl, gres_none (by rw [hs, scanG_bad hk6 hc ⟨by omega, hz'⟩])⟩
    · have hk6' : ¬ (i : Int) < 6 := by omega
      have hno := hB6 (by omega)
      have hi0 : ((i : Int) == 0) = false := beq_eq_false_iff_ne.2 (by omega)
      rcases Bool.eq_false_or_eq_true (and7 c != 0) with ha | ha
      · by_cases hc : 127 < c
        · simp -dsimp only [go_sem, hk, h10, h8, h9, hk6', hlen', hwa, hl0, hidx, hpos, hlt2, hfi, hcc, hA, hc, hw, hilt, ha]
          exact into_k (by omega) (by simp -dsimp only [go_sem, hk]) ⟨by simp -dsimp only [go_sem], n, false, by simp -dsimp only [go_sem, h8], by simp -dsimp only [go_sem], fun hi6 => absurd hi6 (by omega), fun _ => hno⟩
        · simp -dsimp only [go_sem, hk, h10, h8, h9, hk6', hlen', hwa, hl0, hidx, hpos, hlt2, hfi, hcc, hA, hc, hw, hw1, ha]
          intro n9 hn9 hfc
          exact ⟨_, _, _, _, rfl, gres_none hno⟩
      · by_cases hc : 127 < c
        · simp -dsimp only [go_sem, hk, h10, h8, h9, hk6', hlen', hwa, hl0, hidx, hpos, hlt2, hfi, hcc, hA, hc, hw, hilt, ha]
          exact into_k (by omega) (by simp -dsimp only [go_sem, hk]) ⟨by simp -dsimp only [go_sem], n, good, by simp -dsimp only [go_sem, h8], by simp -dsimp only [go_sem, h9], fun hi6 => absurd hi6 (by omega), fun _ => hno⟩
        · have hz' : c = 0 := by
            have := and7_small hxr.1 (by omega : c ≤ 127)
            rw [this] at ha; simpa using ha
          have hz : (c != 0) = false := by rw [hz']; rfl
          rcases good with _ | _
          all_goals
            simp -dsimp only [go_sem, hk, h10, h8, h9, hk6', hlen', hwa, hl0, hidx, hpos, hlt2, hfi, hcc, hA, hc, hw, hw1, ha, hz, hi0]
            intro n9 hn9 hfc
            exact ⟨_, _, _, _, rfl, gres_none hno⟩
  · have hlen' : ¬ at_ + (i : Int) < xs.length := by omega
    simp -dsimp only [go_sem, hk, h10, h8, h9, hlen', hwa, h.lenT]
    intro n9 hn9 hfc
    refine ⟨_, _, _, _, rfl, gres_none ?_⟩
    by_cases hk6 : i < 6
    · rw [(hA6 hk6).2.2.2, drop_nil hlen]; rfl
    · exact hB6 (by omega)
theorem quo2 {m : Int} (h : 0 ≤ m) : m.tdiv 2 = m / 2 := Int.tdiv_eq_ediv_of_nonneg h
theorem four_tags {a b c e : Value} {p : Nat → Prop} : (D.tup 4 (nthD [.lit a, .lit b, .lit c, .lit e])).tags p := fun i hi => by
  match i, hi with
  | 0, _ => trivial
  | 1, _ => trivial
  | 2, _ => trivial
  | 3, _ => trivial
theorem scanG_rg : ∀ (l : List Int) (k : Nat) (m : Int), 0 ≤ m → m < 128 ^ k → ∀ n j, scanG k m l = some (n, j) → 0 ≤ n ∧ n < 4398046511104
  | [], k, m, _, _, n, j, h => by cases h
  | c :: l, k, m, h0, h1, n, j, h => by
    have hr := and7_rg c
    have hn := next_rg h0 h1 hr.1 hr.2
    by_cases hk : k < 6
    · by_cases hc : 127 < c
      · rw [scanG_more hk hc] at h
        exact scanG_rg l _ _ hn.1 hn.2 n j h
      · by_cases hz : 0 < k ∧ c = 0
        · rw [scanG_bad hk hc hz] at h; cases h
        · rw [scanG_end hk hc hz] at h
          cases h
          exact ⟨hn.1, rg_top hk hn.2⟩
    · rw [scanG_six (by omega)] at h; cases h
theorem implGetInt_p (d : D) (xs : List Int) (at_ : Int) (h : IsL 1 IsByte d xs) (hx : ∀ i (h : i < xs.length), 0 ≤ xs[i] ∧ xs[i] < 256) : PCall Try.prog 20 [d, .lit (.int .i64 at_)] fun _ _ r => r = .tup 3 (nthD [.lit (.int .i64 (getInt xs at_).1), .lit (.int .i64 (getInt xs at_).2.1), .lit (.bool (getInt xs at_).2.2)]) := by
  have hsh := h.short
  refine pcall_intro_v Try.func20 rfl (by decide) rfl (by decide) (by rw [Try.ntmps20]; simp) fun w0 M n0 => ivc_sound ?_; simp -dsimp only [Try.f20, go_sem, h.lenT]
  refine xcall_v (in_p at_ 0 xs.length) (by simp -dsimp only [go_sem]) (fun _ => trivial) fun n1 hn1 => ?_
  rcases hv : Md.inB at_ 0 xs.length with _ | _
  · simp -dsimp only [go_sem, hv]
    rw [getInt_out (fun hh => by have : Md.inB at_ 0 xs.length = true := (inB_iff2 _ _ _).2 ⟨hh.1, by omega⟩; rw [hv] at this; cases this)]
  · have hr := (inB_iff2 _ _ _).1 hv
    simp -dsimp only [go_sem, hv]
    refine xcall_p (groups_p d xs at_ h hx hr.1 hr.2) (by simp -dsimp only [go_sem, rl_still, h.still]) fun m0 m1 r hm0 hm1 hq => ?_
    obtain ⟨n, e, ok, ends, rfl, hg⟩ := hq
    refine ⟨four_tags, ?_⟩
    have two : ¬ (2 : Int) = 0 := by decide
    cases hsc : scanG 0 0 ((xs.map IntKind.i64.wrap).drop at_.toNat) with
    | none =>
      rw [hsc] at hg
      have hok : ok = false := hg
      subst hok
      have hres : getInt xs at_ = (0, 0, false) := by
        by_cases hin : 0 ≤ at_ ∧ at_ < xs.length
        · exact getInt_none hin hsc
        · exact getInt_out hin
      rw [hres]
      rcases Bool.eq_false_or_eq_true (n.tmod 2 == 1) with ho | ho
      · simp -dsimp only [go_sem, two, ho]
      · simp -dsimp only [go_sem, two, ho]
    | some mj =>
      obtain ⟨m, j⟩ := mj
      rw [hsc] at hg
      obtain ⟨rfl, rfl, rfl⟩ := hg
      have hrg := scanG_rg _ 0 0 (by decide) (by decide) _ _ hsc
      have hin : 0 ≤ at_ ∧ at_ < xs.length := by
        refine ⟨hr.1, ?_⟩
        rcases Int.lt_or_le at_ xs.length with hlt | hge
        · exact hlt
        · rw [drop_nil (by omega)] at hsc; cases hsc
      have hres := getInt_some hin hsc
      have hq1 : IntKind.i64.wrap (n.tdiv 2) = n / 2 := by rw [quo2 hrg.1]; exact w64 (by omega) (by omega)
      have hq2 : IntKind.i64.wrap (n + 1) = n + 1 := w64 (by omega) (by omega)
      have hq3 : IntKind.i64.wrap (0 - (n + 1)) = -(n + 1) := (w64 (by omega) (by omega)).trans (by omega)
      have hodd : (n.tmod 2 == 1) = (n % 2 == 1) := by rw [Int.tmod_eq_emod_of_nonneg hrg.1]
      rcases Bool.eq_false_or_eq_true (n % 2 == 1) with ho | ho
      · have ho' : n % 2 = 1 := by simpa using ho
        have hun : unz n = -(n / 2) - 1 := if_pos ho'
        have ht : (-(n + 1)).tdiv 2 = -(n / 2) - 1 := by rw [Int.neg_tdiv, Int.tdiv_eq_ediv_of_nonneg (by omega)]; omega
        have hq4 : IntKind.i64.wrap ((-(n + 1)).tdiv 2) = -(n / 2) - 1 := by rw [ht]; exact w64 (by omega) (by omega)
        rw [ho] at hodd
        simp -dsimp only [go_sem, two, hodd, hq1, hq2, hq3, hq4]
        refine xcall_v (in_p (-(n / 2) - 1) (-1000000000000) 1000000000000) (by simp -dsimp only [go_sem]) (fun _ => trivial) fun n9 hn9 => ?_
        rw [hres, hun]
        rcases hv2 : Md.inB (-(n / 2) - 1) (-1000000000000) 1000000000000 with _ | _
        · simp -dsimp only [go_sem, two, hodd, hv2]
        · simp -dsimp only [go_sem, two, hodd, hv2]
      · have ho' : ¬ n % 2 = 1 := by simpa using ho
        have hun : unz n = n / 2 := if_neg ho'
        rw [ho] at hodd
        simp -dsimp only [go_sem, two, hodd, hq1]
        refine xcall_v (in_p (n / 2) (-1000000000000) 1000000000000) (by simp -dsimp only [go_sem]) (fun _ => trivial) fun n9 hn9 => ?_
        rw [hres, hun]
        rcases hv2 : Md.inB (n / 2) (-1000000000000) 1000000000000 with _ | _
        · simp -dsimp only [go_sem, two, hodd, hv2]
        · simp -dsimp only [go_sem, two, hodd, hv2]
end Go.Proofs.Ytkigfigdoaoboaa.IM
end

section
/- Contracts: GetText; its law. Printed by gettext.py. -/
namespace Go.Proofs.Ytkigfigdoaoboaa.IM
open Go Go.Proofs
set_option linter.unusedVariables false
set_option linter.unusedSimpArgs false
set_option maxHeartbeats 2000000
set_option maxRecDepth 20000

theorem bin_neqS (P : Program) (T : TypeId) (a : ByteArray) : bin P T .neq (.string a) (.string a) = some (.bool false) := by simp [bin]
/-- a byte, with its range -/
def IsByteR (d : D) (n : Int) : Prop := IsByte d n ∧ 0 ≤ n ∧ n < 256
theorem isL_of_R {d : D} {xs : List Int} (h : IsL 1 IsByteR d xs) : IsL 1 IsByte d xs ∧ ∀ i (h : i < xs.length), 0 ≤ xs[i] ∧ xs[i] < 256 := by
  rcases h with ⟨rfl, rfl⟩ | ⟨t, zb, f, rfl, h1, h2, h3⟩
  · exact ⟨.inl ⟨rfl, rfl⟩, fun i hi => absurd hi (Nat.not_lt_zero i)⟩
  · exact ⟨.inr ⟨t, zb, f, rfl, h1, h2, fun i hi => (h3 i hi).1⟩, fun i hi => (h3 i hi).2⟩
theorem three_tags {a b c : Value} {p : Nat → Prop} : (D.tup 3 (nthD [.lit a, .lit b, .lit c])).tags p := fun i hi => by
  match i, hi with
  | 0, _ => trivial
  | 1, _ => trivial
  | 2, _ => trivial
theorem scanG_len : ∀ (l : List Int) (k : Nat) (m : Int) (n : Int) (j : Nat), scanG k m l = some (n, j) → k < j ∧ j ≤ k + l.length
  | [], k, m, n, j, h => by cases h
  | c :: l, k, m, n, j, h => by
    by_cases hk : k < 6
    · by_cases hc : 127 < c
      · rw [scanG_more hk hc] at h
        have := scanG_len l _ _ _ _ h
        rw [List.length_cons]; omega
      · by_cases hz : 0 < k ∧ c = 0
        · rw [scanG_bad hk hc hz] at h; cases h
        · rw [scanG_end hk hc hz] at h
          cases h
          rw [List.length_cons]; omega
    · rw [scanG_six (by omega)] at h; cases h
theorem getInt_ok {xs : List Int} {a n e : Int} (h : getInt xs a = (n, e, true)) : 0 ≤ a ∧ a < xs.length ∧ 0 ≤ e ∧ e ≤ xs.length ∧ -1000000000000 ≤ n ∧ n ≤ 1000000000000 := by
  by_cases hin : 0 ≤ a ∧ a < xs.length
  · cases hs : scanG 0 0 ((xs.map IntKind.i64.wrap).drop a.toNat) with
    | none => rw [getInt_none hin hs] at h; cases h
    | some mj =>
      obtain ⟨m, j⟩ := mj
      have hl := scanG_len _ _ _ _ _ hs
      rw [List.length_drop, List.length_map] at hl
      rw [getInt_some hin hs] at h
      cases hv : Md.inB (unz m) (-1000000000000) 1000000000000 with
      | false => rw [hv] at h; cases h
      | true =>
        rw [hv] at h
        have hr := (inB_iff2 _ _ _).1 hv
        have h : (unz m, a + (j : Int), true) = (n, e, true) := h
        cases h
        refine ⟨hin.1, hin.2, ?_, ?_, hr.1, hr.2⟩ <;> omega
  · rw [getInt_out hin] at h; cases h
def getText (xs : List Int) (a : Int) : ByteArray × Int × Bool := match getInt xs a with
  | (n, e, ok) => if ok = false ∨ n < 0 ∨ (xs.length : Int) - e < n then (⟨#[]⟩, 0, false) else (strOf ((xs.drop e.toNat).take n.toNat), e + n, true)
theorem getText_no {xs : List Int} {a n e : Int} {ok : Bool} (h : getInt xs a = (n, e, ok)) (hc : ok = false ∨ n < 0 ∨ (xs.length : Int) - e < n) : getText xs a = (⟨#[]⟩, 0, false) := by unfold getText; rw [h]; exact if_pos hc
theorem getText_yes {xs : List Int} {a n e : Int} {ok : Bool} (h : getInt xs a = (n, e, ok)) (hc : ¬ (ok = false ∨ n < 0 ∨ (xs.length : Int) - e < n)) : getText xs a = (strOf ((xs.drop e.toNat).take n.toNat), e + n, true) := by unfold getText; rw [h]; exact if_neg hc
theorem implGetText_p (d : D) (xs : List Int) (at_ : Int) (h : IsL 1 IsByte d xs) (hx : ∀ i (h : i < xs.length), 0 ≤ xs[i] ∧ xs[i] < 256) : PCall Try.prog 23 [d, .lit (.int .i64 at_)] fun _ _ r => r = .tup 3 (nthD [.lit (.string (getText xs at_).1), .lit (.int .i64 (getText xs at_).2.1), .lit (.bool (getText xs at_).2.2)]) := by
  have hsh := h.short
  refine pcall_intro_v Try.func23 rfl (by decide) rfl (by decide) (by rw [Try.ntmps23]; simp) fun w0 M n0 => ivc_sound ?_; simp -dsimp only [Try.f23, go_sem, h.lenT]
  refine xcall_v (implGetInt_p d xs at_ h hx) (by simp -dsimp only [go_sem, rl_still, h.still]) (fun _ => three_tags) fun n1 hn1 => ?_
  rcases hgi : getInt xs at_ with ⟨n, e, ok⟩
  cases ok with
  | false =>
    simp -dsimp only [go_sem, h.lenT]
    rw [getText_no hgi (.inl rfl)]
  | true =>
    obtain ⟨a0, a1, e0, e1, n0', n1'⟩ := getInt_ok hgi
    have w1 : IntKind.i64.wrap ((xs.length : Int) - e) = (xs.length : Int) - e := w64 (by omega) (by omega)
    by_cases hn : n < 0
    · simp -dsimp only [go_sem, hn, h.lenT]
      rw [getText_no hgi (.inr (.inl hn))]
    · by_cases hl : (xs.length : Int) - e < n
      · simp -dsimp only [go_sem, hn, hl, w1, h.lenT]
        rw [getText_no hgi (.inr (.inr hl))]
      · obtain ⟨t, zb, f, hfe, hst', hf'⟩ := h.sl (i := at_.toNat) (by omega)
        have hl0 := h.lenT
        subst hfe
        have w2 : IntKind.i64.wrap (e + n) = e + n := w64 (by omega) (by omega)
        have s1 : e ≤ e + n := by omega
        have s2 : e + n ≤ xs.length := by omega
        have s3 : (e + n - e).toNat = n.toNat := by omega
        have hns : n.toNat = ((xs.drop e.toNat).take n.toNat).length := by rw [List.length_take, List.length_drop]; omega
        have hcv := fun R' n' k' => wConv_str (P := Try.prog) (R := R') (n := n') (k := k') 22 9 (E := 5) (t := t) (zb := zb && e == 0) (f := fun q => f (e.toNat + q)) hns (fun i hi => by
          have hi2 : i < n.toNat := by omega
          rw [List.getElem_take, List.getElem_drop]
          exact hf' (e.toNat + i) (by omega)) telem_22 tint_5 strT_9
        simp -dsimp only [go_sem, hn, hl, w1, w2, hl0, e0, s1, s2, s3, hcv]
        rw [getText_yes hgi (fun hh => by
          rcases hh with hh | hh | hh
          · cases hh
          · exact hn hh
          · exact hl hh)]
section
variable {H : Type} {enc : TypeId × Value → H} {P : Program}
theorem opens_byteR {T : TypeId} (h : intIs P T .u8 = true) : Opens enc P T IsByteR := by
  intro w fuel cs x hx hw
  unfold intIs at h
  split at h
  · rename_i k hk
    obtain rfl : k = .u8 := by simpa using h
    obtain ⟨n, rfl, rfl, hr⟩ := DataW.trod_int hk hx
    refine ⟨.lit (.int .u8 n), n, show Rep (oenv w) (.lit (.int .u8 n)) _ from ⟨trivial, rfl⟩, rfl, ?_⟩
    have h2 : IntKind.u8.min ≤ n ∧ n ≤ IntKind.u8.max := by simpa [Lit.wf] using hr
    have h3 : IntKind.u8.min = 0 := by decide
    have h4 : IntKind.u8.max = 255 := by decide
    omega
  · cases h
end
end Go.Proofs.Ytkigfigdoaoboaa.IM
end
