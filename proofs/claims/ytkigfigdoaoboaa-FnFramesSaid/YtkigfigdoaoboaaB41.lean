/- Several of my texts in one module (merge.py). -/
import Derived.Test.YtkigfigdoaoboaaB38
import Derived.Test.YtkigfigdoaoboaaB29
import Derived.Test.YtkigfigdoaoboaaB22
section
/- Contracts: what stands in a frame (the program's side). -/
namespace Go.Proofs.Ytkigfigdoaoboaa.IM
open Go Go.Proofs Go.RowKit
set_option linter.unusedVariables false
set_option linter.unusedSimpArgs false
set_option maxHeartbeats 2000000
set_option maxRecDepth 20000

theorem equalBytes_p (d d' : D) (xs ys : List Int) (h : IsL 1 IsByte d xs) (h' : IsL 1 IsByte d' ys) : PCall Try.prog 106 [d, d'] fun _ _ r => r = .lit (.bool (decide (xs = ys))) := by
  refine pcall_intro_v Try.func106 rfl (by decide) rfl (by decide) (by rw [Try.ntmps106]; simp) fun w0 M n0 => ivc_sound ?_; simp -dsimp only [Try.f106, go_sem, h.lenT, h'.lenT]
  refine ⟨fun hb => ?_, fun hb => ?_⟩
  · have : ¬ xs = ys := by rintro rfl; simp at hb
    simp [this]
  have hl : xs.length = ys.length := by simp at hb; omega
  refine iwp_forK xs.length [0, 1, 12] (fun i s => s 13 = .lit (.int .i64 i) ∧ ∀ j (_ : j < i) (h1 : j < xs.length) (h2 : j < ys.length), xs[j] = ys[j]) 0 (Nat.zero_le _) ⟨by simp -dsimp only [go_sem]; rfl, fun j h => absurd h (by omega)⟩ ?_
  rintro i n' s hi hn hk ⟨h5, hall⟩
  refine ivc_sound ?_
  by_cases hlt : i < xs.length
  · have hlt' : i < ys.length := by omega
    obtain ⟨t, zb, fi, rfl, hst, hf⟩ := h.sl hlt
    obtain ⟨t', zb', fi', rfl, hst', hf'⟩ := h'.sl hlt'
    have hfi : fi i = _ := hf i hlt
    have hfi' : fi' i = _ := hf' i hlt'
    have hw := i64_succ (i := i) (by have := h.short; omega)
    simp -dsimp only [go_sem] at hk
    simp -dsimp only [go_sem, hk, h5, hlt, hw]
    refine iwp_plan [(0, true), (1, true), (2, true), (3, true), (4, true), (5, true), (6, true), (7, true), (8, true)] [] rfl (by decide +kernel) (by decide) [] (by decide +kernel) ?_
    simp -dsimp only [go_sem, hk, h5, hlt, hlt', hw, hfi, hfi']
    refine ⟨fun hb2 => ?_, fun hb2 => into_k (by omega) (by simp -dsimp only [go_sem, hk]) ⟨by simp -dsimp only [go_sem], fun j h1 h2 h3 => ?_⟩⟩
    · have : ¬ xs = ys := by rintro rfl; simp at hb2
      simp [this]
    · rcases Nat.lt_or_ge j i with h4 | h4
      · exact hall j h4 h2 h3
      · obtain rfl : j = i := by omega
        simpa using hb2
  · simp -dsimp only [go_sem] at hk
    simp -dsimp only [go_sem, hk, h5, hlt, h.lenT]
    have : xs = ys := List.ext_getElem hl fun j h1 h2 => hall j (by omega) h1 h2
    simp [this]
theorem sameBytes_p (d d' : D) (xs ys : List Int) (h : IsL 1 IsByte d xs) (h' : IsL 1 IsByte d' ys) : PCall Try.prog 32 [d, d'] fun _ _ r => r = .lit (.bool (decide (xs = ys))) := by
  refine pcall_intro_v Try.func32 rfl (by decide) rfl (by decide) (by rw [Try.ntmps32]; simp) fun w0 M n0 => ivc_sound ?_; simp -dsimp only [Try.f32, go_sem, h.lenT, h'.lenT]
  refine ⟨fun hb => ?_, fun hb => ?_⟩
  · have : ¬ xs = ys := by rintro rfl; simp at hb
    simp [this]
  have hl : xs.length = ys.length := by simp at hb; omega
  refine iwp_forK xs.length [0, 1] (fun i s => s 5 = .lit (.int .i64 i) ∧ ∀ j (_ : j < i) (h1 : j < xs.length) (h2 : j < ys.length), xs[j] = ys[j]) 0 (Nat.zero_le _) ⟨by simp -dsimp only [go_sem]; rfl, fun j h => absurd h (by omega)⟩ ?_
  rintro i n' s hi hn hk ⟨h5, hall⟩
  refine ivc_sound ?_
  by_cases hlt : i < xs.length
  · have hlt' : i < ys.length := by omega
    obtain ⟨t, zb, fi, rfl, hst, hf⟩ := h.sl hlt
    obtain ⟨t', zb', fi', rfl, hst', hf'⟩ := h'.sl hlt'
    have hfi : fi i = _ := hf i hlt
    have hfi' : fi' i = _ := hf' i hlt'
    have hw := i64_succ (i := i) (by have := h.short; omega)
    simp -dsimp only [go_sem] at hk
    simp -dsimp only [go_sem, hk, h5, hlt, hw]
    refine iwp_plan [(0, true), (1, true), (2, true), (3, true), (4, true), (5, true), (6, true), (7, true), (8, true)] [] rfl (by decide +kernel) (by decide) [] (by decide +kernel) ?_
    simp -dsimp only [go_sem, hk, h5, hlt, hlt', hw, hfi, hfi']
    refine ⟨fun hb2 => ?_, fun hb2 => into_k (by omega) (by simp -dsimp only [go_sem, hk]) ⟨by simp -dsimp only [go_sem], fun j h1 h2 h3 => ?_⟩⟩
    · have : ¬ xs = ys := by rintro rfl; simp at hb2
      simp [this]
    · rcases Nat.lt_or_ge j i with h4 | h4
      · exact hall j h4 h2 h3
      · obtain rfl : j = i := by omega
        simpa using hb2
  · simp -dsimp only [go_sem] at hk
    simp -dsimp only [go_sem, hk, h5, hlt, h.lenT]
    have : xs = ys := List.ext_getElem hl fun j h1 h2 => hall j (by omega) h1 h2
    simp [this]
theorem groups0_p (d : D) (xs : List Int) (h : IsL 1 IsByte d xs) (hx : ∀ h : 0 < xs.length, 0 ≤ xs[0] ∧ xs[0] ≤ 127) :
    PCall Try.prog 100 [d, .lit (.int .i64 0)] fun _ _ r => (∃ h : 0 < xs.length, r = .tup 4 (nthD [.lit (.int .i64 xs[0]), .lit (.int .i64 1), .lit (.bool true), .lit (.bool false)])) ∨
      (xs.length = 0 ∧ r = .tup 4 (nthD [.lit (.int .i64 0), .lit (.int .i64 0), .lit (.bool false), .lit (.bool true)])) := by
  have hsh := h.short
  refine pcall_intro Try.func100 rfl (by decide) rfl (by decide) (by rw [Try.ntmps100]; simp) fun w0 M n0 hW => ivc_sound ?_; simp -dsimp only [Try.f100, go_sem, h.lenT]
  refine iwp_forK xs.length [0, 1] (fun i s => i = 0 ∧ s 10 = .lit (.int .i64 0) ∧ s 8 = .lit (.int .i64 0) ∧ s 9 = .lit (.bool true)) 0 (Nat.zero_le _) ⟨rfl, by simp -dsimp only [go_sem], by simp -dsimp only [go_sem], by simp -dsimp only [go_sem]⟩ ?_
  rintro i n' s hi hn hk ⟨rfl, h10, h8, h9⟩
  refine ivc_sound ?_
  simp -dsimp only [go_sem] at hk
  have w00 : IntKind.i64.wrap (0 + 0) = 0 := rfl
  have w1 : IntKind.i64.wrap (0 + 1) = 1 := rfl
  have w70 : IntKind.i64.wrap (7 * 0) = 0 := rfl
  have z06 : (0 : Int) < 6 := by decide
  have z0 : Int.toNat 0 = 0 := rfl
  have z00 : (0 : Int) ≤ 0 := by decide
  by_cases hlen : 0 < xs.length
  · have hlen' : (0 : Int) < (xs.length : Int) := by omega
    obtain ⟨t, zb, fi, hfe, hst', hf'⟩ := h.sl hlen
    have hfi := hf' _ hlen
    have hfi : fi 0 = _ := hfi
    have hl0 := h.lenT
    subst hfe
    have hxr := hx hlen
    have hcc : IntKind.i64.wrap xs[0] = xs[0] := w64 (by omega) (by omega)
    generalize hcx : xs[0] = c at *
    have hA := binAnd7 Try.prog c
    rw [and7_small hxr.1 hxr.2] at hA
    have hS : ∀ T, bin Try.prog T .shl (.int .i64 c) (.int .i64 0) = some (.int .i64 c) := fun T => by
      have := binShlK Try.prog hxr.1 hxr.2 (show 0 < 6 by decide) .i64 T
      simpa using this
    have hO : ∀ T, bin Try.prog T .or (.int .i64 0) (.int .i64 c) = some (.int .i64 c) := fun T => by
      have := binOrK Try.prog (show (0 : Int) ≤ 0 by decide) (show (0 : Int) < 128 ^ 0 by decide) hxr.1 hxr.2 (show 0 < 6 by decide) T
      simpa using this
    have hc : ¬ 127 < c := by omega
    rcases Bool.eq_false_or_eq_true (c != 0) with hz | hz
    · simp -dsimp only [go_sem, hk, h10, h8, h9, hlen, hlen', w00, w1, w70, z06, z0, z00, hl0, hfi, hcc, hA, hS, hO, hc, hz, hcx, beq_self_eq_true]
      exact fun n1 hn1 hfc => .inl (by first | exact ⟨hlen, by rw [hcx]⟩ | exact ⟨trivial, trivial⟩)
    · simp -dsimp only [go_sem, hk, h10, h8, h9, hlen, hlen', w00, w1, w70, z06, z0, z00, hl0, hfi, hcc, hA, hS, hO, hc, hz, hcx, beq_self_eq_true]
      exact fun n1 hn1 hfc => .inl (by first | exact ⟨hlen, by rw [hcx]⟩ | exact ⟨trivial, trivial⟩)
  · have hlen' : ¬ (0 : Int) < (xs.length : Int) := by omega
    simp -dsimp only [go_sem, hk, h10, h8, h9, hlen, hlen', w00, h.lenT]
    exact fun n1 hn1 hfc => .inr (by omega)
/-- what the program's Unframe answers at the start of bytes whose first is 2m -/
def unfr (xs : List Int) (m : Nat) : List Int × Int × Int :=
  if xs.length < m + 5 then ([], 0, 1) else if Md.four (Md.crc ((xs.drop 1).take m)) = (xs.drop (1 + m)).take 4 then ((xs.drop 1).take m, 5 + (m : Int), 0) else ([], 0, 2)
theorem unfr_cut {xs : List Int} {m : Nat} (h : xs.length < m + 5) : unfr xs m = ([], 0, 1) := if_pos h
theorem unfr_ok {xs : List Int} {m : Nat} (h : ¬ xs.length < m + 5) (h2 : Md.four (Md.crc ((xs.drop 1).take m)) = (xs.drop (1 + m)).take 4) : unfr xs m = ((xs.drop 1).take m, 5 + (m : Int), 0) := by unfold unfr; rw [if_neg h, if_pos h2]
theorem unfr_bad {xs : List Int} {m : Nat} (h : ¬ xs.length < m + 5) (h2 : ¬ Md.four (Md.crc ((xs.drop 1).take m)) = (xs.drop (1 + m)).take 4) : unfr xs m = ([], 0, 2) := by unfold unfr; rw [if_neg h, if_neg h2]
theorem getInt_one {xs : List Int} {m : Nat} (hl : 0 < xs.length) (hx : xs[0] = ((2 * m : Nat) : Int)) (hm : m ≤ 63) : getInt xs 0 = ((m : Int), 1, true) := by
  have hw : IntKind.i64.wrap xs[0] = ((2 * m : Nat) : Int) := by rw [hx]; exact w64 (by omega) (by omega)
  have hs : scanG 0 0 ((xs.map IntKind.i64.wrap).drop (Int.toNat 0)) = some (((2 * m : Nat) : Int), 1) := by
    have e : (xs.map IntKind.i64.wrap).drop (Int.toNat 0) = IntKind.i64.wrap xs[0] :: (xs.map IntKind.i64.wrap).drop 1 := drop_cons (k := 0) hl
    rw [e, hw, scanG_end (by decide) (by omega) (fun hh => absurd hh.1 (by decide)), and7_small (by omega) (by omega)]
    simp
  rw [getInt_some ⟨by decide, by omega⟩ hs]
  have hu : unz ((2 * m : Nat) : Int) = m := by
    unfold unz
    rw [if_neg (by omega)]; omega
  rw [hu, if_pos (by rw [inB_iff2]; omega)]
  rfl
theorem isL_cut {t n : Nat} {zb : Bool} {f : Nat → D} {xs : List Int} (h : IsL 1 IsByte (.sl t zb n 1 f) xs) (a m : Nat) (zb' : Bool) (ham : a + m ≤ n) : IsL 1 IsByte (.sl t zb' m 1 fun q => f (a + q)) ((xs.drop a).take m) := by
  rcases h with ⟨h, _⟩ | ⟨t2, zb2, f2, e, hst, hl, hf⟩
  · cases h
  · obtain ⟨rfl, rfl, rfl, rfl⟩ : t = t2 ∧ zb = zb2 ∧ n = xs.length ∧ f = f2 := by injection e; simp_all
    have hlen : ((xs.drop a).take m).length = m := by rw [List.length_take, List.length_drop]; omega
    refine .inr ⟨t, zb', _, by rw [hlen], fun i => hst _, by omega, fun i hi => ?_⟩
    rw [List.getElem_take, List.getElem_drop]
    exact hf (a + i) (by omega)
theorem InR.cut {xs : List Int} (h : InR xs) (a m : Nat) : InR ((xs.drop a).take m) := fun b hb => h b (List.mem_of_mem_drop (List.mem_of_mem_take hb))
theorem implUnframe_p (d : D) (xs : List Int) (m : Nat) (h : IsL 1 IsByte d xs) (hr : InR xs) (hm : ∀ h : 0 < xs.length, xs[0] = ((2 * m : Nat) : Int)) (hm2 : m ≤ 63) :
    PCall Try.prog 31 [d, .lit (.int .i64 0)] fun n0 n1 r => ∃ r0, r = .tup 3 (nthD [r0, .lit (.int .i64 (unfr xs m).2.1), .lit (.int .i64 (unfr xs m).2.2)]) ∧ IsL 1 IsByte r0 (unfr xs m).1 ∧ Own n0 n1 r0 := by
  have e4 := h.still
  have hsh := h.short
  have hx : ∀ i (h : i < xs.length), 0 ≤ xs[i] ∧ xs[i] < 256 := fun i hi => hr _ (List.getElem_mem hi)
  have nilR : ∀ n0 n1, Own n0 n1 .nil := fun n0 n1 => (fin_nil (R := IsByte) (sz := 1) (lo := n0) (hi := n1)).2
  have hin : Md.inB 0 0 (xs.length : Int) = true := by rw [inB_iff2]; omega
  refine pcall_intro Try.func31 rfl (by decide) rfl (by decide) (by rw [Try.ntmps31]; simp) fun w0 M n0 hW => ivc_sound ?_; simp -dsimp only [Try.f31, go_sem, h.lenT]
  refine xcall_v (in_p _ _ _) (by simp -dsimp only [go_sem]; rfl) (fun _ => trivial) fun n1 hn1 => ?_
  simp -dsimp only [go_sem, hin, h.lenT]
  refine xcall_p (groups0_p d xs h fun hl => ⟨by rw [hm hl]; omega, by rw [hm hl]; omega⟩) (by simp -dsimp only [go_sem, rl_still, e4]) fun m0 p0 r0 hm0 hp0 hr0 => ?_
  rcases hr0 with ⟨hl, rfl⟩ | ⟨hl, rfl⟩
  · refine ⟨four_tags, ?_⟩
    have hgi := getInt_one hl (hm hl) hm2
    simp -dsimp only [go_sem, h.lenT]
    refine xcall_v (implGetInt_p d xs 0 h hx) (by simp -dsimp only [go_sem, rl_still, e4]) (fun _ => three_tags) fun n2 hn2 => ?_
    rw [hgi]
    have k0 : ¬ (m : Int) < 0 := by omega
    have w1 : IntKind.i64.wrap ((xs.length : Int) - 1) = (xs.length : Int) - 1 := w64 (by omega) (by omega)
    have w2 : IntKind.i64.wrap ((m : Int) + 4) = m + 4 := w64 (by omega) (by omega)
    have w3 : IntKind.i64.wrap (1 + (m : Int)) = 1 + m := w64 (by omega) (by omega)
    have w4 : IntKind.i64.wrap (1 + (m : Int) + 4) = 1 + m + 4 := w64 (by omega) (by omega)
    by_cases hc : (xs.length : Int) - 1 < m + 4
    · simp -dsimp only [go_sem, h.lenT, k0, w1, w2, hc]
      intro n3 hn3 hfc
      rw [unfr_cut (by omega)]
      exact ⟨.nil, rfl, .inl ⟨rfl, rfl⟩, nilR _ _⟩
    · obtain ⟨t, zb, f, hfe, hst', hf'⟩ := h.sl hl
      have hl0 := h.lenT
      subst hfe
      have s1 : (1 : Int) ≤ 1 + m := by omega
      have s2 : 1 + (m : Int) ≤ xs.length := by omega
      have s3 : (1 + (m : Int) - 1).toNat = m := by omega
      have s4 : 1 + (m : Int) ≤ 1 + m + 4 := by omega
      have s5 : 1 + (m : Int) + 4 ≤ xs.length := by omega
      have s6 : (1 + (m : Int) + 4 - (1 + m)).toNat = 4 := by omega
      simp -dsimp only [go_sem, hl0, k0, w1, w2, w3, hc]
      refine iwp_plan [(0, true), (1, true), (2, true), (3, true), (5, true), (6, true), (7, true), (8, true), (9, true), (4, false), (10, false), (11, true)] [] rfl (by decide +kernel) (by decide) [] (by decide +kernel) ?_
      simp -dsimp only [go_sem, hl0, w3, w4, s1, s2, s3, s4, s5, s6]
      have hcut := isL_cut h 1 m (zb && (1 : Int) == 0) (by omega)
      have hcut2 := isL_cut h (1 + (m : Int)).toNat 4 (zb && 1 + (m : Int) == 0) (by omega)
      refine ⟨by omega, by omega, xcall_o0 (l := 5100) (sumBytes_o (.sl t (zb && (1 : Int) == 0) m 1 fun q => f (1 + q)) ((xs.drop 1).take m) hcut (hr.cut 1 m) (by rw [List.length_take]; omega)) rfl (by simp -dsimp only [go_sem]; rfl) ⟨hcut.still, trivial⟩ fun n3 q f2 G b' hn3 hst2 hA hb1 hb2 => ?_⟩
      obtain ⟨rfl, hA⟩ := hA
      simp -dsimp only [go_sem, hl0, w3, w4, s1, s2, s3, s4, s5, s6]
      have hcs := hcut2.still
      refine xcall_v (equalBytes_p _ _ _ _ (hA.isL (t := b') (by simp [Md.four_length])) hcut2) (by simp -dsimp only [go_sem, rls_still hst2, rl_still hcs]) (fun _ => trivial) fun n4 hn4 => ?_
      simp -dsimp only [go_sem, hl0, w3, w4, s1, s2, s3, s4, s5, s6]
      have ea : (1 + (m : Int)).toNat = 1 + m := by omega
      rw [ea]
      refine ⟨fun hb n5 hn5 hfc => ?_, fun hb => ⟨by omega, ?_⟩⟩
      · rw [unfr_bad (by omega) (by simpa using hb)]
        exact ⟨.nil, rfl, .inl ⟨rfl, rfl⟩, nilR _ _⟩
      · have hcu := hcut.still
        refine xcall_p (cloneBytes_p _ _ hcut (by rw [List.length_take]; omega)) (by simp -dsimp only [go_sem]; exact congrArg (fun x => [x]) (rl_still (d := D.sl t (zb && (1 : Int) == 0) m 1 fun q => f (1 + q)) hcu)) fun m5 p5 r5 hm5 hp5 hr5 => ?_
        have x5 := hr5.1.still
        refine ⟨hr5.2.tags, ?_⟩
        simp -dsimp only [go_sem, w4]
        intro n6 hn6 hfc
        rw [unfr_ok (by omega) (by simpa using hb), rl_still x5]
        exact ⟨r5, by rw [show (5 : Int) + m = 1 + m + 4 by omega], hr5.1, hr5.2.mono (by omega) (by omega)⟩
  · refine ⟨four_tags, ?_⟩
    simp -dsimp only [go_sem, h.lenT]
    intro n2 hn2 hfc
    rw [unfr_cut (by omega)]
    exact ⟨.nil, rfl, .inl ⟨rfl, rfl⟩, nilR _ _⟩
theorem lawAt_p (d : D) (xs : List Int) (i : Int) (h : IsL 1 IsByte d xs) (hr : InR xs) (h0 : 0 ≤ i) (h1 : i ≤ 1000) (hs : xs.length ≤ 1048576) : PCall Try.prog 33 [d, .lit (.int .i64 i)] fun _ _ r => ∃ v : Int, r = .lit (.int .i64 v) ∧ 0 ≤ v ∧ v < 256 := by
  refine pcall_intro Try.func33 rfl (by decide) rfl (by decide) (by rw [Try.ntmps33]; simp) fun w0 M n0 hW => ivc_sound ?_; simp -dsimp only [Try.f33, go_sem, h.lenT]
  by_cases hl : i < xs.length
  · obtain ⟨t, zb, f, hfe, hst', hf'⟩ := h.sl (i := i.toNat) (by omega)
    have hfi : f i.toNat = .lit (.int .u8 xs[i.toNat]) := hf' i.toNat (by omega)
    have hb := hr xs[i.toNat] (List.getElem_mem (by omega))
    have hl0 := h.lenT
    subst hfe
    simp -dsimp only [go_sem, hl, hl0, h0, hfi]
    intro n9 hn9 hfc
    rw [w64 (by omega) (by omega)]; exact hb
  · simp -dsimp only [go_sem, hl, h.lenT]
    intro n9 hn9 hfc
    have e1 : IntKind.i64.wrap (i * 31) = i * 31 := w64 (by omega) (by omega)
    have e2 : IntKind.i64.wrap ((xs.length : Int) * 7) = (xs.length : Int) * 7 := w64 (by omega) (by omega)
    have e3 : IntKind.i64.wrap (i * 31 + (xs.length : Int) * 7) = i * 31 + (xs.length : Int) * 7 := w64 (by omega) (by omega)
    rw [e1, e2, e3, Int.tmod_eq_emod_of_nonneg (by omega)]
    omega
theorem drawFrame_p (e : D) (xs : List Int) (h : IsL 1 IsByte e xs) (hd : e.data) : PCall Try.prog 30 [e] fun n0 n1 r => SomeA r ∧ Own n0 n1 r := by
  refine pcall_intro Try.func30 rfl (by decide) rfl (by decide) (by rw [Try.ntmps30]; simp) fun w0 M n0 hW => ivc_sound ?_; simp -dsimp only [Try.f30, go_sem, h.lenT]
  refine xcall_ptr (l := 2250) (l1New_o e xs h) rfl (by simp -dsimp only [go_sem]) ⟨h.still, trivial⟩ fun n1 c G b' hn1 hst hpl hc hb1 hb2 => ?_
  have sc := hc.shape
  simp -dsimp only [go_sem, sc.1, sc.2.1, sc.2.2.1]
  refine xcall_cs (l := 2250) (g := G) (b := b') (l1Some_b e c xs h hd hc) (by simp -dsimp only [go_sem]) trivial (by simp -dsimp only [go_sem]) sc.2.2.2 fun m0 p0 c1 r0 hm0 hp0 hq => ?_
  obtain ⟨hc1, hA, ho⟩ := hq
  obtain ⟨hnn, ys, hyl, hy, hyr⟩ := id hA
  have sc1 := hc1.shape
  simp -dsimp only [go_sem, sc1.1, sc1.2.1, sc1.2.2.1]
  intro n9 hn9 hfc
  have hm0' : n1 ≤ m0 := hm0
  rw [rl_still hy.still]
  exact ⟨hA, ho.mono (by omega) (by omega)⟩
end Go.Proofs.Ytkigfigdoaoboaa.IM
end

section
/- The mathematics of FnFrames: a body comes back of its frame; a byte that is another one is told; a frame that is cut ends. -/
namespace Go.Proofs.Ytkigfigdoaoboaa.IM
open Go Go.Proofs Go.RowKit
set_option linter.unusedVariables false

theorem putInt_few {k : Nat} (h : k ≤ 63) : Md.putInt [] (k : Int) = [((2 * k : Nat) : Int)] := by
  have hc : Md.clampI (k : Int) = k := by unfold Md.clampI; omega
  have hz : Md.zig (k : Int) = 2 * k := by unfold Md.zig; rw [if_neg (by omega)]; omega
  unfold Md.putInt Md.intBytes
  rw [hc, hz, groups_last (by omega)]
  rfl
theorem frame_few {ys : List Int} (h : ys.length ≤ 63) : Md.frame ys = ((2 * ys.length : Nat) : Int) :: (ys ++ Md.four (Md.crc ys)) := by
  unfold Md.frame
  have : Md.intBytes (ys.length : Int) = [((2 * ys.length : Nat) : Int)] := by
    have := putInt_few h
    unfold Md.putInt at this; simpa using this
  rw [this]; simp
theorem frame_few_len {ys : List Int} (h : ys.length ≤ 63) : (Md.frame ys).length = ys.length + 5 := by rw [frame_few h]; simp [Md.four_length]
theorem inR_frame {ys : List Int} (h : InR ys) : InR (Md.frame ys) := ((inR_groups _ _).app h).app fun b hb => Md.four_byte _ b hb
theorem unfr_back {ys zs : List Int} (h : ys.length ≤ 63) : unfr (Md.frame ys ++ zs) ys.length = (ys, 5 + (ys.length : Int), 0) := by
  have e : Md.frame ys ++ zs = ((2 * ys.length : Nat) : Int) :: (ys ++ (Md.four (Md.crc ys) ++ zs)) := by rw [frame_few h]; simp
  have e1 : ((Md.frame ys ++ zs).drop 1).take ys.length = ys := by rw [e]; simp
  have e2 : ((Md.frame ys ++ zs).drop (1 + ys.length)).take 4 = Md.four (Md.crc ys) := by
    rw [e, Nat.add_comm, List.drop_succ_cons, List.drop_left, List.take_left' (Md.four_length _)]
  rw [unfr_ok (by rw [e]; simp [Md.four_length]) (by rw [e1, e2]), e1]
theorem unfr_head {ys zs : List Int} (h : ys.length ≤ 63) (hl : 0 < (Md.frame ys ++ zs).length) : (Md.frame ys ++ zs)[0] = ((2 * ys.length : Nat) : Int) := by
  simp [frame_few h]
theorem set_ne {xs : List Int} {j : Nat} {v : Int} (hj : j < xs.length) (h : v ≠ xs[j]) : xs.set j v ≠ xs := fun e => h (by
  have := congrArg (fun l => l[j]?) e
  simpa [List.getElem?_set_self hj, List.getElem?_eq_getElem hj] using this)
theorem unfr_turn {ys : List Int} (h : ys.length ≤ 63) (hr : InR ys) {j : Nat} (hj0 : 1 ≤ j) (hj : j < (Md.frame ys).length) {v : Int} (hv : 0 ≤ v ∧ v < 256) (hne : v ≠ (Md.frame ys)[j]) :
    unfr ((Md.frame ys).set j v) ys.length = ([], 0, 2) := by
  have hfl := frame_few_len h
  obtain ⟨i, rfl⟩ : ∃ i, j = i + 1 := ⟨j - 1, by omega⟩
  have e : (Md.frame ys).set (i + 1) v = ((2 * ys.length : Nat) : Int) :: ((ys ++ Md.four (Md.crc ys)).set i v) := by rw [frame_few h]; rfl
  have hnx : v ≠ (ys ++ Md.four (Md.crc ys))[i]'(by simp [Md.four_length]; omega) := by
    intro hh; apply hne; rw [hh]; simp [frame_few h]
  have hlen : ¬ ((Md.frame ys).set (i + 1) v).length < ys.length + 5 := by rw [List.length_set]; omega
  refine unfr_bad hlen ?_
  rw [e, Nat.add_comm 1 ys.length, List.drop_succ_cons, List.drop_succ_cons, List.drop_zero]
  by_cases hi : i < ys.length
  · rw [List.set_append_left _ _ hi, List.take_left' (by simp), List.drop_left' (by simp), List.take_of_length_le (by simp [Md.four_length])]
    intro hh
    rw [List.getElem_append_left hi] at hnx
    exact Md.crc_set hi hr hv hnx (Md.four_inj (Md.crc_lt fun b hb => by
      rcases List.mem_or_eq_of_mem_set hb with h | h
      · exact hr b h
      · subst h; exact hv) (Md.crc_lt hr) hh)
  · have hi' : ys.length ≤ i := by omega
    rw [List.set_append_right _ _ hi', List.take_left, List.drop_left, List.take_of_length_le (by simp [Md.four_length])]
    rw [List.getElem_append_right hi'] at hnx
    exact fun hh => set_ne (by rw [Md.four_length]; omega) hnx hh.symm
theorem unfr_short {ys : List Int} {q : Nat} (h : ys.length ≤ 63) (hq : q < (Md.frame ys).length) : unfr ((Md.frame ys).take q) ys.length = ([], 0, 1) := by
  have hfl := frame_few_len h
  exact unfr_cut (by rw [List.length_take]; omega)
/-- a bit that is turned makes another byte -/
theorem turn_ne (a r : Nat) : a ^^^ 2 ^ r ≠ a := fun e => by
  have h : a ^^^ 2 ^ r = a ^^^ 0 := by rw [e]; simp
  have := Md.xor_cancel' h
  have h2 : 0 < 2 ^ r := Nat.two_pow_pos r
  omega
theorem turn_lt {a r : Nat} (h : a < 256) (hr : r < 8) : a ^^^ 2 ^ r < 256 := Nat.xor_lt_two_pow (n := 8) h (Nat.pow_lt_pow_right (by decide) hr)
theorem xor8 {x y : Nat} (h : x < 256) (h' : y < 256) : bits .xor .u8 (x : Int) (y : Int) = ((x ^^^ y : Nat) : Int) := by
  have hx : x ^^^ y < 256 := Nat.xor_lt_two_pow (n := 8) h h'
  show IntKind.u8.wrap (((BitVec.ofInt 8 (x : Int)) ^^^ (BitVec.ofInt 8 (y : Int))).toNat : Int) = _
  rw [BitVec.toNat_xor, BitVec.ofInt_natCast, BitVec.ofInt_natCast, BitVec.toNat_ofNat, BitVec.toNat_ofNat, Nat.mod_eq_of_lt (by omega), Nat.mod_eq_of_lt (by omega), IntKind.wrap_u8]
  omega
theorem bit8 {r : Nat} (h : r < 8) : IntKind.u8.wrap (1 * 2 ^ min (r : Nat) 8) = ((2 ^ r : Nat) : Int) := by
  have : r = 0 ∨ r = 1 ∨ r = 2 ∨ r = 3 ∨ r = 4 ∨ r = 5 ∨ r = 6 ∨ r = 7 := by omega
  rcases this with rfl | rfl | rfl | rfl | rfl | rfl | rfl | rfl <;> rfl
end Go.Proofs.Ytkigfigdoaoboaa.IM
end

section
/- The law FnFrames. -/
namespace Go.Proofs.Ytkigfigdoaoboaa.IM
open Go Go.Proofs Go.RowKit
set_option linter.unusedVariables false
set_option linter.unusedSimpArgs false
set_option maxHeartbeats 2000000
set_option maxRecDepth 20000

theorem tags_3l {v : D} {b c : Value} {p : Nat → Prop} (h : v.tags p) : (D.tup 3 (nthD [v, .lit b, .lit c])).tags p := fun i hi => by
  match i, hi with
  | 0, _ => exact h
  | 1, _ => trivial
  | 2, _ => trivial
theorem lawFrames (d : D) (xs : List Int) (hR : IsL 1 IsByteR d xs) : PCall Try.prog 5 [d] fun _ _ r => r = .lit (.bool true) := by
  have h := (isL_of_R hR).1
  have hx := (isL_of_R hR).2
  have hxr : InR xs := fun b hb => by
    obtain ⟨i, hi, rfl⟩ := List.mem_iff_getElem.1 hb
    exact hx i hi
  have hd : d.data := IsL.data (fun d x h => by have h : d = _ := h; subst h; trivial) h
  refine pcall_intro_vt Try.func5 rfl (by decide) rfl (by decide) (by rw [Try.ntmps5]; simp) fun w0 M n0 hW hT => ivc_sound ?_; simp -dsimp only [Try.f5, go_sem, h.lenT]
  refine xcall_v (big_p d xs h) (by simp -dsimp only [go_sem, rl_still, h.still]) (fun _ => trivial) fun n1 hn1 => ?_
  rcases Bool.eq_false_or_eq_true (decide ((1048576 : Int) < xs.length)) with hb | hb
  · simp -dsimp only [go_sem, hb]
  have hxs : ¬ (1048576 : Int) < xs.length := by simpa using hb
  simp -dsimp only [go_sem, hb]
  refine xcall_p (drawFrame_p d xs h hd) (by simp -dsimp only [go_sem, rl_still, h.still]) fun m0 p0 r hm0 hp0 hr => ?_
  obtain ⟨⟨hnn, ys, hyl, hy, hyr⟩, ho⟩ := hr
  have hyr' : InR ys := fun b hb => by
    obtain ⟨i, hi, rfl⟩ := List.mem_iff_getElem.1 hb
    exact hyr i hi
  refine ⟨ho.tags, ?_⟩
  simp -dsimp only [go_sem, hy.lenT, hy.size, hy.isNode, hy.plain]
  refine xcall_p (implFrame_p _ _ hy hyr' (by omega)) (by simp -dsimp only [go_sem, rl_still, hy.still]) fun m1 p1 r1 hm1 hp1 hr1 => ?_
  obtain ⟨hf, hfo⟩ := hr1
  refine ⟨hfo.tags, ?_⟩
  have hfl := frame_few_len (ys := ys) (by omega)
  obtain ⟨f9, sz, hsrc, hsz, hT9, hrow0, hl0⟩ := hf.src
  simp -dsimp only [go_sem, hsrc, hT9, hy.lenT, hy.size, hy.isNode, hy.plain, hf.lenT, hf.size, hf.isNode, hf.plain]
  intro g b hb2
  have hrow77 : ByteRow (upd (upd (fun _ => D.lit (.int .u8 0)) 0 (.lit (.int .u8 7))) 1 (.lit (.int .u8 7))) [7, 7] :=
    ⟨still_upd (still_upd (fun _ => trivial) trivial) trivial, fun i hi => by
      have hi' : i < 2 := hi
      match i, hi' with
      | 0, _ => rfl
      | 1, _ => rfl⟩
  refine ⟨hsz, by omega, by omega, fun g1 b1 n2 hn2 hb3 hb4 g2 b2 hb5 => ⟨fun y h => h.symm, by omega, by omega, fun g3 b3 n3 hn3 hb6 hb7 => ?_⟩⟩
  have hrow2 := hrow0.append hrow77
  have hlen2 : (Md.frame ys ++ [7, 7]).length = (Md.frame ys).length + 2 := by simp
  have hq := hrow2.isL (t := b3) (by omega)
  rw [hlen2] at hq
  have hqs := hq.still
  refine xcall_p (implUnframe_p _ _ ys.length hq ((inR_frame hyr').app (by intro b hb; simp at hb; omega)) (fun hl => unfr_head (by omega) hl) (by omega)) (by simp -dsimp only [go_sem, rls_still hrow2.1]) fun m2 p2 r2 hm2 hp2 hr2 => ?_
  rw [unfr_back (by omega)] at hr2
  obtain ⟨r0, rfl, hb0, ho0⟩ := hr2
  refine ⟨tags_3l ho0.tags, ?_⟩
  have e5 : (5 : Int) + ys.length = ((Md.frame ys).length : Int) := by omega
  simp -dsimp only [go_sem, e5, hf.lenT, hf.size, hf.isNode, hf.plain, hy.lenT, hy.size, hy.isNode, hy.plain, hb0.lenT, hb0.size, hb0.isNode, hb0.plain, bne_self_eq_false, Bool.false_eq_true]
  have hb0s := hb0.still
  have hys := hy.still
  have hl5 : ¬ (((Md.frame ys).length : Nat) : Int) < 5 := by omega
  refine xcall_v (sameBytes_p _ _ _ _ hb0 hy) (by simp -dsimp only [go_sem, rl_still, hb0s, hys]) (fun _ => trivial) fun n4 hn4 => ?_
  simp -dsimp only [go_sem, hl5, decide_true, hf.lenT, hf.size, hf.isNode, hf.plain, bne_self_eq_false, Bool.false_eq_true]
  refine xcall_p (lawAt_p _ _ 2 h hxr (by decide) (by decide) (by omega)) (by simp -dsimp only [go_sem, rl_still, h.still]) fun m3 p3 rr hm3 hp3 hr3 => ?_
  obtain ⟨v2, rfl, a0, a1⟩ := hr3
  refine ⟨trivial, ?_⟩
  simp -dsimp only [go_sem, h.lenT]
  refine xcall_p (lawAt_p _ _ 3 h hxr (by decide) (by decide) (by omega)) (by simp -dsimp only [go_sem, rl_still, h.still]) fun m4 p4 rr hm4 hp4 hr4 => ?_
  obtain ⟨v3, rfl, c0, c1⟩ := hr4
  refine ⟨trivial, ?_⟩
  obtain ⟨L, hL⟩ : ∃ L : Nat, (Md.frame ys).length = L := ⟨_, rfl⟩
  have wA : IntKind.i64.wrap (v2 * 256) = v2 * 256 := w64 (by omega) (by omega)
  have wB : IntKind.i64.wrap (v2 * 256 + v3) = v2 * 256 + v3 := w64 (by omega) (by omega)
  have wC : IntKind.i64.wrap (8 * ((Md.frame ys).length : Int)) = 8 * ((Md.frame ys).length : Int) := w64 (by omega) (by omega)
  have wD : IntKind.i64.wrap (8 * ((Md.frame ys).length : Int) - 8) = 8 * ((Md.frame ys).length : Int) - 8 := w64 (by omega) (by omega)
  have hnz : ¬ 8 * ((Md.frame ys).length : Int) - 8 = 0 := by omega
  obtain ⟨T, hT, hT0⟩ : ∃ T : Nat, (v2 * 256 + v3).tmod (8 * ((Md.frame ys).length : Int) - 8) = T ∧ T < 8 * (Md.frame ys).length - 8 := by
    rw [Int.tmod_eq_emod_of_nonneg (by omega)]
    have e1 := Int.emod_nonneg (v2 * 256 + v3) hnz
    have e2 := Int.emod_lt_of_pos (v2 * 256 + v3) (show 0 < 8 * ((Md.frame ys).length : Int) - 8 by omega)
    exact ⟨((v2 * 256 + v3) % (8 * ((Md.frame ys).length : Int) - 8)).toNat, by omega, by omega⟩
  have wE : IntKind.i64.wrap (8 + (T : Int)) = ((8 + T : Nat) : Int) := by rw [w64 (by omega) (by omega)]; omega
  have wF : IntKind.i64.wrap ((((8 + T : Nat) : Int)).tdiv 8) = (((8 + T) / 8 : Nat) : Int) := by
    rw [Int.tdiv_eq_ediv_of_nonneg (by omega), w64 (by omega) (by omega)]; omega
  have wG : (((8 + T : Nat) : Int)).tmod 8 = (((8 + T) % 8 : Nat) : Int) := by
    rw [Int.tmod_eq_emod_of_nonneg (by omega)]; omega
  simp -dsimp only [go_sem, h.lenT, hf.lenT, hsrc, hT9, wA, wB, wC, wD, hnz, hT, wE]
  intro g4 b4 hb8
  refine ⟨hsz, by omega, by omega, fun g5 b5 n5 hn5 hb9 hb10 => ?_⟩
  obtain ⟨j, hj⟩ : ∃ j, (8 + T) / 8 = j := ⟨_, rfl⟩
  obtain ⟨r8, hr8⟩ : ∃ r8, (8 + T) % 8 = r8 := ⟨_, rfl⟩
  have hjl : j < (Md.frame ys).length := by omega
  have hj0 : 1 ≤ j := by omega
  have hr88 : r8 < 8 := by omega
  rw [hj] at wF
  rw [hr8] at wG
  have wH : IntKind.u64.wrap (r8 : Int) = (r8 : Int) := by rw [IntKind.wrap_u64]; omega
  have wI := bit8 hr88
  have hfj : f9 j = .lit (.int .u8 (Md.frame ys)[j]) := hrow0.2 j hjl
  have hrgj := inR_frame hyr' _ (List.getElem_mem hjl)
  have efj : (Md.frame ys)[j] = (((Md.frame ys)[j].toNat : Nat) : Int) := by omega
  have hxj := xor8 (x := (Md.frame ys)[j].toNat) (y := 2 ^ r8) (by omega) (by have := Nat.pow_lt_pow_right (a := 2) (by decide) hr88; omega)
  rw [efj] at hfj
  have hjp : (0 : Int) ≤ (j : Int) := by omega
  have hjl' : (j : Int) < ((Md.frame ys).length : Int) := by omega
  simp -dsimp only [go_sem, wF, wG, wH, wI, hfj, hxj, hjp, hjl, hjl', Int.toNat_natCast]
  obtain ⟨V, hV⟩ : ∃ V : Int, (((Md.frame ys)[j].toNat ^^^ 2 ^ r8 : Nat) : Int) = V := ⟨_, rfl⟩
  have hVr : 0 ≤ V ∧ V < 256 := by
    have := turn_lt (a := (Md.frame ys)[j].toNat) (by omega) hr88
    omega
  have hVn : V ≠ (Md.frame ys)[j] := fun e => turn_ne (Md.frame ys)[j].toNat r8 (by omega)
  rw [hV]
  have hrow3 : ByteRow (upd f9 j (.lit (.int .u8 V))) ((Md.frame ys).set j V) := ⟨still_upd hrow0.1 trivial, fun i hi => by
    have hi' : i < (Md.frame ys).length := by simpa using hi
    by_cases e : i = j
    · subst e; rw [upd_same, List.getElem_set_self]; rfl
    · rw [upd_ne _ _ e, List.getElem_set_ne (fun h => e h.symm)]; exact hrow0.2 i hi'⟩
  have hq5 := hrow3.isL (t := b5) (by rw [List.length_set]; omega)
  rw [List.length_set] at hq5
  have hu := unfr_turn (by omega) hyr' hj0 hjl hVr hVn
  refine xcall_p (implUnframe_p _ _ ys.length hq5 (fun b hb => by
      rcases List.mem_or_eq_of_mem_set hb with h | h
      · exact inR_frame hyr' b h
      · subst h; exact hVr) (fun hl => by
        rw [List.getElem_set_ne (by omega)]
        have := unfr_head (ys := ys) (zs := []) (by omega) (by rw [List.append_nil]; omega)
        simpa using this) (by omega)) (by simp -dsimp only [go_sem, rls_still hrow3.1]) fun m6 p6 r6 hm6 hp6 hr6 => ?_
  rw [hu] at hr6
  obtain ⟨r7, rfl, hb7, ho7⟩ := hr6
  refine ⟨tags_3l ho7.tags, ?_⟩
  simp -dsimp only [go_sem, hb7.lenT, hb7.size, hb7.isNode, hb7.plain]
  refine xcall_p (lawAt_p _ _ 4 h hxr (by decide) (by decide) (by omega)) (by simp -dsimp only [go_sem, rl_still, h.still]) fun m8 p8 rr hm8 hp8 hr8' => ?_
  obtain ⟨v4, rfl, d0, d1⟩ := hr8'
  refine ⟨trivial, ?_⟩
  have hLnz : ¬ ((Md.frame ys).length : Int) = 0 := by omega
  obtain ⟨q, hq4, hq0⟩ : ∃ q : Nat, v4.tmod ((Md.frame ys).length : Int) = q ∧ q < (Md.frame ys).length := by
    rw [Int.tmod_eq_emod_of_nonneg (by omega)]
    have e1 := Int.emod_nonneg v4 hLnz
    have e2 := Int.emod_lt_of_pos v4 (show 0 < ((Md.frame ys).length : Int) by omega)
    exact ⟨(v4 % ((Md.frame ys).length : Int)).toNat, by omega, by omega⟩
  obtain ⟨t, zb, ff, hfe, hst9, hff⟩ := hf.sl (i := 0) (by omega)
  have hl0' := hf.lenT
  subst hfe
  have hqz : (0 : Int) ≤ (q : Int) := by omega
  have hql : (q : Int) ≤ ((Md.frame ys).length : Int) := by omega
  have hqt : ((q : Int) - 0).toNat = q := by omega
  simp -dsimp only [go_sem, hl0', hLnz, hq4, hqz, hql, hqt, Int.toNat_natCast]
  have hcut := isL_cut hf 0 q (zb && true) (by omega)
  rw [List.drop_zero] at hcut
  have e0q : (fun x => ff (0 + x)) = ff := by funext x; rw [Nat.zero_add]
  have e0t : (fun x => ff (Int.toNat 0 + x)) = ff := e0q
  rw [e0q] at hcut
  have hcs := hcut.still
  have hus := unfr_short (ys := ys) (by omega) hq0
  refine ⟨by decide, xcall_p (implUnframe_p _ _ ys.length hcut ((inR_frame hyr').take q) (fun hl => by
      rw [List.getElem_take]
      have := unfr_head (ys := ys) (zs := []) (by omega) (by rw [List.append_nil]; omega)
      simpa using this) (by omega)) (by simp -dsimp only [go_sem, e0t]; exact congrArg (fun x => [x, D.lit (.int .i64 0)]) (rl_still (d := D.sl t (zb && true) q 1 ff) hcs)) fun m9 p9 r9 hm9 hp9 hr9 => ?_⟩
  rw [hus] at hr9
  obtain ⟨r10, rfl, hb10', ho10⟩ := hr9
  refine ⟨tags_3l ho10.tags, ?_⟩
  simp -dsimp only [go_sem, hb10'.lenT, hb10'.size, hb10'.isNode, hb10'.plain, beq_self_eq_true]
end Go.Proofs.Ytkigfigdoaoboaa.IM
end
