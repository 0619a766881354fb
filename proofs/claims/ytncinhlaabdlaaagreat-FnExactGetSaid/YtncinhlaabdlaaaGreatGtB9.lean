/- Several of my texts in one module (merge.py, shake.py). -/
import Derived.Test.YtncinhlaabdlaaaGreatGtA5
section
namespace Go.Proofs.YtncinhlaabdlaaaGreat.IM
open Go Go.Proofs
set_option linter.unusedVariables false
set_option linter.unusedSimpArgs false
set_option maxHeartbeats 2000000
set_option maxRecDepth 20000
theorem equalInts_p (d d' : D) (xs ys : List Int) (h : IsL 1 IsInt d xs) (h' : IsL 1 IsInt d' ys) : PCall Tryz.prog 243 [d, d'] fun _ _ r => r = .lit (.bool (decide (xs = ys))) := by
  refine pcall_intro_v Tryz.func243 rfl (by decide) rfl (by decide) (by rw [Tryz.ntmps243]; simp) fun w0 M n0 => ivc_sound ?_; simp -dsimp only [Tryz.f243, go_sem, h.lenT, h'.lenT]
  refine ⟨fun hb => ?_, fun hb => ?_⟩
  · have : ¬ xs = ys := by rintro rfl; simp at hb
    simp [this]
  have hl : xs.length = ys.length := by simp at hb; omega
  refine iwp_forK xs.length [0, 1, 12] (fun i s => s 13 = .lit (.int .i64 i) ∧ ∀ j (_ : j < i) (h1 : j < xs.length) (h2 : j < ys.length), xs[j] = ys[j]) 0 (Nat.zero_le _) ⟨by simp -dsimp only [go_sem]; rfl, fun j h => absurd h (by omega)⟩ ?_
  rintro i n' s hi hn hk ⟨h5, hall⟩
  refine ivc_sound ?_
  by_cases hlt : i < xs.length
  · have hlt' : i < ys.length := by omega
    obtain ⟨t, zb, fi, rfl, hst, hf⟩ := h.sl hlt
    obtain ⟨t', zb', fi', rfl, hst', hf'⟩ := h'.sl hlt'
    have hfi : fi i = _ := hf i hlt
    have hfi' : fi' i = _ := hf' i hlt'
    have hw := i64_succ (i := i) (by have := h.short; omega)
    simp -dsimp only [go_sem] at hk
    simp -dsimp only [go_sem, hk, h5, hlt, hw]
    refine iwp_plan [(0, true), (1, true), (2, true), (3, true), (4, true), (5, true), (6, true), (7, true), (8, true)] [] rfl (by decide +kernel) (by decide) [] (by decide +kernel) ?_
    simp -dsimp only [go_sem, hk, h5, hlt, hlt', hw, hfi, hfi']
    refine ⟨fun hb2 => ?_, fun hb2 => into_k (by omega) (by simp -dsimp only [go_sem, hk]) ⟨by simp -dsimp only [go_sem], fun j h1 h2 h3 => ?_⟩⟩
    · have : ¬ xs = ys := by rintro rfl; simp at hb2
      simp [this]
    · rcases Nat.lt_or_ge j i with h4 | h4
      · exact hall j h4 h2 h3
      · obtain rfl : j = i := by omega
        simpa using hb2
  · simp -dsimp only [go_sem] at hk
    simp -dsimp only [go_sem, hk, h5, hlt, h.lenT]
    have : xs = ys := List.ext_getElem hl fun j h1 h2 => hall j (by omega) h1 h2
    simp [this]
theorem implSameObj_p (d d' : D) (x y : Md.Obj) (h : IsObj d x) (h' : IsObj d' y) : PCall Tryz.prog 241 [d, d'] fun _ _ r => r = .lit (.bool (sameO x y)) := by
  obtain ⟨f, rfl, hst, k0, k1, k2⟩ := h
  obtain ⟨f', rfl, hst', l0, l1, l2⟩ := h'
  have k0 : f 0 = _ := k0
  have l0 : f' 0 = _ := l0
  refine pcall_intro_v Tryz.func241 rfl (by decide) rfl (by decide) (by rw [Tryz.ntmps241]; simp) fun w0 M n0 => ivc_sound ?_; simp -dsimp only [Tryz.f241, go_sem, k0, l0, k1.size, k1.isNode, k1.plain, l1.size, l1.isNode, l1.plain, k2.size, k2.isNode, k2.plain, l2.size, l2.isNode, l2.plain]
  intro g1 b1 hb1 g2 b2 hb2
  refine ⟨fun hb => ?_, ?_⟩
  rotate_left
  · first | (simp [sameO, *]; done) | (simp_all [sameO]; done) | (simp_all [sameO]; omega)
  refine xcall_v (equalInts_p _ _ _ _ k1 l1) (by simp -dsimp only [go_sem, rl_still, k1.still, l1.still]) (fun _ => trivial) fun n1 hn1 => ?_
  simp -dsimp only [go_sem, k0, l0, k1.size, k1.isNode, k1.plain, l1.size, l1.isNode, l1.plain, k2.size, k2.isNode, k2.plain, l2.size, l2.isNode, l2.plain]
  refine ⟨fun hb2 => ?_, ?_⟩
  rotate_left
  · first | (simp [sameO, *]; done) | (simp_all [sameO]; done) | (simp_all [sameO]; omega)
  refine xcall_v (equalInts_p _ _ _ _ k2 l2) (by simp -dsimp only [go_sem, rl_still, k2.still, l2.still]) (fun _ => trivial) fun n2 hn2 => ?_
  simp -dsimp only [go_sem, k0, l0, k1.size, k1.isNode, k1.plain, l1.size, l1.isNode, l1.plain, k2.size, k2.isNode, k2.plain, l2.size, l2.isNode, l2.plain]
  first | (simp [sameO, *]; done) | (simp_all [sameO]; done) | (simp_all [sameO]; omega)
end Go.Proofs.YtncinhlaabdlaaaGreat.IM
end
