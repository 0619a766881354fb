/- Appending, over abstract states (begun). Nothing of a program is in it. -/
import Derived.Test.YtjaddgkhlmallaaIm7
import Derived.Test.YtjaddgkhlmallaaIm9
namespace Go.Proofs.Ytjaddgkhlmallaa.IM
open Go Go.RowKit
set_option linter.unusedVariables false

/-- some roots go, one comes (or stands anew): the blocks S may be written -/
theorem Good.remade {w0 : World} {M : Fr} {st : St} {e : Env} {a : Act} (h : Good w0 M st e a) {R1 : Roots} {S : Nat → Prop} {w' : World} (hsub : ∀ l x, R1 l = some x → st.R l = some x)
    (hS : ∀ l g b d, R1 l = some (g, b, d) → ¬ S b) (hSP : ∀ b, S b → ¬ e.P b) (hSo : ∀ b, S b → w0.heap.size ≤ b ∨ M.m b) (hk : Keep e.w S w') {l' b' : Nat} {d' : D} (hb : S b' ∨ e.w.heap.size ≤ b') (hp : d'.plain)
    {C : Array Value} {T : TypeId} {ds : List Value} (hC : w'.heap[b']? = some (.cells C T (0, 0))) (hd : ∀ e2 : Env, e.le e2 → e2.w = w' → Rep e2 d' ds) (hpre : ∀ (j : Nat) (v : Value), ds[j]? = some v → C[j]? = some v) {n' : Nat} (hn : n' ≤ w'.heap.size) :
    e.le ⟨upd R1 l' (some (e.G, b', d')), e.G + 1, e.P, w'⟩ ∧ Good w0 M { N := st.N, n := n', s := st.s, R := upd R1 l' (some (e.G, b', d')) } ⟨upd R1 l' (some (e.G, b', d')), e.G + 1, e.P, w'⟩ a := by
  have hsp : ∀ l g b d, upd R1 l' (some (e.G, b', d')) l = some (g, b, d) → (l = l' ∧ g = e.G ∧ b = b' ∧ d = d') ∨ (R1 l = some (g, b, d)) := by
    intro l g b d hl
    by_cases hll : l = l'
    · subst hll; rw [upd_same] at hl
      simp only [Option.some.injEq, Prod.mk.injEq] at hl
      exact .inl ⟨rfl, hl.1.symm, hl.2.1.symm, hl.2.2.symm⟩
    · rw [upd_ne _ _ hll] at hl; exact .inr hl
  have hblt : ∀ l g b d, R1 l = some (g, b, d) → b < e.w.heap.size := fun l g b d hl => by
    obtain ⟨C, T, cs, r1, _⟩ := (h.envroot (hsub _ _ hl)).row
    exact lt_of_block r1
  have hnb : ∀ l g b d, R1 l = some (g, b, d) → b ≠ b' := fun l g b d hl hbb => by
    subst hbb
    rcases hb with h' | h'
    · exact hS _ _ _ _ hl h'
    · have := hblt _ _ _ _ hl; omega
  have hle : e.le ⟨upd R1 l' (some (e.G, b', d')), e.G + 1, e.P, w'⟩ := by
    refine ⟨Nat.le_succ _, fun _ h => h, fun k hkP => hk.block k (h.P k hkP) (fun hs => hSP k hs hkP), fun l g b d hg hl => ?_, fun l g b d hg hl C T z hz => ?_⟩
    · rcases hsp _ _ _ _ hl with ⟨_, h1, _⟩ | h1
      · omega
      · exact ⟨d, by rw [h.R]; exact hsub _ _ h1⟩
    · rcases hsp _ _ _ _ hl with ⟨_, h1, _⟩ | h1
      · omega
      · exact ⟨C, z, by rw [← hz]; exact hk.block b (hblt _ _ _ _ h1) (hS _ _ _ _ h1), rfl⟩
  refine ⟨hle, rfl, h.N, h.df, fun t => VRep_le hle (h.slot t), ?_, ?_, ?_, ?_, h.keep.trans' hk hSo, hn, h.per⟩
  · intro l g b d hl
    rcases hsp _ _ _ _ hl with ⟨rfl, rfl, rfl, rfl⟩ | h1
    · refine ⟨Nat.lt_succ_self _, fun hP => ?_, hp, C, T, ds, hC, hd _ hle rfl, hpre⟩
      rcases hb with h' | h'
      · exact hSP _ h' hP
      · have := h.P _ hP; omega
    · obtain ⟨hg, hro⟩ := h.root _ _ _ _ (hsub _ _ h1)
      obtain ⟨C', T', cs, r1, r2, r3⟩ := hro.row
      exact ⟨Nat.lt_succ_of_lt hg, hro.np, hro.plain, C', T', cs, (hk.block b (lt_of_block r1) (hS _ _ _ _ h1)).trans r1, Rep_le hle r2, r3⟩
  · intro l g b d hl
    rcases hsp _ _ _ _ hl with ⟨rfl, rfl, rfl, rfl⟩ | h1
    · rcases hb with h' | h'
      · exact hSo _ h'
      · exact .inl (Nat.le_trans h.keep.size h')
    · exact h.own _ _ _ _ (hsub _ _ h1)
  · intro l l2 g g2 b d d2 hl hl2
    rcases hsp _ _ _ _ hl with ⟨h1, h2, h3, h4⟩ | h1 <;> rcases hsp _ _ _ _ hl2 with ⟨k1, k2, k3, k4⟩ | k1
    · rw [h1, k1]
    · exact (hnb _ _ _ _ k1 h3).elim
    · exact (hnb _ _ _ _ h1 k3).elim
    · exact h.inj _ _ _ _ _ _ _ (hsub _ _ h1) (hsub _ _ k1)
  · exact fun b hP => Nat.lt_of_lt_of_le (h.P b hP) hk.size

end Go.Proofs.Ytjaddgkhlmallaa.IM
