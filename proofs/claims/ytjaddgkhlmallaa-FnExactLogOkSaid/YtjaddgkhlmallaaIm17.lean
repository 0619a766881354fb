/- A root that is written no more becomes plain data. Nothing of a program is in it. -/
import Derived.Test.YtjaddgkhlmallaaIm16
namespace Go.Proofs.Ytjaddgkhlmallaa.IM
open Go Go.RowKit
set_option linter.unusedVariables false

def fzl (l g b : Nat) (d : D) : Relab := fun l0 g0 => if l0 = l then (if g = g0 then .per b d else .gone) else .to l0 g0

open Classical in
noncomputable def frzR (F : Relab) (R : Roots) (l : Nat) : Roots := fun l0 => if l0 = l then none else (R l0).bind fun x => if (rl 9 F x.2.2).plain then some (x.1, x.2.1, rl 9 F x.2.2) else none

theorem frzR_some {F : Relab} {R : Roots} {l l0 g b : Nat} {d : D} (h : frzR F R l l0 = some (g, b, d)) : l0 ≠ l ∧ ∃ d0, R l0 = some (g, b, d0) ∧ d = rl 9 F d0 ∧ d.plain := by
  unfold frzR at h
  split at h
  · cases h
  · rename_i hne
    refine ⟨hne, ?_⟩
    cases hR : R l0 with
    | none => rw [hR] at h; cases h
    | some x =>
      obtain ⟨g', b', d'⟩ := x
      rw [hR] at h
      simp only [Option.bind_some] at h
      split at h
      · rename_i hp
        simp only [Option.some.injEq, Prod.mk.injEq] at h
        obtain ⟨rfl, rfl, rfl⟩ := h
        exact ⟨d', rfl, rfl, hp⟩
      · cases h

section
variable {w0 : World} {M : Fr} {st : St} {K : St → Prop}

theorem Into.freeze {l g b : Nat} {d : D} (hl : st.R l = some (g, b, d)) (h : Into w0 M { N := st.N, n := st.n, s := fun t => rl 9 (fzl l g b d) (st.s t), R := frzR (fzl l g b d) st.R l } K) : Into w0 M st K := by
  rintro a w ⟨e, rfl, hg⟩
  have hro := hg.envroot hl
  have hlt : b < e.w.heap.size := by
    obtain ⟨C, T, cs, r1, _⟩ := hro.row
    exact lt_of_block r1
  have ok : RelabOk e ⟨frzR (fzl l g b d) st.R l, e.G, fun x => e.P x ∨ x = b, e.w⟩ (fzl l g b d) := by
    refine ⟨rfl, fun _ h => .inl h, fun l1 g1 l' g' hF hgg => ?_, fun l1 g1 b1 d1 hF => ?_⟩
    · unfold fzl at hF
      split at hF
      · split at hF <;> cases hF
      · simp only [Lab.to.injEq] at hF
        obtain ⟨rfl, rfl⟩ := hF
        refine ⟨hgg, fun b1 d1 hb => ?_⟩
        obtain ⟨_, d0, h1, _⟩ := frzR_some hb
        exact ⟨d0, by rw [hg.R]; exact h1⟩
    · unfold fzl at hF
      split at hF
      · rename_i hll
        subst hll
        split at hF
        · rename_i hgg
          subst hgg
          simp only [Lab.per.injEq] at hF
          obtain ⟨rfl, rfl⟩ := hF
          exact ⟨by rw [hg.R]; exact hl, hro, .inr rfl⟩
        · cases hF
      · cases hF
  refine h a e.w ⟨⟨frzR (fzl l g b d) st.R l, e.G, fun x => e.P x ∨ x = b, e.w⟩, rfl, rfl, hg.N, hg.df, fun t => VRep_rl ok 9 _ _ (hg.slot t), fun l1 g1 b1 d1 h1 => ?_, fun l1 g1 b1 d1 h1 => ?_, fun l1 l2 g1 g2 b1 d1 d2 h1 h2 => ?_, fun x hx => ?_, hg.keep, hg.n, fun x hx => ?_⟩
  · obtain ⟨hne, d0, h2, rfl, hp⟩ := frzR_some h1
    obtain ⟨hgg, hro1⟩ := hg.root _ _ _ _ h2
    obtain ⟨C, T, cs, r1, r2, r3⟩ := hro1.row
    refine ⟨hgg, ?_, hp, C, T, cs, r1, Rep_rl ok 9 _ _ r2, r3⟩
    rintro (hP | rfl)
    · exact hro1.np hP
    · exact hne (hg.inj _ _ _ _ _ _ _ h2 hl)
  · obtain ⟨_, d0, h2, _⟩ := frzR_some h1
    exact hg.own _ _ _ _ h2
  · obtain ⟨_, d0, h3, _⟩ := frzR_some h1
    obtain ⟨_, d0', h4, _⟩ := frzR_some h2
    exact hg.inj _ _ _ _ _ _ _ h3 h4
  · rcases hx with hx | rfl
    · exact hg.P x hx
    · exact hlt
  · rcases hx with hx | rfl
    · exact hg.per x hx
    · rcases hg.own _ _ _ _ hl with h' | h'
      · exact .inl h'
      · exact .inr (.inr h')

@[go_sem] theorem fzl_same (l g b : Nat) (d : D) : fzl l g b d l g = .per b d := by simp [fzl]
@[go_sem] theorem fzl_other (l g b l' g' : Nat) (d : D) (h : l' ≠ l) : fzl l g b d l' g' = .to l' g' := by simp [fzl, h]
@[go_sem] theorem frzR_none (F : Relab) (l : Nat) : frzR F (fun _ => none) l = fun _ => none := by funext l0; simp [frzR]
@[go_sem] theorem frzR_same (F : Relab) (R : Roots) (l : Nat) (x : Option (Nat × Nat × D)) : frzR F (upd R l x) l = frzR F R l := by
  funext l0; unfold frzR upd
  split
  · rfl
  · rfl
@[go_sem] theorem frzR_other (F : Relab) (R : Roots) (l l' g b : Nat) (d : D) (h : l' ≠ l) (hp : (rl 9 F d).plain) : frzR F (upd R l' (some (g, b, d))) l = upd (frzR F R l) l' (some (g, b, rl 9 F d)) := by
  funext l0; unfold frzR upd
  by_cases h1 : l0 = l'
  · subst h1; simp [h, hp]
  · simp [h1]
theorem rls_upd (F : Relab) (s : Nat → D) (k : Nat) (d : D) : (fun t => rl 9 F (upd s k d t)) = upd (fun t => rl 9 F (s t)) k (rl 9 F d) := by
  funext t; unfold upd; split <;> rfl

end
end Go.Proofs.Ytjaddgkhlmallaa.IM
