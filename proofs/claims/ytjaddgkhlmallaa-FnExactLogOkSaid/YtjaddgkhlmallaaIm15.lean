/- Regions that the tape orders, over abstract states: what only reads may be taken first. Nothing of a program is in it. -/
import Derived.Test.YtjaddgkhlmallaaIm14
import Derived.Orders
namespace Go.Proofs.Ytjaddgkhlmallaa.IM
open Go Go.RowKit
set_option linter.unusedVariables false

theorem buildD_mono {pl : Nat → Option (Nat × Nat)} {ev : Operand → D} {k k' : D → Prop} (hk : ∀ d, k d → k' d) : ∀ (parts : List (Nat × Operand)) (d : D), buildD pl ev d parts k → buildD pl ev d parts k'
  | [], d, h => hk d h
  | (i, x) :: rest, d, h => ⟨h.1, h.2.1, h.2.2.1, h.2.2.2.1, h.2.2.2.2.1, buildD_mono hk rest _ h.2.2.2.2.2⟩

theorem buildD_congr {pl : Nat → Option (Nat × Nat)} {ev ev' : Operand → D} {k : D → Prop} : ∀ (parts : List (Nat × Operand)) (d : D), (∀ x ∈ parts.map (·.2), ev x = ev' x) → buildD pl ev d parts k → buildD pl ev' d parts k
  | [], d, _, h => h
  | (i, x) :: rest, d, he, h => by
    have hx := he x (by simp)
    simp only [buildD] at h ⊢
    rw [← hx]
    exact ⟨h.1, h.2.1, h.2.2.1, h.2.2.2.1, h.2.2.2.2.1, buildD_congr rest _ (fun y hy => he y (by simp at hy ⊢; exact .inr hy)) h.2.2.2.2.2⟩

theorem buildD_get {pl : Nat → Option (Nat × Nat)} {ev : Operand → D} {k : D → Prop} : ∀ (parts : List (Nat × Operand)) (d : D), buildD pl ev d parts k → ∃ d', k d' ∧ ∀ k' : D → Prop, k' d' → buildD pl ev d parts k'
  | [], d, h => ⟨d, h, fun _ h => h⟩
  | (i, x) :: rest, d, h => by
    obtain ⟨d', h1, h2⟩ := buildD_get rest _ h.2.2.2.2.2
    exact ⟨d', h1, fun k' hk => ⟨h.1, h.2.1, h.2.2.1, h.2.2.2.1, h.2.2.2.2.1, h2 k' hk⟩⟩

theorem effB_mono {P : Program} {b : Builtin} {ds : List D} {ts : Array TypeId} {dst : Option Tmp} {R : Roots} {n : Nat} {k k' : Roots → Nat → D → Prop} (hk : ∀ R n r, k R n r → k' R n r) (h : effB P b ds ts dst R n k) : effB P b ds ts dst R n k' := by
  unfold effB at *
  split at h
  · obtain ⟨T, m, h1, h2, h3⟩ := h; exact ⟨T, m, h1, h2, hk _ _ _ h3⟩
  · obtain ⟨T, T', l, E, by_, lo, n0, f, m, sz, f', h0, h01, h1, h2, h3, h4, h5, h6, h7, h8, h9, h10, h11, h12⟩ := h
    exact ⟨T, T', l, E, by_, lo, n0, f, m, sz, f', h0, h01, h1, h2, h3, h4, h5, h6, h7, h8, h9, h10, fun a b => hk _ _ _ (h11 a b), fun a g b n' q1 q2 q3 => hk _ _ _ (h12 a g b n' q1 q2 q3)⟩
  · obtain ⟨T, T', kd, i, j, h1, h2, h3, h4⟩ := h; exact ⟨T, T', kd, i, j, h1, h2, h3, hk _ _ _ h4⟩
  · obtain ⟨T, T', kd, i, j, h1, h2, h3, h4⟩ := h; exact ⟨T, T', kd, i, j, h1, h2, h3, hk _ _ _ h4⟩
  · exact h

theorem effS_mono {P : Program} {T : TypeId} {d : D} {lo hi mx : Option D} {R : Roots} {n : Nat} {k k' : Roots → Nat → D → Prop} (hk : ∀ R n r, k R n r → k' R n r) (h : effS P T d lo hi mx R n k) : effS P T d lo hi mx R n k' := by
  unfold effS at *
  split at h
  · obtain ⟨E, n', sz, i, dh, h0, h1, h2, h3, h4, h5, h6, h7, h8, h9⟩ := h
    exact ⟨E, n', sz, i, dh, h0, h1, h2, h3, h4, h5, h6, h7, h8, hk _ _ _ h9⟩
  · split at h
    · obtain ⟨E, sz, h1, h2, h3, h4, h5⟩ := h; exact ⟨E, sz, h1, h2, h3, h4, hk _ _ _ h5⟩
    · obtain ⟨E, i, j, h1, h2, h3, h4, h5, h6, h7, h8⟩ := h; exact ⟨E, i, j, h1, h2, h3, h4, h5, h6, h7, hk _ _ _ h8⟩
    · obtain ⟨E, i, j, h1, h2, h3, h4, h5, h6, h7, h8, h9⟩ := h; exact ⟨E, i, j, h1, h2, h3, h4, h5, h6, h7, fun q => hk _ _ _ (h8 q), fun q => ⟨hk _ _ _ (h9 q).1, fun q' => hk _ _ _ ((h9 q).2 q')⟩⟩
    · obtain ⟨s, i, j, h1, h2, h3, h4, h5, h6, h7, h8⟩ := h; exact ⟨s, i, j, h1, h2, h3, h4, h5, h6, h7, hk _ _ _ h8⟩
    · obtain ⟨h1, h2, N, E, sz, h3, h4, h5, h6, h7, h8⟩ := h; exact ⟨h1, h2, N, E, sz, h3, h4, h5, h6, h7, hk _ _ _ h8⟩
    · exact h

/-- builtins that only read -/
def earlyB : Builtin → Prop
  | .len | .max | .min => True
  | _ => False

theorem effB_early {P : Program} {b : Builtin} {ds : List D} {ts : Array TypeId} {dst : Option Tmp} {R : Roots} {n : Nat} {k : Roots → Nat → D → Prop} (he : earlyB b) (h : effB P b ds ts dst R n k) :
    ∃ v, k R n v ∧ ∀ (R' : Roots) (n' : Nat) (k' : Roots → Nat → D → Prop), k' R' n' v → effB P b ds ts dst R' n' k' := by
  unfold effB at h
  split at h
  · obtain ⟨T, m, h1, h2, h3⟩ := h; exact ⟨_, h3, fun R' n' k' h' => ⟨T, m, h1, h2, h'⟩⟩
  · exact he.elim
  · obtain ⟨T, T', kd, i, j, h1, h2, h3, h4⟩ := h; exact ⟨_, h4, fun R' n' k' h' => ⟨T, T', kd, i, j, h1, h2, h3, h'⟩⟩
  · obtain ⟨T, T', kd, i, j, h1, h2, h3, h4⟩ := h; exact ⟨_, h4, fun R' n' k' h' => ⟨T, T', kd, i, j, h1, h2, h3, h'⟩⟩
  · exact h.elim

theorem rdR_congr {R R' : Roots} {l : Nat} (g : Nat) (h : R' l = R l) : rdR R' l g = rdR R l g := by unfold rdR; rw [h]

/-- slicings that read the roots Ls at most -/
def earlyS (Ls : List Nat) (d : D) (lo mx : Option D) : Prop :=
  match d with
  | .msl _ _ _ _ _ _ _ => lo = none ∨ mx ≠ none
  | .ptr l _ _ _ => l ∈ Ls
  | _ => True

theorem effS_early {P : Program} {T : TypeId} {d : D} {lo hi mx : Option D} {R : Roots} {n : Nat} {k : Roots → Nat → D → Prop} {Ls : List Nat} (he : earlyS Ls d lo mx) (h : effS P T d lo hi mx R n k) :
    ∃ v, k R n v ∧ ∀ (R' : Roots) (n' : Nat) (k' : Roots → Nat → D → Prop), (∀ l ∈ Ls, R' l = R l) → k' R' n' v → effS P T d lo hi mx R' n' k' := by
  cases mx with
  | some dm =>
    obtain ⟨E, n', sz, i, dh, h0, h1, h2, h3, h4, h5, h6, h7, h8, h9⟩ := h
    exact ⟨_, h9, fun R' n2 k' _ h' => ⟨E, n', sz, i, dh, h0, h1, h2, h3, h4, h5, h6, h7, h8, h'⟩⟩
  | none =>
    simp only [effS] at h ⊢
    split at h
    · obtain ⟨E, sz, h1, h2, h3, h4, h5⟩ := h; exact ⟨_, h5, fun R' n' k' _ h' => ⟨E, sz, h1, h2, h3, h4, h'⟩⟩
    · obtain ⟨E, i, j, h1, h2, h3, h4, h5, h6, h7, h8⟩ := h; exact ⟨_, h8, fun R' n' k' _ h' => ⟨E, i, j, h1, h2, h3, h4, h5, h6, h7, h'⟩⟩
    · obtain ⟨E, i, j, h1, h2, h3, h4, h5, h6, h7, h8, h9⟩ := h
      have hlo : lo = none := by
        rcases he with h' | h'
        · exact h'
        · exact absurd rfl h'
      subst hlo
      obtain rfl : 0 = i := by simpa [lowI] using h3
      exact ⟨_, h8 rfl, fun R' n' k' _ h' => ⟨E, 0, j, h1, h2, h3, h4, h5, h6, h7, fun _ => h', fun q => absurd q (by omega)⟩⟩
    · obtain ⟨s, i, j, h1, h2, h3, h4, h5, h6, h7, h8⟩ := h; exact ⟨_, h8, fun R' n' k' _ h' => ⟨s, i, j, h1, h2, h3, h4, h5, h6, h7, h'⟩⟩
    · obtain ⟨h1, h2, N, E, sz, h3, h4, h5, h6, h7, h8⟩ := h
      refine ⟨_, h8, fun R' n' k' hR h' => ?_⟩
      rw [rdR_congr _ (hR _ he)]
      exact ⟨h1, h2, N, E, sz, h3, h4, h5, h6, h7, h'⟩
    · exact h.elim

theorem eff_mono {P : Program} {op : Op} {dst : Option Tmp} {ev : Operand → D} {R : Roots} {n : Nat} {k k' : Roots → Nat → D → Prop} (hk : ∀ R n r, k R n r → k' R n r) (h : eff P op dst ev R n k) : eff P op dst ev R n k' := by
  unfold eff at *
  split at h
  · exact hk _ _ _ h
  · exact hk _ _ _ h
  · obtain ⟨t, h1, h2⟩ := h; exact ⟨t, h1, hk _ _ _ h2⟩
  · obtain ⟨t, h1, h2⟩ := h; exact ⟨t, h1, hk _ _ _ h2⟩
  · obtain ⟨t, i, h1, h2⟩ := h; exact ⟨t, i, h1, hk _ _ _ h2⟩
  · obtain ⟨E, r, h1, h2, h3⟩ := h; exact ⟨E, r, h1, h2, fun b hb => hk _ _ _ (h3 b hb)⟩
  · obtain ⟨u, v, r, h1, h2, h3, h4⟩ := h; exact ⟨u, v, r, h1, h2, h3, hk _ _ _ h4⟩
  · obtain ⟨u, v, r, h1, h2, h3, h4⟩ := h; exact ⟨u, v, r, h1, h2, h3, hk _ _ _ h4⟩
  · obtain ⟨m, f, h1, h2, h3⟩ := h; exact ⟨m, f, h1, h2, hk _ _ _ h3⟩
  · exact ⟨h.1, hk _ _ _ h.2⟩
  · obtain ⟨o', t, m, h1, h2, h3, h4⟩ := h
    refine ⟨o', t, m, h1, h2, h3, ?_⟩
    split at h4
    · exact hk _ _ _ h4
    · exact ⟨h4.1, h4.2.1, hk _ _ _ h4.2.2⟩
    · exact h4
  · obtain ⟨kd, i, h1, h2⟩ := h
    refine ⟨kd, i, h1, ?_⟩
    split at h2
    · obtain ⟨E, a, b, c, d, g⟩ := h2; exact ⟨E, a, b, c, d, hk _ _ _ g⟩
    · obtain ⟨E, a, b, c, d, g⟩ := h2; exact ⟨E, a, b, c, d, hk _ _ _ g⟩
    · obtain ⟨m, E, s, a, b, c, d, g⟩ := h2; exact ⟨m, E, s, a, b, c, d, hk _ _ _ g⟩
    · obtain ⟨m, E, s, a, b, c, d, d', g⟩ := h2; exact ⟨m, E, s, a, b, c, d, d', hk _ _ _ g⟩
    · exact h2
  · split at h
    · exact ⟨h.1, h.2.1, h.2.2.1, hk _ _ _ h.2.2.2⟩
    · exact ⟨h.1, hk _ _ _ h.2⟩
    · exact h
  · split at h
    · obtain ⟨a, b, c, d, g, i⟩ := h; exact ⟨a, b, c, d, g, hk _ _ _ i⟩
    · exact h
  · obtain ⟨l, h1, h2, h3⟩ := h; exact ⟨l, h1, h2, fun g b hb => hk _ _ _ (h3 g b hb)⟩
  · obtain ⟨l, h1, h2, h3⟩ := h; exact ⟨l, h1, h2, fun g b hb => hk _ _ _ (h3 g b hb)⟩
  · obtain ⟨pl, h1, h2, h3⟩ := h; exact ⟨pl, h1, h2, buildD_mono (fun d hd => ⟨hd.1, hk _ _ _ hd.2⟩) _ _ h3⟩
  · obtain ⟨l, E, h0, h1, h2, h3, h4, h5⟩ := h; exact ⟨l, E, h0, h1, h2, h3, h4, buildD_mono (fun d hd => ⟨hd.1, fun g b hb => hk _ _ _ (hd.2 g b hb)⟩) _ _ h5⟩
  · obtain ⟨l, E, by_, kx, ky, i, c, h0, h1, h2, h3, h4, h5, h6, h7, h8, h9, h10, h11⟩ := h; exact ⟨l, E, by_, kx, ky, i, c, h0, h1, h2, h3, h4, h5, h6, h7, h8, h9, h10, fun g b hb => hk _ _ _ (h11 g b hb)⟩
  · exact effS_mono hk h
  · obtain ⟨s, i, h1, h2, h3, h4, h5, h6⟩ := h; exact ⟨s, i, h1, h2, h3, h4, h5, hk _ _ _ h6⟩
  · exact ⟨h.1, h.2.1, hk _ _ _ h.2.2⟩
  · split at h
    · exact effB_mono hk h
    · split at h
      · rcases h with ⟨ls, h1, h2, h3, h4⟩ | h
        · exact .inl ⟨ls, h1, h2, h3, h4.mono fun n0 n1 outs r _ hq hn => ⟨(hq hn).1, fun G bs hb => ⟨((hq hn).2 G bs hb).1, hk _ _ _ ((hq hn).2 G bs hb).2⟩⟩⟩
        · exact .inr (h.mono fun n0 n1 r _ hq hn => ⟨(hq hn).1, hk _ _ _ (hq hn).2⟩)
      · exact h
    · exact h
  · exact h

theorem eff_congr {P : Program} {op : Op} {dst : Option Tmp} {ev ev' : Operand → D} {R : Roots} {n : Nat} {k : Roots → Nat → D → Prop} (he : ∀ x ∈ op.operands, ev x = ev' x) (h0 : ev (.const .nilFunc) = ev' (.const .nilFunc)) (h : eff P op dst ev R n k) : eff P op dst ev' R n k := by
  have hm : ∀ (xs : Array Operand) (i : Nat), (∀ x ∈ xs, ev x = ev' x) → i < xs.size → ev (xs.getD i (.const .nilFunc)) = ev' (xs.getD i (.const .nilFunc)) := by
    intro xs i h hi
    have : xs.getD i (.const .nilFunc) = xs[i] := by simp [hi]
    rw [this]; exact h _ (Array.getElem_mem hi)
  unfold eff at *
  split at h <;> simp only [Op.operands] at he
  case h_17 T parts => obtain ⟨pl, h1, h2, h3⟩ := h; exact ⟨pl, h1, h2, buildD_congr _ _ (fun x hx => he x (by simpa using hx)) h3⟩
  case h_18 T len parts => obtain ⟨l, E, q0, h1, h2, h3, h4, h5⟩ := h; exact ⟨l, E, q0, h1, h2, h3, h4, buildD_congr _ _ (fun x hx => he x (by simpa using hx)) h5⟩
  case h_20 T x lo hi mx =>
    have e1 : ∀ y, y = lo ∨ y = hi ∨ y = mx → y.map ev = y.map ev' := by
      intro y hy
      cases y with
      | none => rfl
      | some z =>
        have : z ∈ (#[x] ++ lo.toArray ++ hi.toArray ++ mx.toArray : Array Operand) := by rcases hy with rfl | rfl | rfl <;> simp
        simp [he z this]
    rw [e1 lo (.inl rfl), e1 hi (.inr (.inl rfl)), e1 mx (.inr (.inr rfl)), he x (by simp)] at h
    exact h
  case h_22 f first cap =>
    obtain ⟨h1, h2, h3⟩ := h
    have hc : ∀ i, i < cap.size → ev (cap.getD i (.const .nilFunc)) = ev' (cap.getD i (.const .nilFunc)) := fun i hi => hm cap i (fun x hx => he x (by simp [hx])) hi
    refine ⟨h1, fun i hi => by rw [← hc i hi]; exact h2 i hi, ?_⟩
    have hall : (fun i => ev (cap.getD i (.const .nilFunc))) = fun i => ev' (cap.getD i (.const .nilFunc)) := by
      funext i
      rcases Nat.lt_or_ge i cap.size with hi | hi
      · exact hc i hi
      · have : cap.getD i (.const .nilFunc) = .const .nilFunc := by simp [hi]
        rw [this]; exact h0
    rw [← hall]; exact h3
  case h_23 c =>
    obtain ⟨ce, ca, ct⟩ := c
    split at h
    · rename_i b hfx
      obtain rfl : ce = .builtin b := hfx
      have : (ca.toList.map ev) = ca.toList.map ev' := List.map_congr_left fun x hx => by rw [he x (by simp [Call.operands, Array.mem_toList_iff.1 hx])]
      simp only [this] at h
      exact h
    · rename_i fx hfx
      obtain rfl : ce = .value fx := hfx
      rw [he fx (by simp [Call.operands])] at h
      split at h
      · rename_i hx
        have : ∀ F, (ca.toList.map fun x => rl 9 F (ev x)) = ca.toList.map fun x => rl 9 F (ev' x) := fun F => List.map_congr_left fun x hx => by rw [he x (by simp [Call.operands, Array.mem_toList_iff.1 hx])]
        simp only [this] at h
        exact h
      · exact h.elim
    · exact h.elim
  all_goals first
    | exact h
    | (simp at he; simp only [he] at h ⊢; exact h)
    | skip

/-- an operation that only reads: what is yielded hangs on the roots Ls at most -/
def earlyOp (Ls : List Nat) (op : Op) (ev : Operand → D) : Prop :=
  match op with
  | .binOp .eql _ _ (.const (.slice none 0 0)) _ => False
  | .move _ | .assign _ | .pick .. | .unOp .. | .binOp .. | .convert .. | .extract .. | .nilCheck _ | .fieldAddr .. | .indexAddr .. | .makeFunc .. | .build .. => True
  | .load _ x =>
    match ev x with
    | .ptr l _ _ _ => l ∈ Ls
    | _ => True
  | .slice _ x lo _ mx => earlyS Ls (ev x) (lo.map ev) (mx.map ev)
  | .index .. => True
  | .call c =>
    match c.callee with
    | .builtin b => earlyB b
    | _ => False
  | _ => False

theorem eff_early {P : Program} {op : Op} {dst : Option Tmp} {ev : Operand → D} {R : Roots} {n : Nat} {k : Roots → Nat → D → Prop} {Ls : List Nat} (he : earlyOp Ls op ev) (h : eff P op dst ev R n k) :
    ∃ v, k R n v ∧ ∀ (R' : Roots) (n' : Nat) (k' : Roots → Nat → D → Prop), (∀ l ∈ Ls, R' l = R l) → k' R' n' v → eff P op dst ev R' n' k' := by
  unfold eff at h
  split at h
  · exact ⟨_, h, fun R' n' k' hR h' => h'⟩
  · exact ⟨_, h, fun R' n' k' hR h' => h'⟩
  · obtain ⟨t, h1, h2⟩ := h; exact ⟨_, h2, fun R' n' k' hR h' => ⟨t, h1, h'⟩⟩
  · obtain ⟨t, h1, h2⟩ := h; exact ⟨_, h2, fun R' n' k' hR h' => ⟨t, h1, h'⟩⟩
  · obtain ⟨t, i, h1, h2⟩ := h; exact ⟨_, h2, fun R' n' k' hR h' => ⟨t, i, h1, h'⟩⟩
  · exact absurd he (by simp [earlyOp])
  · rename_i hne
    obtain ⟨u, v, r, h1, h2, h3, h4⟩ := h
    refine ⟨_, h4, fun R' n' k' hR h' => ?_⟩
    rw [eff]
    · exact ⟨u, v, r, h1, h2, h3, h'⟩
    · exact hne
  · obtain ⟨u, v, r, h1, h2, h3, h4⟩ := h; exact ⟨_, h4, fun R' n' k' hR h' => ⟨u, v, r, h1, h2, h3, h'⟩⟩
  · obtain ⟨m, f, h1, h2, h3⟩ := h; exact ⟨_, h3, fun R' n' k' hR h' => ⟨m, f, h1, h2, h'⟩⟩
  · exact ⟨_, h.2, fun R' n' k' hR h' => ⟨h.1, h'⟩⟩
  · obtain ⟨o', t, m, h1, h2, h3, h4⟩ := h
    split at h4
    · rename_i hx; exact ⟨_, h4, fun R' n' k' hR h' => ⟨o', t, m, h1, h2, h3, by rw [hx]; exact h'⟩⟩
    · rename_i hx; exact ⟨_, h4.2.2, fun R' n' k' hR h' => ⟨o', t, m, h1, h2, h3, by rw [hx]; exact ⟨h4.1, h4.2.1, h'⟩⟩⟩
    · exact h4.elim
  · obtain ⟨kd, i, h1, h2⟩ := h
    split at h2
    · rename_i hx; obtain ⟨E, a, b, c, d, g⟩ := h2; exact ⟨_, g, fun R' n' k' hR h' => ⟨kd, i, h1, by rw [hx]; exact ⟨E, a, b, c, d, h'⟩⟩⟩
    · rename_i hx; obtain ⟨E, a, b, c, d, g⟩ := h2; exact ⟨_, g, fun R' n' k' hR h' => ⟨kd, i, h1, by rw [hx]; exact ⟨E, a, b, c, d, h'⟩⟩⟩
    · rename_i hx; obtain ⟨m, E, s, a, b, c, d, g⟩ := h2; exact ⟨_, g, fun R' n' k' hR h' => ⟨kd, i, h1, by rw [hx]; exact ⟨m, E, s, a, b, c, d, h'⟩⟩⟩
    · rename_i hx; obtain ⟨m, E, s, a, b, c, d, d', g⟩ := h2; exact ⟨_, g, fun R' n' k' hR h' => ⟨kd, i, h1, by rw [hx]; exact ⟨m, E, s, a, b, c, d, d', h'⟩⟩⟩
    · exact h2.elim
  · simp only [earlyOp] at he
    split at h
    · rename_i hx
      rw [hx] at he
      refine ⟨_, h.2.2.2, fun R' n' k' hR h' => ?_⟩
      unfold eff
      simp only [hx, rdR_congr _ (hR _ he)]
      exact ⟨h.1, h.2.1, h.2.2.1, h'⟩
    · rename_i hx
      refine ⟨_, h.2, fun R' n' k' hR h' => ?_⟩
      unfold eff
      simp only [hx]
      exact ⟨h.1, h'⟩
    · exact h.elim
  · exact he.elim
  · exact he.elim
  · exact he.elim
  · obtain ⟨pl, h1, h2, h3⟩ := h
    obtain ⟨d', q1, q2⟩ := buildD_get _ _ h3
    exact ⟨_, q1.2, fun R' n' k' hR h' => ⟨pl, h1, h2, q2 _ ⟨q1.1, h'⟩⟩⟩
  · exact he.elim
  · exact he.elim
  · obtain ⟨v, q1, q2⟩ := effS_early he h
    exact ⟨v, q1, fun R' n' k' hR h' => q2 R' n' k' hR h'⟩
  · obtain ⟨s, i, h1, h2, h3, h4, h5, h6⟩ := h; exact ⟨_, h6, fun R' n' k' hR h' => ⟨s, i, h1, h2, h3, h4, h5, h'⟩⟩
  · exact ⟨_, h.2.2, fun R' n' k' hR h' => ⟨h.1, h.2.1, h'⟩⟩
  · rename_i c
    obtain ⟨ce, ca, ct⟩ := c
    split at h
    · rename_i b hfx
      obtain rfl : ce = .builtin b := hfx
      obtain ⟨v, q1, q2⟩ := effB_early he h
      exact ⟨v, q1, fun R' n' k' hR h' => q2 R' n' k' h'⟩
    · rename_i fx hfx
      obtain rfl : ce = .value fx := hfx
      exact he.elim
    · exact h.elim
  · exact h.elim

/-- a test that was made, or passed over -/
def Tst (d : D) (want : Bool) (A B : Prop) : Prop := (∃ b, d = .lit (.bool b) ∧ (b = want → A) ∧ (b = !want → B)) ∨ ∃ f, d = .tup 0 f ∧ B
theorem Tst.mono {d : D} {want : Bool} {A B A' B' : Prop} (h : Tst d want A B) (ha : A → A') (hb : B → B') : Tst d want A' B' := by
  rcases h with ⟨b, h1, h2, h3⟩ | ⟨f, h1, h2⟩
  · exact .inl ⟨b, h1, fun h => ha (h2 h), fun h => hb (h3 h)⟩
  · exact .inr ⟨f, h1, hb h2⟩
/-- an operation of a region with its guard -/
def vcG (P : Program) (ops : Array Oper) (o : Oper) (st : St) (K : St → Prop) : Prop :=
  match o.guard with
  | none => vcOp P o st K
  | some (j, want) =>
    match (ops[j]?).bind (·.dst) with
    | some t => t < st.N ∧ Tst (st.s t) want (vcOp P o st K) (st.dstOk o.dst ∧ K (st.put o.dst und))
    | none => False

section
variable {P : Program} {w0 : World} {M : Fr} {ops : Array Oper}

theorem vcG_wp {Q : Exit → Act → World → Prop} {i : Nat} {o : Oper} (hi : ops[i]? = some o) {st : St} {a : Act} {w : World} {K : St → Prop} (hs : SR w0 M st a w) (hv : vcG P ops o st K) : wpOp P ops Q i (Lift w0 M K) a w := by
  unfold wpOp
  simp only [hi]
  have step : vcOp P o st K → o.wp P a w (Lift w0 M K) Q := by
    intro hv'
    obtain ⟨e, rfl, hg⟩ := hs
    exact vop_sound hg o hv'
  unfold vcG at hv
  cases hgd : o.guard with
  | none =>
    rw [hgd] at hv
    rw [if_pos (by simp [Region.wanted, hgd])]
    exact .inl (step hv)
  | some jw =>
    obtain ⟨j, want⟩ := jw
    rw [hgd] at hv
    simp only at hv
    cases hj : (ops[j]?).bind (·.dst) with
    | none => rw [hj] at hv; exact hv.elim
    | some t =>
      rw [hj] at hv
      obtain ⟨h2, ⟨b, h1, h3, h4⟩ | ⟨f, h1, h5, h6⟩⟩ := hv
      · have hval : a.tmps[t]? = some (.bool b) := by
          obtain ⟨e, _, hg⟩ := hs
          have := hg.slot t
          rw [h1] at this
          have hv := (VRep_lit this).1
          have hlt : t < a.tmps.size := by rw [hg.N]; exact h2
          rw [Array.getElem?_eq_getElem hlt]
          simpa [hlt] using hv
        have hy : yielded ops a.tmps j = some b := by
          unfold yielded; rw [hj]; simp [hval]
        have hw : Region.wanted o (yielded ops a.tmps) = (b == want) := by
          unfold Region.wanted; rw [hgd]; simp only [hy]; cases b <;> cases want <;> rfl
        rw [hw]
        by_cases hb : b = want
        · subst hb
          simp only [beq_self_eq_true, if_true]
          exact .inl (step (h3 rfl))
        · have hb' : b = !want := by cases b <;> cases want <;> simp_all
          rw [if_neg (by simpa using hb)]
          obtain ⟨h5, h6⟩ := h4 hb'
          obtain ⟨e, he, hg⟩ := hs
          exact ⟨_, h6, e, he, hg.put h5 (VRep_und e)⟩
      · have hval : a.tmps[t]? = some (.tuple #[]) := by
          obtain ⟨e, _, hg⟩ := hs
          have := hg.slot t
          rw [h1] at this
          obtain ⟨vs, hv, hn, _⟩ := this
          obtain rfl : vs = #[] := by simpa using hn
          have hlt : t < a.tmps.size := by rw [hg.N]; exact h2
          rw [Array.getElem?_eq_getElem hlt]
          simpa [hlt] using hv
        have hy : yielded ops a.tmps j = none := by
          unfold yielded; rw [hj]; simp [hval]
        have hw : Region.wanted o (yielded ops a.tmps) = false := by
          unfold Region.wanted; rw [hgd]; simp only [hy]; cases want <;> rfl
        rw [hw, if_neg (by simp)]
        obtain ⟨e, he, hg⟩ := hs
        exact ⟨_, h6, e, he, hg.put h5 (VRep_und e)⟩

theorem vcG_mono {o : Oper} {st : St} {K K' : St → Prop} (hk : ∀ st, K st → K' st) (h : vcG P ops o st K) : vcG P ops o st K' := by
  unfold vcG at *
  split
  · rename_i hg; rw [hg] at h; exact ⟨h.1, eff_mono (fun _ _ _ h => hk _ h) h.2⟩
  · rename_i hg
    rw [hg] at h
    simp only at h ⊢
    split
    · rename_i ht
      rw [ht] at h
      exact ⟨h.1, h.2.mono (fun h3 => ⟨h3.1, eff_mono (fun _ _ _ h => hk _ h) h3.2⟩) fun h4 => ⟨h4.1, hk _ h4.2⟩⟩
    · rename_i ht; rw [ht] at h; exact h

/-- whatever order is picked, and the roots Ls stay as they are in R0 -/
def vcAny (P : Program) (ops : Array Oper) (S : Roots → Prop) (K : St → Prop) : Nat → Array Bool → St → Prop
  | 0, listed, st => Region.ready .any ops listed = [] ∧ K st
  | fuel + 1, listed, st => (Region.ready .any ops listed = [] → K st) ∧
    ∀ i ∈ Region.ready .any ops listed, ∃ o, ops[i]? = some o ∧ vcG P ops o st fun st' => S st'.R ∧ vcAny P ops S K fuel (listed.setIfInBounds i true) st'

theorem vcAny_sound {S : Roots → Prop} {K : St → Prop} {Q : Exit → Act → World → Prop} (hK : ∀ st a w, K st → SR w0 M st a w → Q .normal a w) : ∀ (fuel : Nat) (listed : Array Bool) (st : St) (a : Act) (w : World), SR w0 M st a w → vcAny P ops S K fuel listed st → wpAny P .any ops Q fuel listed a w := by
  intro fuel
  induction fuel with
  | zero => intro listed st a w hs h; exact ⟨h.1, hK _ _ _ h.2 hs⟩
  | succ fuel ih =>
    intro listed st a w hs h
    refine ⟨fun h0 => hK _ _ _ (h.1 h0) hs, fun i hi => ?_⟩
    obtain ⟨o, ho, hv⟩ := h.2 i hi
    refine wpOp_mono ?_ (vcG_wp ho hs hv)
    rintro a' w' ⟨st', ⟨_, h1⟩, h2⟩
    exact ih _ _ _ _ h2 h1

end
end Go.Proofs.Ytjaddgkhlmallaa.IM
