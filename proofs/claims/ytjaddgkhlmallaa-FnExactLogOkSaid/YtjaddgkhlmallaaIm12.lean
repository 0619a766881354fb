/- Zero values. Nothing of a program is in it. -/
import Derived.Test.YtjaddgkhlmallaaIm11
namespace Go.Proofs.Ytjaddgkhlmallaa.IM
open Go Go.RowKit
set_option linter.unusedVariables false

def chkLeaf : Value → Value → Bool
  | .int k n, .int k' n' => k == k' && n == n'
  | .bool b, .bool b' => b == b'
  | .string s, .string s' => s.data == s'.data
  | _, _ => false
theorem chkLeaf_eq {u v : Value} (h : chkLeaf u v = true) : u = v ∧ Leaf u := by
  cases u <;> cases v <;> simp [chkLeaf] at h
  · subst h; exact ⟨rfl, trivial⟩
  · obtain ⟨rfl, rfl⟩ := h; exact ⟨rfl, trivial⟩
  · rename_i s s'
    refine ⟨?_, trivial⟩
    cases s; cases s'; simp_all

/-- do these cells stand for plain data? -/
def chk : D → List Value → Bool
  | .lit u, [v] => chkLeaf u v
  | .nil, [.slice none 0 0] => true
  | .node k f, cs => cs.length == k.all && (List.range k.cnt).all fun i => chk (f i) ((cs.drop (k.off i)).take (k.sz i))
  | _, _ => false

theorem chk_sound (e : Env) {d : D} : ∀ {cs : List Value}, chk d cs = true → Rep e d cs := by
  induction d with
  | lit u =>
    intro cs h
    match cs, h with
    | [v], h => obtain ⟨rfl, hl⟩ := chkLeaf_eq h; exact ⟨hl, rfl⟩
    | [], h => simp [chk] at h
    | _ :: _ :: _, h => simp [chk] at h
  | nil =>
    intro cs h
    unfold chk at h
    split at h <;> first | (cases h; done) | skip
    all_goals first | exact ⟨_, rfl⟩ | simp_all
  | node k f ih =>
    intro cs h
    simp only [chk, Bool.and_eq_true, beq_iff_eq, List.all_eq_true, List.mem_range] at h
    obtain ⟨hl, h⟩ := h
    have hlen : ∀ i, i < k.cnt → ((cs.drop (k.off i)).take (k.sz i)).length = k.sz i := by
      intro i hi
      have := Kd.off_le k k.cnt (i + 1) hi (Nat.le_refl _)
      rw [Kd.off_succ k i hi, Kd.off_cnt] at this
      simp; omega
    refine ⟨fun i => (cs.drop (k.off i)).take (k.sz i), fun i hi => ⟨hlen i hi, ih i (h i hi)⟩, ?_⟩
    have key : ∀ n, n ≤ k.cnt → flat n (fun i => (cs.drop (k.off i)).take (k.sz i)) = cs.take (k.off n) := by
      intro n
      induction n with
      | zero => intro _; simp
      | succ n ihn =>
        intro hn
        rw [flat_succ, ihn (by omega), Kd.off_succ k n (by omega), List.take_add]
    rw [key k.cnt (Nat.le_refl _), Kd.off_cnt, ← hl, List.take_length]
  | _ => intro cs h; unfold chk at h; cases h

def zeroB (P : Program) (T : TypeId) (z : D) : Bool :=
  match P.info? T with
  | some i => match i.zero, z with
    | some (.agg cs), .node k f => chk (.node k f) cs.toList
    | some _, .node _ _ => false
    | some v, .lit u => chkLeaf u v
    | some (.slice none 0 0), .nil => true
    | _, _ => false
  | none => false

theorem zeroOk_of {P : Program} {T : TypeId} {z : D} (h : zeroB P T z = true) : ZeroOk P T z := by
  unfold zeroB at h
  cases hi : P.info? T with
  | none => rw [hi] at h; cases h
  | some i =>
    rw [hi] at h
    simp only at h
    split at h
    · rename_i cs k f hz
      exact ⟨trivial, i, _, hi, hz, fun e => ⟨_, rfl, chk_sound e h⟩⟩
    · cases h
    · rename_i v u hz
      obtain ⟨rfl, hl⟩ := chkLeaf_eq h
      exact ⟨trivial, i, _, hi, hz, fun e => ⟨hl, rfl⟩⟩
    · rename_i hz
      exact ⟨trivial, i, _, hi, hz, fun e => ⟨none, rfl⟩⟩
    · cases h

end Go.Proofs.Ytjaddgkhlmallaa.IM
