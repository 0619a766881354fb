/- Reading and writing cells: how the model's loads and stores run over rows of cells that are known. Nothing of a program is in it. -/
import Derived.Test.YtjaddgkhlmallaaIm1
import Derived.Laws.Sem
import Derived.Laws.World
import Derived.Laws.Rows
namespace Go.Proofs.Ytjaddgkhlmallaa.IM
open Go Go.RowKit

/-- a row with some of its cells written over -/
def splice (cs : List Value) (o : Nat) (vs : List Value) : List Value := cs.take o ++ vs ++ cs.drop (o + vs.length)

theorem splice_length {cs vs : List Value} {o : Nat} (h : o + vs.length ≤ cs.length) : (splice cs o vs).length = cs.length := by
  simp [splice]; omega
theorem splice_get {cs vs : List Value} {o : Nat} (h : o + vs.length ≤ cs.length) (j : Nat) :
    (splice cs o vs)[j]? = if o ≤ j ∧ j < o + vs.length then vs[j - o]? else cs[j]? := by
  unfold splice
  have ht : (cs.take o).length = o := by simp; omega
  rcases Nat.lt_or_ge j o with h1 | h1
  · rw [if_neg (by omega), List.append_assoc, List.getElem?_append_left (by omega), List.getElem?_take, if_pos h1]
  · rw [List.append_assoc, List.getElem?_append_right (by omega), ht]
    rcases Nat.lt_or_ge j (o + vs.length) with h2 | h2
    · rw [if_pos ⟨h1, h2⟩, List.getElem?_append_left (by omega)]
    · rw [if_neg (by omega), List.getElem?_append_right (by omega), List.getElem?_drop]
      congr 1; omega
theorem splice_append_left {A B vs : List Value} {o : Nat} (h : o + vs.length ≤ A.length) : splice (A ++ B) o vs = splice A o vs ++ B := by
  unfold splice
  rw [List.take_append_of_le_length (by omega), List.drop_append_of_le_length (by omega)]
  simp
theorem splice_append_right {A B vs : List Value} {o : Nat} : splice (A ++ B) (A.length + o) vs = A ++ splice B o vs := by
  unfold splice
  rw [List.take_length_add_append, Nat.add_assoc, List.drop_length_add_append]
  simp
theorem splice_all {cs vs : List Value} (h : vs.length = cs.length) : splice cs 0 vs = vs := by
  unfold splice; rw [Nat.zero_add, h]; simp

theorem flat_splice (k : Kd) (ps : Nat → List Value) (i o : Nat) (vs : List Value) : ∀ n, n ≤ k.cnt → (∀ j, j < n → (ps j).length = k.sz j) → i < n → o + vs.length ≤ (ps i).length →
    splice (flat n ps) (k.off i + o) vs = flat n (fun j => if j = i then splice (ps j) o vs else ps j) := by
  intro n
  induction n with
  | zero => intro _ _ h; omega
  | succ n ih =>
    intro hn h hi ho
    have hl := flat_length k ps n (by omega) (fun i hi => h i (by omega))
    rw [flat_succ, flat_succ]
    rcases Nat.lt_or_ge i n with h1 | h1
    · have hs := Kd.off_le k n (i + 1) (by omega) (by omega)
      rw [Kd.off_succ k i (by omega)] at hs
      have := h i hi
      rw [splice_append_left (by omega), ih (by omega) (fun i hi => h i (by omega)) h1 ho, if_neg (show ¬ (n = i) by omega)]
    · obtain rfl : i = n := by omega
      rw [← hl, splice_append_right, if_pos rfl]
      congr 1
      exact flat_congr fun j hj => by rw [if_neg (show ¬ (j = i) by omega)]

/-- what a root holds behind a store -/
theorem Rep_set {e : Env} {v : D} {vs : List Value} (hv : Rep e v vs) : ∀ (p : List Nat) (d : D) (cs : List Value), Rep e d cs → d.inb p → (d.get p).plain → vs.length = (d.get p).size →
    d.offOf p + vs.length ≤ cs.length ∧ Rep e (d.set p v) (splice cs (d.offOf p) vs) := by
  intro p
  induction p with
  | nil =>
    intro d cs h _ hp hl
    have := Rep_length hp h
    have hlen : vs.length = cs.length := by rw [hl]; exact this.symm
    refine ⟨by simp [D.offOf, hlen], ?_⟩
    show Rep e v (splice cs 0 vs)
    rw [splice_all hlen]; exact hv
  | cons i p ih =>
    intro d cs h hin hp hl
    cases d with
    | node k f =>
      obtain ⟨hi, hin⟩ := hin
      obtain ⟨ps, h1, rfl⟩ := h
      have hl' := flat_length k ps k.cnt (Nat.le_refl _) (fun i hi => (h1 i hi).1)
      have hs : k.off (i + 1) ≤ k.off k.cnt := Kd.off_le k k.cnt (i + 1) hi (Nat.le_refl _)
      rw [Kd.off_succ k i hi] at hs
      obtain ⟨r1, r2⟩ := ih (f i) (ps i) (h1 i hi).2 hin hp hl
      have hlen := (h1 i hi).1
      refine ⟨?_, ?_⟩
      · show k.off i + (f i).offOf p + vs.length ≤ _
        omega
      · show Rep e (.node k fun j => if j = i then (f i).set p v else f j) (splice (flat k.cnt ps) (k.off i + (f i).offOf p) vs)
        rw [flat_splice k ps i _ vs k.cnt (Nat.le_refl _) (fun i hi => (h1 i hi).1) hi r1]
        refine ⟨_, fun j hj => ?_, rfl⟩
        by_cases hji : j = i
        · subst hji
          rw [if_pos rfl]
          exact ⟨by rw [splice_length r1]; exact hlen, by simpa using r2⟩
        · rw [if_neg hji]
          exact ⟨(h1 j hj).1, by simpa [hji] using (h1 j hj).2⟩
    | _ => exact absurd hin.1 (by simp [D.kd, Kd.cnt])

theorem addr_add (b o i : Nat) : (⟨b, o, none⟩ : Addr).add i = ⟨b, o + i, none⟩ := by
  unfold Addr.add; split
  · subst i; rfl
  · rfl

theorem At.cell {w : World} {b o : Nat} {cs : List Value} (h : At w b o cs) {j : Nat} {v : Value} (hj : cs[j]? = some v) : w.cell? ⟨b, o + j, none⟩ = some v := by
  obtain ⟨C, T, z, h1, h2⟩ := h
  unfold World.cell?
  rw [h1]
  exact h2 j v hj

theorem run_loadCellsFrom (P : Program) {w : World} {b o : Nat} {cs : List Value} (h : At w b o cs) : ∀ (n i : Nat) (acc : Array Value), i + n ≤ cs.length →
    (loadCellsFrom ⟨b, o, none⟩ i n acc).run P w = .ok (acc ++ ((cs.drop i).take n).toArray) w := by
  intro n
  induction n with
  | zero => intro i acc _; simp [loadCellsFrom]
  | succ n ih =>
    intro i acc hi
    have hget : cs[i]? = some cs[i] := List.getElem?_eq_getElem (by omega)
    have hc := h.cell hget
    simp only [loadCellsFrom]
    rw [Sem.run_bind]
    have hl : (load (Addr.add ⟨b, o, none⟩ i)).run P w = .ok cs[i] w := by
      rw [addr_add]; simp [load, Sem.run, hc]
    rw [hl, Result.andThen_ok, ih (i + 1) _ (by omega)]
    congr 1
    rw [List.drop_eq_getElem_cons (i := i) (by omega), List.take_succ_cons]
    simp

theorem run_loadCells (P : Program) {w : World} {b o : Nat} {cs : List Value} (h : At w b o cs) : (loadCells ⟨b, o, none⟩ cs.length).run P w = .ok cs.toArray w := by
  unfold loadCells
  rw [run_loadCellsFrom P h cs.length 0 #[] (by omega)]
  simp

/-- the world with cells of one block written over -/
def World.putRow (w : World) (b o : Nat) (vs : List Value) : World :=
  { w with heap := w.heap.modify b fun
      | .cells C T z => .cells ((splice C.toList o vs).toArray) T z
      | x => x }

theorem putRow_other (w : World) (b o k : Nat) (vs : List Value) (h : k ≠ b) : (World.putRow w b o vs).heap[k]? = w.heap[k]? := by
  simp only [World.putRow, Array.getElem?_modify]
  rw [if_neg (by omega)]
theorem putRow_same {w : World} {b o : Nat} {C : Array Value} {T : TypeId} {z : Nat × Nat} (vs : List Value) (h : w.heap[b]? = some (.cells C T z)) :
    (World.putRow w b o vs).heap[b]? = some (.cells ((splice C.toList o vs).toArray) T z) := by
  simp only [World.putRow, Array.getElem?_modify, if_pos]
  rw [h]; rfl
@[simp] theorem putRow_size (w : World) (b o : Nat) (vs : List Value) : (World.putRow w b o vs).heap.size = w.heap.size := by simp [World.putRow]

theorem World.ext_heap {w w' : World} (h1 : w'.heap = w.heap) (h2 : w'.tape = w.tape) (h3 : w'.drawn = w.drawn) (h4 : w'.os = w.os) (h5 : w'.output = w.output) : w' = w := by
  cases w; cases w'; simp_all

theorem putRow_nil (w : World) (b o : Nat) {C : Array Value} {T : TypeId} {z : Nat × Nat} (h : w.heap[b]? = some (.cells C T z)) : World.putRow w b o [] = w := by
  refine World.ext_heap ?_ rfl rfl rfl rfl
  apply Array.ext_getElem?
  intro k
  by_cases hk : k = b
  · subst hk
    rw [putRow_same [] h, h]
    simp [splice]
  · rw [putRow_other _ _ _ _ _ hk]

theorem putRow_cons {w : World} {b o : Nat} {C : Array Value} {T : TypeId} {z : Nat × Nat} (h : w.heap[b]? = some (.cells C T z)) (v : Value) (vs : List Value) (ho : o + vs.length + 1 ≤ C.size) :
    World.putRow (w.setCell ⟨b, o, none⟩ v) b (o + 1) vs = World.putRow w b o (v :: vs) := by
  have hs : (w.setCell ⟨b, o, none⟩ v).heap[b]? = some (.cells (C.setIfInBounds o v) T z) := by
    simp only [World.setCell, Array.getElem?_modify, if_pos]
    rw [h]; simp
  refine World.ext_heap ?_ rfl rfl rfl rfl
  apply Array.ext_getElem?
  intro k
  by_cases hk : k = b
  · subst hk
    rw [putRow_same vs hs, putRow_same (v :: vs) h]
    congr 2
    congr 1
    apply List.ext_getElem?
    intro j
    have e1 : (C.setIfInBounds o v).toList = C.toList.set o v := by simp
    rw [e1, splice_get (by simp; omega), splice_get (by simp; omega)]
    by_cases hj : j = o
    · subst hj
      rw [if_neg (by omega), if_pos (by simp), List.getElem?_set_self (by simp; omega)]
      simp
    · by_cases hj2 : o + 1 ≤ j ∧ j < o + 1 + vs.length
      · rw [if_pos hj2, if_pos (by simp; omega)]
        rw [show j - o = (j - (o + 1)) + 1 by omega]
        simp
      · rw [if_neg hj2, if_neg (by simp; omega), List.getElem?_set_ne (by omega)]
  · rw [putRow_other _ _ _ _ _ hk, putRow_other _ _ _ _ _ hk]
    exact Below.heap_setCell w ⟨b, o, none⟩ v k hk

theorem Leaf.oneCell {v : Value} (h : Leaf v) : v.oneCell' = true := by cases v <;> first | rfl | exact h.elim

theorem run_storeCells (P : Program) : ∀ (vs : List Value) (w : World) (b o i : Nat) (C : Array Value) (T : TypeId), w.heap[b]? = some (.cells C T (0, 0)) → o + i + vs.length ≤ C.size → (∀ v ∈ vs, Leaf v) →
    (storeCells ⟨b, o, none⟩ vs i).run P w = .ok () (World.putRow w b (o + i) vs) := by
  intro vs
  induction vs with
  | nil => intro w b o i C T h _ _; simp [storeCells, putRow_nil w b (o + i) h]
  | cons v vs ih =>
    intro w b o i C T h hl hv
    simp only [List.length_cons] at hl
    simp only [storeCells]
    rw [Sem.run_bind]
    have hc : w.cell? ⟨b, o + i, none⟩ = some C[o + i] := by
      unfold World.cell?; rw [h]; simp
    have hf : w.frozen? ⟨b, o + i, none⟩ = false := by
      unfold World.frozen?; rw [h]; simp
    have hst : (store (Addr.add ⟨b, o, none⟩ i) v).run P w = .ok () (w.setCell ⟨b, o + i, none⟩ v) := by
      rw [addr_add, run_store P w _ v _ (Leaf.oneCell (hv v (by simp)))]
      simp [hc, hf]
    rw [hst, Result.andThen_ok]
    have hs : (w.setCell ⟨b, o + i, none⟩ v).heap[b]? = some (.cells (C.setIfInBounds (o + i) v) T (0, 0)) := by
      simp only [World.setCell, Array.getElem?_modify, if_pos]
      rw [h]; simp
    rw [ih (w.setCell ⟨b, o + i, none⟩ v) b o (i + 1) _ T hs (by simp; omega) (fun u hu => hv u (by simp [hu]))]
    rw [← Nat.add_assoc, putRow_cons h v vs (by omega)]

end Go.Proofs.Ytjaddgkhlmallaa.IM
