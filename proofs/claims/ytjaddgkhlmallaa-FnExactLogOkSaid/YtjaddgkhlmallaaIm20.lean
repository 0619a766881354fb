/- Plain data: what it means that an abstract value shows a number, a list, a struct; and that its blocks are its own. Nothing of a program is in it. -/
import Derived.Test.YtjaddgkhlmallaaIm17
namespace Go.Proofs.Ytjaddgkhlmallaa.IM
open Go Go.RowKit
set_option linter.unusedVariables false

/-! ### what a value shows -/
def IsInt (d : D) (n : Int) : Prop := d = .lit (.int .i64 n)
def IsByte (d : D) (n : Int) : Prop := d = .lit (.int .u8 n)
def IsBool (d : D) (b : Bool) : Prop := d = .lit (.bool b)

/-- a slice of few elements -/
def IsL {α : Type} (sz : Nat) (R : D → α → Prop) (d : D) (xs : List α) : Prop :=
  (d = .nil ∧ xs = []) ∨ ∃ t zb f, d = .sl t zb xs.length sz f ∧ (∀ i, (f i).still) ∧ xs.length < 140737488355328 ∧ ∀ i (h : i < xs.length), R (f i) xs[i]
/-- an array -/
def IsA {α : Type} (n sz : Nat) (R : D → α → Prop) (d : D) (xs : List α) : Prop :=
  xs.length = n ∧ ∃ f, d = .node (.arr n sz) f ∧ (∀ i, (f i).still) ∧ ∀ i (h : i < xs.length), R (f i) xs[i]
/-- a struct -/
def IsS (lay : List Nat) (Q : (Nat → D) → Prop) (d : D) : Prop := ∃ f, d = .node (.agg lay) f ∧ (∀ i, (f i).still) ∧ Q f

theorem IsInt.still {d : D} {n : Int} (h : IsInt d n) : d.still := by rw [h]; trivial
theorem IsByte.still {d : D} {n : Int} (h : IsByte d n) : d.still := by rw [h]; trivial
theorem IsBool.still {d : D} {b : Bool} (h : IsBool d b) : d.still := by rw [h]; trivial
theorem IsL.still {α : Type} {sz : Nat} {R : D → α → Prop} {d : D} {xs : List α} (h : IsL sz R d xs) : d.still := by
  rcases h with ⟨rfl, _⟩ | ⟨t, zb, f, rfl, h, _⟩
  · trivial
  · exact h
theorem IsA.still {α : Type} {n sz : Nat} {R : D → α → Prop} {d : D} {xs : List α} (h : IsA n sz R d xs) : d.still := by
  obtain ⟨_, f, rfl, h, _⟩ := h; exact h
theorem IsS.still {lay : List Nat} {Q : (Nat → D) → Prop} {d : D} (h : IsS lay Q d) : d.still := by
  obtain ⟨f, rfl, h, _⟩ := h; exact h

theorem IsL.size {α : Type} {sz : Nat} {R : D → α → Prop} {d : D} {xs : List α} (h : IsL sz R d xs) : d.size = 1 := by
  rcases h with ⟨rfl, _⟩ | ⟨t, zb, f, rfl, h, _⟩ <;> rfl
theorem IsL.isNode {α : Type} {sz : Nat} {R : D → α → Prop} {d : D} {xs : List α} (h : IsL sz R d xs) : d.isNode = some false := by
  rcases h with ⟨rfl, _⟩ | ⟨t, zb, f, rfl, h, _⟩ <;> rfl
theorem IsL.plain {α : Type} {sz : Nat} {R : D → α → Prop} {d : D} {xs : List α} (h : IsL sz R d xs) : d.plain := by
  rcases h with ⟨rfl, _⟩ | ⟨t, zb, f, rfl, h, _⟩ <;> trivial
theorem IsL.len {α : Type} {sz : Nat} {R : D → α → Prop} {d : D} {xs : List α} (h : IsL sz R d xs) : d.len = some xs.length := by
  rcases h with ⟨rfl, rfl⟩ | ⟨t, zb, f, rfl, h, _⟩ <;> rfl
theorem IsL.lenT {α : Type} {sz : Nat} {R : D → α → Prop} {d : D} {xs : List α} (h : IsL sz R d xs) (P : Program) (T : TypeId) : lenT P T d = if (telem P T).isSome = true then some xs.length else none := by
  rcases h with ⟨rfl, rfl⟩ | ⟨t, zb, f, rfl, h, _⟩ <;> rfl
theorem IsL.short {α : Type} {sz : Nat} {R : D → α → Prop} {d : D} {xs : List α} (h : IsL sz R d xs) : xs.length < 140737488355328 := by
  rcases h with ⟨rfl, rfl⟩ | ⟨t, zb, f, rfl, _, h, _⟩
  · simp
  · exact h
theorem IsS.size {lay : List Nat} {Q : (Nat → D) → Prop} {d : D} (h : IsS lay Q d) : d.size = lay.sum := by
  obtain ⟨f, rfl, _⟩ := h; rfl
theorem IsS.isNode {lay : List Nat} {Q : (Nat → D) → Prop} {d : D} (h : IsS lay Q d) : d.isNode = some true := by
  obtain ⟨f, rfl, _⟩ := h; rfl
theorem IsS.plain {lay : List Nat} {Q : (Nat → D) → Prop} {d : D} (h : IsS lay Q d) : d.plain := by
  obtain ⟨f, rfl, _⟩ := h; trivial
theorem IsA.size {α : Type} {n sz : Nat} {R : D → α → Prop} {d : D} {xs : List α} (h : IsA n sz R d xs) : d.size = n * sz := by
  obtain ⟨_, f, rfl, h, _⟩ := h; rfl
theorem IsA.isNode {α : Type} {n sz : Nat} {R : D → α → Prop} {d : D} {xs : List α} (h : IsA n sz R d xs) : d.isNode = some true := by
  obtain ⟨_, f, rfl, h, _⟩ := h; rfl
theorem IsA.plain {α : Type} {n sz : Nat} {R : D → α → Prop} {d : D} {xs : List α} (h : IsA n sz R d xs) : d.plain := by
  obtain ⟨_, f, rfl, h, _⟩ := h; trivial

theorem still_nthD {l : List D} (h : ∀ d ∈ l, d.still) (i : Nat) : (nthD l i).still := by
  induction l generalizing i with
  | nil => cases i <;> trivial
  | cons d l ih =>
    cases i with
    | zero => exact h d (by simp)
    | succ i => exact ih (fun d hd => h d (by simp [hd])) i
theorem still_upd {f : Nat → D} {k : Nat} {d : D} (h : ∀ i, (f i).still) (hd : d.still) (i : Nat) : (upd f k d i).still := by
  unfold upd; split
  · exact hd
  · exact h i
theorem still_cat {n : Nat} {f f' : Nat → D} (h : ∀ i, (f i).still) (h' : ∀ i, (f' i).still) (i : Nat) : (catD n f f' i).still := by
  unfold catD; split
  · exact h i
  · exact h' _

/-! ### own blocks -/
/-- the blocks are all from lo to hi, and no two are one; each slice begins with its block -/
def D.whole : D → Prop
  | .sl _ zb n _ f => zb = true ∧ ∀ i, i < n → (f i).whole
  | .node k f => ∀ i, i < k.cnt → (f i).whole
  | .tup n f => ∀ i, i < n → (f i).whole
  | .lit _ => True
  | .nil => True
  | _ => False

structure Own (lo hi : Nat) (d : D) : Prop where
  rg : ∀ t ∈ d.tl, lo ≤ t ∧ t < hi
  nd : d.tl.Nodup
  wh : d.whole

theorem Own.mono {lo lo' hi hi' : Nat} {d : D} (h : Own lo hi d) (h1 : lo' ≤ lo) (h2 : hi ≤ hi') : Own lo' hi' d :=
  ⟨fun t ht => ⟨Nat.le_trans h1 (h.rg t ht).1, Nat.lt_of_lt_of_le (h.rg t ht).2 h2⟩, h.nd, h.wh⟩

theorem own_lit (lo hi : Nat) (v : Value) : Own lo hi (.lit v) := ⟨fun t ht => by simp [D.tl] at ht, by simp [D.tl], trivial⟩
theorem own_nil (lo hi : Nat) : Own lo hi .nil := ⟨fun t ht => by simp [D.tl] at ht, by simp [D.tl], trivial⟩

theorem nodup_append' {l l' : List Nat} (h : l.Nodup) (h' : l'.Nodup) (hd : ∀ x ∈ l, x ∉ l') : (l ++ l').Nodup :=
  List.nodup_append.2 ⟨h, h', fun a ha b hb hab => hd a ha (hab ▸ hb)⟩

/-- of the first n children: blocks of their own -/
structure OwnN (lo hi n : Nat) (f : Nat → D) : Prop where
  rg : ∀ i, i < n → ∀ t ∈ (f i).tl, lo ≤ t ∧ t < hi
  nd : ∀ i, i < n → (f i).tl.Nodup
  dj : ∀ i j, i < j → j < n → ∀ t ∈ (f i).tl, t ∉ (f j).tl
  wh : ∀ i, i < n → (f i).whole

theorem OwnN.mono {lo lo' hi hi' n : Nat} {f : Nat → D} (h : OwnN lo hi n f) (h1 : lo' ≤ lo) (h2 : hi ≤ hi') : OwnN lo' hi' n f :=
  ⟨fun i hi t ht => ⟨Nat.le_trans h1 (h.rg i hi t ht).1, Nat.lt_of_lt_of_le (h.rg i hi t ht).2 h2⟩, h.nd, h.dj, h.wh⟩

theorem OwnN.nodup {lo hi n : Nat} {f : Nat → D} (h : OwnN lo hi n f) : ((List.range n).flatMap fun i => (f i).tl).Nodup := by
  induction n with
  | zero => simp
  | succ n ih =>
    rw [List.range_succ, List.flatMap_append]
    refine nodup_append' (ih ⟨fun i hi => h.rg i (by omega), fun i hi => h.nd i (by omega), fun i j hij hj => h.dj i j hij (by omega), fun i hi => h.wh i (by omega)⟩) (by simpa using h.nd n (by omega)) ?_
    intro x hx hx'
    simp only [List.mem_flatMap, List.mem_range, List.mem_singleton, exists_eq_left] at hx hx'
    obtain ⟨i, hi, hx⟩ := hx
    exact h.dj i n hi (by omega) x hx hx'

theorem OwnN.of_nodup {lo hi n : Nat} {f : Nat → D} (h1 : ∀ t ∈ (List.range n).flatMap (fun i => (f i).tl), lo ≤ t ∧ t < hi) (h2 : ((List.range n).flatMap fun i => (f i).tl).Nodup) (h3 : ∀ i, i < n → (f i).whole) : OwnN lo hi n f := by
  refine ⟨fun i hi t ht => h1 t (by simp only [List.mem_flatMap, List.mem_range]; exact ⟨i, hi, ht⟩), fun i hi => ?_, fun i j hij hj t ht ht' => ?_, h3⟩
  · have := (List.pairwise_flatMap.1 h2).1 i (by simpa using hi)
    exact this
  · have := (List.pairwise_flatMap.1 h2).2
    have h4 : List.Pairwise (fun a b => ∀ x ∈ (f a).tl, ∀ y ∈ (f b).tl, x ≠ y) (List.range n) := this
    rw [List.pairwise_iff_getElem] at h4
    have h5 := h4 i j (by simp; omega) (by simpa using hj) hij
    simp only [List.getElem_range] at h5
    exact h5 t ht t ht' rfl

theorem own_node {lo hi : Nat} {k : Kd} {f : Nat → D} (h : OwnN lo hi k.cnt f) : Own lo hi (.node k f) := by
  refine ⟨fun t ht => ?_, h.nodup, h.wh⟩
  simp only [D.tl, List.mem_flatMap, List.mem_range] at ht
  obtain ⟨i, hi, ht⟩ := ht
  exact h.rg i hi t ht
theorem own_tup {lo hi n : Nat} {f : Nat → D} (h : OwnN lo hi n f) : Own lo hi (.tup n f) := by
  refine ⟨fun t ht => ?_, h.nodup, h.wh⟩
  simp only [D.tl, List.mem_flatMap, List.mem_range] at ht
  obtain ⟨i, hi, ht⟩ := ht
  exact h.rg i hi t ht
theorem own_sl {lo hi t n sz : Nat} {f : Nat → D} (h : OwnN lo hi n f) (h1 : lo ≤ t) (h2 : t < hi) (h3 : ∀ i, i < n → t ∉ (f i).tl) : Own lo hi (.sl t true n sz f) := by
  refine ⟨fun x hx => ?_, ?_, rfl, h.wh⟩
  · simp only [D.tl, List.mem_cons, List.mem_flatMap, List.mem_range] at hx
    rcases hx with rfl | ⟨i, hi, hx⟩
    · exact ⟨h1, h2⟩
    · exact h.rg i hi x hx
  · simp only [D.tl]
    refine List.nodup_cons.2 ⟨fun hx => ?_, h.nodup⟩
    simp only [List.mem_flatMap, List.mem_range] at hx
    obtain ⟨i, hi, hx⟩ := hx
    exact h3 i hi hx
theorem Own.node {lo hi : Nat} {k : Kd} {f : Nat → D} (h : Own lo hi (.node k f)) : OwnN lo hi k.cnt f := OwnN.of_nodup h.rg h.nd h.wh
theorem Own.tup {lo hi n : Nat} {f : Nat → D} (h : Own lo hi (.tup n f)) : OwnN lo hi n f := OwnN.of_nodup h.rg h.nd h.wh
theorem Own.sl {lo hi t n sz : Nat} {zb : Bool} {f : Nat → D} (h : Own lo hi (.sl t zb n sz f)) : OwnN lo hi n f ∧ lo ≤ t ∧ t < hi ∧ zb = true ∧ ∀ i, i < n → t ∉ (f i).tl := by
  have h1 := List.nodup_cons.1 h.nd
  refine ⟨OwnN.of_nodup (fun x hx => h.rg x (List.mem_cons_of_mem _ hx)) h1.2 h.wh.2, (h.rg t List.mem_cons_self).1, (h.rg t List.mem_cons_self).2, h.wh.1, fun i hi hx => h1.1 ?_⟩
  simp only [List.mem_flatMap, List.mem_range]
  exact ⟨i, hi, hx⟩

theorem ownN_zero (lo hi : Nat) (f : Nat → D) : OwnN lo hi 0 f := ⟨fun i hi => absurd hi (by omega), fun i hi => absurd hi (by omega), fun i j _ hj => absurd hj (by omega), fun i hi => absurd hi (by omega)⟩
/-- one child more, whose blocks are newer -/
theorem OwnN.snoc {lo mid hi n : Nat} {f g : Nat → D} (h : OwnN lo mid n f) (h1 : Own mid hi (g n)) (h2 : lo ≤ mid) (h3 : mid ≤ hi) (hfg : ∀ i, i < n → g i = f i) : OwnN lo hi (n + 1) g := by
  refine ⟨fun i hi t ht => ?_, fun i hi => ?_, fun i j hij hj t ht ht' => ?_, fun i hi => ?_⟩
  · by_cases hn : i < n
    · rw [hfg i hn] at ht
      have := h.rg i hn t ht; omega
    · obtain rfl : i = n := by omega
      have := h1.rg t ht; omega
  · by_cases hn : i < n
    · rw [hfg i hn]; exact h.nd i hn
    · obtain rfl : i = n := by omega
      exact h1.nd
  · by_cases hn : j < n
    · rw [hfg i (by omega)] at ht
      rw [hfg j hn] at ht'
      exact h.dj i j hij hn t ht ht'
    · obtain rfl : j = n := by omega
      rw [hfg i (by omega)] at ht
      have h4 := h.rg i (by omega) t ht
      have h5 := h1.rg t ht'
      omega
  · by_cases hn : i < n
    · rw [hfg i hn]; exact h.wh i hn
    · obtain rfl : i = n := by omega
      exact h1.wh
/-- children without blocks -/
theorem ownN_plain {lo hi n : Nat} {f : Nat → D} (h : ∀ i, i < n → (f i).tl = [] ∧ (f i).whole) : OwnN lo hi n f :=
  ⟨fun i hi t ht => by rw [(h i hi).1] at ht; simp at ht, fun i hi => by rw [(h i hi).1]; simp, fun i j hij hj t ht => by rw [(h i (by omega)).1] at ht; simp at ht, fun i hi => (h i hi).2⟩

/-- data: what holds no handle -/
def D.data : D → Prop
  | .lit _ => True
  | .nil => True
  | .sl _ _ n _ f => ∀ i, i < n → (f i).data
  | .node k f => ∀ i, i < k.cnt → (f i).data
  | .tup n f => ∀ i, i < n → (f i).data
  | .any => True
  | _ => False

theorem tags_of_tl {p : Nat → Prop} {d : D} : d.data → (∀ t ∈ d.tl, p t) → d.tags p := by
  induction d with
  | lit v => intro _ _; trivial
  | nil => intro _ _; trivial
  | any => intro _ _; trivial
  | sl t zb n sz f ih =>
    intro hd h
    refine ⟨h t (by simp [D.tl]), fun i hi => ih i (hd i hi) fun x hx => h x ?_⟩
    simp only [D.tl, List.mem_cons, List.mem_flatMap, List.mem_range]
    exact .inr ⟨i, hi, hx⟩
  | node k f ih =>
    intro hd h i hi
    refine ih i (hd i hi) fun x hx => h x ?_
    simp only [D.tl, List.mem_flatMap, List.mem_range]
    exact ⟨i, hi, hx⟩
  | tup n f ih =>
    intro hd h i hi
    refine ih i (hd i hi) fun x hx => h x ?_
    simp only [D.tl, List.mem_flatMap, List.mem_range]
    exact ⟨i, hi, hx⟩
  | _ => intro hd; exact hd.elim

theorem whole_data {d : D} : d.whole → d.data := by
  induction d with
  | sl t zb n sz f ih => intro h i hi; exact ih i (h.2 i hi)
  | node k f ih => intro h i hi; exact ih i (h i hi)
  | tup n f ih => intro h i hi; exact ih i (h i hi)
  | lit v => intro _; trivial
  | nil => intro _; trivial
  | _ => intro h; exact h.elim

theorem Own.tags {lo hi : Nat} {d : D} (h : Own lo hi d) : d.tags (lo ≤ ·) := tags_of_tl (whole_data h.wh) fun t ht => (h.rg t ht).1

end Go.Proofs.Ytjaddgkhlmallaa.IM
