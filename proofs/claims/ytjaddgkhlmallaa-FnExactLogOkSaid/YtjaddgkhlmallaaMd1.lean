/- The mathematics of the document's first chapters: numbers in bytes, sums, frames, objects, pages, records, logs, pools. Plain definitions; nothing of Go is in it. -/
namespace Go.Proofs.Ytjaddgkhlmallaa.Md

structure Obj where
  kind : Int
  ints : List Int
  refs : List Int
structure Slot where
  has : Bool
  o : Obj
structure Page where
  lsn : Int
  slots : List Slot
structure Live where
  tx : Int
  last : Int
  aborts : Bool
structure Rec where
  lsn : Int
  tx : Int
  prev : Int
  kind : Int
  oid : Int
  before : Slot
  after : Slot
  next : Int
  txs : List Live
structure Log where
  recs : List Rec
  sure : Int
structure Seat where
  no : Int
  p : Page
  dirty : Bool
  hot : Bool
structure Pool where
  seats : List Seat
  hand : Int
structure Hold where
  tx : Int
  oid : Int
structure Engine where
  disk : List Page
  pool : Pool
  log : Log
  txs : List Live
  holds : List Hold
  next : Int
  down : Bool

def inB (n lo hi : Int) : Bool := decide (lo ≤ n) && decide (n ≤ hi)

/-- the first i are (not) such -/
def AllB {α : Type} (p : α → Bool) (xs : List α) (i : Nat) (b : Bool) : Prop := ∀ j (_ : j < i) (hj : j < xs.length), p xs[j] = b
theorem allB_zero {α : Type} (p : α → Bool) (xs : List α) (b : Bool) : AllB p xs 0 b := fun j h => absurd h (by omega)
theorem AllB.succ {α : Type} {p : α → Bool} {xs : List α} {i : Nat} {b : Bool} (h : AllB p xs i b) (hi : i < xs.length) (hp : p xs[i] = b) : AllB p xs (i + 1) b := by
  intro j hj hj'
  by_cases h1 : j < i
  · exact h j h1 hj'
  · obtain rfl : j = i := by omega
    exact hp
theorem AllB.all {α : Type} {p : α → Bool} {xs : List α} {i : Nat} (h : AllB p xs i true) (hi : ¬ i < xs.length) : xs.all p = true := by
  rw [List.all_eq_true]
  intro x hx
  obtain ⟨j, hj, rfl⟩ := List.getElem_of_mem hx
  exact h j (by omega) hj
theorem not_all {α : Type} {p : α → Bool} {xs : List α} {i : Nat} (hi : i < xs.length) (hp : p xs[i] = false) : xs.all p = false := by
  rw [List.all_eq_false]; exact ⟨_, List.getElem_mem hi, by simp [hp]⟩
theorem AllB.noneOf {α : Type} {p : α → Bool} {xs : List α} {i : Nat} (h : AllB p xs i false) (hi : ¬ i < xs.length) : xs.any p = false := by
  rw [List.any_eq_false]
  intro x hx
  obtain ⟨j, hj, rfl⟩ := List.getElem_of_mem hx
  simp [h j (by omega) hj]
theorem any_at {α : Type} {p : α → Bool} {xs : List α} {i : Nat} (hi : i < xs.length) (hp : p xs[i] = true) : xs.any p = true := List.any_eq_true.2 ⟨_, List.getElem_mem hi, hp⟩

/-- the place of the first that is such; -1: none -/
def idx {α : Type} (pr : α → Bool) (xs : List α) : Int := match xs.findIdx? pr with | some i => (i : Int) | none => -1
theorem AllB.noIdx {α : Type} {pr : α → Bool} {xs : List α} {i : Nat} (h : AllB pr xs i false) (hi : ¬ i < xs.length) : idx pr xs = -1 := by
  unfold Md.idx
  have : xs.findIdx? pr = none := by
    rw [List.findIdx?_eq_none_iff]
    intro x hx
    obtain ⟨j, hj, rfl⟩ := List.getElem_of_mem hx
    exact h j (by omega) hj
  rw [this]
theorem idx_none {α : Type} {pr : α → Bool} {xs : List α} (h : ∀ j (hj : j < xs.length), pr xs[j] = false) : idx pr xs = -1 := by
  unfold idx
  have : xs.findIdx? pr = none := by
    rw [List.findIdx?_eq_none_iff]
    intro x hx
    obtain ⟨j, hj, rfl⟩ := List.getElem_of_mem hx
    exact h j hj
  rw [this]
theorem idx_at {α : Type} {pr : α → Bool} {xs : List α} {i : Nat} (hi : i < xs.length) (h : pr xs[i] = true) (hall : ∀ j, j < i → ∀ (hj : j < xs.length), pr xs[j] = false) : idx pr xs = i := by
  unfold idx
  have : xs.findIdx? pr = some i := by
    rw [List.findIdx?_eq_some_iff_getElem]
    exact ⟨hi, h, fun j hj => by simpa using hall j hj (by omega)⟩
  rw [this]

theorem idx_any {α : Type} {pr : α → Bool} {xs : List α} : decide (0 ≤ idx pr xs) = xs.any pr := by
  unfold idx
  cases h : xs.findIdx? pr with
  | none =>
    rw [List.findIdx?_eq_none_iff] at h
    have : xs.any pr = false := by rw [List.any_eq_false]; intro x hx; simp [h x hx]
    simp [this]
  | some i =>
    rw [List.findIdx?_eq_some_iff_getElem] at h
    obtain ⟨hi, h1, _⟩ := h
    have : xs.any pr = true := List.any_eq_true.2 ⟨_, List.getElem_mem hi, h1⟩
    simp [this]

/-! ### sizes -/
def szObj (o : Obj) : Nat := o.ints.length + o.refs.length
def szSlot (s : Slot) : Nat := szObj s.o
def sumBy {α : Type} (f : α → Nat) (l : List α) : Nat := (l.map f).sum
def szPage (p : Page) : Nat := sumBy szSlot p.slots
def szRec (r : Rec) : Nat := szSlot r.before + szSlot r.after + r.txs.length
def szRecs (l : List Rec) : Nat := l.length + sumBy szRec l
def szLog (l : Log) : Nat := szRecs l.recs
def szSeat (s : Seat) : Nat := szPage s.p
def szSeats (l : List Seat) : Nat := l.length + sumBy szSeat l
def szPool (p : Pool) : Nat := szSeats p.seats
def szEngine (e : Engine) : Nat := sumBy szPage e.disk + szPool e.pool + szLog e.log + e.txs.length + e.holds.length
/-- what is left of a bound; -1: it is passed -/
def szR (n : Nat) (left : Int) : Int := if (n : Int) ≤ left then left - n else -1
theorem szR_add (a b : Nat) (left : Int) (h0 : 0 ≤ left) : (if szR a left < 0 then -1 else szR b (szR a left)) = szR (a + b) left := by
  unfold szR
  by_cases h1 : (a : Int) ≤ left
  · rw [if_pos h1, if_neg (by omega)]
    by_cases h2 : (b : Int) ≤ left - a
    · rw [if_pos h2, if_pos (by omega)]; omega
    · rw [if_neg h2, if_neg (by omega)]
  · rw [if_neg h1, if_pos (by omega), if_neg (by omega)]
theorem szR_add2 (a b : Nat) (left : Int) (h0 : 0 ≤ left) (h : ¬ szR a left < 0) : szR b (szR a left) = szR (a + b) left := by
  rw [← szR_add a b left h0, if_neg h]
theorem szR_zero (left : Int) (h0 : 0 ≤ left) : szR 0 left = left := by unfold szR; rw [if_pos (by omega)]; omega
theorem szR_le (n : Nat) (left : Int) (h : ¬ szR n left < 0) : (n : Int) ≤ left := by
  unfold szR at h
  split at h
  · assumption
  · omega
theorem szR_rg (n : Nat) (left : Int) (h0 : 0 ≤ left) (h : left ≤ 1048576) (h' : ¬ szR n left < 0) : 0 ≤ szR n left ∧ szR n left ≤ 1048576 := by
  unfold szR at *
  split at h' <;> omega
theorem sumBy_take {α : Type} (f : α → Nat) (l : List α) (i : Nat) (h : i < l.length) : sumBy f (l.take (i + 1)) = sumBy f (l.take i) + f l[i] := by
  unfold sumBy
  rw [List.take_succ_eq_append_getElem h, List.map_append, List.sum_append]
  simp
theorem sumBy_all {α : Type} (f : α → Nat) (l : List α) (i : Nat) (h : ¬ i < l.length) : sumBy f (l.take i) = sumBy f l := by
  rw [List.take_of_length_le (by omega)]
theorem sumBy_le {α : Type} (f : α → Nat) (l : List α) (i : Nat) : sumBy f (l.take i) ≤ sumBy f l := by
  have h := List.take_append_drop i l
  unfold sumBy
  have : ((l.take i ++ l.drop i).map f).sum = ((l.take i).map f).sum + ((l.drop i).map f).sum := by rw [List.map_append, List.sum_append]
  rw [h] at this
  omega
theorem sumBy_mem {α : Type} (f : α → Nat) (l : List α) (x : α) (h : x ∈ l) : f x ≤ sumBy f l := by
  unfold sumBy
  induction l with
  | nil => cases h
  | cons y l ih =>
    simp only [List.map_cons, List.sum_cons]
    rcases List.mem_cons.1 h with rfl | h
    · omega
    · have := ih h; omega

/-! ### numbers in bytes -/
/-- the groups of a number that is not below 0 -/
def groupsOf : Nat → Nat → List Int
  | 0, m => [(m % 256 : Nat)]
  | k + 1, m => if 127 < m then ((m % 128 + 128 : Nat) : Int) :: groupsOf k (m / 128) else [(m : Int)]
def zig (n : Int) : Nat := if n < 0 then (-2 * n - 1).toNat else (2 * n).toNat
def clampI (n : Int) : Int := max (-1000000000000) (min n 1000000000000)
def intBytes (n : Int) : List Int := groupsOf 9 (zig (clampI n))
def putInt (b : List Int) (n : Int) : List Int := b ++ intBytes n

/-! ### objects -/
def zObj : Obj := ⟨0, [], []⟩
theorem any_not {α : Type} (l : List α) (p : α → Bool) : (l.any fun x => !p x) = !l.all p := by
  rw [List.not_all_eq_any_not]
def intsOk (l : List Int) : Bool := l.all fun n => inB n (-1000000) 1000000
def refsOk (l : List Int) : Bool := l.all fun n => inB n 0 31
theorem any_ints (l : List Int) : (l.any fun n => !inB n (-1000000) 1000000) = !intsOk l := any_not l _
theorem any_refs (l : List Int) : (l.any fun n => !inB n 0 31) = !refsOk l := any_not l _
def objOk (o : Obj) : Bool := inB o.kind 1 99 && decide (o.ints.length ≤ 5) && decide (o.refs.length ≤ 5) && intsOk o.ints && refsOk o.refs
def putInts (b : List Int) (l : List Int) : List Int := l.foldl putInt (putInt b l.length)
def putObj (o : Obj) : List Int := if objOk o then putInts (putInts (putInt [] o.kind) o.ints) o.refs else []

/-! ### slots, pages -/
def zSlot : Slot := ⟨false, zObj⟩
def noObj (o : Obj) : Bool := o.kind == 0 && (o.ints.length : Int) == 0 && (o.refs.length : Int) == 0
def slotOk (s : Slot) : Bool := if s.has then objOk s.o else noObj s.o
def slotsOk (l : List Slot) : Bool := l.all slotOk
theorem any_slots (l : List Slot) : (l.any fun s => !slotOk s) = !slotsOk l := any_not l _
def pageOk (p : Page) : Bool := inB p.lsn 0 1000000 && slotsOk p.slots
def freeSlot (p : Page) : Int := match p.slots.findIdx? (fun s => !s.has) with | some i => i | none => -1
def setSlot (p : Page) (slot : Int) (s : Slot) (lsn : Int) : Page × Bool :=
  if pageOk p && inB slot 0 3 && slotOk s && inB lsn p.lsn 1000000 then (⟨lsn, p.slots.set slot.toNat s⟩, true) else (p, false)

/-! ### records -/
def noSlot (s : Slot) : Bool := !s.has && noObj s.o
def ascending : List Live → Bool
  | x :: y :: l => decide (x.tx < y.tx) && ascending (y :: l)
  | _ => true
def livesOk (l : List Live) (lsn : Int) : Bool := l.all (fun x => inB x.tx 1 1000 && inB x.last 1 (lsn - 1)) && ascending l && decide (l.length ≤ 20)
def recOk (r : Rec) : Bool :=
  inB r.lsn 1 1000000 &&
    if r.kind = 6 then r.tx == 0 && r.prev == 0 && r.oid == 0 && noSlot r.before && noSlot r.after && r.next == 0 && livesOk r.txs r.lsn
    else inB r.tx 1 1000 && inB r.prev 0 (r.lsn - 1) && r.txs.isEmpty &&
      if r.kind = 1 then inB r.oid 1 31 && slotOk r.before && slotOk r.after && r.next == 0
      else if r.kind = 4 then inB r.oid 1 31 && noSlot r.before && slotOk r.after && inB r.next 0 (r.lsn - 1)
      else (r.kind == 2 || r.kind == 3 || r.kind == 5) && r.oid == 0 && noSlot r.before && noSlot r.after && r.next == 0
def zRec : Rec := ⟨0, 0, 0, 0, 0, zSlot, zSlot, 0, []⟩
def changes (r : Rec) : Bool := r.kind == 1 || r.kind == 4
def redo (p : Page) (r : Rec) : Page × Bool :=
  if pageOk p && recOk r && changes r && decide (p.lsn < r.lsn) then (⟨r.lsn, p.slots.set (r.oid % 4).toNat r.after⟩, true) else (p, false)
def undoRec (r : Rec) (lsn prev : Int) : Rec := ⟨lsn, r.tx, prev, 4, r.oid, zSlot, r.before, r.prev, []⟩
def undoOf (r : Rec) (lsn prev : Int) : Rec := if r.kind == 1 && recOk r && recOk (undoRec r lsn prev) then undoRec r lsn prev else zRec

/-! ### logs -/
def logOk (l : Log) : Bool := l.recs.zipIdx.all (fun x => x.1.lsn == (x.2 : Int) + 1 && recOk x.1) && decide (l.recs.length ≤ 4000) && inB l.sure 0 l.recs.length
def chain (l : Log) (tx : Int) : List Int := ((l.recs.filter fun r => r.tx == tx && r.kind != 6).map (·.lsn)).reverse

/-! ### pools -/
def seated (p : Pool) (no : Int) : Int := match p.seats.findIdx? (fun s => s.no == no) with | some i => i | none => -1
def distinctNos : List Int → Bool
  | [] => true
  | x :: l => !l.contains x && distinctNos l
def poolOk (p : Pool) : Bool := p.seats.all (fun s => inB s.no 0 7 && pageOk s.p) && distinctNos (p.seats.map (·.no)) && decide (p.seats.length ≤ 3) && inB p.hand 0 2

end Go.Proofs.Ytjaddgkhlmallaa.Md
