/- Several of my texts in one module (merge.py, shake.py). -/
import Derived.Test.YtncinhlaabdlaaaGreatFlB12
import Derived.Test.YtncinhlaabdlaaaGreatFlB13
import Derived.Test.YtncinhlaabdlaaaGreatFlB30
import Derived.Test.YtncinhlaabdlaaaGreatFlB7
import Derived.Test.YtncinhlaabdlaaaGreatFlB54
import Derived.Test.YtncinhlaabdlaaaGreatFlB5
import Derived.Test.YtncinhlaabdlaaaGreatFlB6
import Derived.Test.YtncinhlaabdlaaaGreatFlB44
import Derived.Test.YtncinhlaabdlaaaGreatFlB31
section
namespace Go.Proofs.YtncinhlaabdlaaaGreat.IM
open Go Go.Proofs
set_option linter.unusedVariables false
set_option linter.unusedSimpArgs false
set_option maxHeartbeats 2000000
set_option maxRecDepth 20000
@[go_sem] theorem labB_1001 (R : Roots) (g : Nat) : labB R 1001 g = labView R 1001 g := if_neg (by decide)
def zPage : Md.Page := ⟨0, [Md.zSlot, Md.zSlot, Md.zSlot, Md.zSlot]⟩
def zSeat : Md.Seat := ⟨0, zPage, false, false⟩
theorem distinct_iff : ∀ l : List Int, Md.distinctNos l = true ↔ l.Nodup
  | [] => by simp [Md.distinctNos]
  | a :: l => by simp [Md.distinctNos, distinct_iff l]
def sureL (l : Md.Log) (n : Int) : Md.Log := ⟨l.recs, max l.sure (min n l.recs.length)⟩
def sureE (x : Md.Engine) (n : Int) : Md.Engine := { x with log := sureL x.log n }
def writeE (x : Md.Engine) (s : Md.Seat) : Md.Engine := { x with log := sureL x.log s.p.lsn, disk := x.disk.set s.no.toNat s.p }
def seatAt (x : Md.Engine) (no : Int) : Md.Seat := x.pool.seats.getD (Md.seated x.pool no).toNat zSeat
theorem poolOk_iff {x : Md.Pool} : Md.poolOk x = true ↔ x.seats.length ≤ 3 ∧ 0 ≤ x.hand ∧ x.hand ≤ 2 ∧ (∀ i (h : i < x.seats.length), 0 ≤ x.seats[i].no ∧ x.seats[i].no ≤ 7 ∧ Md.pageOk x.seats[i].p = true) ∧
    ∀ i j (hi : i < x.seats.length) (hj : j < x.seats.length), x.seats[i].no = x.seats[j].no → i = j := by
  unfold Md.poolOk
  simp only [Bool.and_eq_true, decide_eq_true_eq, List.all_eq_true, distinct_iff, inB_iff]
  constructor
  · rintro ⟨⟨⟨h1, h2⟩, h3⟩, h4, h5⟩
    refine ⟨h3, h4, h5, fun i hi => ?_, fun i j hi hj he => ?_⟩
    · have := h1 _ (List.getElem_mem hi)
      exact ⟨this.1.1, this.1.2, this.2⟩
    · have hp2 := List.pairwise_iff_getElem.1 h2
      rcases Nat.lt_trichotomy i j with h4 | h4 | h4
      · exact absurd (by rw [List.getElem_map, List.getElem_map]; exact he) (hp2 i j (by simpa using hi) (by simpa using hj) h4)
      · exact h4
      · exact absurd (by rw [List.getElem_map, List.getElem_map]; exact he.symm) (hp2 j i (by simpa using hj) (by simpa using hi) h4)
  · rintro ⟨h3, h4, h5, h1, h2⟩
    refine ⟨⟨⟨fun s hs => ?_, ?_⟩, h3⟩, h4, h5⟩
    · obtain ⟨i, hi, rfl⟩ := List.getElem_of_mem hs
      have := h1 i hi
      exact ⟨⟨this.1, this.2.1⟩, this.2.2⟩
    · refine List.pairwise_iff_getElem.2 fun i j hi hj hij he => ?_
      rw [List.getElem_map, List.getElem_map] at he
      have := h2 i j (by simpa using hi) (by simpa using hj) he
      omega
theorem seated_spec {x : Md.Pool} {no : Int} (h : 0 ≤ Md.seated x no) : ∃ (hk : (Md.seated x no).toNat < x.seats.length), x.seats[(Md.seated x no).toNat].no = no := by
  have key : ∃ i, ∃ hi : i < x.seats.length, Md.seated x no = (i : Int) ∧ x.seats[i].no = no := by
    unfold Md.seated at *
    cases e : x.seats.findIdx? (fun s => s.no == no) with
    | none => rw [e] at h; exact absurd h (by decide)
    | some i =>
      obtain ⟨hi, h1, _⟩ := List.findIdx?_eq_some_iff_getElem.1 e
      exact ⟨i, hi, rfl, by simpa using h1⟩
  obtain ⟨i, hi, e, h1⟩ := key
  have e2 : (Md.seated x no).toNat = i := by omega
  refine ⟨by omega, ?_⟩
  simp only [e2]; exact h1
structure FOk (n : Int) (x : Md.Engine) : Prop where
  pool : Md.poolOk x.pool = true
  dl : x.disk.length = 8
  dok : ∀ i (h : i < x.disk.length), Md.pageOk x.disk[i] = true ∧ x.disk[i].lsn ≤ n
  pl : ∀ i (h : i < x.pool.seats.length), x.pool.seats[i].p.lsn ≤ n
theorem FOk.mono {n m : Int} {x : Md.Engine} (h : FOk n x) (hm : n ≤ m) : FOk m x := ⟨h.pool, h.dl, fun i hi => ⟨(h.dok i hi).1, by have := (h.dok i hi).2; omega⟩, fun i hi => by have := h.pl i hi; omega⟩
abbrev engK : Kd := .agg [136, 2, 2, 1, 1, 1, 1]
structure EngF (q : Nat → D) (x : Md.Engine) : Prop where
  st : ∀ i, (q i).still
  q0 : IsA 8 17 IsPage (q 0) x.disk
  q1 : IsPool (q 1) x.pool
  q2 : IsLog (q 2) x.log
  q3 : IsL 3 IsLive (q 3) x.txs
  q4 : IsL 2 IsHold (q 4) x.holds
  q5 : q 5 = .lit (.int .i64 x.next)
  q6 : q 6 = .lit (.bool x.down)
theorem EngF.is {q : Nat → D} {x : Md.Engine} (h : EngF q x) : IsEngine (.node engK q) x := ⟨q, rfl, h.st, h.q0, h.q1, h.q2, h.q3, h.q4, h.q5, h.q6⟩
theorem IsEngine.node {d : D} {x : Md.Engine} (h : IsEngine d x) : ∃ q, d = .node engK q ∧ EngF q x := by
  obtain ⟨q, rfl, hq, q0, q1, q2, q3, q4, q5, q6⟩ := h
  exact ⟨q, rfl, hq, q0, q1, q2, q3, q4, q5, q6⟩
section
variable {q : Nat → D} {x : Md.Engine} {r : D}
theorem EngF.disk (h : EngF q x) {l : List Md.Page} (hr : IsA 8 17 IsPage r l) : EngF (upd q 0 r) { x with disk := l } :=
  ⟨still_upd h.st hr.still, by rw [upd_same]; exact hr, by rw [upd_ne _ _ (by decide)]; exact h.q1, by rw [upd_ne _ _ (by decide)]; exact h.q2, by rw [upd_ne _ _ (by decide)]; exact h.q3, by rw [upd_ne _ _ (by decide)]; exact h.q4, by rw [upd_ne _ _ (by decide)]; exact h.q5, by rw [upd_ne _ _ (by decide)]; exact h.q6⟩
theorem EngF.pool (h : EngF q x) {l : Md.Pool} (hr : IsPool r l) : EngF (upd q 1 r) { x with pool := l } :=
  ⟨still_upd h.st hr.still, by rw [upd_ne _ _ (by decide)]; exact h.q0, by rw [upd_same]; exact hr, by rw [upd_ne _ _ (by decide)]; exact h.q2, by rw [upd_ne _ _ (by decide)]; exact h.q3, by rw [upd_ne _ _ (by decide)]; exact h.q4, by rw [upd_ne _ _ (by decide)]; exact h.q5, by rw [upd_ne _ _ (by decide)]; exact h.q6⟩
theorem EngF.log (h : EngF q x) {l : Md.Log} (hr : IsLog r l) : EngF (upd q 2 r) { x with log := l } :=
  ⟨still_upd h.st hr.still, by rw [upd_ne _ _ (by decide)]; exact h.q0, by rw [upd_ne _ _ (by decide)]; exact h.q1, by rw [upd_same]; exact hr, by rw [upd_ne _ _ (by decide)]; exact h.q3, by rw [upd_ne _ _ (by decide)]; exact h.q4, by rw [upd_ne _ _ (by decide)]; exact h.q5, by rw [upd_ne _ _ (by decide)]; exact h.q6⟩
theorem EngF.txs (h : EngF q x) {l : List Md.Live} (hr : IsL 3 IsLive r l) : EngF (upd q 3 r) { x with txs := l } :=
  ⟨still_upd h.st hr.still, by rw [upd_ne _ _ (by decide)]; exact h.q0, by rw [upd_ne _ _ (by decide)]; exact h.q1, by rw [upd_ne _ _ (by decide)]; exact h.q2, by rw [upd_same]; exact hr, by rw [upd_ne _ _ (by decide)]; exact h.q4, by rw [upd_ne _ _ (by decide)]; exact h.q5, by rw [upd_ne _ _ (by decide)]; exact h.q6⟩
theorem EngF.holds (h : EngF q x) {l : List Md.Hold} (hr : IsL 2 IsHold r l) : EngF (upd q 4 r) { x with holds := l } :=
  ⟨still_upd h.st hr.still, by rw [upd_ne _ _ (by decide)]; exact h.q0, by rw [upd_ne _ _ (by decide)]; exact h.q1, by rw [upd_ne _ _ (by decide)]; exact h.q2, by rw [upd_ne _ _ (by decide)]; exact h.q3, by rw [upd_same]; exact hr, by rw [upd_ne _ _ (by decide)]; exact h.q5, by rw [upd_ne _ _ (by decide)]; exact h.q6⟩
theorem EngF.next (h : EngF q x) {l : Int} (hr : r = .lit (.int .i64 l)) : EngF (upd q 5 r) { x with next := l } :=
  ⟨still_upd h.st (by rw [hr]; trivial), by rw [upd_ne _ _ (by decide)]; exact h.q0, by rw [upd_ne _ _ (by decide)]; exact h.q1, by rw [upd_ne _ _ (by decide)]; exact h.q2, by rw [upd_ne _ _ (by decide)]; exact h.q3, by rw [upd_ne _ _ (by decide)]; exact h.q4, by rw [upd_same]; exact hr, by rw [upd_ne _ _ (by decide)]; exact h.q6⟩
theorem EngF.down (h : EngF q x) {l : Bool} (hr : r = .lit (.bool l)) : EngF (upd q 6 r) { x with down := l } :=
  ⟨still_upd h.st (by rw [hr]; trivial), by rw [upd_ne _ _ (by decide)]; exact h.q0, by rw [upd_ne _ _ (by decide)]; exact h.q1, by rw [upd_ne _ _ (by decide)]; exact h.q2, by rw [upd_ne _ _ (by decide)]; exact h.q3, by rw [upd_ne _ _ (by decide)]; exact h.q4, by rw [upd_ne _ _ (by decide)]; exact h.q5, by rw [upd_same]; exact hr⟩
end
theorem rlsK_upd (k : Nat) (F : Relab) (f : Nat → D) (j : Nat) (x : D) : (fun i => rl k F (upd f j x i)) = upd (fun i => rl k F (f i)) j (rl k F x) := by
  funext i
  by_cases h : i = j
  · subst h; rw [upd_same, upd_same]
  · rw [upd_ne _ _ h, upd_ne _ _ h]
section
variable {q : Nat → D} {x : Md.Engine} (h : EngF q x)
include h
theorem EngF.all : (q 0).size = 136 ∧ (q 0).plain ∧ (q 0).isNode = some true ∧ (q 1).size = 2 ∧ (q 1).plain ∧ (q 1).isNode = some true ∧ (q 2).size = 2 ∧ (q 2).plain ∧ (q 2).isNode = some true ∧
    (q 3).size = 1 ∧ (q 3).plain ∧ (q 3).isNode = some false ∧ (∀ P T, lenT P T (q 3) = if (telem P T).isSome = true then some x.txs.length else none) ∧
    (q 4).size = 1 ∧ (q 4).plain ∧ (q 4).isNode = some false ∧ (∀ P T, lenT P T (q 4) = if (telem P T).isSome = true then some x.holds.length else none) ∧ q 5 = .lit (.int .i64 x.next) ∧ q 6 = .lit (.bool x.down) :=
  ⟨h.q0.size, h.q0.plain, h.q0.isNode, (shp_pool _ _ h.q1).1, (shp_pool _ _ h.q1).2.2.1, (shp_pool _ _ h.q1).2.1, (shp_log _ _ h.q2).1, (shp_log _ _ h.q2).2.2.1, (shp_log _ _ h.q2).2.1,
    h.q3.size, h.q3.plain, h.q3.isNode, h.q3.lenT, h.q4.size, h.q4.plain, h.q4.isNode, h.q4.lenT, h.q5, h.q6⟩
end
structure Eng (lo hi m : Nat) (d d' : D) (x : Md.Engine) : Prop where
  is : IsEngine d' x
  put : Put lo hi m d d'
theorem Put.tags {lo hi m : Nat} {d d' : D} (h : Put lo hi m d d') : d'.tags (fun b => b ∈ d.tl ∨ m ≤ b) := tags_of_tl (whole_data h.own.wh) h.sub
theorem Put.mono {lo lo' hi hi' m m' : Nat} {d d' : D} (h : Put lo hi m d d') (h1 : lo' ≤ lo) (h2 : hi ≤ hi') (h3 : m' ≤ m) : Put lo' hi' m' d d' := ⟨h.own.mono h1 h2, fun t ht => (h.sub t ht).imp id fun h => Nat.le_trans h3 h⟩
theorem Put.of {lo hi m : Nat} {d d' : D} (ho : Own lo hi d') (ht : d'.tags (fun b => b ∈ d.tl ∨ m ≤ b)) : Put lo hi m d d' := ⟨ho, tl_of_tags (whole_data ho.wh) ht⟩
theorem Eng.fin {Q : Nat → Nat → D → D → Prop} {lo hi m : Nat} {d d' r : D} {x : Md.Engine} (h : Eng lo hi m d d' x) (hq : Q m hi d' r) (hr : r.tags (fun b => b ∈ d.tl ∨ m ≤ b)) : BEnd Q d m hi d' r :=
  ⟨hq, (shp_engine _ _ h.is).2.2.1, h.put.tags, hr⟩
theorem Own.rep0 {lo hi : Nat} {k : Kd} {q : Nat → D} {i : Nat} {r : D} (h : Own lo hi (.node k q)) (hi' : i < k.cnt) (hr : r.tl = []) (hw : r.whole) : Own lo hi (.node k (upd q i r)) :=
  (Put.node (m := hi) h hi' ⟨⟨fun t ht => by rw [hr] at ht; simp at ht, by rw [hr]; simp, hw⟩, fun t ht => by rw [hr] at ht; simp at ht⟩ (Nat.le_refl _) (Nat.le_refl _)).own
theorem Put.step {lo hi m a b i : Nat} {d r : D} {k : Kd} {f : Nat → D} (P : Put lo hi m d (.node k f)) (hi' : i < k.cnt) (hr : Own a b r) (h1 : hi ≤ a) (h2 : hi ≤ b) (h3 : lo ≤ a) (h4 : m ≤ a) : Put lo b m d (.node k (upd f i r)) :=
  P.trans (Put.node P.own hi' (Put.new (d := f i) hr h3) h1 h2) h4
def zPoolD : D := .node (.agg [1, 1]) (nthD [.nil, .lit (.int .i64 0)])
theorem wh_zPool : zPoolD.whole := fun i hi => by
  have hi' : i < 2 := hi
  match i, hi' with
  | 0, _ => trivial
  | 1, _ => trivial
end Go.Proofs.YtncinhlaabdlaaaGreat.IM
end
