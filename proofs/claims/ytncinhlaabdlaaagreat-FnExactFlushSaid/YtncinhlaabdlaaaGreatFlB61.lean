/- Several of my texts in one module (merge.py, shake.py). -/
import Derived.Test.YtncinhlaabdlaaaGreatFlB57
import Derived.Test.YtncinhlaabdlaaaGreatFlB54
import Derived.Test.YtncinhlaabdlaaaGreatFlB30
import Derived.Test.YtncinhlaabdlaaaGreatFlA6
import Derived.Test.YtncinhlaabdlaaaGreatFlB12
import Derived.Test.YtncinhlaabdlaaaGreatFlB59
import Derived.Test.YtncinhlaabdlaaaGreatFlB7
section
namespace Go.Proofs.YtncinhlaabdlaaaGreat.IM
open Go Go.Proofs
set_option linter.unusedVariables false
set_option linter.unusedSimpArgs false
set_option maxHeartbeats 2000000
set_option maxRecDepth 20000
theorem Fill.wide {α : Type} {R : D → α → Prop} {sz lo lo' hi hi' : Nat} {xs : List α} {n i : Nat} {f : Nat → D} (h : Fill R sz lo hi xs n i f) (h1 : lo' ≤ lo) (h2 : hi ≤ hi') : Fill R sz lo' hi' xs n i f := ⟨h.st, h.sh, h.ok, h.own.mono h1 h2⟩
theorem szObj_ok {o : Md.Obj} (h : Md.objOk o = true) : Md.szObj o ≤ 10 := by
  simp only [Md.objOk, Bool.and_eq_true, decide_eq_true_eq] at h
  unfold Md.szObj; omega
theorem szSlot_ok {s : Md.Slot} (h : Md.slotOk s = true) : Md.szSlot s ≤ 10 := by
  unfold Md.slotOk at h
  unfold Md.szSlot
  by_cases hs : s.has = true
  · rw [if_pos hs] at h; exact szObj_ok h
  · rw [if_neg hs] at h
    simp only [Md.noObj, Bool.and_eq_true, beq_iff_eq] at h
    unfold Md.szObj; omega
theorem sumBy_bd {α : Type} (f : α → Nat) (B : Nat) : ∀ (l : List α), (∀ s ∈ l, f s ≤ B) → Md.sumBy f l ≤ l.length * B
  | [], _ => by simp [Md.sumBy]
  | a :: l, h => by
    have h1 := h a (by simp)
    have h2 := sumBy_bd f B l fun s hs => h s (by simp [hs])
    have h3 : Md.sumBy f (a :: l) = f a + Md.sumBy f l := by simp [Md.sumBy]
    rw [h3, List.length_cons, Nat.succ_mul]; omega
theorem szPage_ok {d : D} {p : Md.Page} (hd : IsPage d p) (h : Md.pageOk p = true) : Md.szPage p ≤ 40 := by
  obtain ⟨f, _, _, _, h4, _⟩ := hd
  simp only [Md.pageOk, Md.slotsOk, Bool.and_eq_true, List.all_eq_true] at h
  have := sumBy_bd Md.szSlot 10 p.slots fun s hs => szSlot_ok (h.2 s hs)
  rw [h4] at this
  exact this
theorem szPool_ok {d : D} {p : Md.Pool} (hd : IsPool d p) (h : Md.poolOk p = true) : Md.szPool p ≤ 200 := by
  obtain ⟨f, _, _, h4, _⟩ := hd
  have hp := poolOk_iff.1 h
  have := sumBy_bd Md.szSeat 40 p.seats fun s hs => by
    obtain ⟨i, hi, rfl⟩ := List.getElem_of_mem hs
    rcases h4 with ⟨_, hnil⟩ | ⟨_, _, g, _, _, _, hg⟩
    · rw [hnil] at hi; exact absurd hi (by simp)
    · obtain ⟨u, _, _, _, u1, _⟩ := hg i hi
      exact szPage_ok u1 (hp.2.2.2.1 i hi).2.2
  have h5 : p.seats.length * 40 ≤ 3 * 40 := Nat.mul_le_mul_right _ hp.1
  unfold Md.szPool Md.szSeats; omega
theorem EngF.dk {q : Nat → D} {x : Md.Engine} (h : EngF q x) : ∃ fd, q 0 = .node (.arr 8 17) fd ∧ x.disk.length = 8 ∧ (∀ i, (fd i).still) ∧ ∀ i (hi : i < x.disk.length), IsPage (fd i) x.disk[i] := by
  obtain ⟨hl, fd, e, hst, hr⟩ := h.q0
  exact ⟨fd, e, hl, hst, hr⟩
theorem Own.repd {lo hi i : Nat} {k : Kd} {f : Nat → D} {r : D} (h : Own lo hi (.node k f)) (hr : Own lo hi r) (hd : ∀ j, j < k.cnt → j ≠ i → ∀ t ∈ r.tl, t ∉ (f j).tl) : Own lo hi (.node k (upd f i r)) := by
  have hN := h.node
  refine own_node ⟨fun j hj t ht => ?_, fun j hj => ?_, fun a b hab hb t ht ht' => ?_, fun j hj => ?_⟩
  · by_cases e : j = i
    · subst e; rw [upd_same] at ht; exact hr.rg t ht
    · rw [upd_ne _ _ e] at ht; exact hN.rg j hj t ht
  · by_cases e : j = i
    · subst e; rw [upd_same]; exact hr.nd
    · rw [upd_ne _ _ e]; exact hN.nd j hj
  · by_cases e : a = i
    · subst e
      rw [upd_same] at ht; rw [upd_ne _ _ (by omega)] at ht'
      exact hd b hb (by omega) t ht ht'
    · rw [upd_ne _ _ e] at ht
      by_cases e2 : b = i
      · subst e2; rw [upd_same] at ht'; exact hd a (by omega) e t ht' ht
      · rw [upd_ne _ _ e2] at ht'; exact hN.dj a b hab hb t ht ht'
  · by_cases e : j = i
    · subst e; rw [upd_same]; exact hr.wh
    · rw [upd_ne _ _ e]; exact hN.wh j hj
structure SeatV (q qp f w u us : Nat → D) (y : Md.Engine) (no : Int) (t : Nat) (zb : Bool) (K : Nat) : Prop where
  e1 : q 1 = .node (.agg [1, 1]) qp
  eh : qp 1 = .lit (.int .i64 y.pool.hand)
  es : ∀ i, (qp i).still
  e0 : qp 0 = .sl t zb y.pool.seats.length 20 f
  fs : ∀ i, (f i).still
  fl : y.pool.seats.length < 140737488355328
  fr : ∀ i (h : i < y.pool.seats.length), IsSeat (f i) y.pool.seats[i]
  k : Md.seated y.pool no = (K : Int)
  kl : K < y.pool.seats.length
  kli : (K : Int) < y.pool.seats.length
  ek : f K = .node (.agg [1, 17, 1, 1]) w
  at_ : seatAt y no = y.pool.seats[K]
  ws : ∀ i, (w i).still
  w0 : w 0 = .lit (.int .i64 (seatAt y no).no)
  w1 : w 1 = .node (.agg [1, 16]) u
  w2 : w 2 = .lit (.bool (seatAt y no).dirty)
  w3 : w 3 = .lit (.bool (seatAt y no).hot)
  us_ : ∀ i, (u i).still
  u0 : u 0 = .lit (.int .i64 (seatAt y no).p.lsn)
  u1 : u 1 = .node (.arr 4 4) us
  sl4 : (seatAt y no).p.slots.length = 4
  ss : ∀ i, (us i).still
  sr : ∀ i (h : i < (seatAt y no).p.slots.length), IsSlot (us i) (seatAt y no).p.slots[i]
  pg : IsPage (w 1) (seatAt y no).p
theorem eng_seat {q : Nat → D} {y : Md.Engine} {no : Int} (h : EngF q y) (hs : 0 ≤ Md.seated y.pool no) : ∃ qp f w u us t zb K, SeatV q qp f w u us y no t zb K := by
  obtain ⟨qp, e1, es, p0, p1⟩ := id h.q1
  have hlt := seated_lt hs
  obtain ⟨K, hK⟩ := Int.eq_ofNat_of_zero_le hs
  have hKl : K < y.pool.seats.length := by omega
  have hat : seatAt y no = y.pool.seats[K] := by
    unfold seatAt
    rw [show (Md.seated y.pool no).toNat = K by omega]
    exact getD_at hKl
  rcases p0 with ⟨_, hnil⟩ | ⟨t, zb, f, e0, fs, fl, fr⟩
  · rw [hnil] at hKl; exact absurd hKl (by simp)
  obtain ⟨w, ek, ws, w0, w1, w2, w3⟩ := id (fr K hKl)
  obtain ⟨u, eu, us_, u0, u1⟩ := id w1
  obtain ⟨sl4, us, eus, ss, sr⟩ := id u1
  rw [← hat] at w0 w1 w2 w3 u0 sl4
  exact ⟨qp, f, w, u, us, t, zb, K, e1, p1, es, e0, fs, fl, fr, hK, hKl, by omega, ek, hat, ws, w0, eu, w2, w3, us_, u0, eus, sl4, ss, fun i h => by
    have := sr i (by rw [← hat]; exact h)
    simp only [hat]; exact this, w1⟩
end Go.Proofs.YtncinhlaabdlaaaGreat.IM
end
