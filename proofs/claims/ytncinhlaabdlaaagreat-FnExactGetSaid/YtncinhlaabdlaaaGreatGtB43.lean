/- Several of my texts in one module (merge.py, shake.py). -/
import Derived.Test.YtncinhlaabdlaaaGreatGtA5
import Derived.Test.YtncinhlaabdlaaaGreatGtB30
section
namespace Go.Proofs.YtncinhlaabdlaaaGreat.IM
open Go Go.Proofs
set_option linter.unusedVariables false
def allR (n : Nat) (p : Nat → Bool) : Bool := (List.range n).all p
theorem allR_true {n : Nat} {p : Nat → Bool} (h : ∀ i, i < n → p i = true) : allR n p = true := List.all_eq_true.2 fun i hi => h i (List.mem_range.1 hi)
theorem allR_false {n i : Nat} {p : Nat → Bool} (hi : i < n) (h : p i = false) : allR n p = false := by
  unfold allR; rw [List.all_eq_false]; exact ⟨i, List.mem_range.2 hi, by simp [h]⟩
theorem allR_iff {n : Nat} {p : Nat → Bool} : allR n p = true ↔ ∀ i, i < n → p i = true := by
  unfold allR; rw [List.all_eq_true]; simp
theorem allR_congr {n : Nat} {p q : Nat → Bool} (h : ∀ i, i < n → p i = q i) : allR n p = allR n q := by
  cases e : allR n q with
  | true => exact allR_true fun i hi => by rw [h i hi]; exact allR_iff.1 e i hi
  | false =>
    cases e2 : allR n p with
    | false => rfl
    | true =>
      have : allR n q = true := allR_true fun i hi => by rw [← h i hi]; exact allR_iff.1 e2 i hi
      rw [this] at e; cases e
def zLive : Md.Live := ⟨0, 0, false⟩
def zHold : Md.Hold := ⟨0, 0⟩
def zPg : Md.Page := ⟨0, List.replicate 4 Md.zSlot⟩
def zSt : Md.Seat := ⟨0, zPg, false, false⟩
theorem getD_at {α : Type} {l : List α} {i : Nat} {z : α} (h : i < l.length) : l.getD i z = l[i] := by simp [List.getD, List.getElem?_eq_getElem h]
def lastGo (rs : List Md.Rec) (tx : Int) : Nat → Nat
  | 0 => 0
  | n + 1 => if (rs.getD n Md.zRec).tx = tx then n + 1 else lastGo rs tx n
def lastN (l : Md.Log) (tx : Int) : Nat := lastGo l.recs tx l.recs.length
theorem lastGo_yes {rs : List Md.Rec} {tx : Int} {n : Nat} (h : n < rs.length) (e : rs[n].tx = tx) : lastGo rs tx (n + 1) = n + 1 := by unfold lastGo; rw [getD_at h, if_pos e]
theorem lastGo_no {rs : List Md.Rec} {tx : Int} {n : Nat} (h : n < rs.length) (e : ¬ rs[n].tx = tx) : lastGo rs tx (n + 1) = lastGo rs tx n := by rw [lastGo, getD_at h, if_neg e]
def liveAt (txs : List Md.Live) (tx : Int) : Int := Md.idx (fun x => x.tx == tx) txs
def holdAt (hs : List Md.Hold) (oid : Int) : Int := Md.idx (fun x => x.oid == oid) hs
def txStep (e : Md.Engine) (i : Nat) : Bool :=
  Md.inB (e.txs.getD i zLive).tx 1 (e.next - 1) && !(e.txs.getD i zLive).aborts && (e.txs.getD i zLive).last == (lastN e.log (e.txs.getD i zLive).tx : Int) && (decide (i = 0) || decide ((e.txs.getD (i - 1) zLive).tx < (e.txs.getD i zLive).tx))
def holdStep (e : Md.Engine) (i : Nat) : Bool :=
  Md.inB (e.holds.getD i zHold).oid 1 31 && decide (0 ≤ liveAt e.txs (e.holds.getD i zHold).tx) && allR i fun k => !((e.holds.getD k zHold).oid == (e.holds.getD i zHold).oid)
def txsOk (e : Md.Engine) : Bool := allR e.txs.length (txStep e) && allR e.holds.length (holdStep e) && decide (e.txs.length ≤ 6)
def samePg (a b : Md.Page) : Bool := allR 4 (fun i => sameS (a.slots.getD i Md.zSlot) (b.slots.getD i Md.zSlot)) && a.lsn == b.lsn
def seatStep (e : Md.Engine) (i : Nat) : Bool :=
  decide ((e.pool.seats.getD i zSt).p.lsn ≤ e.log.recs.length) && ((e.pool.seats.getD i zSt).dirty || samePg (e.pool.seats.getD i zSt).p (e.disk.getD (e.pool.seats.getD i zSt).no.toNat zPg))
def diskStep (e : Md.Engine) (i : Nat) : Bool := Md.pageOk (e.disk.getD i zPg) && decide ((e.disk.getD i zPg).lsn ≤ e.log.sure)
def downOk (e : Md.Engine) : Bool := !e.down || (decide (e.pool.seats.length = 0) && decide (e.txs.length = 0) && decide (e.holds.length = 0))
def headOk (e : Md.Engine) : Bool := Md.logOk e.log && Md.poolOk e.pool && Md.inB e.next 1 1001
def engineOk (e : Md.Engine) : Bool :=
  headOk e && txsOk e && allR e.log.recs.length (fun i => decide ((e.log.recs.getD i Md.zRec).tx < e.next)) && allR 8 (diskStep e) && allR e.pool.seats.length (seatStep e) && downOk e
set_option linter.unusedSimpArgs false
set_option maxHeartbeats 2000000
set_option maxRecDepth 20000
theorem l7Last_p (d : D) (l : Md.Log) (tx : Int) (h : IsLog d l) (hs : l.recs.length ≤ 1048576) : PCall Tryz.prog 178 [d, .lit (.int .i64 tx)] fun _ _ r => r = .lit (.int .i64 (lastN l tx : Nat)) := by
  have zp := shp_log _ _ h
  obtain ⟨q, rfl, hq, q0, q1⟩ := id h
  refine pcall_intro_v Tryz.func178 rfl (by decide) rfl (by decide) (by rw [Tryz.ntmps178]; simp) fun w0 M n0 => ivc_sound ?_; simp -dsimp only [Tryz.f178, go_sem, zp.1, zp.2.1, zp.2.2.1, q0.size, q0.isNode, q0.plain, q0.lenT]
  intro g2 b2 hb2
  have hw0 : IntKind.i64.wrap ((l.recs.length : Int) - 1) = (l.recs.length : Int) - 1 := by rw [IntKind.wrap_i64]; omega
  rw [hw0]
  refine iwp_forK l.recs.length [1, 2] (fun i s => s 5 = .lit (.int .i64 ((l.recs.length : Int) - 1 - i)) ∧ lastN l tx = lastGo l.recs tx (l.recs.length - i)) 0 (Nat.zero_le _) ⟨by simp -dsimp only [go_sem]; simp, rfl⟩ ?_
  rintro i n' s hi hn hk ⟨h5, hl⟩
  refine ivc_sound ?_
  simp -dsimp only [go_sem] at hk
  by_cases hlt : i < l.recs.length
  · have hge : (0 : Int) ≤ (l.recs.length : Int) - 1 - i := by omega
    have hlt' : l.recs.length - 1 - i < l.recs.length := by omega
    have ei : ((l.recs.length : Int) - 1 - i) = ((l.recs.length - 1 - i : Nat) : Int) := by omega
    have hw1 : IntKind.i64.wrap (((l.recs.length - 1 - i : Nat) : Int) - 1) = (l.recs.length : Int) - 1 - (i + 1 : Nat) := by rw [IntKind.wrap_i64]; omega
    have hw2 : IntKind.i64.wrap (((l.recs.length - 1 - i : Nat) : Int) + 1) = ((l.recs.length - 1 - i + 1 : Nat) : Int) := by rw [IntKind.wrap_i64]; omega
    have e1 : l.recs.length - i = l.recs.length - 1 - i + 1 := by omega
    have e2 : l.recs.length - (i + 1) = l.recs.length - 1 - i := by omega
    rw [ei] at h5 hge
    obtain ⟨t, zb, fr, e0, _, hfr⟩ := q0.sl hlt'
    have hr := hfr _ hlt'
    obtain ⟨qr, e, hqr, r0, r1, r2, r3, r4, r5, r6, r7, r8⟩ := id hr
    have r1 : qr 1 = _ := r1
    by_cases ht : l.recs[l.recs.length - 1 - i].tx = tx
    · have hb : (l.recs[l.recs.length - 1 - i].tx == tx) = true := by simpa using ht
      have hl' : lastN l tx = l.recs.length - 1 - i + 1 := by rw [hl, e1, lastGo_yes hlt' ht]
      simp -dsimp only [go_sem, hk, h5, hge, e0, hlt', e, r1, hb, hw2]
      rw [hl']
    · have hb : (l.recs[l.recs.length - 1 - i].tx == tx) = false := by simpa using ht
      have hl' : lastN l tx = lastGo l.recs tx (l.recs.length - (i + 1)) := by rw [hl, e1, lastGo_no hlt' ht, e2]
      simp -dsimp only [go_sem, hk, h5, hge, e0, hlt', e, r1, hb]
      exact ⟨hlt, into_k (by omega) (by simp -dsimp only [go_sem, hk]) ⟨by simp -dsimp only [go_sem, hw1], hl'⟩⟩
  · have hge : ¬ (0 : Int) ≤ (l.recs.length : Int) - 1 - i := by omega
    have hl' : lastN l tx = 0 := by rw [hl, show l.recs.length - i = 0 by omega]; rfl
    simp -dsimp only [go_sem, hk, h5, hge]
    rw [hl']; rfl
theorem l7Live_p (d : D) (x : Md.Engine) (tx : Int) (h : IsEngine d x) : PCall Tryz.prog 47 [d, .lit (.int .i64 tx)] fun _ _ r => r = .lit (.int .i64 (liveAt x.txs tx)) := by
  have zp := shp_engine _ _ h
  obtain ⟨q, rfl, hq, q0, q1, q2, q3, q4, q5, q6⟩ := id h
  refine pcall_intro_v Tryz.func47 rfl (by decide) rfl (by decide) (by rw [Tryz.ntmps47]; simp) fun w0 M n0 => ivc_sound ?_; simp -dsimp only [Tryz.f47, go_sem, zp.1, zp.2.1, zp.2.2.1, q3.size, q3.isNode, q3.plain, q3.lenT]
  intro g2 b2 hb2
  refine iwp_forK x.txs.length [1, 2] (fun i s => s 5 = .lit (.int .i64 i) ∧ ∀ j (hj : j < i) (hj' : j < x.txs.length), (x.txs[j].tx == tx) = false) 0 (Nat.zero_le _) ⟨by simp -dsimp only [go_sem]; rfl, fun j hj => absurd hj (by omega)⟩ ?_
  rintro i n' s hi hn hk ⟨h5, hall⟩
  refine ivc_sound ?_
  simp -dsimp only [go_sem] at hk
  by_cases hlt : i < x.txs.length
  · obtain ⟨t, zb, fi, hfe, hst', hf'⟩ := q3.sl hlt
    obtain ⟨k, hkk, hks, k0, k1, k2⟩ := hf' i hlt
    have k0 : k 0 = _ := k0
    have hw := i64_succ (i := i) (by have := q3.short; omega)
    have hl0 := q3.lenT
    rw [hfe] at hl0
    simp -dsimp only [go_sem, hk, h5, hlt, hw, hfe, hl0, hkk, k0]
    refine ⟨fun hb => ?_, fun hb => into_k (by omega) (by simp -dsimp only [go_sem, hk, hfe]) ⟨by simp -dsimp only [go_sem], fun j hj hj' => ?_⟩⟩
    · exact (Md.idx_at (pr := fun x : Md.Live => x.tx == tx) hlt hb hall).symm
    · rcases Nat.lt_or_ge j i with h2 | h2
      · exact hall j h2 hj'
      · obtain rfl : j = i := by omega
        exact hb
  · simp -dsimp only [go_sem, hk, h5, hlt, q3.size, q3.isNode, q3.plain, q3.lenT]
    exact (Md.idx_none (pr := fun x : Md.Live => x.tx == tx) fun j hj => hall j (by omega) hj).symm
theorem l7SamePage_p (d d' : D) (x y : Md.Page) (h : IsPage d x) (h' : IsPage d' y) : PCall Tryz.prog 158 [d, d'] fun _ _ r => r = .lit (.bool (samePg x y)) := by
  have q := shp_page _ _ h
  have q' := shp_page _ _ h'
  obtain ⟨f, rfl, hst, k0, kl, g, hg, hgs, k1⟩ := id h
  obtain ⟨f', rfl, hst', l0, ll, g', hg', hgs', l1⟩ := id h'
  have k0 : f 0 = _ := k0
  have l0 : f' 0 = _ := l0
  refine pcall_intro_v Tryz.func158 rfl (by decide) rfl (by decide) (by rw [Tryz.ntmps158]; simp) fun w0 M n0 => ivc_sound ?_; simp -dsimp only [Tryz.f158, go_sem, q.1, q.2.1, q.2.2.1, q'.1, q'.2.1, q'.2.2.1]
  intro g1 b1 hb1 g2 b2 hb2
  refine iwp_forK 4 [2, 3] (fun i s => s 5 = .lit (.int .i64 i) ∧ ∀ j, j < i → sameS (x.slots.getD j Md.zSlot) (y.slots.getD j Md.zSlot) = true) 0 (Nat.zero_le _) ⟨by simp -dsimp only [go_sem]; rfl, fun j hj => absurd hj (by omega)⟩ ?_
  rintro i n' s hi hn hk ⟨h5, hall⟩
  refine ivc_sound ?_
  simp -dsimp only [go_sem] at hk
  by_cases hlt : i < 4
  · have hc : (i : Int) < 4 := by omega
    have hx : i < x.slots.length := by omega
    have hy : i < y.slots.length := by omega
    have sx := k1 i hx
    have sy := l1 i hy
    have px := shp_slot _ _ sx
    have py := shp_slot _ _ sy
    have hw := i64_succ (i := i) (by omega)
    have ex := getD_at (z := Md.zSlot) hx
    have ey := getD_at (z := Md.zSlot) hy
    simp -dsimp only [go_sem, hk, h5, hc, hg, hg', hlt, hw]
    refine iwp_plan [(0, true), (1, true), (2, true), (3, true), (4, true), (5, true), (6, true), (7, true), (8, false), (9, true)] [2, 3] rfl (by decide +kernel) (by decide) [] (by decide +kernel) ?_
    simp -dsimp only [go_sem, hk, h5, hc, hg, hg', hlt, hw, px.1, px.2.1, px.2.2.1, py.1, py.2.1, py.2.2.1]
    refine xcall_v (sameSlot_p _ _ _ _ sx sy) (by simp -dsimp only [go_sem, rl_still, px.2.2.2, py.2.2.2]) (fun _ => trivial) fun n1 hn1 => ?_
    simp -dsimp only [go_sem, hk, h5, hc, hw]
    refine ⟨fun hb => ?_, fun hb => into_k (by omega) (by simp -dsimp only [go_sem, hk]) ⟨by simp -dsimp only [go_sem], fun j hj => ?_⟩⟩
    · have : allR 4 (fun i => sameS (x.slots.getD i Md.zSlot) (y.slots.getD i Md.zSlot)) = false := allR_false hlt (by rw [ex, ey]; simpa using hb)
      unfold samePg; rw [this]; rfl
    · rcases Nat.lt_or_ge j i with h2 | h2
      · exact hall j h2
      · obtain rfl : j = i := by omega
        rw [ex, ey]; simpa using hb
  · have hc : ¬ (i : Int) < 4 := by omega
    have : allR 4 (fun i => sameS (x.slots.getD i Md.zSlot) (y.slots.getD i Md.zSlot)) = true := allR_true fun j hj => hall j (by omega)
    simp -dsimp only [go_sem, hk, h5, hc, k0, l0]
    unfold samePg; rw [this, Bool.true_and]
theorem l7TxsOk_p (d : D) (x : Md.Engine) (h : IsEngine d x) (hs : Md.szEngine x ≤ 1048576) (hnx : 1 ≤ x.next ∧ x.next ≤ 1001) : PCall Tryz.prog 156 [d] fun _ _ r => r = .lit (.bool (txsOk x)) := by
  have hd := h
  have zp := shp_engine _ _ h
  obtain ⟨q, rfl, hq, q0, q1, q2, q3, q4, q5, q6⟩ := id h
  have q5 : q 5 = _ := q5
  have zl := shp_log _ _ q2
  have hrl : x.log.recs.length ≤ 1048576 := by unfold Md.szEngine Md.szLog Md.szRecs at hs; omega
  have htl : x.txs.length ≤ 1048576 := by unfold Md.szEngine at hs; omega
  have hhl : x.holds.length ≤ 1048576 := by unfold Md.szEngine at hs; omega
  have wn : IntKind.i64.wrap (x.next - 1) = x.next - 1 := by rw [IntKind.wrap_i64]; omega
  refine pcall_intro_v Tryz.func156 rfl (by decide) rfl (by decide) (by rw [Tryz.ntmps156]; simp) fun w0 M n0 => ivc_sound ?_; simp -dsimp only [Tryz.f156, go_sem, zp.1, zp.2.1, zp.2.2.1, q3.size, q3.isNode, q3.plain, q3.lenT]
  intro g1 b1 hb1
  refine iwp_forK x.txs.length [1] (fun i s => s 3 = .lit (.int .i64 i) ∧ ∀ j, j < i → txStep x j = true) 0 (Nat.zero_le _) ⟨by simp -dsimp only [go_sem]; rfl, fun j hj => absurd hj (by omega)⟩ ?_
  rintro i n' s hi hn hk ⟨h3, hall⟩
  refine ivc_sound ?_
  simp -dsimp only [go_sem] at hk
  by_cases hlt : i < x.txs.length
  · obtain ⟨t, zb, fi, hfe, hst', hf'⟩ := q3.sl hlt
    have hli := hf' i hlt
    have pl := shp_live _ _ hli
    obtain ⟨k, hkk, hks, k0, k1, k2⟩ := id hli
    have k0 : k 0 = _ := k0
    have k1 : k 1 = _ := k1
    have k2 : k 2 = _ := k2
    have hw := i64_succ (i := i) (by omega)
    have hl3 := q3.lenT
    rw [hfe] at hl3
    have eg := getD_at (z := zLive) hlt
    rw [hkk] at pl
    simp -dsimp only [go_sem, hk, h3, hlt, hfe, hl3, hkk, pl.1, pl.2.1, pl.2.2.1]
    intro g4 b4 hb4
    refine iwp_plan [(0, true), (1, true), (2, true), (3, true), (4, true), (5, false), (6, true), (7, true), (8, true), (9, true), (10, true), (11, true), (12, true), (13, true), (14, true), (15, true), (16, true), (17, true), (18, false), (19, true), (20, true), (21, true), (22, true), (23, true), (24, true), (25, true), (26, true), (27, true), (28, true), (29, true), (30, true), (31, true), (32, true), (33, true), (34, true), (35, true), (36, true)] [1, 4] rfl (by decide +kernel) (by decide) [] (by decide +kernel) ?_
    simp -dsimp only [go_sem, hk, h3, hkk, k0, k1, k2, q5, wn]
    have es : txStep x i = (Md.inB x.txs[i].tx 1 (x.next - 1) && !x.txs[i].aborts && x.txs[i].last == (lastN x.log x.txs[i].tx : Int) && (decide (i = 0) || decide ((x.txs.getD (i - 1) zLive).tx < x.txs[i].tx))) := by unfold txStep; rw [eg]
    have bad : txStep x i = false → txsOk x = false := fun hb => by unfold txsOk; rw [allR_false hlt hb]; rfl
    refine xcall_v (l1In_p _ _ _) (by simp -dsimp only [go_sem]; rfl) (fun _ => trivial) fun n1 hn1 => ?_
    rcases Bool.eq_false_or_eq_true (Md.inB x.txs[i].tx 1 (x.next - 1)) with c1 | c1
    rotate_left
    · simp -dsimp only [go_sem, hk, h3, c1]
      rw [bad (by rw [es, c1]; rfl)]
    rcases Bool.eq_false_or_eq_true x.txs[i].aborts with c2 | c2
    · simp -dsimp only [go_sem, hk, h3, c1, hkk, k2, c2]
      rw [bad (by rw [es, c2]; simp)]
    simp -dsimp only [go_sem, hk, h3, c1, c2, hkk, k0, k1, k2, zl.1, zl.2.1, zl.2.2.1]
    refine xcall_v (l7Last_p _ x.log x.txs[i].tx q2 hrl) (by simp -dsimp only [go_sem, rl_still, zl.2.2.2]) (fun _ => trivial) fun n2 hn2 => ?_
    rcases Bool.eq_false_or_eq_true (x.txs[i].last == (lastN x.log x.txs[i].tx : Int)) with c3 | c3
    rotate_left
    · have c3' : (x.txs[i].last != (lastN x.log x.txs[i].tx : Int)) = true := by simpa [bne] using c3
      simp -dsimp only [go_sem, hk, h3, c1, c2, c3', hkk, k0, k1, k2]
      rw [bad (by rw [es, c3]; simp)]
    have c3' : (x.txs[i].last != (lastN x.log x.txs[i].tx : Int)) = false := by simpa [bne] using c3
    by_cases c4 : i = 0
    · subst c4
      have c4' : ¬ (0 : Int) < ((0 : Nat) : Int) := by decide
      simp -dsimp only [go_sem, hk, h3, c1, c2, c3', c4', hkk, k0, k1, k2, hw]
      have es' : txStep x 0 = true := by rw [es, c1, c2, c3]; rfl
      exact into_k1 rfl (by omega) (by simp -dsimp only [go_sem, hk, hfe]) ⟨by simp -dsimp only [go_sem], fun j hj => by
        obtain rfl : j = 0 := by omega
        exact es'⟩
    · have c4' : (0 : Int) < (i : Int) := by omega
      have w1 : IntKind.i64.wrap ((i : Int) - 1) = ((i - 1 : Nat) : Int) := by rw [IntKind.wrap_i64]; omega
      have i1 : i - 1 < x.txs.length := by omega
      obtain ⟨kp, hkp, hkps, kp0, _, _⟩ := hf' (i - 1) i1
      have kp0 : kp 0 = _ := kp0
      have ep := getD_at (z := zLive) i1
      have i1' : (0 : Int) ≤ ((i - 1 : Nat) : Int) := by omega
      simp -dsimp only [go_sem, hk, h3, c1, c2, c3', c4', hkk, k0, k1, k2, w1, hfe, hl3, i1, i1', hkp, kp0, hw]
      refine ⟨fun hb => ?_, fun hb => into_k1 rfl (by omega) (by simp -dsimp only [go_sem, hk, hfe]) ⟨by simp -dsimp only [go_sem], fun j hj => ?_⟩⟩
      · rw [bad (by rw [es, c1, c2, c3, ep]; simp; omega)]
      · rcases Nat.lt_or_ge j i with h2 | h2
        · exact hall j h2
        · obtain rfl : j = i := by omega
          rw [es, c1, c2, c3, ep]; simp; omega
  · have hlt' : ¬ (i : Int) < (x.txs.length : Int) := by omega
    simp -dsimp only [go_sem, hk, h3, hlt', q4.size, q4.isNode, q4.plain, q4.lenT, q3.size, q3.isNode, q3.plain, q3.lenT]
    have ha : allR x.txs.length (txStep x) = true := allR_true fun j hj => hall j (by omega)
    have bad2 : ∀ {j}, j < x.holds.length → holdStep x j = false → txsOk x = false := fun hj hb => by unfold txsOk; rw [allR_false hj hb]; simp
    refine iwp_forK x.holds.length [1] (fun i s => s 5 = .lit (.int .i64 i) ∧ ∀ j, j < i → holdStep x j = true) 0 (Nat.zero_le _) ⟨by simp -dsimp only [go_sem]; rfl, fun j hj => absurd hj (by omega)⟩ ?_
    rintro i2 n2 s2 hi2 hn2 hk2 ⟨h5, hall2⟩
    refine ivc_sound ?_
    simp -dsimp only [go_sem, hk] at hk2
    by_cases hlt2 : i2 < x.holds.length
    · obtain ⟨t, zb, fi, hfe, hst', hf'⟩ := q4.sl hlt2
      obtain ⟨k, hkk, hks, k0, k1⟩ := hf' i2 hlt2
      have k0 : k 0 = _ := k0
      have k1 : k 1 = _ := k1
      have hw2 := i64_succ (i := i2) (by omega)
      have hl4 := q4.lenT
      rw [hfe] at hl4
      have eg := getD_at (z := zHold) hlt2
      have es : holdStep x i2 = (Md.inB x.holds[i2].oid 1 31 && decide (0 ≤ liveAt x.txs x.holds[i2].tx) && allR i2 fun k => !((x.holds.getD k zHold).oid == x.holds[i2].oid)) := by unfold holdStep; rw [eg]
      simp -dsimp only [go_sem, hk2, h5, hlt2, hfe, hl4, hkk, k0, k1]
      refine iwp_plan [(0, true), (1, true), (2, true), (3, true), (4, true), (5, true), (6, false), (7, true), (8, true), (9, true), (10, true), (11, true), (12, true), (13, true), (14, true), (15, true), (16, false), (17, true), (18, true)] [1] rfl (by decide +kernel) (by decide) [] (by decide +kernel) ?_
      simp -dsimp only [go_sem, hk2, h5, hlt2, hfe, hl4, hkk, k0, k1]
      refine xcall_v (l1In_p _ _ _) (by simp -dsimp only [go_sem]; rfl) (fun _ => trivial) fun n3 hn3 => ?_
      rcases Bool.eq_false_or_eq_true (Md.inB x.holds[i2].oid 1 31) with c1 | c1
      rotate_left
      · simp -dsimp only [go_sem, hk2, h5, c1]
        rw [bad2 hlt2 (by rw [es, c1]; rfl)]
      simp -dsimp only [go_sem, hk2, h5, c1, hlt2, hfe, hl4, hkk, k0, k1, zp.1, zp.2.1, zp.2.2.1]
      refine xcall_v (l7Live_p _ x x.holds[i2].tx hd) (by simp -dsimp only [go_sem, rl_still, zp.2.2.2]) (fun _ => trivial) fun n4 hn4 => ?_
      by_cases c2 : liveAt x.txs x.holds[i2].tx < 0
      · simp -dsimp only [go_sem, hk2, h5, c1, c2]
        rw [bad2 hlt2 (by rw [es, c1, decide_eq_false (by omega : ¬ 0 ≤ liveAt x.txs x.holds[i2].tx)]; rfl)]
      simp -dsimp only [go_sem, hk2, h5, c1, c2]
      have c2' : decide (0 ≤ liveAt x.txs x.holds[i2].tx) = true := by simp; omega
      refine iwp_forK i2 [1, 5] (fun k s => s 6 = .lit (.int .i64 k) ∧ ∀ j, j < k → (!((x.holds.getD j zHold).oid == x.holds[i2].oid)) = true) 0 (Nat.zero_le _) ⟨by simp -dsimp only [go_sem]; rfl, fun j hj => absurd hj (by omega)⟩ ?_
      rintro k3 n5 s5 hi5 hn5 hk5 ⟨h6, hall3⟩
      refine ivc_sound ?_
      simp -dsimp only [go_sem, hk2, h5] at hk5
      by_cases hlt3 : k3 < i2
      · have hlt3' : k3 < x.holds.length := by omega
        obtain ⟨kq, hkq, hkqs, kq0, kq1⟩ := hf' k3 hlt3'
        have kq1 : kq 1 = _ := kq1
        have hw3 := i64_succ (i := k3) (by omega)
        have e3 := getD_at (z := zHold) hlt3'
        simp -dsimp only [go_sem, hk5, h6, hlt3, hlt3', hlt2, hfe, hl4, hkk, hkq, kq1, k1, hw3]
        refine iwp_plan [(0, true), (1, true), (2, true), (3, true), (4, true), (5, true), (6, true), (7, true), (8, true), (9, true), (10, true), (11, true), (12, true)] [1] rfl (by decide +kernel) (by decide) [] (by decide +kernel) ?_
        simp -dsimp only [go_sem, hk5, h6, hk2, h5, hlt3, hlt3', hlt2, hfe, hl4, hkk, hkq, kq1, k1, hw3]
        refine ⟨fun hb => ?_, fun hb => into_k (by omega) (by simp -dsimp only [go_sem, hk5, hk2, h5, hfe]) ⟨by simp -dsimp only [go_sem], fun j hj => ?_⟩⟩
        · rw [bad2 hlt2 (by rw [es, c1, c2', allR_false hlt3 (by rw [e3, show (x.holds[k3].oid == x.holds[i2].oid) = true by simpa using hb]; rfl)]; rfl)]
        · rcases Nat.lt_or_ge j k3 with h2 | h2
          · exact hall3 j h2
          · obtain rfl : j = k3 := by omega
            rw [e3, show (x.holds[j].oid == x.holds[i2].oid) = false by simpa using hb]; rfl
      · simp -dsimp only [go_sem, hk5, h6, hlt3]
        refine into_k (by omega) (by simp -dsimp only [go_sem, hk5, hk2, hk, hfe]) ⟨by simp -dsimp only [go_sem, hw2], fun j hj => ?_⟩
        rcases Nat.lt_or_ge j i2 with h2 | h2
        · exact hall2 j h2
        · obtain rfl : j = i2 := by omega
          rw [es, c1, c2', allR_true fun k hk => hall3 k (by omega)]; rfl
    · simp -dsimp only [go_sem, hk2, h5, hlt2, q4.size, q4.isNode, q4.plain, q4.lenT, q3.size, q3.isNode, q3.plain, q3.lenT]
      unfold txsOk
      rw [ha, allR_true fun k hk => hall2 k (by omega), Bool.true_and, Bool.true_and]
      exact decide_eq_decide.2 (by omega)
set_option linter.unusedSimpArgs false
set_option maxHeartbeats 2000000
set_option maxRecDepth 20000
theorem poolOk_seat {p : Md.Pool} (h : Md.poolOk p = true) {i : Nat} (hi : i < p.seats.length) : 0 ≤ p.seats[i].no ∧ p.seats[i].no ≤ 7 ∧ Md.pageOk p.seats[i].p = true := by
  unfold Md.poolOk at h
  simp only [Bool.and_eq_true, List.all_eq_true] at h
  have := h.1.1.1 p.seats[i] (List.getElem_mem hi)
  unfold Md.inB at this
  simp only [Bool.and_eq_true, decide_eq_true_eq] at this
  exact ⟨this.1.1, this.1.2, this.2⟩
theorem specEngineOk_p (d : D) (x : Md.Engine) (h : IsEngine d x) (hs : Md.szEngine x ≤ 1048576) : PCall Tryz.prog 83 [d] fun _ _ r => r = .lit (.bool (engineOk x)) := by
  have hd := h
  have zp := shp_engine _ _ h
  obtain ⟨q, rfl, hq, q0, q1, q2, q3, q4, q5, q6⟩ := id h
  have q5 : q 5 = _ := q5
  have q6 : q 6 = _ := q6
  have zl := shp_log _ _ q2
  have zo := shp_pool _ _ q1
  have hrl : x.log.recs.length ≤ 1048576 := by unfold Md.szEngine Md.szLog Md.szRecs at hs; omega
  have hsl : x.pool.seats.length ≤ 1048576 := by unfold Md.szEngine Md.szPool Md.szSeats at hs; omega
  refine pcall_intro_v Tryz.func83 rfl (by decide) rfl (by decide) (by rw [Tryz.ntmps83]; simp) fun w0 M n0 => ivc_sound ?_; simp -dsimp only [Tryz.f83, go_sem, zp.1, zp.2.1, zp.2.2.1, zl.1, zl.2.1, zl.2.2.1]
  intro g1 b1 hb1
  refine xcall_v (specLogOk_p _ _ q2) (by simp -dsimp only [go_sem, rl_still, zl.2.2.2]) (fun _ => trivial) fun n1 hn1 => ?_
  rcases Bool.eq_false_or_eq_true (Md.logOk x.log) with c1 | c1
  rotate_left
  · simp -dsimp only [go_sem, c1]
    simp [engineOk, headOk, c1]
  simp -dsimp only [go_sem, c1, zo.1, zo.2.1, zo.2.2.1]
  refine xcall_v (specPoolOk_p _ _ q1) (by simp -dsimp only [go_sem, rl_still, zo.2.2.2]) (fun _ => trivial) fun n2 hn2 => ?_
  rcases Bool.eq_false_or_eq_true (Md.poolOk x.pool) with c2 | c2
  rotate_left
  · simp -dsimp only [go_sem, c2]
    simp [engineOk, headOk, c2]
  simp -dsimp only [go_sem, c2, q5]
  refine xcall_v (l1In_p _ _ _) (by simp -dsimp only [go_sem]; rfl) (fun _ => trivial) fun n3 hn3 => ?_
  rcases Bool.eq_false_or_eq_true (Md.inB x.next 1 1001) with c3 | c3
  rotate_left
  · simp -dsimp only [go_sem, c3]
    simp [engineOk, headOk, c3]
  have hnx := (inB_iff _ _ _).1 c3
  have hH : headOk x = true := by simp [headOk, c1, c2, c3]
  simp -dsimp only [go_sem, c3, zp.1, zp.2.1, zp.2.2.1]
  refine xcall_v (l7TxsOk_p _ x hd hs hnx) (by simp -dsimp only [go_sem, rl_still, zp.2.2.2]) (fun _ => trivial) fun n4 hn4 => ?_
  rcases Bool.eq_false_or_eq_true (txsOk x) with c4 | c4
  rotate_left
  · simp -dsimp only [go_sem, c4]
    simp [engineOk, c4]
  obtain ⟨ql, hql, hqls, ql0, ql1⟩ := id q2
  have ql1 : ql 1 = _ := ql1
  simp -dsimp only [go_sem, c4, hql, ql0.size, ql0.isNode, ql0.plain, ql0.lenT]
  refine iwp_forK x.log.recs.length [1] (fun i s => s 3 = .lit (.int .i64 i) ∧ ∀ j, j < i → decide ((x.log.recs.getD j Md.zRec).tx < x.next) = true) 0 (Nat.zero_le _) ⟨by simp -dsimp only [go_sem]; rfl, fun j hj => absurd hj (by omega)⟩ ?_
  rintro i n' s hi hn hk ⟨h3, hall⟩
  refine ivc_sound ?_
  simp -dsimp only [go_sem] at hk
  by_cases hlt : i < x.log.recs.length
  · obtain ⟨t, zb, fi, hfe, hst', hf'⟩ := ql0.sl hlt
    obtain ⟨k, hkk, hks, k0, k1, _⟩ := hf' i hlt
    have k1 : k 1 = _ := k1
    have hw := i64_succ (i := i) (by omega)
    have hl0 := ql0.lenT
    rw [hfe] at hl0
    have eg := getD_at (z := Md.zRec) hlt
    simp -dsimp only [go_sem, hk, h3, hlt, hql, hfe, hl0]
    refine iwp_plan [(0, true), (1, true), (2, true), (3, true), (4, true), (5, true), (6, true), (7, true), (8, true), (9, true)] [1] rfl (by decide +kernel) (by decide) [] (by decide +kernel) ?_
    simp -dsimp only [go_sem, hk, h3, hlt, hql, hfe, hl0, hkk, k1, q5, hw]
    refine ⟨fun hb => ?_, fun hb => into_k (by omega) (by simp -dsimp only [go_sem, hk]) ⟨by simp -dsimp only [go_sem], fun j hj => ?_⟩⟩
    · have : allR x.log.recs.length (fun i => decide ((x.log.recs.getD i Md.zRec).tx < x.next)) = false := allR_false hlt (by rw [eg]; exact decide_eq_false (by omega))
      unfold engineOk
      rw [this]; simp
    · rcases Nat.lt_or_ge j i with h2 | h2
      · exact of_decide_eq_true (hall j h2)
      · obtain rfl : j = i := by omega
        rw [eg]; omega
  have c5 : allR x.log.recs.length (fun i => decide ((x.log.recs.getD i Md.zRec).tx < x.next)) = true := allR_true fun j hj => hall j (by omega)
  simp -dsimp only [go_sem, hk, h3, hlt, hql, ql0.size, ql0.isNode, ql0.plain, ql0.lenT]
  obtain ⟨hdl, dg, hdg, hdgs, hdk⟩ := q0
  refine iwp_forK 8 [1] (fun i s => s 4 = .lit (.int .i64 i) ∧ ∀ j, j < i → diskStep x j = true) 0 (Nat.zero_le _) ⟨by simp -dsimp only [go_sem]; rfl, fun j hj => absurd hj (by omega)⟩ ?_
  rintro i2 n2 s2 hi2 hn2 hk2 ⟨h4, hall2⟩
  refine ivc_sound ?_
  simp -dsimp only [go_sem, hk] at hk2
  by_cases hlt2 : i2 < 8
  · have hc : (i2 : Int) < 8 := by omega
    have hd2 : i2 < x.disk.length := by omega
    have hpg := hdk i2 hd2
    have pp := shp_page _ _ hpg
    obtain ⟨k, hkk, hks, k0, _⟩ := id hpg
    have k0 : k 0 = _ := k0
    have hw2 := i64_succ (i := i2) (by omega)
    have eg := getD_at (z := zPg) hd2
    have es : diskStep x i2 = (Md.pageOk x.disk[i2] && decide (x.disk[i2].lsn ≤ x.log.sure)) := by unfold diskStep; rw [eg]
    have bad : diskStep x i2 = false → engineOk x = false := fun hb => by unfold engineOk; rw [allR_false hlt2 hb]; simp
    simp -dsimp only [go_sem, hk2, h4, hc, hlt2, hdg, pp.1, pp.2.1, pp.2.2.1]
    refine iwp_plan [(0, true), (1, true), (2, true), (3, true), (4, false), (5, true), (6, true), (7, true), (8, true), (9, true), (10, true), (11, true), (12, true), (13, true), (14, true), (15, true), (16, true)] [1] rfl (by decide +kernel) (by decide) [] (by decide +kernel) ?_
    simp -dsimp only [go_sem, hk2, h4, hc, hlt2, hdg, pp.1, pp.2.1, pp.2.2.1, hkk, k0, hql, ql1]
    rw [hkk] at hpg pp
    refine xcall_v (specPageOk_p _ _ hpg) (by simp -dsimp only [go_sem, rl_still, pp.2.2.2]) (fun _ => trivial) fun n5 hn5 => ?_
    rcases Bool.eq_false_or_eq_true (Md.pageOk x.disk[i2]) with d1 | d1
    rotate_left
    · simp -dsimp only [go_sem, d1]
      rw [bad (by rw [es, d1]; rfl)]
    simp -dsimp only [go_sem, hk2, h4, hc, hlt2, hdg, pp.1, pp.2.1, pp.2.2.1, hkk, k0, hql, ql1, d1, hw2]
    refine ⟨fun hb => ?_, fun hb => into_k (by omega) (by simp -dsimp only [go_sem, hk2, hk]) ⟨by simp -dsimp only [go_sem], fun j hj => ?_⟩⟩
    · rw [bad (by rw [es, d1, decide_eq_false (by omega : ¬ x.disk[i2].lsn ≤ x.log.sure)]; rfl)]
    · rcases Nat.lt_or_ge j i2 with h2 | h2
      · exact hall2 j h2
      · obtain rfl : j = i2 := by omega
        rw [es, d1, decide_eq_true (by omega : x.disk[j].lsn ≤ x.log.sure)]; rfl
  have hc : ¬ (i2 : Int) < 8 := by omega
  have c6 : allR 8 (diskStep x) = true := allR_true fun j hj => hall2 j (by omega)
  obtain ⟨qp, hqp, hqps, qp0, qp1⟩ := id q1
  simp -dsimp only [go_sem, hk2, h4, hc, hqp, qp0.size, qp0.isNode, qp0.plain, qp0.lenT]
  refine iwp_forK x.pool.seats.length [1] (fun i s => s 5 = .lit (.int .i64 i) ∧ ∀ j, j < i → seatStep x j = true) 0 (Nat.zero_le _) ⟨by simp -dsimp only [go_sem]; rfl, fun j hj => absurd hj (by omega)⟩ ?_
  rintro i3 n3 s3 hi3 hn3 hk3 ⟨h5, hall3⟩
  refine ivc_sound ?_
  simp -dsimp only [go_sem, hk2, hk] at hk3
  by_cases hlt3 : i3 < x.pool.seats.length
  · obtain ⟨t, zb, fi, hfe, hst', hf'⟩ := qp0.sl hlt3
    have hse := hf' i3 hlt3
    have ps := shp_seat _ _ hse
    obtain ⟨k, hkk, hks, k0, k1, k2, k3⟩ := id hse
    have k0 : k 0 = _ := k0
    have k2 : k 2 = _ := k2
    have pp := shp_page _ _ k1
    obtain ⟨kp, hkp, hkps, kp0, _⟩ := id k1
    have kp0 : kp 0 = _ := kp0
    have hw3 := i64_succ (i := i3) (by omega)
    have hl0 := qp0.lenT
    rw [hfe] at hl0
    have eg := getD_at (z := zSt) hlt3
    have hso := poolOk_seat c2 hlt3
    have hno : x.pool.seats[i3].no.toNat < x.disk.length := by omega
    have es : seatStep x i3 = (decide (x.pool.seats[i3].p.lsn ≤ x.log.recs.length) && (x.pool.seats[i3].dirty || samePg x.pool.seats[i3].p x.disk[x.pool.seats[i3].no.toNat])) := by unfold seatStep; rw [eg, getD_at (z := zPg) hno]
    have bad : seatStep x i3 = false → engineOk x = false := fun hb => by unfold engineOk; rw [allR_false hlt3 hb]; simp
    have hdp := hdk _ hno
    have dp := shp_page _ _ hdp
    have no0 := hso.1
    have no1 : x.pool.seats[i3].no < 8 := by omega
    have no2 : x.pool.seats[i3].no.toNat < 8 := by omega
    rw [hkk] at ps
    simp -dsimp only [go_sem, hk3, h5, hlt3, hqp, hfe, hl0, hkk, ps.1, ps.2.1, ps.2.2.1]
    intro g6 b6 hb6
    refine iwp_plan [(0, true), (1, true), (2, true), (3, true), (4, true), (5, true), (6, true), (7, true), (8, true), (9, true), (10, true), (11, true), (12, true), (13, true), (14, true), (15, true), (16, true), (17, true), (18, true), (19, true), (20, false), (21, true), (22, true), (23, true)] [1, 6] rfl (by decide +kernel) (by decide) [] (by decide +kernel) ?_
    simp -dsimp only [go_sem, hk3, h5, hkk, hkp, kp0, hql, ql0.size, ql0.isNode, ql0.plain, ql0.lenT]
    by_cases d1 : (x.log.recs.length : Int) < x.pool.seats[i3].p.lsn
    · simp -dsimp only [go_sem, d1]
      rw [bad (by rw [es, decide_eq_false (by omega)]; rfl)]
    rcases Bool.eq_false_or_eq_true x.pool.seats[i3].dirty with d2 | d2
    · simp -dsimp only [go_sem, hk3, h5, d1, d2, k2, hw3]
      refine into_k1 rfl (by omega) (by simp -dsimp only [go_sem, hk3, hk2, hk]) ⟨by simp -dsimp only [go_sem], fun j hj => ?_⟩
      rcases Nat.lt_or_ge j i3 with h2 | h2
      · exact hall3 j h2
      · obtain rfl : j = i3 := by omega
        rw [es, d2, decide_eq_true (by omega)]; rfl
    rw [hkp] at pp
    simp -dsimp only [go_sem, hk3, h5, d1, d2, k0, k2, hw3, hkp, pp.1, pp.2.1, pp.2.2.1, no0, no1, no2, hdg, dp.1, dp.2.1, dp.2.2.1]
    rw [hkp] at k1
    refine ⟨no1, xcall_v (l7SamePage_p _ _ _ _ k1 hdp) (by simp -dsimp only [go_sem, rl_still, pp.2.2.2, dp.2.2.2]) (fun _ => trivial) fun n6 hn6 => ?_⟩
    rcases Bool.eq_false_or_eq_true (samePg x.pool.seats[i3].p x.disk[x.pool.seats[i3].no.toNat]) with d3 | d3
    rotate_left
    · simp -dsimp only [go_sem, d3]
      rw [bad (by rw [es, d2, d3]; simp)]
    simp -dsimp only [go_sem, hk3, h5, d3, hw3]
    refine into_k1 rfl (by omega) (by simp -dsimp only [go_sem, hk3, hk2, hk]) ⟨by simp -dsimp only [go_sem], fun j hj => ?_⟩
    rcases Nat.lt_or_ge j i3 with h2 | h2
    · exact hall3 j h2
    · obtain rfl : j = i3 := by omega
      rw [es, d3, decide_eq_true (by omega)]; simp
  have c7 : allR x.pool.seats.length (seatStep x) = true := allR_true fun j hj => hall3 j (by omega)
  simp -dsimp only [go_sem, hk3, h5, hlt3, hqp, qp0.size, qp0.isNode, qp0.plain, qp0.lenT, q3.size, q3.isNode, q3.plain, q3.lenT, q4.size, q4.isNode, q4.plain, q4.lenT, q6]
  have eo : engineOk x = downOk x := by unfold engineOk; rw [hH, c4, c5, c6, c7]; rfl
  rw [eo]
  unfold downOk
  have eb : ∀ n : Nat, ((n : Int) == 0) = decide (n = 0) := fun n => by
    by_cases h : n = 0
    · subst h; rfl
    · rw [decide_eq_false h]; exact beq_eq_false_iff_ne.2 (by omega)
  simp only [eb]
  refine ⟨fun h0 => ⟨fun h1 => ⟨fun h2 => by rw [h0, h1, h2]; rfl, fun h2 => by rw [h0, h1, h2]; rfl⟩, fun h1 => by rw [h0, h1]; rfl⟩, fun h0 => by rw [h0]; rfl⟩
end Go.Proofs.YtncinhlaabdlaaaGreat.IM
end
