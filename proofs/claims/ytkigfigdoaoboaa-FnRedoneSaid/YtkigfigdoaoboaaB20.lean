/- Several of my texts in one module (merge.py). -/
import Derived.Test.YtkigfigdoaoboaaB15
import Derived.Test.YtkigfigdoaoboaaB30
import Derived.Test.YtkigfigdoaoboaaA6
import Derived.Test.YtkigfigdoaoboaaB12
section
/- The mathematics of Bring. -/
namespace Go.Proofs.Ytkigfigdoaoboaa.IM
open Go Go.Proofs
set_option linter.unusedVariables false
set_option linter.unusedSimpArgs false
set_option maxHeartbeats 2000000
set_option maxRecDepth 20000

def zPage : Md.Page := ⟨0, [Md.zSlot, Md.zSlot, Md.zSlot, Md.zSlot]⟩
def zSeat : Md.Seat := ⟨0, zPage, false, false⟩
def newSeat (no : Int) (y : Md.Page) : Md.Seat := ⟨no, y, false, true⟩
def brOk (x : Md.Pool) (no : Int) (y : Md.Page) : Bool := Md.poolOk x && (Md.inB no 0 7 && (Md.pageOk y && decide (Md.seated x no < 0)))
/-- what is done where it may be done -/
def bringDo (x : Md.Pool) (no : Int) (y : Md.Page) : Md.Pool × Md.Seat × Bool :=
  if x.seats.length < 3 then (⟨x.seats ++ [newSeat no y], x.hand⟩, zSeat, false)
  else (⟨(vicGo 3 x).1.seats.set (vicGo 3 x).2.toNat (newSeat no y), (vicGo 3 x).1.hand⟩, ((vicGo 3 x).1.seats[(vicGo 3 x).2.toNat]?).getD zSeat, true)
def bring (x : Md.Pool) (no : Int) (y : Md.Page) : Md.Pool × Md.Seat × Bool := if brOk x no y then bringDo x no y else (x, zSeat, false)
theorem bring_no {x : Md.Pool} {no : Int} {y : Md.Page} (h : brOk x no y = false) : bring x no y = (x, zSeat, false) := by unfold bring; rw [h]; rfl
theorem bring_yes {x : Md.Pool} {no : Int} {y : Md.Page} (h : brOk x no y = true) : bring x no y = bringDo x no y := by unfold bring; rw [h]; rfl
theorem bringDo_app {x : Md.Pool} {no : Int} {y : Md.Page} (h : x.seats.length < 3) : bringDo x no y = (⟨x.seats ++ [newSeat no y], x.hand⟩, zSeat, false) := if_pos h
theorem bringDo_vic {x : Md.Pool} {no : Int} {y : Md.Page} (h : ¬ x.seats.length < 3) : bringDo x no y = (⟨(vicGo 3 x).1.seats.set (vicGo 3 x).2.toNat (newSeat no y), (vicGo 3 x).1.hand⟩, ((vicGo 3 x).1.seats[(vicGo 3 x).2.toNat]?).getD zSeat, true) := if_neg h
theorem cool_cool (s : Md.Seat) : cool (cool s) = cool s := rfl
theorem map_cool_modify : ∀ (l : List Md.Seat) (k : Nat), (l.modify k cool).map cool = l.map cool
  | [], k => by cases k <;> rfl
  | a :: l, 0 => rfl
  | a :: l, k + 1 => by
    show cool a :: (l.modify k cool).map cool = _
    rw [map_cool_modify l k]; rfl
theorem vicGo_rg : ∀ (n : Nat) (p : Md.Pool), 0 ≤ p.hand → p.hand < 3 → 0 ≤ (vicGo n p).2 ∧ (vicGo n p).2 < 3 ∧ (vicGo n p).1.seats.map cool = p.seats.map cool ∧ (vicGo n p).1.hand = nxt (vicGo n p).2
  | 0, p, h0, h1 => ⟨h0, h1, rfl, rfl⟩
  | n + 1, p, h0, h1 => by
    show 0 ≤ (if hotAt p = true then vicGo n (vicStep p) else (⟨p.seats, nxt p.hand⟩, p.hand)).2 ∧ _
    have e : vicGo (n + 1) p = if hotAt p = true then vicGo n (vicStep p) else (⟨p.seats, nxt p.hand⟩, p.hand) := rfl
    rw [e]
    by_cases h : hotAt p = true
    · rw [if_pos h]
      have hn := nxt_rg h0 h1
      have ih := vicGo_rg n (vicStep p) hn.1 hn.2
      refine ⟨ih.1, ih.2.1, ih.2.2.1.trans ?_, ih.2.2.2⟩
      exact map_cool_modify p.seats p.hand.toNat
    · rw [if_neg h]
      exact ⟨h0, h1, rfl, rfl⟩
theorem poolOk_hand {x : Md.Pool} (h : Md.poolOk x = true) : 0 ≤ x.hand ∧ x.hand < 3 ∧ x.seats.length ≤ 3 := by
  unfold Md.poolOk at h
  simp only [Bool.and_eq_true, decide_eq_true_eq] at h
  have := (inB_iff _ _ _).1 h.2
  have := h.1.2
  omega
theorem vicGo_lenP {x : Md.Pool} (h0 : 0 ≤ x.hand) (h1 : x.hand < 3) : (vicGo 3 x).1.seats.length = x.seats.length := by
  have := congrArg List.length (vicGo_rg 3 x h0 h1).2.2.1
  rwa [List.length_map, List.length_map] at this
theorem len_map_eq {α β : Type} {f : α → β} {l m : List α} (h : l.map f = m.map f) : l.length = m.length := by
  have := congrArg List.length h
  rwa [List.length_map, List.length_map] at this
theorem vicGo_p {x : Md.Pool} (h0 : 0 ≤ x.hand) (h1 : x.hand < 3) (i : Nat) (hi : i < (vicGo 3 x).1.seats.length) (hi' : i < x.seats.length) : (vicGo 3 x).1.seats[i].no = x.seats[i].no ∧ (vicGo 3 x).1.seats[i].p = x.seats[i].p ∧ (vicGo 3 x).1.seats[i].dirty = x.seats[i].dirty := by
  have h := (vicGo_rg 3 x h0 h1).2.2.1
  have h2 : ((vicGo 3 x).1.seats.map cool)[i]'(by simpa using hi) = (x.seats.map cool)[i]'(by simpa using hi') := by simp only [h]
  rw [List.getElem_map, List.getElem_map] at h2
  have e1 := congrArg Md.Seat.no h2
  have e2 := congrArg Md.Seat.p h2
  have e3 := congrArg Md.Seat.dirty h2
  exact ⟨e1, e2, e3⟩
theorem bring_len (x : Md.Pool) (no : Int) (y : Md.Page) : (bring x no y).1.seats.length ≤ x.seats.length + 1 := by
  cases h : brOk x no y with
  | false => rw [bring_no h]; exact Nat.le_succ _
  | true =>
    have hp : Md.poolOk x = true := by unfold brOk at h; simp only [Bool.and_eq_true] at h; exact h.1
    have hh := poolOk_hand hp
    rw [bring_yes h]
    by_cases h3 : x.seats.length < 3
    · rw [bringDo_app h3]; show (x.seats ++ _).length ≤ _; rw [List.length_append]; exact Nat.le_refl _
    · rw [bringDo_vic h3]; show (List.set _ _ _).length ≤ _; rw [List.length_set, vicGo_lenP hh.1 hh.2.1]; exact Nat.le_succ _
end Go.Proofs.Ytkigfigdoaoboaa.IM
end

section
/- Contracts: l6Bring. Printed by bring.py. -/
namespace Go.Proofs.Ytkigfigdoaoboaa.IM
open Go Go.Proofs
set_option linter.unusedVariables false
set_option linter.unusedSimpArgs false
set_option maxHeartbeats 2000000
set_option maxRecDepth 20000

def zSlotsD : D := .node (.arr 4 4) fun _ => zSlotD
def zPageD : D := .node (.agg [1, 16]) (nthD [.lit (.int .i64 0), zSlotsD])
def zSeatD : D := .node (.agg [1, 17, 1, 1]) (nthD [.lit (.int .i64 0), zPageD, .lit (.bool false), .lit (.bool false)])
theorem still_zSlots : zSlotsD.still := fun _ => still_zSlot
theorem isPage_z : IsPage zPageD zPage := ⟨_, rfl, stN (by simp only [stillL_nil, stillL_cons, still_lit, still_zSlots, and_self]), rfl, rfl, _, rfl, fun _ => still_zSlot, fun i hi => by
  have hi' : i < 4 := hi
  match i, hi' with
  | 0, _ => exact isSlot_z
  | 1, _ => exact isSlot_z
  | 2, _ => exact isSlot_z
  | 3, _ => exact isSlot_z⟩
theorem still_zPage : zPageD.still := (shp_page _ _ isPage_z).2.2.2
theorem isSeat_z : IsSeat zSeatD zSeat := ⟨_, rfl, stN (by simp only [stillL_nil, stillL_cons, still_lit, still_zPage, and_self]), rfl, isPage_z, rfl, rfl⟩
theorem still_zSeat : zSeatD.still := (shp_seat _ _ isSeat_z).2.2.2
theorem tl_zSeat : zSeatD.tl = [] := rfl
theorem whole_zPage : zPageD.whole := fun i hi => by
  have hi' : i < 2 := hi
  match i, hi' with
  | 0, _ => trivial
  | 1, _ => exact fun _ _ => whole_zSlot
theorem whole_zSeat : zSeatD.whole := fun i hi => by
  have hi' : i < 4 := hi
  match i, hi' with
  | 0, _ => trivial
  | 1, _ => exact whole_zPage
  | 2, _ => trivial
  | 3, _ => trivial
/-- an element of a row is another one -/
theorem own_swapA {lo hi t n sz k : Nat} {f : Nat → D} {s : D} (h : Own lo hi (.sl t true n sz f)) (hs : Own lo hi s) (hd : ∀ b ∈ s.tl, b ∉ (D.sl t true n sz f).tl) (hk : k < n) : Own2 lo hi (.sl t true n sz (upd f k s)) (f k) := by
  obtain ⟨hN, ht1, ht2, _, hnt⟩ := h.sl
  have hd1 : ∀ b ∈ s.tl, b ≠ t := fun b hb e => hd b hb (by subst e; simp [D.tl])
  have hd2 : ∀ b ∈ s.tl, ∀ i, i < n → b ∉ (f i).tl := fun b hb i hi hx => hd b hb (by simp only [D.tl, List.mem_cons, List.mem_flatMap, List.mem_range]; exact .inr ⟨i, hi, hx⟩)
  refine ⟨own_sl ⟨fun i hi t' ht' => ?_, fun i hi => ?_, fun i j hij hj t' ha hb => ?_, fun i hi => ?_⟩ ht1 ht2 fun i hi hx => ?_, hN.own hk, fun x hx hy => ?_⟩
  · by_cases hik : i = k
    · subst hik; rw [upd_same] at ht'; exact hs.rg _ ht'
    · rw [upd_ne _ _ hik] at ht'; exact hN.rg i hi _ ht'
  · by_cases hik : i = k
    · subst hik; rw [upd_same]; exact hs.nd
    · rw [upd_ne _ _ hik]; exact hN.nd i hi
  · by_cases hik : i = k
    · subst hik
      rw [upd_same] at ha; rw [upd_ne _ _ (by omega)] at hb
      exact hd2 _ ha j hj hb
    · rw [upd_ne _ _ hik] at ha
      by_cases hjk : j = k
      · subst hjk; rw [upd_same] at hb
        exact hd2 _ hb i (by omega) ha
      · rw [upd_ne _ _ hjk] at hb; exact hN.dj i j hij hj _ ha hb
  · by_cases hik : i = k
    · subst hik; rw [upd_same]; exact hs.wh
    · rw [upd_ne _ _ hik]; exact hN.wh i hi
  · by_cases hik : i = k
    · subst hik; rw [upd_same] at hx; exact hd1 _ hx rfl
    · rw [upd_ne _ _ hik] at hx; exact hnt i hi hx
  · simp only [D.tl, List.mem_cons, List.mem_flatMap, List.mem_range] at hx
    rcases hx with rfl | ⟨i, hi, hx⟩
    · exact hnt k hk hy
    · by_cases hik : i = k
      · subst hik; rw [upd_same] at hx; exact hd2 _ hx i hi hy
      · rw [upd_ne _ _ hik] at hx
        rcases Nat.lt_or_gt_of_ne hik with h | h
        · exact hN.dj i k h hk x hx hy
        · exact hN.dj k i h hi x hy hx
theorem own_swap {lo hi m0 p0 t n sz k : Nat} {f : Nat → D} {s : D} (h : Own lo hi (.sl t true n sz f)) (hs : Own m0 p0 s) (h1 : hi ≤ m0) (h2 : m0 ≤ p0) (hk : k < n) : Own2 lo p0 (.sl t true n sz (upd f k s)) (f k) :=
  own_swapA (h.mono (Nat.le_refl _) (by omega)) (hs.mono (by have := h.sl.2.1; have := h.sl.2.2.1; omega) (Nat.le_refl _)) (fun b hb hx => by have := hs.rg b hb; have := h.rg b hx; omega) hk
theorem Fill.catA {α : Type} {R : D → α → Prop} {sz lo hi : Nat} {xs : List α} {i : Nat} {f z : Nat → D} {r : D} {nd : Bool} (h : Fill R sz lo hi xs i i f) (hz : ∀ j, (z j).still) (hR : Shp R sz nd) (hlt : i < xs.length) (hr : R r xs[i]) (ho : Own lo hi r)
    (hd : ∀ j, j < i → ∀ t ∈ (f j).tl, t ∉ r.tl) : Fill R sz lo hi xs (i + 1) (i + 1) (catD i f (upd z 0 r)) := by
  obtain ⟨e1, e2, e3, e4⟩ := hR _ _ hr
  have hc : catD i f (upd z 0 r) i = r := by simp [catD, upd]
  have hl : ∀ j, j < i → catD i f (upd z 0 r) j = f j := fun j hj => by simp [catD, hj]
  refine ⟨fun j => ?_, fun j hj => ?_, fun j hj hji => ?_, ⟨fun j hj t ht => ?_, fun j hj => ?_, fun j k hjk hk t ht ht' => ?_, fun j hj => ?_⟩⟩
  · unfold catD; split
    · exact h.st j
    · exact still_upd hz e4 _
  · by_cases hj' : j = i
    · subst hj'; rw [hc]; exact ⟨e3, e1⟩
    · rw [hl j (by omega)]; exact h.sh j (by omega)
  · by_cases hj' : j = i
    · subst hj'; rw [hc]; exact hr
    · rw [hl j (by omega)]; exact h.ok j hj (by omega)
  · by_cases hj' : j = i
    · subst hj'; rw [hc] at ht; exact ho.rg _ ht
    · rw [hl j (by omega)] at ht; exact h.own.rg j (by omega) _ ht
  · by_cases hj' : j = i
    · subst hj'; rw [hc]; exact ho.nd
    · rw [hl j (by omega)]; exact h.own.nd j (by omega)
  · rw [hl j (by omega)] at ht
    by_cases hk' : k = i
    · subst hk'; rw [hc] at ht'; exact hd j (by omega) t ht ht'
    · rw [hl k (by omega)] at ht'; exact h.own.dj j k hjk (by omega) t ht ht'
  · by_cases hj' : j = i
    · subst hj'; rw [hc]; exact ho.wh
    · rw [hl j (by omega)]; exact h.own.wh j (by omega)
theorem tl_pool {q : Nat → D} {k : Nat} {F : Relab} {sd : D} {h : Int} (h0 : rl k F (q 0) = sd) (h1 : rl k F (q 1) = .lit (.int .i64 h)) : (D.node (.agg [1, 1]) fun i => rl k F (q i)).tl = sd.tl := by
  show (List.range 2).flatMap (fun i => (rl k F (q i)).tl) = _
  rw [show List.range 2 = [0, 1] from rfl]
  simp only [List.flatMap_cons, List.flatMap_nil, h0, h1, D.tl, List.append_nil]
/-- a seat with a new page -/
def seatD (no : Int) (pg : D) (dirty hot : Bool) : D := .node (.agg [1, 17, 1, 1]) (nthD [.lit (.int .i64 no), pg, .lit (.bool dirty), .lit (.bool hot)])
theorem isSeat_new {no : Int} {pg : D} {y : Md.Page} {dirty hot : Bool} (h : IsPage pg y) : IsSeat (seatD no pg dirty hot) ⟨no, y, dirty, hot⟩ :=
  ⟨_, rfl, stN (by simp only [stillL_nil, stillL_cons, still_lit, (shp_page _ _ h).2.2.2, and_self]), rfl, h, rfl, rfl⟩
theorem own_seat {no : Int} {pg : D} {dirty hot : Bool} {lo hi : Nat} (h : Own lo hi pg) : Own lo hi (seatD no pg dirty hot) := by
  have e : (seatD no pg dirty hot).tl = pg.tl := by
    show (List.range 4).flatMap (fun i => (nthD [.lit (.int .i64 no), pg, .lit (.bool dirty), .lit (.bool hot)] i).tl) = _
    rw [show List.range 4 = [0, 1, 2, 3] from rfl]
    simp only [List.flatMap_cons, List.flatMap_nil, nthD, D.tl, List.append_nil, List.nil_append]
  refine ⟨fun t ht => h.rg t (e ▸ ht), e ▸ h.nd, fun i hi => ?_⟩
  have hi' : i < 4 := hi
  match i, hi' with
  | 0, _ => trivial
  | 1, _ => exact h.wh
  | 2, _ => trivial
  | 3, _ => trivial
/-- as it is built -/
def seatU (no : Int) (pg : D) (hot : Bool) : D := .node (.agg [1, 17, 1, 1]) (upd (upd (upd (nthD [.lit (.int .i64 0), zPageD, .lit (.bool false), .lit (.bool false)]) 0 (.lit (.int .i64 no))) 1 pg) 3 (.lit (.bool hot)))
theorem seatU_eq (no : Int) (pg : D) (hot : Bool) : seatU no pg hot = seatD no pg false hot := by
  unfold seatU seatD
  congr 1
  funext j
  match j with
  | 0 => rfl
  | 1 => rfl
  | 2 => rfl
  | 3 => rfl
  | j + 4 => rfl
theorem isSeat_U {no : Int} {pg : D} {y : Md.Page} (h : IsPage pg y) : IsSeat (seatU no pg true) (newSeat no y) := by rw [seatU_eq]; exact isSeat_new h
theorem own_seatU {no : Int} {pg : D} {lo hi : Nat} (h : Own lo hi pg) : Own lo hi (seatU no pg true) := by rw [seatU_eq]; exact own_seat h
theorem fill_snoc {α : Type} {R : D → α → Prop} {sz lo hi t : Nat} {nd : Bool} {xs : List α} {x : α} {f : Nat → D} (hR : Shp R sz nd) (hst : ∀ i, (f i).still) (hf : ∀ i (h : i < xs.length), R (f i) xs[i]) (ho : Own lo hi (.sl t true xs.length sz f)) : Fill R sz lo hi (xs ++ [x]) xs.length xs.length f :=
  ⟨hst, fun j hj => by have q := hR _ _ (hf j hj); exact ⟨q.2.2.1, q.1⟩, fun j hj hji => by rw [List.getElem_append_left hji]; exact hf j hji, ho.sl.1⟩
theorem snoc_get {α : Type} {xs : List α} {r : α} (h : xs.length < (xs ++ [r]).length) : (xs ++ [r])[xs.length] = r := by simp
theorem Fill.isLs {α : Type} {R : D → α → Prop} {sz lo hi n1 b n : Nat} {xs : List α} {f : Nat → D} (h : Fill R sz lo hi xs n n f) (hn : xs.length = n) (hs : n ≤ 4194304) (h1 : lo ≤ b) (h2 : b < n1) (h3 : hi ≤ n1) (hb : b ∉ (D.node (.arr n sz) f).tl) :
    IsL sz R (.sl b true n sz f) xs ∧ Own lo n1 (.sl b true n sz f) ∧ ∀ j, (f j).still := by
  subst hn
  have := h.isL (Nat.lt_irrefl _) hs h1 h2 h3 hb
  exact ⟨this.1, this.2, h.st⟩
theorem isL_set {α : Type} {R : D → α → Prop} {sz t k : Nat} {xs : List α} {f : Nat → D} {s : D} {y : α} (hst : ∀ i, (f i).still) (hss : s.still) (hf : ∀ i (h : i < xs.length), R (f i) xs[i]) (hs : R s y) (hl : xs.length < 140737488355328) : IsL sz R (.sl t true xs.length sz (upd f k s)) (xs.set k y) :=
  .inr ⟨t, true, upd f k s, by rw [List.length_set], still_upd hst hss, by rw [List.length_set]; exact hl, fun i hi => by
    have hi' : i < xs.length := by rwa [List.length_set] at hi
    rw [List.getElem_set]
    by_cases h : k = i
    · subst h; rw [upd_same, if_pos rfl]; exact hs
    · rw [upd_ne _ _ (fun e => h e.symm), if_neg h]; exact hf i hi'⟩
theorem tl_cat {t t0 n sz b : Nat} {z : Bool} {f g : Nat → D} {s : D} (h : b ∈ (D.sl t z (n + 1) sz (catD n f (upd g 0 s))).tl) : b = t ∨ b ∈ (D.sl t0 z n sz f).tl ∨ b ∈ s.tl := by
  simp only [D.tl, List.mem_cons, List.mem_flatMap, List.mem_range] at h ⊢
  rcases h with rfl | ⟨i, hi, hx⟩
  · exact .inl rfl
  · unfold catD at hx
    by_cases hin : i < n
    · rw [if_pos hin] at hx; exact .inr (.inl (.inr ⟨i, hin, hx⟩))
    · rw [if_neg hin, show i - n = 0 by omega, upd_same] at hx; exact .inr (.inr hx)
theorem tl_row {t n sz k b : Nat} {z : Bool} {f : Nat → D} (hk : k < n) (h : b ∈ (f k).tl) : b ∈ (D.sl t z n sz f).tl := by
  simp only [D.tl, List.mem_cons, List.mem_flatMap, List.mem_range]; exact .inr ⟨k, hk, h⟩
theorem tl_sl_upd {t n sz k b : Nat} {z : Bool} {f : Nat → D} {s : D} (h : b ∈ (D.sl t z n sz (upd f k s)).tl) : b ∈ (D.sl t z n sz f).tl ∨ b ∈ s.tl := by
  simp only [D.tl, List.mem_cons, List.mem_flatMap, List.mem_range] at h ⊢
  rcases h with rfl | ⟨i, hi, hx⟩
  · exact .inl (.inl rfl)
  · by_cases hik : i = k
    · subst hik; rw [upd_same] at hx; exact .inr hx
    · rw [upd_ne _ _ hik] at hx; exact .inl (.inr ⟨i, hi, hx⟩)
def BrQ (x : Md.Pool) (no : Int) (y : Md.Page) (lo : Nat) (n0 n1 : Nat) (d' r : D) : Prop := ∃ a, r = .tup 2 (nthD [a, .lit (.bool (bringDo x no y).2.2)]) ∧ IsPool d' (bringDo x no y).1 ∧ IsSeat a (bringDo x no y).2.1 ∧ Own2 (min lo n0) n1 d' a
theorem br_end {x : Md.Pool} {no : Int} {y : Md.Page} {lo n0 n1 k : Nat} {F : Relab} {qq : Nat → D} {sd a r d : D} {ss : List Md.Seat} {hd : Int}
    (e0 : rl k F (qq 0) = sd) (e1 : rl k F (qq 1) = .lit (.int .i64 hd)) (hqq : ∀ j, (qq j).still ∨ j = 0) (hP : (bringDo x no y).1 = ⟨ss, hd⟩) (hL : IsL 20 IsSeat sd ss) (hA : IsSeat a (bringDo x no y).2.1)
    (hO : Own2 (min lo n0) n1 sd a) (ht : ∀ t ∈ sd.tl, t ∈ d.tl ∨ n0 ≤ t) (ht2 : ∀ t ∈ a.tl, t ∈ d.tl ∨ n0 ≤ t) (hr : r = .tup 2 (nthD [a, .lit (.bool (bringDo x no y).2.2)])) :
    BEnd (BrQ x no y lo) d n0 n1 (.node (.agg [1, 1]) fun i => rl k F (qq i)) r := by
  subst hr
  have hg := (grow_fin (x := ⟨ss, hd⟩) (n0 := min lo n0) (n1 := n1) e0 e1 hqq hL hO.oa).out
  have htl := tl_pool e0 e1
  refine ⟨⟨a, rfl, by rw [hP]; exact hg.1, hA, hg.2, hO.ob, fun t h1 => hO.ap t (htl ▸ h1)⟩, trivial, tags_of_tl (whole_data hg.2.wh) fun t h1 => ht t (htl ▸ h1), fun i hi => ?_⟩
  match i, hi with
  | 0, _ => exact tags_of_tl (whole_data hO.ob.wh) ht2
  | 1, _ => trivial
theorem l6Bring_b (q : Nat → D) (d2 : D) (x : Md.Pool) (no : Int) (y : Md.Page) (lo hi : Nat) (h : IsPool (.node (.agg [1, 1]) q) x) (h2 : IsPage d2 y) (ho : Own lo hi (.node (.agg [1, 1]) q)) (hfr : ∀ t ∈ (D.node (.agg [1, 1]) q).tl, d2.free t) (hs2 : Md.szPage y ≤ 1048576) (hpo : Md.poolOk x = true) :
    BCall Try.prog 127 (.node (.agg [1, 1]) q) (.node (.agg [1, 1]) q) [.lit (.int .i64 no), d2] (BrQ x no y lo) := by
  have hh := poolOk_hand hpo
  have eq := shp_pool _ _ h
  have eq2 := shp_page _ _ h2
  have e1 := eq.1
  have e2 := eq.2.1
  have e3 := eq.2.2.1
  have e4 := eq.2.2.2
  have y1 := eq2.1
  have y2 := eq2.2.1
  have y3 := eq2.2.2.1
  have y4 := eq2.2.2.2
  obtain ⟨q', e, hqs, hq0, q1⟩ := h
  cases e
  have q1 : q 1 = _ := q1
  rcases hq0 with ⟨q0, hnil⟩ | ⟨t, zb, f, q0, hfs, hfl, hf⟩
  · have h3 : x.seats.length < 3 := by rw [hnil]; decide
    have h3' : (((0 : Nat) : Int) < 3) := by decide
    refine bcall_intro Try.func127 rfl (by decide) rfl (by decide) (by rw [Try.ntmps127]; simp) fun w0 M n0 gb hW hS hT hgb => ivc_sound ?_; simp -dsimp only [Try.f127, go_sem, q0, q1, y1, y2, y3]
    intro g1 b1 hb1 g2 b2 hb2
    refine xcall_p (l3Copy_p _ _ h2 hs2) (by simp -dsimp only [go_sem, rl_still, y4]) fun m0 p0 r0 hm0 hp0 hr0 => ?_
    have rq := shp_page _ _ hr0.1
    refine ⟨hr0.2.tags, ?_⟩
    have hN : nthD [.lit (.int .i64 no), r0, .lit (.bool false), .lit (.bool true)] = nthD [.lit (.int .i64 no), r0, .lit (.bool false), .lit (.bool true)] := rfl
    simp -dsimp only [go_sem, h3', q0, q1, rq.1, rq.2.1, rq.2.2.1]
    intro g3 b3 hb3
    refine iwp_plan [(0, true), (1, true), (2, true), (3, true), (4, true), (5, true), (6, false), (7, false), (8, true), (9, true), (10, false)] [8, 1000] rfl (by decide +kernel) (by decide) [8, 9, 10] (by decide +kernel) ?_
    simp -dsimp only [go_sem, h3', q0, q1, rq.1, rq.2.1, rq.2.2.1]
    intro g4 b4 hb4
    refine ⟨fun y h => h.symm, fun g5 b5 n' hn' hb5 hb6 => ⟨_, rfl, fun n1 hn1 hfc => ?_⟩⟩
    have hb := hfc.here.1
    rw [rl_node]
    have hpg := isSeat_U (no := no) hr0.1
    have hpo' := own_seatU (no := no) hr0.2
    have hF : Fill IsSeat 20 m0 p0 [newSeat no y] 1 1 (upd (fun _ => zSeatD) 0 (seatU no r0 true)) := Fill.one (xs := [newSeat no y]) (fun _ => still_zSeat) shp_seat (Nat.lt_succ_self 0) hpg hpo' (Nat.le_refl _) (Nat.le_refl _) (by omega)
    have hL := hF.isL (b := b5) (n1 := n1) (Nat.lt_irrefl _) (by decide : 1 ≤ 4194304) (by omega) hb (by omega) hfc.here.2
    refine br_end (sd := .sl b5 true 1 20 (upd (fun _ => zSeatD) 0 (seatU no r0 true))) (a := zSeatD) (hd := x.hand) ?_ ?_ (gs_upd fun j => .inl (hqs j)) (by rw [bringDo_app h3, hnil]; rfl) hL.1 (by rw [bringDo_app h3]; exact isSeat_z) (Own2.plain (hL.2.mono (by omega) (by omega)) tl_zSeat whole_zSeat) (fun t ht => .inr (by have := hL.2.rg t ht; omega)) (fun t ht => by rw [tl_zSeat] at ht; simp at ht) ?_
    · simp -dsimp only [go_sem, q0]
      exact congrArg (D.sl b5 true 1 20) (rls_still hF.st)
    · simp -dsimp only [go_sem, q1, rl_lit]
    · rw [bringDo_app h3]
      exact congrArg (fun a => D.tup 2 (nthD [a, .lit (.bool false)])) (rl_still (d := zSeatD) still_zSeat)
  · have hoS : Own lo hi (.sl t zb x.seats.length 20 f) := by
      have := ho.node.own (i := 0) (by decide)
      rw [q0] at this
      exact this
    obtain rfl : zb = true := hoS.wh.1
    have htl : t ∈ (D.node (.agg [1, 1]) q).tl := tl_child (k := .agg [1, 1]) (i := 0) (by decide) (by rw [q0]; simp [D.tl])
    have hpf : ∀ i, i < (Kd.agg [1, 1]).cnt → i ≠ 0 → (q i).free t := fun i hi hne => by
      have : i = 1 := by have : i < 2 := hi; omega
      subst this; rw [q1]; trivial
    have hfree := own_free hoS
    by_cases h3 : x.seats.length < 3
    · have h3' : ((x.seats.length : Int) < 3) := by omega
      have hx : ∀ z ∈ [D.ptr 1000 0 0 [], .lit (.int .i64 no), d2], z.free t := fun z hz => by
        simp only [List.mem_cons, List.not_mem_nil, or_false] at hz
        rcases hz with rfl | rfl | rfl
        · trivial
        · trivial
        · exact hfr t htl
      refine bcall_intro Try.func127 rfl (by decide) rfl (by decide) (by rw [Try.ntmps127]; simp) fun w0 M n0 gb hW hS hT hgb => iwp_melt (l := 1001) (lq := 1000) (R' := fun _ => none) (xq' := fun g => .node (.agg [1, 1]) (upd q 0 (.msl 1001 g 0 [] 0 x.seats.length 20))) (hS t htl) rfl hfree rfl (.node _ _ 0 (by decide) (has_eq q0)) (fun g => ⟨trivial, thaw_upd (thaw_eq q0) hpf⟩) (free_nthD hx) (by decide) (fun l' g b x hx _ => by cases hx) fun g => ivc_sound ?_; simp -dsimp only [Try.f127, go_sem, q0, q1, y1, y2, y3]
      have ho' := own_lt hoS (by have := hT _ (List.mem_cons_self ..) (whole_data ho.wh) 0 (by decide); rw [q0] at this; exact this)
      intro g1 b1 hb1 g2 b2 hb2
      refine xcall_p (l3Copy_p _ _ h2 hs2) (by simp -dsimp only [go_sem, rl_still, y4]) fun m0 p0 r0 hm0 hp0 hr0 => ?_
      have hm0' : b2 + 1 ≤ m0 := hm0
      have rq := shp_page _ _ hr0.1
      refine ⟨hr0.2.tags, ?_⟩
      simp -dsimp only [go_sem, h3', q0, q1, rq.1, rq.2.1, rq.2.2.1]
      intro g3 b3 hb3
      refine iwp_plan [(0, true), (1, true), (2, true), (3, true), (4, true), (5, true), (6, false), (7, false), (8, true), (9, true), (10, false)] [8, 1000] rfl (by decide +kernel) (by decide) [8, 9, 10] (by decide +kernel) ?_
      simp -dsimp only [go_sem, h3', q0, q1, rq.1, rq.2.1, rq.2.2.1]
      intro g4 b4 hb4
      refine ⟨fun y h => h.symm, by omega, by omega, fun g5 b5 n' hn' hb5 hb6 => ⟨_, rfl, fun n1 hn1 hfc => ?_⟩⟩
      have hb7 : min lo n0 ≤ b5 := by
        rcases hb6 with h | h
        · omega
        · have := ho'.rg t (by simp [D.tl]); omega
      rw [rl_node]
      have hF := Fill.cat (fill_snoc (x := newSeat no y) shp_seat hfs hf ho') (z := fun _ => zSeatD) (hi := p0) (fun _ => still_zSeat) shp_seat (by simp) (by rw [snoc_get]; exact isSeat_U (no := no) hr0.1) (own_seatU (no := no) hr0.2) (by omega) (by omega) (Nat.le_refl _) (by omega)
      have hL := hF.isLs (b := b5) (n1 := n1) (by simp) (by omega) (by omega) hfc.here.1 (by omega) hfc.here.2
      refine br_end (sd := .sl b5 true (x.seats.length + 1) 20 (catD x.seats.length f (upd (fun _ => zSeatD) 0 (seatU no r0 true)))) (a := zSeatD) (hd := x.hand) ?_ ?_ (gs_upd fun j => .inl (hqs j)) (by rw [bringDo_app h3]) hL.1 (by rw [bringDo_app h3]; exact isSeat_z) (Own2.plain (hL.2.1.mono (by omega) (by omega)) tl_zSeat whole_zSeat) (fun t' ht' => ?_) (fun t ht => by rw [tl_zSeat] at ht; simp at ht) ?_
      · simp -dsimp only [go_sem, q0]
        exact congrArg (D.sl b5 true (x.seats.length + 1) 20) (rls_still hL.2.2)
      · simp -dsimp only [go_sem, q1, rl_lit]
      · rcases tl_cat (t0 := t) ht' with rfl | h | h
        · rcases hb6 with h | h
          · exact .inr (by omega)
          · subst h; exact .inl htl
        · exact .inl (tl_child (k := .agg [1, 1]) (i := 0) (by decide) (by rw [q0]; exact h))
        · exact .inr (by have := (own_seatU (no := no) hr0.2).rg _ h; omega)
      · rw [bringDo_app h3]
        exact congrArg (fun a => D.tup 2 (nthD [a, .lit (.bool false)])) (rl_still (d := zSeatD) still_zSeat)
    · have hx : ∀ b ∈ (D.sl t true x.seats.length 20 f).tl, b ∈ (D.node (.agg [1, 1]) q).tl := fun b hb => tl_child (k := .agg [1, 1]) (i := 0) (by decide) (by rw [q0]; exact hb)
      have h3' : ¬ ((x.seats.length : Int) < 3) := by omega
      have h33 : x.seats.length = 3 := by omega
      refine bcall_intro Try.func127 rfl (by decide) rfl (by decide) (by rw [Try.ntmps127]; simp) fun w0 M n0 gb hW hS hT hgb => ivc_sound ?_; simp -dsimp only [Try.f127, go_sem, q0, q1, y1, y2, y3]
      have ho' := own_lt hoS (by have := hT _ (List.mem_cons_self ..) (whole_data ho.wh) 0 (by decide); rw [q0] at this; exact this)
      intro g1 b1 hb1 g2 b2 hb2
      refine xcall_p (l3Copy_p _ _ h2 hs2) (by simp -dsimp only [go_sem, rl_still, y4]) fun m0 p0 r0 hm0 hp0 hr0 => ?_
      have hm0' : b2 + 1 ≤ m0 := hm0
      have rq := shp_page _ _ hr0.1
      refine ⟨hr0.2.tags, ?_⟩
      simp -dsimp only [go_sem, h3', q0, q1, rq.1, rq.2.1, rq.2.2.1]
      intro g3 b3 hb3
      have hzt : ∀ p : Nat → Prop, zSeatD.tags p := fun p => tags_of_tl (whole_data whole_zSeat) fun t ht => by rw [tl_zSeat] at ht; simp at ht
      have hU := isSeat_U (no := no) hr0.1
      have hUo := own_seatU (no := no) hr0.2
      have hUp := shp_seat _ _ hU
      refine xcall_bt (rest0 := []) (l := 1000) (g := 0) (b := gb) (l6Victim_b q x t (min lo n0) n0 f q0 q1 hqs hfs hfl hf ho' hpo h33) (by simp -dsimp only [go_sem]) rfl (by simp -dsimp only [go_sem]) e4 hx (fun b hb => hS b (hx b hb)) [0, 6, 7, 8] (upd (upd (fun _ => none) 6 (some (g2, b2, zSeatD))) 8 (some (g3, b3, seatU no r0 true))) (by simp -dsimp only [go_sem]) fun n5 n6 d' r hn5 hn6 ht hq htd =>
        ⟨by simp -dsimp only [go_sem], ((CarR.skip (CarR.skip (CarR.none _ _ _) rfl) rfl).upd (show zSeatD.plain from trivial) (.apart _ (hzt _))).upd (show (seatU no r0 true).plain from trivial) (carry_own ho' hUo (.inl (by omega))), ?_⟩
      obtain ⟨v1, v2, rfl⟩ := hq
      have vk := vicGo_rg 3 x hh.1 hh.2.1
      have vl := vicGo_lenP hh.1 hh.2.1
      obtain ⟨qv, rfl, qvs, v10, v11⟩ := v1
      have v11 : qv 1 = _ := v11
      obtain ⟨t', zb', f', qv0, hfs', hf'⟩ := v10.sl (i := 0) (by omega)
      have hoV : Own (min lo n0) n0 (.sl t' zb' (vicGo 3 x).1.seats.length 20 f') := by
        have := v2.node.own (i := 0) (by decide)
        rw [qv0] at this
        exact this
      obtain rfl : zb' = true := hoV.wh.1
      have ht' := hoV.rg t' (by simp [D.tl])
      have hsub : ∀ b ∈ (D.sl t' true (vicGo 3 x).1.seats.length 20 f').tl, b ∈ (D.node (.agg [1, 1]) q).tl ∨ n0 ≤ b := fun b hb => by
        rcases tl_of_tags (whole_data v2.wh) htd b (tl_child (k := .agg [1, 1]) (i := 0) (by decide) (by rw [qv0]; exact hb)) with h | h
        · exact .inl h
        · have h : n5 ≤ b := h; have hn5' : b3 + 1 ≤ n5 := hn5; exact .inr (by omega)
      have hWt : ∀ b ∈ (D.sl t' true (vicGo 3 x).1.seats.length 20 f').tl, wr w0 M b := fun b hb => (hsub b hb).elim (hS b) (hW b)
      have hUf : (seatU no r0 true).free t' := free_nil hUo.wh fun hb => by have := hUo.rg _ hb; omega
      have hZf : zSeatD.free t' := free_nil whole_zSeat (by rw [tl_zSeat]; simp)
      have hkl : (vicGo 3 x).2.toNat < (vicGo 3 x).1.seats.length := by omega
      have hpf' : ∀ i, i < (Kd.agg [1, 1]).cnt → i ≠ 0 → (qv i).free t' := fun i hi hne => by
        have : i = 1 := by have : i < 2 := hi; omega
        subst this; rw [v11]; trivial
      refine conv_root (l := 1001) (lq := 1000) (gq := 0) (bq := gb) (R' := upd (upd (fun _ => none) 6 (some (g2, b2, zSeatD))) 8 (some (g3, b3, seatU no r0 true))) (xq' := fun g => .node (.agg [1, 1]) (upd qv 0 (.msl 1001 g 0 [] 0 (vicGo 3 x).1.seats.length 20)))
        (hWt t' (by simp [D.tl])) (by simp -dsimp only [go_sem]) (own_free hoV) (by simp -dsimp only [go_sem]) (.node _ _ 0 (by decide) (has_eq qv0)) (fun g => ⟨plain_node _ _, thaw_upd (thaw_eq qv0) hpf'⟩) (free_put (free_pick fun j hj => ?_) trivial) (by decide) (fun l' g b z hz hne => ⟨?_, roots2 ⟨show zSeatD.plain from trivial, hZf⟩ ⟨show (seatU no r0 true).plain from trivial, hUf⟩ _ _ _ _ hz⟩) fun g => ?_
      · simp only [List.mem_cons, List.not_mem_nil, or_false] at hj
        rcases hj with rfl | rfl | rfl | rfl
        · exact (show (D.ptr 1000 0 0 []).free t' from trivial)
        · exact (show (D.ptr 6 g2 0 []).free t' from trivial)
        · exact (show (D.lit (.bool false)).free t' from trivial)
        · exact (show (D.ptr 8 g3 0 []).free t' from trivial)
      · rw [upd_ne _ _ hne]; exact hz
      have hh0 := vk.1
      have hh1 : (vicGo 3 x).2 < ((vicGo 3 x).1.seats.length : Int) := by omega
      have hse := hf' _ hkl
      have sp := shp_seat _ _ hse
      simp -dsimp only [go_sem, v11, hh0, hh1, hkl, sp.1, sp.2.1, sp.2.2.1, hUp.1, hUp.2.1, hUp.2.2.1]
      intro g10 b10 hb10
      refine iwp_plan [(0, true), (1, true), (2, true), (3, true), (4, true), (5, true), (6, true), (7, false)] [8, 1000] rfl (by decide +kernel) (by decide) [6, 7] (by decide +kernel) ?_
      simp -dsimp only [go_sem, v11, hh0, hh1, hkl, sp.1, sp.2.1, sp.2.2.1, hUp.1, hUp.2.1, hUp.2.2.1]
      have hn5' : b3 + 1 ≤ n5 := hn5
      have hn6' : n5 ≤ n6 := hn6
      have hb10' : n6 ≤ b10 := hb10
      refine ⟨trivial, rfl, _, rfl, fun n1 hn1 hfc => ?_⟩
      have hsw := own_swap hoV hUo (by omega) (by omega) hkl
      have hst2 : ∀ j, (upd f' (vicGo 3 x).2.toNat (seatU no r0 true) j).still := still_upd hfs' hUp.2.2.2
      have hge : (vicGo 3 x).1.seats[(vicGo 3 x).2.toNat]? = some ((vicGo 3 x).1.seats[(vicGo 3 x).2.toNat]) := List.getElem?_eq_getElem hkl
      rw [rl_node]
      refine br_end (sd := .sl t' true (vicGo 3 x).1.seats.length 20 (upd f' (vicGo 3 x).2.toNat (seatU no r0 true))) (a := f' (vicGo 3 x).2.toNat) (hd := (vicGo 3 x).1.hand) ?_ ?_ (gs_upd fun j => .inl (qvs j)) (by rw [bringDo_vic h3]) (isL_set hfs' hUp.2.2.2 hf' hU (by omega)) (by rw [bringDo_vic h3, hge]; exact hse) (hsw.mono (Nat.le_refl _) (by omega)) (fun b hb => (tl_sl_upd hb).elim (hsub b) fun h => .inr (by have := hUo.rg b h; omega)) (fun b hb => hsub b (tl_row hkl hb)) ?_
      · simp -dsimp only [go_sem, qv0]
        rw [rls_still hst2]
      · simp -dsimp only [go_sem, v11, rl_lit]
      · rw [bringDo_vic h3, rl_still sp.2.2.2]
end Go.Proofs.Ytkigfigdoaoboaa.IM
end

section
/- Contracts: Bring. Printed by bring2.py. -/
namespace Go.Proofs.Ytkigfigdoaoboaa.IM
open Go Go.Proofs
set_option linter.unusedVariables false
set_option linter.unusedSimpArgs false
set_option maxHeartbeats 2000000
set_option maxRecDepth 20000

theorem zSeat_tags {p : Nat → Prop} : zSeatD.tags p := tags_of_tl (whole_data whole_zSeat) fun t ht => by rw [tl_zSeat] at ht; simp at ht
def BringR (x : Md.Pool) (no : Int) (y : Md.Page) (n0 n1 : Nat) (r : D) : Prop := Three (fun a b => IsPool a (bring x no y).1 ∧ IsSeat b (bring x no y).2.1 ∧ Own2 n0 n1 a b) (.lit (.bool (bring x no y).2.2)) r
theorem br_no {x : Md.Pool} {no : Int} {y : Md.Page} {n0 n1 lo hi : Nat} {a b c : D} (hb : brOk x no y = false) (h : IsPool a x) (ho : Own lo hi a) (h1 : n0 ≤ lo) (h2 : hi ≤ n1) (eb : b = zSeatD) (ec : c = .lit (.bool false)) : BringR x no y n0 n1 (.tup 3 (nthD [a, b, c])) := by
  subst eb; subst ec
  unfold BringR
  rw [bring_no hb]
  exact .mk _ _ ⟨h, isSeat_z, Own2.plain (ho.mono h1 h2) tl_zSeat whole_zSeat⟩
theorem br_yes {x : Md.Pool} {no : Int} {y : Md.Page} {n0 n1 lo hi : Nat} {a b c : D} (hb : brOk x no y = true) (h : IsPool a (bringDo x no y).1) (hs : IsSeat b (bringDo x no y).2.1) (ho : Own2 lo hi a b) (h1 : n0 ≤ lo) (h2 : hi ≤ n1) (ec : c = .lit (.bool (bringDo x no y).2.2)) : BringR x no y n0 n1 (.tup 3 (nthD [a, b, c])) := by
  subst ec
  unfold BringR
  rw [bring_yes hb]
  exact .mk _ _ ⟨h, hs, ho.mono h1 h2⟩
/-- the same for an answer of two -/
theorem conv_tup {W : Nat → Prop} {K : St → Prop} {N n t m sz l dst : Nat} {kd : Kd} {f p s : Nat → D} {v : Value} {R R' : Roots} (keep : List Nat)
    (hW : W t) (hl : R l = none) (hf : ∀ i, i < m → (f i).free t) (i0 : Nat) (hi0 : i0 < kd.cnt) (hp : p i0 = .sl t true m sz f) (hpf : ∀ i, i < kd.cnt → i ≠ i0 → (p i).free t)
    (hs : ∀ j ∈ keep, (s j).free t) (hR : ∀ l' g b x, R' l' = some (g, b, x) → R l' = some (g, b, x) ∧ x.plain ∧ x.free t)
    (hk : ∀ g, K ⟨N, n, upd (pickS s keep fun _ => .any) dst (.tup 2 (nthD [.node kd (upd p i0 (.msl l g 0 [] 0 m sz)), .lit v])), upd R' l (some (g, t, .node (.arr m sz) f))⟩) :
    Conv W K ((St.mk N n s R).put (some dst) (.tup 2 (nthD [.node kd p, .lit v]))) := by
  refine Conv.one ⟨t, m, sz, f, l, hW, hl, hf, ⟨dst, ?_⟩, fun g => ⟨_, _, fun j => ?_, fun l' => ?_, hk g⟩⟩
  · show Has _ (upd s dst _ dst)
    rw [upd_same]
    exact .tup _ _ 0 (by decide) (.node _ _ i0 hi0 (has_eq hp))
  · show Thaw t m sz f l g (upd s dst _ j) _
    by_cases hj : j = dst
    · subst hj; rw [upd_same, upd_same]
      refine .tup _ _ _ fun i hi => ?_
      match i, hi with
      | 0, _ => exact thaw_upd (thaw_eq hp) hpf
      | 1, _ => exact .free _ trivial
    · rw [upd_ne _ _ hj, upd_ne _ _ hj]; exact thaw_pick hs j
  · by_cases hll : l' = l
    · subst hll; exact .inr (.inl ⟨rfl, upd_same _ _ _⟩)
    · rw [upd_ne _ _ hll]
      cases hx : R' l' with
      | none => exact .inl rfl
      | some y =>
        obtain ⟨g0, b, x⟩ := y
        obtain ⟨h1, h2, h3⟩ := hR _ _ _ _ hx
        exact .inr (.inr ⟨hll, g0, b, x, x, h1, rfl, h2, .free _ h3⟩)
theorem Fill.wide {α : Type} {R : D → α → Prop} {sz lo lo' hi hi' : Nat} {xs : List α} {n i : Nat} {f : Nat → D} (h : Fill R sz lo hi xs n i f) (h1 : lo' ≤ lo) (h2 : hi ≤ hi') : Fill R sz lo' hi' xs n i f := ⟨h.st, h.sh, h.ok, h.own.mono h1 h2⟩
theorem br_end3 {x : Md.Pool} {no : Int} {y : Md.Page} {n0 n1 k : Nat} {F : Relab} {qq : Nat → D} {sd a a' c : D} {ss : List Md.Seat} {hd : Int} (hb : brOk x no y = true)
    (e0 : rl k F (qq 0) = sd) (e1 : rl k F (qq 1) = .lit (.int .i64 hd)) (hqq : ∀ j, (qq j).still ∨ j = 0) (hP : (bringDo x no y).1 = ⟨ss, hd⟩) (hL : IsL 20 IsSeat sd ss) (hA : IsSeat a (bringDo x no y).2.1)
    (hO : Own2 n0 n1 sd a) (ea : a' = a) (ec : c = .lit (.bool (bringDo x no y).2.2)) : BringR x no y n0 n1 (.tup 3 (nthD [.node (.agg [1, 1]) fun i => rl k F (qq i), a', c])) := by
  subst ea
  have hg := (grow_fin (x := ⟨ss, hd⟩) (n0 := n0) (n1 := n1) e0 e1 hqq hL hO.oa).out
  have htl := tl_pool e0 e1
  exact br_yes hb (by rw [hP]; exact hg.1) hA ⟨hg.2, hO.ob, fun t h1 => hO.ap t (htl ▸ h1)⟩ (Nat.le_refl _) (Nat.le_refl _) ec
theorem specBring_p (d d2 : D) (x : Md.Pool) (no : Int) (y : Md.Page) (h : IsPool d x) (h2 : IsPage d2 y) (hs : Md.szPool x ≤ 1048576) (hs2 : Md.szPage y ≤ 1048576) (hd : d.data) (hd2 : d2.data) :
    PCall Try.prog 53 [d, .lit (.int .i64 no), d2] (BringR x no y) := by
  have hp := h
  have hp2 := h2
  have eq := shp_pool _ _ h
  have eq2 := shp_page _ _ h2
  have e1 := eq.1
  have e2 := eq.2.1
  have e3 := eq.2.2.1
  have e4 := eq.2.2.2
  have y1 := eq2.1
  have y2 := eq2.2.1
  have y3 := eq2.2.2.1
  have y4 := eq2.2.2.2
  refine pcall_intro_t Try.func53 rfl (by decide) rfl (by decide) (by rw [Try.ntmps53]; simp) fun w0 M n0 hW hT => ivc_sound ?_; simp -dsimp only [Try.f53, go_sem, e1, e2, e3, y1, y2, y3]
  have dT2 : d2.tags (· < n0) := hT _ (by simp) hd2
  intro g1 b1 hb1 g2 b2 hb2 g3 b3 hb3 g4 b4 hb4
  refine xcall_p (l6Copy_p _ _ hp hs) (by simp -dsimp only [go_sem, rl_still, e4]) fun m0 p0 r0 hm0 hp0 hr0w => ?_
  have hr0 := hr0w.out
  have ho := hr0.2
  have hi := hr0.1
  have rq := shp_pool _ _ hi
  have hm0' : b4 + 1 ≤ m0 := hm0
  refine ⟨ho.tags, ?_⟩
  simp -dsimp only [go_sem, e1, e2, e3, y1, y2, y3, rq.1, rq.2.1, rq.2.2.1]
  intro g5 b5 hb5
  have hb5' : p0 ≤ b5 := hb5
  have hno : ∀ {a : Bool} {p : Prop}, (a = true ∨ p) = (a = true ∨ p) := rfl
  repeat' (first
    | (refine xcall_v (specPoolOk_p _ _ hp) ?_ (fun _ => trivial) (fun _ _ => ?_); (focus (simp -dsimp only [go_sem, rl_still, e4, e1, e2, e3, y1, y2, y3, rq.1, rq.2.1, rq.2.2.1]; first | done | rfl)); simp -dsimp only [go_sem, e1, e2, e3, y1, y2, y3, rq.1, rq.2.1, rq.2.2.1])
    | (refine xcall_v (l1In_p no 0 7) ?_ (fun _ => trivial) (fun _ _ => ?_); (focus (simp -dsimp only [go_sem, rl_still, e1, e2, e3, y1, y2, y3, rq.1, rq.2.1, rq.2.2.1]; first | done | rfl)); simp -dsimp only [go_sem, e1, e2, e3, y1, y2, y3, rq.1, rq.2.1, rq.2.2.1])
    | (refine xcall_v (specPageOk_p _ _ hp2) ?_ (fun _ => trivial) (fun _ _ => ?_); (focus (simp -dsimp only [go_sem, rl_still, y4, e1, e2, e3, y1, y2, y3, rq.1, rq.2.1, rq.2.2.1]; first | done | rfl)); simp -dsimp only [go_sem, e1, e2, e3, y1, y2, y3, rq.1, rq.2.1, rq.2.2.1])
    | (refine xcall_v (specSeated_p _ _ no hp) ?_ (fun _ => trivial) (fun _ _ => ?_); (focus (simp -dsimp only [go_sem, rl_still, e4, e1, e2, e3, y1, y2, y3, rq.1, rq.2.1, rq.2.2.1]; first | done | rfl)); simp -dsimp only [go_sem, e1, e2, e3, y1, y2, y3, rq.1, rq.2.1, rq.2.2.1])
    | refine ⟨?_, ?_⟩ | with_reducible intro _)
  all_goals first
    | (rename_i hfc
       rw [rl_still rq.2.2.2]
       refine br_no (lo := m0) (hi := p0) ?_ hi ho (by omega) (by omega) (rl_still (d := zSeatD) still_zSeat) rfl
       simp_all [brOk]; done)
    | skip
  rename_i t1 _ _ t2 _ _ t3 _ _ t4
  have hpo : Md.poolOk x = true := by simpa using t1
  have hneg : Md.seated x no < 0 := by simpa using t4
  have hbr : brOk x no y = true := by simp_all [brOk]
  obtain ⟨q, rfl, hqs, _⟩ := hr0.1
  rename_i x1 x2 x3 x4 x5 x6 x7 x8 x9
  refine xcall_b (l := 9) (g := g5) (b := b5) (l6Bring_b q d2 x no y m0 p0 hi hp2 ho (fun t ht => free_of_tags (m := n0) (by have := ho.rg t ht; omega) dT2) hs2 hpo) (by simp -dsimp only [go_sem]) (by simp -dsimp only [go_sem]) rq.2.2.2 ⟨trivial, y4, trivial⟩ (fun b hb => hb) (fun b hb => hW b (by have := ho.rg b hb; omega)) [6, 7, 8, 9]
    (upd (upd (fun _ => none) 6 (some (g3, b3, .node (.agg [1, 1]) (nthD [.nil, .lit (.int .i64 0)])))) 7 (some (g4, b4, zSeatD))) (by simp -dsimp only [go_sem]) fun n5 n6 d' r hn5 hn6 ht hq =>
    ⟨by simp -dsimp only [go_sem], CarR.skip (((CarR.skip (CarR.skip (CarR.none _ _ _) rfl) rfl).upd (plain_node _ _) (.apart _ zlog_tags)).upd (plain_node _ _) (.apart _ zSeat_tags)) rfl, ?_⟩
  obtain ⟨a, rfl, v1, v2, v3⟩ := hq
  have vp := shp_pool _ _ v1
  have ap := shp_seat _ _ v2
  have zs : zSeatD.size = 20 := rfl
  have zp : zSeatD.plain := plain_node _ _
  simp -dsimp only [go_sem, vp.1, vp.2.1, vp.2.2.1, ap.1, ap.2.1, ap.2.2.1]
  intro g10 b10 hb10
  refine iwp_plan [(0, true), (1, true), (2, true), (3, false), (4, false), (5, true)] [9, 10] rfl (by decide +kernel) (by decide) [] (by decide +kernel) ?_
  simp -dsimp only [go_sem, vp.1, vp.2.1, vp.2.2.1, ap.1, ap.2.1, ap.2.2.1, zs, zp]
  intro n1 hn1 hfc
  have hn5' : p0 ≤ n5 := by have : x7 ≤ n5 := hn5; omega
  have hn10' : n6 ≤ b10 := hb10
  rw [rl_still vp.2.2.2, rl_still ap.2.2.2]
  exact br_yes hbr v1 v2 v3 (by omega) (by omega) rfl
theorem bring_p (d d2 : D) (x : Md.Pool) (no : Int) (y : Md.Page) (h : IsPool d x) (h2 : IsPage d2 y) (hs : Md.szPool x ≤ 1048576) (hs2 : Md.szPage y ≤ 1048576) (hd : d.data) (hd2 : d2.data) :
    PCall Try.prog 52 [d, .lit (.int .i64 no), d2] (BringR x no y) := by
  have hp := h
  have hp2 := h2
  have eq := shp_pool _ _ h
  have eq2 := shp_page _ _ h2
  have e1 := eq.1
  have e2 := eq.2.1
  have e3 := eq.2.2.1
  have e4 := eq.2.2.2
  have y1 := eq2.1
  have y2 := eq2.2.1
  have y3 := eq2.2.2.1
  have y4 := eq2.2.2.2
  obtain ⟨f0, rfl, hst, a0, a1⟩ := h
  have k1 : f0 1 = _ := a1
  refine pcall_intro_t Try.func52 rfl (by decide) rfl (by decide) (by rw [Try.ntmps52]; simp) fun w0 M n0 hW hT => ivc_sound ?_; simp -dsimp only [Try.f52, go_sem, e1, e2, e3, y1, y2, y3, k1, a0.size, a0.isNode, a0.plain, a0.lenT]
  have dT2 : d2.tags (· < n0) := hT _ (by simp) hd2
  have dT : (D.node (.agg [1, 1]) f0).tags (· < n0) := hT _ (by simp) hd
  intro g1 b1 hb1 g2 b2 hb2 g3 b3 hb3 g4 b4 hb4
  repeat' (first
    | (refine xcall_v (poolOk_p _ _ hp) ?_ (fun _ => trivial) (fun _ _ => ?_); (focus (simp -dsimp only [go_sem, rl_still, e4, e1, e2, e3, y1, y2, y3, k1, a0.size, a0.isNode, a0.plain, a0.lenT]; first | done | rfl)); simp -dsimp only [go_sem, e1, e2, e3, y1, y2, y3, k1, a0.size, a0.isNode, a0.plain, a0.lenT])
    | (refine xcall_v (in_p no 0 7) ?_ (fun _ => trivial) (fun _ _ => ?_); (focus (simp -dsimp only [go_sem, rl_still, e1, e2, e3, y1, y2, y3, k1, a0.size, a0.isNode, a0.plain, a0.lenT]; first | done | rfl)); simp -dsimp only [go_sem, e1, e2, e3, y1, y2, y3, k1, a0.size, a0.isNode, a0.plain, a0.lenT])
    | (refine xcall_v (pageOk_p _ _ hp2) ?_ (fun _ => trivial) (fun _ _ => ?_); (focus (simp -dsimp only [go_sem, rl_still, y4, e1, e2, e3, y1, y2, y3, k1, a0.size, a0.isNode, a0.plain, a0.lenT]; first | done | rfl)); simp -dsimp only [go_sem, e1, e2, e3, y1, y2, y3, k1, a0.size, a0.isNode, a0.plain, a0.lenT])
    | (refine xcall_v (seated_p _ _ no hp) ?_ (fun _ => trivial) (fun _ _ => ?_); (focus (simp -dsimp only [go_sem, rl_still, e4, e1, e2, e3, y1, y2, y3, k1, a0.size, a0.isNode, a0.plain, a0.lenT]; first | done | rfl)); simp -dsimp only [go_sem, e1, e2, e3, y1, y2, y3, k1, a0.size, a0.isNode, a0.plain, a0.lenT])
    | refine ⟨?_, ?_⟩ | with_reducible intro _)
  all_goals try
      (refine xcall_p (clonePool_p _ _ hp hs) (by simp -dsimp only [go_sem, rl_still, e4]) fun m0 p0 r0 hm0 hp0 hr0w => ?_
       have hr0 := hr0w.out
       have rq := shp_pool _ _ hr0.1
       refine ⟨hr0.2.tags, ?_⟩
       simp -dsimp only [go_sem, e1, e2, e3, y1, y2, y3, k1, a0.size, a0.isNode, a0.plain, a0.lenT, rq.1, rq.2.1, rq.2.2.1]
       intro n1 hn1 hfc
       rw [rl_still rq.2.2.2]
       have hm0' := hm0
       try dsimp only at hm0'
       refine br_no (lo := m0) (hi := p0) ?_ hr0.1 hr0.2 (by omega) (by omega) (rl_still (d := zSeatD) still_zSeat) rfl
       simp_all [brOk]; done)
  rename_i x1 h1 t1 x2 h2' t2 x3 h3' t3 x4 h4' t4
  have hpo : Md.poolOk x = true := by simpa using t1
  have hneg : Md.seated x no < 0 := by simpa using t4
  have hbr : brOk x no y = true := by simp_all [brOk]
  have hh := poolOk_hand hpo
  refine xcall_p (clonePage_p _ _ hp2 hs2) (by simp -dsimp only [go_sem, rl_still, y4]) fun m0 p0 r0 hm0 hp0 hr0 => ?_
  have hm0' : x4 ≤ m0 := hm0
  have rq := shp_page _ _ hr0.1
  refine ⟨hr0.2.tags, ?_⟩
  have hU := isSeat_U (no := no) hr0.1
  have hUo := own_seatU (no := no) hr0.2
  have hUp := shp_seat _ _ hU
  simp -dsimp only [go_sem, e1, e2, e3, y1, y2, y3, k1, a0.size, a0.isNode, a0.plain, a0.lenT, rq.1, rq.2.1, rq.2.2.1]
  intro g9 b9 hb9
  by_cases h3 : x.seats.length < 3
  · have h3i : ((x.seats.length : Int) < 3) := by omega
    simp -dsimp only [go_sem, h3i, e1, e2, e3, y1, y2, y3, k1, a0.size, a0.isNode, a0.plain, a0.lenT, rq.1, rq.2.1, rq.2.2.1, hUp.1, hUp.2.1, hUp.2.2.1]
    refine xcall_t (clonePool_p _ _ hp hs) (by simp -dsimp only [go_sem, rl_still, e4]) fun m1 p1 r1 hm1 hp1 hr1w => ?_
    have hr1 := hr1w.out
    have hm1' : b9 + 1 ≤ m1 := hm1
    refine ⟨hr1.2.tags, ?_⟩
    have ho := hr1.2
    obtain ⟨q, rfl, hqs, hq0, q1⟩ := hr1.1
    have q1 : q 1 = _ := q1
    rcases hq0 with ⟨q0, hnil⟩ | ⟨t, zb, f, q0, hfs, hfl, hf⟩
    · refine Conv.zero ?_
      simp -dsimp only [go_sem, h3i, e1, e2, e3, y1, y2, y3, k1, a0.size, a0.isNode, a0.plain, a0.lenT, rq.1, rq.2.1, rq.2.2.1, hUp.1, hUp.2.1, hUp.2.2.1, q0, q1]
      intro g10 b10 hb10 g11 b11 hb11
      have hb11' : b10 + 1 ≤ b11 := hb11
      refine ⟨fun y h => h.symm, fun g12 b12 n' hn' hb12 hb13 n1 hn1 hfc => ?_⟩
      rw [rl_node]
      have hF : Fill IsSeat 20 m0 p0 [newSeat no y] 1 1 (upd (fun _ => zSeatD) 0 (seatU no r0 true)) := Fill.one (xs := [newSeat no y]) (fun _ => still_zSeat) shp_seat (Nat.lt_succ_self 0) hU hUo (Nat.le_refl _) (Nat.le_refl _) (by omega)
      have hL := hF.isLs (b := b12) (n1 := n1) rfl (by decide) (by omega) hfc.here.1 (by omega) hfc.here.2
      refine br_end3 (sd := .sl b12 true 1 20 (upd (fun _ => zSeatD) 0 (seatU no r0 true))) (a := zSeatD) (hd := x.hand) hbr ?_ ?_ (gs_upd fun j => .inl (hqs j)) (by rw [bringDo_app h3, hnil]; rfl) hL.1 (by rw [bringDo_app h3]; exact isSeat_z) (Own2.plain (hL.2.1.mono (by omega) (by omega)) tl_zSeat whole_zSeat) (rl_still (d := zSeatD) still_zSeat) (by rw [bringDo_app h3])
      · simp -dsimp only [go_sem, q0]
        exact congrArg (D.sl b12 true 1 20) (rls_still hL.2.2)
      · simp -dsimp only [go_sem, q1, rl_lit]
    · have hoS : Own m1 p1 (.sl t zb x.seats.length 20 f) := by
        have := ho.node.own (i := 0) (by decide)
        rw [q0] at this
        exact this
      obtain rfl : zb = true := hoS.wh.1
      have ht := hoS.rg t (by simp [D.tl])
      have hdf : (D.node (.agg [1, 1]) f0).free t := free_of_tags (m := n0) (by omega) dT
      have hdf2 : d2.free t := free_of_tags (m := n0) (by omega) dT2
      have hUf : (seatU no r0 true).free t := free_nil hUo.wh fun hx => by have := hUo.rg _ hx; omega
      have hZf : zSeatD.free t := free_nil whole_zSeat (by rw [tl_zSeat]; simp)
      have hPf : (D.node (.agg [1, 1]) (nthD [.nil, .lit (.int .i64 0)])).free t := free_of_tags (m := 0) (Nat.zero_le _) zlog_tags
      refine conv_field (l := 1000) [3, 5, 6, 7, 8, 9] (hW t (by omega)) (by simp -dsimp only [go_sem]) (own_free hoS) 0 (by decide) q0 (fun i hi hne => ?_) (fun j hj => ?_) (fun l' g b z hz => ⟨hz, (((((OkR.none t).upd e3 hdf).upd y3 hdf2).upd (plain_node _ _) hPf).upd (show zSeatD.plain from trivial) hZf).upd (show (seatU no r0 true).plain from trivial) hUf _ _ _ _ hz⟩) fun g => ?_
      · have : i = 1 := by have : i < 2 := hi; omega
        subst this; rw [q1]; trivial
      · simp only [List.mem_cons, List.not_mem_nil, or_false] at hj
        rcases hj with rfl | rfl | rfl | rfl | rfl | rfl
        all_goals first | exact free_ptr t _ _ _ _ | exact free_lit t _
      simp -dsimp only [go_sem, h3i, e1, e2, e3, y1, y2, y3, k1, a0.size, a0.isNode, a0.plain, a0.lenT, rq.1, rq.2.1, rq.2.2.1, hUp.1, hUp.2.1, hUp.2.2.1, q0, q1]
      intro g10 b10 hb10 g11 b11 hb11
      have hb11' : b10 + 1 ≤ b11 := hb11
      have hb10' : p1 ≤ b10 := hb10
      refine ⟨fun y h => h.symm, by omega, by omega, fun g12 b12 n' hn' hb12 hb13 n1 hn1 hfc => ?_⟩
      have hb14 : n0 ≤ b12 := by rcases hb13 with h | h <;> omega
      rw [rl_node]
      have hF := Fill.catA ((fill_snoc (x := newSeat no y) shp_seat hfs hf hoS).wide (lo' := m0) (by omega) (Nat.le_refl _)) (z := fun _ => zSeatD) (fun _ => still_zSeat) shp_seat (by simp) (by rw [snoc_get]; exact hU) (hUo.mono (Nat.le_refl _) (by omega)) (fun j hj b hb hx => by have := hoS.sl.1.rg j hj b hb; have := hUo.rg b hx; omega)
      have hL := hF.isLs (b := b12) (n1 := n1) (by simp) (by omega) (by rcases hb13 with h | h <;> omega) hfc.here.1 (by omega) hfc.here.2
      refine br_end3 (sd := .sl b12 true (x.seats.length + 1) 20 (catD x.seats.length f (upd (fun _ => zSeatD) 0 (seatU no r0 true)))) (a := zSeatD) (hd := x.hand) hbr ?_ ?_ (gs_upd fun j => .inl (hqs j)) (by rw [bringDo_app h3]) hL.1 (by rw [bringDo_app h3]; exact isSeat_z) (Own2.plain (hL.2.1.mono (by omega) (by omega)) tl_zSeat whole_zSeat) (rl_still (d := zSeatD) still_zSeat) (by rw [bringDo_app h3])
      · simp -dsimp only [go_sem, q0]
        exact congrArg (D.sl b12 true (x.seats.length + 1) 20) (rls_still hL.2.2)
      · simp -dsimp only [go_sem, q1, rl_lit]
  · have h3i : ¬ ((x.seats.length : Int) < 3) := by omega
    simp -dsimp only [go_sem, h3i, e1, e2, e3, y1, y2, y3, k1, a0.size, a0.isNode, a0.plain, a0.lenT, rq.1, rq.2.1, rq.2.2.1]
    have h33 : x.seats.length = 3 := by omega
    have hyes : victim x = vicGo 3 x := victim_yes (by unfold vicOk; rw [hpo, h33]; rfl)
    have hvp := victim_p _ _ hp hs hd
    rw [hyes] at hvp
    refine xcall_t hvp (by simp -dsimp only [go_sem, rl_still, e4]) fun m1 p1 r1 hm1 hp1 hr1w => ?_
    obtain ⟨r1, rfl, hr1⟩ := hr1w.out
    have hm1' : b9 + 1 ≤ m1 := hm1
    refine ⟨tags_two hr1.2.tags, ?_⟩
    have ho := hr1.2
    have vk := vicGo_rg 3 x hh.1 hh.2.1
    have vl := vicGo_lenP hh.1 hh.2.1
    obtain ⟨q, rfl, hqs, hq0, q1⟩ := hr1.1
    have q1 : q 1 = _ := q1
    obtain ⟨t, zb, f, q0, hfs, hf⟩ := hq0.sl (i := 0) (by omega)
    have hoS : Own m1 p1 (.sl t zb (vicGo 3 x).1.seats.length 20 f) := by
      have := ho.node.own (i := 0) (by decide)
      rw [q0] at this
      exact this
    obtain rfl : zb = true := hoS.wh.1
    have ht := hoS.rg t (by simp [D.tl])
    have hkl : (vicGo 3 x).2.toNat < (vicGo 3 x).1.seats.length := by omega
    have hh0 := vk.1
    have hh1 : (vicGo 3 x).2 < ((vicGo 3 x).1.seats.length : Int) := by omega
    have hse := hf _ hkl
    have sp := shp_seat _ _ hse
    have hdf : (D.node (.agg [1, 1]) f0).free t := free_of_tags (m := n0) (by omega) dT
    have hdf2 : d2.free t := free_of_tags (m := n0) (by omega) dT2
    have hUf : (seatU no r0 true).free t := free_nil hUo.wh fun hx => by have := hUo.rg _ hx; omega
    have hZf : zSeatD.free t := free_nil whole_zSeat (by rw [tl_zSeat]; simp)
    have hPf : (D.node (.agg [1, 1]) (nthD [.nil, .lit (.int .i64 0)])).free t := free_of_tags (m := 0) (Nat.zero_le _) zlog_tags
    refine conv_tup (l := 1000) [3, 5, 6, 7, 8, 9] (hW t (by omega)) (by simp -dsimp only [go_sem]) (own_free hoS) 0 (by decide) q0 (fun i hi hne => ?_) (fun j hj => ?_) (fun l' g b z hz => ⟨hz, (((((OkR.none t).upd e3 hdf).upd y3 hdf2).upd (plain_node _ _) hPf).upd (show zSeatD.plain from trivial) hZf).upd (show (seatU no r0 true).plain from trivial) hUf _ _ _ _ hz⟩) fun g => ?_
    · have : i = 1 := by have : i < 2 := hi; omega
      subst this; rw [q1]; trivial
    · simp only [List.mem_cons, List.not_mem_nil, or_false] at hj
      rcases hj with rfl | rfl | rfl | rfl | rfl | rfl
      all_goals first | exact free_ptr t _ _ _ _ | exact free_lit t _
    simp -dsimp only [go_sem, h3i, e1, e2, e3, y1, y2, y3, k1, a0.size, a0.isNode, a0.plain, a0.lenT, rq.1, rq.2.1, rq.2.2.1, hUp.1, hUp.2.1, hUp.2.2.1, q1, hh0, hh1, hkl, sp.1, sp.2.1, sp.2.2.1]
    intro g11 b11 hb11 g13 b13 hb13
    have hb11' : p1 ≤ b11 := hb11
    have hb13' : b11 + 1 ≤ b13 := hb13
    refine iwp_plan [(0, true), (1, true), (2, false), (3, false), (4, true)] [11, 13] rfl (by decide +kernel) (by decide) [] (by decide +kernel) ?_
    simp -dsimp only [go_sem, h3i, e1, e2, e3, y1, y2, y3, k1, a0.size, a0.isNode, a0.plain, a0.lenT, rq.1, rq.2.1, rq.2.2.1, hUp.1, hUp.2.1, hUp.2.2.1, q1, hh0, hh1, hkl, sp.1, sp.2.1, sp.2.2.1]
    intro n1 hn1 hfc
    have hsw := own_swapA (hoS.mono (by omega : m0 ≤ m1) (Nat.le_refl _)) (hUo.mono (Nat.le_refl _) (by omega)) (fun b hb hx => by have := hUo.rg b hb; have := hoS.rg b hx; omega) hkl
    have hst2 : ∀ j, (upd f (vicGo 3 x).2.toNat (seatU no r0 true) j).still := still_upd hfs hUp.2.2.2
    have hge : (vicGo 3 x).1.seats[(vicGo 3 x).2.toNat]? = some ((vicGo 3 x).1.seats[(vicGo 3 x).2.toNat]) := List.getElem?_eq_getElem hkl
    rw [rl_node]
    refine br_end3 (sd := .sl t true (vicGo 3 x).1.seats.length 20 (upd f (vicGo 3 x).2.toNat (seatU no r0 true))) (a := f (vicGo 3 x).2.toNat) (hd := (vicGo 3 x).1.hand) hbr ?_ ?_ (gs_upd fun j => .inl (hqs j)) (by rw [bringDo_vic h3]) (isL_set hfs hUp.2.2.2 hf hU (by omega)) (by rw [bringDo_vic h3, hge]; exact hse) (hsw.mono (by omega) (by omega)) (rl_still sp.2.2.2) (by rw [bringDo_vic h3])
    · simp -dsimp only [go_sem, q0]
      exact congrArg (D.sl t true (vicGo 3 x).1.seats.length 20) (rls_still hst2)
    · simp -dsimp only [go_sem, q1, rl_lit]
end Go.Proofs.Ytkigfigdoaoboaa.IM
end
