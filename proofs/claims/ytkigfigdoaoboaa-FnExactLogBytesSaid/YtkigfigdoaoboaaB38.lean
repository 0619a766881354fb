/- Several of my texts in one module (merge.py). -/
import Derived.Test.YtkigfigdoaoboaaB36
import Derived.Test.YtkigfigdoaoboaaB11
import Derived.Test.YtkigfigdoaoboaaA4
section
/- Bytes in their range, whatever is put; contracts: pages as bytes. -/
namespace Go.Proofs.Ytkigfigdoaoboaa.IM
open Go Go.Proofs Go.RowKit
set_option linter.unusedVariables false
set_option linter.unusedSimpArgs false
set_option maxHeartbeats 2000000
set_option maxRecDepth 20000

theorem InR.nil : InR [] := fun b hb => absurd hb (by simp)
theorem InR.app {xs ys : List Int} (h : InR xs) (h' : InR ys) : InR (xs ++ ys) := fun b hb => (List.mem_append.1 hb).elim (h b) (h' b)
theorem inR_groups : ∀ (k m : Nat), InR (Md.groupsOf k m)
  | 0, m => fun b hb => by
    unfold Md.groupsOf at hb
    rw [List.mem_singleton] at hb
    omega
  | k + 1, m => fun b hb => by
    unfold Md.groupsOf at hb
    split at hb
    · rcases List.mem_cons.1 hb with h | h
      · omega
      · exact inR_groups k _ b h
    · rw [List.mem_singleton] at hb
      omega
theorem InR.putInt {b : List Int} (h : InR b) (n : Int) : InR (Md.putInt b n) := h.app (inR_groups _ _)
theorem InR.foldInt : ∀ (l : List Int) {b : List Int}, InR b → InR (l.foldl Md.putInt b)
  | [], _, h => h
  | n :: l, _, h => InR.foldInt l (h.putInt n)
theorem InR.putInts {b : List Int} (h : InR b) (l : List Int) : InR (Md.putInts b l) := InR.foldInt l (h.putInt _)
theorem inR_obj (o : Md.Obj) : InR (Md.putObj o) := by
  cases h : Md.objOk o with
  | false => rw [putObj_no h]; exact InR.nil
  | true => rw [putObj_yes h]; exact ((InR.nil.putInt _).putInts _).putInts _
theorem InR.slot {b : List Int} (h : InR b) (s : Md.Slot) : InR (putSlot b s) := by
  cases hs : s.has with
  | false => rw [putSlot_no hs]; exact h.putInt _
  | true => rw [putSlot_yes hs]; exact (h.putInt _).app (inR_obj _)
theorem InR.foldSlot : ∀ (l : List Md.Slot) {b : List Int}, InR b → InR (l.foldl putSlot b)
  | [], _, h => h
  | n :: l, _, h => InR.foldSlot l (h.slot n)
theorem InR.foldLive : ∀ (l : List Md.Live) {b : List Int}, InR b → InR (l.foldl putLive b)
  | [], _, h => h
  | n :: l, _, h => InR.foldLive l (((h.putInt _).putInt _).putInt _)
theorem inR_rec (r : Md.Rec) : InR (putRec r) := by
  cases h : Md.recOk r with
  | false => rw [putRec_no h]; exact InR.nil
  | true => rw [putRec_yes h]; exact InR.foldLive _ ((((InR.foldInt _ InR.nil).slot _).slot _).putInt _)
theorem frame_len (xs : List Int) : (Md.frame xs).length ≤ xs.length + 14 := by
  have h := putInt_length [] xs.length
  rw [← frame_flat]
  simp [Md.four_length] at *
  omega

/-- what a page's bytes are, before their frame -/
def pageIn (p : Md.Page) (i : Nat) : List Int := (p.slots.take i).foldl putSlot (Md.putInt [] p.lsn)
def putPage (p : Md.Page) : List Int := if Md.pageOk p = true then Md.frame (pageIn p 4) else []
theorem putPage_yes {p : Md.Page} (h : Md.pageOk p = true) : putPage p = Md.frame (pageIn p 4) := if_pos h
theorem putPage_no {p : Md.Page} (h : Md.pageOk p = false) : putPage p = [] := if_neg (by simp [h])
theorem foldSlot_length : ∀ (l : List Md.Slot) (b : List Int), (l.foldl putSlot b).length ≤ b.length + 1010 * l.length
  | [], _ => by simp
  | n :: l, b => by
    have h1 := putSlot_length b n
    have h2 := foldSlot_length l (putSlot b n)
    rw [List.foldl_cons, List.length_cons]; omega
theorem pageIn_length (p : Md.Page) (i : Nat) (h : i ≤ 4) : (pageIn p i).length ≤ 5000 := by
  have h1 := foldSlot_length (p.slots.take i) (Md.putInt [] p.lsn)
  have h2 := putInt_length [] p.lsn
  have h3 : (p.slots.take i).length ≤ 4 := by rw [List.length_take]; omega
  rw [List.length_nil] at h2
  unfold pageIn; omega
theorem pageIn_zero (p : Md.Page) : pageIn p 0 = Md.putInt [] p.lsn := rfl
theorem pageIn_succ {p : Md.Page} {i : Nat} (h : i < p.slots.length) : pageIn p (i + 1) = putSlot (pageIn p i) p.slots[i] := by
  unfold pageIn; rw [List.take_succ_eq_append_getElem h, List.foldl_append]; rfl
theorem inR_page (p : Md.Page) (i : Nat) : InR (pageIn p i) := InR.foldSlot _ (InR.nil.putInt _)
theorem putPage_length (p : Md.Page) : (putPage p).length ≤ 5014 := by
  cases h : Md.pageOk p with
  | false => rw [putPage_no h]; simp
  | true =>
    rw [putPage_yes h]
    have h1 := frame_len (pageIn p 4)
    have h2 := pageIn_length p 4 (by omega)
    omega

theorem specPutPage_p (d : D) (p : Md.Page) (h : IsPage d p) : PCall Try.prog 62 [d] fun n0 n1 r => IsL 1 IsByte r (putPage p) ∧ Own n0 n1 r := by
  have hd := h
  have q := shp_page _ _ h
  have q1 := q.1
  have q2 := q.2.1
  have q3 := q.2.2.1
  have q4 := q.2.2.2
  obtain ⟨f, rfl, hst, h0, hl, g, hg, hgs, h1⟩ := h
  have h0 : f 0 = _ := h0
  refine pcall_intro_t Try.func62 rfl (by decide) rfl (by decide) (by rw [Try.ntmps62]; simp) fun w0 M n0 hW hT => ivc_sound ?_; simp -dsimp only [Try.f62, go_sem, q1, q2, q3]
  intro g1 b1 hb1
  refine xcall_v (specPageOk_p _ _ hd) (by simp -dsimp only [go_sem, rl_still, q4]) (fun _ => trivial) fun n2 hn2 => ?_
  simp -dsimp only [go_sem]
  refine ⟨fun hb => ?_, fun hb => ?_⟩
  · intro g b hgb n1 hn1 hfc
    rw [putPage_no (by simpa using hb)]
    exact fin_zero (fun _ => by simp only [stillL_nil, stillL_cons, still_lit, still_nil, still_any, still_nodeN, still_nodeC, and_self]) rfl (by omega) (by omega)
  have hok : Md.pageOk p = true := by simpa using hb
  simp -dsimp only [go_sem, h0, hg]
  intro g2 b2 hb2
  have he : IsL 1 IsByte (.sl b2 true 0 1 fun _ => .lit (.int .u8 0)) [] := .inr ⟨b2, true, _, rfl, fun _ => trivial, by simp, fun i hi => absurd hi (by simp)⟩
  refine xcall_p (specPutInt_p _ _ p.lsn he (by simp)) (by simp -dsimp only [go_sem, rl_still]) fun m0 p0 r0 hm0 hp0 hr0 => ?_
  refine ⟨hr0.2.tags, ?_⟩
  have x0 := hr0.1.still
  simp -dsimp only [go_sem, h0, hg]
  refine iwp_forN 4 [1, 2] (fun i n' s => s 4 = .lit (.int .i64 i) ∧ IsL 1 IsByte (s 3) (pageIn p i) ∧ Own n0 n' (s 3)) 0 (Nat.zero_le _) ⟨by simp -dsimp only [go_sem]; rfl, by simp -dsimp only [go_sem]; exact hr0.1, by simp -dsimp only [go_sem]; exact hr0.2.mono (by omega) (by omega)⟩ ?_
  rintro i n' s hi hn hk ⟨h4, hB, hO⟩
  obtain ⟨hd3, h3⟩ : ∃ hd, s 3 = hd := ⟨_, rfl⟩
  rw [h3] at hB hO
  have b4 := hB.still
  refine ivc_sound ?_
  simp -dsimp only [go_sem] at hk
  have hpl := pageIn_length p i hi
  by_cases hlt : i < 4
  · have hc : (i : Int) < 4 := by omega
    have hlt' : i < p.slots.length := by omega
    have hfi := h1 i hlt'
    have qs := shp_slot _ _ hfi
    have e1 := qs.1
    have e2 := qs.2.1
    have e3 := qs.2.2.1
    have e4 := qs.2.2.2
    have hw := i64_succ (i := i) (by omega)
    simp -dsimp only [go_sem, hk, h4, h3, hlt, hc, hw, hg, e1, e2, e3]
    refine xcall_p (l3PutSlot_p _ _ _ p.slots[i] hB hfi (by omega)) (by simp -dsimp only [go_sem, rl_still, b4, e4]) fun m1 p1 r1 hm1 hp1 hr1 => ?_
    refine ⟨hr1.2.tags, ?_⟩
    simp -dsimp only [go_sem, hk, h4, hw]
    refine into_n (by omega) (by simp -dsimp only [go_sem, hk]) ⟨by simp -dsimp only [go_sem], ?_, by simp -dsimp only [go_sem]; exact hr1.2.mono (by omega) (by omega)⟩
    simp -dsimp only [go_sem]
    rw [pageIn_succ hlt']; exact hr1.1
  · have hc : ¬ (i : Int) < 4 := by omega
    obtain rfl : i = 4 := by omega
    simp -dsimp only [go_sem, hk, h4, h3, hc]
    refine xcall_p (specFrame_p _ _ hB (inR_page _ _) (by omega)) (by simp -dsimp only [go_sem, rl_still, b4]) fun m1 p1 r1 hm1 hp1 hr1 => ?_
    have y4 := hr1.1.still
    refine ⟨hr1.2.tags, ?_⟩
    simp -dsimp only [go_sem]
    intro n1 hn1 hfc
    rw [rl_still y4, putPage_yes hok]
    exact ⟨hr1.1, hr1.2.mono (by omega) (by omega)⟩
theorem putPage_p (d : D) (p : Md.Page) (h : IsPage d p) : PCall Try.prog 64 [d] fun n0 n1 r => IsL 1 IsByte r (putPage p) ∧ Own n0 n1 r := by
  have hd := h
  have q := shp_page _ _ h
  have q1 := q.1
  have q2 := q.2.1
  have q3 := q.2.2.1
  have q4 := q.2.2.2
  obtain ⟨f, rfl, hst, h0, hl, g, hg, hgs, h1⟩ := h
  have h0 : f 0 = _ := h0
  refine pcall_intro_t Try.func64 rfl (by decide) rfl (by decide) (by rw [Try.ntmps64]; simp) fun w0 M n0 hW hT => ivc_sound ?_; simp -dsimp only [Try.f64, go_sem, q1, q2, q3]
  intro g1 b1 hb1
  refine xcall_v (pageOk_p _ _ hd) (by simp -dsimp only [go_sem, rl_still, q4]) (fun _ => trivial) fun n2 hn2 => ?_
  simp -dsimp only [go_sem]
  refine ⟨fun hb => ?_, fun hb => ?_⟩
  · intro n1 hn1 hfc
    rw [putPage_no (by simpa using hb)]
    exact fin_nil
  have hok : Md.pageOk p = true := by simpa using hb
  simp -dsimp only [go_sem, h0, hg]
  refine xcall_o0 (l := 2550) (putInt_n p.lsn) rfl (by simp -dsimp only [go_sem]) ⟨trivial, trivial, trivial⟩ fun n3 m3 f3 G3 b3 hn3 hst3 hA3 hb3 hb3' => ?_
  obtain ⟨rfl, hA3⟩ := hA3
  simp -dsimp only [go_sem, h0, hg]
  refine iwp_forR 4 [2, 13] (fun i n' s R => s 14 = .lit (.int .i64 i) ∧ ∃ g b fb, s 3 = .msl 2550 g 0 [] 0 (pageIn p i).length 1 ∧
      R = upd (upd (fun _ => none) 1 (some (g1, b1, .node (.agg [1, 16]) f))) 2550 (some (g, b, .node (.arr (pageIn p i).length 1) fb)) ∧ ByteRow fb (pageIn p i) ∧ b < n') 0 (Nat.zero_le _) ⟨by simp -dsimp only [go_sem]; rfl, G3, b3, f3, by simp -dsimp only [go_sem]; rfl, rfl, hA3, by omega⟩ ?_
  rintro i n8 s8 R8 hi hn8 hk8 ⟨h14, g8, b8, f8, h38, rfl, hB8, hnb8⟩
  refine ivc_sound ?_
  simp -dsimp only [go_sem] at hk8
  have hpl := pageIn_length p i hi
  by_cases hlt : i < 4
  · have hc : (i : Int) < 4 := by omega
    have hlt' : i < p.slots.length := by omega
    have hfi := h1 i hlt'
    have qs := shp_slot _ _ hfi
    have e1 := qs.1
    have e2 := qs.2.1
    have e3 := qs.2.2.1
    have e4 := qs.2.2.2
    have hw := i64_succ (i := i) (by omega)
    simp -dsimp only [go_sem, hk8, h14, h38, hlt, hc, hw, hg, e1, e2, e3]
    intro g9 b9 hb9
    refine xcall_o1 (l := 2550) (g := g8) (putSlot_r _ _ p.slots[i] f8 hB8 hfi (by omega)) (by simp -dsimp only [go_sem]) (by simp -dsimp only [go_sem] <;> rfl) hB8.1 ⟨e4, trivial⟩ fun n10 m10 f10 G10 b10 hn10 hst10 hA10 hb10 hb10' => ?_
    obtain ⟨rfl, hA10⟩ := hA10
    simp -dsimp only [go_sem, hk8, h14, hw]
    rw [← pageIn_succ hlt'] at hA10 ⊢
    exact into_rd (drop2 rfl (by decide)) (by omega) (by simp -dsimp only [go_sem, hk8]) ⟨by simp -dsimp only [go_sem], G10, b10, f10, by simp -dsimp only [go_sem] <;> rfl, rfl, hA10, by omega⟩
  · have hc : ¬ (i : Int) < 4 := by omega
    obtain rfl : i = 4 := by omega
    simp -dsimp only [go_sem, hk8, h14, h38, hc]
    have hB : IsL 1 IsByte (.sl b8 true (pageIn p 4).length 1 f8) (pageIn p 4) := hB8.isL (by omega)
    refine xcall_p (implFrame_p _ _ hB (inR_page _ _) (by omega)) (by simp -dsimp only [go_sem, rls_still hB8.1]) fun m1 p1 r1 hm1 hp1 hr1 => ?_
    have y4 := hr1.1.still
    refine ⟨hr1.2.tags, ?_⟩
    simp -dsimp only [go_sem]
    intro n1 hn1 hfc
    rw [rl_still y4, putPage_yes hok]
    exact ⟨hr1.1, hr1.2.mono (by omega) (by omega)⟩
end Go.Proofs.Ytkigfigdoaoboaa.IM
end
