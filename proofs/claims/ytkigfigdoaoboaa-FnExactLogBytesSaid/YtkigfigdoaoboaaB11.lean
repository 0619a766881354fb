/- Several of my texts in one module (merge.py). -/
import Derived.Test.YtkigfigdoaoboaaB8
import Derived.Test.YtkigfigdoaoboaaA4
import Derived.Test.YtkigfigdoaoboaaA5
import Derived.Test.YtkigfigdoaoboaaB7
section
/- Contracts: objects are put into bytes. -/
namespace Go.Proofs.Ytkigfigdoaoboaa.IM
open Go Go.Proofs
set_option linter.unusedVariables false
set_option linter.unusedSimpArgs false
set_option maxHeartbeats 2000000
set_option maxRecDepth 20000

theorem foldl_putInt_length : ∀ (l : List Int) (b : List Int), (l.foldl Md.putInt b).length ≤ b.length + 10 * l.length
  | [], b => by simp
  | x :: l, b => by
    have h1 := foldl_putInt_length l (Md.putInt b x)
    have h2 := putInt_length b x
    simp only [List.foldl_cons, List.length_cons]; omega
theorem foldl_take {l : List Int} {b : List Int} {i : Nat} (h : i < l.length) : (l.take (i + 1)).foldl Md.putInt b = Md.putInt ((l.take i).foldl Md.putInt b) l[i] := by
  rw [List.take_succ_eq_append_getElem h, List.foldl_append]; rfl
theorem putInts_length (b l : List Int) : (Md.putInts b l).length ≤ b.length + 10 + 10 * l.length := by
  have h1 := foldl_putInt_length l (Md.putInt b l.length)
  have h2 := putInt_length b l.length
  unfold Md.putInts; omega
theorem putInts_all {l : List Int} {b : List Int} {i : Nat} (h : ¬ i < l.length) : (l.take i).foldl Md.putInt (Md.putInt b l.length) = Md.putInts b l := by
  rw [List.take_of_length_le (by omega)]; rfl

theorem l2PutList_p (d dl : D) (xs l : List Int) (h : IsL 1 IsByte d xs) (hL : IsL 1 IsInt dl l) (hs : xs.length ≤ 549755813888) (hs2 : l.length ≤ 1048576) : PCall Try.prog 234 [d, dl] fun n0 n1 r => IsL 1 IsByte r (Md.putInts xs l) ∧ Own n0 n1 r := by
  have e4 := h.still
  have l4 := hL.still
  refine pcall_intro Try.func234 rfl (by decide) rfl (by decide) (by rw [Try.ntmps234]; simp) fun w0 M n0 hW => ivc_sound ?_; simp -dsimp only [Try.f234, go_sem, hL.lenT]
  refine xcall_p (specPutInt_p _ _ (l.length : Int) h (by omega)) (by simp -dsimp only [go_sem, rl_still, e4]) fun m0 p0 r0 hm0 hp0 hr0 => ?_
  have hm0' : n0 ≤ m0 := hm0
  have hp1 := putInt_length xs l.length
  refine ⟨hr0.2.tags, ?_⟩
  simp -dsimp only [go_sem]
  refine iwp_forR l.length [1, 4] (fun i n' s R => s 5 = .lit (.int .i64 i) ∧ R = (fun _ => none) ∧ IsL 1 IsByte (s 0) ((l.take i).foldl Md.putInt (Md.putInt xs l.length)) ∧ Own n0 n' (s 0)) 0 (Nat.zero_le _)
    ⟨by simp -dsimp only [go_sem]; rfl, rfl, by simp -dsimp only [go_sem]; exact hr0.1, by simp -dsimp only [go_sem]; exact hr0.2.mono (by omega) (by omega)⟩ ?_
  rintro i n' s R hi hn hk ⟨h5, rfl, hB, hO⟩
  obtain ⟨hd, h0⟩ : ∃ hd, s 0 = hd := ⟨_, rfl⟩
  rw [h0] at hB hO
  refine ivc_sound ?_
  simp -dsimp only [go_sem] at hk
  by_cases hlt : i < l.length
  · obtain ⟨t, zb, fi, rfl, hst, hf⟩ := hL.sl hlt
    have hfi : fi i = _ := hf i hlt
    have hw := i64_succ (i := i) (by have := hL.short; omega)
    have b4 := hB.still
    have hl2 := foldl_putInt_length (l.take i) (Md.putInt xs l.length)
    have hl3 : (l.take i).length ≤ l.length := by rw [List.length_take]; omega
    simp -dsimp only [go_sem, hk, h5, h0, hlt, hfi, hw]
    refine xcall_p (specPutInt_p _ _ l[i] hB (by omega)) (by simp -dsimp only [go_sem, rl_still, b4]) fun m1 p1 r1 hm1 hp1 hr1 => ?_
    refine ⟨hr1.2.tags, ?_⟩
    simp -dsimp only [go_sem, hk, h5, hlt, hw]
    refine into_r (by omega) (by simp -dsimp only [go_sem, hk]) ⟨by simp -dsimp only [go_sem], rfl, ?_, by simp -dsimp only [go_sem]; exact hr1.2.mono (by omega) (by omega)⟩
    simp -dsimp only [go_sem]
    rw [foldl_take hlt]; exact hr1.1
  · simp -dsimp only [go_sem, hk, h5, h0, hlt, hL.lenT]
    intro n1 hn1 hfc
    have b4 := hB.still
    rw [putInts_all hlt] at hB
    rw [rl_still b4]
    exact ⟨hB, hO.mono (by omega) (by omega)⟩
theorem putInts_n (dl : D) (l : List Int) (hL : IsL 1 IsInt dl l) (hs2 : l.length ≤ 1048576) : ICall Try.prog 236 [.nil, dl] [] (RowOut 1 (Bytes (Md.putInts [] l))) := by
  have l4 := hL.still
  have hpl := putInt_length [] l.length
  rw [List.length_nil] at hpl
  refine iput_nil Try.func236 rfl (by decide) rfl (by decide) (by rw [Try.ntmps236]; simp) fun w0 M n0 hW hT => ivc_sound ?_; simp -dsimp only [Try.f236, go_sem, hL.lenT]
  refine xcall_o0 (putInt_n l.length) rfl (by simp -dsimp only [go_sem]) ⟨trivial, trivial, trivial⟩ fun n1 q f' G b' hn1 hst hA hb1 hb2 => ?_
  obtain ⟨rfl, hA⟩ := hA
  simp -dsimp only [go_sem, hL.lenT]
  refine iwp_forR l.length [4, 11, 12] (fun i n' s R => s 13 = .lit (.int .i64 i) ∧ ∃ lb g b f, s 0 = .msl lb g 0 [] 0 ((l.take i).foldl Md.putInt (Md.putInt [] l.length)).length 1 ∧
      R = upd (fun _ => none) lb (some (g, b, .node (.arr ((l.take i).foldl Md.putInt (Md.putInt [] l.length)).length 1) f)) ∧ ByteRow f ((l.take i).foldl Md.putInt (Md.putInt [] l.length))) 0 (Nat.zero_le _)
    ⟨by simp -dsimp only [go_sem]; rfl, 2500, G, b', f', by simp -dsimp only [go_sem]; rfl, rfl, hA⟩ ?_
  rintro i n' s R hi hn hk ⟨h13, lb, g, b, f, h0, rfl, hB⟩
  refine ivc_sound ?_
  simp -dsimp only [go_sem] at hk
  by_cases hlt : i < l.length
  · obtain ⟨t, zb, fi, rfl, hst, hf⟩ := hL.sl hlt
    have hfi : fi i = _ := hf i hlt
    have hw := i64_succ (i := i) (by have := hL.short; omega)
    have hl2 := foldl_putInt_length (l.take i) (Md.putInt [] l.length)
    have hl3 : (l.take i).length ≤ l.length := by rw [List.length_take]; omega
    simp -dsimp only [go_sem, hk, h13, h0, hlt, hfi, hw]
    refine xcall_o1 (l := lb) (g := g) (putInt_r _ l[i] f hB (by omega)) (by simp -dsimp only [go_sem]) (upd_same _ _ _) hB.1 ⟨trivial, trivial⟩ fun n2 q f2 G2 b2 hn2 hst2 hA2 hb3 hb4 => ?_
    obtain ⟨rfl, hA2⟩ := hA2
    simp -dsimp only [go_sem, hk, h13, hlt, hw]
    rw [← foldl_take hlt] at hA2 ⊢
    exact into_r (by omega) (by simp -dsimp only [go_sem, hk]) ⟨by simp -dsimp only [go_sem], lb, G2, b2, f2, by simp -dsimp only [go_sem], rfl, hA2⟩
  · simp -dsimp only [go_sem, hk, h13, h0, hlt, hL.lenT]
    rw [putInts_all hlt] at *
    exact oend_tmp (by simp -dsimp only [go_sem] <;> rfl) (upd_same _ _ _) hB.1 ⟨rfl, hB⟩
theorem putInts_r (dl : D) (xs l : List Int) (f0 : Nat → D) (hrow : ByteRow f0 xs) (hL : IsL 1 IsInt dl l) (hs : xs.length ≤ 549755813888) (hs2 : l.length ≤ 1048576) : ICall Try.prog 236 [.msl 1000 0 0 [] 0 xs.length 1, dl] [.node (.arr xs.length 1) f0] (RowOut 1 (Bytes (Md.putInts xs l))) := by
  have l4 := hL.still
  have hpl := putInt_length xs l.length
  refine iput_root Try.func236 rfl (by decide) rfl (by decide) (by rw [Try.ntmps236]; simp) fun w0 M n0 gb hW hT => ivc_sound ?_; simp -dsimp only [Try.f236, go_sem, hL.lenT]
  refine xcall_o1 (l := 1000) (g := 0) (putInt_r xs l.length f0 hrow (by omega)) (by simp -dsimp only [go_sem]) rfl hrow.1 ⟨trivial, trivial⟩ fun n1 q f' G b' hn1 hst hA hb1 hb2 => ?_
  obtain ⟨rfl, hA⟩ := hA
  simp -dsimp only [go_sem, hL.lenT]
  refine iwp_forR l.length [4, 11, 12] (fun i n' s R => s 13 = .lit (.int .i64 i) ∧ ∃ lb g b f, s 0 = .msl lb g 0 [] 0 ((l.take i).foldl Md.putInt (Md.putInt xs l.length)).length 1 ∧
      R = upd (fun _ => none) lb (some (g, b, .node (.arr ((l.take i).foldl Md.putInt (Md.putInt xs l.length)).length 1) f)) ∧ ByteRow f ((l.take i).foldl Md.putInt (Md.putInt xs l.length))) 0 (Nat.zero_le _)
    ⟨by simp -dsimp only [go_sem]; rfl, 1000, G, b', f', by simp -dsimp only [go_sem]; rfl, rfl, hA⟩ ?_
  rintro i n' s R hi hn hk ⟨h13, lb, g, b, f, h0, rfl, hB⟩
  refine ivc_sound ?_
  simp -dsimp only [go_sem] at hk
  by_cases hlt : i < l.length
  · obtain ⟨t, zb, fi, rfl, hst, hf⟩ := hL.sl hlt
    have hfi : fi i = _ := hf i hlt
    have hw := i64_succ (i := i) (by have := hL.short; omega)
    have hl2 := foldl_putInt_length (l.take i) (Md.putInt xs l.length)
    have hl3 : (l.take i).length ≤ l.length := by rw [List.length_take]; omega
    simp -dsimp only [go_sem, hk, h13, h0, hlt, hfi, hw]
    refine xcall_o1 (l := lb) (g := g) (putInt_r _ l[i] f hB (by omega)) (by simp -dsimp only [go_sem]) (upd_same _ _ _) hB.1 ⟨trivial, trivial⟩ fun n2 q f2 G2 b2 hn2 hst2 hA2 hb3 hb4 => ?_
    obtain ⟨rfl, hA2⟩ := hA2
    simp -dsimp only [go_sem, hk, h13, hlt, hw]
    rw [← foldl_take hlt] at hA2 ⊢
    exact into_r (by omega) (by simp -dsimp only [go_sem, hk]) ⟨by simp -dsimp only [go_sem], lb, G2, b2, f2, by simp -dsimp only [go_sem], rfl, hA2⟩
  · simp -dsimp only [go_sem, hk, h13, h0, hlt, hL.lenT]
    rw [putInts_all hlt] at *
    exact oend_tmp (by simp -dsimp only [go_sem] <;> rfl) (upd_same _ _ _) hB.1 ⟨rfl, hB⟩
theorem putObj_yes {o : Md.Obj} (h : Md.objOk o = true) : Md.putObj o = Md.putInts (Md.putInts (Md.putInt [] o.kind) o.ints) o.refs := by unfold Md.putObj; rw [if_pos h]
theorem putObj_no {o : Md.Obj} (h : Md.objOk o = false) : Md.putObj o = [] := by unfold Md.putObj; rw [if_neg (by simp [h])]
theorem objOk_len {o : Md.Obj} (h : Md.objOk o = true) : o.ints.length ≤ 5 ∧ o.refs.length ≤ 5 := by
  unfold Md.objOk at h
  simp only [Bool.and_eq_true, decide_eq_true_eq] at h
  exact ⟨h.1.1.1.2, h.1.1.2⟩
theorem putObj_length (o : Md.Obj) : (Md.putObj o).length ≤ 1000 := by
  cases h : Md.objOk o with
  | false => rw [putObj_no h]; simp
  | true =>
    rw [putObj_yes h]
    have h1 := putInts_length (Md.putInts (Md.putInt [] o.kind) o.ints) o.refs
    have h2 := putInts_length (Md.putInt [] o.kind) o.ints
    have h3 := putInt_length [] o.kind
    have h4 := objOk_len h
    simp only [List.length_nil] at h3
    omega
theorem implPutObj_p (d : D) (o : Md.Obj) (h : IsObj d o) : PCall Try.prog 206 [d] fun n0 n1 r => IsL 1 IsByte r (Md.putObj o) ∧ Own n0 n1 r := by
  have hd := h
  have q := shp_obj _ _ h
  have q1 := q.1
  have q2 := q.2.1
  have q3 := q.2.2.1
  have q4 := q.2.2.2
  obtain ⟨f, rfl, hst, k0, k1, k2⟩ := h
  have k0 : f 0 = _ := k0
  refine pcall_intro Try.func206 rfl (by decide) rfl (by decide) (by rw [Try.ntmps206]; simp) fun w0 M n0 hW => ivc_sound ?_; simp -dsimp only [Try.f206, go_sem, q1, q2, q3]
  intro g1 b1 hb1
  refine xcall_v (objOk_p _ _ hd) (by simp -dsimp only [go_sem, rl_still, q4]) (fun _ => trivial) fun n2 hn2 => ?_
  simp -dsimp only [go_sem]
  refine ⟨fun hb => ?_, fun hb => ?_⟩
  · intro n1 hn1 hfc
    rw [putObj_no (by simpa using hb)]
    exact fin_nil
  have hok : Md.objOk o = true := by simpa using hb
  have hlen := objOk_len hok
  refine iwp_plan [(0, true), (1, true), (3, true), (4, true), (6, true), (7, true), (2, false), (5, false), (8, false), (9, true)] [1] rfl (by decide +kernel) (by decide) [] (by decide +kernel) ?_
  simp -dsimp only [go_sem, k0, k1.size, k1.isNode, k2.size, k2.isNode]
  have hp0 := putInt_length [] o.kind
  rw [List.length_nil] at hp0
  have hp1 := putInts_length (Md.putInt [] o.kind) o.ints
  refine xcall_o0 (putInt_n o.kind) rfl (by simp -dsimp only [go_sem]) ⟨trivial, trivial, trivial⟩ fun n3 m3 f3 G3 b3 hn3 hst3 hA3 hb3 hb3' => ?_
  obtain ⟨rfl, hA3⟩ := hA3
  simp -dsimp only [go_sem, k0, k1.size, k1.isNode, k2.size, k2.isNode]
  refine xcall_o1 (l := 2400) (g := G3) (putInts_r _ _ o.ints f3 hA3 k1 (by omega) (by omega)) (by simp -dsimp only [go_sem]) (by simp -dsimp only [go_sem] <;> rfl) hst3 ⟨k1.still, trivial⟩ fun n4 m4 f4 G4 b4 hn4 hst4 hA4 hb4 hb4' => ?_
  obtain ⟨rfl, hA4⟩ := hA4
  simp -dsimp only [go_sem, k0, k1.size, k1.isNode, k2.size, k2.isNode]
  refine xcall_o1 (l := 2400) (g := G4) (putInts_r _ _ o.refs f4 hA4 k2 (by omega) (by omega)) (by simp -dsimp only [go_sem]) (by simp -dsimp only [go_sem] <;> rfl) hst4 ⟨k2.still, trivial⟩ fun n5 m5 f5 G5 b5 hn5 hst5 hA5 hb5 hb5' => ?_
  obtain ⟨rfl, hA5⟩ := hA5
  simp -dsimp only [go_sem, k0, k1.size, k1.isNode, k2.size, k2.isNode]
  intro n1 hn1 hfc
  have hp2 := putObj_length o
  rw [rls_still hst5]
  rw [← putObj_yes hok] at *
  exact hA5.own (by omega) (by rcases hb5' with h | h <;> rcases hb4' with h' | h' <;> omega) (by omega)
theorem specPutObj_p (d : D) (o : Md.Obj) (h : IsObj d o) : PCall Try.prog 204 [d] fun n0 n1 r => IsL 1 IsByte r (Md.putObj o) ∧ Own n0 n1 r := by
  have hd := h
  have q := shp_obj _ _ h
  have q1 := q.1
  have q2 := q.2.1
  have q3 := q.2.2.1
  have q4 := q.2.2.2
  obtain ⟨f, rfl, hst, k0, k1, k2⟩ := h
  have k0 : f 0 = _ := k0
  refine pcall_intro Try.func204 rfl (by decide) rfl (by decide) (by rw [Try.ntmps204]; simp) fun w0 M n0 hW => ivc_sound ?_; simp -dsimp only [Try.f204, go_sem, q1, q2, q3]
  intro g1 b1 hb1
  refine xcall_v (l1ObjOk_p _ _ hd) (by simp -dsimp only [go_sem, rl_still, q4]) (fun _ => trivial) fun n2 hn2 => ?_
  simp -dsimp only [go_sem]
  refine ⟨fun hb => ?_, fun hb => ?_⟩
  · intro g b hgb n1 hn1 hfc
    rw [putObj_no (by simpa using hb)]
    exact fin_zero (fun _ => by simp only [stillL_nil, stillL_cons, still_lit, still_nil, still_any, still_nodeN, still_nodeC, and_self]) rfl (by omega) (by omega)
  have hok : Md.objOk o = true := by simpa using hb
  have hlen := objOk_len hok
  refine iwp_plan [(1, true), (2, true), (4, true), (5, true), (7, true), (8, true), (0, false), (3, false), (6, false), (9, false), (10, true)] [1] rfl (by decide +kernel) (by decide) [] (by decide +kernel) ?_
  simp -dsimp only [go_sem, k0, k1.size, k1.isNode, k2.size, k2.isNode]
  intro g b hgb
  have he : IsL 1 IsByte (.sl b true 0 1 fun _ => .lit (.int .u8 0)) [] := .inr ⟨b, true, _, rfl, fun _ => trivial, by simp, fun i hi => absurd hi (by simp)⟩
  have hp0 := putInt_length [] o.kind
  rw [List.length_nil] at hp0
  have hp1 := putInts_length (Md.putInt [] o.kind) o.ints
  refine xcall_p (specPutInt_p _ _ o.kind he (by simp)) (by simp -dsimp only [go_sem, rl_still]) fun m0 p0 r0 hm0 hp0' hr0 => ?_
  have x0 := hr0.1.still
  refine ⟨hr0.2.tags, ?_⟩
  simp -dsimp only [go_sem, k0, k1.size, k1.isNode, k2.size, k2.isNode]
  refine xcall_p (l2PutList_p _ _ _ o.ints hr0.1 k1 (by omega) (by omega)) (by simp -dsimp only [go_sem, rl_still, x0, k1.still]) fun m1 p1 r1 hm1 hp1' hr1 => ?_
  have x1 := hr1.1.still
  refine ⟨hr1.2.tags, ?_⟩
  simp -dsimp only [go_sem, k0, k1.size, k1.isNode, k2.size, k2.isNode]
  refine xcall_p (l2PutList_p _ _ _ o.refs hr1.1 k2 (by omega) (by omega)) (by simp -dsimp only [go_sem, rl_still, x1, k2.still]) fun m2 p2 r2 hm2 hp2' hr2 => ?_
  have x2 := hr2.1.still
  refine ⟨hr2.2.tags, ?_⟩
  simp -dsimp only [go_sem, k0, k1.size, k1.isNode, k2.size, k2.isNode, rl_still, x2]
  intro n1 hn1 hfc
  rw [putObj_yes hok]
  exact ⟨hr2.1, hr2.2.mono (by omega) (by omega)⟩
end Go.Proofs.Ytkigfigdoaoboaa.IM
end

section
/- Contracts: slots and records are put into bytes. -/
namespace Go.Proofs.Ytkigfigdoaoboaa.IM
open Go Go.Proofs
set_option linter.unusedVariables false
set_option linter.unusedSimpArgs false
set_option maxHeartbeats 2000000
set_option maxRecDepth 20000

def putSlot (b : List Int) (s : Md.Slot) : List Int := if s.has = true then Md.putInt b (Md.putObj s.o).length ++ Md.putObj s.o else Md.putInt b 0
theorem putSlot_yes {b : List Int} {s : Md.Slot} (h : s.has = true) : putSlot b s = Md.putInt b (Md.putObj s.o).length ++ Md.putObj s.o := if_pos h
theorem putSlot_no {b : List Int} {s : Md.Slot} (h : s.has = false) : putSlot b s = Md.putInt b 0 := if_neg (by simp [h])
theorem putSlot_length (b : List Int) (s : Md.Slot) : (putSlot b s).length ≤ b.length + 1010 := by
  have h1 := putObj_length s.o
  have h2 := putInt_length b (Md.putObj s.o).length
  have h3 := putInt_length b 0
  cases h : s.has with
  | true => rw [putSlot_yes h, List.length_append]; omega
  | false => rw [putSlot_no h]; omega
def flagI (b : Bool) : Int := if b = true then 1 else 0
def putLive (b : List Int) (x : Md.Live) : List Int := Md.putInt (Md.putInt (Md.putInt b x.tx) x.last) (flagI x.aborts)
theorem putLive_length (b : List Int) (x : Md.Live) : (putLive b x).length ≤ b.length + 30 := by
  have h1 := putInt_length b x.tx
  have h2 := putInt_length (Md.putInt b x.tx) x.last
  have h3 := putInt_length (Md.putInt (Md.putInt b x.tx) x.last) (flagI x.aborts)
  unfold putLive; omega
theorem foldl_putLive_length : ∀ (l : List Md.Live) (b : List Int), (l.foldl putLive b).length ≤ b.length + 30 * l.length
  | [], b => by simp
  | x :: l, b => by
    have h1 := foldl_putLive_length l (putLive b x)
    have h2 := putLive_length b x
    simp only [List.foldl_cons, List.length_cons]; omega
theorem foldl_takeL {l : List Md.Live} {b : List Int} {i : Nat} (h : i < l.length) : (l.take (i + 1)).foldl putLive b = putLive ((l.take i).foldl putLive b) l[i] := by
  rw [List.take_succ_eq_append_getElem h, List.foldl_append]; rfl
def recInts (r : Md.Rec) : List Int := [r.lsn, r.tx, r.prev, r.kind, r.oid, r.next]
def recHead (r : Md.Rec) : List Int := Md.putInt (putSlot (putSlot ((recInts r).foldl Md.putInt []) r.before) r.after) r.txs.length
def putRec (r : Md.Rec) : List Int := if Md.recOk r = true then r.txs.foldl putLive (recHead r) else []
theorem putRec_yes {r : Md.Rec} (h : Md.recOk r = true) : putRec r = r.txs.foldl putLive (recHead r) := if_pos h
theorem putRec_no {r : Md.Rec} (h : Md.recOk r = false) : putRec r = [] := if_neg (by simp [h])
theorem recInts_length (r : Md.Rec) (i : Nat) : (((recInts r).take i).foldl Md.putInt []).length ≤ 60 := by
  have h1 := foldl_putInt_length ((recInts r).take i) []
  have h2 : ((recInts r).take i).length ≤ 6 := by rw [List.length_take]; exact Nat.min_le_right _ _
  simp only [List.length_nil] at h1; omega
theorem recHead_length (r : Md.Rec) : (recHead r).length ≤ 3000 := by
  have h1 := recInts_length r 6
  rw [show (recInts r).take 6 = recInts r from rfl] at h1
  have h2 := putSlot_length ((recInts r).foldl Md.putInt []) r.before
  have h3 := putSlot_length (putSlot ((recInts r).foldl Md.putInt []) r.before) r.after
  have h4 := putInt_length (putSlot (putSlot ((recInts r).foldl Md.putInt []) r.before) r.after) r.txs.length
  unfold recHead; omega
theorem putRec_length (r : Md.Rec) : (putRec r).length ≤ 3000 + 30 * r.txs.length := by
  cases h : Md.recOk r with
  | false => rw [putRec_no h]; simp
  | true =>
    rw [putRec_yes h]
    have h1 := foldl_putLive_length r.txs (recHead r)
    have h2 := recHead_length r
    omega
theorem dropB {R : Roots} {a : Nat} {x : Option (Nat × Nat × D)} (h : R a = none) (j : Nat) : R j = (upd R a x) j ∨ R j = none := by
  by_cases h1 : j = a
  · subst h1; exact .inr h
  · left; rw [upd_ne _ _ h1]

theorem l3PutSlot_p (d ds : D) (xs : List Int) (x : Md.Slot) (h : IsL 1 IsByte d xs) (hS : IsSlot ds x) (hs : xs.length ≤ 549755813888) : PCall Try.prog 137 [d, ds] fun n0 n1 r => IsL 1 IsByte r (putSlot xs x) ∧ Own n0 n1 r := by
  have e4 := h.still
  obtain ⟨f, rfl, hst, k0, k1⟩ := hS
  have k0 : f 0 = _ := k0
  have q := shp_obj _ _ k1
  have q1 := q.1
  have q2 := q.2.1
  have q3 := q.2.2.1
  have q4 := q.2.2.2
  refine pcall_intro Try.func137 rfl (by decide) rfl (by decide) (by rw [Try.ntmps137]; simp) fun w0 M n0 hW => ivc_sound ?_; simp -dsimp only [Try.f137, go_sem, k0, q1, q2, q3]
  intro g1 b1 hb1
  refine ⟨fun hb => ?_, fun hb => ?_⟩
  · refine xcall_p (specPutInt_p _ _ 0 h (by omega)) (by simp -dsimp only [go_sem, rl_still, e4]) fun m0 p0 r0 hm0 hp0 hr0 => ?_
    have x0 := hr0.1.still
    refine ⟨hr0.2.tags, ?_⟩
    simp -dsimp only [go_sem, rl_still, x0]
    intro n1 hn1 hfc
    rw [putSlot_no (by simpa using hb)]
    exact ⟨hr0.1, hr0.2.mono (by omega) (by omega)⟩
  refine xcall_p (specPutObj_p _ _ k1) (by simp -dsimp only [go_sem, rl_still, q4]) fun m0 p0 r0 hm0 hp0 hr0 => ?_
  have x0 := hr0.1.still
  have ho0 := hr0.2
  refine ⟨ho0.tags, ?_⟩
  simp -dsimp only [go_sem, hr0.1.lenT]
  refine xcall_t (specPutInt_p _ _ ((Md.putObj x.o).length : Int) h (by omega)) (by simp -dsimp only [go_sem, rl_still, e4]) fun m1 p1 r1 hm1 hp1 hr1 => ?_
  have hm1' : p0 ≤ m1 := hm1
  have hm0' : b1 + 1 ≤ m0 := hm0
  have hro := hr1.2
  have hpl := putInt_length xs (Md.putObj x.o).length
  have hol := putObj_length x.o
  rcases hr1.1.bytes with ⟨rfl, he⟩ | ⟨t, zb, g, rfl, hrow, hl⟩
  · have := putInt_pos' xs (Md.putObj x.o).length
    rw [he] at this; simp at this
  obtain rfl : zb = true := hro.wh.1
  have ht := hro.rg t (by simp [D.tl])
  obtain ⟨f0, sz, hsrc, hsz, hT, hrow0, hl0⟩ := hr0.1.src
  refine ⟨hro.tags, conv_sl (l := 1000) (R' := fun _ => none) [5] (hW t (by omega)) rfl (own_free hro) (fun j hj => ?_) (fun l' g b x hx => by cases hx) fun g2 => ?_⟩
  · obtain rfl : j = 5 := by simpa using hj
    simp -dsimp only [go_sem]
    exact free_nil ho0.wh fun hx => by have := ho0.rg t hx; omega
  simp -dsimp only [go_sem, hsrc, hT]
  refine ⟨hsz, by omega, by omega, fun g3 b3 n2 hn2 hb3 hb4 n1 hn1 hfc => ?_⟩
  have hrow2 := hrow.append hrow0
  have hlen : (Md.putInt xs (Md.putObj x.o).length ++ Md.putObj x.o).length = (Md.putInt xs (Md.putObj x.o).length).length + (Md.putObj x.o).length := List.length_append ..
  rw [rls_still hrow2.1, ← hlen, putSlot_yes (by simpa using hb)]
  exact hrow2.own (by omega) (by rcases hb4 with h | h <;> omega) (by omega)
theorem putSlot_r (ds : D) (xs : List Int) (x : Md.Slot) (f0 : Nat → D) (hrow : ByteRow f0 xs) (hS : IsSlot ds x) (hs : xs.length ≤ 549755813888) : ICall Try.prog 139 [.msl 1000 0 0 [] 0 xs.length 1, ds] [.node (.arr xs.length 1) f0] (RowOut 1 (Bytes (putSlot xs x))) := by
  obtain ⟨f, rfl, hst, k0, k1⟩ := hS
  have k0 : f 0 = _ := k0
  have q := shp_obj _ _ k1
  have q1 := q.1
  have q2 := q.2.1
  have q3 := q.2.2.1
  have q4 := q.2.2.2
  refine iput_root Try.func139 rfl (by decide) rfl (by decide) (by rw [Try.ntmps139]; simp) fun w0 M n0 gb hW hT => ivc_sound ?_; simp -dsimp only [Try.f139, go_sem, k0, q1, q2, q3]
  intro g1 b1 hb1
  refine ⟨fun hb => ?_, fun hb => ?_⟩
  · refine xcall_o1 (l := 1000) (g := 0) (putInt_r xs 0 f0 hrow (by omega)) (by simp -dsimp only [go_sem]) (by simp -dsimp only [go_sem] <;> rfl) hrow.1 ⟨trivial, trivial⟩ fun n3 m3 f3 G3 b3 hn3 hst3 hA3 hb3 hb3' => ?_
    obtain ⟨rfl, hA3⟩ := hA3
    simp -dsimp only [go_sem]
    rw [putSlot_no (by simpa using hb)]
    exact oend_tmp (by simp -dsimp only [go_sem] <;> rfl) (upd_same _ _ _) hA3.1 ⟨rfl, hA3⟩
  refine xcall_p (implPutObj_p _ _ k1) (by simp -dsimp only [go_sem, rl_still, q4]) fun m0 p0 r0 hm0 hp0 hr0 => ?_
  have x0 := hr0.1.still
  refine ⟨hr0.2.tags, ?_⟩
  have hpl := putInt_length xs (Md.putObj x.o).length
  have hol := putObj_length x.o
  obtain ⟨f9, sz, hsrc, hsz, hT, hrow0, hl0⟩ := hr0.1.src
  simp -dsimp only [go_sem, hr0.1.lenT]
  refine xcall_o1 (l := 1000) (g := 0) (putInt_r xs ((Md.putObj x.o).length : Int) f0 hrow (by omega)) (by simp -dsimp only [go_sem]) (by simp -dsimp only [go_sem] <;> rfl) hrow.1 ⟨trivial, trivial⟩ fun n3 m3 f3 G3 b3 hn3 hst3 hA3 hb3 hb3' => ?_
  obtain ⟨rfl, hA3⟩ := hA3
  simp -dsimp only [go_sem, hsrc, hT]
  refine ⟨hsz, by omega, by omega, fun g4 b4 n2 hn2 hb4 hb5 => ?_⟩
  have hrow2 := hA3.append hrow0
  have hlen : (Md.putInt xs (Md.putObj x.o).length ++ Md.putObj x.o).length = (Md.putInt xs (Md.putObj x.o).length).length + (Md.putObj x.o).length := List.length_append ..
  rw [putSlot_yes (by simpa using hb)]
  exact oend_tmp (by simp -dsimp only [go_sem] <;> rfl) (upd_same _ _ _) hrow2.1 ⟨hlen.symm, hrow2⟩
/-- a loop that leaves the roots alone; what is kept may speak of the blocks that stand -/
theorem iwp_forN {P : Program} {w0 : World} {M : Fr} {Q : Exit → St → Prop} {c : Code} {N n : Nat} {R : Roots} {s0 : Nat → D} (len : Nat) (K : List Nat) (J : Nat → Nat → (Nat → D) → Prop) (i0 : Nat) (hi : i0 ≤ len) (h0 : J i0 n s0)
    (hr : ∀ i n' s, i ≤ len → n ≤ n' → keepL s s0 K → J i n' s → IWp P w0 M c (qthen (fun st' => i < len ∧ Into w0 M st' (RoundR N n s0 K (fun n' s R' => R' = R ∧ J (i + 1) n' s))) Q) ⟨N, n', s, R⟩) : IWp P w0 M (.loop c) Q ⟨N, n, s0, R⟩ := by
  refine iwp_forR len K (fun i n' s R' => R' = R ∧ J i n' s) i0 hi ⟨rfl, h0⟩ ?_
  rintro i n' s R' hi hn hk ⟨rfl, hJ⟩
  exact hr i n' s hi hn hk hJ
theorem into_n {w0 : World} {M : Fr} {N n n' : Nat} {R : Roots} {s0 s : Nat → D} {K : List Nat} {J : Nat → (Nat → D) → Prop} (hn : n ≤ n') (hk : keepL s s0 K) (hJ : J n' s) : Into w0 M ⟨N, n', s, R⟩ (RoundR N n s0 K (fun n' s R' => R' = R ∧ J n' s)) :=
  into_r hn hk ⟨rfl, hJ⟩
theorem flag_p (b : Bool) : PCall Try.prog 216 [.lit (.bool b)] fun _ _ r => r = .lit (.int .i64 (flagI b)) := by
  refine pcall_intro_v Try.func216 rfl (by decide) rfl (by decide) (by rw [Try.ntmps216]; simp) fun w0 M n0 => ivc_sound ?_; simp -dsimp only [Try.f216, go_sem]
  cases b <;> simp [flagI]
theorem recInts_len (r : Md.Rec) : (recInts r).length = 6 := rfl
theorem recInts_take {r : Md.Rec} {i : Nat} (h : i < (recInts r).length) : ((recInts r).take (i + 1)).foldl Md.putInt [] = Md.putInt (((recInts r).take i).foldl Md.putInt []) (recInts r)[i] := foldl_take (l := recInts r) h
/-- the six numbers, as a row -/
theorem sixRow {r : Md.Rec} {f : Nat → D} (h0 : f 0 = .lit (.int .i64 r.lsn)) (h1 : f 1 = .lit (.int .i64 r.tx)) (h2 : f 2 = .lit (.int .i64 r.prev)) (h3 : f 3 = .lit (.int .i64 r.kind)) (h4 : f 4 = .lit (.int .i64 r.oid)) (h5 : f 5 = .lit (.int .i64 r.next)) (i : Nat) (h : i < (recInts r).length) :
    f i = .lit (.int .i64 (recInts r)[i]) := by
  have h' : i < 6 := h
  match i, h' with
  | 0, _ => exact h0
  | 1, _ => exact h1
  | 2, _ => exact h2
  | 3, _ => exact h3
  | 4, _ => exact h4
  | 5, _ => exact h5
theorem specPutRec_p (d : D) (r : Md.Rec) (h : IsRec d r) (hs : Md.szRec r ≤ 1048576) : PCall Try.prog 164 [d] fun n0 n1 z => IsL 1 IsByte z (putRec r) ∧ Own n0 n1 z := by
  have hd := h
  have q := shp_rec _ _ h
  have q1 := q.1
  have q2 := q.2.1
  have q3 := q.2.2.1
  have q4 := q.2.2.2
  obtain ⟨f, rfl, hst, k0, k1, k2, k3, k4, k5, k6, k7, k8⟩ := h
  have k0 : f 0 = _ := k0
  have k1 : f 1 = _ := k1
  have k2 : f 2 = _ := k2
  have k3 : f 3 = _ := k3
  have k4 : f 4 = _ := k4
  have k7 : f 7 = _ := k7
  have s5 := shp_slot _ _ k5
  have s6 := shp_slot _ _ k6
  have a1 := s5.1
  have a2 := s5.2.1
  have a3 := s5.2.2.1
  have a4 := s5.2.2.2
  have c1 := s6.1
  have c2 := s6.2.1
  have c3 := s6.2.2.1
  have c4 := s6.2.2.2
  have htx : r.txs.length ≤ 1048576 := by unfold Md.szRec at hs; omega
  refine pcall_intro Try.func164 rfl (by decide) rfl (by decide) (by rw [Try.ntmps164]; simp) fun w0 M n0 hW => ivc_sound ?_; simp -dsimp only [Try.f164, go_sem, q1, q2, q3]
  intro g1 b1 hb1
  refine xcall_v (specRecOk_p _ _ hd) (by simp -dsimp only [go_sem, rl_still, q4]) (fun _ => trivial) fun n2 hn2 => ?_
  simp -dsimp only [go_sem]
  refine ⟨fun hb => ?_, fun hb => ?_⟩
  · intro g b hgb n1 hn1 hfc
    rw [putRec_no (by simpa using hb)]
    exact fin_zero (fun _ => by simp only [stillL_nil, stillL_cons, still_lit, still_nil, still_any, still_nodeN, still_nodeC, and_self]) rfl (by omega) (by omega)
  have hok : Md.recOk r = true := by simpa using hb
  simp -dsimp only [go_sem, k0, k1, k2, k3, k4, k7]
  intro g b hgb g4 b4 hb4
  have hF : ∀ i (h : i < (recInts r).length), (upd (upd (upd (upd (upd (upd (fun _ => D.lit (.int .i64 0)) 0 (D.lit (.int .i64 r.lsn))) 1 (D.lit (.int .i64 r.tx))) 2 (D.lit (.int .i64 r.prev))) 3 (D.lit (.int .i64 r.kind))) 4 (D.lit (.int .i64 r.oid))) 5 (D.lit (.int .i64 r.next))) i = .lit (.int .i64 (recInts r)[i]) := sixRow (by simp -dsimp only [go_sem]) (by simp -dsimp only [go_sem]) (by simp -dsimp only [go_sem]) (by simp -dsimp only [go_sem]) (by simp -dsimp only [go_sem]) (by simp -dsimp only [go_sem])
  generalize (upd (upd (upd (upd (upd (upd (fun _ => D.lit (.int .i64 0)) 0 (D.lit (.int .i64 r.lsn))) 1 (D.lit (.int .i64 r.tx))) 2 (D.lit (.int .i64 r.prev))) 3 (D.lit (.int .i64 r.kind))) 4 (D.lit (.int .i64 r.oid))) 5 (D.lit (.int .i64 r.next))) = F at hF ⊢
  refine iwp_forN 6 [1, 2, 4] (fun i n' s => s 5 = .lit (.int .i64 i) ∧ ((i = 0 ∧ s 3 = .msl 12 g 0 [] 0 0 1) ∨ IsL 1 IsByte (s 3) (((recInts r).take i).foldl Md.putInt []))) 0 (Nat.zero_le _) ⟨by simp -dsimp only [go_sem]; rfl, .inl ⟨rfl, by simp -dsimp only [go_sem]⟩⟩ ?_
  rintro i n' s hi hn hk ⟨h5, h3⟩
  refine ivc_sound ?_
  simp -dsimp only [go_sem] at hk
  by_cases hlt : i < 6
  · have hc : (i : Int) < 6 := by omega
    have hlt' : i < (recInts r).length := hlt
    have hFi := hF i hlt'
    have hw := i64_succ (i := i) (by omega)
    have hrl := recInts_length r i
    rcases h3 with ⟨rfl, h3⟩ | hB
    · simp -dsimp only [go_sem, hk, h5, h3, hc, hFi, hw]
      have he : IsL 1 IsByte (.sl b true 0 1 fun _ => .lit (.int .u8 0)) [] := .inr ⟨b, true, _, rfl, fun _ => trivial, by simp, fun i hi => absurd hi (by simp)⟩
      refine xcall_p (specPutInt_p _ _ ((recInts r)[0]'hlt') he (by simp)) (by simp -dsimp only [go_sem, rl_still]) fun m0 p0 r0 hm0 hp0 hr0 => ?_
      refine ⟨hr0.2.tags, ?_⟩
      simp -dsimp only [go_sem, hk, h5, hw]
      refine into_n (by omega) (by simp -dsimp only [go_sem, hk]) ⟨by simp -dsimp only [go_sem], .inr ?_⟩
      simp -dsimp only [go_sem]
      rw [recInts_take hlt']; exact hr0.1
    · obtain ⟨hd3, h3⟩ : ∃ hd, s 3 = hd := ⟨_, rfl⟩
      rw [h3] at hB
      have b4 := hB.still
      simp -dsimp only [go_sem, hk, h5, h3, hc, hFi, hw, hlt]
      refine xcall_p (specPutInt_p _ _ ((recInts r)[i]'hlt') hB (by omega)) (by simp -dsimp only [go_sem, rl_still, b4]) fun m0 p0 r0 hm0 hp0 hr0 => ?_
      refine ⟨hr0.2.tags, ?_⟩
      simp -dsimp only [go_sem, hk, h5, hw]
      refine into_n (by omega) (by simp -dsimp only [go_sem, hk]) ⟨by simp -dsimp only [go_sem], .inr ?_⟩
      simp -dsimp only [go_sem]
      rw [recInts_take hlt']; exact hr0.1
  have hc : ¬ (i : Int) < 6 := by omega
  obtain rfl : i = 6 := by omega
  have hB : IsL 1 IsByte (s 3) ((recInts r).foldl Md.putInt []) := by
    rcases h3 with ⟨h, _⟩ | h
    · omega
    · exact h
  obtain ⟨hd3, h3'⟩ : ∃ hd, s 3 = hd := ⟨_, rfl⟩
  rw [h3'] at hB
  have v4 := hB.still
  have hrl := recInts_length r 6
  rw [show (recInts r).take 6 = recInts r from rfl] at hrl
  simp -dsimp only [go_sem, hk, h5, h3', hc]
  refine iwp_plan [(0, true), (1, true), (2, true), (4, true), (5, true), (7, true), (8, true), (9, true), (3, false), (6, false), (10, false), (11, true)] [1] rfl (by decide +kernel) (by decide) [] (by decide +kernel) ?_
  simp -dsimp only [go_sem, hk, h3', a1, a2, a3, c1, c2, c3, k8.size, k8.isNode, k8.plain, k8.lenT]
  have hpA := putSlot_length ((recInts r).foldl Md.putInt []) r.before
  have hpB := putSlot_length (putSlot ((recInts r).foldl Md.putInt []) r.before) r.after
  refine xcall_p (l3PutSlot_p _ _ _ r.before hB k5 (by omega)) (by simp -dsimp only [go_sem, rl_still, v4, a4]) fun m0 p0 r0 hm0 hp0 hr0 => ?_
  have x0 := hr0.1.still
  refine ⟨hr0.2.tags, ?_⟩
  simp -dsimp only [go_sem, hk, h3', a1, a2, a3, c1, c2, c3, k8.size, k8.isNode, k8.plain, k8.lenT]
  refine xcall_p (l3PutSlot_p _ _ _ r.after hr0.1 k6 (by omega)) (by simp -dsimp only [go_sem, rl_still, x0, c4]) fun m1 p1 r1 hm1 hp1 hr1 => ?_
  have x1 := hr1.1.still
  refine ⟨hr1.2.tags, ?_⟩
  simp -dsimp only [go_sem, hk, h3', a1, a2, a3, c1, c2, c3, k8.size, k8.isNode, k8.plain, k8.lenT]
  refine xcall_p (specPutInt_p _ _ (r.txs.length : Int) hr1.1 (by omega)) (by simp -dsimp only [go_sem, rl_still, x1]) fun m2 p2 r2 hm2 hp2 hr2 => ?_
  refine ⟨hr2.2.tags, ?_⟩
  simp -dsimp only [go_sem, hk, h3', a1, a2, a3, c1, c2, c3, k8.size, k8.isNode, k8.plain, k8.lenT]
  have hHd : IsL 1 IsByte r2 (recHead r) := hr2.1
  have hHl := recHead_length r
  refine iwp_forN r.txs.length [1, 2] (fun i n' s => s 6 = .lit (.int .i64 i) ∧ IsL 1 IsByte (s 3) ((r.txs.take i).foldl putLive (recHead r)) ∧ Own n0 n' (s 3)) 0 (Nat.zero_le _) ⟨by simp -dsimp only [go_sem]; rfl, by simp -dsimp only [go_sem]; exact hHd, by simp -dsimp only [go_sem]; exact hr2.2.mono (by omega) (by omega)⟩ ?_
  rintro i n4 s4 hi hn4 hk4 ⟨h6, hB4, hO4⟩
  obtain ⟨hd4, h34⟩ : ∃ hd, s4 3 = hd := ⟨_, rfl⟩
  rw [h34] at hB4 hO4
  refine ivc_sound ?_
  simp -dsimp only [go_sem, hk] at hk4
  by_cases hlt : i < r.txs.length
  · obtain ⟨t, zb, fi, hfe, hst', hf'⟩ := k8.sl hlt
    obtain ⟨jf, hjf, hjs, j0, j1, j2⟩ := hf' i hlt
    have j0 : jf 0 = _ := j0
    have j1 : jf 1 = _ := j1
    have j2 : jf 2 = _ := j2
    have hw := i64_succ (i := i) (by omega)
    have hl8 := k8.lenT
    rw [hfe] at hl8
    have y4 := hB4.still
    have hfl := foldl_putLive_length (r.txs.take i) (recHead r)
    have hfl2 : (r.txs.take i).length ≤ r.txs.length := by rw [List.length_take]; omega
    have hq1 := putInt_length ((r.txs.take i).foldl putLive (recHead r)) r.txs[i].tx
    have hq2 := putInt_length (Md.putInt ((r.txs.take i).foldl putLive (recHead r)) r.txs[i].tx) r.txs[i].last
    simp -dsimp only [go_sem, hk4, h6, h34, hlt, hw, hfe, hl8, hjf, j0, j1, j2]
    refine ⟨fun hab => ?_, fun hab => ?_⟩
    all_goals
      refine iwp_plan [(0, true), (1, true), (2, true), (3, true), (4, true), (5, true), (6, true), (8, true), (9, true), (10, true), (11, true), (12, true), (13, true), (15, true), (7, false), (14, false), (16, false), (17, true)] [1] rfl (by decide +kernel) (by decide) [] (by decide +kernel) ?_
      simp -dsimp only [go_sem, hk4, h6, h34, hlt, hw, hfe, hl8, hjf, j0, j1, j2]
      refine xcall_p (specPutInt_p _ _ r.txs[i].tx hB4 (by omega)) (by simp -dsimp only [go_sem, rl_still, y4]) fun m5 p5 r5 hm5 hp5 hr5 => ?_
      have x5 := hr5.1.still
      refine ⟨hr5.2.tags, ?_⟩
      simp -dsimp only [go_sem, hk4, h6, h34, hlt, hw, hfe, hl8, hjf, j0, j1, j2]
      refine xcall_p (specPutInt_p _ _ r.txs[i].last hr5.1 (by omega)) (by simp -dsimp only [go_sem, rl_still, x5]) fun m6 p6 r6 hm6 hp6 hr6 => ?_
      have x6 := hr6.1.still
      refine ⟨hr6.2.tags, ?_⟩
      simp -dsimp only [go_sem, hk4, h6, h34, hlt, hw, hfe, hl8, hjf, j0, j1, j2]
      refine xcall_p (specPutInt_p _ _ (flagI r.txs[i].aborts) hr6.1 (by omega)) (by simp -dsimp only [go_sem, rl_still, x6]; simp [flagI, hab]) fun m7 p7 r7 hm7 hp7 hr7 => ?_
      refine ⟨hr7.2.tags, ?_⟩
      simp -dsimp only [go_sem, hk4, h6, h34, hlt, hw, hfe, hl8, hjf, j0, j1, j2]
      refine into_n (by omega) (by simp -dsimp only [go_sem, hk4, hk]) ⟨by simp -dsimp only [go_sem], ?_, by simp -dsimp only [go_sem]; exact hr7.2.mono (by omega) (by omega)⟩
      simp -dsimp only [go_sem]
      rw [foldl_takeL hlt]; exact hr7.1
  · have y4 := hB4.still
    simp -dsimp only [go_sem, hk4, h6, h34, hlt, k8.size, k8.isNode, k8.plain, k8.lenT]
    intro n1 hn1 hfc
    rw [List.take_of_length_le (by omega), ← putRec_yes hok] at hB4
    rw [rl_still y4]
    exact ⟨hB4, hO4.mono (by omega) (by omega)⟩
theorem putRec_p (d : D) (r : Md.Rec) (h : IsRec d r) (hs : Md.szRec r ≤ 1048576) : PCall Try.prog 165 [d] fun n0 n1 z => IsL 1 IsByte z (putRec r) ∧ Own n0 n1 z := by
  have hd := h
  have q := shp_rec _ _ h
  have q1 := q.1
  have q2 := q.2.1
  have q3 := q.2.2.1
  have q4 := q.2.2.2
  obtain ⟨f, rfl, hst, k0, k1, k2, k3, k4, k5, k6, k7, k8⟩ := h
  have k0 : f 0 = _ := k0
  have k1 : f 1 = _ := k1
  have k2 : f 2 = _ := k2
  have k3 : f 3 = _ := k3
  have k4 : f 4 = _ := k4
  have k7 : f 7 = _ := k7
  have s5 := shp_slot _ _ k5
  have s6 := shp_slot _ _ k6
  have a1 := s5.1
  have a2 := s5.2.1
  have a3 := s5.2.2.1
  have a4 := s5.2.2.2
  have c1 := s6.1
  have c2 := s6.2.1
  have c3 := s6.2.2.1
  have c4 := s6.2.2.2
  have htx : r.txs.length ≤ 1048576 := by unfold Md.szRec at hs; omega
  refine pcall_intro Try.func165 rfl (by decide) rfl (by decide) (by rw [Try.ntmps165]; simp) fun w0 M n0 hW => ivc_sound ?_; simp -dsimp only [Try.f165, go_sem, q1, q2, q3]
  intro g1 b1 hb1
  refine xcall_v (recOk_p _ _ hd) (by simp -dsimp only [go_sem, rl_still, q4]) (fun _ => trivial) fun n2 hn2 => ?_
  simp -dsimp only [go_sem]
  refine ⟨fun hb => ?_, fun hb => ?_⟩
  · intro n1 hn1 hfc
    rw [putRec_no (by simpa using hb)]
    exact fin_nil
  have hok : Md.recOk r = true := by simpa using hb
  simp -dsimp only [go_sem, k0, k1, k2, k3, k4, k7]
  intro g4 b4 hb4
  have hF : ∀ i (h : i < (recInts r).length), (upd (upd (upd (upd (upd (upd (fun _ => D.lit (.int .i64 0)) 0 (D.lit (.int .i64 r.lsn))) 1 (D.lit (.int .i64 r.tx))) 2 (D.lit (.int .i64 r.prev))) 3 (D.lit (.int .i64 r.kind))) 4 (D.lit (.int .i64 r.oid))) 5 (D.lit (.int .i64 r.next))) i = .lit (.int .i64 (recInts r)[i]) := sixRow (by simp -dsimp only [go_sem]) (by simp -dsimp only [go_sem]) (by simp -dsimp only [go_sem]) (by simp -dsimp only [go_sem]) (by simp -dsimp only [go_sem]) (by simp -dsimp only [go_sem])
  generalize (upd (upd (upd (upd (upd (upd (fun _ => D.lit (.int .i64 0)) 0 (D.lit (.int .i64 r.lsn))) 1 (D.lit (.int .i64 r.tx))) 2 (D.lit (.int .i64 r.prev))) 3 (D.lit (.int .i64 r.kind))) 4 (D.lit (.int .i64 r.oid))) 5 (D.lit (.int .i64 r.next))) = F at hF ⊢
  refine iwp_forR 6 [1, 2, 23, 24] (fun i n' s R => s 25 = .lit (.int .i64 i) ∧ ((i = 0 ∧ s 3 = .nil ∧ R = (upd (upd (fun _ => none) 1 (some (g1, b1, .node (.agg [1, 1, 1, 1, 1, 4, 4, 1, 1]) f))) 23 (some (g4, b4, .node (.arr 6 1) F)))) ∨
      (0 < i ∧ ∃ g b fb, s 3 = .msl 3550 g 0 [] 0 (((recInts r).take i).foldl Md.putInt []).length 1 ∧ R = upd (upd (upd (fun _ => none) 1 (some (g1, b1, .node (.agg [1, 1, 1, 1, 1, 4, 4, 1, 1]) f))) 23 (some (g4, b4, .node (.arr 6 1) F))) 3550 (some (g, b, .node (.arr (((recInts r).take i).foldl Md.putInt []).length 1) fb)) ∧ ByteRow fb (((recInts r).take i).foldl Md.putInt []) ∧ n0 ≤ b))) 0 (Nat.zero_le _) ⟨by simp -dsimp only [go_sem]; rfl, .inl ⟨rfl, by simp -dsimp only [go_sem], rfl⟩⟩ ?_
  rintro i n' s R hi hn hk ⟨h25, h3⟩
  refine ivc_sound ?_
  simp -dsimp only [go_sem] at hk
  by_cases hlt : i < 6
  · have hc : (i : Int) < 6 := by omega
    have hlt' : i < (recInts r).length := hlt
    have hFi := hF i hlt'
    have hw := i64_succ (i := i) (by omega)
    have hrl := recInts_length r i
    rcases h3 with ⟨hi0, h3, rfl⟩ | ⟨hpos, g, b, fb, h3, rfl, hB, hnb⟩
    · simp -dsimp only [go_sem, hk, h25, h3, hc, hFi, hw, hlt]
      refine xcall_o0 (putInt_n ((recInts r)[i]'hlt')) rfl (by simp -dsimp only [go_sem]) ⟨trivial, trivial, trivial⟩ fun n5 m5 f5 G5 b5 hn5 hst5 hA5 hb5 hb5' => ?_
      obtain ⟨rfl, hA5⟩ := hA5
      simp -dsimp only [go_sem, hk, h25, hw]
      have e1 : ((recInts r).take (i + 1)).foldl Md.putInt [] = Md.putInt [] ((recInts r)[i]'hlt') := by subst hi0; rfl
      exact into_r (by omega) (by simp -dsimp only [go_sem, hk]) ⟨by simp -dsimp only [go_sem], .inr ⟨by omega, G5, b5, f5, by rw [e1]; simp -dsimp only [go_sem], by rw [e1], by rw [e1]; exact hA5, by omega⟩⟩
    · simp -dsimp only [go_sem, hk, h25, h3, hc, hFi, hw, hlt]
      refine xcall_o1 (l := 3550) (g := g) (putInt_r _ ((recInts r)[i]'hlt') fb hB (by omega)) (by simp -dsimp only [go_sem]) (by simp -dsimp only [go_sem] <;> rfl) hB.1 ⟨trivial, trivial⟩ fun n5 m5 f5 G5 b5 hn5 hst5 hA5 hb5 hb5' => ?_
      obtain ⟨rfl, hA5⟩ := hA5
      simp -dsimp only [go_sem, hk, h25, hw]
      have e1 := recInts_take (r := r) hlt'
      exact into_r (by omega) (by simp -dsimp only [go_sem, hk]) ⟨by simp -dsimp only [go_sem], .inr ⟨by omega, G5, b5, f5, by rw [e1]; simp -dsimp only [go_sem], by rw [e1], by rw [e1]; exact hA5, by rcases hb5' with h | h <;> omega⟩⟩
  have hc : ¬ (i : Int) < 6 := by omega
  obtain rfl : i = 6 := by omega
  rcases h3 with ⟨h, _⟩ | ⟨_, g, b, fb, h3, rfl, hB, hnb⟩
  · omega
  rw [show (recInts r).take 6 = recInts r from rfl] at h3 hB
  rw [show (recInts r).take 6 = recInts r from rfl]
  have hrl := recInts_length r 6
  rw [show (recInts r).take 6 = recInts r from rfl] at hrl
  have hpA := putSlot_length ((recInts r).foldl Md.putInt []) r.before
  have hpB := putSlot_length (putSlot ((recInts r).foldl Md.putInt []) r.before) r.after
  simp -dsimp only [go_sem, hk, h25, h3, hc]
  refine iwp_plan [(0, true), (1, true), (2, true), (4, true), (5, true), (3, false), (6, false), (7, true)] [1] rfl (by decide +kernel) (by decide) [] (by decide +kernel) ?_
  simp -dsimp only [go_sem, hk, h3, a1, a2, a3, c1, c2, c3, k8.size, k8.isNode, k8.plain, k8.lenT]
  refine xcall_o1 (l := 3550) (g := g) (putSlot_r _ _ r.before fb hB k5 (by omega)) (by simp -dsimp only [go_sem]) (by simp -dsimp only [go_sem] <;> rfl) hB.1 ⟨a4, trivial⟩ fun n5 m5 f5 G5 b5 hn5 hst5 hA5 hb5 hb5' => ?_
  obtain ⟨rfl, hA5⟩ := hA5
  simp -dsimp only [go_sem, hk, h3, a1, a2, a3, c1, c2, c3, k8.size, k8.isNode, k8.plain, k8.lenT]
  refine xcall_o1 (l := 3550) (g := G5) (putSlot_r _ _ r.after f5 hA5 k6 (by omega)) (by simp -dsimp only [go_sem]) (by simp -dsimp only [go_sem] <;> rfl) hst5 ⟨c4, trivial⟩ fun n6 m6 f6 G6 b6 hn6 hst6 hA6 hb6 hb6' => ?_
  obtain ⟨rfl, hA6⟩ := hA6
  simp -dsimp only [go_sem, hk, h3, a1, a2, a3, c1, c2, c3, k8.size, k8.isNode, k8.plain, k8.lenT]
  refine xcall_o1 (l := 3550) (g := G6) (putInt_r _ (r.txs.length : Int) f6 hA6 (by omega)) (by simp -dsimp only [go_sem]) (by simp -dsimp only [go_sem] <;> rfl) hst6 ⟨trivial, trivial⟩ fun n7 m7 f7 G7 b7 hn7 hst7 hA7 hb7 hb7' => ?_
  obtain ⟨rfl, hA7⟩ := hA7
  have hnb7 : n0 ≤ b7 := by rcases hb7' with h | h <;> rcases hb6' with h' | h' <;> rcases hb5' with h'' | h'' <;> omega
  simp -dsimp only [go_sem, hk, h3, k8.size, k8.isNode, k8.plain, k8.lenT]
  have hHd : ByteRow f7 (recHead r) := hA7
  have hHl := recHead_length r
  refine iwp_forR r.txs.length [2, 46, 47] (fun i n' s R => s 48 = .lit (.int .i64 i) ∧ ∃ g b fb, s 3 = .msl 3550 g 0 [] 0 ((r.txs.take i).foldl putLive (recHead r)).length 1 ∧
      R = upd (upd (upd (fun _ => none) 1 (some (g1, b1, .node (.agg [1, 1, 1, 1, 1, 4, 4, 1, 1]) f))) 23 (some (g4, b4, .node (.arr 6 1) F))) 3550 (some (g, b, .node (.arr ((r.txs.take i).foldl putLive (recHead r)).length 1) fb)) ∧ ByteRow fb ((r.txs.take i).foldl putLive (recHead r)) ∧ n0 ≤ b) 0 (Nat.zero_le _) ⟨by simp -dsimp only [go_sem]; rfl, G7, b7, f7, by simp -dsimp only [go_sem]; rfl, rfl, hHd, hnb7⟩ ?_
  rintro i n8 s8 R8 hi hn8 hk8 ⟨h48, g8, b8, f8, h38, rfl, hB8, hnb8⟩
  refine ivc_sound ?_
  simp -dsimp only [go_sem, hk] at hk8
  by_cases hlt : i < r.txs.length
  · obtain ⟨t, zb, fi, hfe, hst', hf'⟩ := k8.sl hlt
    have hsj := hf' i hlt
    have qj := shp_live _ _ hsj
    obtain ⟨jf, hjf, hjs, j0, j1, j2⟩ := hsj
    have j0 : jf 0 = _ := j0
    have j1 : jf 1 = _ := j1
    have j2 : jf 2 = _ := j2
    have hw := i64_succ (i := i) (by omega)
    have hl8 := k8.lenT
    rw [hfe] at hl8
    have hfl := foldl_putLive_length (r.txs.take i) (recHead r)
    have hfl2 : (r.txs.take i).length ≤ r.txs.length := by rw [List.length_take]; omega
    have hq1 := putInt_length ((r.txs.take i).foldl putLive (recHead r)) r.txs[i].tx
    have hq2 := putInt_length (Md.putInt ((r.txs.take i).foldl putLive (recHead r)) r.txs[i].tx) r.txs[i].last
    simp -dsimp only [go_sem, hk8, h48, h38, hlt, hw, hfe, hl8, qj.1, qj.2.1, qj.2.2.1, hjf, j0, j1, j2]
    intro g9 b9 hb9
    refine iwp_plan [(0, true), (1, true), (2, true), (4, true), (5, true), (7, true), (8, true), (3, false), (6, false), (9, false), (10, false), (11, true)] [7] rfl (by decide +kernel) (by decide) [] (by decide +kernel) ?_
    simp -dsimp only [go_sem, hk8, h48, h38, hlt, hw, hfe, hl8, hjf, j0, j1, j2]
    refine xcall_o1 (l := 3550) (g := g8) (putInt_r _ r.txs[i].tx f8 hB8 (by omega)) (by simp -dsimp only [go_sem]) (by simp -dsimp only [go_sem] <;> rfl) hB8.1 ⟨trivial, trivial⟩ fun n10 m10 f10 G10 b10 hn10 hst10 hA10 hb10 hb10' => ?_
    obtain ⟨rfl, hA10⟩ := hA10
    simp -dsimp only [go_sem, hk8, h48, h38, hlt, hw, hfe, hl8, hjf, j0, j1, j2]
    refine xcall_o1 (l := 3550) (g := G10) (putInt_r _ r.txs[i].last f10 hA10 (by omega)) (by simp -dsimp only [go_sem]) (by simp -dsimp only [go_sem] <;> rfl) hst10 ⟨trivial, trivial⟩ fun n11 m11 f11 G11 b11 hn11 hst11 hA11 hb11 hb11' => ?_
    obtain ⟨rfl, hA11⟩ := hA11
    simp -dsimp only [go_sem, hk8, h48, h38, hlt, hw, hfe, hl8, hjf, j0, j1, j2]
    refine xcall_v (flag_p r.txs[i].aborts) (by simp -dsimp only [go_sem]) (fun _ => trivial) fun n12 hn12 => ?_
    simp -dsimp only [go_sem, hk8, h48, h38, hlt, hw, hfe, hl8, hjf, j0, j1, j2]
    refine xcall_o1 (l := 3550) (g := G11) (putInt_r _ (flagI r.txs[i].aborts) f11 hA11 (by omega)) (by simp -dsimp only [go_sem]) (by simp -dsimp only [go_sem] <;> rfl) hst11 ⟨trivial, trivial⟩ fun n13 m13 f13 G13 b13 hn13 hst13 hA13 hb13 hb13' => ?_
    obtain ⟨rfl, hA13⟩ := hA13
    simp -dsimp only [go_sem, hk8, h48, h38, hlt, hw, hfe, hl8, hjf, j0, j1, j2]
    have e1 := foldl_takeL (b := recHead r) hlt
    refine into_rd (drop2 rfl (by decide)) (by omega) (by simp -dsimp only [go_sem, hk8, hk, hfe]) ⟨by simp -dsimp only [go_sem], G13, b13, f13, by rw [e1]; simp -dsimp only [go_sem] <;> rfl, by rw [e1]; rfl, by rw [e1]; exact hA13, ?_⟩
    rcases hb13' with h | h <;> rcases hb11' with h' | h' <;> rcases hb10' with h'' | h'' <;> omega
  · simp -dsimp only [go_sem, hk8, h48, h38, hlt, k8.size, k8.isNode, k8.plain, k8.lenT]
    intro n1 hn1 hfc
    have hpl := putRec_length r
    rw [List.take_of_length_le (by omega), ← putRec_yes hok] at *
    rw [rls_still hB8.1]
    exact hB8.own (by omega) hnb8 hfc.here.1
end Go.Proofs.Ytkigfigdoaoboaa.IM
end
