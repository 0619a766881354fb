/- Several of my texts in one module (merge.py). -/
import Derived.Test.YtkigfigdoaoboaaB10
import Derived.Test.YtkigfigdoaoboaaB30
import Derived.Test.YtkigfigdoaoboaaA3
import Derived.Test.YtkigfigdoaoboaaB6
section
/- Contracts: the cursor of the draws. Printed by gen/draws.py. -/
namespace Go.Proofs.Ytkigfigdoaoboaa.IM
open Go Go.Proofs
set_option linter.unusedVariables false
set_option linter.unusedSimpArgs false
set_option maxHeartbeats 2000000
set_option maxRecDepth 20000

def Cur (e : D) (N : Nat) (d : D) : Prop := ∃ (f : Nat → D) (i : Nat) (h : Int), d = .node (.agg [1, 1, 1]) f ∧ (∀ j, (f j).still) ∧ f 0 = e ∧ f 1 = .lit (.int .i64 (i : Int)) ∧ i ≤ N ∧ f 2 = .lit (.int .i64 h)
theorem Cur.shape {e d : D} {N : Nat} (h : Cur e N d) : d.size = 3 ∧ d.isNode = some true ∧ d.plain ∧ d.still := by
  obtain ⟨f, i, h, rfl, hs, _⟩ := h
  exact ⟨rfl, rfl, trivial, hs⟩
theorem Cur.tags {e d : D} {N : Nat} (h : Cur e N d) {p : Nat → Prop} (he : e.tags p) : d.tags p := by
  obtain ⟨f, i, h, rfl, hs, h0, h1, _, h2⟩ := h
  intro j hj
  have hj' : j < 3 := hj
  match j, hj' with
  | 0, _ => rw [h0]; exact he
  | 1, _ => rw [h1]; trivial
  | 2, _ => rw [h2]; trivial
theorem Cur.tl {e d : D} {N t : Nat} (h : Cur e N d) (ht : t ∈ e.tl) : t ∈ d.tl := by
  obtain ⟨f, i, h, rfl, hs, h0, _⟩ := h
  exact tl_child (k := .agg [1, 1, 1]) (i := 0) (by decide) (h0 ▸ ht)
theorem cur_tags {e c d : D} {N n0 : Nat} (hc : Cur e N c) (hd : Cur e N d) (he : e.data) : d.tags (fun b => b ∈ c.tl ∨ n0 ≤ b) := hd.tags (tags_of_tl he fun t ht => .inl (hc.tl ht))
def CurQ (e : D) (N : Nat) (m : Int) (_ _ : Nat) (d' r : D) : Prop := Cur e N d' ∧ ∃ v : Int, r = .lit (.int .i64 v) ∧ 0 ≤ v ∧ v < m
theorem ex_shr (P : Program) (a b : Int) (h : 0 ≤ b) : ∃ v : Int, ∀ T, bin P T .shr (.int .i64 a) (.int .u64 b) = some (.int .i64 v) := ⟨_, fun T => bin_shr P T _ _ _ _ h⟩
theorem cur_end {e : D} {f f' : Nat → D} {N i n0 n1 : Nat} {h v m : Int} (h0 : f 0 = e) (hs : ∀ j, (f' j).still) (q0 : f' 0 = e) (q1 : f' 1 = .lit (.int .i64 (i : Int))) (qi : i ≤ N) (q2 : f' 2 = .lit (.int .i64 h)) (hd : e.data) (v0 : 0 ≤ v) (v1 : v < m) :
    BEnd (CurQ e N m) (.node (.agg [1, 1, 1]) f) n0 n1 (.node (.agg [1, 1, 1]) f') (.lit (.int .i64 v)) := by
  have hc : Cur e N (.node (.agg [1, 1, 1]) f') := ⟨f', i, h, rfl, hs, q0, q1, qi, q2⟩
  exact ⟨⟨hc, v, rfl, v0, v1⟩, trivial, hc.tags (tags_of_tl hd fun t ht => .inl (tl_child (k := .agg [1, 1, 1]) (i := 0) (by decide) (h0 ▸ ht))), trivial⟩
theorem l1New_o (d : D) (xs : List Int) (h : IsL 1 IsByte d xs) : ICall Try.prog 94 [d] [] (PtrOut (Cur d xs.length)) := by
  have hsh := h.short
  refine iput_ptr Try.func94 rfl (by decide) rfl (by decide) (by rw [Try.ntmps94]; simp) fun w0 M n0 hW hT => ivc_sound ?_; simp -dsimp only [Try.f94, go_sem, h.lenT, h.size, h.isNode, h.plain]
  obtain ⟨u0, hu0⟩ := ex_wrap (278278 + (xs.length : Int))
  simp -dsimp only [go_sem, hu0, h.lenT, h.size, h.isNode, h.plain]
  refine iwp_forK xs.length [0, 2] (fun i s => s 4 = .lit (.int .i64 i) ∧ ∃ v : Int, s 3 = .lit (.int .i64 v)) 0 (Nat.zero_le _) ⟨by simp -dsimp only [go_sem]; rfl, _, by simp -dsimp only [go_sem]; rfl⟩ ?_
  rintro i n' s hi hn hk ⟨h4, v, h3⟩
  refine ivc_sound ?_
  simp -dsimp only [go_sem] at hk
  have ends : ∀ w : Int, ¬ ((i : Int) < (xs.length : Int) ∧ (i : Int) < 4000) → True := fun _ _ => trivial
  by_cases hlt : i < xs.length
  · by_cases h4k : (i : Int) < 4000
    · obtain ⟨t, zb, fi, hfe, hst', hf'⟩ := h.sl hlt
      have hfi := hf' i hlt
      have hfi : fi i = _ := hfi
      have hl0 := h.lenT
      rw [hfe] at hl0
      have hw := i64_succ (i := i) (by omega)
      obtain ⟨u1, hu1⟩ := ex_wrap (v * 137)
      obtain ⟨u2, hu2⟩ := ex_wrap xs[i]
      obtain ⟨u3, hu3⟩ := ex_wrap (u1 + u2)
      obtain ⟨u4, hu4⟩ := ex_wrap (u3 + 11)
      obtain ⟨u5, hu5⟩ := ex_and Try.prog u4 1073741823
      simp -dsimp only [go_sem, hk, h4, h3, hlt, h4k, hfe, hl0, hfi, hw, hu1, hu2, hu3, hu4, hu5]
      exact into_k (by omega) (by simp -dsimp only [go_sem, hk, hfe]) ⟨by simp -dsimp only [go_sem], _, by simp -dsimp only [go_sem]; rfl⟩
    · simp -dsimp only [go_sem, hk, h4, h3, hlt, h4k, h.lenT, h.size, h.isNode, h.plain]
      intro g b hb
      refine ⟨fun r hr => ?_, 31, g, b, _, rfl, rfl, ?_, trivial, ?_⟩
      · rw [List.mem_singleton.1 hr]; trivial
      · exact still_upd (still_upd (stN (by simp only [stillL_nil, stillL_cons, still_lit, still_nil, still_any, still_nodeN, still_nodeC, and_self])) h.still) trivial
      · exact ⟨_, 0, v, rfl, still_upd (still_upd (stN (by simp only [stillL_nil, stillL_cons, still_lit, still_nil, still_any, still_nodeN, still_nodeC, and_self])) h.still) trivial, rfl, rfl, Nat.zero_le _, rfl⟩
  · simp -dsimp only [go_sem, hk, h4, h3, hlt, h.lenT, h.size, h.isNode, h.plain]
    intro g b hb
    refine ⟨fun r hr => ?_, 31, g, b, _, rfl, rfl, ?_, trivial, ?_⟩
    · rw [List.mem_singleton.1 hr]; trivial
    · exact still_upd (still_upd (stN (by simp only [stillL_nil, stillL_cons, still_lit, still_nil, still_any, still_nodeN, still_nodeC, and_self])) h.still) trivial
    · exact ⟨_, 0, v, rfl, still_upd (still_upd (stN (by simp only [stillL_nil, stillL_cons, still_lit, still_nil, still_any, still_nodeN, still_nodeC, and_self])) h.still) trivial, rfl, rfl, Nat.zero_le _, rfl⟩
theorem l1Byte_b (e c : D) (xs : List Int) (h : IsL 1 IsByte e xs) (hd : e.data) (hc : Cur e xs.length c) : BCall Try.prog 182 .nil c [] (CurQ e xs.length 256) := by
  have hsh := h.short
  obtain ⟨f, i, hh, rfl, hs, f0, f1, hi, f2⟩ := hc
  obtain ⟨u1, hu1⟩ := ex_wrap (hh * 6364136223846793005)
  obtain ⟨u2, hu2⟩ := ex_wrap (u1 + 1442695040888963407)
  obtain ⟨a1, ha1⟩ := ex_shr Try.prog u2 33 (by decide)
  obtain ⟨a2, ha2⟩ := ex_shr Try.prog u2 47 (by decide)
  obtain ⟨a3, ha3⟩ := ex_xor Try.prog a1 a2
  obtain ⟨w, hw, w0', w1'⟩ := ex_and255 Try.prog a3
  refine bcall_intro Try.func182 rfl (by decide) rfl (by decide) (by rw [Try.ntmps182]; simp) fun w0 M n0 gb hW hS hT hgb => ivc_sound ?_; simp -dsimp only [Try.f182, go_sem, f0, f1, f2, hu1, hu2]
  refine iwp_plan [(0, true), (1, true), (2, true), (3, true), (4, true), (5, true), (6, true), (7, true), (8, true), (9, true), (10, true), (11, true), (12, true)] [1000] rfl (by decide +kernel) (by decide) [] (by decide +kernel) ?_
  simp -dsimp only [go_sem, f0, f1, f2, hu1, hu2, ha1, ha2, ha3, hw]
  refine iwp_plan [(0, true), (1, true), (2, true), (3, true), (4, true), (5, true), (6, true), (7, true), (8, true), (9, true)] [1000] rfl (by decide +kernel) (by decide) [] (by decide +kernel) ?_
  by_cases hlt : i < xs.length
  · obtain ⟨t, zb, fi, hfe, hst', hf'⟩ := h.sl hlt
    have hfi := hf' i hlt
    have hfi : fi i = _ := hfi
    have hl0 := h.lenT
    subst hfe
    have hsu := i64_succ (i := i) (by omega)
    obtain ⟨u3, hu3⟩ := ex_wrap xs[i]
    obtain ⟨u4, hu4⟩ := ex_wrap (w + u3)
    obtain ⟨u5, hu5, v0, v1⟩ := ex_and255 Try.prog u4
    simp -dsimp only [go_sem, f0, f1, f2, hlt, hl0]
    refine iwp_plan [(0, true), (1, true), (2, true), (3, true), (4, true), (5, true), (6, true), (7, true), (8, true), (9, true), (10, true), (11, false), (12, false), (13, false), (14, false)] [1000] rfl (by decide +kernel) (by decide) [] (by decide +kernel) ?_
    simp -dsimp only [go_sem, f0, f1, f2, hlt, hl0, hfi, hu3, hu4, hu5, hsu]
    refine ⟨_, rfl, fun n1 hn1 hfc => ?_⟩
    rw [rl_still (show (D.node (.agg [1, 1, 1]) (upd (upd f 2 (.lit (.int .i64 u2))) 1 (.lit (.int .i64 ((i + 1 : Nat) : Int))))).still from still_upd (still_upd hs trivial) trivial)]
    try simp -dsimp only [go_sem, rl_lit]
    exact cur_end (i := i + 1) f0 (still_upd (still_upd hs trivial) trivial) (by simp -dsimp only [go_sem, f0]) rfl (by omega) rfl hd v0 (by omega)
  · simp -dsimp only [go_sem, f0, f1, f2, hlt, h.lenT, h.size, h.isNode, h.plain]
    refine ⟨_, rfl, fun n1 hn1 hfc => ?_⟩
    rw [rl_still (show (D.node (.agg [1, 1, 1]) (upd f 2 (.lit (.int .i64 u2)))).still from still_upd hs trivial)]
    try simp -dsimp only [go_sem, rl_lit]
    exact cur_end (i := i) f0 (still_upd hs trivial) (by simp -dsimp only [go_sem, f0]) (by simp -dsimp only [go_sem, f1]) hi rfl hd w0' (by omega)
theorem l1Below_b (e c : D) (xs : List Int) (n : Int) (h : IsL 1 IsByte e xs) (hd : e.data) (hc : Cur e xs.length c) (hn0 : 0 < n) (hn1 : n ≤ 256) : BCall Try.prog 110 .nil c [.lit (.int .i64 n)] (CurQ e xs.length n) := by
  have cs := hc.shape
  have hz : ¬ n ≤ 0 := by omega
  have hne : ¬ n = 0 := by omega
  refine bcall_intro Try.func110 rfl (by decide) rfl (by decide) (by rw [Try.ntmps110]; simp) fun w0 M n0 gb hW hS hT hgb => ivc_sound ?_; simp -dsimp only [Try.f110, go_sem, cs.1, cs.2.1, cs.2.2.1, hz, hn1]
  refine xcall_b (l := 1000) (g := 0) (b := gb) (l1Byte_b e c xs h hd hc) (by simp -dsimp only [go_sem]) (by simp -dsimp only [go_sem]) cs.2.2.2 trivial (by simp [D.tl]) (by simp [D.tl]) [0, 1, 4] (fun _ => none) rfl fun n5 n6 d' r hn5 hn6 ht hq =>
    ⟨by simp -dsimp only [go_sem], CarR.skip (CarR.none _ _ _) rfl, ?_⟩
  obtain ⟨hc', v, rfl, v0, v1⟩ := hq
  have cs' := hc'.shape
  simp -dsimp only [go_sem, cs'.1, cs'.2.1, cs'.2.2.1, hne]
  refine ⟨_, rfl, fun n1 hn1 hfc => ?_⟩
  rw [rl_still cs'.2.2.2]
  try simp -dsimp only [go_sem, rl_lit]
  exact ⟨⟨hc', _, rfl, Int.tmod_nonneg _ v0, Int.tmod_lt_of_pos _ hn0⟩, cs'.2.2.1, cur_tags hc hc' hd, trivial⟩
end Go.Proofs.Ytkigfigdoaoboaa.IM
end

section
/- Contracts: Both, DrawGoes; the law FnModes. Printed by modes.py. -/
namespace Go.Proofs.Ytkigfigdoaoboaa.IM
open Go Go.Proofs
set_option linter.unusedVariables false
set_option linter.unusedSimpArgs false
set_option maxHeartbeats 2000000
set_option maxRecDepth 20000

def both (a b : Int) : Int := if (Md.inB a 1 4 && Md.inB b 1 4) = false then 0 else if (a == b || b == 1) = true then a else if (a == 1) = true then b else 4
theorem big_p (d : D) (xs : List Int) (h : IsL 1 IsByte d xs) : PCall Try.prog 17 [d] fun _ _ r => r = .lit (.bool (decide ((1048576 : Int) < xs.length))) := by
  refine pcall_intro_v Try.func17 rfl (by decide) rfl (by decide) (by rw [Try.ntmps17]; simp) fun w0 M n0 => ivc_sound ?_; simp -dsimp only [Try.f17, go_sem, h.lenT]
theorem two_tags {a b : Value} {p : Nat → Prop} : (D.tup 2 (nthD [.lit a, .lit b])).tags p := fun i hi => by
  match i, hi with
  | 0, _ => trivial
  | 1, _ => trivial
theorem modes_fin : ∀ i j : Fin 6, Md.goes (j.val : Int) (i.val : Int) = Md.goes (i.val : Int) (j.val : Int) ∧ both (j.val : Int) (i.val : Int) = both (i.val : Int) (j.val : Int) ∧
    (∀ k : Fin 5, 0 < both (i.val : Int) (j.val : Int) → Md.goes (both (i.val : Int) (j.val : Int)) (k.val : Int) = true → Md.goes (i.val : Int) (k.val : Int) = true ∧ Md.goes (j.val : Int) (k.val : Int) = true) ∧
    (both (i.val : Int) (j.val : Int) = 0 ∨ (both (both (i.val : Int) (j.val : Int)) (i.val : Int) = both (i.val : Int) (j.val : Int) ∧ both (both (i.val : Int) (j.val : Int)) (j.val : Int) = both (i.val : Int) (j.val : Int))) := by decide +kernel
theorem modes_all {a b : Int} (a0 : 0 ≤ a) (a1 : a < 6) (b0 : 0 ≤ b) (b1 : b < 6) : Md.goes b a = Md.goes a b ∧ both b a = both a b ∧ (∀ k : Nat, k < 5 → 0 < both a b → Md.goes (both a b) k = true → Md.goes a k = true ∧ Md.goes b k = true) ∧
    (both a b = 0 ∨ (both (both a b) a = both a b ∧ both (both a b) b = both a b)) := by
  obtain ⟨i, rfl⟩ := Int.eq_ofNat_of_zero_le a0
  obtain ⟨j, rfl⟩ := Int.eq_ofNat_of_zero_le b0
  have h := modes_fin ⟨i, by omega⟩ ⟨j, by omega⟩
  exact ⟨h.1, h.2.1, fun k hk => h.2.2.1 ⟨k, hk⟩, h.2.2.2⟩
end Go.Proofs.Ytkigfigdoaoboaa.IM
end

section
/- Contracts: more of the cursor of the draws. Printed by draws2.py. -/
namespace Go.Proofs.Ytkigfigdoaoboaa.IM
open Go Go.Proofs
set_option linter.unusedVariables false
set_option linter.unusedSimpArgs false
set_option maxHeartbeats 2000000
set_option maxRecDepth 20000

def CurB (e : D) (N : Nat) (_ _ : Nat) (d' r : D) : Prop := Cur e N d' ∧ ∃ b : Bool, r = .lit (.bool b)
def CurL (e : D) (N : Nat) (ys : List Int) (_ _ : Nat) (d' r : D) : Prop := Cur e N d' ∧ ∃ (j : Nat) (hj : j < ys.length), r = .lit (.int .i64 ys[j])
theorem l1Once_b (e c : D) (xs : List Int) (n : Int) (h : IsL 1 IsByte e xs) (hd : e.data) (hc : Cur e xs.length c) (hn0 : 0 < n) (hn1 : n ≤ 256) : BCall Try.prog 109 .nil c [.lit (.int .i64 n)] (CurB e xs.length) := by
  have cs := hc.shape
  refine bcall_intro Try.func109 rfl (by decide) rfl (by decide) (by rw [Try.ntmps109]; simp) fun w0 M n0 gb hW hS hT hgb => ivc_sound ?_; simp -dsimp only [Try.f109, go_sem, cs.1, cs.2.1, cs.2.2.1]
  refine xcall_b (l := 1000) (g := 0) (b := gb) (l1Below_b e c xs n h hd hc hn0 hn1) (by simp -dsimp only [go_sem]) (by simp -dsimp only [go_sem]) cs.2.2.2 ⟨trivial, trivial⟩ (by simp [D.tl]) (by simp [D.tl]) [0, 1, 4] (fun _ => none) rfl fun n5 n6 d' r hn5 hn6 ht hq =>
    ⟨by simp -dsimp only [go_sem], CarR.skip (CarR.none _ _ _) rfl, ?_⟩
  obtain ⟨hc', v, rfl, v0, v1⟩ := hq
  have cs' := hc'.shape
  simp -dsimp only [go_sem, cs'.1, cs'.2.1, cs'.2.2.1]
  refine ⟨_, rfl, fun n1 hn1 hfc => ?_⟩
  rw [rl_still cs'.2.2.2]
  try simp -dsimp only [go_sem, rl_lit]
  exact ⟨⟨hc', _, rfl⟩, cs'.2.2.1, cur_tags hc hc' hd, trivial⟩
theorem l1Int_b (e c ls : D) (xs ys : List Int) (h : IsL 1 IsByte e xs) (hd : e.data) (hc : Cur e xs.length c) (hl : IsL 1 IsInt ls ys) (hy0 : 0 < ys.length) (hy1 : ys.length ≤ 256) : BCall Try.prog 125 .nil c [ls] (CurL e xs.length ys) := by
  have cs := hc.shape
  have hls := hl.still
  have hld : ls.data := IsL.data (fun d x h => by have h : d = _ := h; subst h; trivial) hl
  have hlt := hl.lenT
  obtain ⟨t, zb, f, hfe, hst, hf⟩ := hl.sl (i := 0) hy0
  subst hfe
  refine bcall_intro Try.func125 rfl (by decide) rfl (by decide) (by rw [Try.ntmps125]; simp) fun w0 M n0 gb hW hS hT hgb => ivc_sound ?_; simp -dsimp only [Try.f125, go_sem, cs.1, cs.2.1, cs.2.2.1, hlt]
  have lT : (D.sl t zb ys.length 1 f).tags (· < n0) := hT _ (by simp) hld
  have cf : Carry .nil .any (D.sl t zb ys.length 1 f) (D.sl t zb ys.length 1 f) := .apart _ (D.tags_mono (fun b _ => by simp [D.tl]) lT)
  refine xcall_b (l := 1000) (g := 0) (b := gb) (l1Below_b e c xs (ys.length : Int) h hd hc (by omega) (by omega)) (by simp -dsimp only [go_sem]) (by simp -dsimp only [go_sem]) cs.2.2.2 ⟨trivial, trivial⟩ (by simp [D.tl]) (by simp [D.tl]) [0, 4, 5] (fun _ => none) rfl fun n5 n6 d' r hn5 hn6 ht hq =>
    ⟨by simp -dsimp only [go_sem, cf], CarR.skip (CarR.none _ _ _) rfl, ?_⟩
  obtain ⟨hc', v, rfl, v0, v1⟩ := hq
  have cs' := hc'.shape
  have hvn : v.toNat < ys.length := by omega
  have hfv := hf _ hvn
  have hfv : f v.toNat = _ := hfv
  simp -dsimp only [go_sem, cs'.1, cs'.2.1, cs'.2.2.1, v0, v1, hfv, hvn]
  refine ⟨_, rfl, fun n1 hn1 hfc => ?_⟩
  rw [rl_still cs'.2.2.2]
  try simp -dsimp only [go_sem, rl_lit]
  exact ⟨⟨hc', _, hvn, rfl⟩, cs'.2.2.1, cur_tags hc hc' hd, trivial⟩
end Go.Proofs.Ytkigfigdoaoboaa.IM
end

section
/- Contracts: drawn objects, slots, pages. Printed by draws3.py. -/
namespace Go.Proofs.Ytkigfigdoaoboaa.IM
open Go Go.Proofs
set_option linter.unusedVariables false
set_option linter.unusedSimpArgs false
set_option maxHeartbeats 2000000
set_option maxRecDepth 20000

def CurX (e : D) (N : Nat) (A : D → Prop) (n0 n1 : Nat) (d' r : D) : Prop := Cur e N d' ∧ A r ∧ Own n0 n1 r
/-- numbers in a row -/
def IntRow (f : Nat → D) (ys : List Int) : Prop := (∀ j, (f j).still) ∧ ∀ i (h : i < ys.length), f i = .lit (.int .i64 ys[i])
/-- a list of numbers as it grows: nothing yet, or a root of its own -/
def GI (l m : Nat) (ys : List Int) (hd : D) (R R' : Roots) : Prop :=
  (hd = .nil ∧ ys = [] ∧ R' = R) ∨ ∃ g b f, hd = .msl l g 0 [] 0 ys.length 1 ∧ m ≤ b ∧ R' = upd R l (some (g, b, .node (.arr ys.length 1) f)) ∧ IntRow f ys
theorem IntRow.one {z : Nat → D} {v : Int} (hz : ∀ j, (z j).still) : IntRow (upd z 0 (.lit (.int .i64 v))) [v] :=
  ⟨still_upd hz trivial, fun i hi => by
    have : i = 0 := by simpa using hi
    subst this; rw [upd_same]; rfl⟩
theorem IntRow.cat {f z : Nat → D} {ys : List Int} {v : Int} (h : IntRow f ys) (hz : ∀ j, (z j).still) : IntRow (catD ys.length f (upd z 0 (.lit (.int .i64 v)))) (ys ++ [v]) :=
  ⟨still_cat h.1 (still_upd hz trivial), fun i hi => by
    rw [List.length_append, List.length_singleton] at hi
    by_cases hlt : i < ys.length
    · rw [List.getElem_append_left hlt]
      show (if i < ys.length then f i else _) = _
      rw [if_pos hlt]; exact h.2 i hlt
    · have : i = ys.length := by omega
      subst this
      show (if ys.length < ys.length then f _ else upd z 0 _ (ys.length - ys.length)) = _
      rw [if_neg (Nat.lt_irrefl _), Nat.sub_self, upd_same]
      simp⟩
theorem IntRow.isL {f : Nat → D} {ys : List Int} {b lo hi : Nat} (h : IntRow f ys) (hs : ys.length < 140737488355328) (h1 : lo ≤ b) (h2 : b < hi) : IsL 1 IsInt (.sl b true ys.length 1 f) ys ∧ Own lo hi (.sl b true ys.length 1 f) :=
  ⟨.inr ⟨b, true, f, rfl, h.1, hs, h.2⟩, own_sl (ownN_plain fun i hi => by rw [h.2 i hi]; exact ⟨rfl, trivial⟩) h1 h2 fun i hi => by rw [h.2 i hi]; simp [D.tl]⟩
/-- a written list of numbers -/
def LD (ys : List Int) : Nat → D := fun i => .lit (.int .i64 (ys.getD i 0))
theorem LD_still (ys : List Int) (i : Nat) : (LD ys i).still := trivial
theorem lits {f : Nat → D} {ys : List Int} {k : Nat} {F : Relab} (h : ∀ i, f i = LD ys i) : (fun i => rl k F (f i)) = LD ys := by
  have : f = LD ys := funext h
  subst this
  exact rls_still (LD_still ys)
theorem isL_LD (t : Nat) {vals : List Int} (h : vals.length < 140737488355328) : IsL 1 IsInt (.sl t true vals.length 1 (LD vals)) vals :=
  .inr ⟨t, true, LD vals, rfl, LD_still vals, h, fun i hi => by show D.lit _ = _; rw [List.getD_eq_getElem?_getD, List.getElem?_eq_getElem hi]; rfl⟩
theorem obj_end {k0 : Int} {i1 i2 : List Int} {lo hi : Nat} {a b : D} (h1 : IsL 1 IsInt a i1) (h2 : IsL 1 IsInt b i2) (o1 : Own lo hi a) (o2 : Own lo hi b) (hd : ∀ t ∈ a.tl, t ∉ b.tl) :
    IsObj (.node (.agg [1, 1, 1]) (nthD [.lit (.int .i64 k0), a, b])) ⟨k0, i1, i2⟩ ∧ Own lo hi (.node (.agg [1, 1, 1]) (nthD [.lit (.int .i64 k0), a, b])) := by
  refine ⟨⟨_, rfl, stN ⟨trivial, h1.still, h2.still, trivial⟩, rfl, h1, h2⟩, own_node ⟨fun i hi t ht => ?_, fun i hi => ?_, fun i j hij hj t ht ht' => ?_, fun i hi => ?_⟩⟩
  · match i, hi with
    | 0, _ => simp [nthD, D.tl] at ht
    | 1, _ => exact o1.rg t ht
    | 2, _ => exact o2.rg t ht
  · match i, hi with
    | 0, _ => simp [nthD, D.tl]
    | 1, _ => exact o1.nd
    | 2, _ => exact o2.nd
  · have hj' : j < 3 := hj
    rcases (by omega : i = 0 ∨ (i = 1 ∧ j = 2)) with rfl | ⟨rfl, rfl⟩
    · simp [nthD, D.tl] at ht
    · exact hd t ht ht'
  · match i, hi with
    | 0, _ => trivial
    | 1, _ => exact o1.wh
    | 2, _ => exact o2.wh
theorem tl_ints {f : Nat → D} {ys : List Int} {b : Nat} (h : IntRow f ys) : (D.sl b true ys.length 1 f).tl = [b] := by
  simp only [D.tl]
  congr 1
  rw [List.flatMap_eq_nil_iff]
  intro i hi
  rw [h.2 i (List.mem_range.1 hi)]; rfl
theorem cobj_end {e c cc : D} {N n0 n1 k : Nat} {F : Relab} {q : Nat → D} {a b : D} {k0 : Int} {o : Md.Obj} (hc : Cur e N c) (hcc : Cur e N cc) (hd : e.data)
    (hob : IsObj (.node (.agg [1, 1, 1]) (nthD [.lit (.int .i64 k0), a, b])) o ∧ Own n0 n1 (.node (.agg [1, 1, 1]) (nthD [.lit (.int .i64 k0), a, b]))) (hs : Md.szObj o ≤ 5)
    (h0 : ∀ _ : Nat, rl k F (q 0) = .lit (.int .i64 k0)) (h1 : rl k F (q 1) = a) (h2 : rl k F (q 2) = b) (hq : ∀ j, (q j).still ∨ j = 1 ∨ j = 2) :
    BEnd (CurX e N fun r => ∃ o, IsObj r o ∧ Md.szObj o ≤ 5) c n0 n1 cc (.node (.agg [1, 1, 1]) fun i => rl k F (q i)) := by
  obtain ⟨⟨f, ef, hfs, k0', k1', k2'⟩, ho⟩ := hob
  cases ef
  have hst : ∀ j, (rl k F (q j)).still := fun j => by
    rcases hq j with h | rfl | rfl
    · rw [rl_still h]; exact h
    · rw [h1]; exact k1'.still
    · rw [h2]; exact k2'.still
  have k0'' : IsInt (.lit (.int .i64 k0)) o.kind := k0'
  have k1'' : IsL 1 IsInt a o.ints := k1'
  have k2'' : IsL 1 IsInt b o.refs := k2'
  have ch : ∀ i, i < 3 → rl k F (q i) = nthD [.lit (.int .i64 k0), a, b] i := fun i hi => by
    match i, hi with
    | 0, _ => exact h0 0
    | 1, _ => exact h1
    | 2, _ => exact h2
  have hO : Own n0 n1 (.node (.agg [1, 1, 1]) fun i => rl k F (q i)) := by
    refine own_node ⟨fun i hi t ht => ?_, fun i hi => ?_, fun i j hij hj t ht ht' => ?_, fun i hi => ?_⟩
    · rw [ch i hi] at ht; exact ho.node.rg i hi t ht
    · rw [ch i hi]; exact ho.node.nd i hi
    · have hj' : j < 3 := hj
      rw [ch i (by omega)] at ht; rw [ch j hj] at ht'; exact ho.node.dj i j hij hj t ht ht'
    · rw [ch i hi]; exact ho.node.wh i hi
  refine ⟨⟨hcc, ⟨o, ⟨_, rfl, hst, ?_, ?_, ?_⟩, hs⟩, hO⟩, hcc.shape.2.2.1, cur_tags hc hcc hd, tags_of_tl (whole_data hO.wh) fun t ht => .inr (hO.rg t ht).1⟩
  · show IsInt (rl k F (q 0)) _; rw [h0 0]; exact k0''
  · show IsL 1 IsInt (rl k F (q 1)) _; rw [h1]; exact k1''
  · show IsL 1 IsInt (rl k F (q 2)) _; rw [h2]; exact k2''
theorem gs_1 {q : Nat → D} {v : D} (h : ∀ j, (q j).still ∨ j = 1) (j : Nat) : (upd q 1 v j).still ∨ j = 1 := by
  by_cases hj : j = 1
  · exact .inr hj
  · rw [upd_ne _ _ hj]; exact h j
theorem gs_2 {q : Nat → D} {v : D} (h : ∀ j, (q j).still ∨ j = 1 ∨ j = 2) (j : Nat) : (upd q 2 v j).still ∨ j = 1 ∨ j = 2 := by
  by_cases hj : j = 2
  · exact .inr (.inr hj)
  · rw [upd_ne _ _ hj]; exact h j
theorem l2Obj_b (e c : D) (xs : List Int) (h : IsL 1 IsByte e xs) (hd : e.data) (hc : Cur e xs.length c) : BCall Try.prog 257 .nil c [] (CurX e xs.length fun r => ∃ o, IsObj r o ∧ Md.szObj o ≤ 5) := by
  have sc := hc.shape
  refine bcall_intro Try.func257 rfl (by decide) rfl (by decide) (by rw [Try.ntmps257]; simp) fun w0 M n0 gb hW hS hT hgb => ivc_sound ?_; simp -dsimp only [Try.f257, go_sem, sc.1, sc.2.1, sc.2.2.1]
  intro g2 b2 hb2
  refine xcall_cs (l := 1000) (g := 0) (b := gb) (l1Below_b e c xs 5 h hd hc (by decide) (by decide)) (by simp -dsimp only [go_sem]) ⟨trivial, trivial⟩ (by simp -dsimp only [go_sem]) sc.2.2.2 fun n5 n6 c1 r hn5 hn6 hq => ?_
  obtain ⟨hc1, v, rfl, v0, v1⟩ := hq
  have sc1 := hc1.shape
  simp -dsimp only [go_sem, sc1.1, sc1.2.1, sc1.2.2.1]
  intro g3 b3 hb3
  refine xcall_cs (l := 1000) (g := 0) (b := gb) (l1Below_b e c1 xs 3 h hd hc1 (by decide) (by decide)) (by simp -dsimp only [go_sem]) ⟨trivial, trivial⟩ (by simp -dsimp only [go_sem]) sc1.2.2.2 fun n7 n8 c2 r hn7 hn8 hq => ?_
  obtain ⟨hc2, w, rfl, w0', w1⟩ := hq
  have sc2 := hc2.shape
  generalize hkk : IntKind.i64.wrap (1 + v) = kk
  simp -dsimp only [go_sem, sc2.1, sc2.2.1, sc2.2.2.1, hkk]
  have hn5' : b2 + 1 ≤ n5 := hn5
  have hb3' : n6 ≤ b3 := hb3
  have hn7' : b3 + 1 ≤ n7 := hn7
  refine iwp_forR w.toNat [0, 2, 3] (fun i n' s R => s 4 = .lit (.int .i64 (w - i)) ∧ ∃ cc q hd' ys, Cur e xs.length cc ∧ (∀ j, (q j).still ∨ j = 1) ∧ q 0 = .lit (.int .i64 kk) ∧ q 1 = hd' ∧ q 2 = .nil ∧ ys.length = i ∧
      GI 24 n8 ys hd' (upd (upd (upd (fun _ => none) 1000 (some (0, gb, cc))) 2 (some (g2, b2, zObjD))) 3 (some (g3, b3, .node (.agg [1, 1, 1]) q))) R) 0 (Nat.zero_le _)
    ⟨by simp -dsimp only [go_sem]; simp, c2, _, .nil, [], hc2, fun j => .inl (still_upd (d := .lit (.int .i64 kk)) (stN (l := [.lit (.int .i64 0), .nil, .nil]) (by simp only [stillL_nil, stillL_cons, still_lit, still_nil, still_any, still_nodeN, still_nodeC, and_self])) trivial j), by simp -dsimp only [go_sem], by simp -dsimp only [go_sem], by simp -dsimp only [go_sem], rfl, .inl ⟨rfl, rfl, rfl⟩⟩ ?_
  rintro i n' s R hi hn hk ⟨h4, cc, q, hd', ys, hcc, hqs, q0, q1, q2, hys, hG⟩
  refine ivc_sound ?_
  simp -dsimp only [go_sem] at hk
  have scc := hcc.shape
  have hn9 : n8 ≤ n' := hn
  by_cases hlt : i < w.toNat
  · have hpos : 0 < w - (i : Int) := by omega
    have hw1 : IntKind.i64.wrap (w - (i : Int) - 1) = w - ((i + 1 : Nat) : Int) := by rw [w64 (by omega) (by omega)]; omega
    rcases hG with ⟨rfl, rfl, rfl⟩ | ⟨g8, b8, f8, rfl, hb8, rfl, hF⟩
    · simp -dsimp only [go_sem, hk, h4, hpos, q0, q1, q2]
      refine iwp_plan [(0, true), (1, true), (2, true), (3, true), (4, false), (5, false), (6, false), (7, false), (8, false), (9, true), (10, false)] [3] rfl (by decide +kernel) (by decide) [10] (by decide +kernel) ?_
      simp -dsimp only [go_sem, hk, h4, hpos, q0, q1, q2]
      refine xcall_cs (l := 1000) (g := 0) (b := gb) (l1Below_b e cc xs 50 h hd hcc (by decide) (by decide)) (by simp -dsimp only [go_sem, hk]) ⟨trivial, trivial⟩ (by simp -dsimp only [go_sem]) scc.2.2.2 fun m1 m2 c3 r hm1 hm2 hq => ?_
      obtain ⟨hc3, z, rfl, z0, z1⟩ := hq
      have sc3 := hc3.shape
      simp -dsimp only [go_sem, hk, h4, hpos, q0, q1, q2, sc3.1, sc3.2.1, sc3.2.2.1]
      intro g5 b5 hb5
      refine xcall_c (rest0 := [.msl 21 g5 0 [] 0 7 1]) (l := 1000) (g := 0) (b := gb) (l1Int_b e c3 _ xs [0, 1, -1, 7, 1000000, -1000000, z] h hd hc3 (isL_LD b5 (vals := [0, 1, -1, 7, 1000000, -1000000, z]) (by simp)) (by simp) (by simp)) (by simp -dsimp only [go_sem]) (by
        simp -dsimp only [go_sem]
        exact congrArg (fun f => [D.sl b5 true 7 1 f]) (lits fun i => by match i with | 0 => rfl | 1 => rfl | 2 => rfl | 3 => rfl | 4 => rfl | 5 => rfl | 6 => rfl | i + 7 => rfl)) (by simp -dsimp only [go_sem]) sc3.2.2.2 fun m3 m4 c4 r hm3 hm4 hq => ?_
      obtain ⟨hc4, j4, hj4, hr4⟩ := hq
      obtain ⟨u, hu4⟩ : ∃ u : Int, r = .lit (.int .i64 u) := ⟨_, hr4⟩
      subst hu4
      have sc4 := hc4.shape
      simp -dsimp only [go_sem, hk, h4, hpos, q0, q1, q2, sc4.1, sc4.2.1, sc4.2.2.1]
      have hm1' : n' ≤ m1 := hm1
      have hb5' : m2 ≤ b5 := hb5
      have hm3' : b5 + 1 ≤ m3 := hm3
      intro g6 b6 hb6
      have hb6' : m4 ≤ b6 := hb6
      refine ⟨fun y h => h.symm, fun g7 b7 n2 hn2 hb7 hb9 => ?_⟩
      refine ⟨hlt, into_rd (R' := upd (upd (upd (upd (fun _ => none) 1000 (some (0, gb, c4))) 2 (some (g2, b2, zObjD))) 3 (some (g3, b3, .node (.agg [1, 1, 1]) (upd q 1 (.msl 24 g7 0 [] 0 1 1))))) 24 (some (g7, b7, .node (.arr 1 1) (upd (fun _ => .lit (.int .i64 0)) 0 (.lit (.int .i64 u)))))) (fun j => by
        by_cases h1 : j = 21
        · subst h1; right; simp [upd]
        · by_cases h2 : j = 23
          · subst h2; right; simp [upd]
          · by_cases h3 : j = 24
            · subst h3; left; simp [upd]
            · left; simp [upd, h1, h2, h3]) (by omega) (by simp -dsimp only [go_sem, hk])
        ⟨by simp -dsimp only [go_sem, hw1], c4, (upd q 1 (.msl 24 g7 0 [] 0 1 1)), (.msl 24 g7 0 [] 0 1 1), [u], hc4, gs_1 hqs, by simp -dsimp only [go_sem, q0], by simp -dsimp only [go_sem], by simp -dsimp only [go_sem, q2], by simp at hys ⊢; omega, .inr ⟨g7, b7, _, rfl, by omega, rfl, IntRow.one (z := fun _ => .lit (.int .i64 0)) fun _ => trivial⟩⟩⟩
    · simp -dsimp only [go_sem, hk, h4, hpos, q0, q1, q2]
      refine iwp_plan [(0, true), (1, true), (2, true), (3, true), (4, false), (5, false), (6, false), (7, false), (8, false), (9, true), (10, false)] [3] rfl (by decide +kernel) (by decide) [10] (by decide +kernel) ?_
      simp -dsimp only [go_sem, hk, h4, hpos, q0, q1, q2]
      refine xcall_cs (l := 1000) (g := 0) (b := gb) (l1Below_b e cc xs 50 h hd hcc (by decide) (by decide)) (by simp -dsimp only [go_sem, hk]) ⟨trivial, trivial⟩ (by simp -dsimp only [go_sem]) scc.2.2.2 fun m1 m2 c3 r hm1 hm2 hq => ?_
      obtain ⟨hc3, z, rfl, z0, z1⟩ := hq
      have sc3 := hc3.shape
      simp -dsimp only [go_sem, hk, h4, hpos, q0, q1, q2, sc3.1, sc3.2.1, sc3.2.2.1]
      intro g5 b5 hb5
      refine xcall_c (rest0 := [.msl 21 g5 0 [] 0 7 1]) (l := 1000) (g := 0) (b := gb) (l1Int_b e c3 _ xs [0, 1, -1, 7, 1000000, -1000000, z] h hd hc3 (isL_LD b5 (vals := [0, 1, -1, 7, 1000000, -1000000, z]) (by simp)) (by simp) (by simp)) (by simp -dsimp only [go_sem]) (by
        simp -dsimp only [go_sem]
        exact congrArg (fun f => [D.sl b5 true 7 1 f]) (lits fun i => by match i with | 0 => rfl | 1 => rfl | 2 => rfl | 3 => rfl | 4 => rfl | 5 => rfl | 6 => rfl | i + 7 => rfl)) (by simp -dsimp only [go_sem]) sc3.2.2.2 fun m3 m4 c4 r hm3 hm4 hq => ?_
      obtain ⟨hc4, j4, hj4, hr4⟩ := hq
      obtain ⟨u, hu4⟩ : ∃ u : Int, r = .lit (.int .i64 u) := ⟨_, hr4⟩
      subst hu4
      have sc4 := hc4.shape
      simp -dsimp only [go_sem, hk, h4, hpos, q0, q1, q2, sc4.1, sc4.2.1, sc4.2.2.1]
      have hm1' : n' ≤ m1 := hm1
      have hb5' : m2 ≤ b5 := hb5
      have hm3' : b5 + 1 ≤ m3 := hm3
      intro g6 b6 hb6
      have hb6' : m4 ≤ b6 := hb6
      refine ⟨fun y h => h.symm, by omega, by omega, fun g7 b7 n2 hn2 hb7 hb9 => ?_⟩
      have hb10 : n8 ≤ b7 := by rcases hb9 with h | h <;> omega
      refine ⟨hlt, into_rd (R' := upd (upd (upd (upd (fun _ => none) 1000 (some (0, gb, c4))) 2 (some (g2, b2, zObjD))) 3 (some (g3, b3, .node (.agg [1, 1, 1]) (upd q 1 (.msl 24 g7 0 [] 0 (ys.length + 1) 1))))) 24 (some (g7, b7, .node (.arr (ys.length + 1) 1) (catD ys.length f8 (upd (fun _ => .lit (.int .i64 0)) 0 (.lit (.int .i64 u))))))) (fun j => by
        by_cases h1 : j = 21
        · subst h1; right; simp [upd]
        · by_cases h2 : j = 23
          · subst h2; right; simp [upd]
          · by_cases h3 : j = 24
            · subst h3; left; simp [upd]
            · left; simp [upd, h1, h2, h3]) (by omega) (by simp -dsimp only [go_sem, hk])
        ⟨by simp -dsimp only [go_sem, hw1], c4, (upd q 1 (.msl 24 g7 0 [] 0 (ys.length + 1) 1)), (.msl 24 g7 0 [] 0 (ys.length + 1) 1), (ys ++ [u]), hc4, gs_1 hqs, by simp -dsimp only [go_sem, q0], by simp -dsimp only [go_sem], by simp -dsimp only [go_sem, q2], by simp at hys ⊢; omega, .inr ⟨g7, b7, _, by rw [List.length_append]; rfl, by omega, by rw [List.length_append]; rfl, hF.cat (z := fun _ => .lit (.int .i64 0)) fun _ => trivial⟩⟩⟩
  · have hneg : ¬ 0 < w - (i : Int) := by omega
    have hle : ys.length ≤ 2 := by omega
    rcases hG with ⟨rfl, rfl, rfl⟩ | ⟨g8, b8, f8, rfl, hb8, rfl, hF⟩
    · simp -dsimp only [go_sem, hk, h4, hneg, q0, q1, q2]
      refine xcall_cs (l := 1000) (g := 0) (b := gb) (l1Below_b e cc xs 4 h hd hcc (by decide) (by decide)) (by simp -dsimp only [go_sem, hk]) ⟨trivial, trivial⟩ (by simp -dsimp only [go_sem]) scc.2.2.2 fun n9a n10 c5 r hn9a hn10 hq => ?_
      obtain ⟨hc5, w2, rfl, w20, w21⟩ := hq
      have sc5 := hc5.shape
      simp -dsimp only [go_sem, hk, h4, hneg, q0, q1, q2, sc5.1, sc5.2.1, sc5.2.2.1]
      have hn9a' : _ ≤ n9a := hn9a
      refine iwp_forR w2.toNat [0, 2, 3] (fun i n' s R => s 5 = .lit (.int .i64 (w2 - i)) ∧ ∃ cc q hd' zs, Cur e xs.length cc ∧ (∀ j, (q j).still ∨ j = 1 ∨ j = 2) ∧ q 0 = .lit (.int .i64 kk) ∧ q 2 = hd' ∧ q 1 = .nil ∧ zs.length = i ∧
          GI 40 n10 zs hd' (upd (upd (upd (fun _ => none) 1000 (some (0, gb, cc))) 2 (some (g2, b2, zObjD))) 3 (some (g3, b3, .node (.agg [1, 1, 1]) q))) R) 0 (Nat.zero_le _)
        ⟨by simp -dsimp only [go_sem]; simp, c5, _, .nil, [], hc5, fun j => (hqs j).imp id .inl, by simp -dsimp only [go_sem, q0], by simp -dsimp only [go_sem, q2], by simp -dsimp only [go_sem, q1], rfl, .inl ⟨rfl, rfl, rfl⟩⟩ ?_
      rintro i n' s R hi hn hk2 ⟨h4, cc, q, hd', zs, hcc, hqs, q0, q2, q1, hzs, hG⟩
      refine ivc_sound ?_
      simp -dsimp only [go_sem, hk] at hk2
      have scc := hcc.shape
      have hn9 : n10 ≤ n' := hn
      by_cases hlt : i < w2.toNat
      · have hpos : 0 < w2 - (i : Int) := by omega
        have hw1 : IntKind.i64.wrap (w2 - (i : Int) - 1) = w2 - ((i + 1 : Nat) : Int) := by rw [w64 (by omega) (by omega)]; omega
        rcases hG with ⟨rfl, rfl, rfl⟩ | ⟨g9, b9, f9, rfl, hb8z, rfl, hF2⟩
        · simp -dsimp only [go_sem, hk, hk2, h4, hpos, q0, q1, q2]
          refine iwp_plan [(0, true), (1, true), (2, true), (3, true), (4, false), (5, false), (6, false), (7, false), (8, false), (9, true), (10, false)] [3] rfl (by decide +kernel) (by decide) [10] (by decide +kernel) ?_
          simp -dsimp only [go_sem, hk, hk2, h4, hpos, q0, q1, q2]
          refine xcall_cs (l := 1000) (g := 0) (b := gb) (l1Below_b e cc xs 32 h hd hcc (by decide) (by decide)) (by simp -dsimp only [go_sem, hk, hk2]) ⟨trivial, trivial⟩ (by simp -dsimp only [go_sem]) scc.2.2.2 fun m1 m2 c3 r hm1 hm2 hq => ?_
          obtain ⟨hc3, z, rfl, z0, z1⟩ := hq
          have sc3 := hc3.shape
          simp -dsimp only [go_sem, hk, hk2, h4, hpos, q0, q1, q2, sc3.1, sc3.2.1, sc3.2.2.1]
          intro g5 b5 hb5
          refine xcall_c (rest0 := [.msl 37 g5 0 [] 0 9 1]) (l := 1000) (g := 0) (b := gb) (l1Int_b e c3 _ xs [0, 1, 2, 3, 5, 8, 12, 31, z] h hd hc3 (isL_LD b5 (vals := [0, 1, 2, 3, 5, 8, 12, 31, z]) (by simp)) (by simp) (by simp)) (by simp -dsimp only [go_sem]) (by
            simp -dsimp only [go_sem]
            exact congrArg (fun f => [D.sl b5 true 9 1 f]) (lits fun i => by match i with | 0 => rfl | 1 => rfl | 2 => rfl | 3 => rfl | 4 => rfl | 5 => rfl | 6 => rfl | 7 => rfl | 8 => rfl | i + 9 => rfl)) (by simp -dsimp only [go_sem]) sc3.2.2.2 fun m3 m4 c4 r hm3 hm4 hq => ?_
          obtain ⟨hc4, j4, hj4, hr4⟩ := hq
          obtain ⟨u, hu4⟩ : ∃ u : Int, r = .lit (.int .i64 u) := ⟨_, hr4⟩
          subst hu4
          have sc4 := hc4.shape
          simp -dsimp only [go_sem, hk, hk2, h4, hpos, q0, q1, q2, sc4.1, sc4.2.1, sc4.2.2.1]
          have hm1' : n' ≤ m1 := hm1
          have hb5' : m2 ≤ b5 := hb5
          have hm3' : b5 + 1 ≤ m3 := hm3
          intro g6 b6 hb6
          have hb6' : m4 ≤ b6 := hb6
          refine ⟨fun y h => h.symm, fun g7 b7 n2 hn2 hb7 hb9 => ?_⟩
          refine ⟨hlt, into_rd (R' := upd (upd (upd (upd (fun _ => none) 1000 (some (0, gb, c4))) 2 (some (g2, b2, zObjD))) 3 (some (g3, b3, .node (.agg [1, 1, 1]) (upd q 2 (.msl 40 g7 0 [] 0 1 1))))) 40 (some (g7, b7, .node (.arr 1 1) (upd (fun _ => .lit (.int .i64 0)) 0 (.lit (.int .i64 u)))))) (fun j => by
            by_cases h1 : j = 37
            · subst h1; right; simp [upd]
            · by_cases h2 : j = 39
              · subst h2; right; simp [upd]
              · by_cases h3 : j = 40
                · subst h3; left; simp [upd]
                · left; simp [upd, h1, h2, h3]) (by omega) (by simp -dsimp only [go_sem, hk, hk2])
            ⟨by simp -dsimp only [go_sem, hw1], c4, (upd q 2 (.msl 40 g7 0 [] 0 1 1)), (.msl 40 g7 0 [] 0 1 1), [u], hc4, gs_2 hqs, by simp -dsimp only [go_sem, q0], by simp -dsimp only [go_sem], by simp -dsimp only [go_sem, q1], by simp at hzs ⊢; omega, .inr ⟨g7, b7, _, rfl, by omega, rfl, IntRow.one (z := fun _ => .lit (.int .i64 0)) fun _ => trivial⟩⟩⟩
        · simp -dsimp only [go_sem, hk, hk2, h4, hpos, q0, q1, q2]
          refine iwp_plan [(0, true), (1, true), (2, true), (3, true), (4, false), (5, false), (6, false), (7, false), (8, false), (9, true), (10, false)] [3] rfl (by decide +kernel) (by decide) [10] (by decide +kernel) ?_
          simp -dsimp only [go_sem, hk, hk2, h4, hpos, q0, q1, q2]
          refine xcall_cs (l := 1000) (g := 0) (b := gb) (l1Below_b e cc xs 32 h hd hcc (by decide) (by decide)) (by simp -dsimp only [go_sem, hk, hk2]) ⟨trivial, trivial⟩ (by simp -dsimp only [go_sem]) scc.2.2.2 fun m1 m2 c3 r hm1 hm2 hq => ?_
          obtain ⟨hc3, z, rfl, z0, z1⟩ := hq
          have sc3 := hc3.shape
          simp -dsimp only [go_sem, hk, hk2, h4, hpos, q0, q1, q2, sc3.1, sc3.2.1, sc3.2.2.1]
          intro g5 b5 hb5
          refine xcall_c (rest0 := [.msl 37 g5 0 [] 0 9 1]) (l := 1000) (g := 0) (b := gb) (l1Int_b e c3 _ xs [0, 1, 2, 3, 5, 8, 12, 31, z] h hd hc3 (isL_LD b5 (vals := [0, 1, 2, 3, 5, 8, 12, 31, z]) (by simp)) (by simp) (by simp)) (by simp -dsimp only [go_sem]) (by
            simp -dsimp only [go_sem]
            exact congrArg (fun f => [D.sl b5 true 9 1 f]) (lits fun i => by match i with | 0 => rfl | 1 => rfl | 2 => rfl | 3 => rfl | 4 => rfl | 5 => rfl | 6 => rfl | 7 => rfl | 8 => rfl | i + 9 => rfl)) (by simp -dsimp only [go_sem]) sc3.2.2.2 fun m3 m4 c4 r hm3 hm4 hq => ?_
          obtain ⟨hc4, j4, hj4, hr4⟩ := hq
          obtain ⟨u, hu4⟩ : ∃ u : Int, r = .lit (.int .i64 u) := ⟨_, hr4⟩
          subst hu4
          have sc4 := hc4.shape
          simp -dsimp only [go_sem, hk, hk2, h4, hpos, q0, q1, q2, sc4.1, sc4.2.1, sc4.2.2.1]
          have hm1' : n' ≤ m1 := hm1
          have hb5' : m2 ≤ b5 := hb5
          have hm3' : b5 + 1 ≤ m3 := hm3
          intro g6 b6 hb6
          have hb6' : m4 ≤ b6 := hb6
          refine ⟨fun y h => h.symm, by omega, by omega, fun g7 b7 n2 hn2 hb7 hb9 => ?_⟩
          have hb10 : n10 ≤ b7 := by rcases hb9 with h | h <;> omega
          refine ⟨hlt, into_rd (R' := upd (upd (upd (upd (fun _ => none) 1000 (some (0, gb, c4))) 2 (some (g2, b2, zObjD))) 3 (some (g3, b3, .node (.agg [1, 1, 1]) (upd q 2 (.msl 40 g7 0 [] 0 (zs.length + 1) 1))))) 40 (some (g7, b7, .node (.arr (zs.length + 1) 1) (catD zs.length f9 (upd (fun _ => .lit (.int .i64 0)) 0 (.lit (.int .i64 u))))))) (fun j => by
            by_cases h1 : j = 37
            · subst h1; right; simp [upd]
            · by_cases h2 : j = 39
              · subst h2; right; simp [upd]
              · by_cases h3 : j = 40
                · subst h3; left; simp [upd]
                · left; simp [upd, h1, h2, h3]) (by omega) (by simp -dsimp only [go_sem, hk, hk2])
            ⟨by simp -dsimp only [go_sem, hw1], c4, (upd q 2 (.msl 40 g7 0 [] 0 (zs.length + 1) 1)), (.msl 40 g7 0 [] 0 (zs.length + 1) 1), (zs ++ [u]), hc4, gs_2 hqs, by simp -dsimp only [go_sem, q0], by simp -dsimp only [go_sem], by simp -dsimp only [go_sem, q1], by simp at hzs ⊢; omega, .inr ⟨g7, b7, _, by rw [List.length_append]; rfl, by omega, by rw [List.length_append]; rfl, hF2.cat (z := fun _ => .lit (.int .i64 0)) fun _ => trivial⟩⟩⟩
      · have hneg2 : ¬ 0 < w2 - (i : Int) := by omega
        have hle2 : zs.length ≤ 3 := by omega
        rcases hG with ⟨rfl, rfl, rfl⟩ | ⟨g9, b9, f9, rfl, hb8z, rfl, hF2⟩
        · simp -dsimp only [go_sem, hk, hk2, h4, hneg2, q0, q1, q2]
          refine ⟨trivial, rfl, _, rfl, fun n1 hn1 hfc => ?_⟩
          have hn1' : n' ≤ n1 := hn1
          rw [rl_still scc.2.2.2, rl_node]
          have hob := obj_end (k0 := kk) (lo := n0) (hi := n1) (a := .nil) (b := .nil) (i1 := []) (i2 := []) (.inl ⟨rfl, rfl⟩) (.inl ⟨rfl, rfl⟩) (own_nil _ _) (own_nil _ _) (fun t ht ht' => by simp [D.tl] at ht)
          exact cobj_end hc hcc hd hob (by simp [Md.szObj] <;> omega) (fun i => by simp -dsimp only [go_sem, q0]) (by simp -dsimp only [go_sem, q1]) (by simp -dsimp only [go_sem, q2]) hqs
        · simp -dsimp only [go_sem, hk, hk2, h4, hneg2, q0, q1, q2]
          refine ⟨trivial, rfl, _, rfl, fun n1 hn1 hfc => ?_⟩
          have hn1' : n' ≤ n1 := hn1
          rw [rl_still scc.2.2.2, rl_node]
          have hq2 := hF2.isL (b := b9) (lo := n0) (hi := n1) (by omega) (by omega) (hfc.lt 40 _ _ _ (by simp -dsimp only [go_sem]; rfl))
          have hob := obj_end (k0 := kk) (lo := n0) (hi := n1) (a := .nil) (b := .sl b9 true zs.length 1 f9) (i1 := []) (i2 := zs) (.inl ⟨rfl, rfl⟩) hq2.1 (own_nil _ _) hq2.2 (fun t ht ht' => by simp [D.tl] at ht)
          exact cobj_end hc hcc hd hob (by simp [Md.szObj] <;> omega) (fun i => by simp -dsimp only [go_sem, q0]) (by simp -dsimp only [go_sem, q1]) (by simp -dsimp only [go_sem, q2]; rw [rls_still hF2.1]) hqs
    · simp -dsimp only [go_sem, hk, h4, hneg, q0, q1, q2]
      refine xcall_cs (l := 1000) (g := 0) (b := gb) (l1Below_b e cc xs 4 h hd hcc (by decide) (by decide)) (by simp -dsimp only [go_sem, hk]) ⟨trivial, trivial⟩ (by simp -dsimp only [go_sem]) scc.2.2.2 fun n9a n10 c5 r hn9a hn10 hq => ?_
      obtain ⟨hc5, w2, rfl, w20, w21⟩ := hq
      have sc5 := hc5.shape
      simp -dsimp only [go_sem, hk, h4, hneg, q0, q1, q2, sc5.1, sc5.2.1, sc5.2.2.1]
      have hn9a' : _ ≤ n9a := hn9a
      refine iwp_forR w2.toNat [0, 2, 3] (fun i n' s R => s 5 = .lit (.int .i64 (w2 - i)) ∧ ∃ cc q hd' zs, Cur e xs.length cc ∧ (∀ j, (q j).still ∨ j = 1 ∨ j = 2) ∧ q 0 = .lit (.int .i64 kk) ∧ q 2 = hd' ∧ q 1 = .msl 24 g8 0 [] 0 ys.length 1 ∧ zs.length = i ∧
          GI 40 n10 zs hd' (upd (upd (upd (upd (fun _ => none) 1000 (some (0, gb, cc))) 2 (some (g2, b2, zObjD))) 3 (some (g3, b3, .node (.agg [1, 1, 1]) q))) 24 (some (g8, b8, .node (.arr ys.length 1) f8))) R) 0 (Nat.zero_le _)
        ⟨by simp -dsimp only [go_sem]; simp, c5, _, .nil, [], hc5, fun j => (hqs j).imp id .inl, by simp -dsimp only [go_sem, q0], by simp -dsimp only [go_sem, q2], by simp -dsimp only [go_sem, q1], rfl, .inl ⟨rfl, rfl, rfl⟩⟩ ?_
      rintro i n' s R hi hn hk2 ⟨h4, cc, q, hd', zs, hcc, hqs, q0, q2, q1, hzs, hG⟩
      refine ivc_sound ?_
      simp -dsimp only [go_sem, hk] at hk2
      have scc := hcc.shape
      have hn9 : n10 ≤ n' := hn
      by_cases hlt : i < w2.toNat
      · have hpos : 0 < w2 - (i : Int) := by omega
        have hw1 : IntKind.i64.wrap (w2 - (i : Int) - 1) = w2 - ((i + 1 : Nat) : Int) := by rw [w64 (by omega) (by omega)]; omega
        rcases hG with ⟨rfl, rfl, rfl⟩ | ⟨g9, b9, f9, rfl, hb8z, rfl, hF2⟩
        · simp -dsimp only [go_sem, hk, hk2, h4, hpos, q0, q1, q2]
          refine iwp_plan [(0, true), (1, true), (2, true), (3, true), (4, false), (5, false), (6, false), (7, false), (8, false), (9, true), (10, false)] [3] rfl (by decide +kernel) (by decide) [10] (by decide +kernel) ?_
          simp -dsimp only [go_sem, hk, hk2, h4, hpos, q0, q1, q2]
          refine xcall_cs (l := 1000) (g := 0) (b := gb) (l1Below_b e cc xs 32 h hd hcc (by decide) (by decide)) (by simp -dsimp only [go_sem, hk, hk2]) ⟨trivial, trivial⟩ (by simp -dsimp only [go_sem]) scc.2.2.2 fun m1 m2 c3 r hm1 hm2 hq => ?_
          obtain ⟨hc3, z, rfl, z0, z1⟩ := hq
          have sc3 := hc3.shape
          simp -dsimp only [go_sem, hk, hk2, h4, hpos, q0, q1, q2, sc3.1, sc3.2.1, sc3.2.2.1]
          intro g5 b5 hb5
          refine xcall_c (rest0 := [.msl 37 g5 0 [] 0 9 1]) (l := 1000) (g := 0) (b := gb) (l1Int_b e c3 _ xs [0, 1, 2, 3, 5, 8, 12, 31, z] h hd hc3 (isL_LD b5 (vals := [0, 1, 2, 3, 5, 8, 12, 31, z]) (by simp)) (by simp) (by simp)) (by simp -dsimp only [go_sem]) (by
            simp -dsimp only [go_sem]
            exact congrArg (fun f => [D.sl b5 true 9 1 f]) (lits fun i => by match i with | 0 => rfl | 1 => rfl | 2 => rfl | 3 => rfl | 4 => rfl | 5 => rfl | 6 => rfl | 7 => rfl | 8 => rfl | i + 9 => rfl)) (by simp -dsimp only [go_sem]) sc3.2.2.2 fun m3 m4 c4 r hm3 hm4 hq => ?_
          obtain ⟨hc4, j4, hj4, hr4⟩ := hq
          obtain ⟨u, hu4⟩ : ∃ u : Int, r = .lit (.int .i64 u) := ⟨_, hr4⟩
          subst hu4
          have sc4 := hc4.shape
          simp -dsimp only [go_sem, hk, hk2, h4, hpos, q0, q1, q2, sc4.1, sc4.2.1, sc4.2.2.1]
          have hm1' : n' ≤ m1 := hm1
          have hb5' : m2 ≤ b5 := hb5
          have hm3' : b5 + 1 ≤ m3 := hm3
          intro g6 b6 hb6
          have hb6' : m4 ≤ b6 := hb6
          refine ⟨fun y h => h.symm, fun g7 b7 n2 hn2 hb7 hb9 => ?_⟩
          refine ⟨hlt, into_rd (R' := upd (upd (upd (upd (upd (fun _ => none) 1000 (some (0, gb, c4))) 2 (some (g2, b2, zObjD))) 3 (some (g3, b3, .node (.agg [1, 1, 1]) (upd q 2 (.msl 40 g7 0 [] 0 1 1))))) 24 (some (g8, b8, .node (.arr ys.length 1) f8))) 40 (some (g7, b7, .node (.arr 1 1) (upd (fun _ => .lit (.int .i64 0)) 0 (.lit (.int .i64 u)))))) (fun j => by
            by_cases h1 : j = 37
            · subst h1; right; simp [upd]
            · by_cases h2 : j = 39
              · subst h2; right; simp [upd]
              · by_cases h3 : j = 40
                · subst h3; left; simp [upd]
                · left; simp [upd, h1, h2, h3]) (by omega) (by simp -dsimp only [go_sem, hk, hk2])
            ⟨by simp -dsimp only [go_sem, hw1], c4, (upd q 2 (.msl 40 g7 0 [] 0 1 1)), (.msl 40 g7 0 [] 0 1 1), [u], hc4, gs_2 hqs, by simp -dsimp only [go_sem, q0], by simp -dsimp only [go_sem], by simp -dsimp only [go_sem, q1], by simp at hzs ⊢; omega, .inr ⟨g7, b7, _, rfl, by omega, rfl, IntRow.one (z := fun _ => .lit (.int .i64 0)) fun _ => trivial⟩⟩⟩
        · simp -dsimp only [go_sem, hk, hk2, h4, hpos, q0, q1, q2]
          refine iwp_plan [(0, true), (1, true), (2, true), (3, true), (4, false), (5, false), (6, false), (7, false), (8, false), (9, true), (10, false)] [3] rfl (by decide +kernel) (by decide) [10] (by decide +kernel) ?_
          simp -dsimp only [go_sem, hk, hk2, h4, hpos, q0, q1, q2]
          refine xcall_cs (l := 1000) (g := 0) (b := gb) (l1Below_b e cc xs 32 h hd hcc (by decide) (by decide)) (by simp -dsimp only [go_sem, hk, hk2]) ⟨trivial, trivial⟩ (by simp -dsimp only [go_sem]) scc.2.2.2 fun m1 m2 c3 r hm1 hm2 hq => ?_
          obtain ⟨hc3, z, rfl, z0, z1⟩ := hq
          have sc3 := hc3.shape
          simp -dsimp only [go_sem, hk, hk2, h4, hpos, q0, q1, q2, sc3.1, sc3.2.1, sc3.2.2.1]
          intro g5 b5 hb5
          refine xcall_c (rest0 := [.msl 37 g5 0 [] 0 9 1]) (l := 1000) (g := 0) (b := gb) (l1Int_b e c3 _ xs [0, 1, 2, 3, 5, 8, 12, 31, z] h hd hc3 (isL_LD b5 (vals := [0, 1, 2, 3, 5, 8, 12, 31, z]) (by simp)) (by simp) (by simp)) (by simp -dsimp only [go_sem]) (by
            simp -dsimp only [go_sem]
            exact congrArg (fun f => [D.sl b5 true 9 1 f]) (lits fun i => by match i with | 0 => rfl | 1 => rfl | 2 => rfl | 3 => rfl | 4 => rfl | 5 => rfl | 6 => rfl | 7 => rfl | 8 => rfl | i + 9 => rfl)) (by simp -dsimp only [go_sem]) sc3.2.2.2 fun m3 m4 c4 r hm3 hm4 hq => ?_
          obtain ⟨hc4, j4, hj4, hr4⟩ := hq
          obtain ⟨u, hu4⟩ : ∃ u : Int, r = .lit (.int .i64 u) := ⟨_, hr4⟩
          subst hu4
          have sc4 := hc4.shape
          simp -dsimp only [go_sem, hk, hk2, h4, hpos, q0, q1, q2, sc4.1, sc4.2.1, sc4.2.2.1]
          have hm1' : n' ≤ m1 := hm1
          have hb5' : m2 ≤ b5 := hb5
          have hm3' : b5 + 1 ≤ m3 := hm3
          intro g6 b6 hb6
          have hb6' : m4 ≤ b6 := hb6
          refine ⟨fun y h => h.symm, by omega, by omega, fun g7 b7 n2 hn2 hb7 hb9 => ?_⟩
          have hb10 : n10 ≤ b7 := by rcases hb9 with h | h <;> omega
          refine ⟨hlt, into_rd (R' := upd (upd (upd (upd (upd (fun _ => none) 1000 (some (0, gb, c4))) 2 (some (g2, b2, zObjD))) 3 (some (g3, b3, .node (.agg [1, 1, 1]) (upd q 2 (.msl 40 g7 0 [] 0 (zs.length + 1) 1))))) 24 (some (g8, b8, .node (.arr ys.length 1) f8))) 40 (some (g7, b7, .node (.arr (zs.length + 1) 1) (catD zs.length f9 (upd (fun _ => .lit (.int .i64 0)) 0 (.lit (.int .i64 u))))))) (fun j => by
            by_cases h1 : j = 37
            · subst h1; right; simp [upd]
            · by_cases h2 : j = 39
              · subst h2; right; simp [upd]
              · by_cases h3 : j = 40
                · subst h3; left; simp [upd]
                · left; simp [upd, h1, h2, h3]) (by omega) (by simp -dsimp only [go_sem, hk, hk2])
            ⟨by simp -dsimp only [go_sem, hw1], c4, (upd q 2 (.msl 40 g7 0 [] 0 (zs.length + 1) 1)), (.msl 40 g7 0 [] 0 (zs.length + 1) 1), (zs ++ [u]), hc4, gs_2 hqs, by simp -dsimp only [go_sem, q0], by simp -dsimp only [go_sem], by simp -dsimp only [go_sem, q1], by simp at hzs ⊢; omega, .inr ⟨g7, b7, _, by rw [List.length_append]; rfl, by omega, by rw [List.length_append]; rfl, hF2.cat (z := fun _ => .lit (.int .i64 0)) fun _ => trivial⟩⟩⟩
      · have hneg2 : ¬ 0 < w2 - (i : Int) := by omega
        have hle2 : zs.length ≤ 3 := by omega
        rcases hG with ⟨rfl, rfl, rfl⟩ | ⟨g9, b9, f9, rfl, hb8z, rfl, hF2⟩
        · simp -dsimp only [go_sem, hk, hk2, h4, hneg2, q0, q1, q2]
          refine ⟨trivial, rfl, _, rfl, fun n1 hn1 hfc => ?_⟩
          have hn1' : n' ≤ n1 := hn1
          rw [rl_still scc.2.2.2, rl_node]
          have hq1 := hF.isL (b := b8) (lo := n0) (hi := n1) (by omega) (by omega) (hfc.lt 24 _ _ _ (by simp -dsimp only [go_sem]; rfl))
          have hob := obj_end (k0 := kk) (lo := n0) (hi := n1) (a := .sl b8 true ys.length 1 f8) (b := .nil) (i1 := ys) (i2 := []) hq1.1 (.inl ⟨rfl, rfl⟩) hq1.2 (own_nil _ _) (fun t ht ht' => by simp [D.tl] at ht')
          exact cobj_end hc hcc hd hob (by simp [Md.szObj] <;> omega) (fun i => by simp -dsimp only [go_sem, q0]) (by simp -dsimp only [go_sem, q1]; rw [rls_still hF.1]) (by simp -dsimp only [go_sem, q2]) hqs
        · simp -dsimp only [go_sem, hk, hk2, h4, hneg2, q0, q1, q2]
          refine ⟨trivial, rfl, _, rfl, fun n1 hn1 hfc => ?_⟩
          have hn1' : n' ≤ n1 := hn1
          rw [rl_still scc.2.2.2, rl_node]
          have hq1 := hF.isL (b := b8) (lo := n0) (hi := n1) (by omega) (by omega) (hfc.lt 24 _ _ _ (by simp -dsimp only [go_sem]; rfl))
          have hq2 := hF2.isL (b := b9) (lo := n0) (hi := n1) (by omega) (by omega) (hfc.lt 40 _ _ _ (by simp -dsimp only [go_sem]; rfl))
          have hob := obj_end (k0 := kk) (lo := n0) (hi := n1) (a := .sl b8 true ys.length 1 f8) (b := .sl b9 true zs.length 1 f9) (i1 := ys) (i2 := zs) hq1.1 hq2.1 hq1.2 hq2.2 (fun t ht ht' => by
            rw [tl_ints hF] at ht
            rw [tl_ints hF2] at ht'
            simp only [List.mem_singleton] at ht ht'
            subst ht
            exact hfc.inj 24 _ _ _ 40 _ _ _ (by simp -dsimp only [go_sem]; rfl) (by simp -dsimp only [go_sem]; rfl) (by decide) ht')
          exact cobj_end hc hcc hd hob (by simp [Md.szObj] <;> omega) (fun i => by simp -dsimp only [go_sem, q0]) (by simp -dsimp only [go_sem, q1]; rw [rls_still hF.1]) (by simp -dsimp only [go_sem, q2]; rw [rls_still hF2.1]) hqs
end Go.Proofs.Ytkigfigdoaoboaa.IM
end
