/- Several of my texts in one module (merge.py). -/
import Derived.Test.YtpepddckmddbiaaB15
import Derived.Test.YtpepddckmddbiaaB10
import Derived.Test.YtpepddckmddbiaaA3
section
/- A call that answers a pointer to a struct of its own: the struct is a root of the caller. -/
namespace Go.Proofs.Ytpepddckmddbiaa.IM
open Go Go.Proofs Go.RowKit
set_option linter.unusedVariables false
set_option linter.unusedSimpArgs false
set_option maxHeartbeats 2000000
set_option maxRecDepth 20000

def PtrOut (A : D → Prop) (_n0 _n1 : Nat) (outs : List D) (r : D) : Prop := ∃ d, outs = [d] ∧ r = .ptr 1000 0 0 [] ∧ d.still ∧ d.plain ∧ A d

section
variable {P : Program} {f : Nat} {cs : Nat → D} {xs : List Operand} {dst : Option Tmp} {ev : Operand → D} {R : Roots} {n : Nat} {k : Roots → Nat → D → Prop} {Mk : Prop}
theorem xcall_ptr {l : Nat} {args : List D} {A : D → Prop} (h : ICall P f args [] (PtrOut A)) (hl : l = 2000 + 50 * dst.getD 0)
    (hargs : xs.map ev = args) (hst : stillL args)
    (hk : ∀ n1 d G b', n ≤ n1 → d.still → d.plain → A d → b' < n1 → n ≤ b' → k (upd R l (some (G, b', d))) n1 (.ptr l G 0 [])) : XCallT P f 0 cs xs dst ev R n k Mk := by
  refine .inl (.inl ⟨[], by simp, fun l' hl' => absurd hl' (by simp), fun l' hl' => absurd hl' (by simp), ?_⟩)
  have e1 : ((xs.map fun x => rl 9 (labIn R []) (ev x)) ++ (List.range 0).map fun i => rl 9 (labIn R []) (cs i)) = args := by
    rw [List.range_zero, List.map_nil, List.append_nil]
    have : (xs.map fun x => rl 9 (labIn R []) (ev x)) = (xs.map ev).map (rl 9 (labIn R [])) := by rw [List.map_map]; rfl
    rw [this, hargs, still_map hst]
  rw [e1, List.map_nil]
  refine h.mono ?_
  rintro n0 n1 outs r h01 ⟨d, rfl, rfl, hs, hpl, hA⟩ hn
  have hlab : outLab dst [] 0 = l := by rw [hl]; simp [outLab]
  refine ⟨by simp, fun G bs hbs => ⟨fun d' hd => ?_, ?_⟩⟩
  · rw [List.mem_singleton.1 hd, rl_still hs]; exact hpl
  · obtain ⟨h1, h2⟩ := hbs 0 (by simp)
    have h3 : n ≤ bs 0 := by
      rcases h2 with h | ⟨l', hl', h⟩
      · exact h
      · exact absurd hl' (by simp)
    have e3 : addL (remL R []) (labOut [d].length (outLab dst []) G) G (outLab dst []) bs 0 [d] = upd R l (some (G, bs 0, d)) := by
      simp only [addL, remL, hlab]
      rw [rl_still hs]
    have e4 : rl 9 (labOut [d].length (outLab dst []) G) (.ptr 1000 0 0 []) = .ptr l G 0 [] := by
      rw [rl_ptr, outTo _ _ _ (by simp), hlab]
    rw [e3, e4]
    exact hk n1 d G (bs 0) (Nat.le_trans hn h01) hs hpl hA h1 h3
end

def PEnd (P : Program) (rs : List ResultVar) (A : D → Prop) (st : St) : Prop :=
  (∀ r ∈ rs, retOk P st r) ∧ ∃ l g b d, retV st rs = .ptr l g 0 [] ∧ st.R l = some (g, b, d) ∧ d.still ∧ d.plain ∧ A d
def ppend (P : Program) (rs : List ResultVar) (A : D → Prop) : Exit → St → Prop
  | .normal, st => PEnd P rs A st
  | .ret, st => PEnd P rs A st
  | _, _ => False
@[go_sem] theorem ppend_ret (P : Program) (rs : List ResultVar) (A : D → Prop) (st : St) : ppend P rs A .ret st = PEnd P rs A st := rfl
@[go_sem] theorem ppend_normal (P : Program) (rs : List ResultVar) (A : D → Prop) (st : St) : ppend P rs A .normal st = PEnd P rs A st := rfl
theorem ppend_pendI {P : Program} {rs : List ResultVar} {n0 : Nat} {A : D → Prop} {x : Exit} {st : St} (h : ppend P rs A x st) : pendI P rs n0 (PtrOut A) x st := by
  have key : PEnd P rs A st → ∃ os : List Nat, os.Nodup ∧ (∀ l ∈ os, (st.R l).isSome = true) ∧ (∀ l ∈ os, (rl 9 (labExit st.R os) (cntR st.R l)).plain) ∧ (∀ r ∈ rs, retOk P st r) ∧
      ∀ n1, st.n ≤ n1 → Facts st n1 → PtrOut A n0 n1 (os.map fun l => rl 9 (labExit st.R os) (cntR st.R l)) (rl 9 (labExit st.R os) (retV st rs)) := by
    rintro ⟨h1, l, g, b, d, hv, hR, hs, hpl, hA⟩
    have hcnt : cntR st.R l = d := by simp [cntR, hR]
    have hex : labExit st.R [l] l g = .to 1000 0 := by simp [labExit, hR, List.idxOf?, List.findIdx?_cons]
    refine ⟨[l], by simp, fun l' hl' => by rw [List.mem_singleton.1 hl', hR]; rfl, fun l' hl' => by rw [List.mem_singleton.1 hl', hcnt, rl_still hs]; exact hpl, h1, fun n1 _ _ => ⟨d, ?_, ?_, hs, hpl, hA⟩⟩
    · rw [List.map_cons, List.map_nil, hcnt, rl_still hs]
    · rw [hv, rl_ptr, hex]
  cases x with
  | normal => exact key h
  | ret => exact key h
  | _ => exact h.elim
section
variable {P : Program}
theorem iput_ptr {f : FuncId} {fn : Func} {c : Code} {rs : List ResultVar} {args : List D} {A : D → Prop} (hf : P.funcs[f]? = some fn) (hb : fn.body = some c) (hnm : (fn.name == "runtime.NumGoroutine") = false)
    (hrs : fn.results = rs.toArray) (hlen : rs.length ≤ 4) (hN : args.length ≤ fn.ntmps)
    (h : ∀ w0 M n0, (∀ b, n0 ≤ b → wr w0 M b) → (∀ a ∈ args, a.data → a.tags (· < n0)) → IWp P w0 M c (ppend P rs A) (St.start fn.ntmps n0 args fun _ => none)) : ICall P f args [] (PtrOut A) := by
  refine icall_intro_t hf hb hnm hrs hlen hN fun w0 M n0 gb hW hT => ?_
  have hnil : InsR gb [] = fun _ => none := by funext l; simp [InsR]
  rw [hnil]
  exact iwp_mono (h w0 M n0 hW hT) fun x st hq => ppend_pendI hq
end

theorem and255_rg (a : Int) : 0 ≤ bits .and .i64 a 255 ∧ bits .and .i64 a 255 ≤ 255 := by
  have h : (BitVec.ofInt 64 a &&& BitVec.ofInt 64 255).toNat ≤ 255 := by rw [BitVec.toNat_and]; exact Nat.le_trans Nat.and_le_right (by decide)
  have e : bits .and .i64 a 255 = IntKind.i64.wrap ((BitVec.ofInt 64 a &&& BitVec.ofInt 64 255).toNat : Int) := rfl
  rw [e, IntKind.wrap_i64]; omega
theorem ex_and255 (P : Program) (a : Int) : ∃ v : Int, (∀ T, bin P T .and (.int .i64 a) (.int .i64 255) = some (.int .i64 v)) ∧ 0 ≤ v ∧ v ≤ 255 := ⟨_, fun T => bin_and P T _ _ _, (and255_rg a).1, (and255_rg a).2⟩
theorem ex_and (P : Program) (a b : Int) : ∃ v : Int, ∀ T, bin P T .and (.int .i64 a) (.int .i64 b) = some (.int .i64 v) := ⟨_, fun T => bin_and P T _ _ _⟩
theorem ex_xor (P : Program) (a b : Int) : ∃ v : Int, ∀ T, bin P T .xor (.int .i64 a) (.int .i64 b) = some (.int .i64 v) := ⟨_, fun T => bin_xor P T _ _ _⟩
theorem ex_wrap (a : Int) : ∃ v : Int, IntKind.i64.wrap a = v := ⟨_, rfl⟩
end Go.Proofs.Ytpepddckmddbiaa.IM
end

section
/- Contracts: the cursor of the draws. Printed by gen/draws.py. -/
namespace Go.Proofs.Ytpepddckmddbiaa.IM
open Go Go.Proofs
set_option linter.unusedVariables false
set_option linter.unusedSimpArgs false
set_option maxHeartbeats 2000000
set_option maxRecDepth 20000

def Cur (e : D) (N : Nat) (d : D) : Prop := ∃ (f : Nat → D) (i : Nat) (h : Int), d = .node (.agg [1, 1, 1]) f ∧ (∀ j, (f j).still) ∧ f 0 = e ∧ f 1 = .lit (.int .i64 (i : Int)) ∧ i ≤ N ∧ f 2 = .lit (.int .i64 h)
theorem Cur.shape {e d : D} {N : Nat} (h : Cur e N d) : d.size = 3 ∧ d.isNode = some true ∧ d.plain ∧ d.still := by
  obtain ⟨f, i, h, rfl, hs, _⟩ := h
  exact ⟨rfl, rfl, trivial, hs⟩
theorem Cur.tags {e d : D} {N : Nat} (h : Cur e N d) {p : Nat → Prop} (he : e.tags p) : d.tags p := by
  obtain ⟨f, i, h, rfl, hs, h0, h1, _, h2⟩ := h
  intro j hj
  have hj' : j < 3 := hj
  match j, hj' with
  | 0, _ => rw [h0]; exact he
  | 1, _ => rw [h1]; trivial
  | 2, _ => rw [h2]; trivial
theorem Cur.tl {e d : D} {N t : Nat} (h : Cur e N d) (ht : t ∈ e.tl) : t ∈ d.tl := by
  obtain ⟨f, i, h, rfl, hs, h0, _⟩ := h
  exact tl_child (k := .agg [1, 1, 1]) (i := 0) (by decide) (h0 ▸ ht)
theorem cur_tags {e c d : D} {N n0 : Nat} (hc : Cur e N c) (hd : Cur e N d) (he : e.data) : d.tags (fun b => b ∈ c.tl ∨ n0 ≤ b) := hd.tags (tags_of_tl he fun t ht => .inl (hc.tl ht))
def CurQ (e : D) (N : Nat) (m : Int) (_ _ : Nat) (d' r : D) : Prop := Cur e N d' ∧ ∃ v : Int, r = .lit (.int .i64 v) ∧ 0 ≤ v ∧ v < m
theorem ex_shr (P : Program) (a b : Int) (h : 0 ≤ b) : ∃ v : Int, ∀ T, bin P T .shr (.int .i64 a) (.int .u64 b) = some (.int .i64 v) := ⟨_, fun T => bin_shr P T _ _ _ _ h⟩
theorem cur_end {e : D} {f f' : Nat → D} {N i n0 n1 : Nat} {h v m : Int} (h0 : f 0 = e) (hs : ∀ j, (f' j).still) (q0 : f' 0 = e) (q1 : f' 1 = .lit (.int .i64 (i : Int))) (qi : i ≤ N) (q2 : f' 2 = .lit (.int .i64 h)) (hd : e.data) (v0 : 0 ≤ v) (v1 : v < m) :
    BEnd (CurQ e N m) (.node (.agg [1, 1, 1]) f) n0 n1 (.node (.agg [1, 1, 1]) f') (.lit (.int .i64 v)) := by
  have hc : Cur e N (.node (.agg [1, 1, 1]) f') := ⟨f', i, h, rfl, hs, q0, q1, qi, q2⟩
  exact ⟨⟨hc, v, rfl, v0, v1⟩, trivial, hc.tags (tags_of_tl hd fun t ht => .inl (tl_child (k := .agg [1, 1, 1]) (i := 0) (by decide) (h0 ▸ ht))), trivial⟩
theorem l1New_o (d : D) (xs : List Int) (h : IsL 1 IsByte d xs) : ICall Try.prog 144 [d] [] (PtrOut (Cur d xs.length)) := by
  have hsh := h.short
  refine iput_ptr Try.func144 rfl (by decide) rfl (by decide) (by rw [Try.ntmps144]; simp) fun w0 M n0 hW hT => ivc_sound ?_; simp -dsimp only [Try.f144, go_sem, h.lenT, h.size, h.isNode, h.plain]
  obtain ⟨u0, hu0⟩ := ex_wrap (278278 + (xs.length : Int))
  simp -dsimp only [go_sem, hu0, h.lenT, h.size, h.isNode, h.plain]
  refine iwp_forK xs.length [0, 2] (fun i s => s 4 = .lit (.int .i64 i) ∧ ∃ v : Int, s 3 = .lit (.int .i64 v)) 0 (Nat.zero_le _) ⟨by simp -dsimp only [go_sem]; rfl, _, by simp -dsimp only [go_sem]; rfl⟩ ?_
  rintro i n' s hi hn hk ⟨h4, v, h3⟩
  refine ivc_sound ?_
  simp -dsimp only [go_sem] at hk
  have ends : ∀ w : Int, ¬ ((i : Int) < (xs.length : Int) ∧ (i : Int) < 4000) → True := fun _ _ => trivial
  by_cases hlt : i < xs.length
  · by_cases h4k : (i : Int) < 4000
    · obtain ⟨t, zb, fi, hfe, hst', hf'⟩ := h.sl hlt
      have hfi := hf' i hlt
      have hfi : fi i = _ := hfi
      have hl0 := h.lenT
      rw [hfe] at hl0
      have hw := i64_succ (i := i) (by omega)
      obtain ⟨u1, hu1⟩ := ex_wrap (v * 137)
      obtain ⟨u2, hu2⟩ := ex_wrap xs[i]
      obtain ⟨u3, hu3⟩ := ex_wrap (u1 + u2)
      obtain ⟨u4, hu4⟩ := ex_wrap (u3 + 11)
      obtain ⟨u5, hu5⟩ := ex_and Try.prog u4 1073741823
      simp -dsimp only [go_sem, hk, h4, h3, hlt, h4k, hfe, hl0, hfi, hw, hu1, hu2, hu3, hu4, hu5]
      exact into_k (by omega) (by simp -dsimp only [go_sem, hk, hfe]) ⟨by simp -dsimp only [go_sem], _, by simp -dsimp only [go_sem]; rfl⟩
    · simp -dsimp only [go_sem, hk, h4, h3, hlt, h4k, h.lenT, h.size, h.isNode, h.plain]
      intro g b hb
      refine ⟨fun r hr => ?_, 31, g, b, _, rfl, rfl, ?_, trivial, ?_⟩
      · rw [List.mem_singleton.1 hr]; trivial
      · exact still_upd (still_upd (stN (by simp only [stillL_nil, stillL_cons, still_lit, still_nil, still_any, still_nodeN, still_nodeC, and_self])) h.still) trivial
      · exact ⟨_, 0, v, rfl, still_upd (still_upd (stN (by simp only [stillL_nil, stillL_cons, still_lit, still_nil, still_any, still_nodeN, still_nodeC, and_self])) h.still) trivial, rfl, rfl, Nat.zero_le _, rfl⟩
  · simp -dsimp only [go_sem, hk, h4, h3, hlt, h.lenT, h.size, h.isNode, h.plain]
    intro g b hb
    refine ⟨fun r hr => ?_, 31, g, b, _, rfl, rfl, ?_, trivial, ?_⟩
    · rw [List.mem_singleton.1 hr]; trivial
    · exact still_upd (still_upd (stN (by simp only [stillL_nil, stillL_cons, still_lit, still_nil, still_any, still_nodeN, still_nodeC, and_self])) h.still) trivial
    · exact ⟨_, 0, v, rfl, still_upd (still_upd (stN (by simp only [stillL_nil, stillL_cons, still_lit, still_nil, still_any, still_nodeN, still_nodeC, and_self])) h.still) trivial, rfl, rfl, Nat.zero_le _, rfl⟩
theorem l1Byte_b (e c : D) (xs : List Int) (h : IsL 1 IsByte e xs) (hd : e.data) (hc : Cur e xs.length c) : BCall Try.prog 246 .nil c [] (CurQ e xs.length 256) := by
  have hsh := h.short
  obtain ⟨f, i, hh, rfl, hs, f0, f1, hi, f2⟩ := hc
  obtain ⟨u1, hu1⟩ := ex_wrap (hh * 6364136223846793005)
  obtain ⟨u2, hu2⟩ := ex_wrap (u1 + 1442695040888963407)
  obtain ⟨a1, ha1⟩ := ex_shr Try.prog u2 33 (by decide)
  obtain ⟨a2, ha2⟩ := ex_shr Try.prog u2 47 (by decide)
  obtain ⟨a3, ha3⟩ := ex_xor Try.prog a1 a2
  obtain ⟨w, hw, w0', w1'⟩ := ex_and255 Try.prog a3
  refine bcall_intro Try.func246 rfl (by decide) rfl (by decide) (by rw [Try.ntmps246]; simp) fun w0 M n0 gb hW hS hT hgb => ivc_sound ?_; simp -dsimp only [Try.f246, go_sem, f0, f1, f2, hu1, hu2]
  refine iwp_plan [(0, true), (1, true), (2, true), (3, true), (4, true), (5, true), (6, true), (7, true), (8, true), (9, true), (10, true), (11, true), (12, true)] [1000] rfl (by decide +kernel) (by decide) [] (by decide +kernel) ?_
  simp -dsimp only [go_sem, f0, f1, f2, hu1, hu2, ha1, ha2, ha3, hw]
  refine iwp_plan [(0, true), (1, true), (2, true), (3, true), (4, true), (5, true), (6, true), (7, true), (8, true), (9, true)] [1000] rfl (by decide +kernel) (by decide) [] (by decide +kernel) ?_
  by_cases hlt : i < xs.length
  · obtain ⟨t, zb, fi, hfe, hst', hf'⟩ := h.sl hlt
    have hfi := hf' i hlt
    have hfi : fi i = _ := hfi
    have hl0 := h.lenT
    subst hfe
    have hsu := i64_succ (i := i) (by omega)
    obtain ⟨u3, hu3⟩ := ex_wrap xs[i]
    obtain ⟨u4, hu4⟩ := ex_wrap (w + u3)
    obtain ⟨u5, hu5, v0, v1⟩ := ex_and255 Try.prog u4
    simp -dsimp only [go_sem, f0, f1, f2, hlt, hl0]
    refine iwp_plan [(0, true), (1, true), (2, true), (3, true), (4, true), (5, true), (6, true), (7, true), (8, true), (9, true), (10, true), (11, false), (12, false), (13, false), (14, false)] [1000] rfl (by decide +kernel) (by decide) [] (by decide +kernel) ?_
    simp -dsimp only [go_sem, f0, f1, f2, hlt, hl0, hfi, hu3, hu4, hu5, hsu]
    refine ⟨_, rfl, fun n1 hn1 hfc => ?_⟩
    rw [rl_still (show (D.node (.agg [1, 1, 1]) (upd (upd f 2 (.lit (.int .i64 u2))) 1 (.lit (.int .i64 ((i + 1 : Nat) : Int))))).still from still_upd (still_upd hs trivial) trivial)]
    try simp -dsimp only [go_sem, rl_lit]
    exact cur_end (i := i + 1) f0 (still_upd (still_upd hs trivial) trivial) (by simp -dsimp only [go_sem, f0]) rfl (by omega) rfl hd v0 (by omega)
  · simp -dsimp only [go_sem, f0, f1, f2, hlt, h.lenT, h.size, h.isNode, h.plain]
    refine ⟨_, rfl, fun n1 hn1 hfc => ?_⟩
    rw [rl_still (show (D.node (.agg [1, 1, 1]) (upd f 2 (.lit (.int .i64 u2)))).still from still_upd hs trivial)]
    try simp -dsimp only [go_sem, rl_lit]
    exact cur_end (i := i) f0 (still_upd hs trivial) (by simp -dsimp only [go_sem, f0]) (by simp -dsimp only [go_sem, f1]) hi rfl hd w0' (by omega)
theorem l1Below_b (e c : D) (xs : List Int) (n : Int) (h : IsL 1 IsByte e xs) (hd : e.data) (hc : Cur e xs.length c) (hn0 : 0 < n) (hn1 : n ≤ 256) : BCall Try.prog 145 .nil c [.lit (.int .i64 n)] (CurQ e xs.length n) := by
  have cs := hc.shape
  have hz : ¬ n ≤ 0 := by omega
  have hne : ¬ n = 0 := by omega
  refine bcall_intro Try.func145 rfl (by decide) rfl (by decide) (by rw [Try.ntmps145]; simp) fun w0 M n0 gb hW hS hT hgb => ivc_sound ?_; simp -dsimp only [Try.f145, go_sem, cs.1, cs.2.1, cs.2.2.1, hz, hn1]
  refine xcall_b (l := 1000) (g := 0) (b := gb) (l1Byte_b e c xs h hd hc) (by simp -dsimp only [go_sem]) (by simp -dsimp only [go_sem]) cs.2.2.2 trivial (by simp [D.tl]) (by simp [D.tl]) [0, 1, 4] (fun _ => none) rfl fun n5 n6 d' r hn5 hn6 ht hq =>
    ⟨by simp -dsimp only [go_sem], CarR.skip (CarR.none _ _ _) rfl, ?_⟩
  obtain ⟨hc', v, rfl, v0, v1⟩ := hq
  have cs' := hc'.shape
  simp -dsimp only [go_sem, cs'.1, cs'.2.1, cs'.2.2.1, hne]
  refine ⟨_, rfl, fun n1 hn1 hfc => ?_⟩
  rw [rl_still cs'.2.2.2]
  try simp -dsimp only [go_sem, rl_lit]
  exact ⟨⟨hc', _, rfl, Int.tmod_nonneg _ v0, Int.tmod_lt_of_pos _ hn0⟩, cs'.2.2.1, cur_tags hc hc' hd, trivial⟩
end Go.Proofs.Ytpepddckmddbiaa.IM
end

section
/- Contracts: Both, DrawGoes; the law FnModes. Printed by modes.py. -/
namespace Go.Proofs.Ytpepddckmddbiaa.IM
open Go Go.Proofs
set_option linter.unusedVariables false
set_option linter.unusedSimpArgs false
set_option maxHeartbeats 2000000
set_option maxRecDepth 20000

def both (a b : Int) : Int := if (Md.inB a 1 4 && Md.inB b 1 4) = false then 0 else if (a == b || b == 1) = true then a else if (a == 1) = true then b else 4
theorem both_p (a b : Int) : PCall Try.prog 35 [.lit (.int .i64 a), .lit (.int .i64 b)] fun _ _ r => r = .lit (.int .i64 (both a b)) := by
  refine pcall_intro_v Try.func35 rfl (by decide) rfl (by decide) (by rw [Try.ntmps35]; simp) fun w0 M n0 => ivc_sound ?_; simp -dsimp only [Try.f35, go_sem]
  repeat' (first
    | (refine xcall_v (isMode_p a) ?_ (fun _ => trivial) (fun _ _ => ?_); (focus (simp -dsimp only [go_sem, rl_still, ]; first | done | rfl)); simp -dsimp only [go_sem])
    | (refine xcall_v (isMode_p b) ?_ (fun _ => trivial) (fun _ _ => ?_); (focus (simp -dsimp only [go_sem, rl_still, ]; first | done | rfl)); simp -dsimp only [go_sem])
    | refine ⟨?_, ?_⟩ | with_reducible intro _)
  all_goals simp_all [both]
theorem specBoth_p (a b : Int) : PCall Try.prog 37 [.lit (.int .i64 a), .lit (.int .i64 b)] fun _ _ r => r = .lit (.int .i64 (both a b)) := by
  refine pcall_intro_v Try.func37 rfl (by decide) rfl (by decide) (by rw [Try.ntmps37]; simp) fun w0 M n0 => ivc_sound ?_; simp -dsimp only [Try.f37, go_sem]
  repeat' (first
    | (refine xcall_v (l9Mode_p a) ?_ (fun _ => trivial) (fun _ _ => ?_); (focus (simp -dsimp only [go_sem, rl_still, ]; first | done | rfl)); simp -dsimp only [go_sem])
    | (refine xcall_v (l9Mode_p b) ?_ (fun _ => trivial) (fun _ _ => ?_); (focus (simp -dsimp only [go_sem, rl_still, ]; first | done | rfl)); simp -dsimp only [go_sem])
    | refine ⟨?_, ?_⟩ | with_reducible intro _)
  all_goals simp_all [both]
theorem big_p (d : D) (xs : List Int) (h : IsL 1 IsByte d xs) : PCall Try.prog 33 [d] fun _ _ r => r = .lit (.bool (decide ((1048576 : Int) < xs.length))) := by
  refine pcall_intro_v Try.func33 rfl (by decide) rfl (by decide) (by rw [Try.ntmps33]; simp) fun w0 M n0 => ivc_sound ?_; simp -dsimp only [Try.f33, go_sem, h.lenT]
theorem two_tags {a b : Value} {p : Nat → Prop} : (D.tup 2 (nthD [.lit a, .lit b])).tags p := fun i hi => by
  match i, hi with
  | 0, _ => trivial
  | 1, _ => trivial
theorem drawGoes_p (d : D) (xs : List Int) (h : IsL 1 IsByte d xs) (hd : d.data) : PCall Try.prog 34 [d] fun _ _ r => ∃ a b : Int, r = .tup 2 (nthD [.lit (.int .i64 a), .lit (.int .i64 b)]) ∧ 0 ≤ a ∧ a < 6 ∧ 0 ≤ b ∧ b < 6 := by
  refine pcall_intro Try.func34 rfl (by decide) rfl (by decide) (by rw [Try.ntmps34]; simp) fun w0 M n0 hW => ivc_sound ?_; simp -dsimp only [Try.f34, go_sem, h.lenT]
  refine xcall_ptr (l := 2300) (l1New_o d xs h) rfl (by simp -dsimp only [go_sem]) ⟨h.still, trivial⟩ fun n1 c G b' hn1 hst hpl hc hb1 hb2 => ?_
  have cs := hc.shape
  simp -dsimp only [go_sem, cs.1, cs.2.1, cs.2.2.1]
  refine xcall_b (l := 2300) (g := G) (b := b') (l1Below_b d c xs 6 h hd hc (by decide) (by decide)) (by simp -dsimp only [go_sem]) (by simp -dsimp only [go_sem]) cs.2.2.2 ⟨trivial, trivial⟩ (by simp [D.tl]) (by simp [D.tl]) [2, 3, 4] (fun _ => none) rfl fun n5 n6 d' r hn5 hn6 ht hq =>
    ⟨by simp -dsimp only [go_sem], CarR.skip (CarR.none _ _ _) rfl, ?_⟩
  obtain ⟨hc', v, rfl, v0, v1⟩ := hq
  have cs' := hc'.shape
  simp -dsimp only [go_sem, cs'.1, cs'.2.1, cs'.2.2.1]
  refine xcall_b (l := 2300) (g := G) (b := b') (l1Below_b d d' xs 6 h hd hc' (by decide) (by decide)) (by simp -dsimp only [go_sem]) (by simp -dsimp only [go_sem]) cs'.2.2.2 ⟨trivial, trivial⟩ (by simp [D.tl]) (by simp [D.tl]) [2, 3, 4, 8] (fun _ => none) rfl fun n7 n8 d2 r2 hn7 hn8 ht2 hq2 =>
    ⟨by simp -dsimp only [go_sem], CarR.skip (CarR.none _ _ _) rfl, ?_⟩
  obtain ⟨hc2, v', rfl, v0', v1'⟩ := hq2
  have cs2 := hc2.shape
  simp -dsimp only [go_sem, cs2.1, cs2.2.1, cs2.2.2.1]
  intro n9 hn9 hfc
  exact ⟨v, v', rfl, v0, v1, v0', v1'⟩
theorem modes_fin : ∀ i j : Fin 6, Md.goes (j.val : Int) (i.val : Int) = Md.goes (i.val : Int) (j.val : Int) ∧ both (j.val : Int) (i.val : Int) = both (i.val : Int) (j.val : Int) ∧
    (∀ k : Fin 5, 0 < both (i.val : Int) (j.val : Int) → Md.goes (both (i.val : Int) (j.val : Int)) (k.val : Int) = true → Md.goes (i.val : Int) (k.val : Int) = true ∧ Md.goes (j.val : Int) (k.val : Int) = true) ∧
    (both (i.val : Int) (j.val : Int) = 0 ∨ (both (both (i.val : Int) (j.val : Int)) (i.val : Int) = both (i.val : Int) (j.val : Int) ∧ both (both (i.val : Int) (j.val : Int)) (j.val : Int) = both (i.val : Int) (j.val : Int))) := by decide +kernel
theorem modes_all {a b : Int} (a0 : 0 ≤ a) (a1 : a < 6) (b0 : 0 ≤ b) (b1 : b < 6) : Md.goes b a = Md.goes a b ∧ both b a = both a b ∧ (∀ k : Nat, k < 5 → 0 < both a b → Md.goes (both a b) k = true → Md.goes a k = true ∧ Md.goes b k = true) ∧
    (both a b = 0 ∨ (both (both a b) a = both a b ∧ both (both a b) b = both a b)) := by
  obtain ⟨i, rfl⟩ := Int.eq_ofNat_of_zero_le a0
  obtain ⟨j, rfl⟩ := Int.eq_ofNat_of_zero_le b0
  have h := modes_fin ⟨i, by omega⟩ ⟨j, by omega⟩
  exact ⟨h.1, h.2.1, fun k hk => h.2.2.1 ⟨k, hk⟩, h.2.2.2⟩
theorem lawModes (d : D) (xs : List Int) (h : IsL 1 IsByte d xs) : PCall Try.prog 3 [d] fun _ _ r => r = .lit (.bool true) := by
  have hd : d.data := IsL.data (fun d x h => by have h : d = _ := h; subst h; trivial) h
  refine pcall_intro_v Try.func3 rfl (by decide) rfl (by decide) (by rw [Try.ntmps3]; simp) fun w0 M n0 => ivc_sound ?_; simp -dsimp only [Try.f3, go_sem, h.lenT]
  refine xcall_v (big_p d xs h) (by simp -dsimp only [go_sem, rl_still, h.still]) (fun _ => trivial) fun n1 hn1 => ?_
  rcases Bool.eq_false_or_eq_true (decide ((1048576 : Int) < xs.length)) with hb | hb
  · simp -dsimp only [go_sem, hb]
  · simp -dsimp only [go_sem, hb]
    refine xcall_p (drawGoes_p d xs h hd) (by simp -dsimp only [go_sem, rl_still, h.still]) fun m0 m1 r hm0 hm1 hr => ?_
    obtain ⟨a, b, rfl, a0, a1, b0, b1⟩ := hr
    refine ⟨two_tags, ?_⟩
    obtain ⟨hg, hbo, hk3, hm⟩ := modes_all a0 a1 b0 b1
    simp -dsimp only [go_sem]
    refine xcall_v (both_p a b) (by simp -dsimp only [go_sem]) (fun _ => trivial) fun n2 hn2 => ?_
    generalize hmm : both a b = m at *
    simp -dsimp only [go_sem]
    refine xcall_v (goes_p a b) (by simp -dsimp only [go_sem]) (fun _ => trivial) fun n3 hn3 => ?_
    simp -dsimp only [go_sem]
    refine xcall_v (goes_p b a) (by simp -dsimp only [go_sem]) (fun _ => trivial) fun n4 hn4 => ?_
    simp -dsimp only [go_sem, hg, bne_self_eq_false, Bool.false_eq_true, false_imp_iff, true_and, and_true, forall_const]
    refine xcall_v (both_p b a) (by simp -dsimp only [go_sem]) (fun _ => trivial) fun n5 hn5 => ?_
    simp -dsimp only [go_sem, hg, hbo, bne_self_eq_false, Bool.false_eq_true, false_imp_iff, true_and, and_true, forall_const]
    refine xcall_v (specBoth_p a b) (by simp -dsimp only [go_sem]) (fun _ => trivial) fun n6 hn6 => ?_
    simp -dsimp only [go_sem, hg, hbo, hmm, bne_self_eq_false, Bool.false_eq_true, false_imp_iff, true_and, and_true, forall_const]
    refine xcall_v (goes_p a b) (by simp -dsimp only [go_sem]) (fun _ => trivial) fun n7 hn7 => ?_
    simp -dsimp only [go_sem, hg, hbo, hmm, bne_self_eq_false, Bool.false_eq_true, false_imp_iff, true_and, and_true, forall_const]
    refine xcall_v (specGoes_p a b) (by simp -dsimp only [go_sem]) (fun _ => trivial) fun n8 hn8 => ?_
    simp -dsimp only [go_sem, hg, hbo, hmm, bne_self_eq_false, Bool.false_eq_true, false_imp_iff, true_and, and_true, forall_const]
    refine iwp_forK 5 [3, 4, 5] (fun i s => s 6 = .lit (.int .i64 i)) 1 (by decide) (by simp -dsimp only [go_sem]; rfl) ?_
    rintro i n' s hi hn hk h6
    refine ivc_sound ?_
    simp -dsimp only [go_sem] at hk
    have hw := i64_succ (i := i) (by omega)
    by_cases hlt : i < 5
    · have h4 : (i : Int) ≤ 4 := by omega
      have hlt' : i < 5 := hlt
      by_cases hmp : 0 < m
      · simp -dsimp only [go_sem, hk, h6, h4, hmp, hw]
        refine xcall_v (goes_p m i) (by simp -dsimp only [go_sem, hk, h6]) (fun _ => trivial) fun n9 hn9 => ?_
        rcases Bool.eq_false_or_eq_true (Md.goes m i) with hgm | hgm
        · have hh := hk3 i hlt hmp hgm
          have hh1 := hh.1
          have hh2 := hh.2
          simp -dsimp only [go_sem, hk, h6, h4, hmp, hgm, hw]
          refine xcall_v (goes_p a i) (by simp -dsimp only [go_sem, hk, h6]) (fun _ => trivial) fun n10 hn10 => ?_
          simp -dsimp only [go_sem, hk, h6, h4, hmp, hgm, hh1, hw]
          refine xcall_v (goes_p b i) (by simp -dsimp only [go_sem, hk, h6]) (fun _ => trivial) fun n11 hn11 => ?_
          simp -dsimp only [go_sem, hk, h6, h4, hmp, hgm, hh1, hh2, hw, hlt']
          exact into_k (by first | omega | (simp only at *; omega)) (by simp -dsimp only [go_sem, hk]) (by simp -dsimp only [go_sem])
        · simp -dsimp only [go_sem, hk, h6, h4, hmp, hgm, hw, hlt']
          exact into_k (by first | omega | (simp only at *; omega)) (by simp -dsimp only [go_sem, hk]) (by simp -dsimp only [go_sem])
      · simp -dsimp only [go_sem, hk, h6, h4, hmp, hw, hlt']
        exact into_k (by omega) (by simp -dsimp only [go_sem, hk]) (by simp -dsimp only [go_sem])
    · have h4 : ¬ (i : Int) ≤ 4 := by omega
      rcases Bool.eq_false_or_eq_true (m == 0) with hz | hz
      · simp -dsimp only [go_sem, hk, h6, h4, hz]
      · have hm2 : both m a = m ∧ both m b = m := hm.resolve_left (by simpa using hz)
        have hm3 := hm2.1
        have hm4 := hm2.2
        simp -dsimp only [go_sem, hk, h6, h4, hz]
        refine xcall_v (both_p m a) (by simp -dsimp only [go_sem, hk]) (fun _ => trivial) fun n9 hn9 => ?_
        simp -dsimp only [go_sem, hk, h6, h4, hz, hm3]
        refine xcall_v (both_p m b) (by simp -dsimp only [go_sem, hk]) (fun _ => trivial) fun n10 hn10 => ?_
        simp -dsimp only [go_sem, hk, h6, h4, hz, hm3, hm4]
end Go.Proofs.Ytpepddckmddbiaa.IM
end
