/- Several of my texts in one module (merge.py, shake.py). -/
import Derived.RangeFuncRecord
import Derived.Test.YtncinhlaabdlaaaGreatGtB31
section
namespace Go.Proofs.YtncinhlaabdlaaaGreat.IM
open Go Go.Proofs Go.RowKit
set_option linter.unusedVariables false
set_option linter.unusedSimpArgs false
set_option maxHeartbeats 2000000
set_option maxRecDepth 20000
theorem keep_grown {W W' : World} (h : Keep W (fun _ => False) W') : W.grownBy W' none := ⟨h.os, h.tape, h.output, h.size, fun k hk _ => h.block k hk id⟩
theorem env_at {p : Nat → Prop} {W W' : World} (h : ∀ b, p b → W'.heap[b]? = W.heap[b]?) : Env.le ⟨fun _ => none, 0, p, W⟩ ⟨fun _ => none, 0, p, W'⟩ :=
  ⟨Nat.le_refl _, fun _ h => h, fun b hb => h b hb, fun _ _ _ _ hg => absurd hg (Nat.not_lt_zero _), fun _ _ _ _ hg => absurd hg (Nat.not_lt_zero _)⟩
theorem it_sr {p : Nat → Prop} {a : Act} {W : World} {N : Nat} {s : Nat → D} (hN : a.tmps.size = N) (hp : ∀ b, p b → b < W.heap.size)
    (hs : ∀ t, VRep ⟨fun _ => none, 0, p, W⟩ (s t) (a.tmps.getD t undef)) : SR W ⟨fun _ => False, p⟩ ⟨N, 0, s, fun _ => none⟩ (bareA a) W :=
  ⟨⟨fun _ => none, 0, p, W⟩, rfl, rfl, hN, rfl, hs, fun _ _ _ _ h => (by cases h), fun _ _ _ _ h => (by cases h), fun _ _ _ _ _ _ _ h => (by cases h), hp, Keep.refl _ _, Nat.zero_le _, fun b hb => .inr (.inl hb)⟩
section
variable {P : Program}
theorem oper_yield {n l td tf tx ty : Nat} {ts : Array TypeId} {T : TypeId} {pos : _} {after : _} {a : Act} {w : World} {next : Act → World → Prop} {Q : Exit → Act → World → Prop} {R : Ending → World → Prop}
    (hf : a.tmps.getD tf undef = .func (.yield l) #[] #[]) (hy : YieldAt Fence.wide (n - 1) P l #[a.tmps.getD tx undef, a.tmps.getD ty undef] w R)
    (hR : ∀ e w', R e w' → ∃ v, e = .returned v ∧ next (a.put (some td) v) w') :
    (Oper.mk (some td) (.call { callee := .value (.tmp tf), args := #[.tmp tx, .tmp ty], argTypes := ts }) T pos after none).wpIn (Fo none) n P a w next Q := by
  refine ⟨fun _ _ => trivial, ?_⟩
  obtain ⟨fn, tmps, assign, body, hrun, hround⟩ := hy
  have e : (Oper.semAt (Fo none).round a.eval (Oper.mk (some td) (.call { callee := .value (.tmp tf), args := #[.tmp tx, .tmp ty], argTypes := ts }) T pos after none)).run P w = .ok (.round l fn tmps assign body) w := by
    rw [show (Fo none).round = none from rfl, Oper.semAt_none]
    have h1 : a.eval (.tmp tf) = .func (.yield l) #[] #[] := hf
    simp only [execOp, resolve]
    rw [h1]
    simp only [Deferred.ofValue]
    rw [Sem.run_bind, Sem.run_pure, Result.andThen_ok]
    simp only [invoke]
    simp
    exact hrun
  rw [e]
  refine ⟨room_fo none, RoundIn.mono hround fun en w' hr => ?_⟩
  obtain ⟨v, rfl, hn⟩ := hR en w' hr
  exact hn
def itS (l : Nat) (d : D) (i : Int) : Nat → D := upd (upd (upd (fun _ => .any) 0 (.lit (.func (.yield l) #[] #[]))) 1 (.cptr d)) 3 (.lit (.int .i64 i))
def itS0 (l : Nat) (d : D) : Nat → D := upd (upd (fun _ => .any) 0 (.lit (.func (.yield l) #[] #[]))) 1 (.cptr d)
structure ItA (N l : Nat) (b : Value) (i : Int) (a : Act) : Prop where
  sz : a.tmps.size = N
  df : a.defers = []
  a0 : a.tmps.getD 0 undef = .func (.yield l) #[] #[]
  a1 : a.tmps.getD 1 undef = b
  a3 : a.tmps.getD 3 undef = .int .i64 i
theorem it_vrep {p : Nat → Prop} {W : World} {l : Nat} {d : D} {i : Int} {b : Value} {N : Nat} {a : Act} (h : ItA N l b i a) (hb : VRep ⟨fun _ => none, 0, p, W⟩ (.cptr d) b) (t : Nat) : VRep ⟨fun _ => none, 0, p, W⟩ (itS l d i t) (a.tmps.getD t undef) := by
  unfold itS
  by_cases h3 : t = 3
  · subst h3; rw [upd_same, h.a3]; exact ⟨trivial, rfl⟩
  · rw [upd_ne _ _ h3]
    by_cases h1 : t = 1
    · subst h1; rw [upd_same, h.a1]; exact hb
    · rw [upd_ne _ _ h1]
      by_cases h0 : t = 0
      · subst h0; rw [upd_same, h.a0]; exact ⟨trivial, rfl⟩
      · rw [upd_ne _ _ h0]; trivial
def itL (N : Nat) : List Nat := (List.range N).drop 2
theorem itL_0 (N : Nat) : 0 ∉ itL N ∧ 1 ∉ itL N := by
  unfold itL
  constructor <;> intro h <;> rw [List.mem_iff_getElem] at h <;> obtain ⟨i, hi, e⟩ := h <;> rw [List.getElem_drop, List.getElem_range] at e <;> omega
theorem itA_same {N l : Nat} {b : Value} {i j : Int} {a a' : Act} (h : ItA N l b i a) (hs : SameT (itL N) a a') (h3 : a'.tmps.getD 3 undef = .int .i64 j) : ItA N l b j a' :=
  ⟨hs.sz.trans h.sz, hs.df.trans h.df, (hs.tm 0 (itL_0 N).1).trans h.a0, (hs.tm 1 (itL_0 N).2).trans h.a1, h3⟩
theorem lit_slot {w0 : World} {M : Fr} {st : St} {a : Act} {w : World} {t : Nat} {v : Value} (h : SR w0 M st (bareA a) w) (ht : st.s t = .lit v) : a.tmps.getD t undef = v := by
  obtain ⟨e, _, hg⟩ := h
  have := hg.slot t
  rw [ht] at this
  exact (VRep_lit this).1
theorem sr_keep {w0 : World} {M : Fr} {st : St} {a : Act} {w : World} (h : SR w0 M st a w) : Keep w0 M.m w := by
  obtain ⟨e, rfl, hg⟩ := h; exact hg.keep
theorem sr_slot {w0 : World} {M : Fr} {st : St} {a : Act} {w : World} (h : SR w0 M st a w) (t : Nat) : ∃ e : Env, e.w = w ∧ VRep e (st.s t) (a.tmps.getD t undef) := by
  obtain ⟨e, rfl, hg⟩ := h; exact ⟨e, rfl, hg.slot t⟩
def IsRow (sz : Nat) (d : D) (n : Nat) (f : Nat → D) : Prop := (d = .nil ∧ n = 0) ∨ ∃ t zb, d = .sl t zb n sz f
def BackIt (P : Program) (gf sz : Nat) (T : TypeId) : Prop :=
  ∀ (l : Nat) (p : Nat → Prop) (d : D) (n : Nat) (f : Nat → D) (b : Value) (J Jx : Nat → World → Prop) (W : World), IsRow sz d n f → n < 140737488355328 → (∀ i, i < n → TyOk P T (f i) ∧ (f i).data ∧ ∀ t ∈ (f i).tl, p t) →
    (∀ k W1, J k W1 → (∀ b, p b → b < W1.heap.size) ∧ VRep ⟨fun _ => none, 0, p, W1⟩ (.cptr d) b) →
    (∀ k W1 W2, J k W1 → W1.grownBy W2 none → J k W2) → (∀ k W1 W2, Jx k W1 → W1.grownBy W2 none → Jx k W2) →
    (∀ k W1 v, k < n → J k W1 → VRep ⟨fun _ => none, 0, p, W1⟩ (f (n - 1 - k)) v →
      YieldAt Fence.wide 0 P l #[.int .i64 ((n - 1 - k : Nat) : Int), v] W1 fun e W' => (e = .returned (.bool true) ∧ J (k + 1) W') ∨ (e = .returned (.bool false) ∧ Jx (k + 1) W')) →
    J 0 W → CallsIn Fence.wide 1 P gf #[.func (.yield l) #[] #[], b] W fun e W' => (∃ v, e = .returned v) ∧ (J n W' ∨ ∃ k, Jx k W')
theorem yieldAt_any {l : Nat} {m m' : Nat} {args : Array Value} {W : World} {R : Ending → World → Prop} (h : YieldAt Fence.wide m P l args W R) : YieldAt Fence.wide m' P l args W R := by
  obtain ⟨fn, tmps, assign, body, h1, h2, h3⟩ := h
  exact ⟨fn, tmps, assign, body, h1, h2, fun c cs _ => h3 c cs (room_wide _)⟩
def intV : Value → Int
  | .int _ i => i
  | _ => 0
def endS (i : Int) (bb : Bool) : Nat → D := upd (upd (fun _ => .any) 3 (.lit (.int .i64 i))) 17 (.lit (.bool bb))
theorem back_it {gf sz N : Nat} {T : TypeId} {fn : Func} {R0 R1 R2 C3 : Code} {ops : Array Oper} {pre suf : List Oper} {i3 : Nat} {ts : Array TypeId} {oy : Oper}
    (hf : P.funcs[gf]? = some fn) (hb : fn.body = some (R0.seq (.block 0 (.loop (R1.seq ((Code.block 1 ((Code.region i3 ops false).seq C3)).seq R2)))))) (hN : fn.ntmps = N) (hN2 : 19 ≤ N) (hrs : fn.results = #[])
    (hops : ops.toList = pre ++ oy :: suf) (hoy : oy.dst = some 17 ∧ oy.op = .call { callee := .value (.tmp 11), args := #[.tmp 12, .tmp 16], argTypes := ts } ∧ oy.guard = none)
    (hfl : codeFlat (itL N) R0 = true ∧ codeFlat (itL N) R1 = true ∧ codeFlat (itL N) R2 = true ∧ opsFlat (itL N) pre = true ∧ opsFlat (itL N) suf = true ∧ codeFlat (itL N) C3 = true) (h17 : 17 ∈ itL N)
    (h0 : ∀ l d n f, IsRow sz d n f → n < 140737488355328 → ∀ w0 M, ivc P w0 M R0 (fun x st => x = .normal ∧ st.s 3 = .lit (.int .i64 ((n : Int) - 1))) ⟨N, 0, itS0 l d, fun _ => none⟩)
    (h1 : ∀ l d i w0 M, -1 ≤ i → i < 140737488355328 → ivc P w0 M R1 (fun x st => st.s 3 = .lit (.int .i64 i) ∧ ((0 ≤ i ∧ x = .normal) ∨ (i < 0 ∧ x = .exit 0))) ⟨N, 0, itS l d i, fun _ => none⟩)
    (h2 : ∀ l d i w0 M, 0 ≤ i → i < 140737488355328 → ivc P w0 M R2 (fun x st => x = .normal ∧ st.s 3 = .lit (.int .i64 (i - 1))) ⟨N, 0, itS l d i, fun _ => none⟩)
    (h3 : ∀ l d n f i, IsRow sz d n f → n < 140737488355328 → TyOk P T (f i) → i < n → ∀ w0 M (K : St → Prop), (∀ st, st.s 11 = .lit (.func (.yield l) #[] #[]) → st.s 12 = .lit (.int .i64 (i : Int)) → st.s 16 = f i → st.s 3 = .lit (.int .i64 (i : Int)) → K st) →
      vcL P (wr w0 M) ops K pre ⟨N, 0, itS l d i, fun _ => none⟩)
    (h4 : ∀ i bb w0 M, 0 ≤ i → i < 140737488355328 → vcL P (wr w0 M) ops (fun st => ivc P w0 M C3 (fun x st => st.s 3 = .lit (.int .i64 i) ∧ ((bb = true ∧ x = .normal) ∨ (bb = false ∧ x = .ret))) st) suf ⟨N, 0, endS i bb, fun _ => none⟩) :
    BackIt P gf sz T := by
  intro l p d n f b J Jx W hrow hn hty hJv hJg hXg hY hJ0
  obtain ⟨f0, f1, f2, f3, f4, f5⟩ := hfl
  have hres : ∀ tmps w, (results fn tmps).run P w = .ok (.tuple #[]) w := fun tmps w => by rw [results_eq, hrs]; simp
  refine callsIn_of_wp (F := Fo none) hf hb trivial ?_
  rw [hN]
  obtain ⟨a0, ha0⟩ : ∃ a0 : Act, a0 = { tmps := #[.func (.yield l) #[] #[], b] ++ Array.replicate (N - (#[Value.func (.yield l) #[] #[], b]).size) undef, defers := [] } := ⟨_, rfl⟩
  rw [← ha0]
  have z0 : a0.tmps.size = N := by rw [ha0]; simp; omega
  have z1 : a0.defers = [] := by rw [ha0]
  have z2 : a0.tmps.getD 0 undef = .func (.yield l) #[] #[] := by rw [ha0]; simp [Array.getElem?_append_left]
  have z3 : a0.tmps.getD 1 undef = b := by rw [ha0]; simp [Array.getElem?_append_left]
  obtain ⟨hp0, hv0⟩ := hJv 0 W hJ0
  have hs0 : SR W ⟨fun _ => False, p⟩ ⟨N, 0, itS0 l d, fun _ => none⟩ (bareA a0) W := it_sr z0 hp0 fun t => by
    unfold itS0
    by_cases e1 : t = 1
    · subst e1; rw [upd_same, z3]; exact hv0
    · rw [upd_ne _ _ e1]
      by_cases e0 : t = 0
      · subst e0; rw [upd_same, z2]; exact ⟨trivial, rfl⟩
      · rw [upd_ne _ _ e0]; trivial
  refine wpIn_seq (Go.wpIn_mono (flat_sound (o := none) f0 (h0 l d n f hrow hn W _) hs0 (SameT.refl _ _)) ?_)
  rintro x a1 w1 ⟨st1, ⟨rfl, hst3⟩, hs1, hm1⟩
  have hA1 : ItA N l b ((n : Int) - 1) a1 := ⟨hm1.sz.trans z0, hm1.df.trans z1, (hm1.tm 0 (itL_0 N).1).trans z2, (hm1.tm 1 (itL_0 N).2).trans z3, lit_slot hs1 hst3⟩
  have hJ1 : J 0 w1 := hJg 0 W w1 hJ0 (keep_grown (sr_keep hs1))
  show (Code.block 0 _).wpIn (Fo none) 1 P _ a1 w1
  refine wpIn_block ?_
  obtain ⟨QB, hQB⟩ : ∃ Q : Exit → Act → World → Prop, Q = Exit.inBlock 0 (bodyPost P fn fun e W' => (∃ v, e = .returned v) ∧ (J n W' ∨ ∃ k, Jx k W')) := ⟨_, rfl⟩
  rw [← hQB]
  refine wpIn_loop (fun a w => ∃ k, k ≤ n ∧ ItA N l b ((n : Int) - 1 - k) a ∧ J k w) (fun a _ => (intV (a.tmps.getD 3 undef) + 1).toNat) ⟨0, Nat.zero_le _, by simpa using hA1, hJ1⟩ ?_
  rintro a w ⟨k, hk, hA, hJ⟩
  obtain ⟨QL, hQL⟩ : ∃ Q : Exit → Act → World → Prop, Q = Exit.then (fun a' w' => (∃ k, k ≤ n ∧ ItA N l b ((n : Int) - 1 - k) a' ∧ J k w') ∧ (intV (a'.tmps.getD 3 undef) + 1).toNat < (intV (a.tmps.getD 3 undef) + 1).toNat) QB := ⟨_, rfl⟩
  rw [← hQL]
  obtain ⟨hp, hv⟩ := hJv k w hJ
  have hs := it_sr (W := w) hA.sz hp (it_vrep hA hv)
  refine wpIn_seq (Go.wpIn_mono (flat_sound (o := none) f1 (h1 l d _ w _ (by omega) (by omega)) hs (SameT.refl _ _)) ?_)
  rintro x a2 w2 ⟨st2, ⟨hst3, hx⟩, hs2, hm2⟩
  have hJ2 : J k w2 := hJg k w w2 hJ (keep_grown (sr_keep hs2))
  have hA2 : ItA N l b ((n : Int) - 1 - k) a2 := itA_same hA hm2 (lit_slot hs2 hst3)
  rcases hx with ⟨hi, rfl⟩ | ⟨hi, rfl⟩
  · have hkn : k < n := by omega
    show Code.wpIn (Fo none) 1 P _ _ a2 w2
    refine wpIn_seq (wpIn_block ?_)
    obtain ⟨QR, hQR⟩ : ∃ Q : Exit → Act → World → Prop, Q = Exit.inBlock 1 (Exit.then (R2.wpIn (Fo none) 1 P QL) QL) := ⟨_, rfl⟩
    rw [← hQR]
    refine wpIn_seq (wpIn_region_list ?_)
    obtain ⟨QC, hQC⟩ : ∃ Q : Exit → Act → World → Prop, Q = Exit.then (C3.wpIn (Fo none) 1 P QR) QR := ⟨_, rfl⟩
    rw [← hQC, hops]
    obtain ⟨hp2, hv2⟩ := hJv k w2 hJ2
    have hs2' := it_sr (W := w2) hA2.sz hp2 (it_vrep hA2 hv2)
    have ei : ((n : Int) - 1 - k) = ((n - 1 - k : Nat) : Int) := by omega
    rw [ei] at hs2' hA2
    have hlt : n - 1 - k < n := by omega
    refine vcL_fo' (W := wr w2 ⟨fun _ => False, p⟩) (fun _ h => h) ops (oy :: suf) (K := fun st => st.s 11 = .lit (.func (.yield l) #[] #[]) ∧ st.s 12 = .lit (.int .i64 ((n - 1 - k : Nat) : Int)) ∧ st.s 16 = f (n - 1 - k) ∧ st.s 3 = .lit (.int .i64 ((n - 1 - k : Nat) : Int))) (a0 := a2) (L := itL N) ?_ pre _ a2 w2 f3 hs2' (SameT.refl _ _)
      (h3 l d n f _ hrow hn (hty _ hlt).1 hlt w2 _ _ fun st q1 q2 q3 q4 => ⟨q1, q2, q3, q4⟩)
    rintro st3 a3 w3 ⟨q11, q12, q16, q3⟩ hs3 hm3
    have hJ3 : J k w3 := hJg k w2 w3 hJ2 (keep_grown (sr_keep hs3))
    have hA3 : ItA N l b ((n - 1 - k : Nat) : Int) a3 := itA_same hA2 hm3 (lit_slot hs3 q3)
    have hv16 : VRep ⟨fun _ => none, 0, p, w3⟩ (f (n - 1 - k)) (a3.tmps.getD 16 undef) := by
      obtain ⟨e3, he3, hv⟩ := sr_slot hs3 16
      rw [q16] at hv
      subst he3
      exact VRep_tags (p := p) (P' := p) (fun b hb _ => hb) (tags_of_tl (hty _ hlt).2.1 (hty _ hlt).2.2) hv
    have hy := yieldAt_any (m' := 1 - 1) (hY k w3 _ hkn hJ3 hv16)
    have e12 := lit_slot hs3 q12
    rw [← e12] at hy
    obtain ⟨od, oo, ot, op_, oa, og⟩ := oy
    obtain ⟨rfl, rfl, rfl⟩ := hoy
    unfold wpListIn
    rw [if_pos (by simp [Region.wanted])]
    refine oper_yield (lit_slot hs3 q11) hy fun e w4 hr => ?_
    have fin : ∀ bb : Bool, (bb = true ∧ J (k + 1) w4) ∨ (bb = false ∧ Jx (k + 1) w4) → wpListIn (Fo none) 1 P ops QC suf (a3.put (some 17) (.bool bb)) w4 := by
      intro bb hbb
      have hm4 : SameT (itL N) a3 (a3.put (some 17) (.bool bb)) := (SameT.refl _ _).put (fun t ht => by cases ht; exact h17) _
      have e17 : (a3.put (some 17) (.bool bb)).tmps.getD 17 undef = .bool bb := by
        have : 17 < a3.tmps.size := by rw [hA3.sz]; omega
        simp [Act.put, this]
      have e3 : (a3.put (some 17) (.bool bb)).tmps.getD 3 undef = .int .i64 ((n - 1 - k : Nat) : Int) := by
        rw [← hA3.a3]
        simp [Act.put, Array.getElem?_setIfInBounds_ne]
      have hA4 : ItA N l b ((n - 1 - k : Nat) : Int) (a3.put (some 17) (.bool bb)) := itA_same hA3 hm4 e3
      have hs4 : SR w4 ⟨fun _ => False, fun _ => False⟩ ⟨N, 0, endS ((n - 1 - k : Nat) : Int) bb, fun _ => none⟩ (bareA (a3.put (some 17) (.bool bb))) w4 := it_sr hA4.sz (fun b hb => hb.elim) fun t => by
        unfold endS
        by_cases e1 : t = 17
        · subst e1; rw [upd_same, e17]; exact ⟨trivial, rfl⟩
        · rw [upd_ne _ _ e1]
          by_cases e0 : t = 3
          · subst e0; rw [upd_same, e3]; exact ⟨trivial, rfl⟩
          · rw [upd_ne _ _ e0]; trivial
      have hh := vcL_fo' (o := none) (n := 1) (W := wr w4 ⟨fun _ => False, fun _ => False⟩) (fun _ h => h) ops (QQ := QC) [] (a0 := a3.put (some 17) (.bool bb)) (L := itL N) ?_ suf _ _ w4 f4 hs4 (SameT.refl _ _) (h4 ((n - 1 - k : Nat) : Int) bb w4 _ (by omega) (by omega))
      · rwa [List.append_nil] at hh
      · intro st5 a5 w5 hk5 hs5 hm5
        show QC .normal a5 w5
        rw [hQC]
        show C3.wpIn (Fo none) 1 P QR a5 w5
        refine Go.wpIn_mono (flat_sound (o := none) f5 hk5 hs5 hm5) ?_
        rintro x a6 w6 ⟨st6, ⟨q63, hx6⟩, hs6, hm6⟩
        have hA6 : ItA N l b ((n - 1 - k : Nat) : Int) a6 := itA_same hA4 hm6 (lit_slot hs6 q63)
        have hg6 := keep_grown (sr_keep hs6)
        rcases hbb with ⟨rfl, hJ4⟩ | ⟨rfl, hX4⟩
        · rcases hx6 with ⟨_, rfl⟩ | ⟨h, _⟩
          · have hJ6 := hJg _ _ _ hJ4 hg6
            rw [hQR]
            show R2.wpIn (Fo none) 1 P QL a6 w6
            obtain ⟨hp6, hv6⟩ := hJv _ w6 hJ6
            refine Go.wpIn_mono (flat_sound (o := none) f2 (h2 l d _ w6 _ (by omega) (by omega)) (it_sr (W := w6) hA6.sz hp6 (it_vrep hA6 hv6)) (SameT.refl _ _)) ?_
            rintro x a7 w7 ⟨st7, ⟨rfl, q73⟩, hs7, hm7⟩
            rw [hQL]
            have hA7 := itA_same hA6 hm7 (lit_slot hs7 q73)
            refine ⟨⟨k + 1, by omega, ?_, hJg _ _ _ hJ6 (keep_grown (sr_keep hs7))⟩, ?_⟩
            · have e : (((n - 1 - k : Nat) : Int) - 1) = (n : Int) - 1 - ((k + 1 : Nat) : Int) := by omega
              rw [← e]; exact hA7
            · show (intV (a7.tmps.getD 3 undef) + 1).toNat < (intV (a.tmps.getD 3 undef) + 1).toNat
              rw [hA7.a3, hA.a3]
              show ((((n - 1 - k : Nat) : Int) - 1) + 1).toNat < (((n : Int) - 1 - k) + 1).toNat
              omega
          · cases h
        · rcases hx6 with ⟨h, _⟩ | ⟨_, rfl⟩
          · cases h
          · rw [hQR]
            show QL .ret a6 w6
            rw [hQL]
            show QB .ret a6 w6
            rw [hQB]
            exact ⟨hA6.df, _, hres _ _, ⟨_, rfl⟩, .inr ⟨_, hXg _ _ _ hX4 hg6⟩⟩
    rcases hr with ⟨rfl, hJ4⟩ | ⟨rfl, hX4⟩
    · exact ⟨_, rfl, fin true (.inl ⟨rfl, hJ4⟩)⟩
    · exact ⟨_, rfl, fin false (.inr ⟨rfl, hX4⟩)⟩
  · have hkn : k = n := by omega
    subst hkn
    rw [hQL]
    show QB (.exit 0) a2 w2
    rw [hQB]
    simp only [Exit.inBlock, if_true]
    exact ⟨hA2.df, _, hres _ _, ⟨_, rfl⟩, .inl hJ2⟩
theorem split_at {α : Type} {xs : List α} {x : α} {k : Nat} (h : xs[k]? = some x) : xs = xs.take k ++ x :: xs.drop (k + 1) := by
  obtain ⟨hk, rfl⟩ := List.getElem?_eq_some_iff.1 h
  rw [List.getElem_cons_drop, List.take_append_drop]
end
end Go.Proofs.YtncinhlaabdlaaaGreat.IM
end
section
namespace Go.Proofs.YtncinhlaabdlaaaGreat.IM
open Go Go.Proofs Go.RowKit
set_option linter.unusedVariables false
set_option linter.unusedSimpArgs false
set_option maxHeartbeats 2000000
set_option maxRecDepth 20000
section
variable {P : Program} {w0 : World} {M : Fr}
def KeepNC (w w' : World) : Prop := ∀ (k : Nat) (ob : Obj), w.heap[k]? = some ob → ob.isCells = false → w'.heap[k]? = some ob
theorem Good.keepNC {st st' : St} {e : Env} {a a' : Act} {w' : World} (h : Good w0 M st e a) (h' : SR e.w (frameOf st e) st' a' w') : KeepNC e.w w' := fun k ob hk ho => by
  have hkp := sr_keep h'
  rw [hkp.block k (lt_of_block hk) ?_]; exact hk
  rintro ⟨l, g, d, hl⟩
  obtain ⟨C, T, cs, r1, _⟩ := (h.envroot hl).row
  rw [hk] at r1
  cases r1
  cases ho
theorem piece {o : Option Nat} {n : Nat} {L : List Nat} {c : Code} {Q : Exit → St → Prop} {st : St} {a : Act} {w : World} (hs : SR w0 M st (bareA a) w) (hfl : codeFlat L c = true) (hiv : ∀ w1 M1, (∀ b, w1.heap.size ≤ b → wr w1 M1 b) → ivc P w1 M1 c Q st) :
    c.wpIn (Fo o) n P (fun x a' w' => ∃ st', Q x st' ∧ SR w0 M st' (bareA a') w' ∧ SameT L a a' ∧ KeepNC w w') a w := by
  obtain ⟨e, rfl, hg⟩ := hs
  refine Go.wpIn_mono (flat_sound (o := o) hfl (hiv e.w (frameOf st e) fun b hb => .inl hb) ⟨e, rfl, hg.rebase⟩ (SameT.refl _ _)) ?_
  rintro x a' w' ⟨st', hq, hs', hm⟩
  exact ⟨st', hq, hg.back hs', hm, hg.keepNC hs'⟩
def pickR (R : Roots) : List Nat → Roots
  | [] => fun _ => none
  | l :: K => upd (pickR R K) l (R l)
@[go_sem] theorem pickR_nil (R : Roots) : pickR R [] = fun _ => none := rfl
@[go_sem] theorem pickR_cons (R : Roots) (l : Nat) (K : List Nat) : pickR R (l :: K) = upd (pickR R K) l (R l) := rfl
theorem pickR_or (R : Roots) : ∀ (K : List Nat) (l : Nat), pickR R K l = R l ∨ pickR R K l = none
  | [], l => .inr rfl
  | k :: K, l => by
    show upd (pickR R K) k (R k) l = _ ∨ upd (pickR R K) k (R k) l = _
    by_cases h : l = k
    · subst h; rw [upd_same]; exact .inl rfl
    · rw [upd_ne _ _ h]; exact pickR_or R K l
def keepOf (KS KR : List Nat) (st : St) : St := ⟨st.N, st.n, pickS st.s KS (fun _ => .any), pickR st.R KR⟩
@[go_sem] theorem keepOf_mk (KS KR : List Nat) (N n : Nat) (s : Nat → D) (R : Roots) : keepOf KS KR ⟨N, n, s, R⟩ = ⟨N, n, pickS s KS (fun _ => .any), pickR R KR⟩ := rfl
theorem pick_vrep {e : Env} {s : Nat → D} {v : Nat → Value} : ∀ {KS : List Nat}, (∀ k ∈ KS, VRep e (s k) (v k)) → ∀ k, VRep e (pickS s KS (fun _ => .any) k) (v k)
  | [], _, k => trivial
  | t :: K, h, k => by
    show VRep e (upd (pickS s K fun _ => .any) t (s t) k) (v k)
    by_cases hk : k = t
    · subst hk; rw [upd_same]; exact h _ (List.mem_cons_self ..)
    · rw [upd_ne _ _ hk]; exact pick_vrep (fun k hk => h k (List.mem_cons_of_mem _ hk)) k
theorem sr_forget {L KS KR : List Nat} {st : St} {a a' : Act} {w : World} (h : SR w0 M st (bareA a') w) (hs : a'.tmps.size = a.tmps.size) (hKS : ∀ k ∈ KS, k ∉ L) (ht : ∀ k, k ∉ L → a'.tmps.getD k undef = a.tmps.getD k undef) : SR w0 M (keepOf KS KR st) (bareA a) w := by
  have h2 : SR w0 M ⟨st.N, st.n, st.s, pickR st.R KR⟩ (bareA a') w := h.forget ⟨rfl, Nat.le_refl _, fun t => .inl rfl, fun l => pickR_or st.R KR l⟩
  obtain ⟨e, rfl, hg⟩ := h2
  refine ⟨e, rfl, hg.R, ?_, rfl, pick_vrep fun k hk => ?_, hg.root, hg.own, hg.inj, hg.P, hg.keep, hg.n, hg.per⟩
  · have := hg.N; show a.tmps.size = _; rw [← hs]; exact this
  · have := hg.slot k
    rwa [show (bareA a').tmps.getD k undef = (bareA a).tmps.getD k undef from ht k (hKS k hk)] at this
theorem Good.widen {st : St} {e : Env} {a : Act} {p : Nat → Prop} (h : Good w0 M st e a) (hp : ∀ b, p b → b < w0.heap.size ∧ M.p b ∧ ¬ M.m b) : Good w0 M st ⟨e.R, e.G, fun b => e.P b ∨ p b, e.w⟩ a := by
  have hle : Env.le e ⟨e.R, e.G, fun b => e.P b ∨ p b, e.w⟩ := ⟨Nat.le_refl _, fun b hb => .inl hb, fun _ _ => rfl, fun _ _ _ d _ h => ⟨d, h⟩, fun _ _ _ _ _ _ C _ z h => ⟨C, z, h, rfl⟩⟩
  refine ⟨h.R, h.N, h.df, fun t => VRep_le hle (h.slot t), fun l g b d hl => ⟨(h.root l g b d hl).1, ?_⟩, h.own, h.inj, fun b hb => ?_, h.keep, h.n, fun b hb => ?_⟩
  · obtain ⟨q1, q2, C, T, cs, q3, q4, q5⟩ := (h.root l g b d hl).2
    refine ⟨fun hb => hb.elim q1 fun hb => ?_, q2, C, T, cs, q3, Rep_le hle q4, q5⟩
    obtain ⟨r1, r2, r3⟩ := hp b hb
    rcases h.own l g b d hl with h1 | h1
    · omega
    · exact r3 h1
  · rcases hb with hb | hb
    · exact h.P b hb
    · exact Nat.lt_of_lt_of_le (hp b hb).1 h.keep.size
  · rcases hb with hb | hb
    · exact h.per b hb
    · exact .inr (.inl (hp b hb).2.1)
theorem sr_put {st : St} {a : Act} {w : World} {p : Nat → Prop} {t : Nat} {d : D} {v : Value} (h : SR w0 M st (bareA a) w) (hp : ∀ b, p b → b < w0.heap.size ∧ M.p b ∧ ¬ M.m b) (hv : VRep ⟨fun _ => none, 0, p, w⟩ d v) (ht : t < st.N) : SR w0 M (st.put (some t) d) (bareA (a.put (some t) v)) w := by
  obtain ⟨e, rfl, hg⟩ := h
  have hle : Env.le ⟨fun _ => none, 0, p, e.w⟩ ⟨e.R, e.G, fun b => e.P b ∨ p b, e.w⟩ := ⟨Nat.zero_le _, fun b hb => .inr hb, fun _ _ => rfl, fun _ _ _ _ hg => absurd hg (Nat.not_lt_zero _), fun _ _ _ _ hg => absurd hg (Nat.not_lt_zero _)⟩
  rw [bare_put]
  exact ⟨⟨e.R, e.G, fun b => e.P b ∨ p b, e.w⟩, rfl, (hg.widen hp).put (by intro t' h'; cases h'; exact ht) (VRep_le hle hv)⟩
theorem sr_putObj {st : St} {a : Act} {w : World} {l : Nat} {ob : Obj} (ob' : Obj) (hs : SR w0 M st a w) (hnp : st.np) (hl : w0.heap.size ≤ l) (ho : w.heap[l]? = some ob) (hc : ob.isCells = false) : SR w0 M st a (w.putObj l ob') :=
  hs.grown hnp (grownBy_putObj' w l ob') fun r e => by cases e; exact ⟨hl, ob, ho, hc⟩
theorem callsIn_any {n m : Nat} {f : FuncId} {args : Array Value} {w : World} {R : Ending → World → Prop} (h : CallsIn Fence.wide n P f args w R) : CallsIn (Fo none) m P f args w R := ⟨trivial, fun cs _ => h.2 cs (room_wide _)⟩
theorem data_np {d : D} : d.data → d.np := by
  induction d with
  | sl t zb n sz f ih => intro h i hi; exact ih i (h i hi)
  | node k f ih => intro h i hi; exact ih i (h i hi)
  | tup n f ih => intro h i hi; exact ih i (h i hi)
  | lit v => intro _; trivial
  | nil => intro _; trivial
  | any => intro _; trivial
  | _ => intro h; exact h.elim
theorem np_upd {s : Nat → D} {t : Nat} {d : D} (h : ∀ k, (s k).np) (hd : d.np) (k : Nat) : (upd s t d k).np := by
  by_cases e : k = t
  · subst e; rw [upd_same]; exact hd
  · rw [upd_ne _ _ e]; exact h k
def NpR (R : Roots) : Prop := ∀ l g b d, R l = some (g, b, d) → d.np
theorem NpR.none : NpR (fun _ => Option.none) := fun l g b d h => by cases h
theorem NpR.upd {R : Roots} (h : NpR R) {l g b : Nat} {d : D} (hd : d.np) : NpR (IM.upd R l (some (g, b, d))) := fun l' g' b' d' hx => by
  by_cases e : l' = l
  · subst e; rw [upd_same] at hx
    simp only [Option.some.injEq, Prod.mk.injEq] at hx
    obtain ⟨rfl, rfl, rfl⟩ := hx; exact hd
  · rw [upd_ne _ _ e] at hx; exact h _ _ _ _ hx
theorem range_core (KS KR : List Nat) {g p1 p2 gf sz n m : Nat} {T : TypeId} {assign body : Code} {L : List Nat} {a : Act} {w : World} {st : St} {c : Nat → D} {d : D} {f : Nat → D} {QQ : Exit → Act → World → Prop}
    (hs : SR w0 M st (bareA a) w) (hdf : a.defers = []) (hg : st.s g = .fn gf 1 c) (hc : c 0 = .cptr d) (hrow : IsRow sz d n f) (hn : n < 140737488355328) (hty : ∀ i, i < n → TyOk P T (f i) ∧ (f i).data) (hdd : d.data)
    (hKS : ∀ k ∈ KS, k ∉ L) (hp1 : p1 ∈ L) (hp2 : p2 ∈ L) (hp1N : p1 < st.N) (hp2N : p2 < st.N) (hfa : codeFlat L assign = true) (hfb : codeFlat L body = true) (hit : BackIt P gf sz T) (hent : ∀ args w, (callFunc gf args).run P w = .ok (.enter gf args) w)
    (Inv : Nat → St → Prop) (InvX : St → Prop) (hnp : ∀ k st', Inv k st' → st'.np ∧ st'.N = st.N) (hnpX : ∀ st', InvX st' → st'.np) (h0 : Inv 0 (keepOf KS KR st))
    (hround : ∀ k st', k < n → Inv k st' → ∀ w1 M1, (∀ b, w1.heap.size ≤ b → wr w1 M1 b) → ivc P w1 M1 assign (fun x st1 => x = .normal ∧ st1.np ∧ ∀ w2 M2, (∀ b, w2.heap.size ≤ b → wr w2 M2 b) → ivc P w2 M2 body (fun x st2 => (x = .normal ∧ Inv (k + 1) (keepOf KS KR st2)) ∨ (x = .ret ∧ InvX (keepOf KS KR st2))) st1)
      ((st'.put (some p1) (.lit (.int .i64 ((n - 1 - k : Nat) : Int)))).put (some p2) (f (n - 1 - k))))
    (hdone : ∀ D W' st', w.heap.size ≤ D → Inv n st' → SR w0 M st' (bareA a) W' → W'.heap[D]? = some (.deferred (some [])) → QQ .normal { a with defers := [{ target := .collected D, args := #[] }] } W')
    (hstop : ∀ D W' st', w.heap.size ≤ D → InvX st' → SR w0 M st' (bareA a) W' → W'.heap[D]? = some (.deferred (some [])) → QQ .ret { a with defers := [{ target := .collected D, args := #[] }] } W') :
    (Code.rangeFunc (.tmp g) #[p1, p2] assign body).wpIn (Fo none) m P QQ a w := by
  obtain ⟨e, rfl, hG⟩ := hs
  have hB := hG.rebase
  have hvg := hG.slot g
  rw [hg] at hvg
  obtain ⟨cap, hcv, hcn, hcs⟩ := hvg
  have hcv : a.tmps.getD g undef = .func (.func gf) #[] cap := by simpa [bareA] using hcv
  obtain ⟨b, rfl⟩ : ∃ b, cap = #[b] := by
    obtain ⟨l⟩ := cap
    match l, hcn with
    | [b], _ => exact ⟨b, rfl⟩
  have hvb := (hcs 0 (by decide)).2
  rw [hc] at hvb
  have hvb : Rep e (.cptr d) [b] := hvb
  obtain ⟨bb, bo, ds, hbv, hbP, hbR, hbA⟩ := hvb
  have hroot : ∀ x, (frameOf st e).m x → ¬ e.P x := fun x ⟨l, g', d', hl⟩ => (hG.envroot hl).np
  have hbR' : Rep ⟨fun _ => none, 0, e.P, e.w⟩ d ds := Rep_tags (p := e.P) (P' := e.P) (fun b hb _ => hb) (tags_of_tl hdd (Rep_tl hbR)) hbR
  refine wpIn_rangeFunc (F := Fo none) ?_
  intro fn hfn
  obtain ⟨rec, hrec⟩ : ∃ rec : LoopState → Option Code → Loop, rec = fun st pe => { state := st, pending := pe, fn, tmps := a.tmps, params := #[p1, p2], assign, body, defers := e.w.heap.size } := ⟨_, rfl⟩
  obtain ⟨W1, hW1⟩ : ∃ W1, (e.w.alloc (.deferred (some []))).alloc (.loop (rec .ready none)) = W1 := ⟨_, rfl⟩
  have hL1 : W1.heap[e.w.heap.size + 1]? = some (.loop (rec .ready none)) := by
    rw [← hW1]; have := World.alloc_heap_new (e.w.alloc (.deferred (some []))) (.loop (rec .ready none)); rwa [World.size_alloc] at this
  have hK1 : W1.heap[e.w.heap.size]? = some (.deferred (some [])) := by
    rw [← hW1]; exact (Below.heap_alloc _ _ _ (by simp)).trans (World.alloc_heap_new e.w _)
  have hS0 : SR e.w (frameOf st e) (keepOf KS KR st) (bareA a) e.w := sr_forget (L := L) ⟨e, rfl, hB⟩ rfl hKS fun _ _ => rfl
  have hS1 : SR e.w (frameOf st e) (keepOf KS KR st) (bareA a) W1 := by
    rw [← hW1]
    exact (hS0.grown (hnp 0 _ h0).1 (World.grownBy_alloc _ _ none) (fun r h => by cases h)).grown (hnp 0 _ h0).1 (World.grownBy_alloc _ _ none) (fun r h => by cases h)
  refine ⟨e.w.heap.size + 1, [{ target := .collected e.w.heap.size, args := #[] }], W1, { target := .fn (.func gf) #[b], args := #[.func (.yield (e.w.heap.size + 1)) #[] #[]] }, W1, gf,
    #[.func (.yield (e.w.heap.size + 1)) #[] #[]] ++ #[b], W1, ?_, ?_, fun _ _ => trivial, ?_, room_fo none, ?_⟩
  · rw [← hW1, hrec]; exact run_enterLoop_outer _ _ _ _ _
  · have h1 : a.eval (.tmp g) = .func (.func gf) #[] #[b] := hcv
    simp only [resolve, h1]
    simp [go_sem]
  · simp [invoke, go_sem, hent]
  · have hgr : ∀ {A B : World} {k : Nat} {ob : Obj}, A.grownBy B none → A.heap[k]? = some ob → B.heap[k]? = some ob := fun h hk => (h.block _ (lt_of_block hk) (by simp)).trans hk
    refine (callsIn_any (hit (e.w.heap.size + 1) e.P d n f b
      (fun k W => (∃ st', Inv k st' ∧ SR e.w (frameOf st e) st' (bareA a) W) ∧ W.heap[e.w.heap.size + 1]? = some (.loop (rec .ready none)) ∧ W.heap[e.w.heap.size]? = some (.deferred (some [])))
      (fun k W => (∃ st', InvX st' ∧ SR e.w (frameOf st e) st' (bareA a) W) ∧ W.heap[e.w.heap.size + 1]? = some (.loop (rec .done (some .ret))) ∧ W.heap[e.w.heap.size]? = some (.deferred (some [])))
      W1 hrow hn (fun i hi => ⟨(hty i hi).1, (hty i hi).2, fun t ht => ?_⟩) ?_ ?_ ?_ ?_ ⟨⟨_, h0, hS1⟩, hL1, hK1⟩)).mono ?_
    · refine Rep_tl hbR t ?_
      rcases hrow with ⟨rfl, hn0⟩ | ⟨t', zb, rfl⟩
      · omega
      · simp only [D.tl, List.mem_cons, List.mem_flatMap, List.mem_range]; exact .inr ⟨i, hi, ht⟩
    · rintro k W ⟨⟨st', hI, hs'⟩, _, _⟩
      have hkp := sr_keep hs'
      have hat : ∀ x, e.P x → W.heap[x]? = e.w.heap[x]? := fun x hx => hkp.block x (hG.P x hx) fun hm => hroot x hm hx
      exact ⟨fun x hx => Nat.lt_of_lt_of_le (hG.P x hx) hkp.size, VRep_le (env_at hat) (show VRep _ (.cptr d) b from ⟨bb, bo, ds, hbv, hbP, hbR', hbA⟩)⟩
    · rintro k A B ⟨⟨st', hI, hs'⟩, h1, h2⟩ hgab
      exact ⟨⟨st', hI, hs'.grown (hnp k st' hI).1 hgab (fun r h => by cases h)⟩, hgr hgab h1, hgr hgab h2⟩
    · rintro k A B ⟨⟨st', hI, hs'⟩, h1, h2⟩ hgab
      exact ⟨⟨st', hI, hs'.grown (hnpX st' hI) hgab (fun r h => by cases h)⟩, hgr hgab h1, hgr hgab h2⟩
    · rintro k W v hk ⟨⟨st', hI, hs'⟩, hl, hD⟩ hv
      have hy := run_yield (P := P) (args := #[.int .i64 ((n - 1 - k : Nat) : Int), v]) hl (by rw [hrec]; rfl)
      rw [hrec] at hy
      refine ⟨fn, _, assign, body, hy, roundIn_of_wpIn (F := Fence.wide) trivial ?_⟩
      have hpp : ∀ x, e.P x → x < e.w.heap.size ∧ (frameOf st e).p x ∧ ¬ (frameOf st e).m x := fun x hx => ⟨hG.P x hx, hx, fun hm => hroot x hm hx⟩
      have hN' := (hnp k st' hI).2
      have hsA := sr_put (t := p1) (d := .lit (.int .i64 ((n - 1 - k : Nat) : Int))) (v := .int .i64 ((n - 1 - k : Nat) : Int)) (p := e.P) hs' hpp ⟨trivial, rfl⟩ (by rw [hN']; exact hp1N)
      have hsB := sr_put (t := p2) (p := e.P) hsA hpp hv (by show p2 < st'.N; rw [hN']; exact hp2N)
      obtain ⟨aP, haP⟩ : ∃ aP : Act, aP = bareA ((a.put (some p1) (.int .i64 ((n - 1 - k : Nat) : Int))).put (some p2) v) := ⟨_, rfl⟩
      have hsB' : SR e.w (frameOf st e) ((st'.put (some p1) (.lit (.int .i64 ((n - 1 - k : Nat) : Int)))).put (some p2) (f (n - 1 - k))) (bareA aP) W := by rw [haP]; exact hsB
      have hsame : SameT L (bareA a) aP := by
        rw [haP, bare_put, bare_put]
        exact ((SameT.refl L (bareA a)).put (fun t ht => by cases ht; exact hp1) _).put (fun t ht => by cases ht; exact hp2) _
      show assign.wpIn (Fo (some (e.w.heap.size + 1))) 0 P _ _ W
      have hfold : ({ tmps := ((#[p1, p2] : Array Tmp).zip #[Value.int .i64 ((n - 1 - k : Nat) : Int), v]).foldl (fun tmps (t, a) => tmps.setIfInBounds t a) a.tmps, defers := [] } : Act) = aP := by rw [haP]; simp [bareA, Act.put]
      show assign.wpIn (Fo (some (e.w.heap.size + 1))) 0 P _ ({ tmps := ((#[p1, p2] : Array Tmp).zip #[Value.int .i64 ((n - 1 - k : Nat) : Int), v]).foldl (fun tmps (t, a) => tmps.setIfInBounds t a) a.tmps, defers := [] } : Act) W
      rw [hfold]
      refine Go.wpIn_mono (piece hsB' hfa (hround k st' hk hI)) ?_
      rintro x a1 w1 ⟨st1, ⟨rfl, hnp1, hbody⟩, hs1, hm1, hk1⟩
      have hl1 := hk1 _ _ hl rfl
      have hD1 := hk1 _ _ hD rfl
      refine ⟨_, run_beginRound hl1 (by rw [hrec]), ?_⟩
      have hs2 := sr_putObj (.loop { rec .ready none with state := .busy }) hs1 hnp1 (Nat.le_succ _) hl1 rfl
      have hlt1 : e.w.heap.size + 1 < w1.heap.size := lt_of_block hl1
      have hl2 : (w1.putObj (e.w.heap.size + 1) (.loop { rec .ready none with state := .busy })).heap[e.w.heap.size + 1]? = some (.loop { rec .ready none with state := .busy }) := World.putObj_heap_same hlt1
      have hD2 : (w1.putObj (e.w.heap.size + 1) (.loop { rec .ready none with state := .busy })).heap[e.w.heap.size]? = some (.deferred (some [])) := (World.putObj_heap_other (by omega)).trans hD1
      show body.wpIn (Fo (some (e.w.heap.size + 1))) 0 P _ a1 _
      refine Go.wpIn_mono (piece hs2 hfb hbody) ?_
      rintro x a2 w3 ⟨st2, hq, hs3, hm2, hk3⟩
      have hl3 := hk3 _ _ hl2 rfl
      have hD3 := hk3 _ _ hD2 rfl
      have hlt3 : e.w.heap.size + 1 < w3.heap.size := lt_of_block hl3
      have hsF : SR e.w (frameOf st e) (keepOf KS KR st2) (bareA a) w3 := sr_forget (L := L) hs3 (hm2.sz.trans (hm1.sz.trans hsame.sz)) hKS fun k hk => (hm2.tm k hk).trans ((hm1.tm k hk).trans (hsame.tm k hk))
      have fin : ∀ jump : Option Code, (Instr.endRound (e.w.heap.size + 1) jump).run P w3 = .ok (.bool jump.isNone) (w3.putObj (e.w.heap.size + 1) (.loop (rec (if jump.isNone then .ready else .done) jump))) ∧
          (w3.putObj (e.w.heap.size + 1) (.loop (rec (if jump.isNone then .ready else .done) jump))).heap[e.w.heap.size + 1]? = some (.loop (rec (if jump.isNone then .ready else .done) jump)) ∧
          (w3.putObj (e.w.heap.size + 1) (.loop (rec (if jump.isNone then .ready else .done) jump))).heap[e.w.heap.size]? = some (.deferred (some [])) := fun jump => by
        have := run_endRound (P := P) jump hl3
        rw [hrec] at this ⊢
        exact ⟨this, World.putObj_heap_same hlt3, (World.putObj_heap_other (by omega)).trans hD3⟩
      rcases hq with ⟨rfl, hI2⟩ | ⟨rfl, hI2⟩
      · obtain ⟨q1, q2, q3⟩ := fin none
        exact ⟨_, _, q1, .inl ⟨rfl, ⟨_, hI2, sr_putObj _ hsF (hnp _ _ hI2).1 (Nat.le_succ _) hl3 rfl⟩, q2, q3⟩⟩
      · obtain ⟨q1, q2, q3⟩ := fin (some .ret)
        exact ⟨_, _, q1, .inr ⟨rfl, ⟨_, hI2, sr_putObj _ hsF (hnpX _ hI2) (Nat.le_succ _) hl3 rfl⟩, q2, q3⟩⟩
    · rintro en W2 ⟨⟨v, rfl⟩, ⟨⟨st', hI, hs'⟩, hl, hD⟩ | ⟨k, ⟨st', hI, hs'⟩, hl, hD⟩⟩
      · refine ⟨none, _, by have := run_endLoop (P := P) hl (by rw [hrec]; simp); rw [hrec] at this; exact this, ?_⟩
        show QQ .normal { a with defers := _ ++ a.defers } _
        rw [hdf]
        exact hdone _ _ st' (Nat.le_refl _) hI (hG.back (sr_putObj _ hs' (hnp _ _ hI).1 (Nat.le_succ _) hl rfl)) ((World.putObj_heap_other (by omega)).trans hD)
      · refine ⟨some .ret, _, by have := run_endLoop (P := P) hl (by rw [hrec]; simp); rw [hrec] at this; exact this, ?_⟩
        show Code.ret.wpIn (Fo none) m P QQ { a with defers := _ ++ a.defers } _
        rw [hdf]
        exact wpIn_ret (hstop _ _ st' (Nat.le_refl _) hI (hG.back (sr_putObj _ hs' (hnpX _ hI) (Nat.le_succ _) hl rfl)) ((World.putObj_heap_other (by omega)).trans hD))
def EndM (P : Program) (rs : List ResultVar) (w0 : World) (M : Fr) (n0 : Nat) (Q : Nat → Nat → D → Prop) (x : Exit) (a : Act) (w : World) : Prop :=
  (x = .ret ∨ x = .normal) ∧ ∃ D st, a.defers = [{ target := .collected D, args := #[] }] ∧ w.heap[D]? = some (.deferred (some [])) ∧ w0.heap.size ≤ D ∧ st.np ∧ SR w0 M st (bareA a) w ∧ (∀ r ∈ rs, retOk P st r) ∧ ∀ n1, st.n ≤ n1 → Facts st n1 → Q n0 n1 (rl 9 (labView st.R) (retV st rs))
theorem pcall_marks {f : FuncId} {fn : Func} {c : Code} {rs : List ResultVar} {args : List D} {Q : Nat → Nat → D → Prop} (hf : P.funcs[f]? = some fn) (hb : fn.body = some c) (hnm : (fn.name == "runtime.NumGoroutine") = false)
    (hrs : fn.results = rs.toArray) (hlen : rs.length ≤ 4) (hN : args.length ≤ fn.ntmps)
    (h : ∀ w0 M n0 a, n0 = w0.heap.size → a.defers = [] → (∀ b, n0 ≤ b → wr w0 M b) → (∀ a ∈ args, a.data → a.tags (· < n0)) → SR w0 M (St.start fn.ntmps n0 args fun _ => none) (bareA a) w0 → c.wpIn (Fo none) 1 P (EndM P rs w0 M n0 Q) a w0) : PCall P f args Q := by
  refine ⟨⟨fn, hf, by rw [hb]; rfl, hnm⟩, fun w p gb vs hsz hp hins hinj hvs => (callsIn_wide (n := 1)).1 (callsIn_of_wp_marks (F := Fo none) hf hb trivial ?_)⟩
  have hnil : InsR gb [] = fun _ => none := by funext l; simp [InsR]
  rw [hnil] at hvs
  have hT : ∀ a ∈ args, a.data → a.tags (· < w.heap.size) := fun a ha hd => by
    obtain ⟨i, hi, rfl⟩ := List.getElem_of_mem ha
    exact D.tags_mono (fun b hb => hp b hb) (vrep_tags hd (hvs i _ (List.getElem?_eq_getElem hi)))
  have hgood : Good w ⟨fun b => ∃ i, i < ([] : List D).length ∧ b = gb i, p⟩ (St.start fn.ntmps w.heap.size args fun _ => none) ⟨fun _ => none, 1, p, w⟩ (bareA { tmps := vs ++ Array.replicate (fn.ntmps - vs.size) undef, defers := [] }) := by
    refine ⟨rfl, by simp [St.start, bareA]; omega, rfl, fun t => ?_, fun l g b d hl => (nomatch hl), fun l g b d hl => (nomatch hl), fun l l' g g' b d d' hl hl' => (nomatch hl), hp, Keep.refl _ _, Nat.le_refl _, fun b hb => .inr (.inl hb)⟩
    show VRep _ (args.getD t .any) ((vs ++ Array.replicate (fn.ntmps - vs.size) undef).getD t undef)
    rcases Nat.lt_or_ge t args.length with ht | ht
    · have h1 : args.getD t .any = args[t] := by simp [List.getD_eq_getElem?_getD, ht]
      have h2 : (vs ++ Array.replicate (fn.ntmps - vs.size) undef).getD t undef = vs.getD t undef := by
        simp [Array.getElem?_append_left, hsz, ht]
      rw [h1, h2]
      exact hvs t _ (List.getElem?_eq_getElem ht)
    · have h1 : args.getD t .any = .any := by simp [List.getD_eq_getElem?_getD, List.getElem?_eq_none ht]
      rw [h1]; trivial
  refine Go.wpIn_mono (h w _ w.heap.size _ rfl rfl (fun b hb => .inl hb) hT ⟨_, rfl, hgood⟩) ?_
  rintro x a' w' ⟨hx, Dm, st, hdf, hD, hDw, hnp, hs, hret, hQ⟩
  have hs3 := sr_putObj (.deferred none) hs hnp hDw hD rfl
  have fin : LeavesInM (Fo none) 1 P fn a'.tmps (fun en w' => ∃ v r outs gb' p', en = Ending.returned v ∧ (outs = [] ∧ Q w.heap.size w'.heap.size r) ∧
      Keep w (fun b => ∃ i, i < ([] : List D).length ∧ b = gb i) w' ∧ (∀ b, p b → p' b) ∧
      (∀ b, p' b → b < w'.heap.size ∧ (p b ∨ w.heap.size ≤ b ∨ ∃ i, i < ([] : List D).length ∧ b = gb i)) ∧
      (∀ i d, outs[i]? = some d → RootOk ⟨InsR gb' outs, 1, p', w'⟩ (gb' i) d ∧ (w.heap.size ≤ gb' i ∨ ∃ j, j < ([] : List D).length ∧ gb' i = gb j)) ∧
      (∀ i j, i < outs.length → j < outs.length → gb' i = gb' j → i = j) ∧
      VRep ⟨InsR gb' outs, 1, p', w'⟩ r v) a'.defers .returning w' := by
    rw [hdf]
    refine ⟨by simp, .inl ⟨Dm, _, rfl, run_takeDeferred hD, ?_⟩⟩
    obtain ⟨e, he, hg⟩ := hs3
    obtain ⟨v, hrun, hv⟩ := run_results hg fn hrs hlen hret
    rw [he] at hrun
    refine ⟨v, hrun, v, _, [], fun _ => 0, fun b => p b ∨ e.P b ∨ ∃ l g d, st.R l = some (g, b, d), rfl, ⟨rfl, hQ _ (by rw [← he]; exact hg.n) (by rw [← he]; exact hg.facts)⟩, by rw [← he]; exact hg.keep, fun b hb => .inl hb, ?_, fun i d h => (by simp at h), fun i j h => (by simp at h), ?_⟩
    · have hlt : ∀ l g b d, st.R l = some (g, b, d) → b < e.w.heap.size := fun l g b d hl => by
        obtain ⟨C, T, cs, r1, _⟩ := (hg.envroot hl).row
        exact lt_of_block r1
      rw [← he]
      rintro b (hb | hb | ⟨l, g, d, hR⟩)
      · exact ⟨Nat.lt_of_lt_of_le (hp b hb) hg.keep.size, .inl hb⟩
      · exact ⟨hg.P b hb, (hg.per b hb).elim (fun h => .inr (.inl h)) fun h => h.elim .inl fun h => .inr (.inr h)⟩
      · exact ⟨hlt _ _ _ _ hR, .inr (hg.own _ _ _ _ hR)⟩
    · have hnil' : InsR (fun _ => 0) [] = fun _ => none := by funext l; simp [InsR]
      rw [hnil', ← he]
      have hle : Env.le ⟨fun _ => none, 1, fun b => e.P b ∨ ∃ l g d, st.R l = some (g, b, d), e.w⟩ ⟨fun _ => none, 1, fun b => p b ∨ e.P b ∨ ∃ l g d, st.R l = some (g, b, d), e.w⟩ :=
        ⟨Nat.le_refl _, fun b hb => .inr hb, fun _ _ => rfl, fun _ _ _ _ _ h => (by cases h), fun _ _ _ _ _ h => (by cases h)⟩
      exact VRep_le hle (VRep_rl (relab_view hg) 9 _ _ hv)
  rcases hx with rfl | rfl
  · exact fin
  · exact fin
theorem shape2 {n : Nat} {L : List Nat} {A C X T : Code} {QQ : Exit → Act → World → Prop} {K : St → Prop} {st : St} {a : Act} {w : World} (hs : SR w0 M st (bareA a) w) (hdf : a.defers = []) (hfl : codeFlat L A = true ∧ codeFlat L C = true)
    (h : ivc P w0 M (A.seq C) (fun x st => x = .normal ∧ K st) st) (hX : ∀ st' a' w', K st' → SR w0 M st' (bareA a') w' → a'.defers = [] → X.wpIn (Fo none) n P (Exit.then (T.wpIn (Fo none) n P QQ) QQ) a' w') :
    (A.seq ((C.seq X).seq T)).wpIn (Fo none) n P QQ a w := by
  refine wpIn_seq (Go.wpIn_mono (flat_sound (o := none) (Q := qthen (ivc P w0 M C (fun x st => x = .normal ∧ K st)) (fun x st => x = .normal ∧ K st)) hfl.1 h hs (SameT.refl _ _)) ?_)
  rintro x a1 w1 ⟨st1, hq, hs1, hm1⟩
  cases x with
  | normal =>
    refine wpIn_seq (wpIn_seq (Go.wpIn_mono (flat_sound (o := none) hfl.2 (show ivc P w0 M C (fun x st => x = .normal ∧ K st) st1 from hq) hs1 (SameT.refl _ _)) ?_))
    rintro x a2 w2 ⟨st2, ⟨rfl, hk⟩, hs2, hm2⟩
    exact hX st2 a2 w2 hk hs2 (hm2.df.trans (hm1.df.trans hdf))
  | _ => exact absurd hq.1 (by simp)
theorem tail_m {n n0 Dm : Nat} {L : List Nat} {T : Code} {rs : List ResultVar} {Q : Nat → Nat → D → Prop} {st : St} {a : Act} {w : World} (hs : SR w0 M st (bareA a) w) (hdf : a.defers = [{ target := .collected Dm, args := #[] }]) (hD : w.heap[Dm]? = some (.deferred (some []))) (hDw : w0.heap.size ≤ Dm) (hfl : codeFlat L T = true)
    (h : ∀ w1 M1, (∀ b, w1.heap.size ≤ b → wr w1 M1 b) → ivc P w1 M1 T (fun x st => (x = .ret ∨ x = .normal) ∧ st.np ∧ (∀ r ∈ rs, retOk P st r) ∧ ∀ n1, st.n ≤ n1 → Facts st n1 → Q n0 n1 (rl 9 (labView st.R) (retV st rs))) st) :
    T.wpIn (Fo none) n P (EndM P rs w0 M n0 Q) a w := by
  refine Go.wpIn_mono (piece hs hfl h) ?_
  rintro x a1 w1 ⟨st1, ⟨hx, hnp, hr, hq⟩, hs1, hm1, hk1⟩
  exact ⟨hx, Dm, st1, hm1.df.trans hdf, hk1 _ _ hD rfl, hDw, hnp, hs1, hr, hq⟩
end
theorem xcall_i {P : Program} {f : Nat} {cs : Nat → D} {xs : List Operand} {dst : Option Tmp} {ev : Operand → D} {R : Roots} {n : Nat} {k : Roots → Nat → D → Prop} {Mk : Prop} {args : List D} {Q : Nat → Nat → D → Prop} (h : PCall P f args Q) (hargs : xs.map ev = args) (hst : stillL args)
    (hk : ∀ n0 n1 r, n ≤ n0 → n0 ≤ n1 → Q n0 n1 r → r.still ∧ k R n1 r) : XCallT P f 0 cs xs dst ev R n k Mk := by
  refine .inl (.inl ⟨[], by simp, fun l' hl' => absurd hl' (by simp), fun l' hl' => absurd hl' (by simp), ?_⟩)
  have e1 : ((xs.map fun x => rl 9 (labIn R []) (ev x)) ++ (List.range 0).map fun i => rl 9 (labIn R []) (cs i)) = args := by
    rw [List.range_zero, List.map_nil, List.append_nil]
    have : (xs.map fun x => rl 9 (labIn R []) (ev x)) = (xs.map ev).map (rl 9 (labIn R [])) := by rw [List.map_map]; rfl
    rw [this, hargs, still_map hst]
  rw [e1, List.map_nil]
  refine ICall.mono h ?_
  rintro n0 n1 outs r h01 ⟨rfl, hq⟩ hn
  obtain ⟨hs, hk⟩ := hk n0 n1 r hn h01 hq
  refine ⟨by simp, fun G bs hbs => ⟨fun d' hd => absurd hd (by simp), ?_⟩⟩
  have e3 : addL (remL R []) (labOut ([] : List D).length (outLab dst []) G) G (outLab dst []) bs 0 [] = R := rfl
  rw [e3, rl_still hs]
  exact hk
end Go.Proofs.YtncinhlaabdlaaaGreat.IM
end
