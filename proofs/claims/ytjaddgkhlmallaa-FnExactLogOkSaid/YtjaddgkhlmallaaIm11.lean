/- A function's entry and its answer, over abstract states. Nothing of a program is in it. -/
import Derived.Test.YtjaddgkhlmallaaIm10
namespace Go.Proofs.Ytjaddgkhlmallaa.IM
open Go Go.RowKit
set_option linter.unusedVariables false

def retD (st : St) : ResultVar → D
  | .tmp t => st.s t
  | .cell t _ => match st.s t with
    | .ptr l g _ p => (st.rd l g).get p
    | _ => .any
def retOk (P : Program) (st : St) : ResultVar → Prop
  | .tmp _ => True
  | .cell t T => match st.s t with
    | .ptr l g o p => TyOk P T ((st.rd l g).get p) ∧ (st.rd l g).inb p ∧ (st.rd l g).offOf p = o
    | _ => False

def retOne (fn : Func) (tmps : Array Value) : ResultVar → Sem Value
  | .tmp t => pure (tmps.getD t undef)
  | .cell a t => do loadVar t (← asAddr (tmps.getD a undef))

section
variable {P : Program} {w0 : World} {M : Fr} {st : St} {e : Env} {a : Act}

theorem run_retOne (h : Good w0 M st e a) (fn : Func) (r : ResultVar) (hr : retOk P st r) : ∃ v, (retOne fn a.tmps r).run P e.w = .ok v e.w ∧ VRep e (retD st r) v := by
  cases r with
  | tmp t => exact ⟨_, rfl, h.slot t⟩
  | cell t T =>
    simp only [retOk] at hr
    simp only [retD, retOne]
    have hv := h.slot t
    split at hr
    · rename_i l g o p hs
      obtain ⟨h1, h2, h3⟩ := hr
      rw [hs] at hv
      obtain ⟨hg, ad, hxv, hq⟩ := hv
      simp only [List.cons.injEq, and_true] at hxv
      have hR := rd_spec (st := st) (l := l) (g := g) (p := p) h1.plain
      obtain rfl := hq (st.blk l) (st.rd l g) (by rw [h.R]; exact hR)
      obtain ⟨ds, hrep, hat⟩ := h.root_at hR h2
      rw [h3] at hat
      obtain ⟨ag, hag, hlo⟩ := h1.loaded
      obtain ⟨v, hrun, hvr⟩ := run_loadVar (P := P) rfl hag h1.1 hlo hrep hat
      refine ⟨v, ?_, hvr⟩
      rw [hxv, Sem.run_bind]
      show (Result.ok _ e.w).andThen _ = _
      rw [Result.andThen_ok, hrun]
    · exact hr.elim

theorem results_eq (fn : Func) (tmps : Array Value) : results fn tmps = (do let vs ← fn.results.mapM (retOne fn tmps); pure (if h : vs.size = 1 then vs[0] else .tuple vs)) := by
  unfold results
  congr 1

def retV (st : St) : List ResultVar → D
  | [r] => retD st r
  | rs => .tup rs.length fun i => match rs[i]? with
    | some r => retD st r
    | none => .any

theorem run_results (h : Good w0 M st e a) (fn : Func) {rs : List ResultVar} (hrs : fn.results = rs.toArray) (hlen : rs.length ≤ 4) (hr : ∀ r ∈ rs, retOk P st r) :
    ∃ v, (results fn a.tmps).run P e.w = .ok v e.w ∧ VRep e (retV st rs) v := by
  rw [results_eq, hrs]
  match rs, hlen, hr with
  | [], _, _ => exact ⟨.tuple #[], by simp, ⟨#[], rfl, rfl, fun i hi => absurd hi (by simp)⟩⟩
  | [r1], _, hr =>
    obtain ⟨v1, e1, q1⟩ := run_retOne h fn r1 (hr _ (by simp))
    exact ⟨v1, by simp [e1], q1⟩
  | [r1, r2], _, hr =>
    obtain ⟨v1, e1, q1⟩ := run_retOne h fn r1 (hr _ (by simp))
    obtain ⟨v2, e2, q2⟩ := run_retOne h fn r2 (hr _ (by simp))
    refine ⟨.tuple #[v1, v2], by simp [e1, e2], ⟨_, rfl, rfl, fun i hi => ?_⟩⟩
    match i, hi with
    | 0, _ => exact q1
    | 1, _ => exact q2
  | [r1, r2, r3], _, hr =>
    obtain ⟨v1, e1, q1⟩ := run_retOne h fn r1 (hr _ (by simp))
    obtain ⟨v2, e2, q2⟩ := run_retOne h fn r2 (hr _ (by simp))
    obtain ⟨v3, e3, q3⟩ := run_retOne h fn r3 (hr _ (by simp))
    refine ⟨.tuple #[v1, v2, v3], by simp [e1, e2, e3], ⟨_, rfl, rfl, fun i hi => ?_⟩⟩
    match i, hi with
    | 0, _ => exact q1
    | 1, _ => exact q2
    | 2, _ => exact q3
  | [r1, r2, r3, r4], _, hr =>
    obtain ⟨v1, e1, q1⟩ := run_retOne h fn r1 (hr _ (by simp))
    obtain ⟨v2, e2, q2⟩ := run_retOne h fn r2 (hr _ (by simp))
    obtain ⟨v3, e3, q3⟩ := run_retOne h fn r3 (hr _ (by simp))
    obtain ⟨v4, e4, q4⟩ := run_retOne h fn r4 (hr _ (by simp))
    refine ⟨.tuple #[v1, v2, v3, v4], by simp [e1, e2, e3, e4], ⟨_, rfl, rfl, fun i hi => ?_⟩⟩
    match i, hi with
    | 0, _ => exact q1
    | 1, _ => exact q2
    | 2, _ => exact q3
    | 3, _ => exact q4

/-- at the end: what is handed back, and what stays as it is -/
def labExit (R : Roots) (os : List Nat) : Relab := fun l g =>
  match R l with
  | some (g', b, d) => if g' = g then (match os.idxOf? l with | some j => .to (1000 + j) 0 | none => .per b d) else .gone
  | none => .gone

/-- how a call is to end -/
def pendI (P : Program) (rs : List ResultVar) (n0 : Nat) (Q : Nat → Nat → List D → D → Prop) : Exit → St → Prop
  | .normal, st => ∃ os : List Nat, os.Nodup ∧ (∀ l ∈ os, (st.R l).isSome = true) ∧ (∀ l ∈ os, (rl 9 (labExit st.R os) (cntR st.R l)).plain) ∧ (∀ r ∈ rs, retOk P st r) ∧
      ∀ n1, st.n ≤ n1 → Facts st n1 → Q n0 n1 (os.map fun l => rl 9 (labExit st.R os) (cntR st.R l)) (rl 9 (labExit st.R os) (retV st rs))
  | .ret, st => ∃ os : List Nat, os.Nodup ∧ (∀ l ∈ os, (st.R l).isSome = true) ∧ (∀ l ∈ os, (rl 9 (labExit st.R os) (cntR st.R l)).plain) ∧ (∀ r ∈ rs, retOk P st r) ∧
      ∀ n1, st.n ≤ n1 → Facts st n1 → Q n0 n1 (os.map fun l => rl 9 (labExit st.R os) (cntR st.R l)) (rl 9 (labExit st.R os) (retV st rs))
  | _, _ => False

/-- the state in which a call begins -/
def St.start (N n : Nat) (args : List D) (R : Roots) : St := { N := N, n := n, s := fun t => args.getD t .any, R := R }

theorem Keep.refl (w : World) (M : Nat → Prop) : Keep w M w := ⟨rfl, rfl, rfl, Nat.le_refl _, fun _ _ _ => rfl, fun _ C _ _ h => ⟨C, h, rfl⟩⟩

theorem icall_intro {f : FuncId} {fn : Func} {c : Code} {rs : List ResultVar} {args ins : List D} {Q : Nat → Nat → List D → D → Prop} (hf : P.funcs[f]? = some fn) (hb : fn.body = some c) (hnm : (fn.name == "runtime.NumGoroutine") = false)
    (hrs : fn.results = rs.toArray) (hlen : rs.length ≤ 4) (hN : args.length ≤ fn.ntmps)
    (h : ∀ w0 M n0 gb, (∀ b, n0 ≤ b → wr w0 M b) → IWp P w0 M c (pendI P rs n0 Q) (St.start fn.ntmps n0 args (InsR gb ins))) : ICall P f args ins Q := by
  refine ⟨⟨fn, hf, by rw [hb]; rfl, hnm⟩, fun w p gb vs hsz hp hins hinj hvs => ?_⟩
  refine calls_of_wp hf hb ?_
  have hgood : Good w ⟨fun b => ∃ i, i < ins.length ∧ b = gb i, p⟩ (St.start fn.ntmps w.heap.size args (InsR gb ins)) ⟨InsR gb ins, 1, p, w⟩ { tmps := vs ++ Array.replicate (fn.ntmps - vs.size) undef, defers := [] } := by
    refine ⟨rfl, by simp [St.start]; omega, rfl, fun t => ?_, fun l g b d hl => ?_, fun l g b d hl => ?_, fun l l' g g' b d d' hl hl' => ?_, hp, Keep.refl _ _, Nat.le_refl _, fun b hb => .inr (.inl hb)⟩
    · show VRep _ (args.getD t .any) _
      rcases Nat.lt_or_ge t args.length with ht | ht
      · have h1 : args.getD t .any = args[t] := by simp [List.getD_eq_getElem?_getD, ht]
        have h2 : (vs ++ Array.replicate (fn.ntmps - vs.size) undef).getD t undef = vs.getD t undef := by
          simp [Array.getElem?_append_left, hsz, ht]
        rw [h1]
        simp only at h2 ⊢
        rw [h2]
        exact hvs t _ (List.getElem?_eq_getElem ht)
      · have h1 : args.getD t .any = .any := by simp [List.getD_eq_getElem?_getD, List.getElem?_eq_none ht]
        rw [h1]; trivial
    · obtain ⟨i, rfl, h2, h3, rfl, rfl⟩ := InsR_some hl
      exact ⟨Nat.one_pos, hins i d h3⟩
    · obtain ⟨i, rfl, h2, h3, rfl, rfl⟩ := InsR_some hl
      exact .inr ⟨i, h2, rfl⟩
    · obtain ⟨i, rfl, h2, h3, rfl, rfl⟩ := InsR_some hl
      obtain ⟨i', rfl, h2', h3', _, h4⟩ := InsR_some hl'
      rw [hinj i i' h2 h2' h4]
  refine wp_mono (h w _ w.heap.size gb (fun b hb => .inl hb) _ _ ⟨_, rfl, hgood⟩) ?_
  rintro x a' w' ⟨st, hq, e, rfl, hg⟩
  have fin : (∃ os : List Nat, os.Nodup ∧ (∀ l ∈ os, (st.R l).isSome = true) ∧ (∀ l ∈ os, (rl 9 (labExit st.R os) (cntR st.R l)).plain) ∧ (∀ r ∈ rs, retOk P st r) ∧
      ∀ n1, st.n ≤ n1 → Facts st n1 → Q w.heap.size n1 (os.map fun l => rl 9 (labExit st.R os) (cntR st.R l)) (rl 9 (labExit st.R os) (retV st rs))) →
      a'.defers = [] ∧ ∃ v, (results fn a'.tmps).run P e.w = .ok v e.w ∧ ∃ v_1 r outs gb' p', Ending.returned v = Ending.returned v_1 ∧ Q w.heap.size e.w.heap.size outs r ∧
      Keep w (fun b => ∃ i, i < ins.length ∧ b = gb i) e.w ∧ (∀ b, p b → p' b) ∧
      (∀ b, p' b → b < e.w.heap.size ∧ (p b ∨ w.heap.size ≤ b ∨ ∃ i, i < ins.length ∧ b = gb i)) ∧
      (∀ i d, outs[i]? = some d → RootOk ⟨InsR gb' outs, 1, p', e.w⟩ (gb' i) d ∧ (w.heap.size ≤ gb' i ∨ ∃ j, j < ins.length ∧ gb' i = gb j)) ∧
      (∀ i j, i < outs.length → j < outs.length → gb' i = gb' j → i = j) ∧
      VRep ⟨InsR gb' outs, 1, p', e.w⟩ r v_1 := by
    rintro ⟨os, hnd, hos, hpl, h1, h3⟩
    obtain ⟨v, hrun, hv⟩ := run_results hg fn hrs hlen h1
    have hblk : ∀ i l, os[i]? = some l → ∃ g b d, st.R l = some (g, b, d) := fun i l hl => by
      have := hos l (List.mem_of_getElem? hl)
      rw [Option.isSome_iff_exists] at this
      obtain ⟨⟨g, b, d⟩, hx⟩ := this
      exact ⟨g, b, d, hx⟩
    let gb' : Nat → Nat := fun i => match (os[i]?).bind st.R with | some (_, b, _) => b | none => 0
    have hgb : ∀ i l, os[i]? = some l → ∀ g b d, st.R l = some (g, b, d) → gb' i = b := fun i l hl g b d hR => by simp [gb', hl, hR]
    let p' : Nat → Prop := fun b => p b ∨ e.P b ∨ ∃ l g d, l ∉ os ∧ st.R l = some (g, b, d)
    let outs : List D := os.map fun l => rl 9 (labExit st.R os) (cntR st.R l)
    have hlt : ∀ l g b d, st.R l = some (g, b, d) → b < e.w.heap.size := fun l g b d hl => by
      obtain ⟨C, T, cs, r1, _⟩ := (hg.envroot hl).row
      exact lt_of_block r1
    have ok : RelabOk e ⟨InsR gb' outs, 1, p', e.w⟩ (labExit st.R os) := by
      refine ⟨rfl, fun b hb => .inr (.inl hb), fun l g l' g' hF hgg => ?_, fun l g b d hF => ?_⟩
      · unfold labExit at hF
        split at hF
        · rename_i g1 b1 d1 hR
          split at hF
          · rename_i hgg'
            subst hgg'
            split at hF
            · rename_i i hi
              simp only [Lab.to.injEq] at hF
              obtain ⟨rfl, rfl⟩ := hF
              refine ⟨Nat.one_pos, fun b d hb => ?_⟩
              obtain ⟨i', h1, h2, h3, _, rfl⟩ := InsR_some hb
              obtain rfl : i' = i := by omega
              rw [hgb _ _ (idxOf?_spec hi) _ _ _ hR, hg.R, hR]
              exact ⟨_, rfl⟩
            · cases hF
          · cases hF
        · cases hF
      · unfold labExit at hF
        split at hF
        · rename_i g1 b1 d1 hR
          split at hF
          · rename_i hgg'
            subst hgg'
            split at hF
            · cases hF
            · rename_i hi
              simp only [Lab.per.injEq] at hF
              obtain ⟨rfl, rfl⟩ := hF
              exact ⟨by rw [hg.R]; exact hR, hg.envroot hR, .inr (.inr ⟨l, _, _, by simpa [List.idxOf?_eq_none_iff] using hi, hR⟩)⟩
          · cases hF
        · cases hF
    refine ⟨hg.df, v, hrun, v, _, outs, gb', p', rfl, h3 _ hg.n hg.facts, hg.keep, fun b hb => .inl hb, ?_, ?_, ?_, VRep_rl ok 9 _ _ hv⟩
    · rintro b (hb | hb | ⟨l, g, d, hl, hR⟩)
      · exact ⟨Nat.lt_of_lt_of_le (hp b hb) hg.keep.size, .inl hb⟩
      · exact ⟨hg.P b hb, (hg.per b hb).elim (fun h => .inr (.inl h)) fun h => h.elim .inl fun h => .inr (.inr h)⟩
      · exact ⟨hlt _ _ _ _ hR, .inr (hg.own _ _ _ _ hR)⟩
    · intro i d hi
      rw [List.getElem?_map, Option.map_eq_some_iff] at hi
      obtain ⟨l, hl, rfl⟩ := hi
      obtain ⟨g, b, d, hR⟩ := hblk i l hl
      have hro := hg.envroot hR
      rw [hgb i l hl g b d hR]
      refine ⟨⟨?_, hpl l (List.mem_of_getElem? hl), ?_⟩, hg.own _ _ _ _ hR⟩
      · rintro (hb | hb | ⟨l', g', d', hl', hR'⟩)
        · rcases hg.own _ _ _ _ hR with h' | ⟨j, hj, rfl⟩
          · have := hp b hb; omega
          · exact (hins j _ (List.getElem?_eq_getElem hj)).np hb
        · exact hro.np hb
        · have := hg.inj _ _ _ _ _ _ _ hR hR'
          subst this
          exact hl' (List.mem_of_getElem? hl)
      · have hcd : cntR st.R l = d := by simp [cntR, hR]
        obtain ⟨C, T, cs, r1, r2, r3⟩ := hro.row
        rw [hcd]
        exact ⟨C, T, cs, r1, Rep_rl ok 9 _ _ r2, r3⟩
    · intro i j hi hj hij
      have hi' : i < os.length := by simpa [outs] using hi
      have hj' : j < os.length := by simpa [outs] using hj
      obtain ⟨g, b, d, hR⟩ := hblk i os[i] (by simp [hi'])
      obtain ⟨g', b', d', hR'⟩ := hblk j os[j] (by simp [hj'])
      rw [hgb i os[i] (by simp [hi']) g b d hR, hgb j os[j] (by simp [hj']) g' b' d' hR'] at hij
      subst hij
      exact nodup_inj hnd hi' hj' (hg.inj _ _ _ _ _ _ _ hR hR')
  cases x with
  | normal => exact fin hq
  | ret => exact fin hq
  | _ => exact hq.elim

/-- how a call that hands back plain data is to end -/
def pend (P : Program) (rs : List ResultVar) (n0 : Nat) (Q : Nat → Nat → D → Prop) : Exit → St → Prop
  | .normal, st => (∀ r ∈ rs, retOk P st r) ∧ ∀ n1, st.n ≤ n1 → Facts st n1 → Q n0 n1 (rl 9 (labView st.R) (retV st rs))
  | .ret, st => (∀ r ∈ rs, retOk P st r) ∧ ∀ n1, st.n ≤ n1 → Facts st n1 → Q n0 n1 (rl 9 (labView st.R) (retV st rs))
  | _, _ => False

theorem labExit_nil (R : Roots) : labExit R [] = labView R := by
  funext l g; simp only [labExit, labView]; cases R l <;> simp

theorem pcall_intro {f : FuncId} {fn : Func} {c : Code} {rs : List ResultVar} {args : List D} {Q : Nat → Nat → D → Prop} (hf : P.funcs[f]? = some fn) (hb : fn.body = some c) (hnm : (fn.name == "runtime.NumGoroutine") = false)
    (hrs : fn.results = rs.toArray) (hlen : rs.length ≤ 4) (hN : args.length ≤ fn.ntmps)
    (h : ∀ w0 M n0, (∀ b, n0 ≤ b → wr w0 M b) → IWp P w0 M c (pend P rs n0 Q) (St.start fn.ntmps n0 args fun _ => none)) : PCall P f args Q := by
  refine icall_intro hf hb hnm hrs hlen hN fun w0 M n0 gb hW => ?_
  have hnil : InsR gb [] = fun _ => none := by funext l; simp [InsR]
  rw [hnil]
  refine iwp_mono (h w0 M n0 hW) fun x st hq => ?_
  have fin : ((∀ r ∈ rs, retOk P st r) ∧ ∀ n1, st.n ≤ n1 → Facts st n1 → Q n0 n1 (rl 9 (labView st.R) (retV st rs))) → _ := fun ⟨h1, h2⟩ =>
    (⟨[], List.nodup_nil, by simp, by simp, h1, fun n1 hn hf => ⟨rfl, by rw [labExit_nil]; exact h2 n1 hn hf⟩⟩ :
      ∃ os : List Nat, os.Nodup ∧ (∀ l ∈ os, (st.R l).isSome = true) ∧ (∀ l ∈ os, (rl 9 (labExit st.R os) (cntR st.R l)).plain) ∧ (∀ r ∈ rs, retOk P st r) ∧
        ∀ n1, st.n ≤ n1 → Facts st n1 → ((os.map fun l => rl 9 (labExit st.R os) (cntR st.R l)) = [] ∧ Q n0 n1 (rl 9 (labExit st.R os) (retV st rs))))
  cases x with
  | normal => exact fin hq
  | ret => exact fin hq
  | _ => exact hq.elim

end
end Go.Proofs.Ytjaddgkhlmallaa.IM
