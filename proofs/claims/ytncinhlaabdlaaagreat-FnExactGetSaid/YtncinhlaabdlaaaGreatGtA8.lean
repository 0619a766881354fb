/- Several of my texts in one module (merge.py, shake.py). -/
import Derived.Test.YtncinhlaabdlaaaGreatGtA3
import Derived.Deep.Slices
import Derived.OpenShut
import Derived.SizedLaws
import Derived.Below
import Derived.Test.YtncinhlaabdlaaaGreatProg
import Derived.KernelRfl
section
namespace Go.Proofs.YtncinhlaabdlaaaGreat.IM
open Go Go.RowKit
set_option linter.unusedVariables false
def oenv (w : World) : Env := ⟨fun _ => none, 1, (· < w.heap.size), w⟩
def Opens {H : Type} (enc : TypeId × Value → H) (P : Program) {α : Type} (T : TypeId) (R : D → α → Prop) : Prop :=
  ∀ (w : World) (fuel : Nat) (cs : List Value) (x : DataW H × List MemPlace), DataW.trod enc P w 0 (fun _ => true) true fuel T cs = some x → (∀ n ∈ x.1.weights P T, n ≤ reachBytes) →
    ∃ d a, Rep (oenv w) d cs ∧ R d a
theorem flat_getO {n sz : Nat} {ps : Nat → List Value} (h : ∀ i, i < n → (ps i).length = sz) : ∀ {j : Nat} {v : Value}, (flat n ps)[j]? = some v → ∃ i k, i < n ∧ k < sz ∧ j = i * sz + k ∧ (ps i)[k]? = some v := by
  induction n with
  | zero => intro j v hj; simp at hj
  | succ n ih =>
    intro j v hj
    rw [flat_succ] at hj
    have hl : (flat n ps).length = n * sz := by
      have := flat_length (.arr n sz) ps n (Nat.le_refl _) (fun i hi => h i (by omega))
      simpa [Kd.off] using this
    by_cases hlt : j < n * sz
    · rw [List.getElem?_append_left (by omega)] at hj
      obtain ⟨i, k, h1, h2, h3, h4⟩ := ih (fun i hi => h i (by omega)) hj
      exact ⟨i, k, by omega, h2, h3, h4⟩
    · rw [List.getElem?_append_right (by omega), hl] at hj
      have hk := (List.getElem?_eq_some_iff.1 hj).1
      rw [h n (by omega)] at hk
      exact ⟨n, j - n * sz, by omega, hk, by omega, hj⟩
theorem off_leO (k : Kd) (i : Nat) (h : i < k.cnt) : k.off i + k.sz i ≤ k.all := by
  rw [← Kd.off_succ k i h]
  cases k with
  | agg lay =>
    simp only [Kd.off, Kd.all]
    have := List.take_append_drop (i + 1) lay
    have h2 : ((lay.take (i + 1)) ++ lay.drop (i + 1)).sum = lay.sum := by rw [this]
    rw [List.sum_append] at h2
    omega
  | arr n sz => exact Nat.mul_le_mul_right _ h
theorem flat_drop (k : Kd) (cs : List Value) : ∀ n, n ≤ k.cnt → flat n (fun i => (cs.drop (k.off i)).take (k.sz i)) = cs.take (k.off n) := by
  intro n
  induction n with
  | zero => intro _; simp
  | succ n ih =>
    intro h
    rw [flat_succ, ih (by omega), Kd.off_succ k n (by omega), List.take_add]
theorem rep_node {e : Env} {k : Kd} {f : Nat → D} {cs : List Value} (hl : cs.length = k.all) (h : ∀ i, i < k.cnt → Rep e (f i) ((cs.drop (k.off i)).take (k.sz i))) : Rep e (.node k f) cs := by
  refine ⟨fun i => (cs.drop (k.off i)).take (k.sz i), fun i hi => ⟨?_, h i hi⟩, ?_⟩
  · rw [List.length_take, List.length_drop]
    have := off_leO k i hi
    omega
  · rw [flat_drop k cs k.cnt (Nat.le_refl _), Kd.off_cnt, List.take_of_length_le (by omega)]
theorem weights_mem_all {H : Type} {P : Program} {e : TypeId} : ∀ {ds : List (DataW H)} {j : Nat} {d : DataW H}, ds[j]? = some d → ∀ n ∈ d.weights P e, n ∈ DataW.weightsAll P e ds
  | d0 :: ds, 0, d, hd, n, hn => by
    simp only [List.getElem?_cons_zero, Option.some.injEq] at hd
    subst hd
    simp only [DataW.weightsAll, List.mem_append]
    exact Or.inl hn
  | d0 :: ds, j + 1, d, hd, n, hn => by
    simp only [List.getElem?_cons_succ] at hd
    simp only [DataW.weightsAll, List.mem_append]
    exact Or.inr (weights_mem_all hd n hn)
  | [], _, _, hd, _, _ => by simp at hd
def structIs (P : Program) (T : TypeId) (l : List (TypeId × Nat × Nat)) (n : Nat) : Bool := match P.underlying T with
  | some (.struct fs) => ((fs.toList.map fun f => (f.type, f.offset, P.cellsOf f.type)) == l) && (P.cellsOf T == n)
  | _ => false
def arrIs (P : Program) (T e n sz : Nat) : Bool := match P.underlying T with
  | some (.array n' e') => n' == n && e' == e && (P.cellsOf e == sz) && (P.cellsOf T == n * sz)
  | _ => false
def sliceIs (P : Program) (T e sz : Nat) : Bool := match P.underlying T with
  | some (.slice e') => e' == e && (P.cellsOf e == sz) && decide (0 < sz) && decide (0 < P.bytesOf e)
  | _ => false
def intIs (P : Program) (T : Nat) (k : IntKind) : Bool := match P.underlying T with
  | some (.int k') => k' == k
  | _ => false
section
variable {H : Type} {enc : TypeId × Value → H} {P : Program}
theorem opens_int {T : TypeId} (h : intIs P T .i64 = true) : Opens enc P T IsInt := by
  intro w fuel cs x hx hw
  unfold intIs at h
  split at h
  · rename_i k hk
    obtain rfl : k = .i64 := by simpa using h
    obtain ⟨n, rfl, rfl, _⟩ := DataW.trod_int hk hx
    exact ⟨.lit (.int .i64 n), n, show Rep (oenv w) (.lit (.int .i64 n)) _ from ⟨trivial, rfl⟩, rfl⟩
  · cases h
theorem opens_bool {T : TypeId} (h : isBoolT P T = true) : Opens enc P T IsBool := by
  intro w fuel cs x hx hw
  obtain ⟨n, rfl, rfl⟩ := DataW.trod_bool (isBoolT_spec h) hx
  exact ⟨.lit (.bool n), n, show Rep (oenv w) (.lit (.bool n)) _ from ⟨trivial, rfl⟩, rfl⟩
theorem open_fields {T : TypeId} {l : List (TypeId × Nat × Nat)} {n : Nat} (hS : structIs P T l n = true) {w : World} {fuel : Nat} {cs : List Value} {x : DataW H × List MemPlace}
    (hx : DataW.trod enc P w 0 (fun _ => true) true fuel T cs = some x) (hw : ∀ n ∈ x.1.weights P T, n ≤ reachBytes) :
    cs.length = n ∧ ∀ (i t o s : Nat), l[i]? = some (t, o, s) → ∃ m y, DataW.trod enc P w 0 (fun _ => true) true m t ((cs.drop o).take s) = some y ∧ ∀ n ∈ y.1.weights P t, n ≤ reachBytes := by
  unfold structIs at hS
  split at hS
  · rename_i fs hfs
    simp only [Bool.and_eq_true, beq_iff_eq] at hS
    obtain ⟨h1, h2⟩ := hS
    obtain ⟨xs, m, _, rfl, hlen, hxl, hf⟩ := DataW.trod_struct hfs hx
    refine ⟨hlen.trans h2, fun i t o s hi => ?_⟩
    rw [← h1, List.getElem?_map] at hi
    obtain ⟨f, hfi, he⟩ := Option.map_eq_some_iff.1 hi
    simp only [Prod.mk.injEq] at he
    obtain ⟨rfl, rfl, rfl⟩ := he
    have hfi' : fs[i]? = some f := by simpa using hfi
    have hg := hf i f hfi'
    have hilt : i < xs.length := by rw [hxl]; exact (Array.getElem?_eq_some_iff.1 hfi').1
    rw [List.getElem?_eq_getElem hilt] at hg
    refine ⟨m, _, hg, fun k hk => hw k ?_⟩
    simp only [DataW.weights, hfs]
    refine DataW.weights_mem_each (j := i) (t := f.type) (d := xs[i].1) ?_ ?_ k hk
    · rw [List.getElem?_map, hfi]; rfl
    · rw [List.getElem?_map, List.getElem?_eq_getElem hilt]; rfl
  · cases hS
theorem opens_arr {α : Type} {R : D → α → Prop} {T e n sz : Nat} (hA : arrIs P T e n sz = true) (he : Opens enc P e R) (hst : ∀ d a, R d a → d.still) : Opens enc P T (IsA n sz R) := by
  intro w fuel cs x hx hw
  unfold arrIs at hA
  split at hA
  · rename_i n' e' hu
    simp only [Bool.and_eq_true, beq_iff_eq] at hA
    obtain ⟨⟨⟨rfl, rfl⟩, rfl⟩, hcell⟩ := hA
    obtain ⟨xs, m', _, rfl, hlen, hxl, hf⟩ := DataW.trod_array hu hx
    have hall : ∀ i, i < n' → ∃ z : D × α, Rep (oenv w) z.1 ((cs.drop (i * P.cellsOf e')).take (P.cellsOf e')) ∧ R z.1 z.2 := fun i hi => by
      have hg := hf i hi
      rw [List.getElem?_eq_getElem (by omega)] at hg
      obtain ⟨d, a, h1, h2⟩ := he w _ _ _ hg fun k hk => hw k (by
        simp only [DataW.weights, hu]
        exact weights_mem_all (j := i) (d := xs[i].1) (by rw [List.getElem?_map, List.getElem?_eq_getElem (by omega)]; rfl) k hk)
      exact ⟨(d, a), h1, h2⟩
    refine ⟨.node (.arr n' (P.cellsOf e')) fun i => if h : i < n' then (hall i h).choose.1 else .any, (List.range n').pmap (fun i h => (hall i h).choose.2) (fun i hi => List.mem_range.1 hi), ?_, by simp, _, rfl, fun i => ?_, fun i hi => ?_⟩
    · refine rep_node (by rw [hlen, hcell]; rfl) fun i hi => ?_
      have hi' : i < n' := hi
      simp only [hi', dif_pos]
      exact (hall i hi').choose_spec.1
    · split
      · rename_i h; exact hst _ _ (hall i h).choose_spec.2
      · trivial
    · simp only [List.length_pmap, List.length_range] at hi
      simp only [hi, dif_pos, List.getElem_pmap, List.getElem_range]
      exact (hall i hi).choose_spec.2
  · cases hA
theorem opens_sl {α : Type} {R : D → α → Prop} {T e sz : Nat} (hA : sliceIs P T e sz = true) (he : Opens enc P e R) (hst : ∀ d a, R d a → d.still) : Opens enc P T (IsL sz R) := by
  intro w fuel cs x hx hw
  unfold sliceIs at hA
  split at hA
  · rename_i e' hu
    simp only [Bool.and_eq_true, beq_iff_eq, decide_eq_true_eq] at hA
    obtain ⟨⟨⟨rfl, rfl⟩, hpos⟩, hby⟩ := hA
    rcases Deep.open_slice hu hx with ⟨rfl, rfl⟩ | ⟨a, len, cap, m, n, D0, Pl, rfl, hb, hl, hm, hmm, rfl, hx'⟩
    · exact ⟨.nil, [], ⟨none, rfl⟩, .inl ⟨rfl, rfl⟩⟩
    · simp only [if_true] at hmm
      subst hmm
      rcases Nat.eq_zero_or_pos m with rfl | hcap
      · obtain rfl : len = 0 := by omega
        exact ⟨.nil, [], ⟨some a, rfl⟩, .inl ⟨rfl, rfl⟩⟩
      have hlen : len < 140737488355328 := by
        have h1 := hw ((len + (m - len)) * P.bytesOf e') (by simp [DataW.weights, hu])
        have h2 : len * 1 ≤ (len + (m - len)) * P.bytesOf e' := Nat.mul_le_mul (by omega) hby
        unfold reachBytes at h1
        omega
      have hcells : ∀ i, i < m → ∃ cs', cs'.length = P.cellsOf e' ∧ (∀ k v, cs'[k]? = some v → w.cell? ((a.add (i * P.cellsOf e')).add k) = some v) ∧ DataW.trod enc P w 0 (fun _ => true) true n e' cs' = some (D0 i, Pl i) := fun i hi => by
        obtain ⟨cs', h1, h2⟩ := hx' i hi
        obtain ⟨_, h3, h4⟩ := World.cells?_some h1
        refine ⟨cs', h3, fun k v hk => ?_, h2⟩
        have hlt := (List.getElem?_eq_some_iff.1 hk).1
        rw [h4 k (by omega)]; exact hk
      have hall : ∀ i, i < len → ∃ z : List Value × D × α, z.1.length = P.cellsOf e' ∧ (∀ k v, z.1[k]? = some v → w.cell? ((a.add (i * P.cellsOf e')).add k) = some v) ∧ Rep (oenv w) z.2.1 z.1 ∧ R z.2.1 z.2.2 := fun i hi => by
        obtain ⟨cs', h1, h2, h3⟩ := hcells i (by omega)
        obtain ⟨d, a', h4, h5⟩ := he w _ _ _ h3 fun k hk => hw k (by
          simp only [DataW.weights, hu, List.mem_cons, List.mem_append]
          exact .inr (.inl (weights_mem_all (j := i) (d := D0 i) (by simp [hi]) k hk)))
        exact ⟨(cs', d, a'), h1, h2, h4, h5⟩
      obtain ⟨cs0, h01, h02, _⟩ := hcells 0 hcap
      obtain ⟨b, o, spot⟩ := a
      have hc0 := h02 0 cs0[0] (List.getElem?_eq_getElem (by omega))
      have hspot : spot = none := by simpa [Addr.add] using World.cell?_spot hc0
      subst hspot
      have hblk : ∃ C T' z, w.heap[b]? = some (.cells C T' z) := by
        unfold World.cell? at hc0
        split at hc0
        · rename_i c t' fr hh
          refine ⟨c, t', fr, ?_⟩
          simpa [Addr.add] using hh
        · cases hc0
      obtain ⟨C, T', z, hC⟩ := hblk
      have hbl : b < w.heap.size := (Array.getElem?_eq_some_iff.1 hC).1
      refine ⟨.sl b false len (P.cellsOf e') fun i => if h : i < len then (hall i h).choose.2.1 else .any, (List.range len).pmap (fun i h => (hall i h).choose.2.2) (fun i hi => List.mem_range.1 hi), ?_, .inr ⟨b, false, _, by simp; rfl, fun i => ?_, by simpa using hlen, fun i hi => ?_⟩⟩
      · refine ⟨o, m, fun i => if h : i < len then (hall i h).choose.1 else [], rfl, hl, hbl, fun i hi => ?_, ⟨C, T', z, hC, fun j v hj => ?_⟩, fun h => by cases h⟩
        · simp only [hi, dif_pos]
          exact ⟨(hall i hi).choose_spec.1, (hall i hi).choose_spec.2.2.1⟩
        · obtain ⟨i, k, hi, hk, rfl, hv⟩ := flat_getO (sz := P.cellsOf e') (fun i hi => by simp only [hi, dif_pos]; exact (hall i hi).choose_spec.1) hj
          simp only [hi, dif_pos] at hv
          have := (hall i hi).choose_spec.2.1 k v hv
          rw [Deep.add_add] at this
          have hadd : (⟨b, o, none⟩ : Addr).add (i * P.cellsOf e' + k) = ⟨b, o + (i * P.cellsOf e' + k), none⟩ := by
            unfold Addr.add; split <;> simp_all
          rw [hadd] at this
          unfold World.cell? at this
          have hC' : (oenv w).w.heap[b]? = some (.cells C T' z) := hC
          simpa [hC] using this
      · split
        · rename_i h; exact hst _ _ (hall i h).choose_spec.2.2.2
        · trivial
      · simp only [List.length_pmap, List.length_range] at hi
        simp only [hi, dif_pos, List.getElem_pmap, List.getElem_range]
        exact (hall i hi).choose_spec.2.2.2
  · cases hA
theorem vrep_of_rep {e : Env} {d : D} {v : Value} (h : Rep e d v.cells.toList) (hd : (d.isNode = some true ∧ ∃ cs, v = .agg cs) ∨ (d.isNode = some false ∧ v.cells = #[v])) : VRep e d v := by
  rcases hd with ⟨h1, cs, rfl⟩ | ⟨h1, h2⟩
  · cases d with
    | node k f => exact ⟨cs, rfl, h⟩
    | _ => simp [D.isNode] at h1
  · rw [h2] at h
    cases d with
    | node k f => simp [D.isNode] at h1
    | tup n f => simp [D.isNode] at h1
    | any => trivial
    | _ => exact h
theorem okWide_agg {w : World} {base : Nat} {T : TypeId} {v : Value} {l : List (TypeId × Nat × Nat)} {n : Nat} (hS : structIs P T l n = true) (h : Value.okWide P w .any base T v) : ∃ cs, v = .agg cs := by
  unfold structIs at hS
  split at hS
  · rename_i fs hfs
    simp only [Value.okWide, hfs] at h
    obtain ⟨cs, h1, _⟩ := h
    exact ⟨cs, h1⟩
  · cases hS
theorem law_calls {f : FuncId} {args : List D} {vs : Array Value} {w : World} (h : PCall P f args fun _ _ r => r = .lit (.bool true)) (hn : vs.size = args.length)
    (ha : ∀ i d, args[i]? = some d → VRep (oenv w) d (vs.getD i undef)) : Calls P f vs w fun e w' => e = .returned (.bool true) ∧ Below w.heap.size w w' := by
  have hins : InsR (fun _ => 0) [] = fun _ => none := by funext l; simp [InsR]
  refine (h.2 w (· < w.heap.size) (fun _ => 0) vs hn (fun b hb => hb) (fun i d hi => by simp at hi) (fun i j hi => by simp at hi) (fun i d hi => by rw [hins]; exact ha i d hi)).mono ?_
  rintro en w' ⟨v, r, outs, gb', p', rfl, ⟨rfl, rfl⟩, hk, _, _, _, _, hv⟩
  obtain rfl : v = .bool true := (VRep_lit hv).1
  exact ⟨rfl, hk.os, hk.tape, hk.output, hk.size, fun k hk' => hk.block k hk' (by rintro ⟨i, hi, _⟩; simp at hi)⟩
end
end Go.Proofs.YtncinhlaabdlaaaGreat.IM
end
section
namespace Go.Proofs.YtncinhlaabdlaaaGreat.IM
open Go Go.Proofs
set_option linter.unusedVariables false
section
variable {H : Type} {enc : TypeId × Value → H}
theorem opens_22 : Opens enc Tryz.prog 22 (IsL 1 IsInt) := opens_sl (e := 3) (by kernel_rfl) (opens_int (by kernel_rfl)) (fun _ _ h => h.still)
theorem is_24 : structIs Tryz.prog 24 [(3, 0, 1), (22, 1, 1), (22, 2, 1)] 3 = true := by kernel_rfl
theorem opens_24 : Opens enc Tryz.prog 24 IsObj := by
  intro w fuel cs x hx hw
  obtain ⟨hl, hf⟩ := open_fields is_24 hx hw
  obtain ⟨m0, y0, hy0, hw0⟩ := hf 0 _ _ _ rfl
  obtain ⟨d0, a0, r0, s0⟩ := (opens_int (by kernel_rfl)) w m0 _ y0 hy0 hw0
  obtain ⟨m1, y1, hy1, hw1⟩ := hf 1 _ _ _ rfl
  obtain ⟨d1, a1, r1, s1⟩ := opens_22 w m1 _ y1 hy1 hw1
  obtain ⟨m2, y2, hy2, hw2⟩ := hf 2 _ _ _ rfl
  obtain ⟨d2, a2, r2, s2⟩ := opens_22 w m2 _ y2 hy2 hw2
  refine ⟨.node (.agg [1, 1, 1]) (nthD [d0, d1, d2]), ⟨a0, a1, a2⟩, rep_node (by rw [hl]; rfl) fun i hi => ?_, _, rfl, still_nthD (by simp only [List.mem_cons, List.not_mem_nil, or_false]; rintro d (rfl | rfl | rfl) <;> first | exact s0.still | exact s1.still | exact s2.still), s0, s1, s2⟩
  have hi : i < 3 := hi
  match i, hi with
  | 0, _ => exact r0
  | 1, _ => exact r1
  | 2, _ => exact r2
theorem is_26 : structIs Tryz.prog 26 [(4, 0, 1), (24, 1, 3)] 4 = true := by kernel_rfl
theorem opens_26 : Opens enc Tryz.prog 26 IsSlot := by
  intro w fuel cs x hx hw
  obtain ⟨hl, hf⟩ := open_fields is_26 hx hw
  obtain ⟨m0, y0, hy0, hw0⟩ := hf 0 _ _ _ rfl
  obtain ⟨d0, a0, r0, s0⟩ := (opens_bool (by kernel_rfl)) w m0 _ y0 hy0 hw0
  obtain ⟨m1, y1, hy1, hw1⟩ := hf 1 _ _ _ rfl
  obtain ⟨d1, a1, r1, s1⟩ := opens_24 w m1 _ y1 hy1 hw1
  refine ⟨.node (.agg [1, 3]) (nthD [d0, d1]), ⟨a0, a1⟩, rep_node (by rw [hl]; rfl) fun i hi => ?_, _, rfl, still_nthD (by simp only [List.mem_cons, List.not_mem_nil, or_false]; rintro d (rfl | rfl) <;> first | exact s0.still | exact s1.still), s0, s1⟩
  have hi : i < 2 := hi
  match i, hi with
  | 0, _ => exact r0
  | 1, _ => exact r1
theorem opens_27 : Opens enc Tryz.prog 27 (IsA 4 4 IsSlot) := opens_arr (e := 26) (by kernel_rfl) opens_26 (fun _ _ h => h.still)
theorem is_29 : structIs Tryz.prog 29 [(3, 0, 1), (27, 1, 16)] 17 = true := by kernel_rfl
theorem opens_29 : Opens enc Tryz.prog 29 IsPage := by
  intro w fuel cs x hx hw
  obtain ⟨hl, hf⟩ := open_fields is_29 hx hw
  obtain ⟨m0, y0, hy0, hw0⟩ := hf 0 _ _ _ rfl
  obtain ⟨d0, a0, r0, s0⟩ := (opens_int (by kernel_rfl)) w m0 _ y0 hy0 hw0
  obtain ⟨m1, y1, hy1, hw1⟩ := hf 1 _ _ _ rfl
  obtain ⟨d1, a1, r1, s1⟩ := opens_27 w m1 _ y1 hy1 hw1
  refine ⟨.node (.agg [1, 16]) (nthD [d0, d1]), ⟨a0, a1⟩, rep_node (by rw [hl]; rfl) fun i hi => ?_, _, rfl, still_nthD (by simp only [List.mem_cons, List.not_mem_nil, or_false]; rintro d (rfl | rfl) <;> first | exact s0.still | exact s1.still), s0, s1⟩
  have hi : i < 2 := hi
  match i, hi with
  | 0, _ => exact r0
  | 1, _ => exact r1
theorem is_206 : structIs Tryz.prog 206 [(3, 0, 1), (29, 1, 17), (4, 18, 1), (4, 19, 1)] 20 = true := by kernel_rfl
theorem opens_206 : Opens enc Tryz.prog 206 IsSeat := by
  intro w fuel cs x hx hw
  obtain ⟨hl, hf⟩ := open_fields is_206 hx hw
  obtain ⟨m0, y0, hy0, hw0⟩ := hf 0 _ _ _ rfl
  obtain ⟨d0, a0, r0, s0⟩ := (opens_int (by kernel_rfl)) w m0 _ y0 hy0 hw0
  obtain ⟨m1, y1, hy1, hw1⟩ := hf 1 _ _ _ rfl
  obtain ⟨d1, a1, r1, s1⟩ := opens_29 w m1 _ y1 hy1 hw1
  obtain ⟨m2, y2, hy2, hw2⟩ := hf 2 _ _ _ rfl
  obtain ⟨d2, a2, r2, s2⟩ := (opens_bool (by kernel_rfl)) w m2 _ y2 hy2 hw2
  obtain ⟨m3, y3, hy3, hw3⟩ := hf 3 _ _ _ rfl
  obtain ⟨d3, a3, r3, s3⟩ := (opens_bool (by kernel_rfl)) w m3 _ y3 hy3 hw3
  refine ⟨.node (.agg [1, 17, 1, 1]) (nthD [d0, d1, d2, d3]), ⟨a0, a1, a2, a3⟩, rep_node (by rw [hl]; rfl) fun i hi => ?_, _, rfl, still_nthD (by simp only [List.mem_cons, List.not_mem_nil, or_false]; rintro d (rfl | rfl | rfl | rfl) <;> first | exact s0.still | exact s1.still | exact s2.still | exact s3.still), s0, s1, s2, s3⟩
  have hi : i < 4 := hi
  match i, hi with
  | 0, _ => exact r0
  | 1, _ => exact r1
  | 2, _ => exact r2
  | 3, _ => exact r3
theorem opens_31 : Opens enc Tryz.prog 31 (IsL 20 IsSeat) := opens_sl (e := 206) (by kernel_rfl) opens_206 (fun _ _ h => h.still)
theorem is_33 : structIs Tryz.prog 33 [(31, 0, 1), (3, 1, 1)] 2 = true := by kernel_rfl
theorem opens_33 : Opens enc Tryz.prog 33 IsPool := by
  intro w fuel cs x hx hw
  obtain ⟨hl, hf⟩ := open_fields is_33 hx hw
  obtain ⟨m0, y0, hy0, hw0⟩ := hf 0 _ _ _ rfl
  obtain ⟨d0, a0, r0, s0⟩ := opens_31 w m0 _ y0 hy0 hw0
  obtain ⟨m1, y1, hy1, hw1⟩ := hf 1 _ _ _ rfl
  obtain ⟨d1, a1, r1, s1⟩ := (opens_int (by kernel_rfl)) w m1 _ y1 hy1 hw1
  refine ⟨.node (.agg [1, 1]) (nthD [d0, d1]), ⟨a0, a1⟩, rep_node (by rw [hl]; rfl) fun i hi => ?_, _, rfl, still_nthD (by simp only [List.mem_cons, List.not_mem_nil, or_false]; rintro d (rfl | rfl) <;> first | exact s0.still | exact s1.still), s0, s1⟩
  have hi : i < 2 := hi
  match i, hi with
  | 0, _ => exact r0
  | 1, _ => exact r1
theorem is_159 : structIs Tryz.prog 159 [(3, 0, 1), (3, 1, 1), (4, 2, 1)] 3 = true := by kernel_rfl
theorem opens_159 : Opens enc Tryz.prog 159 IsLive := by
  intro w fuel cs x hx hw
  obtain ⟨hl, hf⟩ := open_fields is_159 hx hw
  obtain ⟨m0, y0, hy0, hw0⟩ := hf 0 _ _ _ rfl
  obtain ⟨d0, a0, r0, s0⟩ := (opens_int (by kernel_rfl)) w m0 _ y0 hy0 hw0
  obtain ⟨m1, y1, hy1, hw1⟩ := hf 1 _ _ _ rfl
  obtain ⟨d1, a1, r1, s1⟩ := (opens_int (by kernel_rfl)) w m1 _ y1 hy1 hw1
  obtain ⟨m2, y2, hy2, hw2⟩ := hf 2 _ _ _ rfl
  obtain ⟨d2, a2, r2, s2⟩ := (opens_bool (by kernel_rfl)) w m2 _ y2 hy2 hw2
  refine ⟨.node (.agg [1, 1, 1]) (nthD [d0, d1, d2]), ⟨a0, a1, a2⟩, rep_node (by rw [hl]; rfl) fun i hi => ?_, _, rfl, still_nthD (by simp only [List.mem_cons, List.not_mem_nil, or_false]; rintro d (rfl | rfl | rfl) <;> first | exact s0.still | exact s1.still | exact s2.still), s0, s1, s2⟩
  have hi : i < 3 := hi
  match i, hi with
  | 0, _ => exact r0
  | 1, _ => exact r1
  | 2, _ => exact r2
theorem opens_37 : Opens enc Tryz.prog 37 (IsL 3 IsLive) := opens_sl (e := 159) (by kernel_rfl) opens_159 (fun _ _ h => h.still)
theorem is_209 : structIs Tryz.prog 209 [(3, 0, 1), (3, 1, 1), (3, 2, 1), (3, 3, 1), (3, 4, 1), (26, 5, 4), (26, 9, 4), (3, 13, 1), (37, 14, 1)] 15 = true := by kernel_rfl
theorem opens_209 : Opens enc Tryz.prog 209 IsRec := by
  intro w fuel cs x hx hw
  obtain ⟨hl, hf⟩ := open_fields is_209 hx hw
  obtain ⟨m0, y0, hy0, hw0⟩ := hf 0 _ _ _ rfl
  obtain ⟨d0, a0, r0, s0⟩ := (opens_int (by kernel_rfl)) w m0 _ y0 hy0 hw0
  obtain ⟨m1, y1, hy1, hw1⟩ := hf 1 _ _ _ rfl
  obtain ⟨d1, a1, r1, s1⟩ := (opens_int (by kernel_rfl)) w m1 _ y1 hy1 hw1
  obtain ⟨m2, y2, hy2, hw2⟩ := hf 2 _ _ _ rfl
  obtain ⟨d2, a2, r2, s2⟩ := (opens_int (by kernel_rfl)) w m2 _ y2 hy2 hw2
  obtain ⟨m3, y3, hy3, hw3⟩ := hf 3 _ _ _ rfl
  obtain ⟨d3, a3, r3, s3⟩ := (opens_int (by kernel_rfl)) w m3 _ y3 hy3 hw3
  obtain ⟨m4, y4, hy4, hw4⟩ := hf 4 _ _ _ rfl
  obtain ⟨d4, a4, r4, s4⟩ := (opens_int (by kernel_rfl)) w m4 _ y4 hy4 hw4
  obtain ⟨m5, y5, hy5, hw5⟩ := hf 5 _ _ _ rfl
  obtain ⟨d5, a5, r5, s5⟩ := opens_26 w m5 _ y5 hy5 hw5
  obtain ⟨m6, y6, hy6, hw6⟩ := hf 6 _ _ _ rfl
  obtain ⟨d6, a6, r6, s6⟩ := opens_26 w m6 _ y6 hy6 hw6
  obtain ⟨m7, y7, hy7, hw7⟩ := hf 7 _ _ _ rfl
  obtain ⟨d7, a7, r7, s7⟩ := (opens_int (by kernel_rfl)) w m7 _ y7 hy7 hw7
  obtain ⟨m8, y8, hy8, hw8⟩ := hf 8 _ _ _ rfl
  obtain ⟨d8, a8, r8, s8⟩ := opens_37 w m8 _ y8 hy8 hw8
  refine ⟨.node (.agg [1, 1, 1, 1, 1, 4, 4, 1, 1]) (nthD [d0, d1, d2, d3, d4, d5, d6, d7, d8]), ⟨a0, a1, a2, a3, a4, a5, a6, a7, a8⟩, rep_node (by rw [hl]; rfl) fun i hi => ?_, _, rfl, still_nthD (by simp only [List.mem_cons, List.not_mem_nil, or_false]; rintro d (rfl | rfl | rfl | rfl | rfl | rfl | rfl | rfl | rfl) <;> first | exact s0.still | exact s1.still | exact s2.still | exact s3.still | exact s4.still | exact s5.still | exact s6.still | exact s7.still | exact s8.still), s0, s1, s2, s3, s4, s5, s6, s7, s8⟩
  have hi : i < 9 := hi
  match i, hi with
  | 0, _ => exact r0
  | 1, _ => exact r1
  | 2, _ => exact r2
  | 3, _ => exact r3
  | 4, _ => exact r4
  | 5, _ => exact r5
  | 6, _ => exact r6
  | 7, _ => exact r7
  | 8, _ => exact r8
theorem opens_34 : Opens enc Tryz.prog 34 (IsL 15 IsRec) := opens_sl (e := 209) (by kernel_rfl) opens_209 (fun _ _ h => h.still)
theorem is_36 : structIs Tryz.prog 36 [(34, 0, 1), (3, 1, 1)] 2 = true := by kernel_rfl
theorem opens_36 : Opens enc Tryz.prog 36 IsLog := by
  intro w fuel cs x hx hw
  obtain ⟨hl, hf⟩ := open_fields is_36 hx hw
  obtain ⟨m0, y0, hy0, hw0⟩ := hf 0 _ _ _ rfl
  obtain ⟨d0, a0, r0, s0⟩ := opens_34 w m0 _ y0 hy0 hw0
  obtain ⟨m1, y1, hy1, hw1⟩ := hf 1 _ _ _ rfl
  obtain ⟨d1, a1, r1, s1⟩ := (opens_int (by kernel_rfl)) w m1 _ y1 hy1 hw1
  refine ⟨.node (.agg [1, 1]) (nthD [d0, d1]), ⟨a0, a1⟩, rep_node (by rw [hl]; rfl) fun i hi => ?_, _, rfl, still_nthD (by simp only [List.mem_cons, List.not_mem_nil, or_false]; rintro d (rfl | rfl) <;> first | exact s0.still | exact s1.still), s0, s1⟩
  have hi : i < 2 := hi
  match i, hi with
  | 0, _ => exact r0
  | 1, _ => exact r1
theorem opens_30 : Opens enc Tryz.prog 30 (IsA 8 17 IsPage) := opens_arr (e := 29) (by kernel_rfl) opens_29 (fun _ _ h => h.still)
theorem is_161 : structIs Tryz.prog 161 [(3, 0, 1), (3, 1, 1)] 2 = true := by kernel_rfl
theorem opens_161 : Opens enc Tryz.prog 161 IsHold := by
  intro w fuel cs x hx hw
  obtain ⟨hl, hf⟩ := open_fields is_161 hx hw
  obtain ⟨m0, y0, hy0, hw0⟩ := hf 0 _ _ _ rfl
  obtain ⟨d0, a0, r0, s0⟩ := (opens_int (by kernel_rfl)) w m0 _ y0 hy0 hw0
  obtain ⟨m1, y1, hy1, hw1⟩ := hf 1 _ _ _ rfl
  obtain ⟨d1, a1, r1, s1⟩ := (opens_int (by kernel_rfl)) w m1 _ y1 hy1 hw1
  refine ⟨.node (.agg [1, 1]) (nthD [d0, d1]), ⟨a0, a1⟩, rep_node (by rw [hl]; rfl) fun i hi => ?_, _, rfl, still_nthD (by simp only [List.mem_cons, List.not_mem_nil, or_false]; rintro d (rfl | rfl) <;> first | exact s0.still | exact s1.still), s0, s1⟩
  have hi : i < 2 := hi
  match i, hi with
  | 0, _ => exact r0
  | 1, _ => exact r1
theorem opens_38 : Opens enc Tryz.prog 38 (IsL 2 IsHold) := opens_sl (e := 161) (by kernel_rfl) opens_161 (fun _ _ h => h.still)
theorem is_40 : structIs Tryz.prog 40 [(30, 0, 136), (33, 136, 2), (36, 138, 2), (37, 140, 1), (38, 141, 1), (3, 142, 1), (4, 143, 1)] 144 = true := by kernel_rfl
theorem opens_40 : Opens enc Tryz.prog 40 IsEngine := by
  intro w fuel cs x hx hw
  obtain ⟨hl, hf⟩ := open_fields is_40 hx hw
  obtain ⟨m0, y0, hy0, hw0⟩ := hf 0 _ _ _ rfl
  obtain ⟨d0, a0, r0, s0⟩ := opens_30 w m0 _ y0 hy0 hw0
  obtain ⟨m1, y1, hy1, hw1⟩ := hf 1 _ _ _ rfl
  obtain ⟨d1, a1, r1, s1⟩ := opens_33 w m1 _ y1 hy1 hw1
  obtain ⟨m2, y2, hy2, hw2⟩ := hf 2 _ _ _ rfl
  obtain ⟨d2, a2, r2, s2⟩ := opens_36 w m2 _ y2 hy2 hw2
  obtain ⟨m3, y3, hy3, hw3⟩ := hf 3 _ _ _ rfl
  obtain ⟨d3, a3, r3, s3⟩ := opens_37 w m3 _ y3 hy3 hw3
  obtain ⟨m4, y4, hy4, hw4⟩ := hf 4 _ _ _ rfl
  obtain ⟨d4, a4, r4, s4⟩ := opens_38 w m4 _ y4 hy4 hw4
  obtain ⟨m5, y5, hy5, hw5⟩ := hf 5 _ _ _ rfl
  obtain ⟨d5, a5, r5, s5⟩ := (opens_int (by kernel_rfl)) w m5 _ y5 hy5 hw5
  obtain ⟨m6, y6, hy6, hw6⟩ := hf 6 _ _ _ rfl
  obtain ⟨d6, a6, r6, s6⟩ := (opens_bool (by kernel_rfl)) w m6 _ y6 hy6 hw6
  refine ⟨.node (.agg [136, 2, 2, 1, 1, 1, 1]) (nthD [d0, d1, d2, d3, d4, d5, d6]), ⟨a0, a1, a2, a3, a4, a5, a6⟩, rep_node (by rw [hl]; rfl) fun i hi => ?_, _, rfl, still_nthD (by simp only [List.mem_cons, List.not_mem_nil, or_false]; rintro d (rfl | rfl | rfl | rfl | rfl | rfl | rfl) <;> first | exact s0.still | exact s1.still | exact s2.still | exact s3.still | exact s4.still | exact s5.still | exact s6.still), s0, s1, s2, s3, s4, s5, s6⟩
  have hi : i < 7 := hi
  match i, hi with
  | 0, _ => exact r0
  | 1, _ => exact r1
  | 2, _ => exact r2
  | 3, _ => exact r3
  | 4, _ => exact r4
  | 5, _ => exact r5
  | 6, _ => exact r6
end
end Go.Proofs.YtncinhlaabdlaaaGreat.IM
end
