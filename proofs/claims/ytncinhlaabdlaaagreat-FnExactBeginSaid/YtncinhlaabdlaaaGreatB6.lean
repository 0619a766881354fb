/- Several of my texts in one module (merge.py). -/
import Derived.Test.YtncinhlaabdlaaaGreatB5
import Derived.Test.YtncinhlaabdlaaaGreatA6
section
/- Contracts: UndoOf. -/
namespace Go.Proofs.YtncinhlaabdlaaaGreat.IM
open Go Go.Proofs
set_option linter.unusedVariables false
set_option linter.unusedSimpArgs false
set_option maxHeartbeats 2000000
set_option maxRecDepth 20000

/-- one answer, kept whole -/
inductive One (A : D → Prop) : D → Prop
  | mk {r : D} (h : A r) : One A r
  | no {r : D} (h : False) : One A r
theorem One.out {A : D → Prop} {r : D} (h : One A r) : A r := by
  cases h with
  | mk h => exact h
  | no h => exact h.elim
def zObjD : D := .node (.agg [1, 1, 1]) (nthD [.lit (.int .i64 0), .nil, .nil])
def zSlotD : D := .node (.agg [1, 3]) (nthD [.lit (.bool false), zObjD])
def zRecD : D := .node (.agg [1, 1, 1, 1, 1, 4, 4, 1, 1]) (nthD [.lit (.int .i64 0), .lit (.int .i64 0), .lit (.int .i64 0), .lit (.int .i64 0), .lit (.int .i64 0), zSlotD, zSlotD, .lit (.int .i64 0), .nil])
theorem isObj_z : IsObj zObjD Md.zObj := ⟨_, rfl, stN (by simp only [stillL_nil, stillL_cons, still_lit, still_nil, still_any, still_nodeN, still_nodeC, and_self]), rfl, .inl ⟨rfl, rfl⟩, .inl ⟨rfl, rfl⟩⟩
theorem still_zObj : zObjD.still := (shp_obj _ _ isObj_z).2.2.2
theorem isSlot_z : IsSlot zSlotD Md.zSlot := ⟨_, rfl, stN (by simp only [stillL_nil, stillL_cons, still_lit, still_zObj, and_self]), rfl, isObj_z⟩
theorem still_zSlot : zSlotD.still := (shp_slot _ _ isSlot_z).2.2.2
theorem isRec_z : IsRec zRecD Md.zRec := ⟨_, rfl, stN (by simp only [stillL_nil, stillL_cons, still_lit, still_nil, still_zSlot, and_self]), rfl, rfl, rfl, rfl, rfl, isSlot_z, isSlot_z, rfl, .inl ⟨rfl, rfl⟩⟩
theorem still_zRec : zRecD.still := (shp_rec _ _ isRec_z).2.2.2
theorem whole_zObj : zObjD.whole := fun i hi => by
  have hi' : i < 3 := hi
  match i, hi' with
  | 0, _ => trivial
  | 1, _ => trivial
  | 2, _ => trivial
theorem whole_zSlot : zSlotD.whole := fun i hi => by
  have hi' : i < 2 := hi
  match i, hi' with
  | 0, _ => trivial
  | 1, _ => exact whole_zObj
theorem whole_zRec : zRecD.whole := fun i hi => by
  have hi' : i < 9 := hi
  match i, hi' with
  | 0, _ => trivial
  | 1, _ => trivial
  | 2, _ => trivial
  | 3, _ => trivial
  | 4, _ => trivial
  | 5, _ => exact whole_zSlot
  | 6, _ => exact whole_zSlot
  | 7, _ => trivial
  | 8, _ => trivial
theorem tl_zRec : zRecD.tl = [] := rfl
theorem own_zRec (lo hi : Nat) : Own lo hi zRecD := ⟨fun t ht => by rw [tl_zRec] at ht; simp at ht, by rw [tl_zRec]; simp, whole_zRec⟩
theorem undoOf_no {r : Md.Rec} {lsn prev : Int} (h : (r.kind == 1 && Md.recOk r && Md.recOk (Md.undoRec r lsn prev)) = false) : Md.undoOf r lsn prev = Md.zRec := by
  unfold Md.undoOf; rw [h]; rfl
theorem undoOf_yes {r : Md.Rec} {lsn prev : Int} (h : (r.kind == 1 && Md.recOk r && Md.recOk (Md.undoRec r lsn prev)) = true) : Md.undoOf r lsn prev = Md.undoRec r lsn prev := by
  unfold Md.undoOf; rw [h]; rfl

theorem one_z {A : D → Prop} {F : Relab} (h : A zRecD) : One A (rl 9 F zRecD) := by
  rw [rl_still still_zRec]; exact .mk h
theorem size_zRec : zRecD.size = 15 := rfl
theorem isNode_zRec : zRecD.isNode = some true := rfl
theorem plain_zRec : zRecD.plain := (shp_rec _ _ isRec_z).2.2.1
theorem isRec_u {r : Md.Rec} {lsn prev : Int} {r0 : D} {f : Nat → D} (h : IsSlot r0 r.before) (hs : ∀ i, (f i).still) (h0 : f 0 = .lit (.int .i64 lsn)) (h1 : f 1 = .lit (.int .i64 r.tx)) (h2 : f 2 = .lit (.int .i64 prev))
    (h3 : f 3 = .lit (.int .i64 4)) (h4 : f 4 = .lit (.int .i64 r.oid)) (h5 : f 5 = zSlotD) (h6 : f 6 = r0) (h7 : f 7 = .lit (.int .i64 r.prev)) (h8 : f 8 = .nil) : IsRec (.node (.agg [1, 1, 1, 1, 1, 4, 4, 1, 1]) f) (Md.undoRec r lsn prev) :=
  ⟨_, rfl, hs, h0, h1, h2, h3, h4, by rw [h5]; exact isSlot_z, by rw [h6]; exact h, h7, by rw [h8]; exact .inl ⟨rfl, rfl⟩⟩
theorem own_u {r : Md.Rec} {lsn prev : Int} {r0 : D} {f : Nat → D} {lo hi : Nat} (h : Own lo hi r0) (h0 : f 0 = .lit (.int .i64 lsn)) (h1 : f 1 = .lit (.int .i64 r.tx)) (h2 : f 2 = .lit (.int .i64 prev))
    (h3 : f 3 = .lit (.int .i64 4)) (h4 : f 4 = .lit (.int .i64 r.oid)) (h5 : f 5 = zSlotD) (h6 : f 6 = r0) (h7 : f 7 = .lit (.int .i64 r.prev)) (h8 : f 8 = .nil) : Own lo hi (.node (.agg [1, 1, 1, 1, 1, 4, 4, 1, 1]) f) := by
  have ht : (D.node (.agg [1, 1, 1, 1, 1, 4, 4, 1, 1]) f).tl = r0.tl := by
    have h : (D.node (.agg [1, 1, 1, 1, 1, 4, 4, 1, 1]) f).tl = (f 0).tl ++ ((f 1).tl ++ ((f 2).tl ++ ((f 3).tl ++ ((f 4).tl ++ ((f 5).tl ++ ((f 6).tl ++ ((f 7).tl ++ ((f 8).tl ++ [])))))))) := rfl
    rw [h, h0, h1, h2, h3, h4, h5, h6, h7, h8]
    exact List.append_nil _
  refine ⟨fun t hx => h.rg t (ht ▸ hx), ht ▸ h.nd, fun i hi => ?_⟩
  have hi' : i < 9 := hi
  match i, hi' with
  | 0, _ => rw [h0]; trivial
  | 1, _ => rw [h1]; trivial
  | 2, _ => rw [h2]; trivial
  | 3, _ => rw [h3]; trivial
  | 4, _ => rw [h4]; trivial
  | 5, _ => rw [h5]; exact whole_zSlot
  | 6, _ => rw [h6]; exact h.wh
  | 7, _ => rw [h7]; trivial
  | 8, _ => rw [h8]; trivial
theorem specUndoOf_p (dr : D) (r : Md.Rec) (lsn prev : Int) (hr : IsRec dr r) (hs2 : Md.szRec r ≤ 1048576) :
    PCall Tryz.prog 161 [dr, .lit (.int .i64 lsn), .lit (.int .i64 prev)] fun n0 n1 z => One (fun z => IsRec z (Md.undoOf r lsn prev) ∧ Own n0 n1 z) z := by
  have hrr := hr
  have eq := shp_rec _ _ hr
  obtain ⟨e, rfl, hest, j0, j1, j2, j3, j4, j5, j6, j7, j8⟩ := hr
  have j1 : e 1 = _ := j1
  have j2 : e 2 = _ := j2
  have j3 : e 3 = _ := j3
  have j4 : e 4 = _ := j4
  have q5 := shp_slot _ _ j5
  have hs3 : Md.szSlot r.before ≤ 1048576 := by unfold Md.szRec at hs2; omega
  refine pcall_intro Tryz.func161 rfl (by decide) rfl (by decide) (by rw [Tryz.ntmps161]; simp) fun w0 M n0 hW => ivc_sound ?_; simp -dsimp only [Tryz.f161, go_sem, j1, j2, j3, j4, q5.1, q5.2.1, q5.2.2.1]
  intro g1 b1 hb1 g2 b2 hb2
  repeat' (first
    | (refine xcall_v (specRecOk_p _ _ hrr) ?_ (fun _ => trivial) (fun _ _ => ?_); (focus (simp -dsimp only [go_sem, rl_still, eq.2.2.2, j1, j2, j3, j4, q5.1, q5.2.1, q5.2.2.1]; first | done | rfl)); simp -dsimp only [go_sem, j1, j2, j3, j4, q5.1, q5.2.1, q5.2.2.1])
    | refine ⟨?_, ?_⟩ | with_reducible intro _)
  · exact one_z ⟨by rw [undoOf_no (by simp_all)]; exact isRec_z, own_zRec _ _⟩
  · refine iwp_planT (.early 0 (.early 1 (.early 2 (.early 3 (.early 4 (.early 5 (.early 6 (.early 7 (.early 9 (.early 10 (.fork 8 (.early 11 (.late 12 (.late 13 .done))) 12 (.late 8 (.early 11 (.late 13 .done)))))))))))))) [3] [] rfl (by decide +kernel) (by decide) (by decide +kernel) ?_
    refine fork_k (fun st => ∃ n g b s D, st = { N := 34, n := n, s := s, R := upd (upd (upd (fun _ => none) 3 (some (g1, b1, .node (.agg [1, 1, 1, 1, 1, 4, 4, 1, 1]) e))) 6 (some (g2, b2, zRecD))) 7 (some (g, b, D)) } ∧
      n0 ≤ n ∧ s 3 = .ptr 3 g1 0 [] ∧ s 6 = .ptr 6 g2 0 [] ∧ s 7 = .ptr 7 g 0 [] ∧ IsRec D (Md.undoRec r lsn prev) ∧ Own n0 n D) ?_ ?_
    · rintro st ⟨n, g, b, s, v, rfl, hn, v3, v6, v7, vi, vo⟩
      have vq := shp_rec _ _ vi
      simp -dsimp only [go_sem, v3, v6, v7, vq.1, vq.2.1, vq.2.2.1, size_zRec, isNode_zRec, plain_zRec]
      repeat' (first
    | (refine xcall_v (specRecOk_p _ _ vi) ?_ (fun _ => trivial) (fun _ _ => ?_); (focus (simp -dsimp only [go_sem, rl_still, vq.2.2.2, v3, v6, v7, vq.1, vq.2.1, vq.2.2.1, size_zRec, isNode_zRec, plain_zRec]; first | done | rfl)); simp -dsimp only [go_sem, v3, v6, v7, vq.1, vq.2.1, vq.2.2.1, size_zRec, isNode_zRec, plain_zRec])
    | refine ⟨?_, ?_⟩ | with_reducible intro _)
      · exact one_z ⟨by rw [undoOf_no (by simp_all)]; exact isRec_z, own_zRec _ _⟩
      · rw [rl_still vq.2.2.2, undoOf_yes (by simp_all)]
        exact .mk ⟨vi, vo.mono (by omega) (by omega)⟩
    · intro K hK
      simp -dsimp only [go_sem, j1, j2, j3, j4, q5.1, q5.2.1, q5.2.2.1]
      refine ⟨?_, ?_⟩
      · refine xcall_p (l3CopySlot_p _ _ j5 hs3) (by simp -dsimp only [go_sem, rl_still, q5.2.2.2]) fun m0 p0 r0 hm0 hp0 hr0 => ?_
        have rq := shp_slot _ _ hr0.1
        refine ⟨hr0.2.tags, ?_⟩
        simp -dsimp only [go_sem, j1, j2, j3, j4, q5.1, q5.2.1, q5.2.2.1, rq.1, rq.2.1, rq.2.2.1]
        intro g b hb
        exact hK _ ⟨_, _, _, _, _, rfl, by omega, by simp -dsimp only [go_sem], by simp -dsimp only [go_sem], by simp -dsimp only [go_sem], isRec_u hr0.1 (by repeat' (first | exact trivial | exact rq.2.2.2 | refine still_upd ?_ ?_ | exact (show zRecD.still from still_zRec))) (by simp -dsimp only [go_sem]) (by simp -dsimp only [go_sem]) (by simp -dsimp only [go_sem]) (by simp -dsimp only [go_sem]) (by simp -dsimp only [go_sem]) (by simp -dsimp only [go_sem]; rfl) (by simp -dsimp only [go_sem]) (by simp -dsimp only [go_sem]) (by simp -dsimp only [go_sem]), own_u (r := r) (lsn := lsn) (prev := prev) (hr0.2.mono (by omega) (by omega)) (by simp -dsimp only [go_sem]) (by simp -dsimp only [go_sem]) (by simp -dsimp only [go_sem]) (by simp -dsimp only [go_sem]) (by simp -dsimp only [go_sem]) (by simp -dsimp only [go_sem]; rfl) (by simp -dsimp only [go_sem]) (by simp -dsimp only [go_sem]) (by simp -dsimp only [go_sem])⟩
      · intro g b hb
        refine xcall_p (l3CopySlot_p _ _ j5 hs3) (by simp -dsimp only [go_sem, rl_still, q5.2.2.2]) fun m0 p0 r0 hm0 hp0 hr0 => ?_
        have rq := shp_slot _ _ hr0.1
        refine ⟨hr0.2.tags, ?_⟩
        simp -dsimp only [go_sem, j1, j2, j3, j4, q5.1, q5.2.1, q5.2.2.1, rq.1, rq.2.1, rq.2.2.1]
        exact hK _ ⟨_, _, _, _, _, rfl, by omega, by simp -dsimp only [go_sem], by simp -dsimp only [go_sem], by simp -dsimp only [go_sem], isRec_u hr0.1 (by repeat' (first | exact trivial | exact rq.2.2.2 | refine still_upd ?_ ?_ | exact (show zRecD.still from still_zRec))) (by simp -dsimp only [go_sem]) (by simp -dsimp only [go_sem]) (by simp -dsimp only [go_sem]) (by simp -dsimp only [go_sem]) (by simp -dsimp only [go_sem]) (by simp -dsimp only [go_sem]; rfl) (by simp -dsimp only [go_sem]) (by simp -dsimp only [go_sem]) (by simp -dsimp only [go_sem]), own_u (r := r) (lsn := lsn) (prev := prev) (hr0.2.mono (by omega) (by omega)) (by simp -dsimp only [go_sem]) (by simp -dsimp only [go_sem]) (by simp -dsimp only [go_sem]) (by simp -dsimp only [go_sem]) (by simp -dsimp only [go_sem]) (by simp -dsimp only [go_sem]; rfl) (by simp -dsimp only [go_sem]) (by simp -dsimp only [go_sem]) (by simp -dsimp only [go_sem])⟩
  · exact one_z ⟨by rw [undoOf_no (by simp_all)]; exact isRec_z, own_zRec _ _⟩
theorem undoOf_p (dr : D) (r : Md.Rec) (lsn prev : Int) (hr : IsRec dr r) (hs2 : Md.szRec r ≤ 1048576) :
    PCall Tryz.prog 173 [dr, .lit (.int .i64 lsn), .lit (.int .i64 prev)] fun n0 n1 z => One (fun z => IsRec z (Md.undoOf r lsn prev) ∧ Own n0 n1 z) z := by
  have hrr := hr
  have eq := shp_rec _ _ hr
  obtain ⟨e, rfl, hest, j0, j1, j2, j3, j4, j5, j6, j7, j8⟩ := hr
  have j1 : e 1 = _ := j1
  have j2 : e 2 = _ := j2
  have j3 : e 3 = _ := j3
  have j4 : e 4 = _ := j4
  have q5 := shp_slot _ _ j5
  have hs3 : Md.szSlot r.before ≤ 1048576 := by unfold Md.szRec at hs2; omega
  refine pcall_intro Tryz.func173 rfl (by decide) rfl (by decide) (by rw [Tryz.ntmps173]; simp) fun w0 M n0 hW => ivc_sound ?_; simp -dsimp only [Tryz.f173, go_sem, j1, j2, j3, j4, q5.1, q5.2.1, q5.2.2.1]
  intro g1 b1 hb1 g2 b2 hb2
  refine iwp_planT (.early 0 (.early 1 (.early 2 (.early 3 (.early 4 (.early 5 (.early 6 (.early 7 (.early 9 (.early 10 (.fork 8 (.early 11 (.late 12 (.late 13 .done))) 12 (.late 8 (.early 11 (.late 13 .done)))))))))))))) [3] [] rfl (by decide +kernel) (by decide) (by decide +kernel) ?_
  refine fork_k (fun st => ∃ n g b s D, st = { N := 35, n := n, s := s, R := upd (upd (upd (fun _ => none) 3 (some (g1, b1, .node (.agg [1, 1, 1, 1, 1, 4, 4, 1, 1]) e))) 6 (some (g2, b2, zRecD))) 7 (some (g, b, D)) } ∧
    n0 ≤ n ∧ s 3 = .ptr 3 g1 0 [] ∧ s 6 = .ptr 6 g2 0 [] ∧ s 7 = .ptr 7 g 0 [] ∧ IsRec D (Md.undoRec r lsn prev) ∧ Own n0 n D) ?_ ?_
  · rintro st ⟨n, g, b, s, v, rfl, hn, v3, v6, v7, vi, vo⟩
    have vq := shp_rec _ _ vi
    simp -dsimp only [go_sem, v3, v6, v7, vq.1, vq.2.1, vq.2.2.1, size_zRec, isNode_zRec, plain_zRec, eq.1, eq.2.1, j3]
    repeat' (first
    | (refine xcall_v (recOk_p _ _ hrr) ?_ (fun _ => trivial) (fun _ _ => ?_); (focus (simp -dsimp only [go_sem, rl_still, eq.2.2.2, v3, v6, v7, vq.1, vq.2.1, vq.2.2.1, size_zRec, isNode_zRec, plain_zRec, eq.1, eq.2.1, j3]; first | done | rfl)); simp -dsimp only [go_sem, v3, v6, v7, vq.1, vq.2.1, vq.2.2.1, size_zRec, isNode_zRec, plain_zRec, eq.1, eq.2.1, j3])
    | (refine xcall_v (recOk_p _ _ vi) ?_ (fun _ => trivial) (fun _ _ => ?_); (focus (simp -dsimp only [go_sem, rl_still, vq.2.2.2, v3, v6, v7, vq.1, vq.2.1, vq.2.2.1, size_zRec, isNode_zRec, plain_zRec, eq.1, eq.2.1, j3]; first | done | rfl)); simp -dsimp only [go_sem, v3, v6, v7, vq.1, vq.2.1, vq.2.2.1, size_zRec, isNode_zRec, plain_zRec, eq.1, eq.2.1, j3])
    | refine ⟨?_, ?_⟩ | with_reducible intro _)
    all_goals first
      | exact one_z ⟨by rw [undoOf_no (by simp_all)]; exact isRec_z, own_zRec _ _⟩
      | (rw [rl_still vq.2.2.2, undoOf_yes (by simp_all)]
         exact .mk ⟨vi, vo.mono (by omega) (by omega)⟩)
  · intro K hK
    simp -dsimp only [go_sem, j1, j2, j3, j4, q5.1, q5.2.1, q5.2.2.1]
    refine ⟨?_, ?_⟩
    · refine xcall_p (cloneSlot_p _ _ j5 hs3) (by simp -dsimp only [go_sem, rl_still, q5.2.2.2]) fun m0 p0 r0 hm0 hp0 hr0 => ?_
      have rq := shp_slot _ _ hr0.1
      refine ⟨hr0.2.tags, ?_⟩
      simp -dsimp only [go_sem, j1, j2, j3, j4, q5.1, q5.2.1, q5.2.2.1, rq.1, rq.2.1, rq.2.2.1]
      intro g b hb
      exact hK _ ⟨_, _, _, _, _, rfl, by omega, by simp -dsimp only [go_sem], by simp -dsimp only [go_sem], by simp -dsimp only [go_sem], isRec_u hr0.1 (by repeat' (first | exact trivial | exact rq.2.2.2 | refine still_upd ?_ ?_ | exact (show zRecD.still from still_zRec))) (by simp -dsimp only [go_sem]) (by simp -dsimp only [go_sem]) (by simp -dsimp only [go_sem]) (by simp -dsimp only [go_sem]) (by simp -dsimp only [go_sem]) (by simp -dsimp only [go_sem]; rfl) (by simp -dsimp only [go_sem]) (by simp -dsimp only [go_sem]) (by simp -dsimp only [go_sem]), own_u (r := r) (lsn := lsn) (prev := prev) (hr0.2.mono (by omega) (by omega)) (by simp -dsimp only [go_sem]) (by simp -dsimp only [go_sem]) (by simp -dsimp only [go_sem]) (by simp -dsimp only [go_sem]) (by simp -dsimp only [go_sem]) (by simp -dsimp only [go_sem]; rfl) (by simp -dsimp only [go_sem]) (by simp -dsimp only [go_sem]) (by simp -dsimp only [go_sem])⟩
    · intro g b hb
      refine xcall_p (cloneSlot_p _ _ j5 hs3) (by simp -dsimp only [go_sem, rl_still, q5.2.2.2]) fun m0 p0 r0 hm0 hp0 hr0 => ?_
      have rq := shp_slot _ _ hr0.1
      refine ⟨hr0.2.tags, ?_⟩
      simp -dsimp only [go_sem, j1, j2, j3, j4, q5.1, q5.2.1, q5.2.2.1, rq.1, rq.2.1, rq.2.2.1]
      exact hK _ ⟨_, _, _, _, _, rfl, by omega, by simp -dsimp only [go_sem], by simp -dsimp only [go_sem], by simp -dsimp only [go_sem], isRec_u hr0.1 (by repeat' (first | exact trivial | exact rq.2.2.2 | refine still_upd ?_ ?_ | exact (show zRecD.still from still_zRec))) (by simp -dsimp only [go_sem]) (by simp -dsimp only [go_sem]) (by simp -dsimp only [go_sem]) (by simp -dsimp only [go_sem]) (by simp -dsimp only [go_sem]) (by simp -dsimp only [go_sem]; rfl) (by simp -dsimp only [go_sem]) (by simp -dsimp only [go_sem]) (by simp -dsimp only [go_sem]), own_u (r := r) (lsn := lsn) (prev := prev) (hr0.2.mono (by omega) (by omega)) (by simp -dsimp only [go_sem]) (by simp -dsimp only [go_sem]) (by simp -dsimp only [go_sem]) (by simp -dsimp only [go_sem]) (by simp -dsimp only [go_sem]) (by simp -dsimp only [go_sem]; rfl) (by simp -dsimp only [go_sem]) (by simp -dsimp only [go_sem]) (by simp -dsimp only [go_sem])⟩
end Go.Proofs.YtncinhlaabdlaaaGreat.IM
end

section
/- The law of UndoOf. Printed by laws_wr2.py. -/
namespace Go.Proofs.YtncinhlaabdlaaaGreat.IM
open Go Go.Proofs
set_option linter.unusedVariables false
set_option linter.unusedSimpArgs false
set_option maxHeartbeats 2000000
set_option maxRecDepth 20000

theorem c_undo (r : Md.Rec) (lsn prev : Int) : Md.cRec (Md.undoOf r lsn prev) ≤ 3 * Md.szRec r := by
  unfold Md.undoOf
  split
  · have h0 : Md.szSlot Md.zSlot = 0 := rfl
    have h1 : Md.cLives [] = 0 := rfl
    simp only [Md.cRec, Md.undoRec, Md.szRec, h0, h1]; omega
  · have h0 : Md.cRec Md.zRec = 0 := rfl
    omega

end Go.Proofs.YtncinhlaabdlaaaGreat.IM
end
