/- Several of my texts in one module (merge.py). -/
import Derived.Test.YtkigfigdoaoboaaA5
import Derived.Test.YtkigfigdoaoboaaB31
import Derived.Test.YtkigfigdoaoboaaB27
import Derived.Test.YtkigfigdoaoboaaB13
section
/- Contracts: ranging over the records of a log from its end. -/
namespace Go.Proofs.Ytkigfigdoaoboaa.IM
open Go Go.Proofs
set_option linter.unusedVariables false
set_option linter.unusedSimpArgs false
set_option maxHeartbeats 2000000
set_option maxRecDepth 20000

theorem vcL_T {P : Program} {W : Nat → Prop} {K : St → Prop} {l' l : List Oper} {st : St} : vcL P W l'.toArray K l st = wSome (some (gsT l')) fun gs => vcLT P W gs K l st := by
  rw [vcL_gs]; rfl
theorem backRec_it : BackIt Try.prog 192 15 81 := by
  refine back_it (N := 19) Try.func192 rfl (by rw [Try.ntmps192]) (by decide) rfl (split_at (k := 6) rfl) ⟨rfl, rfl, rfl⟩ (by decide) (by decide) ?_ ?_ ?_ ?_ ?_
  · intro l d n f hrow hn w0 M
    unfold itS0
    rcases hrow with ⟨rfl, rfl⟩ | ⟨t, zb, rfl⟩
    · simp -dsimp only [go_sem]
      rw [IntKind.wrap_i64]; omega
    · simp -dsimp only [go_sem]
      rw [IntKind.wrap_i64]; omega
  · intro l d i w0 M h1 h2
    unfold itS
    simp -dsimp only [go_sem]
    omega
  · intro l d i w0 M h1 h2
    unfold itS
    simp -dsimp only [go_sem]
    rw [IntKind.wrap_i64]; omega
  · intro l d n f i hrow hn hty hi w0 M K hK
    unfold itS
    rcases hrow with ⟨rfl, rfl⟩ | ⟨t, zb, rfl⟩
    · omega
    · simp only [List.take_succ_cons, List.take_zero]
      rw [vcL_T]
      simp -dsimp only [go_sem, hty, hi]
      exact hK _ (by simp -dsimp only [go_sem]) (by simp -dsimp only [go_sem]) (by simp -dsimp only [go_sem]) (by simp -dsimp only [go_sem])
  · intro i bb w0 M h1 h2
    unfold endS
    simp only [List.drop_succ_cons, List.drop_zero, Nat.reduceAdd]
    rw [vcL_T]
    cases bb
    · simp -dsimp only [go_sem]
    · simp -dsimp only [go_sem]
theorem backRec_p (d : D) (hd : d.still) (hp : d.plain) : PCall Try.prog 122 [d] fun _ _ r => r = .fn 192 1 (capD (.cptr d)) := by
  refine pcall_intro_v Try.func122 rfl (by decide) rfl (by decide) (by rw [Try.ntmps122]; simp) fun w0 M n0 => ivc_sound ?_; simp -dsimp only [Try.f122, go_sem]
  refine ⟨hp, fun g b hb => ?_⟩
  rw [rl_still hd]
/-- the numbers of the records, from the last on, that are of a transaction -/
def chUp (rs : List Md.Rec) (tx : Int) (k : Nat) : List Int := (((rs.drop (rs.length - k)).filter fun r => r.tx == tx && r.kind != 6).map (·.lsn)).reverse
theorem chUp_zero (rs : List Md.Rec) (tx : Int) : chUp rs tx 0 = [] := by unfold chUp; simp
theorem chUp_all (x : Md.Log) (tx : Int) : chUp x.recs tx x.recs.length = Md.chain x tx := by unfold chUp Md.chain; simp
theorem chUp_succ {rs : List Md.Rec} {tx : Int} {k : Nat} (h : k < rs.length) (h' : rs.length - 1 - k < rs.length) : chUp rs tx (k + 1) = chUp rs tx k ++ (if rs[rs.length - 1 - k].tx == tx && rs[rs.length - 1 - k].kind != 6 then [rs[rs.length - 1 - k].lsn] else []) := by
  unfold chUp
  have e : rs.drop (rs.length - (k + 1)) = rs[rs.length - 1 - k] :: rs.drop (rs.length - k) := by
    rw [show rs.length - (k + 1) = rs.length - 1 - k by omega, List.drop_eq_getElem_cons h', show rs.length - 1 - k + 1 = rs.length - k by omega]
  rw [e, List.filter_cons]
  split
  · simp
  · simp
theorem chUp_len (rs : List Md.Rec) (tx : Int) (k : Nat) : (chUp rs tx k).length ≤ rs.length := by
  unfold chUp
  rw [List.length_reverse, List.length_map]
  exact Nat.le_trans (List.length_filter_le _ _) (by rw [List.length_drop]; omega)
theorem enters_run {P : Program} {f : FuncId} {fn : Func} (hf : P.funcs[f]? = some fn) (hb : fn.body.isNone = false) (hn : (fn.name == "runtime.NumGoroutine") = false) (args : Array Value) (w : World) : (callFunc f args).run P w = .ok (.enter f args) w := by
  simp only [callFunc]
  rw [Sem.run_bind, run_program, Result.andThen_ok]
  simp [hf, hb, hn]
/-- the elements of a row -/
def rowF : D → Nat → D
  | .sl _ _ _ _ f => f
  | _ => fun _ => .any
theorem IsL.row {α : Type} {R : D → α → Prop} {sz : Nat} {d : D} {xs : List α} (h : IsL sz R d xs) : IsRow sz d xs.length (rowF d) := by
  rcases h with ⟨rfl, rfl⟩ | ⟨t, zb, f, rfl, _, _, _⟩
  · exact .inl ⟨rfl, rfl⟩
  · exact .inr ⟨t, zb, rfl⟩
theorem IsL.rowAt {α : Type} {R : D → α → Prop} {sz : Nat} {d : D} {xs : List α} (h : IsL sz R d xs) (i : Nat) (hi : i < xs.length) : R (rowF d i) xs[i] := by
  rcases h with ⟨rfl, rfl⟩ | ⟨t, zb, f, rfl, _, _, hf⟩
  · exact absurd hi (Nat.not_lt_zero i)
  · exact hf i hi
theorem IsL.rowData {α : Type} {R : D → α → Prop} {sz : Nat} {d : D} {xs : List α} (h : IsL sz R d xs) (hd : d.data) (i : Nat) (hi : i < xs.length) : (rowF d i).data := by
  rcases h with ⟨rfl, rfl⟩ | ⟨t, zb, f, rfl, _, _, hf⟩
  · exact absurd hi (Nat.not_lt_zero i)
  · exact hd i hi
theorem recs_le (x : Md.Log) : x.recs.length ≤ Md.szLog x := Nat.le_add_right _ _
/-- numbers, of an own row -/
def IntsO (ys : List Int) (n0 n1 : Nat) (r : D) : Prop := One (fun r => IsL 1 IsInt r ys ∧ Own n0 n1 r) r
def chSt (N n' g2 b2 g3 b3 g5 b5 g8 b8 m : Nat) (d : D) (tx : Int) (f8 : Nat → D) : St :=
  ⟨N, n', upd (upd (upd (fun _ => .any) 5 (.ptr 5 g5 0 [])) 3 (.ptr 3 g3 0 [])) 2 (.ptr 2 g2 0 []),
    upd (upd (upd (upd (fun _ => none) 8 (some (g8, b8, .node (.arr m 1) f8))) 5 (some (g5, b5, .msl 8 g8 0 [] 0 m 1))) 3 (some (g3, b3, .lit (.int .i64 tx)))) 2 (some (g2, b2, d))⟩
def chInv (n0 : Nat) (q : Nat → D) (g2 b2 g3 b3 g5 b5 : Nat) (tx : Int) (x : Md.Log) (k : Nat) (st : St) : Prop :=
  ∃ n' g8 b8 f8, (n0 ≤ b8 ∧ n0 ≤ n') ∧ IntRow f8 (chUp x.recs tx k) ∧ st = ⟨29, n', upd (upd (upd (fun _ => .any) 5 (.ptr 5 g5 0 [])) 3 (.ptr 3 g3 0 [])) 2 (.ptr 2 g2 0 []),
    upd (upd (upd (upd (fun _ => none) 5 (some (g5, b5, .msl 8 g8 0 [] 0 (chUp x.recs tx k).length 1))) 8 (some (g8, b8, .node (.arr (chUp x.recs tx k).length 1) f8))) 3 (some (g3, b3, .lit (.int .i64 tx)))) 2 (some (g2, b2, .node (.agg [1, 1]) q))⟩
theorem chain_p (d : D) (x : Md.Log) (tx : Int) (h : IsLog d x) (hsz : Md.szLog x ≤ 1048576) (hd : d.data) : PCall Try.prog 45 [d, .lit (.int .i64 tx)] (IntsO (Md.chain x tx)) := by
  have hs : x.recs.length ≤ 1048576 := Nat.le_trans (recs_le x) hsz
  have zp := shp_log _ _ h
  obtain ⟨q, rfl, hq, q0, q1⟩ := id h
  refine pcall_marks Try.func45 rfl (by decide) rfl (by decide) (by rw [Try.ntmps45]; simp) fun w0 M n0 a hn0 hdf hW hT hs0 => ?_
  rw [Try.ntmps45, St_start_eq] at hs0
  refine shape3 (L := (List.range 30).drop 2) (K := fun st => ∃ g2 b2 g3 b3 g5 b5 g8 b8, n0 ≤ b8 ∧ ∃ s n', n0 ≤ n' ∧ st = ⟨29, n', s, upd (upd (upd (upd (fun _ => none) 2 (some (g2, b2, .node (.agg [1, 1]) q))) 3 (some (g3, b3, .lit (.int .i64 tx)))) 8 (some (g8, b8, .node (.arr 0 1) fun _ => .lit (.int .i64 0)))) 5 (some (g5, b5, .msl 8 g8 0 [] 0 0 1))⟩ ∧ s 2 = .ptr 2 g2 0 [] ∧ s 3 = .ptr 3 g3 0 [] ∧ s 5 = .ptr 5 g5 0 [] ∧ s 11 = .fn 192 1 (capD (.cptr (q 0)))) hs0 hdf (by decide) ?_ ?_
  · simp -dsimp only [go_sem, zp.1, zp.2.1, zp.2.2.1, q0.size, q0.isNode, q0.plain, q0.lenT]
    intro g2 b2 hb2 g3 b3 hb3 g8 b8 hb8 g5 b5 hb5
    refine xcall_i (backRec_p (q 0) (hq 0) q0.plain) (by simp -dsimp only [go_sem]) ⟨hq 0, trivial⟩ fun m0 m1 r hm0 hm1 hr => ?_
    subst hr
    refine ⟨still_cap (show (D.cptr (q 0)).still from hq 0), ?_⟩
    simp -dsimp only [go_sem]
    exact ⟨g2, b2, g3, b3, g5, b5, g8, b8, by omega, _, m1, by omega, rfl, by simp -dsimp only [go_sem], by simp -dsimp only [go_sem], by simp -dsimp only [go_sem], by simp -dsimp only [go_sem]⟩
  · rintro st' a' w' ⟨g2, b2, g3, b3, g5, b5, g8, b8, hb8, s, n', hn9, rfl, s2, s3, s5, s11⟩ hs' hdf'
    refine wpIn_block ?_
    have hrow : IsRow 15 (q 0) x.recs.length (rowF (q 0)) := q0.row
    have hsr : ∀ i (hi : i < x.recs.length), IsRec (rowF (q 0) i) x.recs[i] := q0.rowAt
    have hdq : (q 0).data := hd 0 (by decide)
    have hdr := q0.rowData hdq
    refine range_core [2, 3, 5] [2, 3, 8, 5] (sz := 15) (T := 81) (L := [7, 12, 13, 14, 15, 16, 17, 18, 19, 20, 21, 22, 23, 24, 25, 26, 27]) (d := q 0) (n := x.recs.length) (f := rowF (q 0)) hs' hdf' s11 rfl hrow (by omega)
      (fun i hi => ⟨?_, hdr i hi⟩) hdq (by decide) (by decide) (by decide) (show 12 < 29 by decide) (show 13 < 29 by decide) (by decide) (by decide) backRec_it ?_ (chInv n0 q g2 b2 g3 b3 g5 b5 tx x) (fun _ => False) ?_ (fun _ h => h.elim) ?_ ?_ ?_ (fun _ _ _ _ h => h.elim)
    · have rp := shp_rec _ _ (hsr i hi)
      simp -dsimp only [go_sem, rp.1, rp.2.1, rp.2.2.1]
    · exact enters_run Try.func192 rfl (by decide)
    · rintro k st1 ⟨n1, g8', b8', f8, h8, hf8, rfl⟩
      exact ⟨⟨np_upd (np_upd (np_upd (fun _ => trivial) trivial) trivial) trivial, (((NpR.none.upd (show (D.msl _ _ _ _ _ _ _).np from trivial)).upd (show (D.node _ _).np from fun i hi => by rw [hf8.2 i hi]; trivial)).upd (show (D.lit _).np from trivial)).upd (data_np hd)⟩, rfl⟩
    · simp -dsimp only [go_sem, s2, s3, s5]
      exact ⟨n', g8, b8, fun _ => .lit (.int .i64 0), ⟨hb8, hn9⟩, ⟨fun _ => trivial, fun i hi => by rw [chUp_zero] at hi; exact absurd hi (Nat.not_lt_zero i)⟩, by rw [chUp_zero]; rfl⟩
    · rintro k st1 hk ⟨n1, g8', b8', f8, h8, hf8, rfl⟩ w1 M1 hW1
      have hlt : x.recs.length - 1 - k < x.recs.length := by omega
      have hr := hsr _ hlt
      have rp := shp_rec _ _ hr
      obtain ⟨qr, e, hqr, r0, r1, r2, r3, r4, r5, r6, r7, r8⟩ := id hr
      have r0 : qr 0 = _ := r0
      have r1 : qr 1 = _ := r1
      have r3 : qr 3 = _ := r3
      have hdr' := hdr _ hlt
      rw [e] at rp hdr' ⊢
      simp -dsimp only [go_sem, rp.1, rp.2.1, rp.2.2.1]
      intro g7 b7 hb7
      have hnpr : (D.node (.agg [1, 1, 1, 1, 1, 4, 4, 1, 1]) qr).np := data_np hdr'
      refine ⟨⟨np_upd (np_upd (np_upd (np_upd (np_upd (np_upd (fun _ => trivial) trivial) trivial) trivial) trivial) hnpr) trivial, ((((NpR.none.upd (show (D.msl _ _ _ _ _ _ _).np from trivial)).upd (show (D.node _ _).np from fun i hi => by rw [hf8.2 i hi]; trivial)).upd (show (D.lit _).np from trivial)).upd (data_np hd)).upd hnpr⟩, fun w2 M2 hW2 => ?_⟩
      have hcu := chUp_succ (tx := tx) hk hlt
      have hcl := chUp_len x.recs tx k
      generalize x.recs[x.recs.length - 1 - k] = r at hr r0 r1 r2 r3 r4 r5 r6 r7 r8 hcu
      rcases Bool.eq_false_or_eq_true (r.tx == tx) with ht | ht
      · rcases Bool.eq_false_or_eq_true (r.kind != 6) with hk6 | hk6
        · simp -dsimp only [go_sem, r0, r1, r3, ht, hk6]
          intro b9 hb9
          refine ⟨fun y h => h.symm, by omega, by omega, fun g b n2 hn2 hb hb' => ?_⟩
          have ecu : chUp x.recs tx (k + 1) = chUp x.recs tx k ++ [r.lsn] := by rw [hcu, ht, hk6]; rfl
          have ecl : (chUp x.recs tx k ++ [r.lsn]).length = (chUp x.recs tx k).length + 1 := by rw [List.length_append]; rfl
          refine ⟨n2, g, b, _, ⟨by omega, by omega⟩, ?_, by rw [ecu, ecl]⟩
          rw [ecu]
          exact IntRow.cat hf8 (z := fun _ => .lit (.int .i64 0)) (fun _ => trivial)
        · simp -dsimp only [go_sem, r0, r1, r3, ht, hk6]
          have ecu : chUp x.recs tx (k + 1) = chUp x.recs tx k := by rw [hcu, ht, hk6]; simp
          exact ⟨b7 + 1, g8', b8', f8, ⟨h8.1, by omega⟩, by rw [ecu]; exact hf8, by rw [ecu]⟩
      · simp -dsimp only [go_sem, r0, r1, r3, ht]
        have ecu : chUp x.recs tx (k + 1) = chUp x.recs tx k := by rw [hcu, ht]; simp
        exact ⟨b7 + 1, g8', b8', f8, ⟨h8.1, by omega⟩, by rw [ecu]; exact hf8, by rw [ecu]⟩
    · rintro Dm W' st2 hDw ⟨n1, g8', b8', f8, h8, hf8, rfl⟩ hs2 hD
      refine tail_m (L := [28, 4]) hs2 rfl hD (Nat.le_trans (sr_keep hs').size hDw) (by decide) fun w1 M1 hW1 => ?_
      rw [chUp_all] at hf8
      have hcl : (Md.chain x tx).length ≤ x.recs.length := by rw [← chUp_all]; exact chUp_len _ _ _
      rw [chUp_all]
      simp -dsimp only [go_sem]
      refine ⟨⟨np_upd (np_upd (np_upd (np_upd (np_upd (fun _ => trivial) trivial) trivial) trivial) trivial) trivial, (((NpR.none.upd (show (D.msl _ _ _ _ _ _ _).np from trivial)).upd (show (D.node _ _).np from fun i hi => by rw [hf8.2 i hi]; trivial)).upd (show (D.lit _).np from trivial)).upd (data_np hd)⟩, fun n5 hn5 hfc => ?_⟩
      rw [rls_still hf8.1]
      have hb := hfc.lt 8 g8' b8' (.node (.arr (Md.chain x tx).length 1) f8) rfl
      exact .mk (hf8.isL (by omega) h8.1 hb)
end Go.Proofs.Ytkigfigdoaoboaa.IM
end

section
/- Contracts: the numbers of a transaction's records, as the reference counts them; the last record of a transaction. -/
namespace Go.Proofs.Ytkigfigdoaoboaa.IM
open Go Go.Proofs
set_option linter.unusedVariables false
set_option linter.unusedSimpArgs false
set_option maxHeartbeats 2000000
set_option maxRecDepth 20000

theorem specChain_p (d : D) (x : Md.Log) (tx : Int) (h : IsLog d x) (hsz : Md.szLog x ≤ 1048576) (hd : d.data) : PCall Try.prog 43 [d, .lit (.int .i64 tx)] (IntsO (Md.chain x tx)) := by
  have hs : x.recs.length ≤ 1048576 := Nat.le_trans (recs_le x) hsz
  have zp := shp_log _ _ h
  obtain ⟨q, rfl, hq, q0, q1⟩ := id h
  refine pcall_intro_t Try.func43 rfl (by decide) rfl (by decide) (by rw [Try.ntmps43]; simp) fun w0 M n0 hW hT => ivc_sound ?_; simp -dsimp only [Try.f43, go_sem, zp.1, zp.2.1, zp.2.2.1, q0.size, q0.isNode, q0.plain, q0.lenT]
  intro g2 b2 hb2 g7 b7 hb7
  have hw0 : IntKind.i64.wrap ((x.recs.length : Int) - 1) = (x.recs.length : Int) - 1 := by rw [IntKind.wrap_i64]; omega
  rw [hw0]
  refine iwp_forR x.recs.length [1, 2, 4] (fun i n' s R => s 6 = .lit (.int .i64 ((x.recs.length : Int) - 1 - i)) ∧ ∃ g b f, n0 ≤ b ∧ IntRow f (chUp x.recs tx i) ∧ s 5 = .msl 7 g 0 [] 0 (chUp x.recs tx i).length 1 ∧
      R = upd (upd (fun _ => none) 2 (some (g2, b2, .node (.agg [1, 1]) q))) 7 (some (g, b, .node (.arr (chUp x.recs tx i).length 1) f))) 0 (Nat.zero_le _)
    ⟨by simp -dsimp only [go_sem]; simp, g7, b7, fun _ => .lit (.int .i64 0), by omega, ⟨fun _ => trivial, fun i hi => by rw [chUp_zero] at hi; exact absurd hi (Nat.not_lt_zero i)⟩, by rw [chUp_zero]; simp -dsimp only [go_sem], by rw [chUp_zero]; rfl⟩ ?_
  rintro i n' s R hi hn hk ⟨h6, g, b, f, hb, hf, h5, rfl⟩
  refine ivc_sound ?_
  simp -dsimp only [go_sem] at hk
  have hn' : b7 + 1 ≤ n' := hn
  by_cases hlt : i < x.recs.length
  · have hge : (0 : Int) ≤ (x.recs.length : Int) - 1 - i := by omega
    have hlt' : x.recs.length - 1 - i < x.recs.length := by omega
    have ei : ((x.recs.length : Int) - 1 - i) = ((x.recs.length - 1 - i : Nat) : Int) := by omega
    have hw1 : IntKind.i64.wrap (((x.recs.length - 1 - i : Nat) : Int) - 1) = (x.recs.length : Int) - 1 - (i + 1 : Nat) := by rw [IntKind.wrap_i64]; omega
    rw [ei] at h6 hge
    obtain ⟨t, zb, fr, e0, _, hfr⟩ := q0.sl hlt'
    have hr := hfr _ hlt'
    obtain ⟨qr, e, hqr, r0, r1, r2, r3, r4, r5, r6, r7, r8⟩ := id hr
    have r0 : qr 0 = _ := r0
    have r1 : qr 1 = _ := r1
    have r3 : qr 3 = _ := r3
    have hcu := chUp_succ (tx := tx) hlt hlt'
    have hcl := chUp_len x.recs tx i
    generalize x.recs[x.recs.length - 1 - i] = r at hr r0 r1 r2 r3 r4 r5 r6 r7 r8 hcu
    rcases Bool.eq_false_or_eq_true (r.tx == tx) with ht | ht
    · rcases Bool.eq_false_or_eq_true (r.kind != 6) with hk6 | hk6
      · simp -dsimp only [go_sem, hk, h6, h5, hge, e0, hlt', e, r0, r1, r3, ht, hk6]
        intro g9 b9 hb9
        have ecu : chUp x.recs tx (i + 1) = chUp x.recs tx i ++ [r.lsn] := by rw [hcu, ht, hk6]; rfl
        have ecl : (chUp x.recs tx (i + 1)).length = (chUp x.recs tx i).length + 1 := by rw [ecu, List.length_append]; rfl
        refine ⟨fun y h => h.symm, by omega, by omega, fun g3 b3 n3 hn3 hb3 hb4 => ⟨hlt, into_rd (R' := upd (upd (fun _ => none) 2 (some (g2, b2, .node (.agg [1, 1]) q))) 7 (some (g3, b3, .node (.arr ((chUp x.recs tx i).length + 1) 1) (catD (chUp x.recs tx i).length f (upd (fun _ => .lit (.int .i64 0)) 0 (.lit (.int .i64 r.lsn))))))) (fun j => by
          by_cases h1 : j = 40
          · subst h1; right; simp [upd]
          · left; by_cases h2 : j = 7
            · subst h2; simp [upd]
            · simp [upd, h1, h2]) (by omega) (by simp -dsimp only [go_sem, hk]) ⟨by simp -dsimp only [go_sem, hw1], g3, b3, _, by rcases hb4 with h | h <;> omega, by rw [ecu]; exact IntRow.cat hf (z := fun _ => .lit (.int .i64 0)) (fun _ => trivial), by rw [ecl]; simp -dsimp only [go_sem], by rw [ecl]⟩⟩⟩
      · simp -dsimp only [go_sem, hk, h6, h5, hge, e0, hlt', e, r0, r1, r3, ht, hk6]
        have ecu : chUp x.recs tx (i + 1) = chUp x.recs tx i := by rw [hcu, ht, hk6]; simp
        exact ⟨hlt, into_rd (fun j => .inl rfl) (by omega) (by simp -dsimp only [go_sem, hk]) ⟨by simp -dsimp only [go_sem, hw1], g, b, f, hb, by rw [ecu]; exact hf, by rw [ecu]; simp -dsimp only [go_sem, h5], by rw [ecu]⟩⟩
    · simp -dsimp only [go_sem, hk, h6, h5, hge, e0, hlt', e, r0, r1, r3, ht]
      have ecu : chUp x.recs tx (i + 1) = chUp x.recs tx i := by rw [hcu, ht]; simp
      exact ⟨hlt, into_rd (fun j => .inl rfl) (by omega) (by simp -dsimp only [go_sem, hk]) ⟨by simp -dsimp only [go_sem, hw1], g, b, f, hb, by rw [ecu]; exact hf, by rw [ecu]; simp -dsimp only [go_sem, h5], by rw [ecu]⟩⟩
  · have hge : ¬ (0 : Int) ≤ (x.recs.length : Int) - 1 - i := by omega
    have ecl := chUp_len x.recs tx i
    simp -dsimp only [go_sem, hk, h6, h5, hge]
    intro n5 hn5 hfc
    rw [rls_still hf.1]
    have hb5 := hfc.lt 7 g b (.node (.arr (chUp x.recs tx i).length 1) f) rfl
    have e2 : i = x.recs.length := by omega
    subst e2
    rw [chUp_all] at hf ecl ⊢
    exact .mk (hf.isL (by omega) hb hb5)
end Go.Proofs.Ytkigfigdoaoboaa.IM
end

section
/- The law of Chain. Printed by laws6.py. -/
namespace Go.Proofs.Ytkigfigdoaoboaa.IM
open Go Go.Proofs
set_option linter.unusedVariables false
set_option linter.unusedSimpArgs false
set_option maxHeartbeats 2000000
set_option maxRecDepth 20000

theorem heldInts_p (d : D) (n : Nat) (k : Int) (h : IsL 1 IsInt d (Md.mkInts k n)) (hk0 : 0 ≤ k) (hk1 : k + (n : Nat) ≤ 4611686018427387904) :
    PCall Try.prog 50 [d, .lit (.int .i64 k)] fun _ _ r => r = .lit (.int .i64 (k + (n : Nat))) := by
  have := heldIntS_p d _ k h (fun i hi => Md.mkInts_get _ _ _ hi) hk0 (by rw [Md.mkInts_length]; omega)
  rw [Md.mkInts_length, Nat.one_mul] at this
  exact this
theorem chain_len (x : Md.Log) (tx : Int) : (Md.chain x tx).length ≤ x.recs.length := by rw [← chUp_all]; exact chUp_len _ _ _
theorem lawChain (d : D) (x : Md.Log) (tx : Int) (h : IsLog d x) : PCall Try.prog 7 [d, .lit (.int .i64 tx)] fun _ _ r => r = .lit (.bool true) := by
  have e := shp_log _ _ h
  have e1 := e.1
  have e2 := e.2.1
  have e3 := e.2.2.1
  have e4 := e.2.2.2
  refine pcall_intro_vt Try.func7 rfl (by decide) rfl (by decide) (by rw [Try.ntmps7]; simp) fun w0 M n0 hW hT => ivc_sound ?_; simp -dsimp only [Try.f7, go_sem, e1, e2, e3]
  have dT : d.tags (· < n0) := hT d (by simp) h.data
  intro g1 b1 hb1
  refine xcall_v (szLog_p _ _ h 1048576 (by decide) (by decide)) (by simp -dsimp only [go_sem, rl_still, e4]) (fun _ => trivial) fun n1 hn1 => ?_
  simp -dsimp only [go_sem]
  intro hb
  have hs : Md.szLog x ≤ 1048576 := by
    have := Md.szR_le _ _ hb
    omega
  simp -dsimp only [go_sem, e1, e2, e3]
  refine xcall_p (toLog_p _ _ h hs) (by simp -dsimp only [go_sem, rl_still, e4]) fun rlo rhi r hrlo hrhi hr => ?_
  have ro := hr.2
  have ri := hr.1
  have rp := shp_log _ _ ri
  have rp1 := rp.1
  have rp2 := rp.2.1
  have rp3 := rp.2.2.1
  have rp4 := rp.2.2.2
  refine ⟨ro.tags, ?_⟩
  simp -dsimp only [go_sem, e1, e2, e3, rp1, rp2, rp3]
  refine xcall_p (specChain_p _ _ tx ri hs ri.data) (by simp -dsimp only [go_sem, rl_still, rp4]) fun vlo vhi v hvlo hvhi hvw => ?_
  have hv := hvw.out
  have vo := hv.2
  have vi := hv.1
  have vp1 := vi.size
  have vp2 := vi.isNode
  have vp3 := vi.plain
  have vp4 := vi.still
  refine ⟨vo.tags, ?_⟩
  simp -dsimp only [go_sem, e1, e2, e3, rp1, rp2, rp3, vp1, vp2, vp3]
  refine xcall_p (toLog_p _ _ h hs) (by simp -dsimp only [go_sem, rl_still, e4]) fun xvlo xvhi xv hxvlo hxvhi hxv => ?_
  have xvo := hxv.2
  have xvi := hxv.1
  have xvp := shp_log _ _ xvi
  have xvp1 := xvp.1
  have xvp2 := xvp.2.1
  have xvp3 := xvp.2.2.1
  have xvp4 := xvp.2.2.2
  refine ⟨xvo.tags, ?_⟩
  simp -dsimp only [go_sem, e1, e2, e3, vp1, vp2, vp3, xvp1, xvp2, xvp3]
  intro g12 b12 hb12
  refine xcall_p (chain_p _ _ tx xvi hs xvi.data) (by simp -dsimp only [go_sem, rl_still, xvp4]) fun ylo yhi y hylo hyhi hyw => ?_
  have hy := hyw.out
  have yo := hy.2
  have yi := hy.1
  have yp1 := yi.size
  have yp2 := yi.isNode
  have yp3 := yi.plain
  have yp4 := yi.still
  refine ⟨yo.tags, ?_⟩
  simp -dsimp only [go_sem, e1, e2, e3, vp1, vp2, vp3, xvp1, xvp2, xvp3, yp1, yp2, yp3]
  refine xcall_v (eqIntS_p _ _ _ yi vi) (by simp -dsimp only [go_sem, rl_still, yp4, vp4]) (fun _ => trivial) fun n4 hn4 => ?_
  simp -dsimp only [go_sem, e1, e2, e3, vp1, vp2, vp3, xvp1, xvp2, xvp3, yp1, yp2, yp3, bne_self_eq_false, Bool.not_true, Bool.not_false, Bool.false_eq_true, Bool.true_eq_false, false_imp_iff, true_and, and_true, forall_const, reduceCtorEq]
  refine iwp_plan [(0, true), (1, true), (2, false), (3, false), (4, true)] [2, 7] rfl (by decide +kernel) (by decide) [] (by decide +kernel) ?_
  simp -dsimp only [go_sem, e1, e2, e3, vp1, vp2, vp3, xvp1, xvp2, xvp3, yp1, yp2, yp3]
  refine xcall_p (toLog_p _ _ h hs) (by simp -dsimp only [go_sem, rl_still, e4]) fun zlo zhi z hzlo hzhi hz => ?_
  have zo := hz.2
  have zi := hz.1
  have zp := shp_log _ _ zi
  have zp1 := zp.1
  have zp2 := zp.2.1
  have zp3 := zp.2.2.1
  have zp4 := zp.2.2.2
  refine ⟨zo.tags, ?_⟩
  simp -dsimp only [go_sem, e1, e2, e3, vp1, vp2, vp3, xvp1, xvp2, xvp3, yp1, yp2, yp3, zp1, zp2, zp3]
  refine xcall_v (eqLog_p _ _ _ xvi zi) (by simp -dsimp only [go_sem, rl_still, xvp4, zp4]) (fun _ => trivial) fun n4 hn4 => ?_
  simp -dsimp only [go_sem, e1, e2, e3, vp1, vp2, vp3, xvp1, xvp2, xvp3, yp1, yp2, yp3, zp1, zp2, zp3, bne_self_eq_false, Bool.not_true, Bool.not_false, Bool.false_eq_true, Bool.true_eq_false, false_imp_iff, true_and, and_true, forall_const, reduceCtorEq]
  have hcb : Md.cLog x ≤ 10 * Md.szLog x := cLog_le x
  have hz := chain_len x tx
  have hz2 := recs_le x
  have cfm16 : ∀ E, Carry xv E v v := fun E => carry_own xvo vo (.inr (by omega))
  have cfm18 : ∀ E, Carry xv E y y := fun E => carry_own xvo yo (.inl (by omega))
  refine xcall_mk (markLog_p xv x (1) _ _ xvi xvo (by decide) (by omega)) (by simp -dsimp only [go_sem, e1, e2, e3, vp1, vp2, vp3, xvp1, xvp2, xvp3, yp1, yp2, yp3]) xvp3 xvp4 ⟨trivial, trivial⟩ (fun t ht => hW t (by have := xvo.rg t ht; omega)) [1, 9, 2, 7, 6, 8] (fun _ _ => .any) (fun E => upd (upd (fun _ => none) 2 (some (g1, b1, d))) 7 (some (g12, b12, E))) fun m1 nm1 hnm1 hm1 =>
      ⟨by simp -dsimp only [go_sem, e1, e2, e3, vp1, vp2, vp3, xvp1, xvp2, xvp3, yp1, yp2, yp3, cfm16, cfm18], carry_any, ((CarR.none _ _ _).upd e3 (carry_lo xvo (by omega) dT)).upd (shp_log _ _ hm1.rel).2.2.1 .here, ?_⟩
  have m1p := shp_log _ _ hm1.rel
  have m1p1 := m1p.1
  have m1p2 := m1p.2.1
  have m1p3 := m1p.2.2.1
  have m1p4 := m1p.2.2.2
  have m1o := hm1.own xvo
  have m1i := hm1.rel
  have hk : ¬ (1 + (Md.cLog x : Nat) < (0 : Int)) := by omega
  simp -dsimp only [go_sem, e1, e2, e3, vp1, vp2, vp3, xvp1, xvp2, xvp3, yp1, yp2, yp3, m1p1, m1p2, m1p3, hk, bne_self_eq_false, Bool.not_true, Bool.not_false, Bool.false_eq_true, Bool.true_eq_false, false_imp_iff, true_and, and_true, forall_const, reduceCtorEq, decide_false]
  refine xcall_v (eqIntS_p _ _ _ yi vi) (by simp -dsimp only [go_sem, rl_still, yp4, vp4]) (fun _ => trivial) fun n4 hn4 => ?_
  simp -dsimp only [go_sem, e1, e2, e3, vp1, vp2, vp3, xvp1, xvp2, xvp3, yp1, yp2, yp3, m1p1, m1p2, m1p3, hk, decide_false, bne_self_eq_false, Bool.not_true, Bool.not_false, Bool.false_eq_true, Bool.true_eq_false, false_imp_iff, true_and, and_true, forall_const, reduceCtorEq]
  have cfm36 : ∀ E, Carry y E v v := fun E => carry_own yo vo (.inr (by omega))
  refine xcall_mk (markIntS_p y _ (1) _ _ yi yo (by decide) (by omega)) (by simp -dsimp only [go_sem, e1, e2, e3, vp1, vp2, vp3, xvp1, xvp2, xvp3, yp1, yp2, yp3, m1p1, m1p2, m1p3, hk]) yp3 yp4 ⟨trivial, trivial⟩ (fun t ht => hW t (by have := yo.rg t ht; omega)) [1, 9, 2, 7, 6] (fun E => upd (fun _ => .any) 8 E) (fun E => upd (upd (fun _ => none) 2 (some (g1, b1, d))) 7 (some (g12, b12, m1))) fun m3 nm3 hnm3 hm3 =>
      ⟨by simp -dsimp only [go_sem, e1, e2, e3, vp1, vp2, vp3, xvp1, xvp2, xvp3, yp1, yp2, yp3, m1p1, m1p2, m1p3, hk, cfm36], carry_upd (by simp -dsimp only [go_sem, e1, e2, e3, vp1, vp2, vp3, xvp1, xvp2, xvp3, yp1, yp2, yp3, m1p1, m1p2, m1p3, hk]; exact .here) carry_any, ((CarR.none _ _ _).upd e3 (carry_lo yo (by omega) dT)).upd m1p3 (carry_own yo m1o (.inr (by omega))), ?_⟩
  have m3p1 := hm3.rel.size
  have m3p2 := hm3.rel.isNode
  have m3p3 := hm3.rel.plain
  have m3p4 := hm3.rel.still
  have m3o := hm3.own yo
  have m3i := hm3.rel
  simp -dsimp only [go_sem, e1, e2, e3, vp1, vp2, vp3, xvp1, xvp2, xvp3, yp1, yp2, yp3, m1p1, m1p2, m1p3, hk, m3p1, m3p2, m3p3]
  refine xcall_v (heldInts_p _ _ (1) m3i (by decide) (by omega)) (by simp -dsimp only [go_sem, rl_still, m3p4]) (fun _ => trivial) fun n7 hn7 => ?_
  have hk2 : ¬ (1 + ((Md.chain x tx).length : Nat) < (0 : Int)) := by omega
  simp -dsimp only [go_sem, e1, e2, e3, vp1, vp2, vp3, xvp1, xvp2, xvp3, yp1, yp2, yp3, m1p1, m1p2, m1p3, hk, m3p1, m3p2, m3p3, hk2, bne_self_eq_false, Bool.not_true, Bool.not_false, Bool.false_eq_true, Bool.true_eq_false, false_imp_iff, true_and, and_true, forall_const, reduceCtorEq, decide_false]
  refine xcall_p (toLog_p _ _ h hs) (by simp -dsimp only [go_sem, rl_still, e4]) fun r2lo r2hi r2 hr2lo hr2hi hr2 => ?_
  have r2o := hr2.2
  have r2i := hr2.1
  have r2p := shp_log _ _ r2i
  have r2p1 := r2p.1
  have r2p2 := r2p.2.1
  have r2p3 := r2p.2.2.1
  have r2p4 := r2p.2.2.2
  refine ⟨r2o.tags, ?_⟩
  simp -dsimp only [go_sem, e1, e2, e3, vp1, vp2, vp3, xvp1, xvp2, xvp3, yp1, yp2, yp3, m1p1, m1p2, m1p3, hk, m3p1, m3p2, m3p3, hk2, r2p1, r2p2, r2p3]
  refine xcall_p (chain_p _ _ tx r2i hs r2i.data) (by simp -dsimp only [go_sem, rl_still, r2p4]) fun hvlo hvhi hv hhvlo hhvhi hhvw => ?_
  have hhv := hhvw.out
  have hvo := hhv.2
  have hvi := hhv.1
  have hvp1 := hvi.size
  have hvp2 := hvi.isNode
  have hvp3 := hvi.plain
  have hvp4 := hvi.still
  refine ⟨hvo.tags, ?_⟩
  simp -dsimp only [go_sem, e1, e2, e3, vp1, vp2, vp3, xvp1, xvp2, xvp3, yp1, yp2, yp3, m1p1, m1p2, m1p3, hk, m3p1, m3p2, m3p3, hk2, r2p1, r2p2, r2p3, hvp1, hvp2, hvp3]
  refine xcall_v (eqIntS_p _ _ _ hvi vi) (by simp -dsimp only [go_sem, rl_still, hvp4, vp4]) (fun _ => trivial) fun n4 hn4 => ?_
  simp -dsimp only [go_sem, e1, e2, e3, vp1, vp2, vp3, xvp1, xvp2, xvp3, yp1, yp2, yp3, m1p1, m1p2, m1p3, hk, m3p1, m3p2, m3p3, hk2, hvp1, hvp2, hvp3, decide_false, bne_self_eq_false, Bool.not_true, Bool.not_false, Bool.false_eq_true, Bool.true_eq_false, false_imp_iff, true_and, and_true, forall_const, reduceCtorEq]
  refine xcall_v (heldInts_p _ _ (1) m3i (by decide) (by omega)) (by simp -dsimp only [go_sem, rl_still, m3p4]) (fun _ => trivial) fun n9 hn9 => ?_
  simp -dsimp only [go_sem, e1, e2, e3, vp1, vp2, vp3, xvp1, xvp2, xvp3, yp1, yp2, yp3, m1p1, m1p2, m1p3, hk, m3p1, m3p2, m3p3, hk2, hvp1, hvp2, hvp3, bne_self_eq_false, Bool.not_true, Bool.not_false, Bool.false_eq_true, Bool.true_eq_false, false_imp_iff, true_and, and_true, forall_const, reduceCtorEq, decide_false]
end Go.Proofs.Ytkigfigdoaoboaa.IM
end
