/- Several of my texts in one module (merge.py, shake.py). -/
import Derived.Test.YtncinhlaabdlaaaGreatGtA5
import Derived.Test.YtncinhlaabdlaaaGreatGtB37
import Derived.Test.YtncinhlaabdlaaaGreatGtB43
import Derived.Test.YtncinhlaabdlaaaGreatGtB9
import Derived.Test.YtncinhlaabdlaaaGreatGtA3
section
namespace Go.Proofs.YtncinhlaabdlaaaGreat.IM
open Go Go.Proofs
set_option linter.unusedVariables false
set_option linter.unusedSimpArgs false
set_option maxHeartbeats 2000000
set_option maxRecDepth 20000
theorem vcL_T {P : Program} {W : Nat → Prop} {K : St → Prop} {l' l : List Oper} {st : St} : vcL P W l'.toArray K l st = wSome (some (gsT l')) fun gs => vcLT P W gs K l st := by
  rw [vcL_gs]; rfl
theorem backRec_it : BackIt Tryz.prog 240 15 107 := by
  refine back_it (N := 19) Tryz.func240 rfl (by rw [Tryz.ntmps240]) (by decide) rfl (split_at (k := 6) rfl) ⟨rfl, rfl, rfl⟩ (by decide) (by decide) ?_ ?_ ?_ ?_ ?_
  · intro l d n f hrow hn w0 M
    unfold itS0
    rcases hrow with ⟨rfl, rfl⟩ | ⟨t, zb, rfl⟩
    · simp -dsimp only [go_sem]
      rw [IntKind.wrap_i64]; omega
    · simp -dsimp only [go_sem]
      rw [IntKind.wrap_i64]; omega
  · intro l d i w0 M h1 h2
    unfold itS
    simp -dsimp only [go_sem]
    omega
  · intro l d i w0 M h1 h2
    unfold itS
    simp -dsimp only [go_sem]
    rw [IntKind.wrap_i64]; omega
  · intro l d n f i hrow hn hty hi w0 M K hK
    unfold itS
    rcases hrow with ⟨rfl, rfl⟩ | ⟨t, zb, rfl⟩
    · omega
    · simp only [List.take_succ_cons, List.take_zero]
      rw [vcL_T]
      simp -dsimp only [go_sem, hty, hi]
      exact hK _ (by simp -dsimp only [go_sem]) (by simp -dsimp only [go_sem]) (by simp -dsimp only [go_sem]) (by simp -dsimp only [go_sem])
  · intro i bb w0 M h1 h2
    unfold endS
    simp only [List.drop_succ_cons, List.drop_zero, Nat.reduceAdd]
    rw [vcL_T]
    cases bb
    · simp -dsimp only [go_sem]
    · simp -dsimp only [go_sem]
theorem backRec_p (d : D) (hd : d.still) (hp : d.plain) : PCall Tryz.prog 232 [d] fun _ _ r => r = .fn 240 1 (capD (.cptr d)) := by
  refine pcall_intro_v Tryz.func232 rfl (by decide) rfl (by decide) (by rw [Tryz.ntmps232]; simp) fun w0 M n0 => ivc_sound ?_; simp -dsimp only [Tryz.f232, go_sem]
  refine ⟨hp, fun g b hb => ?_⟩
  rw [rl_still hd]
theorem enters_run {P : Program} {f : FuncId} {fn : Func} (hf : P.funcs[f]? = some fn) (hb : fn.body.isNone = false) (hn : (fn.name == "runtime.NumGoroutine") = false) (args : Array Value) (w : World) : (callFunc f args).run P w = .ok (.enter f args) w := by
  simp only [callFunc]
  rw [Sem.run_bind, run_program, Result.andThen_ok]
  simp [hf, hb, hn]
def rowF : D → Nat → D
  | .sl _ _ _ _ f => f
  | _ => fun _ => .any
theorem IsL.row {α : Type} {R : D → α → Prop} {sz : Nat} {d : D} {xs : List α} (h : IsL sz R d xs) : IsRow sz d xs.length (rowF d) := by
  rcases h with ⟨rfl, rfl⟩ | ⟨t, zb, f, rfl, _, _, _⟩
  · exact .inl ⟨rfl, rfl⟩
  · exact .inr ⟨t, zb, rfl⟩
theorem IsL.rowAt {α : Type} {R : D → α → Prop} {sz : Nat} {d : D} {xs : List α} (h : IsL sz R d xs) (i : Nat) (hi : i < xs.length) : R (rowF d i) xs[i] := by
  rcases h with ⟨rfl, rfl⟩ | ⟨t, zb, f, rfl, _, _, hf⟩
  · exact absurd hi (Nat.not_lt_zero i)
  · exact hf i hi
theorem IsL.rowData {α : Type} {R : D → α → Prop} {sz : Nat} {d : D} {xs : List α} (h : IsL sz R d xs) (hd : d.data) (i : Nat) (hi : i < xs.length) : (rowF d i).data := by
  rcases h with ⟨rfl, rfl⟩ | ⟨t, zb, f, rfl, _, _, hf⟩
  · exact absurd hi (Nat.not_lt_zero i)
  · exact hd i hi
theorem recs_le (x : Md.Log) : x.recs.length ≤ Md.szLog x := Nat.le_add_right _ _
def isOwn (r : Md.Rec) (tx : Int) : Bool := r.tx == tx && r.kind != 6
def lastLGo (rs : List Md.Rec) (tx : Int) : Nat → Int
  | 0 => 0
  | n + 1 => if isOwn (rs.getD n Md.zRec) tx then (rs.getD n Md.zRec).lsn else lastLGo rs tx n
def lastL (x : Md.Log) (tx : Int) : Int := lastLGo x.recs tx x.recs.length
theorem lastLGo_yes {rs : List Md.Rec} {tx : Int} {n : Nat} (h : n < rs.length) (e : isOwn rs[n] tx = true) : lastLGo rs tx (n + 1) = rs[n].lsn := by rw [lastLGo, getD_at h, if_pos e]
theorem lastLGo_no {rs : List Md.Rec} {tx : Int} {n : Nat} (h : n < rs.length) (e : isOwn rs[n] tx = false) : lastLGo rs tx (n + 1) = lastLGo rs tx n := by rw [lastLGo, getD_at h, if_neg (by simp [e])]
theorem logOk_rec {x : Md.Log} (h : Md.logOk x = true) {i : Nat} (hi : i < x.recs.length) : x.recs[i].lsn = (i : Int) + 1 ∧ Md.recOk x.recs[i] = true := by
  unfold Md.logOk at h
  simp only [Bool.and_eq_true, List.all_eq_true] at h
  have := h.1.1 (x.recs[i], i) (by
    rw [List.mem_iff_getElem]
    exact ⟨i, by simpa using hi, by simp⟩)
  simpa using this
theorem recOk_tx {r : Md.Rec} (h : Md.recOk r = true) (h1 : 1 ≤ r.tx) : r.kind ≠ 6 := fun e => by
  unfold Md.recOk at h
  rw [if_pos e] at h
  simp only [Bool.and_eq_true, beq_iff_eq] at h
  have := h.2.1.1.1.1.1.1
  omega
theorem lastL_go {x : Md.Log} (h : Md.logOk x = true) {tx : Int} (h1 : 1 ≤ tx) : ∀ n, n ≤ x.recs.length → lastLGo x.recs tx n = (lastGo x.recs tx n : Nat)
  | 0, _ => rfl
  | n + 1, hn => by
    have hi : n < x.recs.length := hn
    obtain ⟨hl, hk⟩ := logOk_rec h hi
    by_cases ht : x.recs[n].tx = tx
    · have : isOwn x.recs[n] tx = true := by
        unfold isOwn
        rw [show (x.recs[n].tx == tx) = true by simpa using ht, Bool.true_and]
        exact bne_iff_ne.2 (recOk_tx hk (by omega))
      rw [lastLGo_yes hi this, lastGo_yes hi ht, hl]; omega
    · have : isOwn x.recs[n] tx = false := by
        unfold isOwn
        rw [show (x.recs[n].tx == tx) = false by simpa using ht, Bool.false_and]
      rw [lastLGo_no hi this, lastGo_no hi ht]
      exact lastL_go h h1 n (by omega)
theorem lastL_eq {x : Md.Log} (h : Md.logOk x = true) {tx : Int} (h1 : 1 ≤ tx) : lastL x tx = (lastN x tx : Nat) := lastL_go h h1 _ (Nat.le_refl _)
def loInv (n0 : Nat) (q : Nat → D) (g2 b2 g3 b3 g4 b4 : Nat) (tx : Int) (x : Md.Log) (k : Nat) (st : St) : Prop :=
  lastL x tx = lastLGo x.recs tx (x.recs.length - k) ∧ ∃ n' v, n0 ≤ n' ∧ st = ⟨23, n', upd (upd (upd (fun _ => .any) 4 (.ptr 4 g4 0 [])) 3 (.ptr 3 g3 0 [])) 2 (.ptr 2 g2 0 []),
    upd (upd (upd (fun _ => none) 4 (some (g4, b4, .lit (.int .i64 v)))) 3 (some (g3, b3, .lit (.int .i64 tx)))) 2 (some (g2, b2, .node (.agg [1, 1]) q))⟩
def loX (n0 : Nat) (q : Nat → D) (g2 b2 g3 b3 g4 b4 : Nat) (tx : Int) (x : Md.Log) (st : St) : Prop :=
  ∃ n', n0 ≤ n' ∧ st = ⟨23, n', upd (upd (upd (fun _ => .any) 4 (.ptr 4 g4 0 [])) 3 (.ptr 3 g3 0 [])) 2 (.ptr 2 g2 0 []),
    upd (upd (upd (fun _ => none) 4 (some (g4, b4, .lit (.int .i64 (lastL x tx))))) 3 (some (g3, b3, .lit (.int .i64 tx)))) 2 (some (g2, b2, .node (.agg [1, 1]) q))⟩
theorem lastOf_p (d : D) (x : Md.Log) (tx : Int) (h : IsLog d x) (hsz : Md.szLog x ≤ 1048576) (hd : d.data) : PCall Tryz.prog 215 [d, .lit (.int .i64 tx)] fun _ _ r => r = .lit (.int .i64 (lastL x tx)) := by
  have hs : x.recs.length ≤ 1048576 := Nat.le_trans (recs_le x) hsz
  have zp := shp_log _ _ h
  obtain ⟨q, rfl, hq, q0, q1⟩ := id h
  refine pcall_marks Tryz.func215 rfl (by decide) rfl (by decide) (by rw [Tryz.ntmps215]; simp) fun w0 M n0 a hn0 hdf hW hT hs0 => ?_
  rw [Tryz.ntmps215, St_start_eq] at hs0
  refine shape2 (L := (List.range 24).drop 2) (K := fun st => ∃ g2 b2 g3 b3 g4 b4 s n', n0 ≤ n' ∧ st = ⟨23, n', s, upd (upd (upd (fun _ => none) 2 (some (g2, b2, .node (.agg [1, 1]) q))) 3 (some (g3, b3, .lit (.int .i64 tx)))) 4 (some (g4, b4, .lit (.int .i64 0)))⟩ ∧ s 2 = .ptr 2 g2 0 [] ∧ s 3 = .ptr 3 g3 0 [] ∧ s 4 = .ptr 4 g4 0 [] ∧ s 9 = .fn 240 1 (capD (.cptr (q 0)))) hs0 hdf (by decide) ?_ ?_
  · simp -dsimp only [go_sem, zp.1, zp.2.1, zp.2.2.1, q0.size, q0.isNode, q0.plain, q0.lenT]
    intro g2 b2 hb2 g3 b3 hb3 g4 b4 hb4
    refine xcall_i (backRec_p (q 0) (hq 0) q0.plain) (by simp -dsimp only [go_sem]) ⟨hq 0, trivial⟩ fun m0 m1 r hm0 hm1 hr => ?_
    subst hr
    refine ⟨still_cap (show (D.cptr (q 0)).still from hq 0), ?_⟩
    simp -dsimp only [go_sem]
    exact ⟨g2, b2, g3, b3, g4, b4, _, m1, by omega, rfl, by simp -dsimp only [go_sem], by simp -dsimp only [go_sem], by simp -dsimp only [go_sem], by simp -dsimp only [go_sem]⟩
  · rintro st' a' w' ⟨g2, b2, g3, b3, g4, b4, s, n', hn9, rfl, s2, s3, s4, s9⟩ hs' hdf'
    refine wpIn_block ?_
    have hrow : IsRow 15 (q 0) x.recs.length (rowF (q 0)) := q0.row
    have hsr : ∀ i (hi : i < x.recs.length), IsRec (rowF (q 0) i) x.recs[i] := q0.rowAt
    have hdq : (q 0).data := hd 0 (by decide)
    have hdr := q0.rowData hdq
    have hnpI : ∀ v n1, (⟨23, n1, upd (upd (upd (fun _ => .any) 4 (.ptr 4 g4 0 [])) 3 (.ptr 3 g3 0 [])) 2 (.ptr 2 g2 0 []), upd (upd (upd (fun _ => none) 4 (some (g4, b4, .lit (.int .i64 v)))) 3 (some (g3, b3, .lit (.int .i64 tx)))) 2 (some (g2, b2, .node (.agg [1, 1]) q))⟩ : St).np := fun v n1 =>
      ⟨np_upd (np_upd (np_upd (fun _ => trivial) trivial) trivial) trivial, ((NpR.none.upd (show (D.lit _).np from trivial)).upd (show (D.lit _).np from trivial)).upd (data_np hd)⟩
    refine range_core [2, 3, 4] [2, 3, 4] (sz := 15) (T := 107) (L := [5, 6, 10, 11, 12, 13, 14, 15, 16, 17, 18, 19, 20, 21, 22]) (d := q 0) (n := x.recs.length) (f := rowF (q 0)) hs' hdf' s9 rfl hrow (by omega)
      (fun i hi => ⟨?_, hdr i hi⟩) hdq (by decide) (by decide) (by decide) (show 10 < 23 by decide) (show 11 < 23 by decide) (by decide) (by decide) backRec_it ?_ (loInv n0 q g2 b2 g3 b3 g4 b4 tx x) (loX n0 q g2 b2 g3 b3 g4 b4 tx x) ?_ ?_ ?_ ?_ ?_ ?_
    · have rp := shp_rec _ _ (hsr i hi)
      simp -dsimp only [go_sem, rp.1, rp.2.1, rp.2.2.1]
    · exact enters_run Tryz.func240 rfl (by decide)
    · rintro k st1 ⟨_, n1, v, h8, rfl⟩
      exact ⟨hnpI v n1, rfl⟩
    · rintro st1 ⟨n1, h8, rfl⟩
      exact hnpI _ n1
    · simp -dsimp only [go_sem, s2, s3, s4]
      exact ⟨rfl, n', 0, hn9, rfl⟩
    · rintro k st1 hk ⟨hlk, n1, v, h8, rfl⟩ w1 M1 hW1
      have hlt : x.recs.length - 1 - k < x.recs.length := by omega
      have hr := hsr _ hlt
      have rp := shp_rec _ _ hr
      obtain ⟨qr, e, hqr, r0, r1, r2, r3, r4, r5, r6, r7, r8⟩ := id hr
      have r0 : qr 0 = _ := r0
      have r1 : qr 1 = _ := r1
      have r3 : qr 3 = _ := r3
      have hdr' := hdr _ hlt
      rw [e] at rp hdr' ⊢
      simp -dsimp only [go_sem, rp.1, rp.2.1, rp.2.2.1]
      intro g7 b7 hb7
      have hnpr : (D.node (.agg [1, 1, 1, 1, 1, 4, 4, 1, 1]) qr).np := data_np hdr'
      refine ⟨⟨np_upd (np_upd (np_upd (np_upd (np_upd (np_upd (fun _ => trivial) trivial) trivial) trivial) trivial) hnpr) trivial, (((NpR.none.upd (show (D.lit _).np from trivial)).upd (show (D.lit _).np from trivial)).upd (data_np hd)).upd hnpr⟩, fun w2 M2 hW2 => ?_⟩
      have e1 : x.recs.length - k = x.recs.length - 1 - k + 1 := by omega
      have e2 : x.recs.length - (k + 1) = x.recs.length - 1 - k := by omega
      have hyes := lastLGo_yes (tx := tx) hlt
      have hno := lastLGo_no (tx := tx) hlt
      rw [e1] at hlk
      unfold isOwn at hyes hno
      generalize x.recs[x.recs.length - 1 - k] = r at hr r0 r1 r2 r3 r4 r5 r6 r7 r8 hyes hno
      rcases Bool.eq_false_or_eq_true (r.tx == tx) with ht | ht
      · rcases Bool.eq_false_or_eq_true (r.kind != 6) with hk6 | hk6
        · simp -dsimp only [go_sem, r0, r1, r3, ht, hk6]
          exact .inr ⟨b7 + 1, by omega, by rw [hlk, hyes (by rw [ht, hk6]; rfl)]⟩
        · simp -dsimp only [go_sem, r0, r1, r3, ht, hk6]
          exact .inl ⟨by rw [hlk, hno (by rw [ht, hk6]; rfl), e2], b7 + 1, v, by omega, rfl⟩
      · simp -dsimp only [go_sem, r0, r1, r3, ht]
        exact .inl ⟨by rw [hlk, hno (by rw [ht]; rfl), e2], b7 + 1, v, by omega, rfl⟩
    · rintro Dm W' st2 hDw ⟨hlk, n1, v, h8, rfl⟩ hs2 hD
      refine tail_m (L := [5, 6]) hs2 rfl hD (Nat.le_trans (sr_keep hs').size hDw) (by decide) fun w1 M1 hW1 => ?_
      have hz : lastL x tx = 0 := by rw [hlk, Nat.sub_self]; rfl
      simp -dsimp only [go_sem]
      exact ⟨hnpI 0 n1, fun n5 hn5 hfc => hz.symm⟩
    · rintro Dm W' st2 hDw ⟨n1, h8, rfl⟩ hs2 hD
      refine ⟨.inl rfl, Dm, _, rfl, hD, Nat.le_trans (sr_keep hs').size hDw, hnpI _ n1, hs2, ?_, fun n5 hn5 hfc => ?_⟩
      · simp -dsimp only [go_sem]
      · simp -dsimp only [go_sem]
def greatTx (rs : List Md.Rec) : Nat → Int
  | 0 => 0
  | n + 1 => max (greatTx rs n) (rs.getD n Md.zRec).tx
theorem greatTx_lt {rs : List Md.Rec} {m : Int} (hm : 0 < m) : ∀ n, (greatTx rs n < m ↔ ∀ i, i < n → (rs.getD i Md.zRec).tx < m)
  | 0 => ⟨fun _ i hi => absurd hi (Nat.not_lt_zero i), fun _ => hm⟩
  | n + 1 => by
    have ih := greatTx_lt (rs := rs) hm n
    constructor
    · intro h i hi
      have h : max (greatTx rs n) (rs.getD n Md.zRec).tx < m := h
      rcases Nat.lt_or_ge i n with h1 | h1
      · exact ih.1 (by omega) i h1
      · obtain rfl : i = n := by omega
        omega
    · intro h
      have h1 := ih.2 fun i hi => h i (by omega)
      have h2 := h n (Nat.lt_succ_self n)
      show max (greatTx rs n) (rs.getD n Md.zRec).tx < m
      omega
theorem into_kd {w0 : World} {M : Fr} {N n n' : Nat} {R R' : Roots} {s0 s : Nat → D} {K : List Nat} {J : (Nat → D) → Prop} (hR : ∀ j, R' j = R j ∨ R' j = none) (hn : n ≤ n') (hk : keepL s s0 K) (hJ : J s) :
    Into w0 M ⟨N, n', s, R⟩ (RoundK N n R' s0 K J) :=
  Into.le ⟨N, n', s, R'⟩ ⟨rfl, Nat.le_refl _, fun t => .inl rfl, hR⟩ (into_k hn hk hJ)
theorem drop_two {R : Roots} {a b : Nat} {x y : Option (Nat × Nat × D)} (ha : R a = none) (hb : R b = none) (j : Nat) : R j = upd (upd R a x) b y j ∨ R j = none := by
  by_cases h1 : j = b
  · subst h1; exact .inr hb
  · by_cases h2 : j = a
    · subst h2; exact .inr ha
    · left; rw [upd_ne _ _ h1, upd_ne _ _ h2]
theorem greatestTx_p (d : D) (x : Md.Log) (h : IsLog d x) (hs : x.recs.length ≤ 1048576) : PCall Tryz.prog 95 [d] fun _ _ r => r = .lit (.int .i64 (greatTx x.recs x.recs.length)) := by
  have zp := shp_log _ _ h
  obtain ⟨q, rfl, hq, q0, q1⟩ := id h
  refine pcall_intro_v Tryz.func95 rfl (by decide) rfl (by decide) (by rw [Tryz.ntmps95]; simp) fun w0 M n0 => ivc_sound ?_; simp -dsimp only [Tryz.f95, go_sem, zp.1, zp.2.1, zp.2.2.1, q0.size, q0.isNode, q0.plain, q0.lenT]
  intro g2 b2 hb2
  refine iwp_forK x.recs.length [2, 7, 8] (fun i s => s 9 = .lit (.int .i64 i) ∧ s 3 = .lit (.int .i64 (greatTx x.recs i))) 0 (Nat.zero_le _) ⟨by simp -dsimp only [go_sem]; rfl, by simp -dsimp only [go_sem]; rfl⟩ ?_
  rintro i n' s hi hn hk ⟨h9, h3⟩
  refine ivc_sound ?_
  simp -dsimp only [go_sem] at hk
  by_cases hlt : i < x.recs.length
  · obtain ⟨t, zb, fi, hfe, hst', hf'⟩ := q0.sl hlt
    have hre := hf' i hlt
    have pr := shp_rec _ _ hre
    obtain ⟨k, hkk, hks, k0, k1, _⟩ := id hre
    have k1 : k 1 = _ := k1
    have hw := i64_succ (i := i) (by omega)
    rw [hkk] at pr
    have eg := getD_at (z := Md.zRec) hlt
    have e1 : max (greatTx x.recs i) x.recs[i].tx = greatTx x.recs (i + 1) := by rw [← eg]; rfl
    simp -dsimp only [go_sem, hk, h9, h3, hlt, hfe, hkk, pr.1, pr.2.1, pr.2.2.1]
    intro g5 b5 hb5
    simp -dsimp only [go_sem, hk, h9, h3, k1, hw]
    exact into_k1 rfl (by omega) (by simp -dsimp only [go_sem, hk, hfe]) ⟨by simp -dsimp only [go_sem], by simp -dsimp only [go_sem, e1]⟩
  · simp -dsimp only [go_sem, hk, h9, h3, hlt]
    rw [show i = x.recs.length by omega]
theorem txAt1_p (d : D) (x : Md.Live) (tx : Int) (h : IsLive d x) : PCall Tryz.prog 136 [d, .cptr (.lit (.int .i64 tx))] fun _ _ r => r = .lit (.bool (x.tx == tx)) := by
  obtain ⟨k, hkk, hks, k0, k1, k2⟩ := h
  have k0 : k 0 = _ := k0
  refine pcall_intro_v Tryz.func136 rfl (by decide) rfl (by decide) (by rw [Tryz.ntmps136]; simp) fun w0 M n0 => ivc_sound ?_; simp -dsimp only [Tryz.f136, go_sem, hkk, k0]
  repeat' (first | refine ⟨?_, ?_⟩ | with_reducible intro _)
theorem txAt_p (d : D) (x : Md.Engine) (tx : Int) (h : IsEngine d x) : PCall Tryz.prog 61 [d, .lit (.int .i64 tx)] fun _ _ r => r = .lit (.int .i64 (liveAt x.txs tx)) := by
  have zp := shp_engine _ _ h
  obtain ⟨q, rfl, hq, q0, q1, q2, q3, q4, q5, q6⟩ := id h
  refine pcall_intro_v Tryz.func61 rfl (by decide) rfl (by decide) (by rw [Tryz.ntmps61]; simp) fun w0 M n0 => ivc_sound ?_; simp -dsimp only [Tryz.f61, go_sem, zp.1, zp.2.1, zp.2.2.1, q3.size, q3.isNode, q3.plain]
  intro g1 b1 hb1 g2 b2 hb2
  refine xcall_v (indexFunc_Live shp_live x.txs _ q3 136 1 (capD (.cptr (.lit (.int .i64 tx)))) (fun s => s.tx == tx) (still_cap trivial) fun x _ dx hx => txAt1_p dx x tx hx)
    (by simp -dsimp only [go_sem, rl_cap, rl_still, q3.still]) (fun _ => trivial) fun n2 hn2 => ?_
  simp -dsimp only [go_sem]
  rfl
theorem holdAt1_p (d : D) (x : Md.Hold) (oid : Int) (h : IsHold d x) : PCall Tryz.prog 134 [d, .cptr (.lit (.int .i64 oid))] fun _ _ r => r = .lit (.bool (x.oid == oid)) := by
  obtain ⟨k, hkk, hks, k0, k1⟩ := h
  have k1 : k 1 = _ := k1
  refine pcall_intro_v Tryz.func134 rfl (by decide) rfl (by decide) (by rw [Tryz.ntmps134]; simp) fun w0 M n0 => ivc_sound ?_; simp -dsimp only [Tryz.f134, go_sem, hkk, k1]
  repeat' (first | refine ⟨?_, ?_⟩ | with_reducible intro _)
theorem implHoldAt_p (d : D) (x : Md.Engine) (oid : Int) (h : IsEngine d x) : PCall Tryz.prog 60 [d, .lit (.int .i64 oid)] fun _ _ r => r = .lit (.int .i64 (holdAt x.holds oid)) := by
  have zp := shp_engine _ _ h
  obtain ⟨q, rfl, hq, q0, q1, q2, q3, q4, q5, q6⟩ := id h
  refine pcall_intro_v Tryz.func60 rfl (by decide) rfl (by decide) (by rw [Tryz.ntmps60]; simp) fun w0 M n0 => ivc_sound ?_; simp -dsimp only [Tryz.f60, go_sem, zp.1, zp.2.1, zp.2.2.1, q4.size, q4.isNode, q4.plain]
  intro g1 b1 hb1 g2 b2 hb2
  refine xcall_v (indexFunc_Hold shp_hold x.holds _ q4 134 1 (capD (.cptr (.lit (.int .i64 oid)))) (fun s => s.oid == oid) (still_cap trivial) fun x _ dx hx => holdAt1_p dx x oid hx)
    (by simp -dsimp only [go_sem, rl_cap, rl_still, q4.still]) (fun _ => trivial) fun n2 hn2 => ?_
  simp -dsimp only [go_sem]
  rfl
theorem sameSlot2_p (d d' : D) (x y : Md.Slot) (h : IsSlot d x) (h' : IsSlot d' y) : PCall Tryz.prog 235 [d, d'] fun _ _ r => r = .lit (.bool (sameS x y)) := by
  obtain ⟨f, rfl, hst, k0, k1⟩ := h
  obtain ⟨f', rfl, hst', l0, l1⟩ := h'
  have k0 : f 0 = _ := k0
  have l0 : f' 0 = _ := l0
  have q := shp_obj _ _ k1
  have q' := shp_obj _ _ l1
  refine pcall_intro_v Tryz.func235 rfl (by decide) rfl (by decide) (by rw [Tryz.ntmps235]; simp) fun w0 M n0 => ivc_sound ?_; simp -dsimp only [Tryz.f235, go_sem, k0, l0, q.1, q.2.1, q'.1, q'.2.1]
  intro g1 b1 hb1 g2 b2 hb2
  rcases Bool.eq_false_or_eq_true (x.has == y.has) with c1 | c1
  rotate_left
  · simp -dsimp only [go_sem, c1]
    simp [sameS, c1]
  simp -dsimp only [go_sem, c1, q.1, q.2.1, q.2.2.1, q'.1, q'.2.1, q'.2.2.1]
  refine xcall_v (implSameObj_p _ _ _ _ k1 l1) (by simp -dsimp only [go_sem, rl_still, q.2.2.2, q'.2.2.2]) (fun _ => trivial) fun n1 hn1 => ?_
  simp -dsimp only [go_sem]
  simp [sameS, c1]
theorem equalFunc_p (d d' : D) (xs ys : List Md.Slot) (h : IsL 4 IsSlot d xs) (h' : IsL 4 IsSlot d' ys) (hx : xs.length = 4) (hy : ys.length = 4) : PCall Tryz.prog 234 [d, d', .fn 235 0 fun _ => .any] fun _ _ r => r = .lit (.bool (allR 4 fun i => sameS (xs.getD i Md.zSlot) (ys.getD i Md.zSlot))) := by
  refine pcall_intro_v Tryz.func234 rfl (by decide) rfl (by decide) (by rw [Tryz.ntmps234]; simp) fun w0 M n0 => ivc_sound ?_; simp -dsimp only [Tryz.f234, go_sem, h.lenT, h'.lenT, hx, hy, bne_self_eq_false, Bool.false_eq_true]
  refine iwp_forK 4 [1, 2, 15, 16] (fun i s => s 17 = .lit (.int .i64 i) ∧ ∀ j, j < i → sameS (xs.getD j Md.zSlot) (ys.getD j Md.zSlot) = true) 0 (Nat.zero_le _) ⟨by simp -dsimp only [go_sem]; rfl, fun j hj => absurd hj (by omega)⟩ ?_
  rintro i n' s hi hn hk ⟨h17, hall⟩
  refine ivc_sound ?_
  simp -dsimp only [go_sem] at hk
  by_cases hlt : i < 4
  · have hc : (i : Int) < ((4 : Nat) : Int) := by omega
    have hxi : i < xs.length := by omega
    have hyi : i < ys.length := by omega
    obtain ⟨t, zb, f, e, hst, hf⟩ := h.sl hxi
    obtain ⟨t', zb', f', e', hst', hf'⟩ := h'.sl hyi
    have sx := hf i hxi
    have sy := hf' i hyi
    have px := shp_slot _ _ sx
    have py := shp_slot _ _ sy
    have hw := i64_succ (i := i) (by omega)
    have ex := getD_at (z := Md.zSlot) hxi
    have ey := getD_at (z := Md.zSlot) hyi
    rw [hx] at e
    rw [hy] at e'
    simp -dsimp only [go_sem, hk, h17, hc, hlt, e, e', px.1, px.2.1, px.2.2.1]
    intro g8 b8 hb8
    simp -dsimp only [go_sem, hk, e', hc, hlt, py.1, py.2.1, py.2.2.1]
    intro g9 b9 hb9
    refine xcall_v (sameSlot2_p _ _ _ _ sx sy) (by simp -dsimp only [go_sem, rl_still, px.2.2.2, py.2.2.2]) (fun _ => trivial) fun n1 hn1 => ?_
    simp -dsimp only [go_sem, hk, h17, hw]
    refine ⟨fun hb => ?_, fun hb => into_kd (drop_two rfl rfl) (by omega) (by simp -dsimp only [go_sem, hk, e, e']) ⟨by simp -dsimp only [go_sem], fun j hj => ?_⟩⟩
    · rw [allR_false hlt (by rw [ex, ey]; simpa using hb)]
    · rcases Nat.lt_or_ge j i with h2 | h2
      · exact hall j h2
      · obtain rfl : j = i := by omega
        rw [ex, ey]; simpa using hb
  · have hc : ¬ (i : Int) < ((4 : Nat) : Int) := by omega
    simp -dsimp only [go_sem, hk, h17, hc, hlt]
    rw [allR_true fun j hj => hall j (by omega)]
theorem samePage_p (d d' : D) (x y : Md.Page) (h : IsPage d x) (h' : IsPage d' y) : PCall Tryz.prog 220 [d, d'] fun _ _ r => r = .lit (.bool (samePg x y)) := by
  have q := shp_page _ _ h
  have q' := shp_page _ _ h'
  obtain ⟨f, rfl, hst, k0, kl, g, hg, hgs, k1⟩ := id h
  obtain ⟨f', rfl, hst', l0, ll, g', hg', hgs', l1⟩ := id h'
  have k0 : f 0 = _ := k0
  have l0 : f' 0 = _ := l0
  refine pcall_intro_v Tryz.func220 rfl (by decide) rfl (by decide) (by rw [Tryz.ntmps220]; simp) fun w0 M n0 => ivc_sound ?_; simp -dsimp only [Tryz.f220, go_sem, q.1, q.2.1, q.2.2.1, q'.1, q'.2.1, q'.2.2.1]
  intro g1 b1 hb1 g2 b2 hb2
  refine iwp_plan [(0, true), (1, true), (2, true), (3, true), (4, true), (5, true), (6, true), (7, true), (8, true), (9, true), (10, false), (11, true), (12, true)] [2, 3] rfl (by decide +kernel) (by decide) [] (by decide +kernel) ?_
  rcases Bool.eq_false_or_eq_true (x.lsn == y.lsn) with c1 | c1
  rotate_left
  · simp -dsimp only [go_sem, k0, l0, c1]
    simp [samePg, c1]
  simp -dsimp only [go_sem, k0, l0, c1, hg, hg']
  have hs : ∀ b, IsL 4 IsSlot (.sl b false 4 4 g) x.slots := fun b => .inr ⟨b, false, g, by rw [kl], hgs, by omega, k1⟩
  have hs' : ∀ b, IsL 4 IsSlot (.sl b false 4 4 g') y.slots := fun b => .inr ⟨b, false, g', by rw [ll], hgs', by omega, l1⟩
  refine xcall_v (equalFunc_p _ _ x.slots y.slots (hs b1) (hs' b2) kl ll) (by simp -dsimp only [go_sem, rl_fn, hg, hg', rls_still hgs, rls_still hgs']) (fun _ => trivial) fun n1 hn1 => ?_
  simp -dsimp only [go_sem]
  unfold samePg; rw [c1, Bool.and_true]
theorem pagesOk1_p (d de : D) (p : Md.Page) (x : Md.Engine) (h : IsPage d p) (he : IsEngine de x) : PCall Tryz.prog 217 [d, .cptr de] fun _ _ r => r = .lit (.bool (!(Md.pageOk p && decide (p.lsn ≤ x.log.sure)))) := by
  have q := shp_page _ _ h
  obtain ⟨f, rfl, hst, k0, _⟩ := id h
  have k0 : f 0 = _ := k0
  obtain ⟨qe, rfl, hq, q0, q1, q2, q3, q4, q5, q6⟩ := id he
  obtain ⟨ql, hql, hqls, ql0, ql1⟩ := id q2
  have ql1 : ql 1 = _ := ql1
  refine pcall_intro_v Tryz.func217 rfl (by decide) rfl (by decide) (by rw [Tryz.ntmps217]; simp) fun w0 M n0 => ivc_sound ?_; simp -dsimp only [Tryz.f217, go_sem, q.1, q.2.1, q.2.2.1]
  intro g1 b1 hb1
  refine xcall_v (pageOk_p _ _ h) (by simp -dsimp only [go_sem, rl_still, q.2.2.2]) (fun _ => trivial) fun n1 hn1 => ?_
  rcases Bool.eq_false_or_eq_true (Md.pageOk p) with c1 | c1
  rotate_left
  · simp -dsimp only [go_sem, c1]
    rfl
  simp -dsimp only [go_sem, c1, k0, hql, ql1]
  rw [Bool.true_and]
  by_cases hz : p.lsn ≤ x.log.sure
  · rw [decide_eq_true hz, decide_eq_false (by omega)]; rfl
  · rw [decide_eq_false hz, decide_eq_true (by omega)]; rfl
def seatP (x : Md.Engine) (s : Md.Seat) : Bool := decide (s.p.lsn ≤ x.log.recs.length) && (s.dirty || samePg s.p (x.disk.getD s.no.toNat zPg))
theorem pagesOk2_p (d de : D) (s : Md.Seat) (x : Md.Engine) (h : IsSeat d s) (he : IsEngine de x) (h0 : 0 ≤ s.no) (h1 : s.no ≤ 7) : PCall Tryz.prog 219 [d, .cptr de] fun _ _ r => r = .lit (.bool (!seatP x s)) := by
  have q := shp_seat _ _ h
  obtain ⟨k, rfl, hks, k0, k1, k2, k3⟩ := id h
  have k0 : k 0 = _ := k0
  have k2 : k 2 = _ := k2
  have pp := shp_page _ _ k1
  obtain ⟨kp, hkp, hkps, kp0, _⟩ := id k1
  have kp0 : kp 0 = _ := kp0
  obtain ⟨qe, rfl, hq, q0, q1, q2, q3, q4, q5, q6⟩ := id he
  obtain ⟨ql, hql, hqls, ql0, ql1⟩ := id q2
  obtain ⟨hdl, dg, hdg, hdgs, hdk⟩ := q0
  have hno : s.no.toNat < x.disk.length := by omega
  have hdp := hdk _ hno
  have dp := shp_page _ _ hdp
  have eg := getD_at (z := zPg) hno
  have no1 : s.no < ((8 : Nat) : Int) := by omega
  have no2 : s.no.toNat < 8 := by omega
  rw [hkp] at k1 pp
  refine pcall_intro_v Tryz.func219 rfl (by decide) rfl (by decide) (by rw [Tryz.ntmps219]; simp) fun w0 M n0 => ivc_sound ?_; simp -dsimp only [Tryz.f219, go_sem, q.1, q.2.1, q.2.2.1]
  intro g1 b1 hb1
  refine iwp_plan [(0, true), (1, true), (2, true), (3, true), (4, true), (5, true), (6, true), (7, true), (8, true), (9, true), (10, true), (11, true), (12, true), (13, true), (14, true), (15, true), (16, true), (17, true), (18, true), (19, true), (20, false), (21, true), (22, true), (23, true), (24, true)] [2] rfl (by decide +kernel) (by decide) [] (by decide +kernel) ?_
  simp -dsimp only [go_sem, hkp, kp0, hql, ql0.size, ql0.isNode, ql0.plain, ql0.lenT]
  by_cases d1 : (x.log.recs.length : Int) < s.p.lsn
  · simp -dsimp only [go_sem, d1]
    unfold seatP
    rw [decide_eq_false (by omega)]; rfl
  have d1' : decide (s.p.lsn ≤ (x.log.recs.length : Int)) = true := decide_eq_true (by omega)
  rcases Bool.eq_false_or_eq_true s.dirty with d2 | d2
  · simp -dsimp only [go_sem, d1, d2, k2]
    unfold seatP
    rw [d1', d2]; rfl
  simp -dsimp only [go_sem, d1, d2, k0, k2, hkp, pp.1, pp.2.1, pp.2.2.1, h0, no1, no2, hdg, dp.1, dp.2.1, dp.2.2.1]
  refine xcall_v (samePage_p _ _ _ _ k1 hdp) (by simp -dsimp only [go_sem, rl_still, pp.2.2.2, dp.2.2.2]) (fun _ => trivial) fun n6 hn6 => ?_
  simp -dsimp only [go_sem]
  unfold seatP
  rw [d1', d2, eg]; rfl
theorem any_allR {α : Type} {p : α → Bool} {l : List α} (z : α) : (l.any fun s => !p s) = !allR l.length fun i => p (l.getD i z) := by
  cases h : allR l.length fun i => p (l.getD i z) with
  | true =>
    rw [Bool.not_true, List.any_eq_false]
    intro s hs
    obtain ⟨i, hi, rfl⟩ := List.mem_iff_getElem.1 hs
    have := allR_iff.1 h i hi
    rw [getD_at hi] at this
    simp [this]
  | false =>
    rw [Bool.not_false, List.any_eq_true]
    unfold allR at h
    rw [List.all_eq_false] at h
    obtain ⟨i, hi, h⟩ := h
    have hi := List.mem_range.1 hi
    rw [getD_at hi] at h
    exact ⟨l[i], List.getElem_mem hi, by simpa using h⟩
theorem pagesOk_p (d : D) (x : Md.Engine) (h : IsEngine d x) (hp : Md.poolOk x.pool = true) : PCall Tryz.prog 165 [d] fun _ _ r => r = .lit (.bool (allR 8 (diskStep x) && allR x.pool.seats.length (seatStep x))) := by
  have zp := shp_engine _ _ h
  obtain ⟨q, rfl, hq, q0, q1, q2, q3, q4, q5, q6⟩ := id h
  obtain ⟨hdl, dg, hdg, hdgs, hdk⟩ := id q0
  obtain ⟨qp, hqp, hqps, qp0, qp1⟩ := id q1
  refine pcall_intro_v Tryz.func165 rfl (by decide) rfl (by decide) (by rw [Tryz.ntmps165]; simp) fun w0 M n0 => ivc_sound ?_; simp -dsimp only [Tryz.f165, go_sem, zp.1, zp.2.1, zp.2.2.1, hdg]
  intro g1 b1 hb1
  have hs : ∀ b z, IsL 17 IsPage (.sl b z 8 17 dg) x.disk := fun b z => .inr ⟨b, z, dg, by rw [hdl], hdgs, by omega, hdk⟩
  refine xcall_v (containsFunc_Page shp_page x.disk _ (hs b1 true) 217 1 (capD (.cptr (.node (.agg [136, 2, 2, 1, 1, 1, 1]) q))) (fun p => !(Md.pageOk p && decide (p.lsn ≤ x.log.sure))) (still_cap hq) fun p _ dx hx => pagesOk1_p dx _ p x hx h)
    (by simp -dsimp only [go_sem, rl_cap, rl_still, zp.2.2.2, hdg, rls_still hdgs]) (fun _ => trivial) fun n1 hn1 => ?_
  have e1 : (x.disk.any fun p => !(Md.pageOk p && decide (p.lsn ≤ x.log.sure))) = !allR 8 (diskStep x) := by
    rw [any_allR (p := fun p => Md.pageOk p && decide (p.lsn ≤ x.log.sure)) zPg, hdl]; rfl
  rw [e1]
  rcases Bool.eq_false_or_eq_true (allR 8 (diskStep x)) with c1 | c1
  rotate_left
  · simp -dsimp only [go_sem, c1]
    rfl
  simp -dsimp only [go_sem, c1, hqp, qp0.size, qp0.isNode, qp0.plain]
  refine xcall_v (containsFunc_Seat shp_seat x.pool.seats _ qp0 219 1 (capD (.cptr (.node (.agg [136, 2, 2, 1, 1, 1, 1]) q))) (fun s => !seatP x s) (still_cap hq) fun s hse dx hx => by
      obtain ⟨i, hi, rfl⟩ := List.mem_iff_getElem.1 hse
      have := poolOk_seat hp hi
      exact pagesOk2_p dx _ _ x hx h this.1 this.2.1)
    (by simp -dsimp only [go_sem, rl_cap, rl_still, zp.2.2.2, qp0.still]) (fun _ => trivial) fun n1 hn1 => ?_
  simp -dsimp only [go_sem]
  rw [any_allR zSt, Bool.not_not, c1, Bool.true_and]
  rfl
def txStep2 (e : Md.Engine) (i : Nat) : Bool :=
  Md.inB (e.txs.getD i zLive).tx 1 1000 && decide ((e.txs.getD i zLive).tx < e.next) && !(e.txs.getD i zLive).aborts && (decide (i = 0) || decide ((e.txs.getD (i - 1) zLive).tx < (e.txs.getD i zLive).tx)) && (e.txs.getD i zLive).last == lastL e.log (e.txs.getD i zLive).tx
theorem implTxsOk_p (d : D) (x : Md.Engine) (h : IsEngine d x) (hs : Md.szEngine x ≤ 1048576) (hd : d.data) : PCall Tryz.prog 164 [d] fun _ _ r => r = .lit (.bool (allR x.txs.length (txStep2 x) && decide (x.txs.length ≤ 6))) := by
  have zp := shp_engine _ _ h
  obtain ⟨q, rfl, hq, q0, q1, q2, q3, q4, q5, q6⟩ := id h
  have q5 : q 5 = _ := q5
  have zl := shp_log _ _ q2
  have hd2 : (q 2).data := hd 2 (by decide)
  have hrl : Md.szLog x.log ≤ 1048576 := by unfold Md.szEngine at hs; omega
  have htl : x.txs.length ≤ 1048576 := by unfold Md.szEngine at hs; omega
  refine pcall_intro_v Tryz.func164 rfl (by decide) rfl (by decide) (by rw [Tryz.ntmps164]; simp) fun w0 M n0 => ivc_sound ?_; simp -dsimp only [Tryz.f164, go_sem, zp.1, zp.2.1, zp.2.2.1, q3.size, q3.isNode, q3.plain, q3.lenT]
  intro g1 b1 hb1
  refine iwp_forK x.txs.length [1, 6, 7] (fun i s => s 8 = .lit (.int .i64 i) ∧ ∀ j, j < i → txStep2 x j = true) 0 (Nat.zero_le _) ⟨by simp -dsimp only [go_sem]; rfl, fun j hj => absurd hj (by omega)⟩ ?_
  rintro i n' s hi hn hk ⟨h8, hall⟩
  refine ivc_sound ?_
  simp -dsimp only [go_sem] at hk
  by_cases hlt : i < x.txs.length
  · obtain ⟨t, zb, fi, hfe, hst', hf'⟩ := q3.sl hlt
    have hli := hf' i hlt
    have pl := shp_live _ _ hli
    obtain ⟨k, hkk, hks, k0, k1, k2⟩ := id hli
    have k0 : k 0 = _ := k0
    have k1 : k 1 = _ := k1
    have k2 : k 2 = _ := k2
    have hw := i64_succ (i := i) (by omega)
    have hl3 := q3.lenT
    rw [hfe] at hl3
    have eg := getD_at (z := zLive) hlt
    rw [hkk] at pl
    have es : txStep2 x i = (Md.inB x.txs[i].tx 1 1000 && decide (x.txs[i].tx < x.next) && !x.txs[i].aborts && (decide (i = 0) || decide ((x.txs.getD (i - 1) zLive).tx < x.txs[i].tx)) && x.txs[i].last == lastL x.log x.txs[i].tx) := by unfold txStep2; rw [eg]
    have bad : txStep2 x i = false → allR x.txs.length (txStep2 x) = false := fun hb => allR_false hlt hb
    simp -dsimp only [go_sem, hk, h8, hlt, hfe, hl3, hkk, pl.1, pl.2.1, pl.2.2.1]
    intro g4 b4 hb4
    refine iwp_plan [(0, true), (1, true), (2, false), (3, true), (4, true), (5, true), (6, true), (7, true), (8, true), (9, true), (10, true), (11, true), (12, true), (13, true), (14, true), (15, true), (16, true), (17, true), (18, true), (19, true), (20, true), (21, true), (22, true), (23, true), (24, true), (25, true), (26, true), (27, true), (28, true), (29, true), (30, true), (31, true), (32, true), (33, true), (34, true), (35, true), (36, true), (37, true), (38, false), (39, true), (40, true)] [1, 4] rfl (by decide +kernel) (by decide) [] (by decide +kernel) ?_
    simp -dsimp only [go_sem, hk, hkk, k0, k1, k2, q5]
    refine xcall_v (isTx_p _) (by simp -dsimp only [go_sem]; rfl) (fun _ => trivial) fun n1 hn1 => ?_
    rcases Bool.eq_false_or_eq_true (Md.inB x.txs[i].tx 1 1000) with c1 | c1
    rotate_left
    · simp -dsimp only [go_sem, c1]
      rw [bad (by rw [es, c1]; rfl)]; rfl
    by_cases c2 : x.txs[i].tx < x.next
    rotate_left
    · have c2' : x.next ≤ x.txs[i].tx := by omega
      simp -dsimp only [go_sem, hk, h8, c1, c2', k0, q5]
      rw [bad (by rw [es, c1, decide_eq_false c2]; rfl)]; rfl
    have c2' : ¬ x.next ≤ x.txs[i].tx := by omega
    rcases Bool.eq_false_or_eq_true x.txs[i].aborts with c3 | c3
    · simp -dsimp only [go_sem, hk, h8, c1, c2', c3, k0, k2, q5]
      rw [bad (by rw [es, c1, c3]; simp)]; rfl
    by_cases c4 : i = 0
    · subst c4
      have c4' : ¬ (0 : Int) < ((0 : Nat) : Int) := by decide
      simp -dsimp only [go_sem, hk, h8, c1, c2', c3, c4', k0, k1, k2, q5, zl.1, zl.2.1, zl.2.2.1]
      refine xcall_v (lastOf_p _ x.log x.txs[0].tx q2 hrl hd2) (by simp -dsimp only [go_sem, rl_still, zl.2.2.2]) (fun _ => trivial) fun n2 hn2 => ?_
      rcases Bool.eq_false_or_eq_true (x.txs[0].last == lastL x.log x.txs[0].tx) with c5 | c5
      rotate_left
      · have c5' : (x.txs[0].last != lastL x.log x.txs[0].tx) = true := by simpa [bne] using c5
        simp -dsimp only [go_sem, c5']
        rw [bad (by rw [es, c5]; simp)]; rfl
      have c5' : (x.txs[0].last != lastL x.log x.txs[0].tx) = false := by simpa [bne] using c5
      simp -dsimp only [go_sem, hk, h8, c5', hw]
      exact into_k1 rfl (by omega) (by simp -dsimp only [go_sem, hk, hfe]) ⟨by simp -dsimp only [go_sem], fun j hj => by
        obtain rfl : j = 0 := by omega
        rw [es, c1, decide_eq_true c2, c3, c5]; rfl⟩
    · have c4' : (0 : Int) < (i : Int) := by omega
      have w1 : IntKind.i64.wrap ((i : Int) - 1) = ((i - 1 : Nat) : Int) := by rw [IntKind.wrap_i64]; omega
      have i1 : i - 1 < x.txs.length := by omega
      obtain ⟨kp, hkp, hkps, kp0, _, _⟩ := hf' (i - 1) i1
      have kp0 : kp 0 = _ := kp0
      have ep := getD_at (z := zLive) i1
      have i1' : (0 : Int) ≤ ((i - 1 : Nat) : Int) := by omega
      by_cases c5 : x.txs[i - 1].tx < x.txs[i].tx
      rotate_left
      · have c5' : x.txs[i].tx ≤ x.txs[i - 1].tx := by omega
        simp -dsimp only [go_sem, hk, h8, c1, c2', c3, c4', k0, k1, k2, q5, w1, hfe, hl3, i1, i1', hkp, kp0, c5']
        rw [bad (by rw [es, ep, decide_eq_false c4, decide_eq_false c5]; simp)]; rfl
      have c5' : ¬ x.txs[i].tx ≤ x.txs[i - 1].tx := by omega
      simp -dsimp only [go_sem, hk, h8, c1, c2', c3, c4', k0, k1, k2, q5, w1, hfe, hl3, i1, i1', hkp, kp0, c5', zl.1, zl.2.1, zl.2.2.1]
      refine xcall_v (lastOf_p _ x.log x.txs[i].tx q2 hrl hd2) (by simp -dsimp only [go_sem, rl_still, zl.2.2.2]) (fun _ => trivial) fun n2 hn2 => ?_
      rcases Bool.eq_false_or_eq_true (x.txs[i].last == lastL x.log x.txs[i].tx) with c6 | c6
      rotate_left
      · have c6' : (x.txs[i].last != lastL x.log x.txs[i].tx) = true := by simpa [bne] using c6
        simp -dsimp only [go_sem, c6']
        rw [bad (by rw [es, c6]; simp)]; rfl
      have c6' : (x.txs[i].last != lastL x.log x.txs[i].tx) = false := by simpa [bne] using c6
      simp -dsimp only [go_sem, hk, h8, c6', hw]
      refine into_k1 rfl (by omega) (by simp -dsimp only [go_sem, hk, hfe]) ⟨by simp -dsimp only [go_sem], fun j hj => ?_⟩
      rcases Nat.lt_or_ge j i with h2 | h2
      · exact hall j h2
      · obtain rfl : j = i := by omega
        rw [es, c1, decide_eq_true c2, c3, ep, decide_eq_true c5, c6]; simp
  · simp -dsimp only [go_sem, hk, h8, hlt, q3.size, q3.isNode, q3.plain, q3.lenT]
    rw [allR_true fun j hj => hall j (by omega), Bool.true_and]
    exact decide_eq_decide.2 (by omega)
theorem txStep_eq {x : Md.Engine} (hl : Md.logOk x.log = true) (hn : x.next ≤ 1001) (i : Nat) : txStep2 x i = txStep x i := by
  unfold txStep2 txStep
  generalize x.txs.getD i zLive = t
  generalize x.txs.getD (i - 1) zLive = u
  by_cases h1 : 1 ≤ t.tx
  · by_cases h2 : t.tx < x.next
    · have a : Md.inB t.tx 1 1000 = true := (inB_iff _ _ _).2 ⟨h1, by omega⟩
      have b : Md.inB t.tx 1 (x.next - 1) = true := (inB_iff _ _ _).2 ⟨h1, by omega⟩
      rw [a, b, decide_eq_true h2, lastL_eq hl h1]
      cases t.aborts <;> cases (decide (i = 0) || decide (u.tx < t.tx)) <;> cases (t.last == (lastN x.log t.tx : Int)) <;> rfl
    · have b : Md.inB t.tx 1 (x.next - 1) = false := by
        cases hb : Md.inB t.tx 1 (x.next - 1) with
        | false => rfl
        | true => have := (inB_iff _ _ _).1 hb; omega
      rw [b, decide_eq_false h2]; simp
  · have a : Md.inB t.tx 1 1000 = false := by
      cases hb : Md.inB t.tx 1 1000 with
      | false => rfl
      | true => have := (inB_iff _ _ _).1 hb; omega
    have b : Md.inB t.tx 1 (x.next - 1) = false := by
      cases hb : Md.inB t.tx 1 (x.next - 1) with
      | false => rfl
      | true => have := (inB_iff _ _ _).1 hb; omega
    rw [a, b]; simp
def holdStep2 (e : Md.Engine) (i : Nat) : Bool := decide (0 ≤ liveAt e.txs (e.holds.getD i zHold).tx) && Md.inB (e.holds.getD i zHold).oid 1 31 && holdAt e.holds (e.holds.getD i zHold).oid == (i : Int)
theorem holdAt_self {hs : List Md.Hold} {i : Nat} (hi : i < hs.length) : (holdAt hs hs[i].oid == (i : Int)) = allR i fun k => !((hs.getD k zHold).oid == hs[i].oid) := by
  cases h : allR i fun k => !((hs.getD k zHold).oid == hs[i].oid) with
  | true =>
    have : holdAt hs hs[i].oid = (i : Int) := Md.idx_at (pr := fun x : Md.Hold => x.oid == hs[i].oid) hi (by simp) fun j hj hj' => by
      have := allR_iff.1 h j hj
      rw [getD_at hj'] at this
      simpa using this
    rw [this]; simp
  | false =>
    unfold allR at h
    rw [List.all_eq_false] at h
    obtain ⟨j, hj, h⟩ := h
    have hj := List.mem_range.1 hj
    rw [getD_at (by omega : j < hs.length)] at h
    have h : (hs[j].oid == hs[i].oid) = true := by simpa using h
    refine beq_eq_false_iff_ne.2 fun e => ?_
    have := idx_before (pr := fun x : Md.Hold => x.oid == hs[i].oid) (xs := hs) (i := i) e j hj (by omega)
    rw [h] at this; cases this
theorem holdStep_eq {x : Md.Engine} {i : Nat} (hi : i < x.holds.length) : holdStep2 x i = holdStep x i := by
  unfold holdStep2 holdStep
  rw [getD_at hi, holdAt_self hi]
  cases decide (0 ≤ liveAt x.txs x.holds[i].tx) <;> cases Md.inB x.holds[i].oid 1 31 <;> rfl
theorem great_eq {x : Md.Engine} (hn : 1 ≤ x.next) : decide (x.next ≤ greatTx x.log.recs x.log.recs.length) = !allR x.log.recs.length fun i => decide ((x.log.recs.getD i Md.zRec).tx < x.next) := by
  have := greatTx_lt (rs := x.log.recs) (m := x.next) (by omega) x.log.recs.length
  cases h : allR x.log.recs.length fun i => decide ((x.log.recs.getD i Md.zRec).tx < x.next) with
  | true =>
    have h2 := this.2 fun i hi => of_decide_eq_true (allR_iff.1 h i hi)
    rw [decide_eq_false (by omega)]; rfl
  | false =>
    refine decide_eq_true ?_
    rcases Int.lt_or_le (greatTx x.log.recs x.log.recs.length) x.next with h2 | h2
    · have h3 := this.1 h2
      rw [allR_true fun i hi => decide_eq_true (h3 i hi)] at h
      cases h
    · exact h2
theorem engineOk_p (d : D) (x : Md.Engine) (h : IsEngine d x) (hs : Md.szEngine x ≤ 1048576) (hd : d.data) : PCall Tryz.prog 89 [d] fun _ _ r => r = .lit (.bool (engineOk x)) := by
  have hd0 := h
  have zp := shp_engine _ _ h
  obtain ⟨q, rfl, hq, q0, q1, q2, q3, q4, q5, q6⟩ := id h
  have q5 : q 5 = _ := q5
  have q6 : q 6 = _ := q6
  have zl := shp_log _ _ q2
  have zo := shp_pool _ _ q1
  have hrl : x.log.recs.length ≤ 1048576 := by unfold Md.szEngine Md.szLog Md.szRecs at hs; omega
  have hhl : x.holds.length ≤ 1048576 := by unfold Md.szEngine at hs; omega
  refine pcall_intro_v Tryz.func89 rfl (by decide) rfl (by decide) (by rw [Tryz.ntmps89]; simp) fun w0 M n0 => ivc_sound ?_; simp -dsimp only [Tryz.f89, go_sem, zp.1, zp.2.1, zp.2.2.1]
  intro g1 b1 hb1
  refine iwp_plan [(0, true), (1, true), (2, false), (3, true), (4, true), (5, true), (6, true), (7, false), (8, true), (9, true), (10, true), (11, true), (12, true), (13, false), (14, true), (15, true), (16, true), (17, true), (18, true), (19, true), (20, true), (21, false), (22, true), (23, true), (24, true), (25, true), (26, false), (27, true), (28, true), (29, true), (30, true), (31, false), (32, true), (33, true)] [1] rfl (by decide +kernel) (by decide) [] (by decide +kernel) ?_
  simp -dsimp only [go_sem, zo.1, zo.2.1, zo.2.2.1]
  refine xcall_v (poolOk_p _ _ q1) (by simp -dsimp only [go_sem, rl_still, zo.2.2.2]) (fun _ => trivial) fun n1 hn1 => ?_
  rcases Bool.eq_false_or_eq_true (Md.poolOk x.pool) with c2 | c2
  rotate_left
  · simp -dsimp only [go_sem, c2]
    simp [engineOk, headOk, c2]
  simp -dsimp only [go_sem, c2, zl.1, zl.2.1, zl.2.2.1]
  refine xcall_v (logOk_p _ _ q2) (by simp -dsimp only [go_sem, rl_still, zl.2.2.2]) (fun _ => trivial) fun n2 hn2 => ?_
  rcases Bool.eq_false_or_eq_true (Md.logOk x.log) with c1 | c1
  rotate_left
  · simp -dsimp only [go_sem, c1]
    simp [engineOk, headOk, c1]
  simp -dsimp only [go_sem, c1, q5]
  refine xcall_v (in_p _ _ _) (by simp -dsimp only [go_sem]; rfl) (fun _ => trivial) fun n3 hn3 => ?_
  rcases Bool.eq_false_or_eq_true (Md.inB x.next 1 1001) with c3 | c3
  rotate_left
  · simp -dsimp only [go_sem, c3]
    simp [engineOk, headOk, c3]
  have hnx := (inB_iff _ _ _).1 c3
  have hH : headOk x = true := by simp [headOk, c1, c2, c3]
  simp -dsimp only [go_sem, c3, q5, zl.1, zl.2.1, zl.2.2.1]
  refine xcall_v (greatestTx_p _ x.log q2 hrl) (by simp -dsimp only [go_sem, rl_still, zl.2.2.2]) (fun _ => trivial) fun n4 hn4 => ?_
  have hg := great_eq hnx.1
  rcases Bool.eq_false_or_eq_true (allR x.log.recs.length fun i => decide ((x.log.recs.getD i Md.zRec).tx < x.next)) with c4 | c4
  rotate_left
  · rw [c4] at hg
    have hg' : x.next ≤ greatTx x.log.recs x.log.recs.length := by simpa using hg
    simp -dsimp only [go_sem, hg']
    unfold engineOk
    rw [c4]; simp
  rw [c4] at hg
  have hg' : ¬ x.next ≤ greatTx x.log.recs x.log.recs.length := by simpa using hg
  simp -dsimp only [go_sem, hg', zp.1, zp.2.1, zp.2.2.1]
  refine xcall_v (implTxsOk_p _ x hd0 hs hd) (by simp -dsimp only [go_sem, rl_still, zp.2.2.2]) (fun _ => trivial) fun n5 hn5 => ?_
  have et : allR x.txs.length (txStep2 x) = allR x.txs.length (txStep x) := allR_congr fun i _ => txStep_eq c1 hnx.2 i
  rw [et]
  rcases Bool.eq_false_or_eq_true (allR x.txs.length (txStep x) && decide (x.txs.length ≤ 6)) with c5 | c5
  rotate_left
  · simp -dsimp only [go_sem, c5]
    have : txsOk x = false := by
      unfold txsOk
      rw [Bool.and_right_comm, c5]; rfl
    unfold engineOk
    rw [this]; simp
  simp -dsimp only [go_sem, c5, zp.1, zp.2.1, zp.2.2.1]
  refine xcall_v (pagesOk_p _ x hd0 c2) (by simp -dsimp only [go_sem, rl_still, zp.2.2.2]) (fun _ => trivial) fun n6 hn6 => ?_
  rcases Bool.eq_false_or_eq_true (allR 8 (diskStep x) && allR x.pool.seats.length (seatStep x)) with c6 | c6
  rotate_left
  · simp -dsimp only [go_sem, c6]
    unfold engineOk
    rw [Bool.and_assoc (_ && _) (allR 8 (diskStep x)), c6]; simp
  simp -dsimp only [go_sem, c6, q4.size, q4.isNode, q4.plain, q4.lenT]
  refine iwp_forK x.holds.length [1, 40, 41] (fun i s => s 42 = .lit (.int .i64 i) ∧ ∀ j, j < i → holdStep x j = true) 0 (Nat.zero_le _) ⟨by simp -dsimp only [go_sem]; rfl, fun j hj => absurd hj (by omega)⟩ ?_
  rintro i n' s hi hn hk ⟨h42, hall⟩
  refine ivc_sound ?_
  simp -dsimp only [go_sem] at hk
  have ht : ∀ b, allR x.holds.length (holdStep x) = b → txsOk x = b := fun b hb => by
    unfold txsOk
    rw [Bool.and_right_comm, c5, hb]; rfl
  by_cases hlt : i < x.holds.length
  · obtain ⟨t, zb, fi, hfe, hst', hf'⟩ := q4.sl hlt
    have hho := hf' i hlt
    have ph := shp_hold _ _ hho
    obtain ⟨k, hkk, hks, k0, k1⟩ := id hho
    have k0 : k 0 = _ := k0
    have k1 : k 1 = _ := k1
    have hw := i64_succ (i := i) (by omega)
    have hl4 := q4.lenT
    rw [hfe] at hl4
    rw [hkk] at ph
    have eg := getD_at (z := zHold) hlt
    have es : holdStep x i = (decide (0 ≤ liveAt x.txs x.holds[i].tx) && Md.inB x.holds[i].oid 1 31 && holdAt x.holds x.holds[i].oid == (i : Int)) := by rw [← holdStep_eq hlt]; unfold holdStep2; rw [eg]
    have bad : holdStep x i = false → engineOk x = false := fun hb => by unfold engineOk; rw [ht _ (allR_false hlt hb)]; simp
    simp -dsimp only [go_sem, hk, h42, hlt, hfe, hl4, hkk, ph.1, ph.2.1, ph.2.2.1]
    intro g4 b4 hb4
    simp -dsimp only [go_sem, hk, k0, k1, zp.1, zp.2.1, zp.2.2.1]
    refine xcall_v (txAt_p _ x x.holds[i].tx hd0) (by simp -dsimp only [go_sem, rl_still, zp.2.2.2]) (fun _ => trivial) fun n7 hn7 => ?_
    by_cases d1 : liveAt x.txs x.holds[i].tx < 0
    · simp -dsimp only [go_sem, d1]
      rw [bad (by rw [es, decide_eq_false (by omega)]; rfl)]
    have d1' : decide (0 ≤ liveAt x.txs x.holds[i].tx) = true := decide_eq_true (by omega)
    simp -dsimp only [go_sem, hk, d1, k0, k1]
    refine xcall_v (isOid_p _) (by simp -dsimp only [go_sem]; rfl) (fun _ => trivial) fun n8 hn8 => ?_
    rcases Bool.eq_false_or_eq_true (Md.inB x.holds[i].oid 1 31) with d2 | d2
    rotate_left
    · simp -dsimp only [go_sem, d2]
      rw [bad (by rw [es, d2]; simp)]
    simp -dsimp only [go_sem, hk, d2, k0, k1, zp.1, zp.2.1, zp.2.2.1]
    refine xcall_v (implHoldAt_p _ x x.holds[i].oid hd0) (by simp -dsimp only [go_sem, rl_still, zp.2.2.2]) (fun _ => trivial) fun n9 hn9 => ?_
    rcases Bool.eq_false_or_eq_true (holdAt x.holds x.holds[i].oid == (i : Int)) with d3 | d3
    rotate_left
    · have d3' : (holdAt x.holds x.holds[i].oid != (i : Int)) = true := by simpa [bne] using d3
      simp -dsimp only [go_sem, d3']
      rw [bad (by rw [es, d3]; simp)]
    have d3' : (holdAt x.holds x.holds[i].oid != (i : Int)) = false := by simpa [bne] using d3
    simp -dsimp only [go_sem, hk, h42, d3', hw]
    refine into_k1 rfl (by omega) (by simp -dsimp only [go_sem, hk, hfe]) ⟨by simp -dsimp only [go_sem], fun j hj => ?_⟩
    rcases Nat.lt_or_ge j i with h2 | h2
    · exact hall j h2
    · obtain rfl : j = i := by omega
      rw [es, d1', d2, d3]; rfl
  · obtain ⟨qp, hqp, hqps, qp0, qp1⟩ := id q1
    simp -dsimp only [go_sem, hk, h42, hlt, hqp, qp0.size, qp0.isNode, qp0.plain, qp0.lenT, q3.size, q3.isNode, q3.plain, q3.lenT, q4.size, q4.isNode, q4.plain, q4.lenT, q6]
    have hT : txsOk x = true := ht _ (allR_true fun j hj => hall j (by omega))
    have eo : engineOk x = downOk x := by unfold engineOk; rw [Bool.and_assoc (_ && _) (allR 8 (diskStep x)), c6, hH, hT, c4]; rfl
    rw [eo]
    unfold downOk
    have eb : ∀ n : Nat, ((n : Int) == 0) = decide (n = 0) := fun n => by
      by_cases h : n = 0
      · subst h; rfl
      · rw [decide_eq_false h]; exact beq_eq_false_iff_ne.2 (by omega)
    simp only [eb]
    refine ⟨fun h0 => ⟨fun h1 => ⟨fun h2 => by rw [h0, h1, h2]; rfl, fun h2 => by rw [h0, h1, h2]; rfl⟩, fun h1 => by rw [h0, h1]; rfl⟩, fun h0 => by rw [h0]; rfl⟩
theorem dat_rec {d : D} {x : Md.Rec} (h : IsRec d x) : d.data := by
  obtain ⟨f, rfl, _, h0, h1, h2, h3, h4, h5, h6, h7, h8⟩ := h
  intro i hi
  have hi' : i < 9 := hi
  match i, hi' with
  | 0, _ => exact IsInt.data h0
  | 1, _ => exact IsInt.data h1
  | 2, _ => exact IsInt.data h2
  | 3, _ => exact IsInt.data h3
  | 4, _ => exact IsInt.data h4
  | 5, _ => exact IsSlot.data h5
  | 6, _ => exact IsSlot.data h6
  | 7, _ => exact IsInt.data h7
  | 8, _ => exact IsL.data (fun _ _ h => whole_data (IsLive.wh h)) h8
theorem dat_log {d : D} {x : Md.Log} (h : IsLog d x) : d.data := by
  obtain ⟨f, rfl, _, h0, h1⟩ := h
  intro i hi
  have hi' : i < 2 := hi
  match i, hi' with
  | 0, _ => exact IsL.data (fun _ _ h => dat_rec h) h0
  | 1, _ => exact IsInt.data h1
theorem dat_seat {d : D} {x : Md.Seat} (h : IsSeat d x) : d.data := by
  obtain ⟨f, rfl, _, h0, h1, h2, h3⟩ := h
  intro i hi
  have hi' : i < 4 := hi
  match i, hi' with
  | 0, _ => exact IsInt.data h0
  | 1, _ => exact IsPage.data h1
  | 2, _ => exact IsBool.data h2
  | 3, _ => exact IsBool.data h3
theorem dat_pool {d : D} {x : Md.Pool} (h : IsPool d x) : d.data := by
  obtain ⟨f, rfl, _, h0, h1⟩ := h
  intro i hi
  have hi' : i < 2 := hi
  match i, hi' with
  | 0, _ => exact IsL.data (fun _ _ h => dat_seat h) h0
  | 1, _ => exact IsInt.data h1
theorem IsEngine.data {d : D} {x : Md.Engine} (h : IsEngine d x) : d.data := by
  obtain ⟨f, rfl, _, h0, h1, h2, h3, h4, h5, h6⟩ := h
  intro i hi
  have hi' : i < 7 := hi
  match i, hi' with
  | 0, _ => exact IsA.data (fun _ _ h => IsPage.data h) h0
  | 1, _ => exact dat_pool h1
  | 2, _ => exact dat_log h2
  | 3, _ => exact IsL.data (fun _ _ h => whole_data (IsLive.wh h)) h3
  | 4, _ => exact IsL.data (fun _ _ h => whole_data (IsHold.wh h)) h4
  | 5, _ => exact IsInt.data h5
  | 6, _ => exact IsBool.data h6
end Go.Proofs.YtncinhlaabdlaaaGreat.IM
end
