/- Several of my texts in one module (merge.py, shake.py). -/
import Derived.Test.YtncinhlaabdlaaaGreatGtA6
import Derived.Test.YtncinhlaabdlaaaGreatGtA3
import Derived.Test.YtncinhlaabdlaaaGreatGtB12
import Derived.Test.YtncinhlaabdlaaaGreatGtB7
section
namespace Go.Proofs.YtncinhlaabdlaaaGreat.IM
open Go Go.Proofs
set_option linter.unusedVariables false
set_option linter.unusedSimpArgs false
set_option maxHeartbeats 2000000
set_option maxRecDepth 20000
structure Same (X Y : D) : Prop where
  tl : Y.tl = X.tl
  wh : Y.whole
  st : Y.still
theorem Same.refl {X : D} (h : X.whole) (hs : X.still) : Same X X := ⟨rfl, h, hs⟩
theorem Same.lit {X : D} {k : Kd} {g : Nat → D} {i : Nat} {v : Value} (h : Same X (.node k g)) (hl : (g i).tl = []) : Same X (.node k (upd g i (.lit v))) :=
  ⟨(tl_upd (by rw [hl]; rfl)).trans h.tl, wh_upd h.wh trivial, still_upd h.st trivial⟩
theorem Same.kid {X : D} {k : Kd} {g : Nat → D} {i : Nat} {y : D} (h : Same X (.node k g)) (hy : Same (g i) y) : Same X (.node k (upd g i y)) :=
  ⟨(tl_upd hy.tl).trans h.tl, wh_upd h.wh hy.wh, still_upd h.st hy.st⟩
theorem Same.own {X Y : D} {lo hi : Nat} (h : Same X Y) (ho : Own lo hi X) : Own lo hi Y := ⟨fun t ht => ho.rg t (h.tl ▸ ht), h.tl ▸ ho.nd, h.wh⟩
theorem Mkd.same {α : Type} {R : D → α → Prop} {x' : α} {d d' : D} (h : Mkd R x' d d') (hs : d'.still) : Same d d' := ⟨h.tl, h.wh, hs⟩
structure Deep (d d' x x' : D) : Prop where
  c : Carry d d' x x'
  w : ∀ t ∈ d.tl, t ∈ x.tl
theorem Deep.here (d d' : D) : Deep d d' d d' := ⟨.here, fun _ h => h⟩
theorem Deep.up {d d' x x' : D} {lo hi : Nat} {k : Kd} {g : Nat → D} {i : Nat} (hx : Deep d d' x x') (h : Own lo hi (.node k g)) (hi : i < k.cnt) (e : g i = x) : Deep d d' (.node k g) (.node k (upd g i x')) := by
  subst e
  refine ⟨.node k g _ fun j hj => ?_, fun t ht => tl_child hi (hx.w t ht)⟩
  by_cases hji : j = i
  · subst hji; rw [upd_same]; exact hx.c
  · rw [upd_ne _ _ hji]; exact .apart _ (D.tags_mono (fun b hb hb' => hb (hx.w b hb')) (h.node.apart hi hj hji))
theorem OwnN.of_tl {lo hi n : Nat} {f g : Nat → D} (h : OwnN lo hi n f) (ht : ∀ j, j < n → (g j).tl = (f j).tl) (hw : ∀ j, j < n → (g j).whole) : OwnN lo hi n g :=
  ⟨fun j hj t h' => h.rg j hj t (ht j hj ▸ h'), fun j hj => by rw [ht j hj]; exact h.nd j hj, fun a b hab hb t h1 h2 => h.dj a b hab hb t (ht a (by omega) ▸ h1) (ht b hb ▸ h2), hw⟩
theorem mkRecE_eq (m : Int) (x : Md.Rec) : Md.mkRecE m x = ⟨m, m + 1, m + 2, m + 3, m + 4, ⟨Md.b3 (m + 5), ⟨m + 6, Md.mkInts (m + 7) x.before.o.ints.length, Md.mkInts (m + 7 + (x.before.o.ints.length : Nat)) x.before.o.refs.length⟩⟩,
    ⟨Md.b3 (m + 7 + (x.before.o.ints.length : Nat) + (x.before.o.refs.length : Nat)), ⟨m + 7 + (x.before.o.ints.length : Nat) + (x.before.o.refs.length : Nat) + 1, Md.mkInts (m + 7 + (x.before.o.ints.length : Nat) + (x.before.o.refs.length : Nat) + 2) x.after.o.ints.length, Md.mkInts (m + 7 + (x.before.o.ints.length : Nat) + (x.before.o.refs.length : Nat) + 2 + (x.after.o.ints.length : Nat)) x.after.o.refs.length⟩⟩, m + 7 + (x.before.o.ints.length : Nat) + (x.before.o.refs.length : Nat) + 2 + (x.after.o.ints.length : Nat) + (x.after.o.refs.length : Nat), Md.mkLives (m + 7 + (x.before.o.ints.length : Nat) + (x.before.o.refs.length : Nat) + 2 + (x.after.o.ints.length : Nat) + (x.after.o.refs.length : Nat) + 1) x.txs⟩ := by
  have e1 : m + 5 + (Md.cSlotE x.before : Nat) = m + 7 + (x.before.o.ints.length : Nat) + (x.before.o.refs.length : Nat) := by unfold Md.cSlotE Md.szObj; omega
  have e2 : m + 7 + (x.before.o.ints.length : Nat) + (x.before.o.refs.length : Nat) + (Md.cSlotE x.after : Nat) = m + 7 + (x.before.o.ints.length : Nat) + (x.before.o.refs.length : Nat) + 2 + (x.after.o.ints.length : Nat) + (x.after.o.refs.length : Nat) := by unfold Md.cSlotE Md.szObj; omega
  have e3 : m + 6 + (Md.cSlotE x.before : Nat) + (Md.cSlotE x.after : Nat) = m + 7 + (x.before.o.ints.length : Nat) + (x.before.o.refs.length : Nat) + 2 + (x.after.o.ints.length : Nat) + (x.after.o.refs.length : Nat) + 1 := by unfold Md.cSlotE Md.szObj; omega
  unfold Md.mkRecE
  rw [e1, e2, e3]
  unfold Md.mkSlotE
  rw [show m + 5 + 1 = m + 6 from by omega, show m + 5 + 2 = m + 7 from by omega]
theorem cRecE_eq (x : Md.Rec) : Md.cRecE x = 10 + x.before.o.ints.length + x.before.o.refs.length + x.after.o.ints.length + x.after.o.refs.length + 3 * x.txs.length := by
  unfold Md.cRecE Md.cSlotE Md.szObj; rw [Md.cLives_eq]; omega
theorem in_row {t n sz t' i : Nat} {f fe : Nat → D} {Y : D} (hr : ∀ j, j < n → (fe j).tl = (f j).tl) (h : t' ∈ (D.node (.arr n sz) (upd fe i Y)).tl) (hY : Y.tl = (fe i).tl) : t' ∈ (D.sl t true n sz f).tl := by
  rw [tl_upd hY] at h
  refine List.mem_cons_of_mem _ ?_
  simp only [D.tl, List.mem_flatMap, List.mem_range] at h ⊢
  obtain ⟨j, hj, hjt⟩ := h
  exact ⟨j, hj, hr j hj ▸ hjt⟩
theorem markRecS_p (d : D) (xs : List Md.Rec) (k : Int) (lo hi : Nat) (h : IsL 15 IsRec d xs) (ho : Own lo hi d) (hk0 : 0 ≤ k) (hk1 : k + (Md.cRecs xs : Nat) ≤ 4611686018427387904) :
    MCall Tryz.prog 149 d [.lit (.int .i64 k)] (.int .i64 (k + (Md.cRecs xs : Nat))) (Mkd (IsL 15 IsRec) (Md.mkRecs k xs) d) := by
  rcases h with ⟨rfl, rfl⟩ | ⟨t, zb, f, rfl, hst, hsh, hf⟩
  · refine mcall_intro Tryz.func149 rfl (by decide) rfl (by decide) (by rw [Tryz.ntmps149]; simp) trivial fun w0 M n0 hW hS => ivc_sound ?_; simp -dsimp only [Tryz.f149, go_sem]
    refine iwp_forK 0 [0, 4] (fun i s => s 5 = .lit (.int .i64 i) ∧ s 1 = .lit (.int .i64 k)) 0 (Nat.zero_le _) ⟨by simp -dsimp only [go_sem]; rfl, by simp -dsimp only [go_sem]⟩ ?_
    rintro i n' s hi hn hk ⟨h5, h1⟩
    refine ivc_sound ?_
    simp -dsimp only [go_sem] at hk
    obtain rfl : i = 0 := by omega
    simp -dsimp only [go_sem, hk, h5, h1, Int.lt_irrefl, decide_false]
    exact ⟨by simp [Md.cRecs, Md.sumBy], mkd_nil.fin⟩
  · obtain rfl : zb = true := ho.wh.1
    have hoN := ho.sl.1
    refine mcall_intro_sl Tryz.func149 rfl (by decide) rfl (by decide) (by rw [Tryz.ntmps149]; simp) trivial (own_free ho) trivial fun w0 M n0 g hW hS => ivc_sound ?_; simp -dsimp only [Tryz.f149, go_sem]
    have hlen : (Md.mkRecs k xs).length = xs.length := Md.mkL_length _ _ _ _
    refine iwp_forR xs.length [0, 4] (fun i n' s R => s 5 = .lit (.int .i64 i) ∧ s 1 = .lit (.int .i64 (k + (Md.sumBy Md.cRecE (xs.take i) : Nat))) ∧ ∃ fe, R = upd (fun _ => none) 1000 (some (g, t, .node (.arr xs.length 15) fe)) ∧ MFill IsRec 15 (Md.mkRecs k xs) f xs.length i fe) 0 (Nat.zero_le _)
      ⟨by simp -dsimp only [go_sem]; rfl, by simp -dsimp only [go_sem]; simp [Md.sumBy], _, rfl, MFill.start hst (fun j hj => by have q := shp_rec _ _ (hf j hj); exact ⟨q.2.2.1, q.1⟩) ho.wh.2⟩ ?_
    rintro i n' s R hile hn hk ⟨h5, h1, fe, rfl, hm⟩
    refine ivc_sound ?_
    simp -dsimp only [go_sem] at hk
    by_cases hlt : i < xs.length
    · have hw := i64_succ (i := i) (by omega)
      have hold : fe i = f i := hm.old i (Nat.le_refl _)
      have hrow : OwnN lo hi xs.length fe := hoN.of_tl hm.tl hm.wh
      have ht := Md.sumBy_take Md.cRecE xs i hlt
      have hle := Md.sumBy_le Md.cRecE xs (i + 1)
      have hcs : Md.cRecs xs = Md.sumBy Md.cRecE xs := rfl
      have hce := cRecE_eq xs[i]
      have hf0 := hf i hlt
      have hget := Md.mkL_get Md.mkRecE Md.cRecE k xs i (by rw [show Md.mkL Md.mkRecE Md.cRecE k xs = Md.mkRecs k xs from rfl, hlen]; exact hlt) hlt
      rw [mkRecE_eq] at hget
      have hoi := hrow.own (i := i) hlt
      generalize hx : xs[i] = x at *
      generalize hmm : k + (Md.sumBy Md.cRecE (xs.take i) : Nat) = m at *
      obtain ⟨rf, hrf, hrs, r0, r1, r2, r3, r4, r5, r6, r7, r8⟩ := hf0
      have hfe : fe i = _ := hold.trans hrf
      rw [hfe] at hoi
      have o5 := hoi.node.own (i := 5) (by decide)
      have o6 := hoi.node.own (i := 6) (by decide)
      obtain ⟨a, ha, has, a0, a1⟩ := r5
      obtain ⟨b, hb, hbs, b0, b1, b2⟩ := a1
      obtain ⟨c, hc, hcs', c0, c1⟩ := r6
      obtain ⟨e, he, hes, e0, e1, e2⟩ := c1
      rw [ha] at o5
      rw [hc] at o6
      have o51 := o5.node.own (i := 1) (by decide)
      have o61 := o6.node.own (i := 1) (by decide)
      rw [hb] at o51
      rw [he] at o61
      have oP1 := o51.node.own (i := 1) (by decide)
      have oP2 := o51.node.own (i := 2) (by decide)
      have oQ1 := o61.node.own (i := 1) (by decide)
      have oQ2 := o61.node.own (i := 2) (by decide)
      have oT := hoi.node.own (i := 8) (by decide)
      have r0 : rf 0 = _ := r0
      have r1 : rf 1 = _ := r1
      have r2 : rf 2 = _ := r2
      have r3 : rf 3 = _ := r3
      have r4 : rf 4 = _ := r4
      have r7 : rf 7 = _ := r7
      have a0 : a 0 = _ := a0
      have b0 : b 0 = _ := b0
      have c0 : c 0 = _ := c0
      have e0 : e 0 = _ := e0
      have w0 : IntKind.i64.wrap (m + 1) = m + 1 := (w64 (by omega) (by omega)).trans (by omega)
      have w1 : IntKind.i64.wrap (m + 1 + 1) = m + 2 := (w64 (by omega) (by omega)).trans (by omega)
      have w2 : IntKind.i64.wrap (m + 2 + 1) = m + 3 := (w64 (by omega) (by omega)).trans (by omega)
      have w3 : IntKind.i64.wrap (m + 3 + 1) = m + 4 := (w64 (by omega) (by omega)).trans (by omega)
      have w4 : IntKind.i64.wrap (m + 4 + 1) = m + 5 := (w64 (by omega) (by omega)).trans (by omega)
      have w5 : IntKind.i64.wrap (m + 5 + 1) = m + 6 := (w64 (by omega) (by omega)).trans (by omega)
      have w6 : IntKind.i64.wrap (m + 6 + 1) = m + 7 := (w64 (by omega) (by omega)).trans (by omega)
      have v0 : IntKind.i64.wrap (m + 7 + (x.before.o.ints.length : Nat) + (x.before.o.refs.length : Nat) + 1) = m + 7 + (x.before.o.ints.length : Nat) + (x.before.o.refs.length : Nat) + 1 := (w64 (by omega) (by omega)).trans (by omega)
      have v1 : IntKind.i64.wrap (m + 7 + (x.before.o.ints.length : Nat) + (x.before.o.refs.length : Nat) + 1 + 1) = m + 7 + (x.before.o.ints.length : Nat) + (x.before.o.refs.length : Nat) + 2 := (w64 (by omega) (by omega)).trans (by omega)
      have z0 : IntKind.i64.wrap (m + 7 + (x.before.o.ints.length : Nat) + (x.before.o.refs.length : Nat) + 2 + (x.after.o.ints.length : Nat) + (x.after.o.refs.length : Nat) + 1) = m + 7 + (x.before.o.ints.length : Nat) + (x.before.o.refs.length : Nat) + 2 + (x.after.o.ints.length : Nat) + (x.after.o.refs.length : Nat) + 1 := (w64 (by omega) (by omega)).trans (by omega)
      simp -dsimp only [go_sem, hk, h5, h1, hlt, hw, hfe, w0, w1, w2, w3, w4, w5, w6, v0, v1, z0, r0, r1, r2, r3, r4, r7, ha, hb, hc, he, a0, b0, c0, e0, b1.size, b1.isNode, b1.plain, b2.size, b2.isNode, b2.plain, e1.size, e1.isNode, e1.plain, e2.size, e2.isNode, e2.plain, r8.size, r8.isNode, r8.plain]
      have sB1 : Same _ (D.node (.agg [1, 1, 1]) (upd b 0 (.lit (.int .i64 (m + 6))))) := (Same.refl o51.wh hbs).lit (by rw [b0]; rfl)
      have sA1 : Same _ (D.node (.agg [1, 3]) (upd a 0 (.lit (.bool (Int.tmod (m + 5) 3 == 0))))) := (Same.refl o5.wh has).lit (by rw [a0]; rfl)
      have sR5 : Same _ (D.node (.agg [1, 1, 1, 1, 1, 4, 4, 1, 1]) (upd (upd (upd (upd (upd rf 0 (.lit (.int .i64 m))) 1 (.lit (.int .i64 (m + 1)))) 2 (.lit (.int .i64 (m + 2)))) 3 (.lit (.int .i64 (m + 3)))) 4 (.lit (.int .i64 (m + 4))))) := (((((Same.refl hoi.wh hrs).lit (by rw [r0]; rfl)).lit (by simp -dsimp only [go_sem, r1]; rfl)).lit (by simp -dsimp only [go_sem, r2]; rfl)).lit (by simp -dsimp only [go_sem, r3]; rfl)).lit (by simp -dsimp only [go_sem, r4]; rfl)
      have sl1 : Same _ (D.node (.agg [1, 3]) (upd (upd a 0 (.lit (.bool (Int.tmod (m + 5) 3 == 0)))) 1 (.node (.agg [1, 1, 1]) (upd b 0 (.lit (.int .i64 (m + 6))))))) := sA1.kid (by simp -dsimp only [go_sem, hb]; exact sB1)
      have re1 : Same _ (D.node (.agg [1, 1, 1, 1, 1, 4, 4, 1, 1]) (upd (upd (upd (upd (upd (upd rf 0 (.lit (.int .i64 m))) 1 (.lit (.int .i64 (m + 1)))) 2 (.lit (.int .i64 (m + 2)))) 3 (.lit (.int .i64 (m + 3)))) 4 (.lit (.int .i64 (m + 4)))) 5 (.node (.agg [1, 3]) (upd (upd a 0 (.lit (.bool (Int.tmod (m + 5) 3 == 0)))) 1 (.node (.agg [1, 1, 1]) (upd b 0 (.lit (.int .i64 (m + 6))))))))) := sR5.kid (by simp -dsimp only [go_sem, ha]; exact sl1)
      refine xcall_mk (markIntS_p _ _ (m + 7) lo hi b1 oP1 (by omega) (by omega)) (by simp -dsimp only [go_sem, hk, h5, h1, hlt, hw, hfe, w0, w1, w2, w3, w4, w5, w6, v0, v1, z0, r0, r1, r2, r3, r4, r7, ha, hb, hc, he, a0, b0, c0, e0, b1.size, b1.isNode, b1.plain, b2.size, b2.isNode, b2.plain, e1.size, e1.isNode, e1.plain, e2.size, e2.isNode, e2.plain, r8.size, r8.isNode, r8.plain]) b1.plain b1.still ⟨trivial, trivial⟩ (fun t' ht' => hS t' (in_row hm.tl ((((((Deep.here _ .any).up (sB1.own o51) (i := 1) (by decide) (by simp -dsimp only [go_sem])).up (sl1.own o5) (i := 1) (by decide) rfl).up (re1.own hoi) (i := 5) (by decide) rfl).up (own_node (k := .arr xs.length 15) (hrow.upd (i := i) (d' := (.node (.agg [1, 1, 1, 1, 1, 4, 4, 1, 1]) (upd (upd (upd (upd (upd (upd rf 0 (.lit (.int .i64 m))) 1 (.lit (.int .i64 (m + 1)))) 2 (.lit (.int .i64 (m + 2)))) 3 (.lit (.int .i64 (m + 3)))) 4 (.lit (.int .i64 (m + 4)))) 5 (.node (.agg [1, 3]) (upd (upd a 0 (.lit (.bool (Int.tmod (m + 5) 3 == 0)))) 1 (.node (.agg [1, 1, 1]) (upd b 0 (.lit (.int .i64 (m + 6)))))))))) (by rw [hfe]; exact re1.tl) re1.wh)) (i := i) hlt (upd_same _ _ _)).w t' ht') (by rw [hfe]; exact re1.tl))) [0, 4, 5] (fun _ _ => .any) (fun E => upd (fun _ => none) 1000 (some (g, t, (.node (.arr xs.length 15) (upd (upd fe i (.node (.agg [1, 1, 1, 1, 1, 4, 4, 1, 1]) (upd (upd (upd (upd (upd (upd rf 0 (.lit (.int .i64 m))) 1 (.lit (.int .i64 (m + 1)))) 2 (.lit (.int .i64 (m + 2)))) 3 (.lit (.int .i64 (m + 3)))) 4 (.lit (.int .i64 (m + 4)))) 5 (.node (.agg [1, 3]) (upd (upd a 0 (.lit (.bool (Int.tmod (m + 5) 3 == 0)))) 1 (.node (.agg [1, 1, 1]) (upd b 0 (.lit (.int .i64 (m + 6)))))))))) i (.node (.agg [1, 1, 1, 1, 1, 4, 4, 1, 1]) (upd (upd (upd (upd (upd (upd (upd rf 0 (.lit (.int .i64 m))) 1 (.lit (.int .i64 (m + 1)))) 2 (.lit (.int .i64 (m + 2)))) 3 (.lit (.int .i64 (m + 3)))) 4 (.lit (.int .i64 (m + 4)))) 5 (.node (.agg [1, 3]) (upd (upd a 0 (.lit (.bool (Int.tmod (m + 5) 3 == 0)))) 1 (.node (.agg [1, 1, 1]) (upd b 0 (.lit (.int .i64 (m + 6)))))))) 5 (.node (.agg [1, 3]) (upd (upd (upd a 0 (.lit (.bool (Int.tmod (m + 5) 3 == 0)))) 1 (.node (.agg [1, 1, 1]) (upd b 0 (.lit (.int .i64 (m + 6)))))) 1 (.node (.agg [1, 1, 1]) (upd (upd b 0 (.lit (.int .i64 (m + 6)))) 1 E))))))))))) fun x1 n1 hn1 q1 =>
        ⟨by simp -dsimp only [go_sem, hk, h5, h1, hlt, hw, hfe, w0, w1, w2, w3, w4, w5, w6, v0, v1, z0, r0, r1, r2, r3, r4, r7, ha, hb, hc, he, a0, b0, c0, e0, b1.size, b1.isNode, b1.plain, b2.size, b2.isNode, b2.plain, e1.size, e1.isNode, e1.plain, e2.size, e2.isNode, e2.plain, r8.size, r8.isNode, r8.plain], carry_any, (CarR.none _ _ _).upd trivial (((((Deep.here _ _).up (sB1.own o51) (i := 1) (by decide) (by simp -dsimp only [go_sem])).up (sl1.own o5) (i := 1) (by decide) rfl).up (re1.own hoi) (i := 5) (by decide) rfl).up (own_node (k := .arr xs.length 15) (hrow.upd (i := i) (d' := (.node (.agg [1, 1, 1, 1, 1, 4, 4, 1, 1]) (upd (upd (upd (upd (upd (upd rf 0 (.lit (.int .i64 m))) 1 (.lit (.int .i64 (m + 1)))) 2 (.lit (.int .i64 (m + 2)))) 3 (.lit (.int .i64 (m + 3)))) 4 (.lit (.int .i64 (m + 4)))) 5 (.node (.agg [1, 3]) (upd (upd a 0 (.lit (.bool (Int.tmod (m + 5) 3 == 0)))) 1 (.node (.agg [1, 1, 1]) (upd b 0 (.lit (.int .i64 (m + 6)))))))))) (by rw [hfe]; exact re1.tl) re1.wh)) (i := i) hlt (upd_same _ _ _)).c, ?_⟩
      have p1 := q1.same q1.rel.still
      simp -dsimp only [go_sem, hk, h5, h1, hlt, hw, hfe, w0, w1, w2, w3, w4, w5, w6, v0, v1, z0, r0, r1, r2, r3, r4, r7, ha, hb, hc, he, a0, b0, c0, e0, b1.size, b1.isNode, b1.plain, b2.size, b2.isNode, b2.plain, e1.size, e1.isNode, e1.plain, e2.size, e2.isNode, e2.plain, r8.size, r8.isNode, r8.plain, q1.rel.size, q1.rel.isNode, q1.rel.plain]
      have sB2 : Same _ (D.node (.agg [1, 1, 1]) (upd (upd b 0 (.lit (.int .i64 (m + 6)))) 1 x1)) := sB1.kid (by simp -dsimp only [go_sem]; exact p1)
      have sl2 : Same _ (D.node (.agg [1, 3]) (upd (upd a 0 (.lit (.bool (Int.tmod (m + 5) 3 == 0)))) 1 (.node (.agg [1, 1, 1]) (upd (upd b 0 (.lit (.int .i64 (m + 6)))) 1 x1)))) := sA1.kid (by simp -dsimp only [go_sem, hb]; exact sB2)
      have re2 : Same _ (D.node (.agg [1, 1, 1, 1, 1, 4, 4, 1, 1]) (upd (upd (upd (upd (upd (upd rf 0 (.lit (.int .i64 m))) 1 (.lit (.int .i64 (m + 1)))) 2 (.lit (.int .i64 (m + 2)))) 3 (.lit (.int .i64 (m + 3)))) 4 (.lit (.int .i64 (m + 4)))) 5 (.node (.agg [1, 3]) (upd (upd a 0 (.lit (.bool (Int.tmod (m + 5) 3 == 0)))) 1 (.node (.agg [1, 1, 1]) (upd (upd b 0 (.lit (.int .i64 (m + 6)))) 1 x1)))))) := sR5.kid (by simp -dsimp only [go_sem, ha]; exact sl2)
      refine xcall_mk (markIntS_p _ _ (m + 7 + (x.before.o.ints.length : Nat)) lo hi b2 oP2 (by omega) (by omega)) (by simp -dsimp only [go_sem, hk, h5, h1, hlt, hw, hfe, w0, w1, w2, w3, w4, w5, w6, v0, v1, z0, r0, r1, r2, r3, r4, r7, ha, hb, hc, he, a0, b0, c0, e0, b1.size, b1.isNode, b1.plain, b2.size, b2.isNode, b2.plain, e1.size, e1.isNode, e1.plain, e2.size, e2.isNode, e2.plain, r8.size, r8.isNode, r8.plain, q1.rel.size, q1.rel.isNode, q1.rel.plain]) b2.plain b2.still ⟨trivial, trivial⟩ (fun t' ht' => hS t' (in_row hm.tl ((((((Deep.here _ .any).up (sB2.own o51) (i := 2) (by decide) (by simp -dsimp only [go_sem])).up (sl2.own o5) (i := 1) (by decide) rfl).up (re2.own hoi) (i := 5) (by decide) rfl).up (own_node (k := .arr xs.length 15) (hrow.upd (i := i) (d' := (.node (.agg [1, 1, 1, 1, 1, 4, 4, 1, 1]) (upd (upd (upd (upd (upd (upd rf 0 (.lit (.int .i64 m))) 1 (.lit (.int .i64 (m + 1)))) 2 (.lit (.int .i64 (m + 2)))) 3 (.lit (.int .i64 (m + 3)))) 4 (.lit (.int .i64 (m + 4)))) 5 (.node (.agg [1, 3]) (upd (upd a 0 (.lit (.bool (Int.tmod (m + 5) 3 == 0)))) 1 (.node (.agg [1, 1, 1]) (upd (upd b 0 (.lit (.int .i64 (m + 6)))) 1 x1))))))) (by rw [hfe]; exact re2.tl) re2.wh)) (i := i) hlt (upd_same _ _ _)).w t' ht') (by rw [hfe]; exact re2.tl))) [0, 4, 5] (fun _ _ => .any) (fun E => upd (fun _ => none) 1000 (some (g, t, (.node (.arr xs.length 15) (upd (upd fe i (.node (.agg [1, 1, 1, 1, 1, 4, 4, 1, 1]) (upd (upd (upd (upd (upd (upd rf 0 (.lit (.int .i64 m))) 1 (.lit (.int .i64 (m + 1)))) 2 (.lit (.int .i64 (m + 2)))) 3 (.lit (.int .i64 (m + 3)))) 4 (.lit (.int .i64 (m + 4)))) 5 (.node (.agg [1, 3]) (upd (upd a 0 (.lit (.bool (Int.tmod (m + 5) 3 == 0)))) 1 (.node (.agg [1, 1, 1]) (upd (upd b 0 (.lit (.int .i64 (m + 6)))) 1 x1))))))) i (.node (.agg [1, 1, 1, 1, 1, 4, 4, 1, 1]) (upd (upd (upd (upd (upd (upd (upd rf 0 (.lit (.int .i64 m))) 1 (.lit (.int .i64 (m + 1)))) 2 (.lit (.int .i64 (m + 2)))) 3 (.lit (.int .i64 (m + 3)))) 4 (.lit (.int .i64 (m + 4)))) 5 (.node (.agg [1, 3]) (upd (upd a 0 (.lit (.bool (Int.tmod (m + 5) 3 == 0)))) 1 (.node (.agg [1, 1, 1]) (upd (upd b 0 (.lit (.int .i64 (m + 6)))) 1 x1))))) 5 (.node (.agg [1, 3]) (upd (upd (upd a 0 (.lit (.bool (Int.tmod (m + 5) 3 == 0)))) 1 (.node (.agg [1, 1, 1]) (upd (upd b 0 (.lit (.int .i64 (m + 6)))) 1 x1))) 1 (.node (.agg [1, 1, 1]) (upd (upd (upd b 0 (.lit (.int .i64 (m + 6)))) 1 x1) 2 E))))))))))) fun x2 n2 hn2 q2 =>
        ⟨by simp -dsimp only [go_sem, hk, h5, h1, hlt, hw, hfe, w0, w1, w2, w3, w4, w5, w6, v0, v1, z0, r0, r1, r2, r3, r4, r7, ha, hb, hc, he, a0, b0, c0, e0, b1.size, b1.isNode, b1.plain, b2.size, b2.isNode, b2.plain, e1.size, e1.isNode, e1.plain, e2.size, e2.isNode, e2.plain, r8.size, r8.isNode, r8.plain, q1.rel.size, q1.rel.isNode, q1.rel.plain], carry_any, (CarR.none _ _ _).upd trivial (((((Deep.here _ _).up (sB2.own o51) (i := 2) (by decide) (by simp -dsimp only [go_sem])).up (sl2.own o5) (i := 1) (by decide) rfl).up (re2.own hoi) (i := 5) (by decide) rfl).up (own_node (k := .arr xs.length 15) (hrow.upd (i := i) (d' := (.node (.agg [1, 1, 1, 1, 1, 4, 4, 1, 1]) (upd (upd (upd (upd (upd (upd rf 0 (.lit (.int .i64 m))) 1 (.lit (.int .i64 (m + 1)))) 2 (.lit (.int .i64 (m + 2)))) 3 (.lit (.int .i64 (m + 3)))) 4 (.lit (.int .i64 (m + 4)))) 5 (.node (.agg [1, 3]) (upd (upd a 0 (.lit (.bool (Int.tmod (m + 5) 3 == 0)))) 1 (.node (.agg [1, 1, 1]) (upd (upd b 0 (.lit (.int .i64 (m + 6)))) 1 x1))))))) (by rw [hfe]; exact re2.tl) re2.wh)) (i := i) hlt (upd_same _ _ _)).c, ?_⟩
      have p2 := q2.same q2.rel.still
      simp -dsimp only [go_sem, hk, h5, h1, hlt, hw, hfe, w0, w1, w2, w3, w4, w5, w6, v0, v1, z0, r0, r1, r2, r3, r4, r7, ha, hb, hc, he, a0, b0, c0, e0, b1.size, b1.isNode, b1.plain, b2.size, b2.isNode, b2.plain, e1.size, e1.isNode, e1.plain, e2.size, e2.isNode, e2.plain, r8.size, r8.isNode, r8.plain, q1.rel.size, q1.rel.isNode, q1.rel.plain, q2.rel.size, q2.rel.isNode, q2.rel.plain]
      have sB3 : Same _ (D.node (.agg [1, 1, 1]) (upd (upd (upd b 0 (.lit (.int .i64 (m + 6)))) 1 x1) 2 x2)) := sB2.kid (by simp -dsimp only [go_sem]; exact p2)
      have sl3 : Same _ (D.node (.agg [1, 3]) (upd (upd a 0 (.lit (.bool (Int.tmod (m + 5) 3 == 0)))) 1 (.node (.agg [1, 1, 1]) (upd (upd (upd b 0 (.lit (.int .i64 (m + 6)))) 1 x1) 2 x2)))) := sA1.kid (by simp -dsimp only [go_sem, hb]; exact sB3)
      have re3 : Same _ (D.node (.agg [1, 1, 1, 1, 1, 4, 4, 1, 1]) (upd (upd (upd (upd (upd (upd rf 0 (.lit (.int .i64 m))) 1 (.lit (.int .i64 (m + 1)))) 2 (.lit (.int .i64 (m + 2)))) 3 (.lit (.int .i64 (m + 3)))) 4 (.lit (.int .i64 (m + 4)))) 5 (.node (.agg [1, 3]) (upd (upd a 0 (.lit (.bool (Int.tmod (m + 5) 3 == 0)))) 1 (.node (.agg [1, 1, 1]) (upd (upd (upd b 0 (.lit (.int .i64 (m + 6)))) 1 x1) 2 x2)))))) := sR5.kid (by simp -dsimp only [go_sem, ha]; exact sl3)
      have sE1 : Same _ (D.node (.agg [1, 1, 1]) (upd e 0 (.lit (.int .i64 (m + 7 + (x.before.o.ints.length : Nat) + (x.before.o.refs.length : Nat) + 1))))) := (Same.refl o61.wh hes).lit (by rw [e0]; rfl)
      have sC1 : Same _ (D.node (.agg [1, 3]) (upd c 0 (.lit (.bool (Int.tmod (m + 7 + (x.before.o.ints.length : Nat) + (x.before.o.refs.length : Nat)) 3 == 0))))) := (Same.refl o6.wh hcs').lit (by rw [c0]; rfl)
      have sl4 : Same _ (D.node (.agg [1, 3]) (upd (upd c 0 (.lit (.bool (Int.tmod (m + 7 + (x.before.o.ints.length : Nat) + (x.before.o.refs.length : Nat)) 3 == 0)))) 1 (.node (.agg [1, 1, 1]) (upd e 0 (.lit (.int .i64 (m + 7 + (x.before.o.ints.length : Nat) + (x.before.o.refs.length : Nat) + 1))))))) := sC1.kid (by simp -dsimp only [go_sem, he]; exact sE1)
      have re4 : Same _ (D.node (.agg [1, 1, 1, 1, 1, 4, 4, 1, 1]) (upd (upd (upd (upd (upd (upd (upd rf 0 (.lit (.int .i64 m))) 1 (.lit (.int .i64 (m + 1)))) 2 (.lit (.int .i64 (m + 2)))) 3 (.lit (.int .i64 (m + 3)))) 4 (.lit (.int .i64 (m + 4)))) 5 (.node (.agg [1, 3]) (upd (upd a 0 (.lit (.bool (Int.tmod (m + 5) 3 == 0)))) 1 (.node (.agg [1, 1, 1]) (upd (upd (upd b 0 (.lit (.int .i64 (m + 6)))) 1 x1) 2 x2))))) 6 (.node (.agg [1, 3]) (upd (upd c 0 (.lit (.bool (Int.tmod (m + 7 + (x.before.o.ints.length : Nat) + (x.before.o.refs.length : Nat)) 3 == 0)))) 1 (.node (.agg [1, 1, 1]) (upd e 0 (.lit (.int .i64 (m + 7 + (x.before.o.ints.length : Nat) + (x.before.o.refs.length : Nat) + 1))))))))) := re3.kid (by simp -dsimp only [go_sem, hc]; exact sl4)
      refine xcall_mk (markIntS_p _ _ (m + 7 + (x.before.o.ints.length : Nat) + (x.before.o.refs.length : Nat) + 2) lo hi e1 oQ1 (by omega) (by omega)) (by simp -dsimp only [go_sem, hk, h5, h1, hlt, hw, hfe, w0, w1, w2, w3, w4, w5, w6, v0, v1, z0, r0, r1, r2, r3, r4, r7, ha, hb, hc, he, a0, b0, c0, e0, b1.size, b1.isNode, b1.plain, b2.size, b2.isNode, b2.plain, e1.size, e1.isNode, e1.plain, e2.size, e2.isNode, e2.plain, r8.size, r8.isNode, r8.plain, q1.rel.size, q1.rel.isNode, q1.rel.plain, q2.rel.size, q2.rel.isNode, q2.rel.plain]) e1.plain e1.still ⟨trivial, trivial⟩ (fun t' ht' => hS t' (in_row hm.tl ((((((Deep.here _ .any).up (sE1.own o61) (i := 1) (by decide) (by simp -dsimp only [go_sem])).up (sl4.own o6) (i := 1) (by decide) rfl).up (re4.own hoi) (i := 6) (by decide) rfl).up (own_node (k := .arr xs.length 15) (hrow.upd (i := i) (d' := (.node (.agg [1, 1, 1, 1, 1, 4, 4, 1, 1]) (upd (upd (upd (upd (upd (upd (upd rf 0 (.lit (.int .i64 m))) 1 (.lit (.int .i64 (m + 1)))) 2 (.lit (.int .i64 (m + 2)))) 3 (.lit (.int .i64 (m + 3)))) 4 (.lit (.int .i64 (m + 4)))) 5 (.node (.agg [1, 3]) (upd (upd a 0 (.lit (.bool (Int.tmod (m + 5) 3 == 0)))) 1 (.node (.agg [1, 1, 1]) (upd (upd (upd b 0 (.lit (.int .i64 (m + 6)))) 1 x1) 2 x2))))) 6 (.node (.agg [1, 3]) (upd (upd c 0 (.lit (.bool (Int.tmod (m + 7 + (x.before.o.ints.length : Nat) + (x.before.o.refs.length : Nat)) 3 == 0)))) 1 (.node (.agg [1, 1, 1]) (upd e 0 (.lit (.int .i64 (m + 7 + (x.before.o.ints.length : Nat) + (x.before.o.refs.length : Nat) + 1)))))))))) (by rw [hfe]; exact re4.tl) re4.wh)) (i := i) hlt (upd_same _ _ _)).w t' ht') (by rw [hfe]; exact re4.tl))) [0, 4, 5] (fun _ _ => .any) (fun E => upd (fun _ => none) 1000 (some (g, t, (.node (.arr xs.length 15) (upd (upd fe i (.node (.agg [1, 1, 1, 1, 1, 4, 4, 1, 1]) (upd (upd (upd (upd (upd (upd (upd rf 0 (.lit (.int .i64 m))) 1 (.lit (.int .i64 (m + 1)))) 2 (.lit (.int .i64 (m + 2)))) 3 (.lit (.int .i64 (m + 3)))) 4 (.lit (.int .i64 (m + 4)))) 5 (.node (.agg [1, 3]) (upd (upd a 0 (.lit (.bool (Int.tmod (m + 5) 3 == 0)))) 1 (.node (.agg [1, 1, 1]) (upd (upd (upd b 0 (.lit (.int .i64 (m + 6)))) 1 x1) 2 x2))))) 6 (.node (.agg [1, 3]) (upd (upd c 0 (.lit (.bool (Int.tmod (m + 7 + (x.before.o.ints.length : Nat) + (x.before.o.refs.length : Nat)) 3 == 0)))) 1 (.node (.agg [1, 1, 1]) (upd e 0 (.lit (.int .i64 (m + 7 + (x.before.o.ints.length : Nat) + (x.before.o.refs.length : Nat) + 1)))))))))) i (.node (.agg [1, 1, 1, 1, 1, 4, 4, 1, 1]) (upd (upd (upd (upd (upd (upd (upd (upd rf 0 (.lit (.int .i64 m))) 1 (.lit (.int .i64 (m + 1)))) 2 (.lit (.int .i64 (m + 2)))) 3 (.lit (.int .i64 (m + 3)))) 4 (.lit (.int .i64 (m + 4)))) 5 (.node (.agg [1, 3]) (upd (upd a 0 (.lit (.bool (Int.tmod (m + 5) 3 == 0)))) 1 (.node (.agg [1, 1, 1]) (upd (upd (upd b 0 (.lit (.int .i64 (m + 6)))) 1 x1) 2 x2))))) 6 (.node (.agg [1, 3]) (upd (upd c 0 (.lit (.bool (Int.tmod (m + 7 + (x.before.o.ints.length : Nat) + (x.before.o.refs.length : Nat)) 3 == 0)))) 1 (.node (.agg [1, 1, 1]) (upd e 0 (.lit (.int .i64 (m + 7 + (x.before.o.ints.length : Nat) + (x.before.o.refs.length : Nat) + 1)))))))) 6 (.node (.agg [1, 3]) (upd (upd (upd c 0 (.lit (.bool (Int.tmod (m + 7 + (x.before.o.ints.length : Nat) + (x.before.o.refs.length : Nat)) 3 == 0)))) 1 (.node (.agg [1, 1, 1]) (upd e 0 (.lit (.int .i64 (m + 7 + (x.before.o.ints.length : Nat) + (x.before.o.refs.length : Nat) + 1)))))) 1 (.node (.agg [1, 1, 1]) (upd (upd e 0 (.lit (.int .i64 (m + 7 + (x.before.o.ints.length : Nat) + (x.before.o.refs.length : Nat) + 1)))) 1 E))))))))))) fun x3 n3 hn3 q3 =>
        ⟨by simp -dsimp only [go_sem, hk, h5, h1, hlt, hw, hfe, w0, w1, w2, w3, w4, w5, w6, v0, v1, z0, r0, r1, r2, r3, r4, r7, ha, hb, hc, he, a0, b0, c0, e0, b1.size, b1.isNode, b1.plain, b2.size, b2.isNode, b2.plain, e1.size, e1.isNode, e1.plain, e2.size, e2.isNode, e2.plain, r8.size, r8.isNode, r8.plain, q1.rel.size, q1.rel.isNode, q1.rel.plain, q2.rel.size, q2.rel.isNode, q2.rel.plain], carry_any, (CarR.none _ _ _).upd trivial (((((Deep.here _ _).up (sE1.own o61) (i := 1) (by decide) (by simp -dsimp only [go_sem])).up (sl4.own o6) (i := 1) (by decide) rfl).up (re4.own hoi) (i := 6) (by decide) rfl).up (own_node (k := .arr xs.length 15) (hrow.upd (i := i) (d' := (.node (.agg [1, 1, 1, 1, 1, 4, 4, 1, 1]) (upd (upd (upd (upd (upd (upd (upd rf 0 (.lit (.int .i64 m))) 1 (.lit (.int .i64 (m + 1)))) 2 (.lit (.int .i64 (m + 2)))) 3 (.lit (.int .i64 (m + 3)))) 4 (.lit (.int .i64 (m + 4)))) 5 (.node (.agg [1, 3]) (upd (upd a 0 (.lit (.bool (Int.tmod (m + 5) 3 == 0)))) 1 (.node (.agg [1, 1, 1]) (upd (upd (upd b 0 (.lit (.int .i64 (m + 6)))) 1 x1) 2 x2))))) 6 (.node (.agg [1, 3]) (upd (upd c 0 (.lit (.bool (Int.tmod (m + 7 + (x.before.o.ints.length : Nat) + (x.before.o.refs.length : Nat)) 3 == 0)))) 1 (.node (.agg [1, 1, 1]) (upd e 0 (.lit (.int .i64 (m + 7 + (x.before.o.ints.length : Nat) + (x.before.o.refs.length : Nat) + 1)))))))))) (by rw [hfe]; exact re4.tl) re4.wh)) (i := i) hlt (upd_same _ _ _)).c, ?_⟩
      have p3 := q3.same q3.rel.still
      simp -dsimp only [go_sem, hk, h5, h1, hlt, hw, hfe, w0, w1, w2, w3, w4, w5, w6, v0, v1, z0, r0, r1, r2, r3, r4, r7, ha, hb, hc, he, a0, b0, c0, e0, b1.size, b1.isNode, b1.plain, b2.size, b2.isNode, b2.plain, e1.size, e1.isNode, e1.plain, e2.size, e2.isNode, e2.plain, r8.size, r8.isNode, r8.plain, q1.rel.size, q1.rel.isNode, q1.rel.plain, q2.rel.size, q2.rel.isNode, q2.rel.plain, q3.rel.size, q3.rel.isNode, q3.rel.plain]
      have sE2 : Same _ (D.node (.agg [1, 1, 1]) (upd (upd e 0 (.lit (.int .i64 (m + 7 + (x.before.o.ints.length : Nat) + (x.before.o.refs.length : Nat) + 1)))) 1 x3)) := sE1.kid (by simp -dsimp only [go_sem]; exact p3)
      have sl5 : Same _ (D.node (.agg [1, 3]) (upd (upd c 0 (.lit (.bool (Int.tmod (m + 7 + (x.before.o.ints.length : Nat) + (x.before.o.refs.length : Nat)) 3 == 0)))) 1 (.node (.agg [1, 1, 1]) (upd (upd e 0 (.lit (.int .i64 (m + 7 + (x.before.o.ints.length : Nat) + (x.before.o.refs.length : Nat) + 1)))) 1 x3)))) := sC1.kid (by simp -dsimp only [go_sem, he]; exact sE2)
      have re5 : Same _ (D.node (.agg [1, 1, 1, 1, 1, 4, 4, 1, 1]) (upd (upd (upd (upd (upd (upd (upd rf 0 (.lit (.int .i64 m))) 1 (.lit (.int .i64 (m + 1)))) 2 (.lit (.int .i64 (m + 2)))) 3 (.lit (.int .i64 (m + 3)))) 4 (.lit (.int .i64 (m + 4)))) 5 (.node (.agg [1, 3]) (upd (upd a 0 (.lit (.bool (Int.tmod (m + 5) 3 == 0)))) 1 (.node (.agg [1, 1, 1]) (upd (upd (upd b 0 (.lit (.int .i64 (m + 6)))) 1 x1) 2 x2))))) 6 (.node (.agg [1, 3]) (upd (upd c 0 (.lit (.bool (Int.tmod (m + 7 + (x.before.o.ints.length : Nat) + (x.before.o.refs.length : Nat)) 3 == 0)))) 1 (.node (.agg [1, 1, 1]) (upd (upd e 0 (.lit (.int .i64 (m + 7 + (x.before.o.ints.length : Nat) + (x.before.o.refs.length : Nat) + 1)))) 1 x3)))))) := re3.kid (by simp -dsimp only [go_sem, hc]; exact sl5)
      refine xcall_mk (markIntS_p _ _ (m + 7 + (x.before.o.ints.length : Nat) + (x.before.o.refs.length : Nat) + 2 + (x.after.o.ints.length : Nat)) lo hi e2 oQ2 (by omega) (by omega)) (by simp -dsimp only [go_sem, hk, h5, h1, hlt, hw, hfe, w0, w1, w2, w3, w4, w5, w6, v0, v1, z0, r0, r1, r2, r3, r4, r7, ha, hb, hc, he, a0, b0, c0, e0, b1.size, b1.isNode, b1.plain, b2.size, b2.isNode, b2.plain, e1.size, e1.isNode, e1.plain, e2.size, e2.isNode, e2.plain, r8.size, r8.isNode, r8.plain, q1.rel.size, q1.rel.isNode, q1.rel.plain, q2.rel.size, q2.rel.isNode, q2.rel.plain, q3.rel.size, q3.rel.isNode, q3.rel.plain]) e2.plain e2.still ⟨trivial, trivial⟩ (fun t' ht' => hS t' (in_row hm.tl ((((((Deep.here _ .any).up (sE2.own o61) (i := 2) (by decide) (by simp -dsimp only [go_sem])).up (sl5.own o6) (i := 1) (by decide) rfl).up (re5.own hoi) (i := 6) (by decide) rfl).up (own_node (k := .arr xs.length 15) (hrow.upd (i := i) (d' := (.node (.agg [1, 1, 1, 1, 1, 4, 4, 1, 1]) (upd (upd (upd (upd (upd (upd (upd rf 0 (.lit (.int .i64 m))) 1 (.lit (.int .i64 (m + 1)))) 2 (.lit (.int .i64 (m + 2)))) 3 (.lit (.int .i64 (m + 3)))) 4 (.lit (.int .i64 (m + 4)))) 5 (.node (.agg [1, 3]) (upd (upd a 0 (.lit (.bool (Int.tmod (m + 5) 3 == 0)))) 1 (.node (.agg [1, 1, 1]) (upd (upd (upd b 0 (.lit (.int .i64 (m + 6)))) 1 x1) 2 x2))))) 6 (.node (.agg [1, 3]) (upd (upd c 0 (.lit (.bool (Int.tmod (m + 7 + (x.before.o.ints.length : Nat) + (x.before.o.refs.length : Nat)) 3 == 0)))) 1 (.node (.agg [1, 1, 1]) (upd (upd e 0 (.lit (.int .i64 (m + 7 + (x.before.o.ints.length : Nat) + (x.before.o.refs.length : Nat) + 1)))) 1 x3))))))) (by rw [hfe]; exact re5.tl) re5.wh)) (i := i) hlt (upd_same _ _ _)).w t' ht') (by rw [hfe]; exact re5.tl))) [0, 4, 5] (fun _ _ => .any) (fun E => upd (fun _ => none) 1000 (some (g, t, (.node (.arr xs.length 15) (upd (upd fe i (.node (.agg [1, 1, 1, 1, 1, 4, 4, 1, 1]) (upd (upd (upd (upd (upd (upd (upd rf 0 (.lit (.int .i64 m))) 1 (.lit (.int .i64 (m + 1)))) 2 (.lit (.int .i64 (m + 2)))) 3 (.lit (.int .i64 (m + 3)))) 4 (.lit (.int .i64 (m + 4)))) 5 (.node (.agg [1, 3]) (upd (upd a 0 (.lit (.bool (Int.tmod (m + 5) 3 == 0)))) 1 (.node (.agg [1, 1, 1]) (upd (upd (upd b 0 (.lit (.int .i64 (m + 6)))) 1 x1) 2 x2))))) 6 (.node (.agg [1, 3]) (upd (upd c 0 (.lit (.bool (Int.tmod (m + 7 + (x.before.o.ints.length : Nat) + (x.before.o.refs.length : Nat)) 3 == 0)))) 1 (.node (.agg [1, 1, 1]) (upd (upd e 0 (.lit (.int .i64 (m + 7 + (x.before.o.ints.length : Nat) + (x.before.o.refs.length : Nat) + 1)))) 1 x3))))))) i (.node (.agg [1, 1, 1, 1, 1, 4, 4, 1, 1]) (upd (upd (upd (upd (upd (upd (upd (upd rf 0 (.lit (.int .i64 m))) 1 (.lit (.int .i64 (m + 1)))) 2 (.lit (.int .i64 (m + 2)))) 3 (.lit (.int .i64 (m + 3)))) 4 (.lit (.int .i64 (m + 4)))) 5 (.node (.agg [1, 3]) (upd (upd a 0 (.lit (.bool (Int.tmod (m + 5) 3 == 0)))) 1 (.node (.agg [1, 1, 1]) (upd (upd (upd b 0 (.lit (.int .i64 (m + 6)))) 1 x1) 2 x2))))) 6 (.node (.agg [1, 3]) (upd (upd c 0 (.lit (.bool (Int.tmod (m + 7 + (x.before.o.ints.length : Nat) + (x.before.o.refs.length : Nat)) 3 == 0)))) 1 (.node (.agg [1, 1, 1]) (upd (upd e 0 (.lit (.int .i64 (m + 7 + (x.before.o.ints.length : Nat) + (x.before.o.refs.length : Nat) + 1)))) 1 x3))))) 6 (.node (.agg [1, 3]) (upd (upd (upd c 0 (.lit (.bool (Int.tmod (m + 7 + (x.before.o.ints.length : Nat) + (x.before.o.refs.length : Nat)) 3 == 0)))) 1 (.node (.agg [1, 1, 1]) (upd (upd e 0 (.lit (.int .i64 (m + 7 + (x.before.o.ints.length : Nat) + (x.before.o.refs.length : Nat) + 1)))) 1 x3))) 1 (.node (.agg [1, 1, 1]) (upd (upd (upd e 0 (.lit (.int .i64 (m + 7 + (x.before.o.ints.length : Nat) + (x.before.o.refs.length : Nat) + 1)))) 1 x3) 2 E))))))))))) fun x4 n4 hn4 q4 =>
        ⟨by simp -dsimp only [go_sem, hk, h5, h1, hlt, hw, hfe, w0, w1, w2, w3, w4, w5, w6, v0, v1, z0, r0, r1, r2, r3, r4, r7, ha, hb, hc, he, a0, b0, c0, e0, b1.size, b1.isNode, b1.plain, b2.size, b2.isNode, b2.plain, e1.size, e1.isNode, e1.plain, e2.size, e2.isNode, e2.plain, r8.size, r8.isNode, r8.plain, q1.rel.size, q1.rel.isNode, q1.rel.plain, q2.rel.size, q2.rel.isNode, q2.rel.plain, q3.rel.size, q3.rel.isNode, q3.rel.plain], carry_any, (CarR.none _ _ _).upd trivial (((((Deep.here _ _).up (sE2.own o61) (i := 2) (by decide) (by simp -dsimp only [go_sem])).up (sl5.own o6) (i := 1) (by decide) rfl).up (re5.own hoi) (i := 6) (by decide) rfl).up (own_node (k := .arr xs.length 15) (hrow.upd (i := i) (d' := (.node (.agg [1, 1, 1, 1, 1, 4, 4, 1, 1]) (upd (upd (upd (upd (upd (upd (upd rf 0 (.lit (.int .i64 m))) 1 (.lit (.int .i64 (m + 1)))) 2 (.lit (.int .i64 (m + 2)))) 3 (.lit (.int .i64 (m + 3)))) 4 (.lit (.int .i64 (m + 4)))) 5 (.node (.agg [1, 3]) (upd (upd a 0 (.lit (.bool (Int.tmod (m + 5) 3 == 0)))) 1 (.node (.agg [1, 1, 1]) (upd (upd (upd b 0 (.lit (.int .i64 (m + 6)))) 1 x1) 2 x2))))) 6 (.node (.agg [1, 3]) (upd (upd c 0 (.lit (.bool (Int.tmod (m + 7 + (x.before.o.ints.length : Nat) + (x.before.o.refs.length : Nat)) 3 == 0)))) 1 (.node (.agg [1, 1, 1]) (upd (upd e 0 (.lit (.int .i64 (m + 7 + (x.before.o.ints.length : Nat) + (x.before.o.refs.length : Nat) + 1)))) 1 x3))))))) (by rw [hfe]; exact re5.tl) re5.wh)) (i := i) hlt (upd_same _ _ _)).c, ?_⟩
      have p4 := q4.same q4.rel.still
      simp -dsimp only [go_sem, hk, h5, h1, hlt, hw, hfe, w0, w1, w2, w3, w4, w5, w6, v0, v1, z0, r0, r1, r2, r3, r4, r7, ha, hb, hc, he, a0, b0, c0, e0, b1.size, b1.isNode, b1.plain, b2.size, b2.isNode, b2.plain, e1.size, e1.isNode, e1.plain, e2.size, e2.isNode, e2.plain, r8.size, r8.isNode, r8.plain, q1.rel.size, q1.rel.isNode, q1.rel.plain, q2.rel.size, q2.rel.isNode, q2.rel.plain, q3.rel.size, q3.rel.isNode, q3.rel.plain, q4.rel.size, q4.rel.isNode, q4.rel.plain]
      have sE3 : Same _ (D.node (.agg [1, 1, 1]) (upd (upd (upd e 0 (.lit (.int .i64 (m + 7 + (x.before.o.ints.length : Nat) + (x.before.o.refs.length : Nat) + 1)))) 1 x3) 2 x4)) := sE2.kid (by simp -dsimp only [go_sem]; exact p4)
      have sl6 : Same _ (D.node (.agg [1, 3]) (upd (upd c 0 (.lit (.bool (Int.tmod (m + 7 + (x.before.o.ints.length : Nat) + (x.before.o.refs.length : Nat)) 3 == 0)))) 1 (.node (.agg [1, 1, 1]) (upd (upd (upd e 0 (.lit (.int .i64 (m + 7 + (x.before.o.ints.length : Nat) + (x.before.o.refs.length : Nat) + 1)))) 1 x3) 2 x4)))) := sC1.kid (by simp -dsimp only [go_sem, he]; exact sE3)
      have re6 : Same _ (D.node (.agg [1, 1, 1, 1, 1, 4, 4, 1, 1]) (upd (upd (upd (upd (upd (upd (upd rf 0 (.lit (.int .i64 m))) 1 (.lit (.int .i64 (m + 1)))) 2 (.lit (.int .i64 (m + 2)))) 3 (.lit (.int .i64 (m + 3)))) 4 (.lit (.int .i64 (m + 4)))) 5 (.node (.agg [1, 3]) (upd (upd a 0 (.lit (.bool (Int.tmod (m + 5) 3 == 0)))) 1 (.node (.agg [1, 1, 1]) (upd (upd (upd b 0 (.lit (.int .i64 (m + 6)))) 1 x1) 2 x2))))) 6 (.node (.agg [1, 3]) (upd (upd c 0 (.lit (.bool (Int.tmod (m + 7 + (x.before.o.ints.length : Nat) + (x.before.o.refs.length : Nat)) 3 == 0)))) 1 (.node (.agg [1, 1, 1]) (upd (upd (upd e 0 (.lit (.int .i64 (m + 7 + (x.before.o.ints.length : Nat) + (x.before.o.refs.length : Nat) + 1)))) 1 x3) 2 x4)))))) := re3.kid (by simp -dsimp only [go_sem, hc]; exact sl6)
      have re7 : Same _ (D.node (.agg [1, 1, 1, 1, 1, 4, 4, 1, 1]) (upd (upd (upd (upd (upd (upd (upd (upd rf 0 (.lit (.int .i64 m))) 1 (.lit (.int .i64 (m + 1)))) 2 (.lit (.int .i64 (m + 2)))) 3 (.lit (.int .i64 (m + 3)))) 4 (.lit (.int .i64 (m + 4)))) 5 (.node (.agg [1, 3]) (upd (upd a 0 (.lit (.bool (Int.tmod (m + 5) 3 == 0)))) 1 (.node (.agg [1, 1, 1]) (upd (upd (upd b 0 (.lit (.int .i64 (m + 6)))) 1 x1) 2 x2))))) 6 (.node (.agg [1, 3]) (upd (upd c 0 (.lit (.bool (Int.tmod (m + 7 + (x.before.o.ints.length : Nat) + (x.before.o.refs.length : Nat)) 3 == 0)))) 1 (.node (.agg [1, 1, 1]) (upd (upd (upd e 0 (.lit (.int .i64 (m + 7 + (x.before.o.ints.length : Nat) + (x.before.o.refs.length : Nat) + 1)))) 1 x3) 2 x4))))) 7 (.lit (.int .i64 (m + 7 + (x.before.o.ints.length : Nat) + (x.before.o.refs.length : Nat) + 2 + (x.after.o.ints.length : Nat) + (x.after.o.refs.length : Nat)))))) := re6.lit (by simp -dsimp only [go_sem, r7]; rfl)
      refine xcall_mk (markLiveS_p _ _ (m + 7 + (x.before.o.ints.length : Nat) + (x.before.o.refs.length : Nat) + 2 + (x.after.o.ints.length : Nat) + (x.after.o.refs.length : Nat) + 1) lo hi r8 oT (by omega) (by omega)) (by simp -dsimp only [go_sem, hk, h5, h1, hlt, hw, hfe, w0, w1, w2, w3, w4, w5, w6, v0, v1, z0, r0, r1, r2, r3, r4, r7, ha, hb, hc, he, a0, b0, c0, e0, b1.size, b1.isNode, b1.plain, b2.size, b2.isNode, b2.plain, e1.size, e1.isNode, e1.plain, e2.size, e2.isNode, e2.plain, r8.size, r8.isNode, r8.plain, q1.rel.size, q1.rel.isNode, q1.rel.plain, q2.rel.size, q2.rel.isNode, q2.rel.plain, q3.rel.size, q3.rel.isNode, q3.rel.plain, q4.rel.size, q4.rel.isNode, q4.rel.plain]) r8.plain r8.still ⟨trivial, trivial⟩ (fun t' ht' => hS t' (in_row hm.tl ((((Deep.here _ .any).up (re7.own hoi) (i := 8) (by decide) (by simp -dsimp only [go_sem])).up (own_node (k := .arr xs.length 15) (hrow.upd (i := i) (d' := (.node (.agg [1, 1, 1, 1, 1, 4, 4, 1, 1]) (upd (upd (upd (upd (upd (upd (upd (upd rf 0 (.lit (.int .i64 m))) 1 (.lit (.int .i64 (m + 1)))) 2 (.lit (.int .i64 (m + 2)))) 3 (.lit (.int .i64 (m + 3)))) 4 (.lit (.int .i64 (m + 4)))) 5 (.node (.agg [1, 3]) (upd (upd a 0 (.lit (.bool (Int.tmod (m + 5) 3 == 0)))) 1 (.node (.agg [1, 1, 1]) (upd (upd (upd b 0 (.lit (.int .i64 (m + 6)))) 1 x1) 2 x2))))) 6 (.node (.agg [1, 3]) (upd (upd c 0 (.lit (.bool (Int.tmod (m + 7 + (x.before.o.ints.length : Nat) + (x.before.o.refs.length : Nat)) 3 == 0)))) 1 (.node (.agg [1, 1, 1]) (upd (upd (upd e 0 (.lit (.int .i64 (m + 7 + (x.before.o.ints.length : Nat) + (x.before.o.refs.length : Nat) + 1)))) 1 x3) 2 x4))))) 7 (.lit (.int .i64 (m + 7 + (x.before.o.ints.length : Nat) + (x.before.o.refs.length : Nat) + 2 + (x.after.o.ints.length : Nat) + (x.after.o.refs.length : Nat))))))) (by rw [hfe]; exact re7.tl) re7.wh)) (i := i) hlt (upd_same _ _ _)).w t' ht') (by rw [hfe]; exact re7.tl))) [0, 4, 5] (fun _ _ => .any) (fun E => upd (fun _ => none) 1000 (some (g, t, (.node (.arr xs.length 15) (upd (upd fe i (.node (.agg [1, 1, 1, 1, 1, 4, 4, 1, 1]) (upd (upd (upd (upd (upd (upd (upd (upd rf 0 (.lit (.int .i64 m))) 1 (.lit (.int .i64 (m + 1)))) 2 (.lit (.int .i64 (m + 2)))) 3 (.lit (.int .i64 (m + 3)))) 4 (.lit (.int .i64 (m + 4)))) 5 (.node (.agg [1, 3]) (upd (upd a 0 (.lit (.bool (Int.tmod (m + 5) 3 == 0)))) 1 (.node (.agg [1, 1, 1]) (upd (upd (upd b 0 (.lit (.int .i64 (m + 6)))) 1 x1) 2 x2))))) 6 (.node (.agg [1, 3]) (upd (upd c 0 (.lit (.bool (Int.tmod (m + 7 + (x.before.o.ints.length : Nat) + (x.before.o.refs.length : Nat)) 3 == 0)))) 1 (.node (.agg [1, 1, 1]) (upd (upd (upd e 0 (.lit (.int .i64 (m + 7 + (x.before.o.ints.length : Nat) + (x.before.o.refs.length : Nat) + 1)))) 1 x3) 2 x4))))) 7 (.lit (.int .i64 (m + 7 + (x.before.o.ints.length : Nat) + (x.before.o.refs.length : Nat) + 2 + (x.after.o.ints.length : Nat) + (x.after.o.refs.length : Nat))))))) i (.node (.agg [1, 1, 1, 1, 1, 4, 4, 1, 1]) (upd (upd (upd (upd (upd (upd (upd (upd (upd rf 0 (.lit (.int .i64 m))) 1 (.lit (.int .i64 (m + 1)))) 2 (.lit (.int .i64 (m + 2)))) 3 (.lit (.int .i64 (m + 3)))) 4 (.lit (.int .i64 (m + 4)))) 5 (.node (.agg [1, 3]) (upd (upd a 0 (.lit (.bool (Int.tmod (m + 5) 3 == 0)))) 1 (.node (.agg [1, 1, 1]) (upd (upd (upd b 0 (.lit (.int .i64 (m + 6)))) 1 x1) 2 x2))))) 6 (.node (.agg [1, 3]) (upd (upd c 0 (.lit (.bool (Int.tmod (m + 7 + (x.before.o.ints.length : Nat) + (x.before.o.refs.length : Nat)) 3 == 0)))) 1 (.node (.agg [1, 1, 1]) (upd (upd (upd e 0 (.lit (.int .i64 (m + 7 + (x.before.o.ints.length : Nat) + (x.before.o.refs.length : Nat) + 1)))) 1 x3) 2 x4))))) 7 (.lit (.int .i64 (m + 7 + (x.before.o.ints.length : Nat) + (x.before.o.refs.length : Nat) + 2 + (x.after.o.ints.length : Nat) + (x.after.o.refs.length : Nat))))) 8 E))))))) fun x5 n5 hn5 q5 =>
        ⟨by simp -dsimp only [go_sem, hk, h5, h1, hlt, hw, hfe, w0, w1, w2, w3, w4, w5, w6, v0, v1, z0, r0, r1, r2, r3, r4, r7, ha, hb, hc, he, a0, b0, c0, e0, b1.size, b1.isNode, b1.plain, b2.size, b2.isNode, b2.plain, e1.size, e1.isNode, e1.plain, e2.size, e2.isNode, e2.plain, r8.size, r8.isNode, r8.plain, q1.rel.size, q1.rel.isNode, q1.rel.plain, q2.rel.size, q2.rel.isNode, q2.rel.plain, q3.rel.size, q3.rel.isNode, q3.rel.plain, q4.rel.size, q4.rel.isNode, q4.rel.plain], carry_any, (CarR.none _ _ _).upd trivial (((Deep.here _ _).up (re7.own hoi) (i := 8) (by decide) (by simp -dsimp only [go_sem])).up (own_node (k := .arr xs.length 15) (hrow.upd (i := i) (d' := (.node (.agg [1, 1, 1, 1, 1, 4, 4, 1, 1]) (upd (upd (upd (upd (upd (upd (upd (upd rf 0 (.lit (.int .i64 m))) 1 (.lit (.int .i64 (m + 1)))) 2 (.lit (.int .i64 (m + 2)))) 3 (.lit (.int .i64 (m + 3)))) 4 (.lit (.int .i64 (m + 4)))) 5 (.node (.agg [1, 3]) (upd (upd a 0 (.lit (.bool (Int.tmod (m + 5) 3 == 0)))) 1 (.node (.agg [1, 1, 1]) (upd (upd (upd b 0 (.lit (.int .i64 (m + 6)))) 1 x1) 2 x2))))) 6 (.node (.agg [1, 3]) (upd (upd c 0 (.lit (.bool (Int.tmod (m + 7 + (x.before.o.ints.length : Nat) + (x.before.o.refs.length : Nat)) 3 == 0)))) 1 (.node (.agg [1, 1, 1]) (upd (upd (upd e 0 (.lit (.int .i64 (m + 7 + (x.before.o.ints.length : Nat) + (x.before.o.refs.length : Nat) + 1)))) 1 x3) 2 x4))))) 7 (.lit (.int .i64 (m + 7 + (x.before.o.ints.length : Nat) + (x.before.o.refs.length : Nat) + 2 + (x.after.o.ints.length : Nat) + (x.after.o.refs.length : Nat))))))) (by rw [hfe]; exact re7.tl) re7.wh)) (i := i) hlt (upd_same _ _ _)).c, ?_⟩
      have p5 := q5.same q5.rel.still
      simp -dsimp only [go_sem, hk, h5, h1, hlt, hw, hfe, w0, w1, w2, w3, w4, w5, w6, v0, v1, z0, r0, r1, r2, r3, r4, r7, ha, hb, hc, he, a0, b0, c0, e0, b1.size, b1.isNode, b1.plain, b2.size, b2.isNode, b2.plain, e1.size, e1.isNode, e1.plain, e2.size, e2.isNode, e2.plain, r8.size, r8.isNode, r8.plain, q1.rel.size, q1.rel.isNode, q1.rel.plain, q2.rel.size, q2.rel.isNode, q2.rel.plain, q3.rel.size, q3.rel.isNode, q3.rel.plain, q4.rel.size, q4.rel.isNode, q4.rel.plain, q5.rel.size, q5.rel.isNode, q5.rel.plain]
      have re8 : Same _ (D.node (.agg [1, 1, 1, 1, 1, 4, 4, 1, 1]) (upd (upd (upd (upd (upd (upd (upd (upd (upd rf 0 (.lit (.int .i64 m))) 1 (.lit (.int .i64 (m + 1)))) 2 (.lit (.int .i64 (m + 2)))) 3 (.lit (.int .i64 (m + 3)))) 4 (.lit (.int .i64 (m + 4)))) 5 (.node (.agg [1, 3]) (upd (upd a 0 (.lit (.bool (Int.tmod (m + 5) 3 == 0)))) 1 (.node (.agg [1, 1, 1]) (upd (upd (upd b 0 (.lit (.int .i64 (m + 6)))) 1 x1) 2 x2))))) 6 (.node (.agg [1, 3]) (upd (upd c 0 (.lit (.bool (Int.tmod (m + 7 + (x.before.o.ints.length : Nat) + (x.before.o.refs.length : Nat)) 3 == 0)))) 1 (.node (.agg [1, 1, 1]) (upd (upd (upd e 0 (.lit (.int .i64 (m + 7 + (x.before.o.ints.length : Nat) + (x.before.o.refs.length : Nat) + 1)))) 1 x3) 2 x4))))) 7 (.lit (.int .i64 (m + 7 + (x.before.o.ints.length : Nat) + (x.before.o.refs.length : Nat) + 2 + (x.after.o.ints.length : Nat) + (x.after.o.refs.length : Nat))))) 8 x5)) := re7.kid (by simp -dsimp only [go_sem]; exact p5)
      have hrel : IsRec (D.node (.agg [1, 1, 1, 1, 1, 4, 4, 1, 1]) (upd (upd (upd (upd (upd (upd (upd (upd (upd rf 0 (.lit (.int .i64 m))) 1 (.lit (.int .i64 (m + 1)))) 2 (.lit (.int .i64 (m + 2)))) 3 (.lit (.int .i64 (m + 3)))) 4 (.lit (.int .i64 (m + 4)))) 5 (.node (.agg [1, 3]) (upd (upd a 0 (.lit (.bool (Int.tmod (m + 5) 3 == 0)))) 1 (.node (.agg [1, 1, 1]) (upd (upd (upd b 0 (.lit (.int .i64 (m + 6)))) 1 x1) 2 x2))))) 6 (.node (.agg [1, 3]) (upd (upd c 0 (.lit (.bool (Int.tmod (m + 7 + (x.before.o.ints.length : Nat) + (x.before.o.refs.length : Nat)) 3 == 0)))) 1 (.node (.agg [1, 1, 1]) (upd (upd (upd e 0 (.lit (.int .i64 (m + 7 + (x.before.o.ints.length : Nat) + (x.before.o.refs.length : Nat) + 1)))) 1 x3) 2 x4))))) 7 (.lit (.int .i64 (m + 7 + (x.before.o.ints.length : Nat) + (x.before.o.refs.length : Nat) + 2 + (x.after.o.ints.length : Nat) + (x.after.o.refs.length : Nat))))) 8 x5)) (Md.mkRecs k xs)[i] := by
        rw [show (Md.mkRecs k xs)[i] = _ from hget]
        refine ⟨_, rfl, re8.st, by simp -dsimp only [go_sem]; rfl, by simp -dsimp only [go_sem]; rfl, by simp -dsimp only [go_sem]; rfl, by simp -dsimp only [go_sem]; rfl, by simp -dsimp only [go_sem]; rfl, ?_, ?_, by simp -dsimp only [go_sem]; rfl, by simp -dsimp only [go_sem]; exact q5.rel⟩
        · simp -dsimp only [go_sem]
          exact ⟨_, rfl, sl3.st, by simp -dsimp only [go_sem]; rfl, by simp -dsimp only [go_sem]; exact ⟨_, rfl, sB3.st, by simp -dsimp only [go_sem]; rfl, by simp -dsimp only [go_sem]; exact q1.rel, by simp -dsimp only [go_sem]; exact q2.rel⟩⟩
        · simp -dsimp only [go_sem]
          exact ⟨_, rfl, sl6.st, by simp -dsimp only [go_sem]; rfl, by simp -dsimp only [go_sem]; exact ⟨_, rfl, sE3.st, by simp -dsimp only [go_sem]; rfl, by simp -dsimp only [go_sem]; exact q3.rel, by simp -dsimp only [go_sem]; exact q4.rel⟩⟩
      have hn5' : n' ≤ n5 := by simp only at hn1 hn2 hn3 hn4 hn5; omega
      exact into_r (by omega) (by simp -dsimp only [go_sem, hk]) ⟨by simp -dsimp only [go_sem], by simp -dsimp only [go_sem]; rw [ht, ← hmm, hce]; omega, _, rfl, hm.step shp_rec (by rw [hlen]; exact hlt) hrel (by rw [re8.tl, hrf]) re8.wh⟩
    · simp -dsimp only [go_sem, hk, h5, h1, hlt]
      have hmk := hm.mkd (t := t) hlen hlt hsh
      refine ⟨by rw [Md.sumBy_all Md.cRecE xs i (by omega)]; rfl, ?_⟩
      rw [rls_still hm.st]
      exact hmk.fin
theorem heldRecS_p (d : D) (xs : List Md.Rec) (k : Int) (h : IsL 15 IsRec d (Md.mkRecs k xs)) (hk0 : 0 ≤ k) (hk1 : k + (Md.cRecs xs : Nat) ≤ 4611686018427387904) :
    PCall Tryz.prog 153 [d, .lit (.int .i64 k)] fun _ _ r => r = .lit (.int .i64 (k + (Md.cRecs xs : Nat))) := by
  have hshort := h.short
  have hlen : (Md.mkRecs k xs).length = xs.length := Md.mkL_length _ _ _ _
  rw [hlen] at hshort
  have hL0 := h.lenT
  rw [hlen] at hL0
  refine pcall_intro_v Tryz.func153 rfl (by decide) rfl (by decide) (by rw [Tryz.ntmps153]; simp) fun w0 M n0 => ivc_sound ?_; simp -dsimp only [Tryz.f153, go_sem, hL0]
  refine iwp_forK xs.length [0] (fun i s => s 5 = .lit (.int .i64 i) ∧ s 1 = .lit (.int .i64 (k + (Md.sumBy Md.cRecE (xs.take i) : Nat)))) 0 (Nat.zero_le _) ⟨by simp -dsimp only [go_sem]; rfl, by simp -dsimp only [go_sem]; simp [Md.sumBy]⟩ ?_
  rintro i n' s hile hn hk ⟨h5, h1⟩
  refine ivc_sound ?_
  simp -dsimp only [go_sem] at hk
  by_cases hlt : i < xs.length
  · obtain ⟨t, zb, fi, hd, hst, hf⟩ := h.sl (i := i) (by rw [hlen]; exact hlt)
    rw [hlen] at hd
    have hlT := hL0
    rw [hd] at hlT
    have hf0 := hf i (by rw [hlen]; exact hlt)
    have hw := i64_succ (i := i) (by omega)
    have ht := Md.sumBy_take Md.cRecE xs i hlt
    have hle := Md.sumBy_le Md.cRecE xs (i + 1)
    have hcs : Md.cRecs xs = Md.sumBy Md.cRecE xs := rfl
    have hce := cRecE_eq xs[i]
    have hget := Md.mkL_get Md.mkRecE Md.cRecE k xs i (by rw [show Md.mkL Md.mkRecE Md.cRecE k xs = Md.mkRecs k xs from rfl, hlen]; exact hlt) hlt
    rw [mkRecE_eq] at hget
    rw [show (Md.mkRecs k xs)[i] = _ from hget] at hf0
    clear hget
    generalize hx : xs[i] = x at *
    generalize hmm : k + (Md.sumBy Md.cRecE (xs.take i) : Nat) = m at *
    obtain ⟨rf, hrf, hrs, r0, r1, r2, r3, r4, r5, r6, r7, r8⟩ := hf0
    obtain ⟨a, ha, has, a0, a1⟩ := r5
    obtain ⟨b, hb, hbs, b0, b1, b2⟩ := a1
    obtain ⟨c, hc, hcs', c0, c1⟩ := r6
    obtain ⟨e, he, hes, e0, e1, e2⟩ := c1
    have r0 : rf 0 = _ := r0
    have r1 : rf 1 = _ := r1
    have r2 : rf 2 = _ := r2
    have r3 : rf 3 = _ := r3
    have r4 : rf 4 = _ := r4
    have r7 : rf 7 = _ := r7
    have a0 : a 0 = (.lit (.bool (Int.tmod (m + 5) 3 == 0))) := a0
    have b0 : b 0 = _ := b0
    have c0 : c 0 = (.lit (.bool (Int.tmod (m + 7 + (x.before.o.ints.length : Nat) + (x.before.o.refs.length : Nat)) 3 == 0))) := c0
    have e0 : e 0 = _ := e0
    have w0 : IntKind.i64.wrap (m + 1) = m + 1 := (w64 (by omega) (by omega)).trans (by omega)
    have w1 : IntKind.i64.wrap (m + 1 + 1) = m + 2 := (w64 (by omega) (by omega)).trans (by omega)
    have w2 : IntKind.i64.wrap (m + 2 + 1) = m + 3 := (w64 (by omega) (by omega)).trans (by omega)
    have w3 : IntKind.i64.wrap (m + 3 + 1) = m + 4 := (w64 (by omega) (by omega)).trans (by omega)
    have w4 : IntKind.i64.wrap (m + 4 + 1) = m + 5 := (w64 (by omega) (by omega)).trans (by omega)
    have w5 : IntKind.i64.wrap (m + 5 + 1) = m + 6 := (w64 (by omega) (by omega)).trans (by omega)
    have w6 : IntKind.i64.wrap (m + 6 + 1) = m + 7 := (w64 (by omega) (by omega)).trans (by omega)
    have v0 : IntKind.i64.wrap (m + 7 + (x.before.o.ints.length : Nat) + (x.before.o.refs.length : Nat) + 1) = m + 7 + (x.before.o.ints.length : Nat) + (x.before.o.refs.length : Nat) + 1 := (w64 (by omega) (by omega)).trans (by omega)
    have v1 : IntKind.i64.wrap (m + 7 + (x.before.o.ints.length : Nat) + (x.before.o.refs.length : Nat) + 1 + 1) = m + 7 + (x.before.o.ints.length : Nat) + (x.before.o.refs.length : Nat) + 2 := (w64 (by omega) (by omega)).trans (by omega)
    have z0 : IntKind.i64.wrap (m + 7 + (x.before.o.ints.length : Nat) + (x.before.o.refs.length : Nat) + 2 + (x.after.o.ints.length : Nat) + (x.after.o.refs.length : Nat) + 1) = m + 7 + (x.before.o.ints.length : Nat) + (x.before.o.refs.length : Nat) + 2 + (x.after.o.ints.length : Nat) + (x.after.o.refs.length : Nat) + 1 := (w64 (by omega) (by omega)).trans (by omega)
    simp -dsimp only [go_sem, hk, h5, h1, hlt, hlT, hd, hrf, hw, w0, w1, w2, w3, w4, w5, w6, v0, v1, z0, r0, r1, r2, r3, r4, r7, ha, hb, hc, he, a0, b0, c0, e0, b1.size, b1.isNode, b1.plain, b2.size, b2.isNode, b2.plain, e1.size, e1.isNode, e1.plain, e2.size, e2.isNode, e2.plain, r8.size, r8.isNode, r8.plain, bne_self_eq_false, Bool.not_true, Bool.not_false, Bool.false_eq_true, Bool.true_eq_false, false_imp_iff, true_and, and_true, forall_const, reduceCtorEq]
    refine xcall_v (heldIntS_p _ (Md.mkInts (m + 7) x.before.o.ints.length) (m + 7) b1 (fun i hi => Md.mkInts_get _ _ i hi) (by omega) (by rw [Md.mkInts_length]; omega)) (by simp -dsimp only [go_sem, rl_still, b1.still, hk, h5, h1, hlt, hlT, hd, hrf, hw, w0, w1, w2, w3, w4, w5, w6, v0, v1, z0, r0, r1, r2, r3, r4, r7, ha, hb, hc, he, a0, b0, c0, e0, b1.size, b1.isNode, b1.plain, b2.size, b2.isNode, b2.plain, e1.size, e1.isNode, e1.plain, e2.size, e2.isNode, e2.plain, r8.size, r8.isNode, r8.plain, bne_self_eq_false, Bool.not_true, Bool.not_false, Bool.false_eq_true, Bool.true_eq_false, false_imp_iff, true_and, and_true, forall_const, reduceCtorEq]) (fun _ => trivial) fun n0 hn0 => ?_
    have g0 : ¬ (m + 7 + (x.before.o.ints.length : Nat) < 0) := by omega
    simp -dsimp only [go_sem, hk, h5, h1, hlt, hlT, hd, hrf, hw, w0, w1, w2, w3, w4, w5, w6, v0, v1, z0, r0, r1, r2, r3, r4, r7, ha, hb, hc, he, a0, b0, c0, e0, b1.size, b1.isNode, b1.plain, b2.size, b2.isNode, b2.plain, e1.size, e1.isNode, e1.plain, e2.size, e2.isNode, e2.plain, r8.size, r8.isNode, r8.plain, bne_self_eq_false, Bool.not_true, Bool.not_false, Bool.false_eq_true, Bool.true_eq_false, false_imp_iff, true_and, and_true, forall_const, reduceCtorEq, g0, Md.mkInts_length, Nat.one_mul, decide_false]
    refine xcall_v (heldIntS_p _ (Md.mkInts (m + 7 + (x.before.o.ints.length : Nat)) x.before.o.refs.length) (m + 7 + (x.before.o.ints.length : Nat)) b2 (fun i hi => Md.mkInts_get _ _ i hi) (by omega) (by rw [Md.mkInts_length]; omega)) (by simp -dsimp only [go_sem, rl_still, b2.still, hk, h5, h1, hlt, hlT, hd, hrf, hw, w0, w1, w2, w3, w4, w5, w6, v0, v1, z0, r0, r1, r2, r3, r4, r7, ha, hb, hc, he, a0, b0, c0, e0, b1.size, b1.isNode, b1.plain, b2.size, b2.isNode, b2.plain, e1.size, e1.isNode, e1.plain, e2.size, e2.isNode, e2.plain, r8.size, r8.isNode, r8.plain, bne_self_eq_false, Bool.not_true, Bool.not_false, Bool.false_eq_true, Bool.true_eq_false, false_imp_iff, true_and, and_true, forall_const, reduceCtorEq, g0, Md.mkInts_length, Nat.one_mul, decide_false]) (fun _ => trivial) fun n1 hn1 => ?_
    have g1 : ¬ (m + 7 + (x.before.o.ints.length : Nat) + (x.before.o.refs.length : Nat) < 0) := by omega
    simp -dsimp only [go_sem, hk, h5, h1, hlt, hlT, hd, hrf, hw, w0, w1, w2, w3, w4, w5, w6, v0, v1, z0, r0, r1, r2, r3, r4, r7, ha, hb, hc, he, a0, b0, c0, e0, b1.size, b1.isNode, b1.plain, b2.size, b2.isNode, b2.plain, e1.size, e1.isNode, e1.plain, e2.size, e2.isNode, e2.plain, r8.size, r8.isNode, r8.plain, bne_self_eq_false, Bool.not_true, Bool.not_false, Bool.false_eq_true, Bool.true_eq_false, false_imp_iff, true_and, and_true, forall_const, reduceCtorEq, g0, Md.mkInts_length, Nat.one_mul, decide_false, g1, Md.mkInts_length, Nat.one_mul, decide_false]
    refine xcall_v (heldIntS_p _ (Md.mkInts (m + 7 + (x.before.o.ints.length : Nat) + (x.before.o.refs.length : Nat) + 2) x.after.o.ints.length) (m + 7 + (x.before.o.ints.length : Nat) + (x.before.o.refs.length : Nat) + 2) e1 (fun i hi => Md.mkInts_get _ _ i hi) (by omega) (by rw [Md.mkInts_length]; omega)) (by simp -dsimp only [go_sem, rl_still, e1.still, hk, h5, h1, hlt, hlT, hd, hrf, hw, w0, w1, w2, w3, w4, w5, w6, v0, v1, z0, r0, r1, r2, r3, r4, r7, ha, hb, hc, he, a0, b0, c0, e0, b1.size, b1.isNode, b1.plain, b2.size, b2.isNode, b2.plain, e1.size, e1.isNode, e1.plain, e2.size, e2.isNode, e2.plain, r8.size, r8.isNode, r8.plain, bne_self_eq_false, Bool.not_true, Bool.not_false, Bool.false_eq_true, Bool.true_eq_false, false_imp_iff, true_and, and_true, forall_const, reduceCtorEq, g0, Md.mkInts_length, Nat.one_mul, decide_false, g1, Md.mkInts_length, Nat.one_mul, decide_false]) (fun _ => trivial) fun n2 hn2 => ?_
    have g2 : ¬ (m + 7 + (x.before.o.ints.length : Nat) + (x.before.o.refs.length : Nat) + 2 + (x.after.o.ints.length : Nat) < 0) := by omega
    simp -dsimp only [go_sem, hk, h5, h1, hlt, hlT, hd, hrf, hw, w0, w1, w2, w3, w4, w5, w6, v0, v1, z0, r0, r1, r2, r3, r4, r7, ha, hb, hc, he, a0, b0, c0, e0, b1.size, b1.isNode, b1.plain, b2.size, b2.isNode, b2.plain, e1.size, e1.isNode, e1.plain, e2.size, e2.isNode, e2.plain, r8.size, r8.isNode, r8.plain, bne_self_eq_false, Bool.not_true, Bool.not_false, Bool.false_eq_true, Bool.true_eq_false, false_imp_iff, true_and, and_true, forall_const, reduceCtorEq, g0, Md.mkInts_length, Nat.one_mul, decide_false, g1, Md.mkInts_length, Nat.one_mul, decide_false, g2, Md.mkInts_length, Nat.one_mul, decide_false]
    refine xcall_v (heldIntS_p _ (Md.mkInts (m + 7 + (x.before.o.ints.length : Nat) + (x.before.o.refs.length : Nat) + 2 + (x.after.o.ints.length : Nat)) x.after.o.refs.length) (m + 7 + (x.before.o.ints.length : Nat) + (x.before.o.refs.length : Nat) + 2 + (x.after.o.ints.length : Nat)) e2 (fun i hi => Md.mkInts_get _ _ i hi) (by omega) (by rw [Md.mkInts_length]; omega)) (by simp -dsimp only [go_sem, rl_still, e2.still, hk, h5, h1, hlt, hlT, hd, hrf, hw, w0, w1, w2, w3, w4, w5, w6, v0, v1, z0, r0, r1, r2, r3, r4, r7, ha, hb, hc, he, a0, b0, c0, e0, b1.size, b1.isNode, b1.plain, b2.size, b2.isNode, b2.plain, e1.size, e1.isNode, e1.plain, e2.size, e2.isNode, e2.plain, r8.size, r8.isNode, r8.plain, bne_self_eq_false, Bool.not_true, Bool.not_false, Bool.false_eq_true, Bool.true_eq_false, false_imp_iff, true_and, and_true, forall_const, reduceCtorEq, g0, Md.mkInts_length, Nat.one_mul, decide_false, g1, Md.mkInts_length, Nat.one_mul, decide_false, g2, Md.mkInts_length, Nat.one_mul, decide_false]) (fun _ => trivial) fun n3 hn3 => ?_
    have g3 : ¬ (m + 7 + (x.before.o.ints.length : Nat) + (x.before.o.refs.length : Nat) + 2 + (x.after.o.ints.length : Nat) + (x.after.o.refs.length : Nat) < 0) := by omega
    simp -dsimp only [go_sem, hk, h5, h1, hlt, hlT, hd, hrf, hw, w0, w1, w2, w3, w4, w5, w6, v0, v1, z0, r0, r1, r2, r3, r4, r7, ha, hb, hc, he, a0, b0, c0, e0, b1.size, b1.isNode, b1.plain, b2.size, b2.isNode, b2.plain, e1.size, e1.isNode, e1.plain, e2.size, e2.isNode, e2.plain, r8.size, r8.isNode, r8.plain, bne_self_eq_false, Bool.not_true, Bool.not_false, Bool.false_eq_true, Bool.true_eq_false, false_imp_iff, true_and, and_true, forall_const, reduceCtorEq, g0, Md.mkInts_length, Nat.one_mul, decide_false, g1, Md.mkInts_length, Nat.one_mul, decide_false, g2, Md.mkInts_length, Nat.one_mul, decide_false, g3, Md.mkInts_length, Nat.one_mul, decide_false]
    refine xcall_v (heldLiveS_p _ (Md.mkLives (m + 7 + (x.before.o.ints.length : Nat) + (x.before.o.refs.length : Nat) + 2 + (x.after.o.ints.length : Nat) + (x.after.o.refs.length : Nat) + 1) x.txs) (m + 7 + (x.before.o.ints.length : Nat) + (x.before.o.refs.length : Nat) + 2 + (x.after.o.ints.length : Nat) + (x.after.o.refs.length : Nat) + 1) r8 (fun i hi => mkLives_get _ _ i hi (by simpa [mkLives_length] using hi)) (by omega) (by rw [mkLives_length]; omega)) (by simp -dsimp only [go_sem, rl_still, r8.still, hk, h5, h1, hlt, hlT, hd, hrf, hw, w0, w1, w2, w3, w4, w5, w6, v0, v1, z0, r0, r1, r2, r3, r4, r7, ha, hb, hc, he, a0, b0, c0, e0, b1.size, b1.isNode, b1.plain, b2.size, b2.isNode, b2.plain, e1.size, e1.isNode, e1.plain, e2.size, e2.isNode, e2.plain, r8.size, r8.isNode, r8.plain, bne_self_eq_false, Bool.not_true, Bool.not_false, Bool.false_eq_true, Bool.true_eq_false, false_imp_iff, true_and, and_true, forall_const, reduceCtorEq, g0, Md.mkInts_length, Nat.one_mul, decide_false, g1, Md.mkInts_length, Nat.one_mul, decide_false, g2, Md.mkInts_length, Nat.one_mul, decide_false, g3, Md.mkInts_length, Nat.one_mul, decide_false]) (fun _ => trivial) fun n5 hn5 => ?_
    have g5 : ¬ (m + 7 + (x.before.o.ints.length : Nat) + (x.before.o.refs.length : Nat) + 2 + (x.after.o.ints.length : Nat) + (x.after.o.refs.length : Nat) + 1 + (3 * x.txs.length : Nat) < 0) := by omega
    simp -dsimp only [go_sem, hk, h5, h1, hlt, hlT, hd, hrf, hw, w0, w1, w2, w3, w4, w5, w6, v0, v1, z0, r0, r1, r2, r3, r4, r7, ha, hb, hc, he, a0, b0, c0, e0, b1.size, b1.isNode, b1.plain, b2.size, b2.isNode, b2.plain, e1.size, e1.isNode, e1.plain, e2.size, e2.isNode, e2.plain, r8.size, r8.isNode, r8.plain, bne_self_eq_false, Bool.not_true, Bool.not_false, Bool.false_eq_true, Bool.true_eq_false, false_imp_iff, true_and, and_true, forall_const, reduceCtorEq, g0, Md.mkInts_length, Nat.one_mul, decide_false, g1, Md.mkInts_length, Nat.one_mul, decide_false, g2, Md.mkInts_length, Nat.one_mul, decide_false, g3, Md.mkInts_length, Nat.one_mul, decide_false, g5, mkLives_length]
    have hn5' : n' ≤ n5 := by first | omega | (simp only at hn0 hn1 hn2 hn3 hn5; omega)
    exact into_k (by omega) (by simp -dsimp only [go_sem, hk, hd]) ⟨by simp -dsimp only [go_sem], by simp -dsimp only [go_sem]; rw [ht, ← hmm, hce]; omega⟩
  · simp -dsimp only [go_sem, hk, h5, h1, hlt, hL0]
    rw [Md.sumBy_all Md.cRecE xs i (by omega)]; rfl
theorem markLog_p (d : D) (x : Md.Log) (k : Int) (lo hi : Nat) (h : IsLog d x) (ho : Own lo hi d) (hk0 : 0 ≤ k) (hk1 : k + (Md.cLog x : Nat) ≤ 4611686018427387904) :
    MCall Tryz.prog 74 d [.lit (.int .i64 k)] (.int .i64 (k + (Md.cLog x : Nat))) (Mkd IsLog (Md.mkLog k x) d) := by
  obtain ⟨f, rfl, hst, k0, k1⟩ := h
  have hn := ho.node
  have hun : Md.cLog x = Md.cRecs x.recs := rfl
  refine mcall_intro Tryz.func74 rfl (by decide) rfl (by decide) (by rw [Tryz.ntmps74]; simp) trivial fun w0 M n0 hW hS => ivc_sound ?_; simp -dsimp only [Tryz.f74, go_sem, k0.size, k0.isNode, k0.plain, k0.still]
  intro g b hb
  refine xcall_mk (markRecS_p _ _ (k) lo hi k0 (ho.node.own (i := 0) (by decide)) (by omega) (by omega)) (by simp -dsimp only [go_sem, k0.size, k0.isNode, k0.plain, k0.still]) k0.plain k0.still ⟨trivial, trivial⟩ (fun t ht => hS t (tl_child (i := 0) (by decide) ht)) [2] (fun e => upd (fun _ => .any) 0 (.node (.agg [1, 1]) (upd f 0 e))) (fun e => upd (fun _ => none) 2 (some (g, b, .node (.agg [1, 1]) (upd f 0 e)))) fun e0 n0 hn0 hq0 =>
    ⟨by simp -dsimp only [go_sem], carry_upd (by simp -dsimp only [go_sem]; exact carry_field' hn (i := 0) (by decide) rfl) carry_any, (CarR.none _ _ _).upd trivial (carry_field' hn (i := 0) (by decide) rfl), ?_⟩
  have s0 := still_upd hst (k := 0) (by have := hq0.rel; exact this.still)
  have hx0 := hn.upd (i := 0) (d' := e0) hq0.tl hq0.wh
  have c0 := Ch.upd (Ch.refl hn) (i := 0) hq0
  simp -dsimp only [go_sem, k0.size, k0.isNode, k0.plain, k0.still, hq0.rel.size, hq0.rel.isNode, hq0.rel.plain]
  rw [rlnode_still s0]
  refine ⟨by omega, (mkd_node ⟨_, rfl, s0, by simp -dsimp only [go_sem]; exact hq0.rel, by simp -dsimp only [go_sem]; exact k1⟩ c0).fin⟩
theorem heldLog_p (d : D) (x : Md.Log) (k : Int) (h : IsLog d (Md.mkLog k x)) (hk0 : 0 ≤ k) (hk1 : k + (Md.cLog x : Nat) ≤ 4611686018427387904) :
    PCall Tryz.prog 80 [d, .lit (.int .i64 k)] fun _ _ r => r = .lit (.int .i64 (k + (Md.cLog x : Nat))) := by
  obtain ⟨f, rfl, hst, k0, k1⟩ := h
  have hun : Md.cLog x = Md.cRecs x.recs := rfl
  refine pcall_intro_v Tryz.func80 rfl (by decide) rfl (by decide) (by rw [Tryz.ntmps80]; simp) fun w0 M n0 => ivc_sound ?_; simp -dsimp only [Tryz.f80, go_sem, k0.size, k0.isNode, k0.plain, k0.still]
  intro g b hb
  refine xcall_v (heldRecS_p _ x.recs k k0 (by omega) (by omega)) (by simp -dsimp only [go_sem, rl_still, k0.size, k0.isNode, k0.plain, k0.still]) (fun _ => trivial) fun n0 hn0 => ?_
  have hg0 : ¬ (k + (Md.cRecs x.recs : Nat) < 0) := by omega
  simp -dsimp only [go_sem, k0.size, k0.isNode, k0.plain, k0.still, hg0, decide_false]
  first | rfl | omega
theorem rl_set {k : Nat} {F : Relab} {K : Kd} {g : Nat → D} {i : Nat} {d d' : D} (hg : ∀ j, (g j).still) (e : rl k F d = d') : rl (k + 1) F (.node K (upd g i d)) = .node K (upd g i d') := by
  rw [rl_node]
  congr 1
  funext j
  by_cases h : j = i
  · subst h; rw [upd_same, upd_same]; exact e
  · rw [upd_ne _ _ h, upd_ne _ _ h]; exact rl_still (hg j)
theorem recOut {f : Nat → D} {x : Md.Rec} {r0 r1 r2 : D} {n0 m0 p0 m1 p1 m2 p2 n1 : Nat}
    (k0 : f 0 = .lit (.int .i64 x.lsn)) (k1 : f 1 = .lit (.int .i64 x.tx)) (k2 : f 2 = .lit (.int .i64 x.prev)) (k3 : f 3 = .lit (.int .i64 x.kind)) (k4 : f 4 = .lit (.int .i64 x.oid)) (k7 : f 7 = .lit (.int .i64 x.next))
    (hst : (D.node (.agg [1, 1, 1, 1, 1, 4, 4, 1, 1]) (upd (upd (upd f 5 r0) 6 r1) 8 r2)).still)
    (h0 : IsSlot r0 x.before) (o0 : Own m0 p0 r0) (h1 : IsSlot r1 x.after) (o1 : Own m1 p1 r1) (h2 : IsL 3 IsLive r2 x.txs) (o2 : Own m2 p2 r2)
    (a0 : n0 ≤ m0) (a1 : m0 ≤ p0) (a2 : p0 ≤ m1) (a3 : m1 ≤ p1) (a4 : p1 ≤ m2) (a5 : m2 ≤ p2) (a6 : p2 ≤ n1) :
    IsRec (.node (.agg [1, 1, 1, 1, 1, 4, 4, 1, 1]) (upd (upd (upd f 5 r0) 6 r1) 8 r2)) x ∧ Own n0 n1 (.node (.agg [1, 1, 1, 1, 1, 4, 4, 1, 1]) (upd (upd (upd f 5 r0) 6 r1) 8 r2)) := by
  refine ⟨⟨_, rfl, hst, k0, k1, k2, k3, k4, h0, h1, k7, h2⟩, own_node ?_⟩
  refine OwnN.mono (lo := n0) (hi := p2) ?_ (Nat.le_refl _) a6
  refine ownN_snoc_own (mid := p1) (n := 8) ?_ (show Own m2 p2 r2 from o2) (by omega) (by omega) (by omega) (by omega)
  refine ownN_snoc_lit (n := 7) ?_ (show f 7 = _ from k7)
  refine ownN_snoc_own (mid := p0) (n := 6) ?_ (show Own m1 p1 r1 from o1) (by omega) (by omega) (by omega) (by omega)
  refine ownN_snoc_own (mid := n0) (n := 5) ?_ (show Own m0 p0 r0 from o0) (by omega) (by omega) (by omega) (by omega)
  exact ownN_snoc_lit (n := 4) (ownN_snoc_lit (n := 3) (ownN_snoc_lit (n := 2) (ownN_snoc_lit (n := 1) (ownN_snoc_lit (n := 0) (ownN_zero n0 n0 _) (show f 0 = _ from k0)) (show f 1 = _ from k1)) (show f 2 = _ from k2)) (show f 3 = _ from k3)) (show f 4 = _ from k4)
theorem cloneRec_p (d : D) (x : Md.Rec) (h : IsRec d x) (hs : Md.szRec x ≤ 1048576) : PCall Tryz.prog 195 [d] fun n0 n1 r => IsRec r x ∧ Own n0 n1 r := by
  obtain ⟨f, rfl, hst, k0, k1, k2, k3, k4, k5, k6, k7, k8⟩ := h
  have k0 : f 0 = _ := k0
  have k1 : f 1 = _ := k1
  have k2 : f 2 = _ := k2
  have k3 : f 3 = _ := k3
  have k4 : f 4 = _ := k4
  have k7 : f 7 = _ := k7
  have q5 := shp_slot _ _ k5
  have q6 := shp_slot _ _ k6
  unfold Md.szRec at hs
  refine pcall_intro Tryz.func195 rfl (by decide) rfl (by decide) (by rw [Tryz.ntmps195]; simp) fun w0 M n0 hW => ivc_sound ?_; simp -dsimp only [Tryz.f195, go_sem, q5.1, q5.2.1, q5.2.2.1, q5.2.2.2, q6.1, q6.2.1, q6.2.2.1, q6.2.2.2, k8.size, k8.isNode, k8.plain, k8.still]
  intro g1 b1 hb1 g2 b2 hb2
  refine iwp_plan [(0, true), (1, true), (3, true), (4, true), (6, true), (7, true), (2, false), (9, true), (5, false), (8, false), (10, false), (11, true), (12, false), (13, true), (14, false)] [1] rfl (by decide +kernel) (by decide) [10, 11, 12, 13, 14] (by decide +kernel) ?_
  simp -dsimp only [go_sem, q5.1, q5.2.1, q5.2.2.1, q5.2.2.2, q6.1, q6.2.1, q6.2.2.1, q6.2.2.2, k8.size, k8.isNode, k8.plain, k8.still]
  refine xcall_p (cloneSlot_p _ _ k5 (by omega)) (by simp -dsimp only [go_sem, rl_still, q5.1, q5.2.1, q5.2.2.1, q5.2.2.2, q6.1, q6.2.1, q6.2.2.1, q6.2.2.2, k8.size, k8.isNode, k8.plain, k8.still]) fun m0 p0 r0 hm0 hp0 hr0 => ?_
  have t0 := shp_slot _ _ hr0.1
  refine ⟨hr0.2.tags, ?_⟩
  simp -dsimp only [go_sem, q5.1, q5.2.1, q5.2.2.1, q5.2.2.2, q6.1, q6.2.1, q6.2.2.1, q6.2.2.2, k8.size, k8.isNode, k8.plain, k8.still, t0.1, t0.2.1, t0.2.2.1]
  refine xcall_p (cloneSlot_p _ _ k6 (by omega)) (by simp -dsimp only [go_sem, rl_still, q5.1, q5.2.1, q5.2.2.1, q5.2.2.2, q6.1, q6.2.1, q6.2.2.1, q6.2.2.2, k8.size, k8.isNode, k8.plain, k8.still]) fun m1 p1 r1 hm1 hp1 hr1 => ?_
  have t1 := shp_slot _ _ hr1.1
  refine ⟨hr1.2.tags, ?_⟩
  simp -dsimp only [go_sem, q5.1, q5.2.1, q5.2.2.1, q5.2.2.2, q6.1, q6.2.1, q6.2.2.1, q6.2.2.2, k8.size, k8.isNode, k8.plain, k8.still, t0.1, t0.2.1, t0.2.2.1, t1.1, t1.2.1, t1.2.2.1]
  refine xcall_p (cloneLives_p _ _ k8 (by omega)) (by simp -dsimp only [go_sem, rl_still, q5.1, q5.2.1, q5.2.2.1, q5.2.2.2, q6.1, q6.2.1, q6.2.2.1, q6.2.2.2, k8.size, k8.isNode, k8.plain, k8.still]) fun m2 p2 r2 hm2 hp2 hr2 => ?_
  have hq2 := hr2.1
  refine ⟨hr2.2.tags, ?_⟩
  simp -dsimp only [go_sem, q5.1, q5.2.1, q5.2.2.1, q5.2.2.2, q6.1, q6.2.1, q6.2.2.1, q6.2.2.2, k8.size, k8.isNode, k8.plain, k8.still, t0.1, t0.2.1, t0.2.2.1, t1.1, t1.2.1, t1.2.2.1, hq2.size, hq2.isNode, hq2.plain]
  intro n1 hn1 hfc
  refine fin_node (Q := fun r => IsRec r x ∧ Own n0 n1 r) (still_upd (still_upd (still_upd hst t0.2.2.2) t1.2.2.2) hq2.still) fun hst' => ?_
  have hm0' : n0 ≤ m0 := by have : b2 + 1 ≤ m0 := hm0; omega
  have hm1' : p0 ≤ m1 := hm1
  have hm2' : p1 ≤ m2 := hm2
  exact recOut (f := f) (n0 := n0) (n1 := n1) k0 k1 k2 k3 k4 k7 hst' hr0.1 hr0.2 hr1.1 hr1.2 hr2.1 hr2.2 (by omega) (by omega) (by omega) (by omega) (by omega) (by omega) (by omega)
theorem l5CopyRec_p (d : D) (x : Md.Rec) (h : IsRec d x) (hs : Md.szRec x ≤ 1048576) : PCall Tryz.prog 190 [d] fun n0 n1 r => IsRec r x ∧ Own n0 n1 r := by
  obtain ⟨f, rfl, hst, k0, k1, k2, k3, k4, k5, k6, k7, k8⟩ := h
  have k0 : f 0 = _ := k0
  have k1 : f 1 = _ := k1
  have k2 : f 2 = _ := k2
  have k3 : f 3 = _ := k3
  have k4 : f 4 = _ := k4
  have k7 : f 7 = _ := k7
  have q5 := shp_slot _ _ k5
  have q6 := shp_slot _ _ k6
  unfold Md.szRec at hs
  have k8' := k8
  rcases k8' with ⟨e8, hnil⟩ | ⟨t8, z8, f8, e8, st8, sh8, hf8⟩
  all_goals
    have hp : ∀ d x, IsLive d x → d.tl = [] ∧ d.whole := fun d x h => ⟨h.tl, h.wh⟩
    refine pcall_intro Tryz.func190 rfl (by decide) rfl (by decide) (by rw [Tryz.ntmps190]; simp) fun w0 M n0 hW => ivc_sound ?_; simp -dsimp only [Tryz.f190, go_sem, q5.1, q5.2.1, q5.2.2.1, q5.2.2.2, q6.1, q6.2.1, q6.2.2.1, q6.2.2.2, k8.size, k8.isNode, k8.plain, k8.still, e8]
    intro g1 b1 hb1 g2 b2 hb2
    refine xcall_p (l3CopySlot_p _ _ k5 (by omega)) (by simp -dsimp only [go_sem, rl_still, q5.1, q5.2.1, q5.2.2.1, q5.2.2.2, q6.1, q6.2.1, q6.2.2.1, q6.2.2.2, k8.size, k8.isNode, k8.plain, k8.still]) fun m0 p0 r0 hm0 hp0 hr0 => ?_
    have t0 := shp_slot _ _ hr0.1
    refine ⟨hr0.2.tags, ?_⟩
    simp -dsimp only [go_sem, q5.1, q5.2.1, q5.2.2.1, q5.2.2.2, q6.1, q6.2.1, q6.2.2.1, q6.2.2.2, k8.size, k8.isNode, k8.plain, k8.still, t0.1, t0.2.1, t0.2.2.1]
    refine xcall_p (l3CopySlot_p _ _ k6 (by omega)) (by simp -dsimp only [go_sem, rl_still, q5.1, q5.2.1, q5.2.2.1, q5.2.2.2, q6.1, q6.2.1, q6.2.2.1, q6.2.2.2, k8.size, k8.isNode, k8.plain, k8.still]) fun m1 p1 r1 hm1 hp1 hr1 => ?_
    have t1 := shp_slot _ _ hr1.1
    refine ⟨hr1.2.tags, ?_⟩
    simp -dsimp only [go_sem, q5.1, q5.2.1, q5.2.2.1, q5.2.2.2, q6.1, q6.2.1, q6.2.2.1, q6.2.2.2, k8.size, k8.isNode, k8.plain, k8.still, t0.1, t0.2.1, t0.2.2.1, t1.1, t1.2.1, t1.2.2.1, e8]
    have hm0' : n0 ≤ m0 := by have : b2 + 1 ≤ m0 := hm0; omega
    have hm1' : p0 ≤ m1 := hm1
    have stG : ∀ j, ((upd (upd f 5 r0) 6 r1) j).still := still_upd (still_upd hst t0.2.2.2) t1.2.2.2
  · intro g b hb g' b' n' hn' hb1' hb2 n1 hn1 hfc
    have hb3 : p1 ≤ b' := by rcases hb2 with h | h <;> omega
    have fo : IsL 3 IsLive (.sl b' true 0 3 fun _ => .any) x.txs ∧ Own p1 n' (.sl b' true 0 3 fun _ => .any) := by rw [hnil]; exact fin_zero (fun _ => trivial) rfl hb3 (by omega)
    rw [rl_set stG (d' := .sl b' true 0 3 fun _ => .any) (by simp -dsimp only [go_sem]; try rfl)]
    exact recOut (f := f) (n0 := n0) (n1 := n1) k0 k1 k2 k3 k4 k7 (still_upd stG fo.1.still) hr0.1 hr0.2 hr1.1 hr1.2 fo.1 fo.2 (by omega) (by omega) (by omega) (by omega) (by omega) (by omega) (by omega)
  · intro g b hb
    refine ⟨fun y h => h.symm, by omega, by omega, fun g' b' n' hn' hb1' hb2 n1 hn1 hfc => ?_⟩
    have hb3 : p1 ≤ b' := by rcases hb2 with h | h <;> omega
    have fo : IsL 3 IsLive (.sl b' true x.txs.length 3 f8) x.txs ∧ Own p1 n' (.sl b' true x.txs.length 3 f8) := fin_row st8 sh8 hf8 hp hb3 (by omega)
    rw [rl_set stG (d' := .sl b' true x.txs.length 3 f8) (by simp -dsimp only [go_sem]; rw [rls_still st8])]
    exact recOut (f := f) (n0 := n0) (n1 := n1) k0 k1 k2 k3 k4 k7 (still_upd stG fo.1.still) hr0.1 hr0.2 hr1.1 hr1.2 fo.1 fo.2 (by omega) (by omega) (by omega) (by omega) (by omega) (by omega) (by omega)
theorem grow_finL {q : Nat → D} {F : Relab} {x : Md.Log} {sd : D} {n0 n1 k : Nat} (h0 : rl k F (q 0) = sd) (h1 : rl k F (q 1) = .lit (.int .i64 x.sure)) (hq : ∀ j, (q j).still ∨ j = 0) (hL : IsL 15 IsRec sd x.recs) (hO : Own n0 n1 sd) :
    One (fun r => IsLog r x ∧ Own n0 n1 r) (.node (.agg [1, 1]) fun i => rl k F (q i)) := by
  refine .mk ⟨⟨_, rfl, fun j => ?_, by show IsL 15 IsRec (rl k F (q 0)) x.recs; rw [h0]; exact hL, h1⟩, own_node ?_⟩
  · rcases hq j with h | h
    · show (rl k F (q j)).still; rw [rl_still h]; exact h
    · subst h; show (rl k F (q 0)).still; rw [h0]; exact hL.still
  · refine ⟨fun i hi t ht => ?_, fun i hi => ?_, fun i j hij hj t ht ht' => ?_, fun i hi => ?_⟩
    · match i, hi with
      | 0, _ => exact hO.rg t (h0 ▸ ht)
      | 1, _ => replace ht : t ∈ (rl k F (q 1)).tl := ht; rw [h1] at ht; exact absurd ht (by simp [D.tl])
    · match i, hi with
      | 0, _ => exact h0 ▸ hO.nd
      | 1, _ => show (rl k F (q 1)).tl.Nodup; rw [h1]; simp [D.tl]
    · have : j = 1 := by have : j < 2 := hj; omega
      subst this
      replace ht' : t ∈ (rl k F (q 1)).tl := ht'
      rw [h1] at ht'; exact absurd ht' (by simp [D.tl])
    · match i, hi with
      | 0, _ => exact h0 ▸ hO.wh
      | 1, _ => show (rl k F (q 1)).whole; rw [h1]; trivial
theorem l5Copy_p (d : D) (x : Md.Log) (h : IsLog d x) (hs : Md.szLog x ≤ 1048576) : PCall Tryz.prog 116 [d] fun n0 n1 r => One (fun r => IsLog r x ∧ Own n0 n1 r) r := by
  obtain ⟨e, rfl, hst, k0, k1⟩ := h
  have k1 : e 1 = _ := k1
  have hs' : x.recs.length ≤ 1048576 := by unfold Md.szLog Md.szRecs at hs; omega
  refine pcall_intro Tryz.func116 rfl (by decide) rfl (by decide) (by rw [Tryz.ntmps116]; simp) fun w0 M n0 hW => ivc_sound ?_; simp -dsimp only [Tryz.f116, go_sem, k1, k0.lenT, k0.size, k0.isNode, k0.plain]
  intro g1 b1 hb1 g2 b2 hb2 g3 b3 hb3
  refine iwp_forR x.recs.length [1, 2, 3] (fun i n' s R => s 4 = .lit (.int .i64 i) ∧ ∃ q hd, (∀ j, (q j).still ∨ j = 0) ∧ q 0 = hd ∧ q 1 = .lit (.int .i64 x.sure) ∧
      Grow 15 IsRec n0 n' x.recs i 24 (upd (upd (upd (fun _ => none) 1 (some (g1, b1, .node (.agg [1, 1]) e))) 2 (some (g2, b2, zd Tryz.prog 55))) 3 (some (g3, b3, .node (.agg [1, 1]) q))) hd R) 0 (Nat.zero_le _)
    ⟨by simp -dsimp only [go_sem]; rfl, _, .nil, ?_, by simp -dsimp only [go_sem], by simp -dsimp only [go_sem], .inl ⟨rfl, rfl, rfl⟩⟩ ?_
  · exact fun j => .inl (still_upd (d := .lit (.int .i64 x.sure)) (stN (l := [.nil, .lit (.int .i64 0)]) (by simp only [stillL_nil, stillL_cons, still_lit, still_nil, still_any, still_nodeN, still_nodeC, and_self])) (by trivial) j)
  rintro i n' s R hi hn hk ⟨h4, q, hd, hqs, q0, q1, hG⟩
  refine ivc_sound ?_
  simp -dsimp only [go_sem] at hk
  by_cases hlt : i < x.recs.length
  · obtain ⟨t, zb, fi, hfe, hst', hf'⟩ := k0.sl hlt
    have hfi := hf' i hlt
    have eq := shp_rec _ _ hfi
    have hw := i64_succ (i := i) (by omega)
    rcases hG with ⟨rfl, rfl, rfl⟩ | ⟨g, b, f, hpos, rfl, rfl, hF⟩
    · simp -dsimp only [go_sem, hk, h4, hlt, hw, q0, q1, hfe, eq.1, eq.2.1]
      refine iwp_plan [(0, true), (1, true), (2, true), (3, true), (4, true), (5, true), (6, true), (7, false), (8, false), (9, false), (10, true), (11, false)] [1, 3] rfl (by decide +kernel) (by decide) [11] (by decide +kernel) ?_
      simp -dsimp only [go_sem, hk, h4, hlt, hw, q0, q1, hfe, eq.1, eq.2.1, eq.2.2.1]
      refine xcall_p (l5CopyRec_p _ _ hfi (by have := Md.sumBy_mem Md.szRec x.recs _ (List.getElem_mem hlt); unfold Md.szLog Md.szRecs at hs; omega)) (by simp -dsimp only [go_sem, rl_still, eq.2.2.2]) fun m0 p0 r0 hm0 hp0 hr0 => ?_
      have rq := shp_rec _ _ hr0.1
      refine ⟨hr0.2.tags, ?_⟩
      simp -dsimp only [go_sem, hk, h4, hlt, hw, q0, q1, hfe, eq.1, eq.2.1, rq.1, rq.2.1, rq.2.2.1]
      intro g b hb
      refine ⟨fun y h => h.symm, fun g' b' n' hn' hb1 hb2 => ?_⟩
      exact into_rd (R' := upd (upd (upd (upd (fun _ => none) 1 (some (g1, b1, .node (.agg [1, 1]) e))) 2 (some (g2, b2, zd Tryz.prog 55))) 3 (some (g3, b3, .node (.agg [1, 1]) (upd q 0 (.msl 24 g' 0 [] 0 1 15))))) 24 _) (drop1 rfl (by decide)) (by omega) (by simp -dsimp only [go_sem, hk])
        ⟨by simp -dsimp only [go_sem], _, _, gs_upd hqs, rfl, by simp -dsimp only [go_sem, q1], .inr ⟨g', b', _, ⟨by omega, by omega⟩, by simp -dsimp only [go_sem], rfl, Fill.one (fun _ => by simp only [stillL_nil, stillL_cons, still_lit, still_nil, still_any, still_nodeN, still_nodeC, and_self]) shp_rec hlt hr0.1 hr0.2 (by omega) (by omega) (by omega)⟩⟩
    · simp -dsimp only [go_sem, hk, h4, hlt, hw, q0, q1, hfe, eq.1, eq.2.1]
      refine iwp_plan [(0, true), (1, true), (2, true), (3, true), (4, true), (5, true), (6, true), (7, false), (8, false), (9, false), (10, true), (11, false)] [1, 3] rfl (by decide +kernel) (by decide) [11] (by decide +kernel) ?_
      simp -dsimp only [go_sem, hk, h4, hlt, hw, q0, q1, hfe, eq.1, eq.2.1, eq.2.2.1]
      refine xcall_p (l5CopyRec_p _ _ hfi (by have := Md.sumBy_mem Md.szRec x.recs _ (List.getElem_mem hlt); unfold Md.szLog Md.szRecs at hs; omega)) (by simp -dsimp only [go_sem, rl_still, eq.2.2.2]) fun m0 p0 r0 hm0 hp0 hr0 => ?_
      have rq := shp_rec _ _ hr0.1
      refine ⟨hr0.2.tags, ?_⟩
      simp -dsimp only [go_sem, hk, h4, hlt, hw, q0, q1, hfe, eq.1, eq.2.1, rq.1, rq.2.1, rq.2.2.1]
      intro g' b' hb'
      refine ⟨fun y h => h.symm, by omega, by omega, fun g'' b'' n' hn' hb1 hb2 => ?_⟩
      exact into_rd (R' := upd (upd (upd (upd (fun _ => none) 1 (some (g1, b1, .node (.agg [1, 1]) e))) 2 (some (g2, b2, zd Tryz.prog 55))) 3 (some (g3, b3, .node (.agg [1, 1]) (upd q 0 (.msl 24 g'' 0 [] 0 (i + 1) 15))))) 24 _) (drop2 rfl (by decide)) (by omega) (by simp -dsimp only [go_sem, hk])
        ⟨by simp -dsimp only [go_sem], _, _, gs_upd hqs, rfl, by simp -dsimp only [go_sem, q1], .inr ⟨g'', b'', _, ⟨by omega, by omega⟩, by simp -dsimp only [go_sem], rfl, Fill.cat hF (fun _ => by simp only [stillL_nil, stillL_cons, still_lit, still_nil, still_any, still_nodeN, still_nodeC, and_self]) shp_rec hlt hr0.1 hr0.2 (by omega) (by omega) (by omega) (by omega)⟩⟩
  · have hl : x.recs.length = i := by omega
    rcases hG with ⟨rfl, rfl, rfl⟩ | ⟨g, b, f, hpos, rfl, rfl, hF⟩
    · simp -dsimp only [go_sem, hk, h4, hlt, k0.lenT, k0.size, k0.isNode, k0.plain, q0, q1]
      intro n1 hn1 hfc
      have hnil : x.recs = [] := List.length_eq_zero_iff.1 hl
      rw [rl_node]
      exact grow_finL (n1 := n1) (by rw [q0]; exact rl_nil _ _) (by rw [q1]; exact rl_lit _ _ _) hqs (.inl ⟨rfl, hnil⟩) (own_nil _ _)
    · simp -dsimp only [go_sem, hk, h4, hlt, k0.lenT, k0.size, k0.isNode, k0.plain, q0, q1]
      intro n1 hn1 hfc
      subst hl
      have hLO := hF.isL hlt (by omega) hpos.2 hfc.here.1 hn1 hfc.here.2
      rw [rl_node]
      refine grow_finL (n1 := n1) ?_ ?_ ?_ hLO.1 hLO.2
      · simp -dsimp only [go_sem, q0]
        rw [rls_still hF.st]
      · simp -dsimp only [go_sem, q1, rl_lit]
      · exact hqs
theorem cloneLog_p (d : D) (x : Md.Log) (h : IsLog d x) (hs : Md.szLog x ≤ 1048576) : PCall Tryz.prog 128 [d] fun n0 n1 r => One (fun r => IsLog r x ∧ Own n0 n1 r) r := by
  obtain ⟨e, rfl, hst, k0, k1⟩ := h
  have k1 : e 1 = _ := k1
  have hs' : x.recs.length ≤ 1048576 := by unfold Md.szLog Md.szRecs at hs; omega
  refine pcall_intro Tryz.func128 rfl (by decide) rfl (by decide) (by rw [Tryz.ntmps128]; simp) fun w0 M n0 hW => ivc_sound ?_; simp -dsimp only [Tryz.f128, go_sem, k1, k0.lenT, k0.size, k0.isNode, k0.plain]
  intro g1 b1 hb1 g2 b2 hb2 g3 b3 hb3
  refine iwp_forR x.recs.length [2, 3, 10, 11] (fun i n' s R => s 12 = .lit (.int .i64 i) ∧ ∃ q hd, (∀ j, (q j).still ∨ j = 0) ∧ q 0 = hd ∧ q 1 = .lit (.int .i64 x.sure) ∧
      Grow 15 IsRec n0 n' x.recs i 21 (upd (upd (upd (fun _ => none) 1 (some (g1, b1, .node (.agg [1, 1]) e))) 2 (some (g2, b2, zd Tryz.prog 55))) 3 (some (g3, b3, .node (.agg [1, 1]) q))) hd R) 0 (Nat.zero_le _)
    ⟨by simp -dsimp only [go_sem]; rfl, _, .nil, ?_, by simp -dsimp only [go_sem], by simp -dsimp only [go_sem], .inl ⟨rfl, rfl, rfl⟩⟩ ?_
  · exact fun j => .inl (still_upd (d := .lit (.int .i64 x.sure)) (stN (l := [.nil, .lit (.int .i64 0)]) (by simp only [stillL_nil, stillL_cons, still_lit, still_nil, still_any, still_nodeN, still_nodeC, and_self])) (by trivial) j)
  rintro i n' s R hi hn hk ⟨h12, q, hd, hqs, q0, q1, hG⟩
  refine ivc_sound ?_
  simp -dsimp only [go_sem] at hk
  by_cases hlt : i < x.recs.length
  · obtain ⟨t, zb, fi, hfe, hst', hf'⟩ := k0.sl hlt
    have hfi := hf' i hlt
    have eq := shp_rec _ _ hfi
    have hw := i64_succ (i := i) (by omega)
    rcases hG with ⟨rfl, rfl, rfl⟩ | ⟨g, b, f, hpos, rfl, rfl, hF⟩
    · simp -dsimp only [go_sem, hk, h12, hlt, hw, q0, q1, hfe, eq.1, eq.2.1, eq.2.2.1]
      intro g5 b5 hb5
      refine iwp_plan [(0, true), (1, true), (2, true), (3, false), (4, false), (5, false), (6, true), (7, false)] [3, 5] rfl (by decide +kernel) (by decide) [7] (by decide +kernel) ?_
      simp -dsimp only [go_sem, hk, h12, hlt, hw, q0, q1, hfe, eq.1, eq.2.1, eq.2.2.1]
      refine xcall_p (cloneRec_p _ _ hfi (by have := Md.sumBy_mem Md.szRec x.recs _ (List.getElem_mem hlt); unfold Md.szLog Md.szRecs at hs; omega)) (by simp -dsimp only [go_sem, rl_still, eq.2.2.2]) fun m0 p0 r0 hm0 hp0 hr0 => ?_
      have rq := shp_rec _ _ hr0.1
      refine ⟨hr0.2.tags, ?_⟩
      simp -dsimp only [go_sem, hk, h12, hlt, hw, q0, q1, hfe, eq.1, eq.2.1, rq.1, rq.2.1, rq.2.2.1]
      intro g b hb
      refine ⟨fun y h => h.symm, fun g' b' n' hn' hb1 hb2 => ?_⟩
      exact into_rd (R' := upd (upd (upd (upd (fun _ => none) 1 (some (g1, b1, .node (.agg [1, 1]) e))) 2 (some (g2, b2, zd Tryz.prog 55))) 3 (some (g3, b3, .node (.agg [1, 1]) (upd q 0 (.msl 21 g' 0 [] 0 1 15))))) 21 _) (drop3 rfl rfl (by decide) (by decide)) (by omega) (by simp -dsimp only [go_sem, hk, hfe])
        ⟨by simp -dsimp only [go_sem], _, _, gs_upd hqs, rfl, by simp -dsimp only [go_sem, q1], .inr ⟨g', b', _, ⟨by omega, by omega⟩, by simp -dsimp only [go_sem], rfl, Fill.one (fun _ => by simp only [stillL_nil, stillL_cons, still_lit, still_nil, still_any, still_nodeN, still_nodeC, and_self]) shp_rec hlt hr0.1 hr0.2 (by omega) (by omega) (by omega)⟩⟩
    · simp -dsimp only [go_sem, hk, h12, hlt, hw, q0, q1, hfe, eq.1, eq.2.1, eq.2.2.1]
      intro g5 b5 hb5
      refine iwp_plan [(0, true), (1, true), (2, true), (3, false), (4, false), (5, false), (6, true), (7, false)] [3, 5] rfl (by decide +kernel) (by decide) [7] (by decide +kernel) ?_
      simp -dsimp only [go_sem, hk, h12, hlt, hw, q0, q1, hfe, eq.1, eq.2.1, eq.2.2.1]
      refine xcall_p (cloneRec_p _ _ hfi (by have := Md.sumBy_mem Md.szRec x.recs _ (List.getElem_mem hlt); unfold Md.szLog Md.szRecs at hs; omega)) (by simp -dsimp only [go_sem, rl_still, eq.2.2.2]) fun m0 p0 r0 hm0 hp0 hr0 => ?_
      have rq := shp_rec _ _ hr0.1
      refine ⟨hr0.2.tags, ?_⟩
      simp -dsimp only [go_sem, hk, h12, hlt, hw, q0, q1, hfe, eq.1, eq.2.1, rq.1, rq.2.1, rq.2.2.1]
      intro g' b' hb'
      refine ⟨fun y h => h.symm, by omega, by omega, fun g'' b'' n' hn' hb1 hb2 => ?_⟩
      exact into_rd (R' := upd (upd (upd (upd (fun _ => none) 1 (some (g1, b1, .node (.agg [1, 1]) e))) 2 (some (g2, b2, zd Tryz.prog 55))) 3 (some (g3, b3, .node (.agg [1, 1]) (upd q 0 (.msl 21 g'' 0 [] 0 (i + 1) 15))))) 21 _) (drop4 rfl rfl (by decide) (by decide)) (by omega) (by simp -dsimp only [go_sem, hk, hfe])
        ⟨by simp -dsimp only [go_sem], _, _, gs_upd hqs, rfl, by simp -dsimp only [go_sem, q1], .inr ⟨g'', b'', _, ⟨by omega, by omega⟩, by simp -dsimp only [go_sem], rfl, Fill.cat hF (fun _ => by simp only [stillL_nil, stillL_cons, still_lit, still_nil, still_any, still_nodeN, still_nodeC, and_self]) shp_rec hlt hr0.1 hr0.2 (by omega) (by omega) (by omega) (by omega)⟩⟩
  · have hl : x.recs.length = i := by omega
    rcases hG with ⟨rfl, rfl, rfl⟩ | ⟨g, b, f, hpos, rfl, rfl, hF⟩
    · simp -dsimp only [go_sem, hk, h12, hlt, k0.lenT, k0.size, k0.isNode, k0.plain, q0, q1]
      intro n1 hn1 hfc
      have hnil : x.recs = [] := List.length_eq_zero_iff.1 hl
      rw [rl_node]
      exact grow_finL (n1 := n1) (by rw [q0]; exact rl_nil _ _) (by rw [q1]; exact rl_lit _ _ _) hqs (.inl ⟨rfl, hnil⟩) (own_nil _ _)
    · simp -dsimp only [go_sem, hk, h12, hlt, k0.lenT, k0.size, k0.isNode, k0.plain, q0, q1]
      intro n1 hn1 hfc
      subst hl
      have hLO := hF.isL hlt (by omega) hpos.2 hfc.here.1 hn1 hfc.here.2
      rw [rl_node]
      refine grow_finL (n1 := n1) ?_ ?_ ?_ hLO.1 hLO.2
      · simp -dsimp only [go_sem, q0]
        rw [rls_still hF.st]
      · simp -dsimp only [go_sem, q1, rl_lit]
      · exact hqs
theorem zlog_tags {p : Nat → Prop} : (D.node (.agg [1, 1]) (nthD [.nil, .lit (.int .i64 0)])).tags p := fun i hi => by
  have hi' : i < 2 := hi
  match i, hi' with
  | 0, _ => trivial
  | 1, _ => trivial
theorem ret0_tags {p : Nat → Prop} {F : Relab} {st : St} : (rl 9 F (retV st [])).tags p := by
  rw [show retV st [] = .tup 0 fun i => match ([] : List ResultVar)[i]? with | some r => retD st r | none => .any from rfl, rl_tup]
  exact fun i hi => absurd hi (Nat.not_lt_zero i)
theorem upd_self (q : Nat → D) (i : Nat) (d : D) (h : q i = d) : upd q i d = q := by
  funext j
  by_cases hj : j = i
  · subst hj; rw [upd_same, h]
  · rw [upd_ne _ _ hj]
theorem IsLog.data {d : D} {x : Md.Log} (h : IsLog d x) : d.data := by
  obtain ⟨f, rfl, _, h0, h1⟩ := h
  intro i hi
  have hi' : i < 2 := hi
  match i, hi' with
  | 0, _ => exact IsL.data (fun _ _ h => IsRec.data h) h0
  | 1, _ => exact IsInt.data h1
theorem cRecs_le (l : List Md.Rec) : Md.cRecs l ≤ 10 * l.length + 3 * Md.sumBy Md.szRec l := by
  unfold Md.cRecs Md.sumBy
  induction l with
  | nil => simp
  | cons a l ih =>
    have : Md.cRecE a ≤ 10 + 3 * Md.szRec a := by rw [cRecE_eq]; unfold Md.szRec Md.szSlot Md.szObj; omega
    simp only [List.map_cons, List.sum_cons, List.length_cons]; omega
theorem cLog_le (x : Md.Log) : Md.cLog x ≤ 10 * Md.szLog x := by
  have := cRecs_le x.recs
  unfold Md.cLog Md.szLog Md.szRecs; omega
end Go.Proofs.YtncinhlaabdlaaaGreat.IM
end
