/- Several of my texts in one module (merge.py, shake.py). -/
import Derived.Test.YtncinhlaabdlaaaGreatCkB59
import Derived.Test.YtncinhlaabdlaaaGreatCkB54
import Derived.Test.YtncinhlaabdlaaaGreatCkA4
section
namespace Go.Proofs.YtncinhlaabdlaaaGreat.IM
open Go Go.Proofs
set_option linter.unusedVariables false
set_option linter.unusedSimpArgs false
set_option maxHeartbeats 2000000
set_option maxRecDepth 20000
def hasLast (l : Md.Live) : Bool := decide (0 < l.last)
def checkRec (x : Md.Engine) : Md.Rec := ⟨0, 0, 0, 6, 0, Md.zSlot, Md.zSlot, 0, x.txs.filter hasLast⟩
def checkE (x : Md.Engine) : Md.Engine := { x with log := sureL (addLg x.log (checkRec x)) ((x.log.recs.length : Int) + 1) }
def checkDo (x : Md.Engine) : Md.Engine × Int := if codeOf x true = 0 then (checkE x, 0) else (x, codeOf x true)
def ckQ : Nat → D := upd (nthD [.lit (.int .i64 0), .lit (.int .i64 0), .lit (.int .i64 0), .lit (.int .i64 0), .lit (.int .i64 0), zSlotD, zSlotD, .lit (.int .i64 0), .nil]) 3 (.lit (.int .i64 6))
theorem ckQ_still : ∀ i, (ckQ i).still := still_upd (stN (by simp only [stillL_nil, stillL_cons, still_lit, still_nil, still_zSlot, and_self])) trivial
theorem still_zl : (D.node (.agg [1, 1, 1]) (nthD [.lit (.int .i64 0), .lit (.int .i64 0), .lit (.bool false)])).still := stN (by simp only [stillL_nil, stillL_cons, still_lit, still_nil, still_any, still_nodeN, still_nodeC, and_self])
theorem LogQ.put {q : Nat → D} {L T dr : D} {lo n0 m0 m1 : Nat} (hO : Own lo m1 (.node engK (upd (upd q 3 T) 2 L))) (hLt : ∀ t ∈ L.tl, t ∈ (q 2).tl ∨ t ∈ dr.tl ∨ m0 ≤ t) (hTt : T.tl = (q 3).tl) (hnew : ∀ t ∈ dr.tl, n0 ≤ t) (hn : n0 ≤ m0) : Put lo m1 n0 (.node engK q) (.node engK (upd (upd q 3 T) 2 L)) :=
  ⟨hO, fun t ht => by
    rcases tl_put ht with h | h
    · rcases tl_put h with h | h
      · exact .inl h
      · exact .inl (tl_child (i := 3) (by decide) (hTt ▸ h))
    · rcases hLt t h with h | h | h
      · exact .inl (tl_child (i := 2) (by decide) h)
      · exact .inr (hnew t h)
      · exact .inr (by omega)⟩
theorem setLast_none {xs : List Md.Live} {tx n : Int} (h : ∀ l ∈ xs, l.tx ≠ 0) (ht : tx = 0) : setLast xs tx n = xs := by
  unfold setLast
  rw [if_neg]
  intro hk
  have hl := liveAt_lt hk
  have : ∃ l ∈ xs, l.tx = tx := by
    unfold liveAt Md.idx at hk
    cases e : xs.findIdx? (fun x => x.tx == tx) with
    | none => rw [e] at hk; exact absurd hk (by decide)
    | some i =>
      obtain ⟨hi, h1, _⟩ := List.findIdx?_eq_some_iff_getElem.1 e
      exact ⟨_, List.getElem_mem hi, by simpa using h1⟩
  obtain ⟨l, hl, e⟩ := this
  exact h l hl (e.trans ht)
def ckR (h : D) : D := .node (.agg [1, 1, 1, 1, 1, 4, 4, 1, 1]) (upd ckQ 8 h)
theorem ckR_nil : ckR .nil = .node (.agg [1, 1, 1, 1, 1, 4, 4, 1, 1]) ckQ := by unfold ckR; rw [upd_self ckQ 8 .nil rfl]
theorem ckR_is {h : D} {ts : List Md.Live} (hh : IsL 3 IsLive h ts) : IsRec (ckR h) ⟨0, 0, 0, 6, 0, Md.zSlot, Md.zSlot, 0, ts⟩ := ⟨_, rfl, still_upd ckQ_still hh.still, rfl, rfl, rfl, rfl, rfl, isSlot_z, isSlot_z, rfl, hh⟩
theorem ckR_own {h : D} {lo hi : Nat} (hh : Own lo hi h) : Own lo hi (ckR h) ∧ (ckR h).tl = h.tl := by
  have e : (ckR h).tl = h.tl := by
    show (List.range 9).flatMap (fun i => (upd ckQ 8 h i).tl) = _
    rw [show List.range 9 = [0, 1, 2, 3, 4, 5, 6, 7, 8] from rfl]
    simp only [List.flatMap_cons, List.flatMap_nil, upd_same, List.append_nil]
    rfl
  refine ⟨⟨fun t ht => hh.rg t (e ▸ ht), e ▸ hh.nd, fun i hi => ?_⟩, e⟩
  have hi' : i < 9 := hi
  match i, hi' with
  | 0, _ => trivial
  | 1, _ => trivial
  | 2, _ => trivial
  | 3, _ => trivial
  | 4, _ => trivial
  | 5, _ => exact whole_zSlot
  | 6, _ => exact whole_zSlot
  | 7, _ => trivial
  | 8, _ => exact hh.wh
theorem l7Check_b (q : Nat → D) (x : Md.Engine) (lo hi : Nat) (h : EngF q x) (ho : Own lo hi (.node engK q)) (hl : x.log.recs.length ≤ 2097151) (hl3 : x.txs.length ≤ 1048576) (hp0 : ∀ l ∈ x.txs, l.tx ≠ 0) :
    BCall Tryz.prog 99 (.node engK q) (.node engK q) [] fun n0 n1 d' _ => Eng (min lo n0) n1 n0 (.node engK q) d' (checkE x) := by
  refine bcall_intro Tryz.func99 rfl (by decide) rfl (by decide) (by rw [Tryz.ntmps99]; simp) fun w0 M n0 gb hW hS hT hgb => ivc_sound ?_; simp -dsimp only [Tryz.f99, go_sem, h.all]
  have ho' := own_lt ho (hT _ (List.mem_cons_self ..) (whole_data ho.wh))
  intro g1 b1 hb1
  refine iwp_forR x.txs.length [0, 2] (fun i n' s R => s 3 = .lit (.int .i64 i) ∧ ∃ hd, GrowF 3 IsLive n0 n' 33 ((x.txs.take i).filter hasLast) (fun hd => upd (upd (fun _ => none) 1000 (some (0, gb, .node engK q))) 2 (some (g1, b1, ckR hd))) hd R) 0 (Nat.zero_le _)
    ⟨by simp -dsimp only [go_sem]; rfl, .nil, .inl ⟨rfl, rfl, ?_⟩⟩ ?_
  · simp -dsimp only [go_sem]
    rw [ckR_nil]; rfl
  rintro i n' s R hi hn hk ⟨h3, hd, hG⟩
  refine ivc_sound ?_
  simp -dsimp only [go_sem] at hk
  by_cases hlt : i < x.txs.length
  · obtain ⟨t, zb, fi, hfe, hst', hf'⟩ := h.q3.sl hlt
    have hfi := hf' i hlt
    have eq := shp_live _ _ hfi
    have hw := i64_succ (i := i) (by omega)
    obtain ⟨u, eu, ust, u0, u1, u2⟩ := id hfi
    have u1 : u 1 = _ := u1
    have hlt' : (i : Int) < x.txs.length := by omega
    have hle : ((x.txs.take i).filter hasLast).length ≤ i := Nat.le_trans (List.length_filter_le _ _) (by rw [List.length_take]; omega)
    by_cases hpos : 0 < x.txs[i].last
    · have hyes := filter_take_yes (p := hasLast) hlt (decide_eq_true hpos)
      rcases hG with ⟨hnil, rfl, rfl⟩ | ⟨g, b, f, hlo, hhi, rfl, rfl, hfs, hf⟩
      · simp -dsimp only [go_sem, ckR, hk, h3, hlt, hlt', hw, hfe, eu, u1, hpos]
        refine iwp_plan [(0, true), (1, true), (2, true), (3, true), (4, true), (5, true), (6, true), (7, true), (8, true), (9, false), (10, false), (11, true), (12, false)] [2, 1000] rfl (by decide +kernel) (by decide) [11, 12] (by decide +kernel) ?_
        simp -dsimp only [go_sem, ckR, hk, h3, hlt, hlt', hw, hfe, eu, u1, hpos]
        intro g2 b2 hb2
        refine ⟨fun y h => h.symm, fun g' b' n'' hn' hb3 hb4 => ?_⟩
        rw [hnil, List.nil_append] at hyes
        exact into_rd (R' := upd (upd (upd (fun _ => none) 1000 (some (0, gb, .node engK q))) 2 (some (g1, b1, ckR (.msl 33 g' 0 [] 0 1 3)))) 33 _) (drop1 rfl (by decide)) (by omega) (by simp -dsimp only [go_sem, hk])
          ⟨by simp -dsimp only [go_sem], .msl 33 g' 0 [] 0 1 3, .inr ⟨g', b', _, by omega, by omega, by rw [hyes]; rfl, by rw [hyes]; rfl, still_upd (fun _ => still_zl) (by rw [← eu]; exact hst' i), by rw [hyes]; exact row_sone (by rw [← eu]; exact hfi)⟩⟩
      · simp -dsimp only [go_sem, ckR, hk, h3, hlt, hlt', hw, hfe, eu, u1, hpos]
        refine iwp_plan [(0, true), (1, true), (2, true), (3, true), (4, true), (5, true), (6, true), (7, true), (8, true), (9, false), (10, false), (11, true), (12, false)] [2, 1000] rfl (by decide +kernel) (by decide) [11, 12] (by decide +kernel) ?_
        simp -dsimp only [go_sem, ckR, hk, h3, hlt, hlt', hw, hfe, eu, u1, hpos]
        intro g2 b2 hb2
        refine ⟨fun y h => h.symm, by omega, by omega, fun g' b' n'' hn' hb3 hb4 => ?_⟩
        have hlen : ((x.txs.take (i + 1)).filter hasLast).length = ((x.txs.take i).filter hasLast).length + 1 := by rw [hyes]; simp
        exact into_rd (R' := upd (upd (upd (fun _ => none) 1000 (some (0, gb, .node engK q))) 2 (some (g1, b1, ckR (.msl 33 g' 0 [] 0 (((x.txs.take i).filter hasLast).length + 1) 3)))) 33 _) (drop2 rfl (by decide)) (by omega) (by simp -dsimp only [go_sem, hk])
          ⟨by simp -dsimp only [go_sem], .msl 33 g' 0 [] 0 (((x.txs.take i).filter hasLast).length + 1) 3, .inr ⟨g', b', _, by omega, by omega, by rw [hlen], by rw [hlen]; rfl, still_cat hfs (still_upd (fun _ => still_zl) (by rw [← eu]; exact hst' i)), by rw [hyes]; exact row_snoc hf (by rw [← eu]; exact hfi)⟩⟩
    · have hno := filter_take_no (p := hasLast) hlt (decide_eq_false hpos)
      rcases hG with ⟨hnil, rfl, rfl⟩ | ⟨g, b, f, hlo, hhi, rfl, rfl, hfs, hf⟩
      · simp -dsimp only [go_sem, ckR, hk, h3, hlt, hlt', hw, hfe, eu, u1, hpos]
        exact into_rd (fun j => .inl rfl) (by omega) (by simp -dsimp only [go_sem, hk]) ⟨by simp -dsimp only [go_sem], .nil, .inl ⟨by rw [hno]; exact hnil, rfl, rfl⟩⟩
      · simp -dsimp only [go_sem, ckR, hk, h3, hlt, hlt', hw, hfe, eu, u1, hpos]
        exact into_rd (fun j => .inl rfl) (by omega) (by simp -dsimp only [go_sem, hk]) ⟨by simp -dsimp only [go_sem], _, .inr ⟨g, b, f, hlo, by omega, by rw [hno], by rw [hno], hfs, by rw [hno]; exact hf⟩⟩
  · have hall : x.txs.take i = x.txs := List.take_of_length_le (by omega)
    have hge : ¬ (i : Int) < x.txs.length := by omega
    rw [hall] at hG
    have hlf : (x.txs.filter hasLast).length ≤ x.txs.length := List.length_filter_le _ _
    rcases hG with ⟨hnil, rfl, rfl⟩ | ⟨g, b, f, hlo, hhi, rfl, rfl, hfs, hf⟩
    · simp -dsimp only [go_sem, ckR, hk, h3, hge, h.all]
      refine iwp_planM [(0, some true), (1, some true), (2, some true), (3, some true), (4, some true), (5, none), (6, some false)] [2] [35, 36, 37, 38, 39, 0, 2] rfl (by decide +kernel) (by decide +kernel) (by decide) [] (by decide +kernel) ?_
      simp -dsimp only [go_sem, ckR, hk]
      have hrec := ckR_is (h := .nil) (ts := x.txs.filter hasLast) (.inl ⟨rfl, hnil⟩)
      have hrow := ckR_own (own_nil n0 n')
      have hnew : ∀ t ∈ (ckR .nil).tl, n0 ≤ t := fun t ht => (hrow.1.rg t ht).1
      have hold : ∀ t ∈ (D.node engK q).tl, t < n0 := fun t ht => (ho'.rg t ht).2
      have hdj : ∀ t ∈ (ckR .nil).tl, t ∉ (D.node engK q).tl := fun t ht hx => by have := hnew t ht; have := hold t hx; omega
      have hcar : ∀ E, Carry (D.node engK q) E (ckR .nil) (ckR .nil) := fun E => .apart _ (tags_of_tl (whole_data hrow.1.wh) hdj)
      refine vcBT_of (by simp -dsimp only [go_sem]) ?_
      refine bdraw (l := 1000) (g := 0) (b := gb) (l7Log_b q (upd ckQ 8 (.nil)) x (checkRec x) (min lo n0) n' h hrec (ho'.mono (Nat.le_refl _) (by omega)) (hrow.1.mono (by omega) (Nat.le_refl _)) hdj (by omega) (by omega)) (by simp -dsimp only [go_sem, ckR]) ⟨hrec.still, trivial⟩ (by simp -dsimp only [go_sem]) h.is.still (fun _ h => h) hS (fun t ht => .inl ht) (fun t ht => ht.imp id fun h => ⟨_, List.mem_cons_self .., h⟩) [35, 36, 37, 38, 39, 0, 2] (upd (fun _ => none) 2 (some (g1, b1, ckR (.nil)))) (by simp -dsimp only [go_sem]) (by decide)
        (by simp -dsimp only [go_sem, ckR, hk]; exact hcar _) (((CarR.none _ _ _).skip rfl).upd hrec.plain (hcar _)) fun m0 m1 d' r hm0 hm1 hlt hQ htg => ?_
      have hm0' : n' ≤ m0 := hm0
      obtain ⟨rfl, L, T, rfl, hL, hTx, hO, hLt, hTt⟩ := hQ
      rw [setLast_none hp0 (tx := (checkRec x).tx) rfl] at hTx
      have E1 := (h.txs hTx).log hL
      have hO' : Own (min lo n0) m1 (.node engK (upd (upd q 3 T) 2 L)) := hO.mono (by omega) (Nat.le_refl _)
      have P1 : Put (min lo n0) m1 n0 (.node engK q) (.node engK (upd (upd q 3 T) 2 L)) := LogQ.put hO' hLt hTt hnew (by omega)
      refine ⟨?_, ?_⟩
      · simp -dsimp only [go_sem, ckR]
      simp -dsimp only [go_sem, ckR]
      refine xcall_cs (l := 1000) (g := 0) (b := gb) (l5Force2_b _ _ ((x.log.recs.length : Int) + 1) (min lo n0) m1 E1 hO' (by show (_ ++ _ : List Md.Rec).length ≤ _; rw [List.length_append]; simp; omega)) (by simp -dsimp only [go_sem]) (by trivial) (by simp -dsimp only [go_sem]) E1.is.still fun m2 m3 d2 r2 hm2 hm3 hQ2 => ?_
      obtain ⟨L2, rfl, hL2, hLt2, hE2⟩ := hQ2
      rw [upd_upd] at hE2
      have hm2' : m1 ≤ m2 := hm2
      simp -dsimp only [go_sem, ckR]
      refine ⟨_, rfl, fun n1 hn1 hfc => ?_⟩
      rw [rl_still hE2.is.still]
      have hn1' : m3 ≤ n1 := hn1
      have P2 := P1.trans (hE2.put.mono (lo' := min lo n0) (hi' := n1) (by omega) hn1' (Nat.le_refl _)) (by omega)
      exact Eng.fin (hi := n1) ⟨hE2.is, P2⟩ ⟨hE2.is, P2⟩ ret0_tags
    · simp -dsimp only [go_sem, ckR, hk, h3, hge, h.all]
      have hLf : IsL 3 IsLive (.sl b true (x.txs.filter hasLast).length 3 f) (x.txs.filter hasLast) ∧ Own n0 n' (.sl b true (x.txs.filter hasLast).length 3 f) := fin_row hfs (by omega) hf (fun _ _ h => ⟨h.tl, h.wh⟩) hlo hhi
      refine iwp_frz (l := 33) (g := g) (b := b) (d := .node (.arr (x.txs.filter hasLast).length 3) f) (s' := upd (upd (fun _ => .any) 0 (.ptr 1000 0 0 [])) 2 (.ptr 2 g1 0 [])) (R' := upd (upd (fun _ => none) 1000 (some (0, gb, .node engK q))) 2 (some (g1, b1, ckR (.sl b true (x.txs.filter hasLast).length 3 f)))) (by simp -dsimp only [go_sem]) (frz_upd (frz_upd frz_no ?_) ?_) (fun l' => .inl ?_) ?_
      · simp -dsimp only [go_sem, hk]
      · simp -dsimp only [go_sem, hk]
      · simp -dsimp only [go_sem]
        refine congrFun (frz_two (A' := .node engK q) (B' := ckR (.sl b true (x.txs.filter hasLast).length 3 f)) (by decide) (by decide) (rl_still h.is.still) ?_ trivial trivial).symm l'
        rw [rl_node, rlsK_upd, rls_still ckQ_still]
        simp -dsimp only [go_sem]
        exact congrArg (fun z => D.node _ (upd ckQ 8 z)) (sl_eq (rls_still hfs))
      refine iwp_planM [(0, some true), (1, some true), (2, some true), (3, some true), (4, some true), (5, none), (6, some false)] [2] [35, 36, 37, 38, 39, 0, 2] rfl (by decide +kernel) (by decide +kernel) (by decide) [] (by decide +kernel) ?_
      simp -dsimp only [go_sem, ckR]
      have hrec := ckR_is hLf.1
      have hrow := ckR_own hLf.2
      have hnew : ∀ t ∈ (ckR (.sl b true (x.txs.filter hasLast).length 3 f)).tl, n0 ≤ t := fun t ht => (hrow.1.rg t ht).1
      have hold : ∀ t ∈ (D.node engK q).tl, t < n0 := fun t ht => (ho'.rg t ht).2
      have hdj : ∀ t ∈ (ckR (.sl b true (x.txs.filter hasLast).length 3 f)).tl, t ∉ (D.node engK q).tl := fun t ht hx => by have := hnew t ht; have := hold t hx; omega
      have hcar : ∀ E, Carry (D.node engK q) E (ckR (.sl b true (x.txs.filter hasLast).length 3 f)) (ckR (.sl b true (x.txs.filter hasLast).length 3 f)) := fun E => .apart _ (tags_of_tl (whole_data hrow.1.wh) hdj)
      refine vcBT_of (by simp -dsimp only [go_sem]) ?_
      refine bdraw (l := 1000) (g := 0) (b := gb) (l7Log_b q (upd ckQ 8 ((.sl b true (x.txs.filter hasLast).length 3 f))) x (checkRec x) (min lo n0) n' h hrec (ho'.mono (Nat.le_refl _) (by omega)) (hrow.1.mono (by omega) (Nat.le_refl _)) hdj (by omega) (by omega)) (by simp -dsimp only [go_sem, ckR]) ⟨hrec.still, trivial⟩ (by simp -dsimp only [go_sem]) h.is.still (fun _ h => h) hS (fun t ht => .inl ht) (fun t ht => ht.imp id fun h => ⟨_, List.mem_cons_self .., h⟩) [35, 36, 37, 38, 39, 0, 2] (upd (fun _ => none) 2 (some (g1, b1, ckR ((.sl b true (x.txs.filter hasLast).length 3 f))))) (by simp -dsimp only [go_sem]) (by decide)
        (by simp -dsimp only [go_sem, ckR]; exact hcar _) (((CarR.none _ _ _).skip rfl).upd hrec.plain (hcar _)) fun m0 m1 d' r hm0 hm1 hlt hQ htg => ?_
      have hm0' : n' ≤ m0 := hm0
      obtain ⟨rfl, L, T, rfl, hL, hTx, hO, hLt, hTt⟩ := hQ
      rw [setLast_none hp0 (tx := (checkRec x).tx) rfl] at hTx
      have E1 := (h.txs hTx).log hL
      have hO' : Own (min lo n0) m1 (.node engK (upd (upd q 3 T) 2 L)) := hO.mono (by omega) (Nat.le_refl _)
      have P1 : Put (min lo n0) m1 n0 (.node engK q) (.node engK (upd (upd q 3 T) 2 L)) := LogQ.put hO' hLt hTt hnew (by omega)
      refine ⟨?_, ?_⟩
      · simp -dsimp only [go_sem, ckR]
      simp -dsimp only [go_sem, ckR]
      refine xcall_cs (l := 1000) (g := 0) (b := gb) (l5Force2_b _ _ ((x.log.recs.length : Int) + 1) (min lo n0) m1 E1 hO' (by show (_ ++ _ : List Md.Rec).length ≤ _; rw [List.length_append]; simp; omega)) (by simp -dsimp only [go_sem]) (by trivial) (by simp -dsimp only [go_sem]) E1.is.still fun m2 m3 d2 r2 hm2 hm3 hQ2 => ?_
      obtain ⟨L2, rfl, hL2, hLt2, hE2⟩ := hQ2
      rw [upd_upd] at hE2
      have hm2' : m1 ≤ m2 := hm2
      simp -dsimp only [go_sem, ckR]
      refine ⟨_, rfl, fun n1 hn1 hfc => ?_⟩
      rw [rl_still hE2.is.still]
      have hn1' : m3 ≤ n1 := hn1
      have P2 := P1.trans (hE2.put.mono (lo' := min lo n0) (hi' := n1) (by omega) hn1' (Nat.le_refl _)) (by omega)
      exact Eng.fin (hi := n1) ⟨hE2.is, P2⟩ ⟨hE2.is, P2⟩ ret0_tags
theorem cpZ_tl : (D.node engK cpZ).tl = [] := rfl
theorem cpZ_wh : (D.node engK cpZ).whole := fun i hi => by
  have hi' : i < 7 := hi
  match i, hi' with
  | 0, _ =>
    intro j hj k hk
    have hk' : k < 2 := hk
    match k, hk' with
    | 0, _ => trivial
    | 1, _ => exact fun a ha => whole_zSlot
  | 1, _ => exact wh_zPool
  | 2, _ => exact wh_zPool
  | 3, _ => trivial
  | 4, _ => trivial
  | 5, _ => trivial
  | 6, _ => trivial
theorem cpZ_st : (D.node engK cpZ).still := stN (by simp only [stillL_nil, stillL_cons, still_lit, still_nil, still_nodeN, still_nodeC, cpPg_still, and_self])
theorem carry_cpZ (d E : D) : Carry d E (.node engK cpZ) (.node engK cpZ) := .apart _ (tags_of_tl (whole_data cpZ_wh) fun t ht => by rw [cpZ_tl] at ht; simp at ht)
theorem code0_ok' {x : Md.Engine} {told : Bool} (h : codeOf x told = 0) : engineOk x = true ∧ x.log.recs.length ≤ 3800 ∧ told = true ∧ x.down = false := by
  unfold codeOf at h
  by_cases h1 : (!engineOk x || x.down || !told) = true
  · rw [if_pos h1] at h; cases h
  · rw [if_neg h1] at h
    by_cases h2 : (3800 : Int) < x.log.recs.length
    · rw [if_pos h2] at h; cases h
    · simp only [Bool.or_eq_true, Bool.not_eq_true', not_or, Bool.not_eq_false] at h1
      exact ⟨h1.1.1, by omega, h1.2, by simpa using h1.1.2⟩
theorem txs_facts {x : Md.Engine} (h : engineOk x = true) : x.txs.length ≤ 6 ∧ ∀ i (hi : i < x.txs.length), 1 ≤ x.txs[i].tx ∧ x.txs[i].tx ≤ x.next - 1 ∧ x.txs[i].aborts = false ∧ x.txs[i].last = (lastN x.log x.txs[i].tx : Int) := by
  unfold engineOk at h
  simp only [Bool.and_eq_true] at h
  have h1 := h.1.1.1.1.2
  unfold txsOk at h1
  simp only [Bool.and_eq_true, decide_eq_true_eq] at h1
  refine ⟨h1.2, fun i hi => ?_⟩
  have h2 := allR_iff.1 h1.1.1 i hi
  unfold txStep at h2
  rw [getD_at hi] at h2
  simp only [Bool.and_eq_true, Bool.not_eq_true', beq_iff_eq] at h2
  have h3 := (inB_iff _ _ _).1 h2.1.1.1
  exact ⟨h3.1, h3.2, h2.1.1.2, h2.1.2⟩
theorem txs_pos {x : Md.Engine} (h : engineOk x = true) : ∀ l ∈ x.txs, l.tx ≠ 0 := fun l hl => by
  obtain ⟨i, hi, rfl⟩ := List.getElem_of_mem hl
  have := (txs_facts h).2 i hi
  omega
def CkR (x : Md.Engine) (n0 n1 : Nat) (r : D) : Prop := Two (fun a => IsEngine a (checkDo x).1 ∧ Own n0 n1 a) (.lit (.int .i64 (checkDo x).2)) r
theorem check_no {x : Md.Engine} (h : codeOf x true ≠ 0) : checkDo x = (x, codeOf x true) := if_neg h
theorem check_yes {x : Md.Engine} (h : codeOf x true = 0) : checkDo x = (checkE x, 0) := if_pos h
theorem specCheck_p (d : D) (x : Md.Engine) (h : IsEngine d x) (hs : Md.szEngine x ≤ 1048576) (hd : d.data) : PCall Tryz.prog 28 [d] (CkR x) := by
  have hp := h
  have eq := shp_engine _ _ h
  have e4 := eq.2.2.2
  have e1 := eq.1
  have e2 := eq.2.1
  have e3 := eq.2.2.1
  refine pcall_intro_t Tryz.func28 rfl (by decide) rfl (by decide) (by rw [Tryz.ntmps28]; simp) fun w0 M n0 hW hT => ivc_sound ?_; simp -dsimp only [Tryz.f28, go_sem, e1, e2, e3]
  intro g1 b1 hb1 g2 b2 hb2
  refine xcall_p (l7Copy_p _ _ hp hs) (by simp -dsimp only [go_sem, rl_still, e4]) fun m0 p0 r0 hm0 hp0 hr0 => ?_
  have hm0' : b2 + 1 ≤ m0 := hm0
  refine ⟨hr0.2.tags, ?_⟩
  obtain ⟨q, rfl, hq⟩ := hr0.1.node
  have ho := hr0.2
  have rq := shp_engine _ _ hr0.1
  simp -dsimp only [go_sem, rq.1, rq.2.1, rq.2.2.1, e1, e2, e3]
  intro g5 b5 hb5
  have hb5' : p0 ≤ b5 := hb5
  refine xcall_v (l7Code_p _ x hp hs) (by simp -dsimp only [go_sem, rl_still, e4]) (fun _ => trivial) fun n2 hn2 => ?_
  have hn2' : b5 + 1 ≤ n2 := hn2
  by_cases c0 : codeOf x true = 0
  · have c0l : (codeOf x true == 0) = true := by simpa using c0
    obtain ⟨hok, hlen, _, _⟩ := code0_ok' c0
    have htx := txs_facts hok
    simp -dsimp only [go_sem, rq.1, rq.2.1, rq.2.2.1, e1, e2, e3, c0, c0l]
    refine xcall_b (l := 4) (g := g5) (b := b5) (l7Check_b q x m0 p0 hq ho (by omega) (by omega) (txs_pos hok)) (by simp -dsimp only [go_sem]) (by simp -dsimp only [go_sem]) hr0.1.still trivial (fun _ h => h) (fun t ht => hW t (by have := ho.rg t ht; omega)) [2, 4, 5] (upd (fun _ => none) 2 (some (g2, b2, .node engK cpZ))) (by simp -dsimp only [go_sem]) fun m2 m3 d' r hm2 hm3 hlt hE => ?_
    refine ⟨by simp -dsimp only [go_sem], (((CarR.none _ _ _).skip rfl).upd (plain_node _ _) (carry_cpZ _ _)).skip rfl, ?_⟩
    have hm2' : n2 ≤ m2 := hm2
    have rp := shp_engine _ _ hE.is
    simp -dsimp only [go_sem, rp.1, rp.2.1, rp.2.2.1]
    intro n1 hn1 hfc
    have hn1' : m3 ≤ n1 := hn1
    rw [rl_still rp.2.2.2]
    exact .of (by rw [check_yes c0]; exact ⟨hE.is, hE.put.own.mono (by omega) (by omega)⟩) (by rw [check_yes c0])
  · have c0l : (codeOf x true == 0) = false := by simpa using c0
    simp -dsimp only [go_sem, rq.1, rq.2.1, rq.2.2.1, e1, e2, e3, c0l]
    intro n1 hn1 hfc
    have hn1' : n2 ≤ n1 := hn1
    rw [rl_still rq.2.2.2]
    exact .of (by rw [check_no c0]; exact ⟨hr0.1, ho.mono (by omega) (by omega)⟩) (by rw [check_no c0])
theorem check_p (d : D) (x : Md.Engine) (h : IsEngine d x) (hs : Md.szEngine x ≤ 1048576) (hd : d.data) : PCall Tryz.prog 29 [d] (CkR x) := by
  have hp := h
  have eq := shp_engine _ _ h
  have e4 := eq.2.2.2
  have e1 := eq.1
  have e2 := eq.2.1
  have e3 := eq.2.2.1
  obtain ⟨f, rfl, hf⟩ := h.node
  refine pcall_intro_t Tryz.func29 rfl (by decide) rfl (by decide) (by rw [Tryz.ntmps29]; simp) fun w0 M n0 hW hT => ivc_sound ?_; simp -dsimp only [Tryz.f29, go_sem, hf.all, e1, e2, e3]
  intro g1 b1 hb1 g2 b2 hb2
  refine xcall_p (cloneEngine_p _ _ hp hs) (by simp -dsimp only [go_sem, rl_still, e4]) fun m0 p0 r0 hm0 hp0 hr0 => ?_
  have hm0' : b2 + 1 ≤ m0 := hm0
  refine ⟨hr0.2.tags, ?_⟩
  obtain ⟨q, rfl, hq⟩ := hr0.1.node
  have ho := hr0.2
  have rq := shp_engine _ _ hr0.1
  simp -dsimp only [go_sem, rq.1, rq.2.1, rq.2.2.1, hf.all, e1, e2, e3]
  intro g5 b5 hb5
  have hb5' : p0 ≤ b5 := hb5
  refine xcall_v (codeOf_p _ x true hp hs hd) (by simp -dsimp only [go_sem, rl_still, e4]) (fun _ => trivial) fun n2 hn2 => ?_
  have hn2' : b5 + 1 ≤ n2 := hn2
  by_cases c0 : codeOf x true = 0
  rotate_left
  · have c0l : (codeOf x true != 0) = true := by simpa using c0
    simp -dsimp only [go_sem, rq.1, rq.2.1, rq.2.2.1, hf.all, e1, e2, e3, c0l]
    intro n1 hn1 hfc
    have hn1' : n2 ≤ n1 := hn1
    rw [rl_still rq.2.2.2]
    exact .of (by rw [check_no c0]; exact ⟨hr0.1, ho.mono (by omega) (by omega)⟩) (by rw [check_no c0])
  have c0l : (codeOf x true != 0) = false := by simpa using c0
  obtain ⟨hok, hlen, _, _⟩ := code0_ok' c0
  have htx := txs_facts hok
  have c00 : ((0 : Int) != 0) = false := rfl
  simp -dsimp only [go_sem, rq.1, rq.2.1, rq.2.2.1, hf.all, e1, e2, e3, c0, c00]
  intro g6 b6 hb6
  have hb6' : n2 ≤ b6 := hb6
  refine iwp_forR x.txs.length [2, 3, 4, 6, 19, 20] (fun i n' s R => s 21 = .lit (.int .i64 i) ∧ ∃ hd, GrowF 3 IsLive (b6 + 1) n' 32 ((x.txs.take i).filter hasLast) (fun hd => upd (upd (upd (upd (fun _ => none) 1 (some (g1, b1, .node engK f))) 2 (some (g2, b2, .node engK cpZ))) 4 (some (g5, b5, .node engK q))) 6 (some (g6, b6, ckR hd))) hd R) 0 (Nat.zero_le _)
    ⟨by simp -dsimp only [go_sem]; rfl, .nil, .inl ⟨rfl, rfl, ?_⟩⟩ ?_
  · simp -dsimp only [go_sem]
    rw [ckR_nil]; rfl
  rintro i n' s R hi hn hk ⟨h3, hd, hG⟩
  simp -dsimp only [go_sem] at hk
  by_cases hlt : i < x.txs.length
  · refine ivc_sound ?_
    obtain ⟨t, zb, fi, hfe, hst', hf'⟩ := hf.q3.sl hlt
    have hfi := hf' i hlt
    have eq := shp_live _ _ hfi
    have hw := i64_succ (i := i) (by omega)
    obtain ⟨u, eu, ust, u0, u1, u2⟩ := id hfi
    have u1 : u 1 = _ := u1
    have hlt' : (i : Int) < x.txs.length := by omega
    have hle : ((x.txs.take i).filter hasLast).length ≤ i := Nat.le_trans (List.length_filter_le _ _) (by rw [List.length_take]; omega)
    by_cases hpos : 0 < x.txs[i].last
    · have hyes := filter_take_yes (p := hasLast) hlt (decide_eq_true hpos)
      rcases hG with ⟨hnil, rfl, rfl⟩ | ⟨g, b, fr, hlo, hhi, rfl, rfl, hfs, hfr⟩
      · simp -dsimp only [go_sem, ckR, hk, h3, hlt, hlt', hw, hfe, eu, u1, hpos]
        intro g7 b7 hb7 g8 b8 hb8
        refine ⟨fun y h => h.symm, fun g' b' n'' hn' hb3 hb4 => ?_⟩
        rw [hnil, List.nil_append] at hyes
        exact into_rd (R' := upd (upd (upd (upd (upd (fun _ => none) 1 (some (g1, b1, .node engK f))) 2 (some (g2, b2, .node engK cpZ))) 4 (some (g5, b5, .node engK q))) 6 (some (g6, b6, ckR (.msl 32 g' 0 [] 0 1 3)))) 32 _) (((DropR.refl _ _).out rfl).out rfl).fin (by omega) (by simp -dsimp only [go_sem, hk, hfe])
          ⟨by simp -dsimp only [go_sem], .msl 32 g' 0 [] 0 1 3, .inr ⟨g', b', _, by omega, by omega, by rw [hyes]; rfl, by rw [hyes]; rfl, still_upd (fun _ => still_zl) (by rw [← eu]; exact hst' i), by rw [hyes]; exact row_sone (by rw [← eu]; exact hfi)⟩⟩
      · simp -dsimp only [go_sem, ckR, hk, h3, hlt, hlt', hw, hfe, eu, u1, hpos]
        intro g7 b7 hb7 g8 b8 hb8
        refine ⟨fun y h => h.symm, by omega, by omega, fun g' b' n'' hn' hb3 hb4 => ?_⟩
        have hlen : ((x.txs.take (i + 1)).filter hasLast).length = ((x.txs.take i).filter hasLast).length + 1 := by rw [hyes]; simp
        exact into_rd (R' := upd (upd (upd (upd (upd (fun _ => none) 1 (some (g1, b1, .node engK f))) 2 (some (g2, b2, .node engK cpZ))) 4 (some (g5, b5, .node engK q))) 6 (some (g6, b6, ckR (.msl 32 g' 0 [] 0 (((x.txs.take i).filter hasLast).length + 1) 3)))) 32 _) (((DropR.refl _ _).over.out rfl).out rfl).fin (by omega) (by simp -dsimp only [go_sem, hk, hfe])
          ⟨by simp -dsimp only [go_sem], .msl 32 g' 0 [] 0 (((x.txs.take i).filter hasLast).length + 1) 3, .inr ⟨g', b', _, by omega, by omega, by rw [hlen], by rw [hlen]; rfl, still_cat hfs (still_upd (fun _ => still_zl) (by rw [← eu]; exact hst' i)), by rw [hyes]; exact row_snoc hfr (by rw [← eu]; exact hfi)⟩⟩
    · have hno := filter_take_no (p := hasLast) hlt (decide_eq_false hpos)
      rcases hG with ⟨hnil, rfl, rfl⟩ | ⟨g, b, fr, hlo, hhi, rfl, rfl, hfs, hfr⟩
      · simp -dsimp only [go_sem, ckR, hk, h3, hlt, hlt', hw, hfe, eu, u1, hpos]
        intro g7 b7 hb7
        exact into_rd (R' := (upd (upd (upd (upd (fun _ => none) 1 (some (g1, b1, .node engK f))) 2 (some (g2, b2, .node engK cpZ))) 4 (some (g5, b5, .node engK q))) 6 (some (g6, b6, ckR (.nil))))) (((DropR.refl 99 _).out rfl).all rfl) (by omega) (by simp -dsimp only [go_sem, hk, hfe]) ⟨by simp -dsimp only [go_sem], .nil, .inl ⟨by rw [hno]; exact hnil, rfl, rfl⟩⟩
      · simp -dsimp only [go_sem, ckR, hk, h3, hlt, hlt', hw, hfe, eu, u1, hpos]
        intro g7 b7 hb7
        exact into_rd (R' := upd (upd (upd (upd (upd (fun _ => none) 1 (some (g1, b1, .node engK f))) 2 (some (g2, b2, .node engK cpZ))) 4 (some (g5, b5, .node engK q))) 6 (some (g6, b6, ckR (.msl 32 g 0 [] 0 ((x.txs.take i).filter hasLast).length 3)))) 32 _) (((DropR.refl 99 _).out rfl).all rfl) (by omega) (by simp -dsimp only [go_sem, hk, hfe]) ⟨by simp -dsimp only [go_sem], _, .inr ⟨g, b, fr, hlo, by omega, by rw [hno], by rw [hno]; rfl, hfs, by rw [hno]; exact hfr⟩⟩
  · have hall : x.txs.take i = x.txs := List.take_of_length_le (by omega)
    have hge : ¬ (i : Int) < x.txs.length := by omega
    rw [hall] at hG
    have hlf : (x.txs.filter hasLast).length ≤ x.txs.length := List.length_filter_le _ _
    rcases hG with ⟨hnil, rfl, rfl⟩ | ⟨g, b, fr, hlo, hhi, rfl, rfl, hfs, hfr⟩
    · refine ivc_sound ?_
      simp -dsimp only [go_sem, ckR, hk, h3, hge]
      have hrec := ckR_is (h := .nil) (ts := x.txs.filter hasLast) (.inl ⟨rfl, hnil⟩)
      have hrow := ckR_own (own_nil (b6 + 1) n')
      have hnew : ∀ t ∈ (ckR (.nil)).tl, b6 + 1 ≤ t := fun t ht => (hrow.1.rg t ht).1
      have hold : ∀ t ∈ (D.node engK q).tl, t < p0 := fun t ht => (ho.rg t ht).2
      have hdj : ∀ t ∈ (ckR (.nil)).tl, t ∉ (D.node engK q).tl := fun t ht hx => by have := hnew t ht; have := hold t hx; omega
      refine xcall_bw (l := 4) (g := g5) (b := b5) (add_b q (upd ckQ 8 (.nil)) x (checkRec x) m0 n' hq hrec (ho.mono (Nat.le_refl _) (by omega)) (hrow.1.mono (by omega) (Nat.le_refl _)) hdj (by omega)) (by simp -dsimp only [go_sem, ckR, hk]) (still_mapBV ⟨hrec.still, trivial⟩) (by simp -dsimp only [go_sem]) hq.is.still (fun _ h => h) (fun t ht => hW t (by have := ho.rg t ht; omega)) (fun t ht => .inl ht) (fun t ht => ht.imp id fun h => ⟨_, List.mem_cons_self .., h⟩) [2, 4] (upd (fun _ => none) 2 (some (g2, b2, .node engK cpZ))) (by simp -dsimp only [go_sem]) fun m2 m3 d' r hm2 hm3 hlt hQ htg => ?_
      obtain ⟨rfl, L, rfl, hL, hO, hLt⟩ := hQ
      have hm2' : n' ≤ m2 := hm2
      refine ⟨by simp -dsimp only [go_sem, hk], ((((CarR.none _ _ _).skip rfl).upd (plain_node _ _) (carry_cpZ _ _)).skip rfl).skip rfl, Conv.zero ?_⟩
      have E1 := hq.log hL
      have hO' : Own m0 m3 (.node engK (upd q 2 L)) := hO.mono (by omega) (Nat.le_refl _)
      simp -dsimp only [go_sem, E1.all, hk]
      refine xcall_cs (l := 4) (g := g5) (b := b5) (sure_b _ _ ((x.log.recs.length : Int) + 1) m0 m3 E1 hO' (by show (_ ++ _ : List Md.Rec).length ≤ _; rw [List.length_append]; simp; omega)) (by simp -dsimp only [go_sem, hk]) (by trivial) (by simp -dsimp only [go_sem]) E1.is.still fun m4 m5 d2 r2 hm4 hm5 hQ2 => ?_
      obtain ⟨L2, rfl, hL2, hLt2, hE2⟩ := hQ2
      rw [upd_upd] at hE2
      have hm4' : m3 ≤ m4 := hm4
      have rp := shp_engine _ _ hE2.is
      simp -dsimp only [go_sem, rp.1, rp.2.1, rp.2.2.1, hk]
      intro n1 hn1 hfc
      have hn1' : m5 ≤ n1 := hn1
      rw [rl_still rp.2.2.2]
      exact .of (by rw [check_yes c0]; exact ⟨hE2.is, hE2.put.own.mono (by omega) (by omega)⟩) (by rw [check_yes c0])
    · have hLf : IsL 3 IsLive (.sl b true (x.txs.filter hasLast).length 3 fr) (x.txs.filter hasLast) ∧ Own (b6 + 1) n' (.sl b true (x.txs.filter hasLast).length 3 fr) := fin_row hfs (by omega) hfr (fun _ _ h => ⟨h.tl, h.wh⟩) hlo hhi
      refine iwp_frz (l := 32) (g := g) (b := b) (d := .node (.arr (x.txs.filter hasLast).length 3) fr) (s' := upd (upd (upd (upd (upd (fun _ => .any) 2 (.ptr 2 g2 0 [])) 4 (.ptr 4 g5 0 [])) 6 (.ptr 6 g6 0 [])) 20 (.lit (.int .i64 x.txs.length))) 21 (.lit (.int .i64 i))) (R' := upd (upd (upd (upd (fun _ => none) 1 (some (g1, b1, .node engK f))) 2 (some (g2, b2, .node engK cpZ))) 4 (some (g5, b5, .node engK q))) 6 (some (g6, b6, ckR (.sl b true (x.txs.filter hasLast).length 3 fr)))) (by simp -dsimp only [go_sem]) (frz_upd (frz_upd (frz_upd (frz_upd (frz_upd frz_no ?_) ?_) ?_) ?_) ?_) (fun l' => .inl ?_) ?_
      · simp -dsimp only [go_sem, hk]
      · simp -dsimp only [go_sem, hk]
      · simp -dsimp only [go_sem, hk]
      · simp -dsimp only [go_sem, hk, rl_lit]
      · simp -dsimp only [go_sem, h3, rl_lit]
      · rw [frzR_same]
        refine congrFun (frz_four (Z' := .node engK f) (A' := .node engK cpZ) (B' := .node engK q) (C' := ckR (.sl b true (x.txs.filter hasLast).length 3 fr)) (by decide) (by decide) (by decide) (by decide) (rl_still hf.is.still) (rl_still cpZ_st) (rl_still hq.is.still) ?_ trivial trivial trivial trivial).symm l'
        unfold ckR
        rw [rl_node, rlsK_upd, rls_still ckQ_still]
        simp -dsimp only [go_sem]
        exact congrArg (fun z => D.node _ (upd ckQ 8 z)) (sl_eq (rls_still hfs))
      · refine ivc_sound ?_
        simp -dsimp only [go_sem, ckR, hge]
        have hrec := ckR_is hLf.1
        have hrow := ckR_own hLf.2
        have hnew : ∀ t ∈ (ckR (.sl b true (x.txs.filter hasLast).length 3 fr)).tl, b6 + 1 ≤ t := fun t ht => (hrow.1.rg t ht).1
        have hold : ∀ t ∈ (D.node engK q).tl, t < p0 := fun t ht => (ho.rg t ht).2
        have hdj : ∀ t ∈ (ckR (.sl b true (x.txs.filter hasLast).length 3 fr)).tl, t ∉ (D.node engK q).tl := fun t ht hx => by have := hnew t ht; have := hold t hx; omega
        refine xcall_bw (l := 4) (g := g5) (b := b5) (add_b q (upd ckQ 8 (.sl b true (x.txs.filter hasLast).length 3 fr)) x (checkRec x) m0 n' hq hrec (ho.mono (Nat.le_refl _) (by omega)) (hrow.1.mono (by omega) (Nat.le_refl _)) hdj (by omega)) (by simp -dsimp only [go_sem, ckR, hk]) (still_mapBV ⟨hrec.still, trivial⟩) (by simp -dsimp only [go_sem]) hq.is.still (fun _ h => h) (fun t ht => hW t (by have := ho.rg t ht; omega)) (fun t ht => .inl ht) (fun t ht => ht.imp id fun h => ⟨_, List.mem_cons_self .., h⟩) [2, 4] (upd (fun _ => none) 2 (some (g2, b2, .node engK cpZ))) (by simp -dsimp only [go_sem]) fun m2 m3 d' r hm2 hm3 hlt hQ htg => ?_
        obtain ⟨rfl, L, rfl, hL, hO, hLt⟩ := hQ
        have hm2' : n' ≤ m2 := hm2
        refine ⟨by simp -dsimp only [go_sem, hk], ((((CarR.none _ _ _).skip rfl).upd (plain_node _ _) (carry_cpZ _ _)).skip rfl).skip rfl, Conv.zero ?_⟩
        have E1 := hq.log hL
        have hO' : Own m0 m3 (.node engK (upd q 2 L)) := hO.mono (by omega) (Nat.le_refl _)
        simp -dsimp only [go_sem, E1.all, hk]
        refine xcall_cs (l := 4) (g := g5) (b := b5) (sure_b _ _ ((x.log.recs.length : Int) + 1) m0 m3 E1 hO' (by show (_ ++ _ : List Md.Rec).length ≤ _; rw [List.length_append]; simp; omega)) (by simp -dsimp only [go_sem, hk]) (by trivial) (by simp -dsimp only [go_sem]) E1.is.still fun m4 m5 d2 r2 hm4 hm5 hQ2 => ?_
        obtain ⟨L2, rfl, hL2, hLt2, hE2⟩ := hQ2
        rw [upd_upd] at hE2
        have hm4' : m3 ≤ m4 := hm4
        have rp := shp_engine _ _ hE2.is
        simp -dsimp only [go_sem, rp.1, rp.2.1, rp.2.2.1, hk]
        intro n1 hn1 hfc
        have hn1' : m5 ≤ n1 := hn1
        rw [rl_still rp.2.2.2]
        exact .of (by rw [check_yes c0]; exact ⟨hE2.is, hE2.put.own.mono (by omega) (by omega)⟩) (by rw [check_yes c0])
theorem c_add (l : Md.Log) (r : Md.Rec) : Md.cLog (addLg l r) = Md.cLog l + Md.cRecE r := by
  unfold addLg Md.cLog Md.cRecs Md.sumBy
  rw [List.map_append, List.sum_append]
  simp [Md.cRecE]
theorem c_check (x : Md.Engine) : Md.cEngine (checkDo x).1 ≤ 13 * Md.szEngine x + 100 := by
  have h := cEngine_le x
  unfold checkDo
  split
  · have e : Md.cEngine (checkE x) = Md.sumBy Md.szPage x.disk + Md.cPool x.pool + Md.cLog (addLg x.log (checkRec x)) + 3 * x.txs.length + 2 * x.holds.length := rfl
    have e2 : Md.cRecE (checkRec x) = 6 + Md.cSlotE Md.zSlot + Md.cSlotE Md.zSlot + Md.cLives (x.txs.filter hasLast) := rfl
    have e3 : Md.cSlotE Md.zSlot = 2 := rfl
    have e4 := List.length_filter_le hasLast x.txs
    have e5 : Md.cEngine x = Md.sumBy Md.szPage x.disk + Md.cPool x.pool + Md.cLog x.log + 3 * x.txs.length + 2 * x.holds.length := rfl
    have e6 : x.txs.length ≤ Md.szEngine x := by unfold Md.szEngine; omega
    rw [e, c_add, e2, e3, Md.cLives_eq]
    omega
  · show Md.cEngine x ≤ _; omega
theorem lawCheck (d : D) (x : Md.Engine) (h : IsEngine d x) : PCall Tryz.prog 7 [d] fun _ _ r => r = .lit (.bool true) := by
  have e := shp_engine _ _ h
  have e1 := e.1
  have e2 := e.2.1
  have e3 := e.2.2.1
  have e4 := e.2.2.2
  refine pcall_intro_vt Tryz.func7 rfl (by decide) rfl (by decide) (by rw [Tryz.ntmps7]; simp) fun w0 M n0 hW hT => ivc_sound ?_; simp -dsimp only [Tryz.f7, go_sem, e1, e2, e3]
  have dT : d.tags (· < n0) := hT d (by simp) h.data
  intro g1 b1 hb1
  refine xcall_v (szEngine_p _ _ h 1048576 (by decide) (by decide)) (by simp -dsimp only [go_sem, rl_still, e4]) (fun _ => trivial) fun n1 hn1 => ?_
  simp -dsimp only [go_sem]
  intro hb
  have hs : Md.szEngine x ≤ 1048576 := by
    have := Md.szR_le _ _ hb
    omega
  simp -dsimp only [go_sem, e1, e2, e3]
  refine xcall_p (toEngine_p _ _ h hs) (by simp -dsimp only [go_sem, rl_still, e4]) fun rlo rhi r hrlo hrhi hr => ?_
  have ro := hr.2
  have ri := hr.1
  have rp := shp_engine _ _ ri
  have rp1 := rp.1
  have rp2 := rp.2.1
  have rp3 := rp.2.2.1
  have rp4 := rp.2.2.2
  refine ⟨ro.tags, ?_⟩
  simp -dsimp only [go_sem, e1, e2, e3, rp1, rp2, rp3]
  refine xcall_p (specCheck_p _ _ ri hs ri.data) (by simp -dsimp only [go_sem, rl_still, rp4]) fun vlo vhi vw hvlo hvhi hvw => ?_
  obtain ⟨v, rfl, hvw2⟩ := hvw.out
  have hv := hvw2
  have vo := hv.2
  have vi := hv.1
  have vp := shp_engine _ _ vi
  have vp1 := vp.1
  have vp2 := vp.2.1
  have vp3 := vp.2.2.1
  have vp4 := vp.2.2.2
  refine ⟨tags_two vo.tags, ?_⟩
  simp -dsimp only [go_sem, e1, e2, e3, rp1, rp2, rp3, vp1, vp2, vp3]
  intro g b hb
  refine xcall_p (toEngine_p _ _ h hs) (by simp -dsimp only [go_sem, rl_still, e4]) fun xvlo xvhi xv hxvlo hxvhi hxv => ?_
  have xvo := hxv.2
  have xvi := hxv.1
  have xvp := shp_engine _ _ xvi
  have xvp1 := xvp.1
  have xvp2 := xvp.2.1
  have xvp3 := xvp.2.2.1
  have xvp4 := xvp.2.2.2
  refine ⟨xvo.tags, ?_⟩
  simp -dsimp only [go_sem, e1, e2, e3, vp1, vp2, vp3, xvp1, xvp2, xvp3]
  intro g12 b12 hb12
  refine xcall_p (check_p _ _ xvi hs xvi.data) (by simp -dsimp only [go_sem, rl_still, xvp4]) fun ylo yhi yw hylo hyhi hyw => ?_
  obtain ⟨y, rfl, hyw2⟩ := hyw.out
  have hy := hyw2
  have yo := hy.2
  have yi := hy.1
  have yp := shp_engine _ _ yi
  have yp1 := yp.1
  have yp2 := yp.2.1
  have yp3 := yp.2.2.1
  have yp4 := yp.2.2.2
  refine ⟨tags_two yo.tags, ?_⟩
  simp -dsimp only [go_sem, e1, e2, e3, vp1, vp2, vp3, xvp1, xvp2, xvp3, yp1, yp2, yp3]
  intro g14 b14 hb14
  refine xcall_v (eqEngine_p _ _ _ yi vi) (by simp -dsimp only [go_sem, rl_still, yp4, vp4]) (fun _ => trivial) fun n4 hn4 => ?_
  simp -dsimp only [go_sem, e1, e2, e3, vp1, vp2, vp3, xvp1, xvp2, xvp3, yp1, yp2, yp3, bne_self_eq_false, Bool.not_true, Bool.not_false, Bool.false_eq_true, Bool.true_eq_false, false_imp_iff, true_and, and_true, forall_const, reduceCtorEq]
  refine iwp_plan [(0, true), (1, true), (2, false), (3, false), (4, true)] [1, 6] rfl (by decide +kernel) (by decide) [] (by decide +kernel) ?_
  simp -dsimp only [go_sem, e1, e2, e3, vp1, vp2, vp3, xvp1, xvp2, xvp3, yp1, yp2, yp3]
  refine xcall_p (toEngine_p _ _ h hs) (by simp -dsimp only [go_sem, rl_still, e4]) fun zlo zhi z hzlo hzhi hz => ?_
  have zo := hz.2
  have zi := hz.1
  have zp := shp_engine _ _ zi
  have zp1 := zp.1
  have zp2 := zp.2.1
  have zp3 := zp.2.2.1
  have zp4 := zp.2.2.2
  refine ⟨zo.tags, ?_⟩
  simp -dsimp only [go_sem, e1, e2, e3, vp1, vp2, vp3, xvp1, xvp2, xvp3, yp1, yp2, yp3, zp1, zp2, zp3]
  refine xcall_v (eqEngine_p _ _ _ xvi zi) (by simp -dsimp only [go_sem, rl_still, xvp4, zp4]) (fun _ => trivial) fun n4 hn4 => ?_
  simp -dsimp only [go_sem, e1, e2, e3, vp1, vp2, vp3, xvp1, xvp2, xvp3, yp1, yp2, yp3, zp1, zp2, zp3, bne_self_eq_false, Bool.not_true, Bool.not_false, Bool.false_eq_true, Bool.true_eq_false, false_imp_iff, true_and, and_true, forall_const, reduceCtorEq]
  have hcb := cEngine_le x
  have hz := c_check x
  refine xcall_mk (markEngine_p xv x (1) _ _ xvi xvo (by decide) (by omega)) (by simp -dsimp only [go_sem, e1, e2, e3, vp1, vp2, vp3, xvp1, xvp2, xvp3, yp1, yp2, yp3]) xvp3 xvp4 ⟨trivial, trivial⟩ (fun t ht => hW t (by have := xvo.rg t ht; omega)) [5, 8, 9, 1, 4, 6, 7] (fun _ _ => .any) (fun E => upd (upd (upd (upd (fun _ => none) 1 (some (g1, b1, d))) 4 (some (g, b, v))) 6 (some (g12, b12, E))) 7 (some (g14, b14, y))) fun m1 nm1 hnm1 hm1 =>
      ⟨by simp -dsimp only [go_sem, e1, e2, e3, vp1, vp2, vp3, xvp1, xvp2, xvp3, yp1, yp2, yp3], carry_any, ((((CarR.none _ _ _).upd e3 (carry_lo xvo (by omega) dT)).upd vp3 (carry_own xvo vo (.inr (by omega)))).upd (shp_engine _ _ hm1.rel).2.2.1 .here).upd yp3 (carry_own xvo yo (.inl (by omega))), ?_⟩
  have m1p := shp_engine _ _ hm1.rel
  have m1p1 := m1p.1
  have m1p2 := m1p.2.1
  have m1p3 := m1p.2.2.1
  have m1p4 := m1p.2.2.2
  have m1o := hm1.own xvo
  have m1i := hm1.rel
  have hk : ¬ (1 + (Md.cEngine x : Nat) < (0 : Int)) := by omega
  simp -dsimp only [go_sem, e1, e2, e3, vp1, vp2, vp3, xvp1, xvp2, xvp3, yp1, yp2, yp3, m1p1, m1p2, m1p3, hk, bne_self_eq_false, Bool.not_true, Bool.not_false, Bool.false_eq_true, Bool.true_eq_false, false_imp_iff, true_and, and_true, forall_const, reduceCtorEq, decide_false]
  refine xcall_v (eqEngine_p _ _ _ yi vi) (by simp -dsimp only [go_sem, rl_still, yp4, vp4]) (fun _ => trivial) fun n4 hn4 => ?_
  simp -dsimp only [go_sem, e1, e2, e3, vp1, vp2, vp3, xvp1, xvp2, xvp3, yp1, yp2, yp3, m1p1, m1p2, m1p3, hk, decide_false, bne_self_eq_false, Bool.not_true, Bool.not_false, Bool.false_eq_true, Bool.true_eq_false, false_imp_iff, true_and, and_true, forall_const, reduceCtorEq]
  refine xcall_mk (markEngine_p y _ (1) _ _ yi yo (by decide) (by omega)) (by simp -dsimp only [go_sem, e1, e2, e3, vp1, vp2, vp3, xvp1, xvp2, xvp3, yp1, yp2, yp3, m1p1, m1p2, m1p3, hk]) yp3 yp4 ⟨trivial, trivial⟩ (fun t ht => hW t (by have := yo.rg t ht; omega)) [5, 8, 9, 1, 4, 6, 7] (fun _ _ => .any) (fun E => upd (upd (upd (upd (fun _ => none) 1 (some (g1, b1, d))) 4 (some (g, b, v))) 6 (some (g12, b12, m1))) 7 (some (g14, b14, E))) fun m3 nm3 hnm3 hm3 =>
      ⟨by simp -dsimp only [go_sem, e1, e2, e3, vp1, vp2, vp3, xvp1, xvp2, xvp3, yp1, yp2, yp3, m1p1, m1p2, m1p3, hk], carry_any, ((((CarR.none _ _ _).upd e3 (carry_lo yo (by omega) dT)).upd vp3 (carry_own yo vo (.inr (by omega)))).upd m1p3 (carry_own yo m1o (.inr (by omega)))).upd (shp_engine _ _ hm3.rel).2.2.1 .here, ?_⟩
  have m3p := shp_engine _ _ hm3.rel
  have m3p1 := m3p.1
  have m3p2 := m3p.2.1
  have m3p3 := m3p.2.2.1
  have m3p4 := m3p.2.2.2
  have m3o := hm3.own yo
  have m3i := hm3.rel
  simp -dsimp only [go_sem, e1, e2, e3, vp1, vp2, vp3, xvp1, xvp2, xvp3, yp1, yp2, yp3, m1p1, m1p2, m1p3, hk, m3p1, m3p2, m3p3]
  refine xcall_v (heldEngine_p _ (checkDo x).1 (1) m3i (by decide) (by omega)) (by simp -dsimp only [go_sem, rl_still, m3p4]) (fun _ => trivial) fun n7 hn7 => ?_
  have hk2 : ¬ (1 + (Md.cEngine (checkDo x).1 : Nat) < (0 : Int)) := by omega
  simp -dsimp only [go_sem, e1, e2, e3, vp1, vp2, vp3, xvp1, xvp2, xvp3, yp1, yp2, yp3, m1p1, m1p2, m1p3, hk, m3p1, m3p2, m3p3, hk2, bne_self_eq_false, Bool.not_true, Bool.not_false, Bool.false_eq_true, Bool.true_eq_false, false_imp_iff, true_and, and_true, forall_const, reduceCtorEq, decide_false]
  refine xcall_p (toEngine_p _ _ h hs) (by simp -dsimp only [go_sem, rl_still, e4]) fun r2lo r2hi r2 hr2lo hr2hi hr2 => ?_
  have r2o := hr2.2
  have r2i := hr2.1
  have r2p := shp_engine _ _ r2i
  have r2p1 := r2p.1
  have r2p2 := r2p.2.1
  have r2p3 := r2p.2.2.1
  have r2p4 := r2p.2.2.2
  refine ⟨r2o.tags, ?_⟩
  simp -dsimp only [go_sem, e1, e2, e3, vp1, vp2, vp3, xvp1, xvp2, xvp3, yp1, yp2, yp3, m1p1, m1p2, m1p3, hk, m3p1, m3p2, m3p3, hk2, r2p1, r2p2, r2p3]
  refine xcall_p (check_p _ _ r2i hs r2i.data) (by simp -dsimp only [go_sem, rl_still, r2p4]) fun hvlo hvhi hvw hhvlo hhvhi hhvw => ?_
  obtain ⟨hv, rfl, hhvw2⟩ := hhvw.out
  have hhv := hhvw2
  have hvo := hhv.2
  have hvi := hhv.1
  have hvp := shp_engine _ _ hvi
  have hvp1 := hvp.1
  have hvp2 := hvp.2.1
  have hvp3 := hvp.2.2.1
  have hvp4 := hvp.2.2.2
  refine ⟨tags_two hvo.tags, ?_⟩
  simp -dsimp only [go_sem, e1, e2, e3, vp1, vp2, vp3, xvp1, xvp2, xvp3, yp1, yp2, yp3, m1p1, m1p2, m1p3, hk, m3p1, m3p2, m3p3, hk2, r2p1, r2p2, r2p3, hvp1, hvp2, hvp3]
  intro g19 b19 hb19
  refine xcall_v (eqEngine_p _ _ _ hvi vi) (by simp -dsimp only [go_sem, rl_still, hvp4, vp4]) (fun _ => trivial) fun n4 hn4 => ?_
  simp -dsimp only [go_sem, e1, e2, e3, vp1, vp2, vp3, xvp1, xvp2, xvp3, yp1, yp2, yp3, m1p1, m1p2, m1p3, hk, m3p1, m3p2, m3p3, hk2, hvp1, hvp2, hvp3, decide_false, bne_self_eq_false, Bool.not_true, Bool.not_false, Bool.false_eq_true, Bool.true_eq_false, false_imp_iff, true_and, and_true, forall_const, reduceCtorEq]
  refine xcall_v (heldEngine_p _ (checkDo x).1 (1) m3i (by decide) (by omega)) (by simp -dsimp only [go_sem, rl_still, m3p4]) (fun _ => trivial) fun n9 hn9 => ?_
  simp -dsimp only [go_sem, e1, e2, e3, vp1, vp2, vp3, xvp1, xvp2, xvp3, yp1, yp2, yp3, m1p1, m1p2, m1p3, hk, m3p1, m3p2, m3p3, hk2, hvp1, hvp2, hvp3, bne_self_eq_false, Bool.not_true, Bool.not_false, Bool.false_eq_true, Bool.true_eq_false, false_imp_iff, true_and, and_true, forall_const, reduceCtorEq, decide_false]
end Go.Proofs.YtncinhlaabdlaaaGreat.IM
end
