/- Several of my texts in one module (merge.py, shake.py). -/
import Derived.Test.YtncinhlaabdlaaaGreatGtA3
section
namespace Go.Proofs.YtncinhlaabdlaaaGreat.IM
open Go Go.Proofs
set_option linter.unusedVariables false
set_option linter.unusedSimpArgs false
set_option maxHeartbeats 2000000
set_option maxRecDepth 20000
theorem in_p (a b c : Int) : PCall Tryz.prog 101 [.lit (.int .i64 a), .lit (.int .i64 b), .lit (.int .i64 c)] fun _ _ r => r = .lit (.bool (Md.inB a b c)) := by
  refine pcall_intro_v Tryz.func101 rfl (by decide) rfl (by decide) (by rw [Tryz.ntmps101]; simp) fun w0 M n0 => ivc_sound ?_; simp -dsimp only [Tryz.f101, go_sem]
  refine ⟨fun h1 => ?_, fun h1 => ?_⟩
  · simp [Md.inB, h1]
  · simp [Md.inB, h1]
theorem indexFunc_int {α : Type} {R : D → α → Prop} (hR : Shp R 1 false) (xs : List α) (d : D) (h : IsL 1 R d xs) (fid m : Nat) (cs : Nat → D) (pr : α → Bool) (hcs : ∀ i, (cs i).still)
    (hp : ∀ x ∈ xs, ∀ dx, R dx x → PCall Tryz.prog fid (dx :: (List.range m).map cs) fun _ _ r => r = .lit (.bool (pr x))) :
    PCall Tryz.prog 223 [d, .fn fid m cs] fun _ _ r => r = .lit (.int .i64 (Md.idx pr xs)) := by
  have hlen := h.lenT
  refine pcall_intro_v Tryz.func223 rfl (by decide) rfl (by decide) (by rw [Tryz.ntmps223]; simp) fun w0 M n0 => ivc_sound ?_; simp -dsimp only [Tryz.f223, go_sem, hlen]
  refine iwp_forK xs.length [0, 1, 7] (fun i s => s 8 = .lit (.int .i64 i) ∧ ∀ j (hj : j < i) (hj' : j < xs.length), pr xs[j] = false) 0 (Nat.zero_le _) ⟨by simp -dsimp only [go_sem]; rfl, fun j hj => absurd hj (by omega)⟩ ?_
  rintro i n' s hi hn hk ⟨h8, hall⟩
  refine ivc_sound ?_
  by_cases hlt : i < xs.length
  · obtain ⟨t, zb, f, rfl, hst, hf⟩ := h.sl hlt
    have hfi := hf i hlt
    obtain ⟨e1, e2, e3, e4⟩ := hR _ _ hfi
    have hw := i64_succ (i := i) (by have := h.short; omega)
    simp -dsimp only [go_sem] at hk
    simp -dsimp only [go_sem, hk, h8, hlt, e1, e2, e3, hw]
    refine xcall_v (hp _ (List.getElem_mem hlt) (f i) hfi) (by simp -dsimp only [go_sem, hk, rl_still, hcs, e4]) (fun _ => trivial) fun n1 hn1 => ?_
    simp -dsimp only [go_sem, hk, h8, hlt, hw]
    refine ⟨fun h1 => ?_, fun h1 => into_k (by omega) (by simp -dsimp only [go_sem, hk]) ⟨by simp -dsimp only [go_sem], fun j hj hj' => ?_⟩⟩
    · rw [Md.idx_at hlt h1 hall]
    · rcases Nat.lt_or_ge j i with h2 | h2
      · exact hall j h2 hj'
      · obtain rfl : j = i := by omega
        exact h1
  · simp -dsimp only [go_sem] at hk
    simp -dsimp only [go_sem, hk, h8, hlt]
    rw [Md.idx_none fun j hj => hall j (by omega) hj]
theorem containsFunc_int {α : Type} {R : D → α → Prop} (hR : Shp R 1 false) (xs : List α) (d : D) (h : IsL 1 R d xs) (fid m : Nat) (cs : Nat → D) (pr : α → Bool) (hcs : ∀ i, (cs i).still)
    (hp : ∀ x ∈ xs, ∀ dx, R dx x → PCall Tryz.prog fid (dx :: (List.range m).map cs) fun _ _ r => r = .lit (.bool (pr x))) :
    PCall Tryz.prog 196 [d, .fn fid m cs] fun _ _ r => r = .lit (.bool (xs.any pr)) := by
  have hst := h.still
  refine pcall_intro_v Tryz.func196 rfl (by decide) rfl (by decide) (by rw [Tryz.ntmps196]; simp) fun w0 M n0 => ivc_sound ?_; simp -dsimp only [Tryz.f196, go_sem]
  refine xcall_v (indexFunc_int hR xs d h fid m cs pr hcs hp) (by simp -dsimp only [go_sem, rl_fn, rl_still, hst, hcs]) (fun _ => trivial) fun n1 hn1 => ?_
  simp -dsimp only [go_sem, Md.idx_any]
theorem indexFunc_Slot {α : Type} {R : D → α → Prop} (hR : Shp R 4 true) (xs : List α) (d : D) (h : IsL 4 R d xs) (fid m : Nat) (cs : Nat → D) (pr : α → Bool) (hcs : ∀ i, (cs i).still)
    (hp : ∀ x ∈ xs, ∀ dx, R dx x → PCall Tryz.prog fid (dx :: (List.range m).map cs) fun _ _ r => r = .lit (.bool (pr x))) :
    PCall Tryz.prog 238 [d, .fn fid m cs] fun _ _ r => r = .lit (.int .i64 (Md.idx pr xs)) := by
  have hlen := h.lenT
  refine pcall_intro_v Tryz.func238 rfl (by decide) rfl (by decide) (by rw [Tryz.ntmps238]; simp) fun w0 M n0 => ivc_sound ?_; simp -dsimp only [Tryz.f238, go_sem, hlen]
  refine iwp_forK xs.length [0, 1, 7] (fun i s => s 8 = .lit (.int .i64 i) ∧ ∀ j (hj : j < i) (hj' : j < xs.length), pr xs[j] = false) 0 (Nat.zero_le _) ⟨by simp -dsimp only [go_sem]; rfl, fun j hj => absurd hj (by omega)⟩ ?_
  rintro i n' s hi hn hk ⟨h8, hall⟩
  refine ivc_sound ?_
  by_cases hlt : i < xs.length
  · obtain ⟨t, zb, f, rfl, hst, hf⟩ := h.sl hlt
    have hfi := hf i hlt
    obtain ⟨e1, e2, e3, e4⟩ := hR _ _ hfi
    have hw := i64_succ (i := i) (by have := h.short; omega)
    simp -dsimp only [go_sem] at hk
    simp -dsimp only [go_sem, hk, h8, hlt, e1, e2, e3, hw]
    refine xcall_v (hp _ (List.getElem_mem hlt) (f i) hfi) (by simp -dsimp only [go_sem, hk, rl_still, hcs, e4]) (fun _ => trivial) fun n1 hn1 => ?_
    simp -dsimp only [go_sem, hk, h8, hlt, hw]
    refine ⟨fun h1 => ?_, fun h1 => into_k (by omega) (by simp -dsimp only [go_sem, hk]) ⟨by simp -dsimp only [go_sem], fun j hj hj' => ?_⟩⟩
    · rw [Md.idx_at hlt h1 hall]
    · rcases Nat.lt_or_ge j i with h2 | h2
      · exact hall j h2 hj'
      · obtain rfl : j = i := by omega
        exact h1
  · simp -dsimp only [go_sem] at hk
    simp -dsimp only [go_sem, hk, h8, hlt]
    rw [Md.idx_none fun j hj => hall j (by omega) hj]
theorem containsFunc_Slot {α : Type} {R : D → α → Prop} (hR : Shp R 4 true) (xs : List α) (d : D) (h : IsL 4 R d xs) (fid m : Nat) (cs : Nat → D) (pr : α → Bool) (hcs : ∀ i, (cs i).still)
    (hp : ∀ x ∈ xs, ∀ dx, R dx x → PCall Tryz.prog fid (dx :: (List.range m).map cs) fun _ _ r => r = .lit (.bool (pr x))) :
    PCall Tryz.prog 225 [d, .fn fid m cs] fun _ _ r => r = .lit (.bool (xs.any pr)) := by
  have hst := h.still
  refine pcall_intro_v Tryz.func225 rfl (by decide) rfl (by decide) (by rw [Tryz.ntmps225]; simp) fun w0 M n0 => ivc_sound ?_; simp -dsimp only [Tryz.f225, go_sem]
  refine xcall_v (indexFunc_Slot hR xs d h fid m cs pr hcs hp) (by simp -dsimp only [go_sem, rl_fn, rl_still, hst, hcs]) (fun _ => trivial) fun n1 hn1 => ?_
  simp -dsimp only [go_sem, Md.idx_any]
theorem indexFunc_Seat {α : Type} {R : D → α → Prop} (hR : Shp R 20 true) (xs : List α) (d : D) (h : IsL 20 R d xs) (fid m : Nat) (cs : Nat → D) (pr : α → Bool) (hcs : ∀ i, (cs i).still)
    (hp : ∀ x ∈ xs, ∀ dx, R dx x → PCall Tryz.prog fid (dx :: (List.range m).map cs) fun _ _ r => r = .lit (.bool (pr x))) :
    PCall Tryz.prog 176 [d, .fn fid m cs] fun _ _ r => r = .lit (.int .i64 (Md.idx pr xs)) := by
  have hlen := h.lenT
  refine pcall_intro_v Tryz.func176 rfl (by decide) rfl (by decide) (by rw [Tryz.ntmps176]; simp) fun w0 M n0 => ivc_sound ?_; simp -dsimp only [Tryz.f176, go_sem, hlen]
  refine iwp_forK xs.length [0, 1, 7] (fun i s => s 8 = .lit (.int .i64 i) ∧ ∀ j (hj : j < i) (hj' : j < xs.length), pr xs[j] = false) 0 (Nat.zero_le _) ⟨by simp -dsimp only [go_sem]; rfl, fun j hj => absurd hj (by omega)⟩ ?_
  rintro i n' s hi hn hk ⟨h8, hall⟩
  refine ivc_sound ?_
  by_cases hlt : i < xs.length
  · obtain ⟨t, zb, f, rfl, hst, hf⟩ := h.sl hlt
    have hfi := hf i hlt
    obtain ⟨e1, e2, e3, e4⟩ := hR _ _ hfi
    have hw := i64_succ (i := i) (by have := h.short; omega)
    simp -dsimp only [go_sem] at hk
    simp -dsimp only [go_sem, hk, h8, hlt, e1, e2, e3, hw]
    refine xcall_v (hp _ (List.getElem_mem hlt) (f i) hfi) (by simp -dsimp only [go_sem, hk, rl_still, hcs, e4]) (fun _ => trivial) fun n1 hn1 => ?_
    simp -dsimp only [go_sem, hk, h8, hlt, hw]
    refine ⟨fun h1 => ?_, fun h1 => into_k (by omega) (by simp -dsimp only [go_sem, hk]) ⟨by simp -dsimp only [go_sem], fun j hj hj' => ?_⟩⟩
    · rw [Md.idx_at hlt h1 hall]
    · rcases Nat.lt_or_ge j i with h2 | h2
      · exact hall j h2 hj'
      · obtain rfl : j = i := by omega
        exact h1
  · simp -dsimp only [go_sem] at hk
    simp -dsimp only [go_sem, hk, h8, hlt]
    rw [Md.idx_none fun j hj => hall j (by omega) hj]
theorem containsFunc_Seat {α : Type} {R : D → α → Prop} (hR : Shp R 20 true) (xs : List α) (d : D) (h : IsL 20 R d xs) (fid m : Nat) (cs : Nat → D) (pr : α → Bool) (hcs : ∀ i, (cs i).still)
    (hp : ∀ x ∈ xs, ∀ dx, R dx x → PCall Tryz.prog fid (dx :: (List.range m).map cs) fun _ _ r => r = .lit (.bool (pr x))) :
    PCall Tryz.prog 218 [d, .fn fid m cs] fun _ _ r => r = .lit (.bool (xs.any pr)) := by
  have hst := h.still
  refine pcall_intro_v Tryz.func218 rfl (by decide) rfl (by decide) (by rw [Tryz.ntmps218]; simp) fun w0 M n0 => ivc_sound ?_; simp -dsimp only [Tryz.f218, go_sem]
  refine xcall_v (indexFunc_Seat hR xs d h fid m cs pr hcs hp) (by simp -dsimp only [go_sem, rl_fn, rl_still, hst, hcs]) (fun _ => trivial) fun n1 hn1 => ?_
  simp -dsimp only [go_sem, Md.idx_any]
theorem indexFunc_Live {α : Type} {R : D → α → Prop} (hR : Shp R 3 true) (xs : List α) (d : D) (h : IsL 3 R d xs) (fid m : Nat) (cs : Nat → D) (pr : α → Bool) (hcs : ∀ i, (cs i).still)
    (hp : ∀ x ∈ xs, ∀ dx, R dx x → PCall Tryz.prog fid (dx :: (List.range m).map cs) fun _ _ r => r = .lit (.bool (pr x))) :
    PCall Tryz.prog 135 [d, .fn fid m cs] fun _ _ r => r = .lit (.int .i64 (Md.idx pr xs)) := by
  have hlen := h.lenT
  refine pcall_intro_v Tryz.func135 rfl (by decide) rfl (by decide) (by rw [Tryz.ntmps135]; simp) fun w0 M n0 => ivc_sound ?_; simp -dsimp only [Tryz.f135, go_sem, hlen]
  refine iwp_forK xs.length [0, 1, 7] (fun i s => s 8 = .lit (.int .i64 i) ∧ ∀ j (hj : j < i) (hj' : j < xs.length), pr xs[j] = false) 0 (Nat.zero_le _) ⟨by simp -dsimp only [go_sem]; rfl, fun j hj => absurd hj (by omega)⟩ ?_
  rintro i n' s hi hn hk ⟨h8, hall⟩
  refine ivc_sound ?_
  by_cases hlt : i < xs.length
  · obtain ⟨t, zb, f, rfl, hst, hf⟩ := h.sl hlt
    have hfi := hf i hlt
    obtain ⟨e1, e2, e3, e4⟩ := hR _ _ hfi
    have hw := i64_succ (i := i) (by have := h.short; omega)
    simp -dsimp only [go_sem] at hk
    simp -dsimp only [go_sem, hk, h8, hlt, e1, e2, e3, hw]
    refine xcall_v (hp _ (List.getElem_mem hlt) (f i) hfi) (by simp -dsimp only [go_sem, hk, rl_still, hcs, e4]) (fun _ => trivial) fun n1 hn1 => ?_
    simp -dsimp only [go_sem, hk, h8, hlt, hw]
    refine ⟨fun h1 => ?_, fun h1 => into_k (by omega) (by simp -dsimp only [go_sem, hk]) ⟨by simp -dsimp only [go_sem], fun j hj hj' => ?_⟩⟩
    · rw [Md.idx_at hlt h1 hall]
    · rcases Nat.lt_or_ge j i with h2 | h2
      · exact hall j h2 hj'
      · obtain rfl : j = i := by omega
        exact h1
  · simp -dsimp only [go_sem] at hk
    simp -dsimp only [go_sem, hk, h8, hlt]
    rw [Md.idx_none fun j hj => hall j (by omega) hj]
theorem indexFunc_Hold {α : Type} {R : D → α → Prop} (hR : Shp R 2 true) (xs : List α) (d : D) (h : IsL 2 R d xs) (fid m : Nat) (cs : Nat → D) (pr : α → Bool) (hcs : ∀ i, (cs i).still)
    (hp : ∀ x ∈ xs, ∀ dx, R dx x → PCall Tryz.prog fid (dx :: (List.range m).map cs) fun _ _ r => r = .lit (.bool (pr x))) :
    PCall Tryz.prog 133 [d, .fn fid m cs] fun _ _ r => r = .lit (.int .i64 (Md.idx pr xs)) := by
  have hlen := h.lenT
  refine pcall_intro_v Tryz.func133 rfl (by decide) rfl (by decide) (by rw [Tryz.ntmps133]; simp) fun w0 M n0 => ivc_sound ?_; simp -dsimp only [Tryz.f133, go_sem, hlen]
  refine iwp_forK xs.length [0, 1, 7] (fun i s => s 8 = .lit (.int .i64 i) ∧ ∀ j (hj : j < i) (hj' : j < xs.length), pr xs[j] = false) 0 (Nat.zero_le _) ⟨by simp -dsimp only [go_sem]; rfl, fun j hj => absurd hj (by omega)⟩ ?_
  rintro i n' s hi hn hk ⟨h8, hall⟩
  refine ivc_sound ?_
  by_cases hlt : i < xs.length
  · obtain ⟨t, zb, f, rfl, hst, hf⟩ := h.sl hlt
    have hfi := hf i hlt
    obtain ⟨e1, e2, e3, e4⟩ := hR _ _ hfi
    have hw := i64_succ (i := i) (by have := h.short; omega)
    simp -dsimp only [go_sem] at hk
    simp -dsimp only [go_sem, hk, h8, hlt, e1, e2, e3, hw]
    refine xcall_v (hp _ (List.getElem_mem hlt) (f i) hfi) (by simp -dsimp only [go_sem, hk, rl_still, hcs, e4]) (fun _ => trivial) fun n1 hn1 => ?_
    simp -dsimp only [go_sem, hk, h8, hlt, hw]
    refine ⟨fun h1 => ?_, fun h1 => into_k (by omega) (by simp -dsimp only [go_sem, hk]) ⟨by simp -dsimp only [go_sem], fun j hj hj' => ?_⟩⟩
    · rw [Md.idx_at hlt h1 hall]
    · rcases Nat.lt_or_ge j i with h2 | h2
      · exact hall j h2 hj'
      · obtain rfl : j = i := by omega
        exact h1
  · simp -dsimp only [go_sem] at hk
    simp -dsimp only [go_sem, hk, h8, hlt]
    rw [Md.idx_none fun j hj => hall j (by omega) hj]
theorem indexFunc_Page {α : Type} {R : D → α → Prop} (hR : Shp R 17 true) (xs : List α) (d : D) (h : IsL 17 R d xs) (fid m : Nat) (cs : Nat → D) (pr : α → Bool) (hcs : ∀ i, (cs i).still)
    (hp : ∀ x ∈ xs, ∀ dx, R dx x → PCall Tryz.prog fid (dx :: (List.range m).map cs) fun _ _ r => r = .lit (.bool (pr x))) :
    PCall Tryz.prog 233 [d, .fn fid m cs] fun _ _ r => r = .lit (.int .i64 (Md.idx pr xs)) := by
  have hlen := h.lenT
  refine pcall_intro_v Tryz.func233 rfl (by decide) rfl (by decide) (by rw [Tryz.ntmps233]; simp) fun w0 M n0 => ivc_sound ?_; simp -dsimp only [Tryz.f233, go_sem, hlen]
  refine iwp_forK xs.length [0, 1, 7] (fun i s => s 8 = .lit (.int .i64 i) ∧ ∀ j (hj : j < i) (hj' : j < xs.length), pr xs[j] = false) 0 (Nat.zero_le _) ⟨by simp -dsimp only [go_sem]; rfl, fun j hj => absurd hj (by omega)⟩ ?_
  rintro i n' s hi hn hk ⟨h8, hall⟩
  refine ivc_sound ?_
  by_cases hlt : i < xs.length
  · obtain ⟨t, zb, f, rfl, hst, hf⟩ := h.sl hlt
    have hfi := hf i hlt
    obtain ⟨e1, e2, e3, e4⟩ := hR _ _ hfi
    have hw := i64_succ (i := i) (by have := h.short; omega)
    simp -dsimp only [go_sem] at hk
    simp -dsimp only [go_sem, hk, h8, hlt, e1, e2, e3, hw]
    refine xcall_v (hp _ (List.getElem_mem hlt) (f i) hfi) (by simp -dsimp only [go_sem, hk, rl_still, hcs, e4]) (fun _ => trivial) fun n1 hn1 => ?_
    simp -dsimp only [go_sem, hk, h8, hlt, hw]
    refine ⟨fun h1 => ?_, fun h1 => into_k (by omega) (by simp -dsimp only [go_sem, hk]) ⟨by simp -dsimp only [go_sem], fun j hj hj' => ?_⟩⟩
    · rw [Md.idx_at hlt h1 hall]
    · rcases Nat.lt_or_ge j i with h2 | h2
      · exact hall j h2 hj'
      · obtain rfl : j = i := by omega
        exact h1
  · simp -dsimp only [go_sem] at hk
    simp -dsimp only [go_sem, hk, h8, hlt]
    rw [Md.idx_none fun j hj => hall j (by omega) hj]
theorem containsFunc_Page {α : Type} {R : D → α → Prop} (hR : Shp R 17 true) (xs : List α) (d : D) (h : IsL 17 R d xs) (fid m : Nat) (cs : Nat → D) (pr : α → Bool) (hcs : ∀ i, (cs i).still)
    (hp : ∀ x ∈ xs, ∀ dx, R dx x → PCall Tryz.prog fid (dx :: (List.range m).map cs) fun _ _ r => r = .lit (.bool (pr x))) :
    PCall Tryz.prog 216 [d, .fn fid m cs] fun _ _ r => r = .lit (.bool (xs.any pr)) := by
  have hst := h.still
  refine pcall_intro_v Tryz.func216 rfl (by decide) rfl (by decide) (by rw [Tryz.ntmps216]; simp) fun w0 M n0 => ivc_sound ?_; simp -dsimp only [Tryz.f216, go_sem]
  refine xcall_v (indexFunc_Page hR xs d h fid m cs pr hcs hp) (by simp -dsimp only [go_sem, rl_fn, rl_still, hst, hcs]) (fun _ => trivial) fun n1 hn1 => ?_
  simp -dsimp only [go_sem, Md.idx_any]
theorem l1In_p (a b c : Int) : PCall Tryz.prog 45 [.lit (.int .i64 a), .lit (.int .i64 b), .lit (.int .i64 c)] fun _ _ r => r = .lit (.bool (Md.inB a b c)) := by
  refine pcall_intro_v Tryz.func45 rfl (by decide) rfl (by decide) (by rw [Tryz.ntmps45]; simp) fun w0 M n0 => ivc_sound ?_; simp -dsimp only [Tryz.f45, go_sem]
  refine ⟨fun h1 => ?_, fun h1 => ?_⟩
  · simp [Md.inB, h1]
  · simp [Md.inB, h1]
theorem objOk1_p (a : Int) : PCall Tryz.prog 197 [.lit (.int .i64 a)] fun _ _ r => r = .lit (.bool (!Md.inB a (-1000000) 1000000)) := by
  refine pcall_intro_v Tryz.func197 rfl (by decide) rfl (by decide) (by rw [Tryz.ntmps197]; simp) fun w0 M n0 => ivc_sound ?_; simp -dsimp only [Tryz.f197, go_sem]
  refine xcall_v (in_p _ _ _) (by simp -dsimp only [go_sem]; rfl) (fun _ => trivial) fun n1 hn1 => ?_
  simp -dsimp only [go_sem]
theorem objOk2_p (a : Int) : PCall Tryz.prog 198 [.lit (.int .i64 a)] fun _ _ r => r = .lit (.bool (!Md.inB a 0 31)) := by
  refine pcall_intro_v Tryz.func198 rfl (by decide) rfl (by decide) (by rw [Tryz.ntmps198]; simp) fun w0 M n0 => ivc_sound ?_; simp -dsimp only [Tryz.f198, go_sem]
  refine xcall_v (in_p _ _ _) (by simp -dsimp only [go_sem]; rfl) (fun _ => trivial) fun n1 hn1 => ?_
  simp -dsimp only [go_sem]
theorem gt5 (n : Nat) : (5 < (n : Int)) = ¬ n ≤ 5 := by apply propext; omega
theorem objOk_p (d : D) (o : Md.Obj) (h : IsObj d o) : PCall Tryz.prog 131 [d] fun _ _ r => r = .lit (.bool (Md.objOk o)) := by
  obtain ⟨f, rfl, hst, h0, h1, h2⟩ := h
  have h0 : f 0 = _ := h0
  refine pcall_intro_v Tryz.func131 rfl (by decide) rfl (by decide) (by rw [Tryz.ntmps131]; simp) fun w0 M n0 => ivc_sound ?_; simp -dsimp only [Tryz.f131, go_sem, h0, h1.size, h1.isNode, h1.lenT, h2.size, h2.isNode, h2.lenT]
  intro g b hb
  refine xcall_v (in_p _ _ _) (by simp -dsimp only [go_sem, h0]; rfl) (fun _ => trivial) fun n1 hn1 => ?_
  simp -dsimp only [go_sem, h1.size, h1.isNode, h1.lenT, h2.size, h2.isNode, h2.lenT, gt5]
  repeat' (first | refine ⟨?_, ?_⟩ | with_reducible intro _)
  · first | (simp [Md.objOk, *]; done) | (simp_all [Md.objOk]; done) | (simp_all [Md.objOk]; omega)
  · refine xcall_v (containsFunc_int shp_int o.ints (f 1) h1 197 0 (fun _ => .any) (fun n => !Md.inB n (-1000000) 1000000) (fun _ => trivial) fun x _ dx hx => by rw [hx]; exact objOk1_p x) (by simp -dsimp only [go_sem, h0, rl_fn, rl_still, h1.still]) (fun _ => trivial) fun n2 hn2 => ?_
    simp -dsimp only [go_sem, h1.size, h1.isNode, h1.lenT, h2.size, h2.isNode, h2.lenT, h2.plain, Md.any_ints]
    refine ⟨fun h3 => ?_, fun h3 => ?_⟩
    · refine xcall_v (containsFunc_int shp_int o.refs (f 2) h2 198 0 (fun _ => .any) (fun n => !Md.inB n 0 31) (fun _ => trivial) fun x _ dx hx => by rw [hx]; exact objOk2_p x) (by simp -dsimp only [go_sem, h0, rl_fn, rl_still, h2.still]) (fun _ => trivial) fun n2 hn2 => ?_
      simp -dsimp only [go_sem, Md.any_refs]
      first | (simp [Md.objOk, *]; done) | (simp_all [Md.objOk]; done) | (simp_all [Md.objOk]; omega)
    · first | (simp [Md.objOk, *]; done) | (simp_all [Md.objOk]; done) | (simp_all [Md.objOk]; omega)
  · first | (simp [Md.objOk, *]; done) | (simp_all [Md.objOk]; done) | (simp_all [Md.objOk]; omega)
  · first | (simp [Md.objOk, *]; done) | (simp_all [Md.objOk]; done) | (simp_all [Md.objOk]; omega)
theorem l1ObjOk_p (d : D) (o : Md.Obj) (h : IsObj d o) : PCall Tryz.prog 118 [d] fun _ _ r => r = .lit (.bool (Md.objOk o)) := by
  obtain ⟨f, rfl, hst, h0, h1, h2⟩ := h
  have h0 : f 0 = _ := h0
  refine pcall_intro_v Tryz.func118 rfl (by decide) rfl (by decide) (by rw [Tryz.ntmps118]; simp) fun w0 M n0 => ivc_sound ?_; simp -dsimp only [Tryz.f118, go_sem, h0, h1.size, h1.isNode, h1.lenT, h2.size, h2.isNode, h2.lenT]
  intro g b hb
  refine xcall_v (l1In_p _ _ _) (by simp -dsimp only [go_sem, h0]; rfl) (fun _ => trivial) fun n1 hn1 => ?_
  simp -dsimp only [go_sem, h1.size, h1.isNode, h1.lenT, h2.size, h2.isNode, h2.lenT, gt5]
  repeat' (first | refine ⟨?_, ?_⟩ | with_reducible intro _)
  · first | (simp [Md.objOk, *]; done) | (simp_all [Md.objOk]; done) | (simp_all [Md.objOk]; omega)
  · refine iwp_forK o.ints.length [1] (fun i s => s 3 = .lit (.int .i64 i) ∧ Md.AllB (Md.inB · (-1000000) 1000000) o.ints i true) 0 (Nat.zero_le _) ⟨by simp -dsimp only [go_sem]; rfl, Md.allB_zero _ _ _⟩ ?_
    rintro i n' s hi hn hk ⟨h3, hall⟩
    refine ivc_sound ?_
    simp -dsimp only [go_sem] at hk
    by_cases hlt : i < o.ints.length
    · obtain ⟨t, zb, fi, hd, hst, hf⟩ := h1.sl hlt
      have hfi : fi i = _ := hf i hlt
      have hw := i64_succ (i := i) (by have := h1.short; omega)
      simp -dsimp only [go_sem, hk, h3, hlt, h1.size, h1.isNode, h1.lenT, hd, hfi, hw]
      refine xcall_v (l1In_p _ _ _) (by simp -dsimp only [go_sem]; rfl) (fun _ => trivial) fun n1 hn1 => ?_
      simp -dsimp only [go_sem, hk, h3, hw]
      refine ⟨fun hb => ?_, fun hb => into_k (by omega) (by simp -dsimp only [go_sem, hk]) ⟨by simp -dsimp only [go_sem], hall.succ hlt (by simpa using hb)⟩⟩
      have := Md.not_all (p := (Md.inB · (-1000000) 1000000)) hlt (by simpa using hb)
      simp [Md.objOk, Md.intsOk, this]
    · have hio : Md.intsOk o.ints = true := hall.all hlt
      simp -dsimp only [go_sem, hk, h3, hlt, h1.size, h1.isNode, h1.lenT]
      refine iwp_forK o.refs.length [1] (fun i s => s 4 = .lit (.int .i64 i) ∧ Md.AllB (Md.inB · 0 31) o.refs i true) 0 (Nat.zero_le _) ⟨by simp -dsimp only [go_sem]; rfl, Md.allB_zero _ _ _⟩ ?_
      rintro i n' s' hi hn hk' ⟨h4, hall⟩
      refine ivc_sound ?_
      simp -dsimp only [go_sem, hk] at hk'
      by_cases hlt : i < o.refs.length
      · obtain ⟨t, zb, fi, hd, hst, hf⟩ := h2.sl hlt
        have hfi : fi i = _ := hf i hlt
        have hw := i64_succ (i := i) (by have := h2.short; omega)
        simp -dsimp only [go_sem, hk', h4, hlt, h2.size, h2.isNode, h2.lenT, hd, hfi, hw]
        refine xcall_v (l1In_p _ _ _) (by simp -dsimp only [go_sem]; rfl) (fun _ => trivial) fun n1 hn1 => ?_
        simp -dsimp only [go_sem, hk', h4, hw]
        refine ⟨fun hb => ?_, fun hb => into_k (by omega) (by simp -dsimp only [go_sem, hk', hk]) ⟨by simp -dsimp only [go_sem], hall.succ hlt (by simpa using hb)⟩⟩
        have := Md.not_all (p := (Md.inB · 0 31)) hlt (by simpa using hb)
        simp [Md.objOk, Md.refsOk, this]
      · have hro : Md.refsOk o.refs = true := hall.all hlt
        simp -dsimp only [go_sem, hk', h4, hlt, h2.size, h2.isNode, h2.lenT]
        first | (simp [Md.objOk, *]; done) | (simp_all [Md.objOk]; done) | (simp_all [Md.objOk]; omega)
  · first | (simp [Md.objOk, *]; done) | (simp_all [Md.objOk]; done) | (simp_all [Md.objOk]; omega)
  · first | (simp [Md.objOk, *]; done) | (simp_all [Md.objOk]; done) | (simp_all [Md.objOk]; omega)
theorem noObj_p (d : D) (o : Md.Obj) (h : IsObj d o) : PCall Tryz.prog 132 [d] fun _ _ r => r = .lit (.bool (Md.noObj o)) := by
  obtain ⟨f, rfl, hst, h0, h1, h2⟩ := h
  have h0 : f 0 = _ := h0
  refine pcall_intro_v Tryz.func132 rfl (by decide) rfl (by decide) (by rw [Tryz.ntmps132]; simp) fun w0 M n0 => ivc_sound ?_; simp -dsimp only [Tryz.f132, go_sem, h0, h1.size, h1.isNode, h1.lenT, h2.size, h2.isNode, h2.lenT]
  repeat' (first | refine ⟨?_, ?_⟩ | with_reducible intro _)
  all_goals first | (simp [Md.noObj, *]; done) | (simp_all [Md.noObj]; done) | (simp_all [Md.noObj]; omega)
theorem slotOk_p (d : D) (s : Md.Slot) (h : IsSlot d s) : PCall Tryz.prog 59 [d] fun _ _ r => r = .lit (.bool (Md.slotOk s)) := by
  obtain ⟨f, rfl, hst, h0, h1⟩ := h
  have h0 : f 0 = _ := h0
  obtain ⟨e1, e2, e3, e4⟩ := shp_obj _ _ h1
  refine pcall_intro_v Tryz.func59 rfl (by decide) rfl (by decide) (by rw [Tryz.ntmps59]; simp) fun w0 M n0 => ivc_sound ?_; simp -dsimp only [Tryz.f59, go_sem, h0, e1, e2]
  repeat' (first | refine ⟨?_, ?_⟩ | with_reducible intro _)
  · refine xcall_v (objOk_p _ _ h1) (by simp -dsimp only [go_sem, rl_still, e4]) (fun _ => trivial) fun n1 hn1 => ?_
    simp -dsimp only [go_sem]
    first | (simp [Md.slotOk, *]; done) | (simp_all [Md.slotOk]; done) | (simp_all [Md.slotOk]; omega)
  · refine xcall_v (noObj_p _ _ h1) (by simp -dsimp only [go_sem, rl_still, e4]) (fun _ => trivial) fun n1 hn1 => ?_
    simp -dsimp only [go_sem]
    first | (simp [Md.slotOk, *]; done) | (simp_all [Md.slotOk]; done) | (simp_all [Md.slotOk]; omega)
theorem pageOk1_p (d : D) (s : Md.Slot) (h : IsSlot d s) : PCall Tryz.prog 226 [d] fun _ _ r => r = .lit (.bool (!Md.slotOk s)) := by
  obtain ⟨e1, e2, e3, e4⟩ := shp_slot _ _ h
  refine pcall_intro_v Tryz.func226 rfl (by decide) rfl (by decide) (by rw [Tryz.ntmps226]; simp) fun w0 M n0 => ivc_sound ?_; simp -dsimp only [Tryz.f226, go_sem, e1, e2, e3]
  repeat' (first | refine ⟨?_, ?_⟩ | with_reducible intro _)
  refine xcall_v (slotOk_p _ _ h) (by simp -dsimp only [go_sem, rl_still, e4]) (fun _ => trivial) fun n1 hn1 => ?_
  simp -dsimp only [go_sem]
theorem pageOk_p (d : D) (p : Md.Page) (h : IsPage d p) : PCall Tryz.prog 202 [d] fun _ _ r => r = .lit (.bool (Md.pageOk p)) := by
  obtain ⟨f, rfl, hst, h0, hl, g, hg, hgs, h1⟩ := h
  have h0 : f 0 = _ := h0
  refine pcall_intro_v Tryz.func202 rfl (by decide) rfl (by decide) (by rw [Tryz.ntmps202]; simp) fun w0 M n0 => ivc_sound ?_; simp -dsimp only [Tryz.f202, go_sem, h0]
  repeat' (first | refine ⟨?_, ?_⟩ | with_reducible intro _)
  refine xcall_v (in_p _ _ _) (by simp -dsimp only [go_sem, h0]; rfl) (fun _ => trivial) fun n1 hn1 => ?_
  simp -dsimp only [go_sem, hg]
  repeat' (first | refine ⟨?_, ?_⟩ | with_reducible intro _)
  · have hs : ∀ b, IsL 4 IsSlot (.sl b false 4 4 g) p.slots := fun b => .inr ⟨b, false, g, by rw [hl], hgs, by omega, h1⟩
    refine xcall_v (containsFunc_Slot shp_slot p.slots _ (hs _) 226 0 (fun _ => .any) (fun s => !Md.slotOk s) (fun _ => trivial) fun x _ dx hx => pageOk1_p dx x hx)
      (by simp -dsimp only [go_sem, rl_fn, hg, rl_still, hgs]; rfl) (fun _ => trivial) fun n2 hn2 => ?_
    simp -dsimp only [go_sem, Md.any_slots]
    first | (simp [Md.pageOk, *]; done) | (simp_all [Md.pageOk]; done) | (simp_all [Md.pageOk]; omega)
  · first | (simp [Md.pageOk, *]; done) | (simp_all [Md.pageOk]; done) | (simp_all [Md.pageOk]; omega)
theorem l3Slot_p (d : D) (s : Md.Slot) (h : IsSlot d s) : PCall Tryz.prog 46 [d] fun _ _ r => r = .lit (.bool (Md.slotOk s)) := by
  obtain ⟨f, rfl, hst, h0, h1⟩ := h
  have h0 : f 0 = _ := h0
  obtain ⟨e1, e2, e3, e4⟩ := shp_obj _ _ h1
  have h1' := h1
  obtain ⟨k, hk, hks, k0, k1, k2⟩ := h1'
  have k0 : k 0 = _ := k0
  refine pcall_intro_v Tryz.func46 rfl (by decide) rfl (by decide) (by rw [Tryz.ntmps46]; simp) fun w0 M n0 => ivc_sound ?_; simp -dsimp only [Tryz.f46, go_sem, h0, hk, k0, k1.size, k1.isNode, k1.lenT, k2.size, k2.isNode, k2.lenT]
  repeat' (first | refine ⟨?_, ?_⟩ | with_reducible intro _)
  · refine xcall_v (l1ObjOk_p _ _ h1) (by simp -dsimp only [go_sem, rl_still, e4, ← hk]) (fun _ => trivial) fun n1 hn1 => ?_
    simp -dsimp only [go_sem]
    first | (simp [Md.slotOk, *]; done) | (simp_all [Md.slotOk]; done) | (simp_all [Md.slotOk]; omega)
  · all_goals first | (simp [Md.slotOk, Md.noObj, *]; done) | (simp_all [Md.slotOk, Md.noObj]; done) | (simp_all [Md.slotOk, Md.noObj]; omega)
  · all_goals first | (simp [Md.slotOk, Md.noObj, *]; done) | (simp_all [Md.slotOk, Md.noObj]; done) | (simp_all [Md.slotOk, Md.noObj]; omega)
  · all_goals first | (simp [Md.slotOk, Md.noObj, *]; done) | (simp_all [Md.slotOk, Md.noObj]; done) | (simp_all [Md.slotOk, Md.noObj]; omega)
theorem wrap_sub {a : Int} {n : Nat} (h0 : 0 ≤ a) (h1 : a ≤ 1048576) (h : n < 140737488355328) : IntKind.i64.wrap (a - n) = a - n := by
  rw [IntKind.wrap_i64]; omega
theorem szR_len {a : Int} {n : Nat} : (if a - n < 0 then -1 else a - n) = Md.szR n a := by
  unfold Md.szR; split <;> split <;> omega
theorem szIntS_p (d : D) (xs : List Int) (h : IsL 1 IsInt d xs) (left : Int) (h0 : 0 ≤ left) (h1 : left ≤ 1048576) : PCall Tryz.prog 114 [d, .lit (.int .i64 left)] fun _ _ r => r = .lit (.int .i64 (Md.szR xs.length left)) := by
  have hw := wrap_sub h0 h1 h.short
  refine pcall_intro_v Tryz.func114 rfl (by decide) rfl (by decide) (by rw [Tryz.ntmps114]; simp) fun w0 M n0 => ivc_sound ?_; simp -dsimp only [Tryz.f114, go_sem, h.lenT, hw]
  rw [← szR_len]
  repeat' (first | refine ⟨?_, ?_⟩ | with_reducible intro _)
  · rename_i hc; rw [if_pos hc]
  · rename_i hc; rw [if_neg hc]
theorem szLiveS_p (d : D) (xs : List Md.Live) (h : IsL 3 IsLive d xs) (left : Int) (h0 : 0 ≤ left) (h1 : left ≤ 1048576) : PCall Tryz.prog 40 [d, .lit (.int .i64 left)] fun _ _ r => r = .lit (.int .i64 (Md.szR xs.length left)) := by
  have hw := wrap_sub h0 h1 h.short
  refine pcall_intro_v Tryz.func40 rfl (by decide) rfl (by decide) (by rw [Tryz.ntmps40]; simp) fun w0 M n0 => ivc_sound ?_; simp -dsimp only [Tryz.f40, go_sem, h.lenT, hw]
  rw [← szR_len]
  repeat' (first | refine ⟨?_, ?_⟩ | with_reducible intro _)
  · rename_i hc; rw [if_pos hc]
  · rename_i hc; rw [if_neg hc]
theorem szHoldS_p (d : D) (xs : List Md.Hold) (h : IsL 2 IsHold d xs) (left : Int) (h0 : 0 ≤ left) (h1 : left ≤ 1048576) : PCall Tryz.prog 41 [d, .lit (.int .i64 left)] fun _ _ r => r = .lit (.int .i64 (Md.szR xs.length left)) := by
  have hw := wrap_sub h0 h1 h.short
  refine pcall_intro_v Tryz.func41 rfl (by decide) rfl (by decide) (by rw [Tryz.ntmps41]; simp) fun w0 M n0 => ivc_sound ?_; simp -dsimp only [Tryz.f41, go_sem, h.lenT, hw]
  rw [← szR_len]
  repeat' (first | refine ⟨?_, ?_⟩ | with_reducible intro _)
  · rename_i hc; rw [if_pos hc]
  · rename_i hc; rw [if_neg hc]
theorem sz_neg (n m : Nat) (left : Int) (h : n ≤ m) (h' : Md.szR n left < 0) : Md.szR m left = -1 := by
  unfold Md.szR at *
  split at h'
  · omega
  · rw [if_neg (by omega)]
theorem szObj_p (d : D) (x : Md.Obj) (h : IsObj d x) (left : Int) (h0 : 0 ≤ left) (h1 : left ≤ 1048576) : PCall Tryz.prog 42 [d, .lit (.int .i64 left)] fun _ _ r => r = .lit (.int .i64 (Md.szR (Md.szObj x) left)) := by
  obtain ⟨f, rfl, hst, k0, k1, k2⟩ := h
  refine pcall_intro_v Tryz.func42 rfl (by decide) rfl (by decide) (by rw [Tryz.ntmps42]; simp) fun w0 M n0 => ivc_sound ?_; simp -dsimp only [Tryz.f42, go_sem, k1.size, k1.isNode, k1.still, k2.size, k2.isNode, k2.still]
  repeat' (first | refine ⟨?_, ?_⟩ | with_reducible intro _)
  refine xcall_v (szIntS_p _ _ k1 _ h0 h1) (by simp -dsimp only [go_sem, rl_still, k1.size, k1.isNode, k1.still, k2.size, k2.isNode, k2.still]) (fun _ => trivial) fun n0 hn0 => ?_
  simp -dsimp only [go_sem, k1.size, k1.isNode, k1.still, k2.size, k2.isNode, k2.still]
  refine ⟨fun g0 => ?_, fun g0 => ?_⟩
  · exact (sz_neg (x.ints.length) (Md.szObj x) _ (by unfold Md.szObj; omega) g0).symm
  have G0 := g0
  obtain ⟨p0, q0⟩ := Md.szR_rg _ _ h0 h1 g0
  refine xcall_v (szIntS_p _ _ k2 _ p0 q0) (by simp -dsimp only [go_sem, rl_still, k1.size, k1.isNode, k1.still, k2.size, k2.isNode, k2.still]) (fun _ => trivial) fun n1 hn1 => ?_
  simp -dsimp only [go_sem, k1.size, k1.isNode, k1.still, k2.size, k2.isNode, k2.still]
  refine ⟨fun g1 => ?_, fun g1 => ?_⟩
  · exact (sz_neg (x.ints.length + x.refs.length) (Md.szObj x) _ (by unfold Md.szObj; omega) (by rw [Md.szR_add2 _ _ _ h0 G0] at g1; exact g1)).symm
  have G1 : ¬ Md.szR (x.ints.length + x.refs.length) left < 0 := by rw [Md.szR_add2 _ _ _ h0 G0] at g1; exact g1
  obtain ⟨p1, q1⟩ := Md.szR_rg _ _ p0 q0 g1
  rw [Md.szR_add2 _ _ _ h0 G0]; rfl
theorem szSlot_p (d : D) (x : Md.Slot) (h : IsSlot d x) (left : Int) (h0 : 0 ≤ left) (h1 : left ≤ 1048576) : PCall Tryz.prog 12 [d, .lit (.int .i64 left)] fun _ _ r => r = .lit (.int .i64 (Md.szR (Md.szSlot x) left)) := by
  obtain ⟨f, rfl, hst, k0, k1⟩ := h
  obtain ⟨a0, b0, c0, s0⟩ := shp_obj _ _ k1
  refine pcall_intro_v Tryz.func12 rfl (by decide) rfl (by decide) (by rw [Tryz.ntmps12]; simp) fun w0 M n0 => ivc_sound ?_; simp -dsimp only [Tryz.f12, go_sem, a0, b0, s0]
  repeat' (first | refine ⟨?_, ?_⟩ | with_reducible intro _)
  refine xcall_v (szObj_p _ _ k1 _ h0 h1) (by simp -dsimp only [go_sem, rl_still, a0, b0, s0]) (fun _ => trivial) fun n0 hn0 => ?_
  simp -dsimp only [go_sem, a0, b0, s0]
  refine ⟨fun g0 => ?_, fun g0 => ?_⟩
  · exact (sz_neg (Md.szObj x.o) (Md.szSlot x) _ (by unfold Md.szSlot; omega) g0).symm
  have G0 := g0
  obtain ⟨p0, q0⟩ := Md.szR_rg _ _ h0 h1 g0
  rfl
theorem szSlotA4_p (d : D) (xs : List Md.Slot) (h : IsA 4 4 IsSlot d xs) (left : Int) (h0 : 0 ≤ left) (h1 : left ≤ 1048576) : PCall Tryz.prog 186 [d, .lit (.int .i64 left)] fun _ _ r => r = .lit (.int .i64 (Md.szR (Md.sumBy Md.szSlot xs) left)) := by
  obtain ⟨hl, f, rfl, hst, hf⟩ := h
  refine pcall_intro_v Tryz.func186 rfl (by decide) rfl (by decide) (by rw [Tryz.ntmps186]; simp) fun w0 M n0 => ivc_sound ?_; simp -dsimp only [Tryz.f186, go_sem]
  repeat' (first | refine ⟨?_, ?_⟩ | with_reducible intro _)
  refine iwp_forK 4 [2] (fun i s => s 5 = .lit (.int .i64 i) ∧ s 1 = .lit (.int .i64 (Md.szR (Md.sumBy Md.szSlot (xs.take i)) left)) ∧ ¬ Md.szR (Md.sumBy Md.szSlot (xs.take i)) left < 0) 0 (Nat.zero_le _)
    ⟨by simp -dsimp only [go_sem]; rfl, by simp -dsimp only [go_sem]; exact (Md.szR_zero _ h0).symm, by rw [show Md.szR (Md.sumBy Md.szSlot (xs.take 0)) left = left from Md.szR_zero _ h0]; omega⟩ ?_
  rintro i n' s hi hn hk ⟨h5, h6, h7⟩
  refine ivc_sound ?_
  simp -dsimp only [go_sem] at hk
  obtain ⟨p0, q0⟩ := Md.szR_rg _ _ h0 h1 h7
  by_cases hlt : i < 4
  · have hfi := hf i (by omega)
    obtain ⟨e1, e2, e3, e4⟩ := shp_slot _ _ hfi
    have hw := i64_succ (i := i) (by omega)
    have ht := Md.sumBy_take Md.szSlot xs i (by omega)
    have hc : (i : Int) < 4 := by omega
    simp -dsimp only [go_sem, hk, h5, h6, hc, hlt, e1, e2, hw]
    refine xcall_v (szSlot_p _ _ hfi _ p0 q0) (by simp -dsimp only [go_sem, rl_still, e4, hk, h6]) (fun _ => trivial) fun n1 hn1 => ?_
    simp -dsimp only [go_sem, hk, h5, h6, hc, hlt, hw]
    refine ⟨fun g0 => ?_, fun g0 => into_k (by omega) (by simp -dsimp only [go_sem, hk]) ⟨by simp -dsimp only [go_sem], by simp -dsimp only [go_sem]; rw [ht, Md.szR_add2 _ _ _ h0 h7], by rw [ht, ← Md.szR_add2 _ _ _ h0 h7]; exact g0⟩⟩
    refine (sz_neg _ _ _ (?_ : Md.sumBy Md.szSlot (xs.take i) + Md.szSlot xs[i] ≤ _) (by rw [← Md.szR_add2 _ _ _ h0 h7]; exact g0)).symm
    rw [← ht]; exact Md.sumBy_le Md.szSlot xs (i + 1)
  · have hc : ¬ (i : Int) < 4 := by omega
    simp -dsimp only [go_sem, hk, h5, h6, hc, hlt]
    rw [Md.sumBy_all Md.szSlot xs i (by omega)]
theorem szPage_p (d : D) (x : Md.Page) (h : IsPage d x) (left : Int) (h0 : 0 ≤ left) (h1 : left ≤ 1048576) : PCall Tryz.prog 111 [d, .lit (.int .i64 left)] fun _ _ r => r = .lit (.int .i64 (Md.szR (Md.szPage x) left)) := by
  obtain ⟨f, rfl, hst, k0, k1⟩ := h
  refine pcall_intro_v Tryz.func111 rfl (by decide) rfl (by decide) (by rw [Tryz.ntmps111]; simp) fun w0 M n0 => ivc_sound ?_; simp -dsimp only [Tryz.f111, go_sem, k1.size, k1.isNode, k1.still]
  repeat' (first | refine ⟨?_, ?_⟩ | with_reducible intro _)
  refine xcall_v (szSlotA4_p _ _ k1 _ h0 h1) (by simp -dsimp only [go_sem, rl_still, k1.size, k1.isNode, k1.still]) (fun _ => trivial) fun n0 hn0 => ?_
  simp -dsimp only [go_sem, k1.size, k1.isNode, k1.still]
  refine ⟨fun g0 => ?_, fun g0 => ?_⟩
  · exact (sz_neg (Md.sumBy Md.szSlot x.slots) (Md.szPage x) _ (by unfold Md.szPage; omega) g0).symm
  have G0 := g0
  obtain ⟨p0, q0⟩ := Md.szR_rg _ _ h0 h1 g0
  rfl
theorem szRec_p (d : D) (x : Md.Rec) (h : IsRec d x) (left : Int) (h0 : 0 ≤ left) (h1 : left ≤ 1048576) : PCall Tryz.prog 188 [d, .lit (.int .i64 left)] fun _ _ r => r = .lit (.int .i64 (Md.szR (Md.szRec x) left)) := by
  obtain ⟨f, rfl, hst, k0, k1, k2, k3, k4, k5, k6, k7, k8⟩ := h
  obtain ⟨a0, b0, c0, s0⟩ := shp_slot _ _ k5
  obtain ⟨a1, b1, c1, s1⟩ := shp_slot _ _ k6
  refine pcall_intro_v Tryz.func188 rfl (by decide) rfl (by decide) (by rw [Tryz.ntmps188]; simp) fun w0 M n0 => ivc_sound ?_; simp -dsimp only [Tryz.f188, go_sem, a0, b0, s0, a1, b1, s1, k8.size, k8.isNode, k8.still]
  repeat' (first | refine ⟨?_, ?_⟩ | with_reducible intro _)
  refine xcall_v (szSlot_p _ _ k5 _ h0 h1) (by simp -dsimp only [go_sem, rl_still, a0, b0, s0, a1, b1, s1, k8.size, k8.isNode, k8.still]) (fun _ => trivial) fun n0 hn0 => ?_
  simp -dsimp only [go_sem, a0, b0, s0, a1, b1, s1, k8.size, k8.isNode, k8.still]
  refine ⟨fun g0 => ?_, fun g0 => ?_⟩
  · exact (sz_neg (Md.szSlot x.before) (Md.szRec x) _ (by unfold Md.szRec; omega) g0).symm
  have G0 := g0
  obtain ⟨p0, q0⟩ := Md.szR_rg _ _ h0 h1 g0
  refine xcall_v (szSlot_p _ _ k6 _ p0 q0) (by simp -dsimp only [go_sem, rl_still, a0, b0, s0, a1, b1, s1, k8.size, k8.isNode, k8.still]) (fun _ => trivial) fun n1 hn1 => ?_
  simp -dsimp only [go_sem, a0, b0, s0, a1, b1, s1, k8.size, k8.isNode, k8.still]
  refine ⟨fun g1 => ?_, fun g1 => ?_⟩
  · exact (sz_neg (Md.szSlot x.before + Md.szSlot x.after) (Md.szRec x) _ (by unfold Md.szRec; omega) (by rw [Md.szR_add2 _ _ _ h0 G0] at g1; exact g1)).symm
  have G1 : ¬ Md.szR (Md.szSlot x.before + Md.szSlot x.after) left < 0 := by rw [Md.szR_add2 _ _ _ h0 G0] at g1; exact g1
  obtain ⟨p1, q1⟩ := Md.szR_rg _ _ p0 q0 g1
  refine xcall_v (szLiveS_p _ _ k8 _ p1 q1) (by simp -dsimp only [go_sem, rl_still, a0, b0, s0, a1, b1, s1, k8.size, k8.isNode, k8.still]) (fun _ => trivial) fun n2 hn2 => ?_
  simp -dsimp only [go_sem, a0, b0, s0, a1, b1, s1, k8.size, k8.isNode, k8.still]
  refine ⟨fun g2 => ?_, fun g2 => ?_⟩
  · exact (sz_neg (Md.szSlot x.before + Md.szSlot x.after + x.txs.length) (Md.szRec x) _ (by unfold Md.szRec; omega) (by rw [Md.szR_add2 _ _ _ h0 G0, Md.szR_add2 _ _ _ h0 G1] at g2; exact g2)).symm
  have G2 : ¬ Md.szR (Md.szSlot x.before + Md.szSlot x.after + x.txs.length) left < 0 := by rw [Md.szR_add2 _ _ _ h0 G0, Md.szR_add2 _ _ _ h0 G1] at g2; exact g2
  obtain ⟨p2, q2⟩ := Md.szR_rg _ _ p1 q1 g2
  rw [Md.szR_add2 _ _ _ h0 G0, Md.szR_add2 _ _ _ h0 G1]; rfl
theorem szRecS_p (d : D) (xs : List Md.Rec) (h : IsL 15 IsRec d xs) (left : Int) (h0 : 0 ≤ left) (h1 : left ≤ 1048576) : PCall Tryz.prog 113 [d, .lit (.int .i64 left)] fun _ _ r => r = .lit (.int .i64 (Md.szR (Md.szRecs xs) left)) := by
  have hw0 := wrap_sub h0 h1 h.short
  refine pcall_intro_v Tryz.func113 rfl (by decide) rfl (by decide) (by rw [Tryz.ntmps113]; simp) fun w0 M n0 => ivc_sound ?_; simp -dsimp only [Tryz.f113, go_sem, h.lenT, hw0]
  refine ⟨fun g0 => ?_, fun g0 => ?_⟩
  · unfold Md.szR Md.szRecs; rw [if_neg (by omega)]
  have e0 : left - (xs.length : Int) = Md.szR xs.length left := by unfold Md.szR; rw [if_pos (by omega)]
  rw [e0] at g0
  simp -dsimp only [go_sem, e0]
  refine iwp_forK xs.length [0] (fun i s => s 5 = .lit (.int .i64 i) ∧ s 1 = .lit (.int .i64 (Md.szR (xs.length + Md.sumBy Md.szRec (xs.take i)) left)) ∧ ¬ Md.szR (xs.length + Md.sumBy Md.szRec (xs.take i)) left < 0) 0 (Nat.zero_le _)
    ⟨by simp -dsimp only [go_sem]; rfl, by simp -dsimp only [go_sem]; rfl, g0⟩ ?_
  rintro i n' s hi hn hk ⟨h5, h6, h7⟩
  refine ivc_sound ?_
  simp -dsimp only [go_sem] at hk
  obtain ⟨p0, q0⟩ := Md.szR_rg _ _ h0 h1 h7
  by_cases hlt : i < xs.length
  · obtain ⟨t, zb, fi, rfl, hst, hf⟩ := h.sl hlt
    have hfi := hf i hlt
    obtain ⟨e1, e2, e3, e4⟩ := shp_rec _ _ hfi
    have hw := i64_succ (i := i) (by have := h.short; omega)
    have ht := Md.sumBy_take Md.szRec xs i (by omega)
    simp -dsimp only [go_sem, hk, h5, h6, hlt, e1, e2, hw]
    refine xcall_v (szRec_p _ _ hfi _ p0 q0) (by simp -dsimp only [go_sem, rl_still, e4, hk, h6]) (fun _ => trivial) fun n1 hn1 => ?_
    simp -dsimp only [go_sem, hk, h5, h6, hlt, hw]
    refine ⟨fun g0 => ?_, fun g0 => into_k (by omega) (by simp -dsimp only [go_sem, hk]) ⟨by simp -dsimp only [go_sem], by simp -dsimp only [go_sem]; rw [ht, Md.szR_add2 _ _ _ h0 h7, Nat.add_assoc], by rw [ht, ← Nat.add_assoc, ← Md.szR_add2 _ _ _ h0 h7]; exact g0⟩⟩
    refine (sz_neg _ _ _ (?_ : xs.length + Md.sumBy Md.szRec (xs.take i) + Md.szRec xs[i] ≤ _) (by rw [← Md.szR_add2 _ _ _ h0 h7]; exact g0)).symm
    have := Md.sumBy_le Md.szRec xs (i + 1)
    unfold Md.szRecs; omega
  · simp -dsimp only [go_sem, hk, h5, h6, hlt, h.lenT]
    rw [Md.sumBy_all Md.szRec xs i (by omega)]; rfl
theorem szLog_p (d : D) (x : Md.Log) (h : IsLog d x) (left : Int) (h0 : 0 ≤ left) (h1 : left ≤ 1048576) : PCall Tryz.prog 39 [d, .lit (.int .i64 left)] fun _ _ r => r = .lit (.int .i64 (Md.szR (Md.szLog x) left)) := by
  obtain ⟨f, rfl, hst, k0, k1⟩ := h
  refine pcall_intro_v Tryz.func39 rfl (by decide) rfl (by decide) (by rw [Tryz.ntmps39]; simp) fun w0 M n0 => ivc_sound ?_; simp -dsimp only [Tryz.f39, go_sem, k0.size, k0.isNode, k0.still]
  repeat' (first | refine ⟨?_, ?_⟩ | with_reducible intro _)
  refine xcall_v (szRecS_p _ _ k0 _ h0 h1) (by simp -dsimp only [go_sem, rl_still, k0.size, k0.isNode, k0.still]) (fun _ => trivial) fun n0 hn0 => ?_
  simp -dsimp only [go_sem, k0.size, k0.isNode, k0.still]
  refine ⟨fun g0 => ?_, fun g0 => ?_⟩
  · exact (sz_neg (Md.szRecs x.recs) (Md.szLog x) _ (by unfold Md.szLog; omega) g0).symm
  have G0 := g0
  obtain ⟨p0, q0⟩ := Md.szR_rg _ _ h0 h1 g0
  rfl
theorem szSeat_p (d : D) (x : Md.Seat) (h : IsSeat d x) (left : Int) (h0 : 0 ≤ left) (h1 : left ≤ 1048576) : PCall Tryz.prog 187 [d, .lit (.int .i64 left)] fun _ _ r => r = .lit (.int .i64 (Md.szR (Md.szSeat x) left)) := by
  obtain ⟨f, rfl, hst, k0, k1, k2, k3⟩ := h
  obtain ⟨a0, b0, c0, s0⟩ := shp_page _ _ k1
  refine pcall_intro_v Tryz.func187 rfl (by decide) rfl (by decide) (by rw [Tryz.ntmps187]; simp) fun w0 M n0 => ivc_sound ?_; simp -dsimp only [Tryz.f187, go_sem, a0, b0, s0]
  repeat' (first | refine ⟨?_, ?_⟩ | with_reducible intro _)
  refine xcall_v (szPage_p _ _ k1 _ h0 h1) (by simp -dsimp only [go_sem, rl_still, a0, b0, s0]) (fun _ => trivial) fun n0 hn0 => ?_
  simp -dsimp only [go_sem, a0, b0, s0]
  refine ⟨fun g0 => ?_, fun g0 => ?_⟩
  · exact (sz_neg (Md.szPage x.p) (Md.szSeat x) _ (by unfold Md.szSeat; omega) g0).symm
  have G0 := g0
  obtain ⟨p0, q0⟩ := Md.szR_rg _ _ h0 h1 g0
  rfl
theorem szSeatS_p (d : D) (xs : List Md.Seat) (h : IsL 20 IsSeat d xs) (left : Int) (h0 : 0 ≤ left) (h1 : left ≤ 1048576) : PCall Tryz.prog 112 [d, .lit (.int .i64 left)] fun _ _ r => r = .lit (.int .i64 (Md.szR (Md.szSeats xs) left)) := by
  have hw0 := wrap_sub h0 h1 h.short
  refine pcall_intro_v Tryz.func112 rfl (by decide) rfl (by decide) (by rw [Tryz.ntmps112]; simp) fun w0 M n0 => ivc_sound ?_; simp -dsimp only [Tryz.f112, go_sem, h.lenT, hw0]
  refine ⟨fun g0 => ?_, fun g0 => ?_⟩
  · unfold Md.szR Md.szSeats; rw [if_neg (by omega)]
  have e0 : left - (xs.length : Int) = Md.szR xs.length left := by unfold Md.szR; rw [if_pos (by omega)]
  rw [e0] at g0
  simp -dsimp only [go_sem, e0]
  refine iwp_forK xs.length [0] (fun i s => s 5 = .lit (.int .i64 i) ∧ s 1 = .lit (.int .i64 (Md.szR (xs.length + Md.sumBy Md.szSeat (xs.take i)) left)) ∧ ¬ Md.szR (xs.length + Md.sumBy Md.szSeat (xs.take i)) left < 0) 0 (Nat.zero_le _)
    ⟨by simp -dsimp only [go_sem]; rfl, by simp -dsimp only [go_sem]; rfl, g0⟩ ?_
  rintro i n' s hi hn hk ⟨h5, h6, h7⟩
  refine ivc_sound ?_
  simp -dsimp only [go_sem] at hk
  obtain ⟨p0, q0⟩ := Md.szR_rg _ _ h0 h1 h7
  by_cases hlt : i < xs.length
  · obtain ⟨t, zb, fi, rfl, hst, hf⟩ := h.sl hlt
    have hfi := hf i hlt
    obtain ⟨e1, e2, e3, e4⟩ := shp_seat _ _ hfi
    have hw := i64_succ (i := i) (by have := h.short; omega)
    have ht := Md.sumBy_take Md.szSeat xs i (by omega)
    simp -dsimp only [go_sem, hk, h5, h6, hlt, e1, e2, hw]
    refine xcall_v (szSeat_p _ _ hfi _ p0 q0) (by simp -dsimp only [go_sem, rl_still, e4, hk, h6]) (fun _ => trivial) fun n1 hn1 => ?_
    simp -dsimp only [go_sem, hk, h5, h6, hlt, hw]
    refine ⟨fun g0 => ?_, fun g0 => into_k (by omega) (by simp -dsimp only [go_sem, hk]) ⟨by simp -dsimp only [go_sem], by simp -dsimp only [go_sem]; rw [ht, Md.szR_add2 _ _ _ h0 h7, Nat.add_assoc], by rw [ht, ← Nat.add_assoc, ← Md.szR_add2 _ _ _ h0 h7]; exact g0⟩⟩
    refine (sz_neg _ _ _ (?_ : xs.length + Md.sumBy Md.szSeat (xs.take i) + Md.szSeat xs[i] ≤ _) (by rw [← Md.szR_add2 _ _ _ h0 h7]; exact g0)).symm
    have := Md.sumBy_le Md.szSeat xs (i + 1)
    unfold Md.szSeats; omega
  · simp -dsimp only [go_sem, hk, h5, h6, hlt, h.lenT]
    rw [Md.sumBy_all Md.szSeat xs i (by omega)]; rfl
theorem szPool_p (d : D) (x : Md.Pool) (h : IsPool d x) (left : Int) (h0 : 0 ≤ left) (h1 : left ≤ 1048576) : PCall Tryz.prog 38 [d, .lit (.int .i64 left)] fun _ _ r => r = .lit (.int .i64 (Md.szR (Md.szPool x) left)) := by
  obtain ⟨f, rfl, hst, k0, k1⟩ := h
  refine pcall_intro_v Tryz.func38 rfl (by decide) rfl (by decide) (by rw [Tryz.ntmps38]; simp) fun w0 M n0 => ivc_sound ?_; simp -dsimp only [Tryz.f38, go_sem, k0.size, k0.isNode, k0.still]
  repeat' (first | refine ⟨?_, ?_⟩ | with_reducible intro _)
  refine xcall_v (szSeatS_p _ _ k0 _ h0 h1) (by simp -dsimp only [go_sem, rl_still, k0.size, k0.isNode, k0.still]) (fun _ => trivial) fun n0 hn0 => ?_
  simp -dsimp only [go_sem, k0.size, k0.isNode, k0.still]
  refine ⟨fun g0 => ?_, fun g0 => ?_⟩
  · exact (sz_neg (Md.szSeats x.seats) (Md.szPool x) _ (by unfold Md.szPool; omega) g0).symm
  have G0 := g0
  obtain ⟨p0, q0⟩ := Md.szR_rg _ _ h0 h1 g0
  rfl
theorem szPageA8_p (d : D) (xs : List Md.Page) (h : IsA 8 17 IsPage d xs) (left : Int) (h0 : 0 ≤ left) (h1 : left ≤ 1048576) : PCall Tryz.prog 37 [d, .lit (.int .i64 left)] fun _ _ r => r = .lit (.int .i64 (Md.szR (Md.sumBy Md.szPage xs) left)) := by
  obtain ⟨hl, f, rfl, hst, hf⟩ := h
  refine pcall_intro_v Tryz.func37 rfl (by decide) rfl (by decide) (by rw [Tryz.ntmps37]; simp) fun w0 M n0 => ivc_sound ?_; simp -dsimp only [Tryz.f37, go_sem]
  repeat' (first | refine ⟨?_, ?_⟩ | with_reducible intro _)
  refine iwp_forK 8 [2] (fun i s => s 5 = .lit (.int .i64 i) ∧ s 1 = .lit (.int .i64 (Md.szR (Md.sumBy Md.szPage (xs.take i)) left)) ∧ ¬ Md.szR (Md.sumBy Md.szPage (xs.take i)) left < 0) 0 (Nat.zero_le _)
    ⟨by simp -dsimp only [go_sem]; rfl, by simp -dsimp only [go_sem]; exact (Md.szR_zero _ h0).symm, by rw [show Md.szR (Md.sumBy Md.szPage (xs.take 0)) left = left from Md.szR_zero _ h0]; omega⟩ ?_
  rintro i n' s hi hn hk ⟨h5, h6, h7⟩
  refine ivc_sound ?_
  simp -dsimp only [go_sem] at hk
  obtain ⟨p0, q0⟩ := Md.szR_rg _ _ h0 h1 h7
  by_cases hlt : i < 8
  · have hfi := hf i (by omega)
    obtain ⟨e1, e2, e3, e4⟩ := shp_page _ _ hfi
    have hw := i64_succ (i := i) (by omega)
    have ht := Md.sumBy_take Md.szPage xs i (by omega)
    have hc : (i : Int) < 8 := by omega
    simp -dsimp only [go_sem, hk, h5, h6, hc, hlt, e1, e2, hw]
    refine xcall_v (szPage_p _ _ hfi _ p0 q0) (by simp -dsimp only [go_sem, rl_still, e4, hk, h6]) (fun _ => trivial) fun n1 hn1 => ?_
    simp -dsimp only [go_sem, hk, h5, h6, hc, hlt, hw]
    refine ⟨fun g0 => ?_, fun g0 => into_k (by omega) (by simp -dsimp only [go_sem, hk]) ⟨by simp -dsimp only [go_sem], by simp -dsimp only [go_sem]; rw [ht, Md.szR_add2 _ _ _ h0 h7], by rw [ht, ← Md.szR_add2 _ _ _ h0 h7]; exact g0⟩⟩
    refine (sz_neg _ _ _ (?_ : Md.sumBy Md.szPage (xs.take i) + Md.szPage xs[i] ≤ _) (by rw [← Md.szR_add2 _ _ _ h0 h7]; exact g0)).symm
    rw [← ht]; exact Md.sumBy_le Md.szPage xs (i + 1)
  · have hc : ¬ (i : Int) < 8 := by omega
    simp -dsimp only [go_sem, hk, h5, h6, hc, hlt]
    rw [Md.sumBy_all Md.szPage xs i (by omega)]
theorem szEngine_p (d : D) (x : Md.Engine) (h : IsEngine d x) (left : Int) (h0 : 0 ≤ left) (h1 : left ≤ 1048576) : PCall Tryz.prog 11 [d, .lit (.int .i64 left)] fun _ _ r => r = .lit (.int .i64 (Md.szR (Md.szEngine x) left)) := by
  obtain ⟨f, rfl, hst, k0, k1, k2, k3, k4, k5, k6⟩ := h
  obtain ⟨a1, b1, c1, s1⟩ := shp_pool _ _ k1
  obtain ⟨a2, b2, c2, s2⟩ := shp_log _ _ k2
  refine pcall_intro_v Tryz.func11 rfl (by decide) rfl (by decide) (by rw [Tryz.ntmps11]; simp) fun w0 M n0 => ivc_sound ?_; simp -dsimp only [Tryz.f11, go_sem, k0.size, k0.isNode, k0.still, a1, b1, s1, a2, b2, s2, k3.size, k3.isNode, k3.still, k4.size, k4.isNode, k4.still]
  repeat' (first | refine ⟨?_, ?_⟩ | with_reducible intro _)
  refine xcall_v (szPageA8_p _ _ k0 _ h0 h1) (by simp -dsimp only [go_sem, rl_still, k0.size, k0.isNode, k0.still, a1, b1, s1, a2, b2, s2, k3.size, k3.isNode, k3.still, k4.size, k4.isNode, k4.still]) (fun _ => trivial) fun n0 hn0 => ?_
  simp -dsimp only [go_sem, k0.size, k0.isNode, k0.still, a1, b1, s1, a2, b2, s2, k3.size, k3.isNode, k3.still, k4.size, k4.isNode, k4.still]
  refine ⟨fun g0 => ?_, fun g0 => ?_⟩
  · exact (sz_neg (Md.sumBy Md.szPage x.disk) (Md.szEngine x) _ (by unfold Md.szEngine; omega) g0).symm
  have G0 := g0
  obtain ⟨p0, q0⟩ := Md.szR_rg _ _ h0 h1 g0
  refine xcall_v (szPool_p _ _ k1 _ p0 q0) (by simp -dsimp only [go_sem, rl_still, k0.size, k0.isNode, k0.still, a1, b1, s1, a2, b2, s2, k3.size, k3.isNode, k3.still, k4.size, k4.isNode, k4.still]) (fun _ => trivial) fun n1 hn1 => ?_
  simp -dsimp only [go_sem, k0.size, k0.isNode, k0.still, a1, b1, s1, a2, b2, s2, k3.size, k3.isNode, k3.still, k4.size, k4.isNode, k4.still]
  refine ⟨fun g1 => ?_, fun g1 => ?_⟩
  · exact (sz_neg (Md.sumBy Md.szPage x.disk + Md.szPool x.pool) (Md.szEngine x) _ (by unfold Md.szEngine; omega) (by rw [Md.szR_add2 _ _ _ h0 G0] at g1; exact g1)).symm
  have G1 : ¬ Md.szR (Md.sumBy Md.szPage x.disk + Md.szPool x.pool) left < 0 := by rw [Md.szR_add2 _ _ _ h0 G0] at g1; exact g1
  obtain ⟨p1, q1⟩ := Md.szR_rg _ _ p0 q0 g1
  refine xcall_v (szLog_p _ _ k2 _ p1 q1) (by simp -dsimp only [go_sem, rl_still, k0.size, k0.isNode, k0.still, a1, b1, s1, a2, b2, s2, k3.size, k3.isNode, k3.still, k4.size, k4.isNode, k4.still]) (fun _ => trivial) fun n2 hn2 => ?_
  simp -dsimp only [go_sem, k0.size, k0.isNode, k0.still, a1, b1, s1, a2, b2, s2, k3.size, k3.isNode, k3.still, k4.size, k4.isNode, k4.still]
  refine ⟨fun g2 => ?_, fun g2 => ?_⟩
  · exact (sz_neg (Md.sumBy Md.szPage x.disk + Md.szPool x.pool + Md.szLog x.log) (Md.szEngine x) _ (by unfold Md.szEngine; omega) (by rw [Md.szR_add2 _ _ _ h0 G0, Md.szR_add2 _ _ _ h0 G1] at g2; exact g2)).symm
  have G2 : ¬ Md.szR (Md.sumBy Md.szPage x.disk + Md.szPool x.pool + Md.szLog x.log) left < 0 := by rw [Md.szR_add2 _ _ _ h0 G0, Md.szR_add2 _ _ _ h0 G1] at g2; exact g2
  obtain ⟨p2, q2⟩ := Md.szR_rg _ _ p1 q1 g2
  refine xcall_v (szLiveS_p _ _ k3 _ p2 q2) (by simp -dsimp only [go_sem, rl_still, k0.size, k0.isNode, k0.still, a1, b1, s1, a2, b2, s2, k3.size, k3.isNode, k3.still, k4.size, k4.isNode, k4.still]) (fun _ => trivial) fun n3 hn3 => ?_
  simp -dsimp only [go_sem, k0.size, k0.isNode, k0.still, a1, b1, s1, a2, b2, s2, k3.size, k3.isNode, k3.still, k4.size, k4.isNode, k4.still]
  refine ⟨fun g3 => ?_, fun g3 => ?_⟩
  · exact (sz_neg (Md.sumBy Md.szPage x.disk + Md.szPool x.pool + Md.szLog x.log + x.txs.length) (Md.szEngine x) _ (by unfold Md.szEngine; omega) (by rw [Md.szR_add2 _ _ _ h0 G0, Md.szR_add2 _ _ _ h0 G1, Md.szR_add2 _ _ _ h0 G2] at g3; exact g3)).symm
  have G3 : ¬ Md.szR (Md.sumBy Md.szPage x.disk + Md.szPool x.pool + Md.szLog x.log + x.txs.length) left < 0 := by rw [Md.szR_add2 _ _ _ h0 G0, Md.szR_add2 _ _ _ h0 G1, Md.szR_add2 _ _ _ h0 G2] at g3; exact g3
  obtain ⟨p3, q3⟩ := Md.szR_rg _ _ p2 q2 g3
  refine xcall_v (szHoldS_p _ _ k4 _ p3 q3) (by simp -dsimp only [go_sem, rl_still, k0.size, k0.isNode, k0.still, a1, b1, s1, a2, b2, s2, k3.size, k3.isNode, k3.still, k4.size, k4.isNode, k4.still]) (fun _ => trivial) fun n4 hn4 => ?_
  simp -dsimp only [go_sem, k0.size, k0.isNode, k0.still, a1, b1, s1, a2, b2, s2, k3.size, k3.isNode, k3.still, k4.size, k4.isNode, k4.still]
  refine ⟨fun g4 => ?_, fun g4 => ?_⟩
  · exact (sz_neg (Md.sumBy Md.szPage x.disk + Md.szPool x.pool + Md.szLog x.log + x.txs.length + x.holds.length) (Md.szEngine x) _ (by unfold Md.szEngine; omega) (by rw [Md.szR_add2 _ _ _ h0 G0, Md.szR_add2 _ _ _ h0 G1, Md.szR_add2 _ _ _ h0 G2, Md.szR_add2 _ _ _ h0 G3] at g4; exact g4)).symm
  have G4 : ¬ Md.szR (Md.sumBy Md.szPage x.disk + Md.szPool x.pool + Md.szLog x.log + x.txs.length + x.holds.length) left < 0 := by rw [Md.szR_add2 _ _ _ h0 G0, Md.szR_add2 _ _ _ h0 G1, Md.szR_add2 _ _ _ h0 G2, Md.szR_add2 _ _ _ h0 G3] at g4; exact g4
  obtain ⟨p4, q4⟩ := Md.szR_rg _ _ p3 q3 g4
  rw [Md.szR_add2 _ _ _ h0 G0, Md.szR_add2 _ _ _ h0 G1, Md.szR_add2 _ _ _ h0 G2, Md.szR_add2 _ _ _ h0 G3]; rfl
theorem toIntS_p (d : D) (xs : List Int) (h : IsL 1 IsInt d xs) (hs : xs.length ≤ 1048576) : PCall Tryz.prog 126 [d] fun n0 n1 r => IsL 1 IsInt r xs ∧ Own n0 n1 r := by
  refine pcall_intro Tryz.func126 rfl (by decide) rfl (by decide) (by rw [Tryz.ntmps126]; simp) fun w0 M n0 hW => ivc_sound ?_; simp -dsimp only [Tryz.f126, go_sem, h.lenT]
  refine ⟨by omega, by omega, fun g b hb => ?_⟩
  refine iwp_forR xs.length [0, 2, 3] (fun i n' s R => s 4 = .lit (.int .i64 i) ∧ ∃ f, R = upd (fun _ => none) 7 (some (g, b, .node (.arr xs.length 1) f)) ∧ Fill IsInt 1 n0 n' xs xs.length i f) 0 (Nat.zero_le _)
    ⟨by simp -dsimp only [go_sem]; rfl, _, rfl, Fill.start (fun _ => trivial) fun _ _ => ⟨trivial, rfl⟩⟩ ?_
  rintro i n' s R hi hn hk ⟨h4, f, rfl, hf⟩
  refine ivc_sound ?_
  simp -dsimp only [go_sem] at hk
  by_cases hlt : i < xs.length
  · obtain ⟨t, zb, fi, rfl, hst', hf'⟩ := h.sl hlt
    have hfi : fi i = _ := hf' i hlt
    have hw := i64_succ (i := i) (by omega)
    have q1 := (hf.sh i hlt).1
    have q2 := (hf.sh i hlt).2
    simp -dsimp only [go_sem, hk, h4, hlt, hfi, hw, q1, q2]
    exact into_r (by omega) (by simp -dsimp only [go_sem, hk]) ⟨by simp -dsimp only [go_sem], _, rfl, hf.step shp_int hlt rfl (own_lit n' n' _) (by omega) (by omega) (by omega) (by omega)⟩
  · simp -dsimp only [go_sem, hk, h4, hlt, h.lenT]
    intro n1 hn1 hfc
    rw [rls_still hf.st]
    exact hf.isL hlt (by omega) hb hfc.here.1 hn1 hfc.here.2
theorem toObj_p (d : D) (x : Md.Obj) (h : IsObj d x) (hs : Md.szObj x ≤ 1048576) : PCall Tryz.prog 55 [d] fun n0 n1 r => IsObj r x ∧ Own n0 n1 r := by
  obtain ⟨f, rfl, hst, k0, k1, k2⟩ := h
  have k0 : f 0 = _ := k0
  unfold Md.szObj at hs
  refine pcall_intro Tryz.func55 rfl (by decide) rfl (by decide) (by rw [Tryz.ntmps55]; simp) fun w0 M n0 hW => ivc_sound ?_; simp -dsimp only [Tryz.f55, go_sem, k0, k1.size, k1.isNode, k1.plain, k1.still, k2.size, k2.isNode, k2.plain, k2.still]
  intro g1 b1 hb1 g2 b2 hb2 g3 b3 hb3
  refine xcall_p (toIntS_p _ _ k1 (by omega)) (by simp -dsimp only [go_sem, rl_still, k0, k1.size, k1.isNode, k1.plain, k1.still, k2.size, k2.isNode, k2.plain, k2.still]) fun m0 p0 r0 hm0 hp0 hr0 => ?_
  have ho0 := hr0.2
  have hq0 := hr0.1
  have v0 := hq0.still
  refine ⟨ho0.tags, ?_⟩
  simp -dsimp only [go_sem, k0, k1.size, k1.isNode, k1.plain, k1.still, k2.size, k2.isNode, k2.plain, k2.still, hq0.size, hq0.isNode, hq0.plain]
  refine xcall_p (toIntS_p _ _ k2 (by omega)) (by simp -dsimp only [go_sem, rl_still, k0, k1.size, k1.isNode, k1.plain, k1.still, k2.size, k2.isNode, k2.plain, k2.still]) fun m1 p1 r1 hm1 hp1 hr1 => ?_
  have ho1 := hr1.2
  have hq1 := hr1.1
  have v1 := hq1.still
  refine ⟨ho1.tags, ?_⟩
  simp -dsimp only [go_sem, k0, k1.size, k1.isNode, k1.plain, k1.still, k2.size, k2.isNode, k2.plain, k2.still, hq0.size, hq0.isNode, hq0.plain, hq1.size, hq1.isNode, hq1.plain]
  intro n1 hn1 hfc
  refine fin_node (Q := fun r => IsObj r x ∧ Own n0 n1 r) (still_upd (still_upd (still_upd (stN (by simp only [stillL_nil, stillL_cons, still_lit, still_nil, still_any, still_nodeN, still_nodeC, and_self])) trivial) v0) v1) fun hst => ?_
  refine ⟨⟨_, rfl, hst, by simp -dsimp only [go_sem, IsInt, IsBool, IsByte], by simp -dsimp only [go_sem]; exact hq0, by simp -dsimp only [go_sem]; exact hq1⟩, own_node ?_⟩
  exact OwnN.mono (hi := p1) (ownN_snoc_own (mid := p0) (hi := p1) (ownN_snoc_own (mid := n0) (hi := p0) (ownN_snoc_lit (ownN_zero n0 n0 _) (by simp -dsimp only [go_sem]; rfl)) (by simp -dsimp only [go_sem]; exact ho0) (by omega) (by omega) (by omega) (by omega)) (by simp -dsimp only [go_sem]; exact ho1) (by omega) (by omega) (by omega) (by omega)) (Nat.le_refl _) (by omega)
theorem toSlot_p (d : D) (x : Md.Slot) (h : IsSlot d x) (hs : Md.szSlot x ≤ 1048576) : PCall Tryz.prog 15 [d] fun n0 n1 r => IsSlot r x ∧ Own n0 n1 r := by
  obtain ⟨f, rfl, hst, k0, k1⟩ := h
  have k0 : f 0 = _ := k0
  obtain ⟨sa1, sb1, sc1, sd1⟩ := shp_obj _ _ k1
  unfold Md.szSlot at hs
  refine pcall_intro Tryz.func15 rfl (by decide) rfl (by decide) (by rw [Tryz.ntmps15]; simp) fun w0 M n0 hW => ivc_sound ?_; simp -dsimp only [Tryz.f15, go_sem, k0, sa1, sb1, sd1]
  intro g1 b1 hb1 g2 b2 hb2 g3 b3 hb3
  refine xcall_p (toObj_p _ _ k1 (by omega)) (by simp -dsimp only [go_sem, rl_still, k0, sa1, sb1, sd1]) fun m0 p0 r0 hm0 hp0 hr0 => ?_
  have ho0 := hr0.2
  have hq0 := hr0.1
  have q0 := shp_obj _ _ hq0
  have x0 := q0.1
  have y0 := q0.2.1
  have z0 := q0.2.2.1
  have v0 := q0.2.2.2
  refine ⟨ho0.tags, ?_⟩
  simp -dsimp only [go_sem, k0, sa1, sb1, sd1, x0, y0, z0]
  intro n1 hn1 hfc
  refine fin_node (Q := fun r => IsSlot r x ∧ Own n0 n1 r) (still_upd (still_upd (stN (by simp only [stillL_nil, stillL_cons, still_lit, still_nil, still_any, still_nodeN, still_nodeC, and_self])) trivial) v0) fun hst => ?_
  refine ⟨⟨_, rfl, hst, by simp -dsimp only [go_sem, IsInt, IsBool, IsByte], by simp -dsimp only [go_sem]; exact hq0⟩, own_node ?_⟩
  exact OwnN.mono (hi := p0) (ownN_snoc_own (mid := n0) (hi := p0) (ownN_snoc_lit (ownN_zero n0 n0 _) (by simp -dsimp only [go_sem]; rfl)) (by simp -dsimp only [go_sem]; exact ho0) (by omega) (by omega) (by omega) (by omega)) (Nat.le_refl _) (by omega)
theorem toSlotA4_p (d : D) (xs : List Md.Slot) (h : IsA 4 4 IsSlot d xs) (hs : Md.sumBy Md.szSlot xs ≤ 1048576) : PCall Tryz.prog 191 [d] fun n0 n1 r => IsA 4 4 IsSlot r xs ∧ Own n0 n1 r := by
  obtain ⟨hl, fi, rfl, hst, hf'⟩ := h
  refine pcall_intro Tryz.func191 rfl (by decide) rfl (by decide) (by rw [Tryz.ntmps191]; simp) fun w0 M n0 hW => ivc_sound ?_; simp -dsimp only [Tryz.f191, go_sem]
  intro g1 b1 hb1 g2 b2 hb2 g3 b3 hb3
  refine iwp_forR 4 [1, 2, 3] (fun i n' s R => s 4 = .lit (.int .i64 i) ∧ ∃ f, R = upd (upd (upd (fun _ => none) 1 (some (g1, b1, .node (.arr 4 4) fi))) 2 (some (g2, b2, zd Tryz.prog 46))) 3 (some (g3, b3, .node (.arr 4 4) f)) ∧ Fill IsSlot 4 n0 n' xs 4 i f) 0 (Nat.zero_le _)
    ⟨by simp -dsimp only [go_sem]; rfl, _, by simp -dsimp only [go_sem]; rfl, Fill.start (fun j => by simp only [stillL_nil, stillL_cons, still_lit, still_nil, still_any, still_nodeN, still_nodeC, and_self]) fun _ _ => ⟨by trivial, by rfl⟩⟩ ?_
  rintro i n' s R hi hn hk ⟨h4, f, rfl, hf⟩
  refine ivc_sound ?_
  simp -dsimp only [go_sem] at hk
  by_cases hlt : i < 4
  · have hc : (i : Int) < 4 := by omega
    have hlt' : i < xs.length := by omega
    have hfi := hf' i hlt'
    have eq := shp_slot _ _ hfi
    have e1 := eq.1
    have e2 := eq.2.1
    have e4 := eq.2.2.2
    have hw := i64_succ (i := i) (by omega)
    have q1 := (hf.sh i hlt).1
    have q2 := (hf.sh i hlt).2
    simp -dsimp only [go_sem, hk, h4, hlt, hc, hw, q1, q2, e1, e2]
    refine xcall_p (toSlot_p _ _ hfi (by have := Md.sumBy_mem Md.szSlot xs _ (List.getElem_mem hlt'); omega)) (by simp -dsimp only [go_sem, rl_still, e4]) fun m0 m1 r hm0 hm1 hr => ?_
    have hr1 := hr.1
    have hr2 := hr.2
    have rq := shp_slot _ _ hr1
    have r1 := rq.1
    have r2 := rq.2.1
    have r3 := rq.2.2.1
    refine ⟨hr2.tags, ?_⟩
    simp -dsimp only [go_sem, hk, h4, hlt, hc, hw, q1, q2, r1, r2, r3, e1, e2]
    exact into_r (by omega) (by simp -dsimp only [go_sem, hk]) ⟨by simp -dsimp only [go_sem], _, by simp -dsimp only [go_sem], hf.step shp_slot hlt' hr1 hr2 (by omega) (by omega) (by omega) (by omega)⟩
  · have hc : ¬ (i : Int) < 4 := by omega
    simp -dsimp only [go_sem, hk, h4, hlt, hc]
    intro n1 hn1 hfc
    rw [rlnode_still hf.st]
    have := hf.isA hl hlt
    exact ⟨this.1, this.2.mono (Nat.le_refl _) (by omega)⟩
theorem toPage_p (d : D) (x : Md.Page) (h : IsPage d x) (hs : Md.szPage x ≤ 1048576) : PCall Tryz.prog 121 [d] fun n0 n1 r => IsPage r x ∧ Own n0 n1 r := by
  obtain ⟨f, rfl, hst, k0, k1⟩ := h
  have k0 : f 0 = _ := k0
  unfold Md.szPage at hs
  refine pcall_intro Tryz.func121 rfl (by decide) rfl (by decide) (by rw [Tryz.ntmps121]; simp) fun w0 M n0 hW => ivc_sound ?_; simp -dsimp only [Tryz.f121, go_sem, k0, k1.size, k1.isNode, k1.plain, k1.still]
  intro g1 b1 hb1 g2 b2 hb2 g3 b3 hb3
  refine xcall_p (toSlotA4_p _ _ k1 (by omega)) (by simp -dsimp only [go_sem, rl_still, k0, k1.size, k1.isNode, k1.plain, k1.still]) fun m0 p0 r0 hm0 hp0 hr0 => ?_
  have ho0 := hr0.2
  have hq0 := hr0.1
  have v0 := hq0.still
  refine ⟨ho0.tags, ?_⟩
  simp -dsimp only [go_sem, k0, k1.size, k1.isNode, k1.plain, k1.still, hq0.size, hq0.isNode, hq0.plain]
  intro n1 hn1 hfc
  refine fin_node (Q := fun r => IsPage r x ∧ Own n0 n1 r) (still_upd (still_upd (stN (by simp only [stillL_nil, stillL_cons, still_lit, still_nil, still_any, still_nodeN, still_nodeC, and_self])) trivial) v0) fun hst => ?_
  refine ⟨⟨_, rfl, hst, by simp -dsimp only [go_sem, IsInt, IsBool, IsByte], by simp -dsimp only [go_sem]; exact hq0⟩, own_node ?_⟩
  exact OwnN.mono (hi := p0) (ownN_snoc_own (mid := n0) (hi := p0) (ownN_snoc_lit (ownN_zero n0 n0 _) (by simp -dsimp only [go_sem]; rfl)) (by simp -dsimp only [go_sem]; exact ho0) (by omega) (by omega) (by omega) (by omega)) (Nat.le_refl _) (by omega)
theorem toLive_p (d : D) (x : Md.Live) (h : IsLive d x) : PCall Tryz.prog 124 [d] fun n0 n1 r => IsLive r x ∧ Own n0 n1 r := by
  obtain ⟨f, rfl, hst, k0, k1, k2⟩ := h
  have k0 : f 0 = _ := k0
  have k1 : f 1 = _ := k1
  have k2 : f 2 = _ := k2
  refine pcall_intro Tryz.func124 rfl (by decide) rfl (by decide) (by rw [Tryz.ntmps124]; simp) fun w0 M n0 hW => ivc_sound ?_; simp -dsimp only [Tryz.f124, go_sem, k0, k1, k2]
  intro g1 b1 hb1 g2 b2 hb2 g3 b3 hb3
  intro n1 hn1 hfc
  refine fin_node (Q := fun r => IsLive r x ∧ Own n0 n1 r) (still_upd (still_upd (still_upd (stN (by simp only [stillL_nil, stillL_cons, still_lit, still_nil, still_any, still_nodeN, still_nodeC, and_self])) trivial) trivial) trivial) fun hst => ?_
  refine ⟨⟨_, rfl, hst, by simp -dsimp only [go_sem, IsInt, IsBool, IsByte], by simp -dsimp only [go_sem, IsInt, IsBool, IsByte], by simp -dsimp only [go_sem, IsInt, IsBool, IsByte]⟩, own_node ?_⟩
  exact OwnN.mono (hi := n0) (ownN_snoc_lit (ownN_snoc_lit (ownN_snoc_lit (ownN_zero n0 n0 _) (by simp -dsimp only [go_sem]; rfl)) (by simp -dsimp only [go_sem]; rfl)) (by simp -dsimp only [go_sem]; rfl)) (Nat.le_refl _) (by omega)
theorem toLiveS_p (d : D) (xs : List Md.Live) (h : IsL 3 IsLive d xs) (hs : xs.length ≤ 1048576) : PCall Tryz.prog 53 [d] fun n0 n1 r => IsL 3 IsLive r xs ∧ Own n0 n1 r := by
  have hs' : xs.length ≤ 1048576 := by omega
  refine pcall_intro Tryz.func53 rfl (by decide) rfl (by decide) (by rw [Tryz.ntmps53]; simp) fun w0 M n0 hW => ivc_sound ?_; simp -dsimp only [Tryz.f53, go_sem, h.lenT]
  refine ⟨by omega, by omega, fun g b hb => ?_⟩
  refine iwp_forR xs.length [0, 2, 3] (fun i n' s R => s 4 = .lit (.int .i64 i) ∧ ∃ f, R = upd (fun _ => none) 7 (some (g, b, .node (.arr xs.length 3) f)) ∧ Fill IsLive 3 n0 n' xs xs.length i f) 0 (Nat.zero_le _)
    ⟨by simp -dsimp only [go_sem]; rfl, _, rfl, Fill.start (fun j => by simp only [stillL_nil, stillL_cons, still_lit, still_nil, still_any, still_nodeN, still_nodeC, and_self]) fun _ _ => ⟨trivial, rfl⟩⟩ ?_
  rintro i n' s R hi hn hk ⟨h4, f, rfl, hf⟩
  refine ivc_sound ?_
  simp -dsimp only [go_sem] at hk
  by_cases hlt : i < xs.length
  · obtain ⟨t, zb, fi, rfl, hst', hf'⟩ := h.sl hlt
    have hfi := hf' i hlt
    have eq := shp_live _ _ hfi
    have e1 := eq.1
    have e2 := eq.2.1
    have e4 := eq.2.2.2
    have hw := i64_succ (i := i) (by omega)
    have q1 := (hf.sh i hlt).1
    have q2 := (hf.sh i hlt).2
    simp -dsimp only [go_sem, hk, h4, hlt, hw, q1, q2, e1, e2]
    refine xcall_p (toLive_p _ _ hfi) (by simp -dsimp only [go_sem, rl_still, e4]) fun m0 m1 r hm0 hm1 hr => ?_
    have hr1 := hr.1
    have hr2 := hr.2
    have rq := shp_live _ _ hr1
    have r1 := rq.1
    have r2 := rq.2.1
    have r3 := rq.2.2.1
    refine ⟨hr2.tags, ?_⟩
    simp -dsimp only [go_sem, hk, h4, hlt, hw, q1, q2, r1, r2, r3, e1, e2]
    exact into_r (by omega) (by simp -dsimp only [go_sem, hk]) ⟨by simp -dsimp only [go_sem], _, rfl, hf.step shp_live hlt hr1 hr2 (by omega) (by omega) (by omega) (by omega)⟩
  · simp -dsimp only [go_sem, hk, h4, hlt, h.lenT]
    intro n1 hn1 hfc
    rw [rls_still hf.st]
    exact hf.isL hlt (by omega) hb hfc.here.1 hn1 hfc.here.2
theorem toRec_p (d : D) (x : Md.Rec) (h : IsRec d x) (hs : Md.szRec x ≤ 1048576) : PCall Tryz.prog 193 [d] fun n0 n1 r => IsRec r x ∧ Own n0 n1 r := by
  obtain ⟨f, rfl, hst, k0, k1, k2, k3, k4, k5, k6, k7, k8⟩ := h
  have k0 : f 0 = _ := k0
  have k1 : f 1 = _ := k1
  have k2 : f 2 = _ := k2
  have k3 : f 3 = _ := k3
  have k4 : f 4 = _ := k4
  obtain ⟨sa5, sb5, sc5, sd5⟩ := shp_slot _ _ k5
  obtain ⟨sa6, sb6, sc6, sd6⟩ := shp_slot _ _ k6
  have k7 : f 7 = _ := k7
  unfold Md.szRec at hs
  refine pcall_intro Tryz.func193 rfl (by decide) rfl (by decide) (by rw [Tryz.ntmps193]; simp) fun w0 M n0 hW => ivc_sound ?_; simp -dsimp only [Tryz.f193, go_sem, k0, k1, k2, k3, k4, sa5, sb5, sd5, sa6, sb6, sd6, k7, k8.size, k8.isNode, k8.plain, k8.still]
  intro g1 b1 hb1 g2 b2 hb2 g3 b3 hb3
  refine xcall_p (toSlot_p _ _ k5 (by omega)) (by simp -dsimp only [go_sem, rl_still, k0, k1, k2, k3, k4, sa5, sb5, sd5, sa6, sb6, sd6, k7, k8.size, k8.isNode, k8.plain, k8.still]) fun m0 p0 r0 hm0 hp0 hr0 => ?_
  have ho0 := hr0.2
  have hq0 := hr0.1
  have q0 := shp_slot _ _ hq0
  have x0 := q0.1
  have y0 := q0.2.1
  have z0 := q0.2.2.1
  have v0 := q0.2.2.2
  refine ⟨ho0.tags, ?_⟩
  simp -dsimp only [go_sem, k0, k1, k2, k3, k4, sa5, sb5, sd5, sa6, sb6, sd6, k7, k8.size, k8.isNode, k8.plain, k8.still, x0, y0, z0]
  refine xcall_p (toSlot_p _ _ k6 (by omega)) (by simp -dsimp only [go_sem, rl_still, k0, k1, k2, k3, k4, sa5, sb5, sd5, sa6, sb6, sd6, k7, k8.size, k8.isNode, k8.plain, k8.still]) fun m1 p1 r1 hm1 hp1 hr1 => ?_
  have ho1 := hr1.2
  have hq1 := hr1.1
  have q1 := shp_slot _ _ hq1
  have x1 := q1.1
  have y1 := q1.2.1
  have z1 := q1.2.2.1
  have v1 := q1.2.2.2
  refine ⟨ho1.tags, ?_⟩
  simp -dsimp only [go_sem, k0, k1, k2, k3, k4, sa5, sb5, sd5, sa6, sb6, sd6, k7, k8.size, k8.isNode, k8.plain, k8.still, x0, y0, z0, x1, y1, z1]
  refine xcall_p (toLiveS_p _ _ k8 (by omega)) (by simp -dsimp only [go_sem, rl_still, k0, k1, k2, k3, k4, sa5, sb5, sd5, sa6, sb6, sd6, k7, k8.size, k8.isNode, k8.plain, k8.still]) fun m2 p2 r2 hm2 hp2 hr2 => ?_
  have ho2 := hr2.2
  have hq2 := hr2.1
  have v2 := hq2.still
  refine ⟨ho2.tags, ?_⟩
  simp -dsimp only [go_sem, k0, k1, k2, k3, k4, sa5, sb5, sd5, sa6, sb6, sd6, k7, k8.size, k8.isNode, k8.plain, k8.still, x0, y0, z0, x1, y1, z1, hq2.size, hq2.isNode, hq2.plain]
  intro n1 hn1 hfc
  refine fin_node (Q := fun r => IsRec r x ∧ Own n0 n1 r) (still_upd (still_upd (still_upd (still_upd (still_upd (still_upd (still_upd (still_upd (still_upd (stN (by simp only [stillL_nil, stillL_cons, still_lit, still_nil, still_any, still_nodeN, still_nodeC, and_self])) trivial) trivial) trivial) trivial) trivial) v0) v1) trivial) v2) fun hst => ?_
  refine ⟨⟨_, rfl, hst, by simp -dsimp only [go_sem, IsInt, IsBool, IsByte], by simp -dsimp only [go_sem, IsInt, IsBool, IsByte], by simp -dsimp only [go_sem, IsInt, IsBool, IsByte], by simp -dsimp only [go_sem, IsInt, IsBool, IsByte], by simp -dsimp only [go_sem, IsInt, IsBool, IsByte], by simp -dsimp only [go_sem]; exact hq0, by simp -dsimp only [go_sem]; exact hq1, by simp -dsimp only [go_sem, IsInt, IsBool, IsByte], by simp -dsimp only [go_sem]; exact hq2⟩, own_node ?_⟩
  exact OwnN.mono (hi := p2) (ownN_snoc_own (mid := p1) (hi := p2) (ownN_snoc_lit (ownN_snoc_own (mid := p0) (hi := p1) (ownN_snoc_own (mid := n0) (hi := p0) (ownN_snoc_lit (ownN_snoc_lit (ownN_snoc_lit (ownN_snoc_lit (ownN_snoc_lit (ownN_zero n0 n0 _) (by simp -dsimp only [go_sem]; rfl)) (by simp -dsimp only [go_sem]; rfl)) (by simp -dsimp only [go_sem]; rfl)) (by simp -dsimp only [go_sem]; rfl)) (by simp -dsimp only [go_sem]; rfl)) (by simp -dsimp only [go_sem]; exact ho0) (by omega) (by omega) (by omega) (by omega)) (by simp -dsimp only [go_sem]; exact ho1) (by omega) (by omega) (by omega) (by omega)) (by simp -dsimp only [go_sem]; rfl)) (by simp -dsimp only [go_sem]; exact ho2) (by omega) (by omega) (by omega) (by omega)) (Nat.le_refl _) (by omega)
theorem toRecS_p (d : D) (xs : List Md.Rec) (h : IsL 15 IsRec d xs) (hs : Md.szRecs xs ≤ 1048576) : PCall Tryz.prog 123 [d] fun n0 n1 r => IsL 15 IsRec r xs ∧ Own n0 n1 r := by
  have hs' : xs.length ≤ 1048576 := by unfold Md.szRecs at hs; omega
  refine pcall_intro Tryz.func123 rfl (by decide) rfl (by decide) (by rw [Tryz.ntmps123]; simp) fun w0 M n0 hW => ivc_sound ?_; simp -dsimp only [Tryz.f123, go_sem, h.lenT]
  refine ⟨by omega, by omega, fun g b hb => ?_⟩
  refine iwp_forR xs.length [0, 2, 3] (fun i n' s R => s 4 = .lit (.int .i64 i) ∧ ∃ f, R = upd (fun _ => none) 7 (some (g, b, .node (.arr xs.length 15) f)) ∧ Fill IsRec 15 n0 n' xs xs.length i f) 0 (Nat.zero_le _)
    ⟨by simp -dsimp only [go_sem]; rfl, _, rfl, Fill.start (fun j => by simp only [stillL_nil, stillL_cons, still_lit, still_nil, still_any, still_nodeN, still_nodeC, and_self]) fun _ _ => ⟨trivial, rfl⟩⟩ ?_
  rintro i n' s R hi hn hk ⟨h4, f, rfl, hf⟩
  refine ivc_sound ?_
  simp -dsimp only [go_sem] at hk
  by_cases hlt : i < xs.length
  · obtain ⟨t, zb, fi, rfl, hst', hf'⟩ := h.sl hlt
    have hfi := hf' i hlt
    have eq := shp_rec _ _ hfi
    have e1 := eq.1
    have e2 := eq.2.1
    have e4 := eq.2.2.2
    have hw := i64_succ (i := i) (by omega)
    have q1 := (hf.sh i hlt).1
    have q2 := (hf.sh i hlt).2
    simp -dsimp only [go_sem, hk, h4, hlt, hw, q1, q2, e1, e2]
    refine xcall_p (toRec_p _ _ hfi (by have := Md.sumBy_mem Md.szRec xs _ (List.getElem_mem hlt); unfold Md.szRecs at hs; omega)) (by simp -dsimp only [go_sem, rl_still, e4]) fun m0 m1 r hm0 hm1 hr => ?_
    have hr1 := hr.1
    have hr2 := hr.2
    have rq := shp_rec _ _ hr1
    have r1 := rq.1
    have r2 := rq.2.1
    have r3 := rq.2.2.1
    refine ⟨hr2.tags, ?_⟩
    simp -dsimp only [go_sem, hk, h4, hlt, hw, q1, q2, r1, r2, r3, e1, e2]
    exact into_r (by omega) (by simp -dsimp only [go_sem, hk]) ⟨by simp -dsimp only [go_sem], _, rfl, hf.step shp_rec hlt hr1 hr2 (by omega) (by omega) (by omega) (by omega)⟩
  · simp -dsimp only [go_sem, hk, h4, hlt, h.lenT]
    intro n1 hn1 hfc
    rw [rls_still hf.st]
    exact hf.isL hlt (by omega) hb hfc.here.1 hn1 hfc.here.2
theorem toLog_p (d : D) (x : Md.Log) (h : IsLog d x) (hs : Md.szLog x ≤ 1048576) : PCall Tryz.prog 52 [d] fun n0 n1 r => IsLog r x ∧ Own n0 n1 r := by
  obtain ⟨f, rfl, hst, k0, k1⟩ := h
  have k1 : f 1 = _ := k1
  unfold Md.szLog at hs
  refine pcall_intro Tryz.func52 rfl (by decide) rfl (by decide) (by rw [Tryz.ntmps52]; simp) fun w0 M n0 hW => ivc_sound ?_; simp -dsimp only [Tryz.f52, go_sem, k0.size, k0.isNode, k0.plain, k0.still, k1]
  intro g1 b1 hb1 g2 b2 hb2 g3 b3 hb3
  refine xcall_p (toRecS_p _ _ k0 (by omega)) (by simp -dsimp only [go_sem, rl_still, k0.size, k0.isNode, k0.plain, k0.still, k1]) fun m0 p0 r0 hm0 hp0 hr0 => ?_
  have ho0 := hr0.2
  have hq0 := hr0.1
  have v0 := hq0.still
  refine ⟨ho0.tags, ?_⟩
  simp -dsimp only [go_sem, k0.size, k0.isNode, k0.plain, k0.still, k1, hq0.size, hq0.isNode, hq0.plain]
  intro n1 hn1 hfc
  refine fin_node (Q := fun r => IsLog r x ∧ Own n0 n1 r) (still_upd (still_upd (stN (by simp only [stillL_nil, stillL_cons, still_lit, still_nil, still_any, still_nodeN, still_nodeC, and_self])) v0) trivial) fun hst => ?_
  refine ⟨⟨_, rfl, hst, by simp -dsimp only [go_sem]; exact hq0, by simp -dsimp only [go_sem, IsInt, IsBool, IsByte]⟩, own_node ?_⟩
  exact OwnN.mono (hi := p0) (ownN_snoc_lit (ownN_snoc_own (mid := n0) (hi := p0) (ownN_zero n0 n0 _) (by simp -dsimp only [go_sem]; exact ho0) (by omega) (by omega) (by omega) (by omega)) (by simp -dsimp only [go_sem]; rfl)) (Nat.le_refl _) (by omega)
theorem toSeat_p (d : D) (x : Md.Seat) (h : IsSeat d x) (hs : Md.szSeat x ≤ 1048576) : PCall Tryz.prog 192 [d] fun n0 n1 r => IsSeat r x ∧ Own n0 n1 r := by
  obtain ⟨f, rfl, hst, k0, k1, k2, k3⟩ := h
  have k0 : f 0 = _ := k0
  obtain ⟨sa1, sb1, sc1, sd1⟩ := shp_page _ _ k1
  have k2 : f 2 = _ := k2
  have k3 : f 3 = _ := k3
  unfold Md.szSeat at hs
  refine pcall_intro Tryz.func192 rfl (by decide) rfl (by decide) (by rw [Tryz.ntmps192]; simp) fun w0 M n0 hW => ivc_sound ?_; simp -dsimp only [Tryz.f192, go_sem, k0, sa1, sb1, sd1, k2, k3]
  intro g1 b1 hb1 g2 b2 hb2 g3 b3 hb3
  refine xcall_p (toPage_p _ _ k1 (by omega)) (by simp -dsimp only [go_sem, rl_still, k0, sa1, sb1, sd1, k2, k3]) fun m0 p0 r0 hm0 hp0 hr0 => ?_
  have ho0 := hr0.2
  have hq0 := hr0.1
  have q0 := shp_page _ _ hq0
  have x0 := q0.1
  have y0 := q0.2.1
  have z0 := q0.2.2.1
  have v0 := q0.2.2.2
  refine ⟨ho0.tags, ?_⟩
  simp -dsimp only [go_sem, k0, sa1, sb1, sd1, k2, k3, x0, y0, z0]
  intro n1 hn1 hfc
  refine fin_node (Q := fun r => IsSeat r x ∧ Own n0 n1 r) (still_upd (still_upd (still_upd (still_upd (stN (by simp only [stillL_nil, stillL_cons, still_lit, still_nil, still_any, still_nodeN, still_nodeC, and_self])) trivial) v0) trivial) trivial) fun hst => ?_
  refine ⟨⟨_, rfl, hst, by simp -dsimp only [go_sem, IsInt, IsBool, IsByte], by simp -dsimp only [go_sem]; exact hq0, by simp -dsimp only [go_sem, IsInt, IsBool, IsByte], by simp -dsimp only [go_sem, IsInt, IsBool, IsByte]⟩, own_node ?_⟩
  exact OwnN.mono (hi := p0) (ownN_snoc_lit (ownN_snoc_lit (ownN_snoc_own (mid := n0) (hi := p0) (ownN_snoc_lit (ownN_zero n0 n0 _) (by simp -dsimp only [go_sem]; rfl)) (by simp -dsimp only [go_sem]; exact ho0) (by omega) (by omega) (by omega) (by omega)) (by simp -dsimp only [go_sem]; rfl)) (by simp -dsimp only [go_sem]; rfl)) (Nat.le_refl _) (by omega)
theorem toSeatS_p (d : D) (xs : List Md.Seat) (h : IsL 20 IsSeat d xs) (hs : Md.szSeats xs ≤ 1048576) : PCall Tryz.prog 122 [d] fun n0 n1 r => IsL 20 IsSeat r xs ∧ Own n0 n1 r := by
  have hs' : xs.length ≤ 1048576 := by unfold Md.szSeats at hs; omega
  refine pcall_intro Tryz.func122 rfl (by decide) rfl (by decide) (by rw [Tryz.ntmps122]; simp) fun w0 M n0 hW => ivc_sound ?_; simp -dsimp only [Tryz.f122, go_sem, h.lenT]
  refine ⟨by omega, by omega, fun g b hb => ?_⟩
  refine iwp_forR xs.length [0, 2, 3] (fun i n' s R => s 4 = .lit (.int .i64 i) ∧ ∃ f, R = upd (fun _ => none) 7 (some (g, b, .node (.arr xs.length 20) f)) ∧ Fill IsSeat 20 n0 n' xs xs.length i f) 0 (Nat.zero_le _)
    ⟨by simp -dsimp only [go_sem]; rfl, _, rfl, Fill.start (fun j => by simp only [stillL_nil, stillL_cons, still_lit, still_nil, still_any, still_nodeN, still_nodeC, and_self]) fun _ _ => ⟨trivial, rfl⟩⟩ ?_
  rintro i n' s R hi hn hk ⟨h4, f, rfl, hf⟩
  refine ivc_sound ?_
  simp -dsimp only [go_sem] at hk
  by_cases hlt : i < xs.length
  · obtain ⟨t, zb, fi, rfl, hst', hf'⟩ := h.sl hlt
    have hfi := hf' i hlt
    have eq := shp_seat _ _ hfi
    have e1 := eq.1
    have e2 := eq.2.1
    have e4 := eq.2.2.2
    have hw := i64_succ (i := i) (by omega)
    have q1 := (hf.sh i hlt).1
    have q2 := (hf.sh i hlt).2
    simp -dsimp only [go_sem, hk, h4, hlt, hw, q1, q2, e1, e2]
    refine xcall_p (toSeat_p _ _ hfi (by have := Md.sumBy_mem Md.szSeat xs _ (List.getElem_mem hlt); unfold Md.szSeats at hs; omega)) (by simp -dsimp only [go_sem, rl_still, e4]) fun m0 m1 r hm0 hm1 hr => ?_
    have hr1 := hr.1
    have hr2 := hr.2
    have rq := shp_seat _ _ hr1
    have r1 := rq.1
    have r2 := rq.2.1
    have r3 := rq.2.2.1
    refine ⟨hr2.tags, ?_⟩
    simp -dsimp only [go_sem, hk, h4, hlt, hw, q1, q2, r1, r2, r3, e1, e2]
    exact into_r (by omega) (by simp -dsimp only [go_sem, hk]) ⟨by simp -dsimp only [go_sem], _, rfl, hf.step shp_seat hlt hr1 hr2 (by omega) (by omega) (by omega) (by omega)⟩
  · simp -dsimp only [go_sem, hk, h4, hlt, h.lenT]
    intro n1 hn1 hfc
    rw [rls_still hf.st]
    exact hf.isL hlt (by omega) hb hfc.here.1 hn1 hfc.here.2
theorem toPool_p (d : D) (x : Md.Pool) (h : IsPool d x) (hs : Md.szPool x ≤ 1048576) : PCall Tryz.prog 51 [d] fun n0 n1 r => IsPool r x ∧ Own n0 n1 r := by
  obtain ⟨f, rfl, hst, k0, k1⟩ := h
  have k1 : f 1 = _ := k1
  unfold Md.szPool at hs
  refine pcall_intro Tryz.func51 rfl (by decide) rfl (by decide) (by rw [Tryz.ntmps51]; simp) fun w0 M n0 hW => ivc_sound ?_; simp -dsimp only [Tryz.f51, go_sem, k0.size, k0.isNode, k0.plain, k0.still, k1]
  intro g1 b1 hb1 g2 b2 hb2 g3 b3 hb3
  refine xcall_p (toSeatS_p _ _ k0 (by omega)) (by simp -dsimp only [go_sem, rl_still, k0.size, k0.isNode, k0.plain, k0.still, k1]) fun m0 p0 r0 hm0 hp0 hr0 => ?_
  have ho0 := hr0.2
  have hq0 := hr0.1
  have v0 := hq0.still
  refine ⟨ho0.tags, ?_⟩
  simp -dsimp only [go_sem, k0.size, k0.isNode, k0.plain, k0.still, k1, hq0.size, hq0.isNode, hq0.plain]
  intro n1 hn1 hfc
  refine fin_node (Q := fun r => IsPool r x ∧ Own n0 n1 r) (still_upd (still_upd (stN (by simp only [stillL_nil, stillL_cons, still_lit, still_nil, still_any, still_nodeN, still_nodeC, and_self])) v0) trivial) fun hst => ?_
  refine ⟨⟨_, rfl, hst, by simp -dsimp only [go_sem]; exact hq0, by simp -dsimp only [go_sem, IsInt, IsBool, IsByte]⟩, own_node ?_⟩
  exact OwnN.mono (hi := p0) (ownN_snoc_lit (ownN_snoc_own (mid := n0) (hi := p0) (ownN_zero n0 n0 _) (by simp -dsimp only [go_sem]; exact ho0) (by omega) (by omega) (by omega) (by omega)) (by simp -dsimp only [go_sem]; rfl)) (Nat.le_refl _) (by omega)
theorem toHold_p (d : D) (x : Md.Hold) (h : IsHold d x) : PCall Tryz.prog 125 [d] fun n0 n1 r => IsHold r x ∧ Own n0 n1 r := by
  obtain ⟨f, rfl, hst, k0, k1⟩ := h
  have k0 : f 0 = _ := k0
  have k1 : f 1 = _ := k1
  refine pcall_intro Tryz.func125 rfl (by decide) rfl (by decide) (by rw [Tryz.ntmps125]; simp) fun w0 M n0 hW => ivc_sound ?_; simp -dsimp only [Tryz.f125, go_sem, k0, k1]
  intro g1 b1 hb1 g2 b2 hb2 g3 b3 hb3
  intro n1 hn1 hfc
  refine fin_node (Q := fun r => IsHold r x ∧ Own n0 n1 r) (still_upd (still_upd (stN (by simp only [stillL_nil, stillL_cons, still_lit, still_nil, still_any, still_nodeN, still_nodeC, and_self])) trivial) trivial) fun hst => ?_
  refine ⟨⟨_, rfl, hst, by simp -dsimp only [go_sem, IsInt, IsBool, IsByte], by simp -dsimp only [go_sem, IsInt, IsBool, IsByte]⟩, own_node ?_⟩
  exact OwnN.mono (hi := n0) (ownN_snoc_lit (ownN_snoc_lit (ownN_zero n0 n0 _) (by simp -dsimp only [go_sem]; rfl)) (by simp -dsimp only [go_sem]; rfl)) (Nat.le_refl _) (by omega)
theorem toHoldS_p (d : D) (xs : List Md.Hold) (h : IsL 2 IsHold d xs) (hs : xs.length ≤ 1048576) : PCall Tryz.prog 54 [d] fun n0 n1 r => IsL 2 IsHold r xs ∧ Own n0 n1 r := by
  have hs' : xs.length ≤ 1048576 := by omega
  refine pcall_intro Tryz.func54 rfl (by decide) rfl (by decide) (by rw [Tryz.ntmps54]; simp) fun w0 M n0 hW => ivc_sound ?_; simp -dsimp only [Tryz.f54, go_sem, h.lenT]
  refine ⟨by omega, by omega, fun g b hb => ?_⟩
  refine iwp_forR xs.length [0, 2, 3] (fun i n' s R => s 4 = .lit (.int .i64 i) ∧ ∃ f, R = upd (fun _ => none) 7 (some (g, b, .node (.arr xs.length 2) f)) ∧ Fill IsHold 2 n0 n' xs xs.length i f) 0 (Nat.zero_le _)
    ⟨by simp -dsimp only [go_sem]; rfl, _, rfl, Fill.start (fun j => by simp only [stillL_nil, stillL_cons, still_lit, still_nil, still_any, still_nodeN, still_nodeC, and_self]) fun _ _ => ⟨trivial, rfl⟩⟩ ?_
  rintro i n' s R hi hn hk ⟨h4, f, rfl, hf⟩
  refine ivc_sound ?_
  simp -dsimp only [go_sem] at hk
  by_cases hlt : i < xs.length
  · obtain ⟨t, zb, fi, rfl, hst', hf'⟩ := h.sl hlt
    have hfi := hf' i hlt
    have eq := shp_hold _ _ hfi
    have e1 := eq.1
    have e2 := eq.2.1
    have e4 := eq.2.2.2
    have hw := i64_succ (i := i) (by omega)
    have q1 := (hf.sh i hlt).1
    have q2 := (hf.sh i hlt).2
    simp -dsimp only [go_sem, hk, h4, hlt, hw, q1, q2, e1, e2]
    refine xcall_p (toHold_p _ _ hfi) (by simp -dsimp only [go_sem, rl_still, e4]) fun m0 m1 r hm0 hm1 hr => ?_
    have hr1 := hr.1
    have hr2 := hr.2
    have rq := shp_hold _ _ hr1
    have r1 := rq.1
    have r2 := rq.2.1
    have r3 := rq.2.2.1
    refine ⟨hr2.tags, ?_⟩
    simp -dsimp only [go_sem, hk, h4, hlt, hw, q1, q2, r1, r2, r3, e1, e2]
    exact into_r (by omega) (by simp -dsimp only [go_sem, hk]) ⟨by simp -dsimp only [go_sem], _, rfl, hf.step shp_hold hlt hr1 hr2 (by omega) (by omega) (by omega) (by omega)⟩
  · simp -dsimp only [go_sem, hk, h4, hlt, h.lenT]
    intro n1 hn1 hfc
    rw [rls_still hf.st]
    exact hf.isL hlt (by omega) hb hfc.here.1 hn1 hfc.here.2
theorem toPageA8_p (d : D) (xs : List Md.Page) (h : IsA 8 17 IsPage d xs) (hs : Md.sumBy Md.szPage xs ≤ 1048576) : PCall Tryz.prog 50 [d] fun n0 n1 r => IsA 8 17 IsPage r xs ∧ Own n0 n1 r := by
  obtain ⟨hl, fi, rfl, hst, hf'⟩ := h
  refine pcall_intro Tryz.func50 rfl (by decide) rfl (by decide) (by rw [Tryz.ntmps50]; simp) fun w0 M n0 hW => ivc_sound ?_; simp -dsimp only [Tryz.f50, go_sem]
  intro g1 b1 hb1 g2 b2 hb2 g3 b3 hb3
  refine iwp_forR 8 [1, 2, 3] (fun i n' s R => s 4 = .lit (.int .i64 i) ∧ ∃ f, R = upd (upd (upd (fun _ => none) 1 (some (g1, b1, .node (.arr 8 17) fi))) 2 (some (g2, b2, zd Tryz.prog 49))) 3 (some (g3, b3, .node (.arr 8 17) f)) ∧ Fill IsPage 17 n0 n' xs 8 i f) 0 (Nat.zero_le _)
    ⟨by simp -dsimp only [go_sem]; rfl, _, by simp -dsimp only [go_sem]; rfl, Fill.start (fun j => by simp only [stillL_nil, stillL_cons, still_lit, still_nil, still_any, still_nodeN, still_nodeC, and_self]) fun _ _ => ⟨by trivial, by rfl⟩⟩ ?_
  rintro i n' s R hi hn hk ⟨h4, f, rfl, hf⟩
  refine ivc_sound ?_
  simp -dsimp only [go_sem] at hk
  by_cases hlt : i < 8
  · have hc : (i : Int) < 8 := by omega
    have hlt' : i < xs.length := by omega
    have hfi := hf' i hlt'
    have eq := shp_page _ _ hfi
    have e1 := eq.1
    have e2 := eq.2.1
    have e4 := eq.2.2.2
    have hw := i64_succ (i := i) (by omega)
    have q1 := (hf.sh i hlt).1
    have q2 := (hf.sh i hlt).2
    simp -dsimp only [go_sem, hk, h4, hlt, hc, hw, q1, q2, e1, e2]
    refine xcall_p (toPage_p _ _ hfi (by have := Md.sumBy_mem Md.szPage xs _ (List.getElem_mem hlt'); omega)) (by simp -dsimp only [go_sem, rl_still, e4]) fun m0 m1 r hm0 hm1 hr => ?_
    have hr1 := hr.1
    have hr2 := hr.2
    have rq := shp_page _ _ hr1
    have r1 := rq.1
    have r2 := rq.2.1
    have r3 := rq.2.2.1
    refine ⟨hr2.tags, ?_⟩
    simp -dsimp only [go_sem, hk, h4, hlt, hc, hw, q1, q2, r1, r2, r3, e1, e2]
    exact into_r (by omega) (by simp -dsimp only [go_sem, hk]) ⟨by simp -dsimp only [go_sem], _, by simp -dsimp only [go_sem], hf.step shp_page hlt' hr1 hr2 (by omega) (by omega) (by omega) (by omega)⟩
  · have hc : ¬ (i : Int) < 8 := by omega
    simp -dsimp only [go_sem, hk, h4, hlt, hc]
    intro n1 hn1 hfc
    rw [rlnode_still hf.st]
    have := hf.isA hl hlt
    exact ⟨this.1, this.2.mono (Nat.le_refl _) (by omega)⟩
theorem toEngine_p (d : D) (x : Md.Engine) (h : IsEngine d x) (hs : Md.szEngine x ≤ 1048576) : PCall Tryz.prog 14 [d] fun n0 n1 r => IsEngine r x ∧ Own n0 n1 r := by
  obtain ⟨f, rfl, hst, k0, k1, k2, k3, k4, k5, k6⟩ := h
  obtain ⟨sa1, sb1, sc1, sd1⟩ := shp_pool _ _ k1
  obtain ⟨sa2, sb2, sc2, sd2⟩ := shp_log _ _ k2
  have k5 : f 5 = _ := k5
  have k6 : f 6 = _ := k6
  unfold Md.szEngine at hs
  refine pcall_intro Tryz.func14 rfl (by decide) rfl (by decide) (by rw [Tryz.ntmps14]; simp) fun w0 M n0 hW => ivc_sound ?_; simp -dsimp only [Tryz.f14, go_sem, k0.size, k0.isNode, k0.plain, k0.still, sa1, sb1, sd1, sa2, sb2, sd2, k3.size, k3.isNode, k3.plain, k3.still, k4.size, k4.isNode, k4.plain, k4.still, k5, k6]
  intro g1 b1 hb1 g2 b2 hb2 g3 b3 hb3
  refine xcall_p (toPageA8_p _ _ k0 (by omega)) (by simp -dsimp only [go_sem, rl_still, k0.size, k0.isNode, k0.plain, k0.still, sa1, sb1, sd1, sa2, sb2, sd2, k3.size, k3.isNode, k3.plain, k3.still, k4.size, k4.isNode, k4.plain, k4.still, k5, k6]) fun m0 p0 r0 hm0 hp0 hr0 => ?_
  have ho0 := hr0.2
  have hq0 := hr0.1
  have v0 := hq0.still
  refine ⟨ho0.tags, ?_⟩
  simp -dsimp only [go_sem, k0.size, k0.isNode, k0.plain, k0.still, sa1, sb1, sd1, sa2, sb2, sd2, k3.size, k3.isNode, k3.plain, k3.still, k4.size, k4.isNode, k4.plain, k4.still, k5, k6, hq0.size, hq0.isNode, hq0.plain]
  refine xcall_p (toPool_p _ _ k1 (by omega)) (by simp -dsimp only [go_sem, rl_still, k0.size, k0.isNode, k0.plain, k0.still, sa1, sb1, sd1, sa2, sb2, sd2, k3.size, k3.isNode, k3.plain, k3.still, k4.size, k4.isNode, k4.plain, k4.still, k5, k6]) fun m1 p1 r1 hm1 hp1 hr1 => ?_
  have ho1 := hr1.2
  have hq1 := hr1.1
  have q1 := shp_pool _ _ hq1
  have x1 := q1.1
  have y1 := q1.2.1
  have z1 := q1.2.2.1
  have v1 := q1.2.2.2
  refine ⟨ho1.tags, ?_⟩
  simp -dsimp only [go_sem, k0.size, k0.isNode, k0.plain, k0.still, sa1, sb1, sd1, sa2, sb2, sd2, k3.size, k3.isNode, k3.plain, k3.still, k4.size, k4.isNode, k4.plain, k4.still, k5, k6, hq0.size, hq0.isNode, hq0.plain, x1, y1, z1]
  refine xcall_p (toLog_p _ _ k2 (by omega)) (by simp -dsimp only [go_sem, rl_still, k0.size, k0.isNode, k0.plain, k0.still, sa1, sb1, sd1, sa2, sb2, sd2, k3.size, k3.isNode, k3.plain, k3.still, k4.size, k4.isNode, k4.plain, k4.still, k5, k6]) fun m2 p2 r2 hm2 hp2 hr2 => ?_
  have ho2 := hr2.2
  have hq2 := hr2.1
  have q2 := shp_log _ _ hq2
  have x2 := q2.1
  have y2 := q2.2.1
  have z2 := q2.2.2.1
  have v2 := q2.2.2.2
  refine ⟨ho2.tags, ?_⟩
  simp -dsimp only [go_sem, k0.size, k0.isNode, k0.plain, k0.still, sa1, sb1, sd1, sa2, sb2, sd2, k3.size, k3.isNode, k3.plain, k3.still, k4.size, k4.isNode, k4.plain, k4.still, k5, k6, hq0.size, hq0.isNode, hq0.plain, x1, y1, z1, x2, y2, z2]
  refine xcall_p (toLiveS_p _ _ k3 (by omega)) (by simp -dsimp only [go_sem, rl_still, k0.size, k0.isNode, k0.plain, k0.still, sa1, sb1, sd1, sa2, sb2, sd2, k3.size, k3.isNode, k3.plain, k3.still, k4.size, k4.isNode, k4.plain, k4.still, k5, k6]) fun m3 p3 r3 hm3 hp3 hr3 => ?_
  have ho3 := hr3.2
  have hq3 := hr3.1
  have v3 := hq3.still
  refine ⟨ho3.tags, ?_⟩
  simp -dsimp only [go_sem, k0.size, k0.isNode, k0.plain, k0.still, sa1, sb1, sd1, sa2, sb2, sd2, k3.size, k3.isNode, k3.plain, k3.still, k4.size, k4.isNode, k4.plain, k4.still, k5, k6, hq0.size, hq0.isNode, hq0.plain, x1, y1, z1, x2, y2, z2, hq3.size, hq3.isNode, hq3.plain]
  refine xcall_p (toHoldS_p _ _ k4 (by omega)) (by simp -dsimp only [go_sem, rl_still, k0.size, k0.isNode, k0.plain, k0.still, sa1, sb1, sd1, sa2, sb2, sd2, k3.size, k3.isNode, k3.plain, k3.still, k4.size, k4.isNode, k4.plain, k4.still, k5, k6]) fun m4 p4 r4 hm4 hp4 hr4 => ?_
  have ho4 := hr4.2
  have hq4 := hr4.1
  have v4 := hq4.still
  refine ⟨ho4.tags, ?_⟩
  simp -dsimp only [go_sem, k0.size, k0.isNode, k0.plain, k0.still, sa1, sb1, sd1, sa2, sb2, sd2, k3.size, k3.isNode, k3.plain, k3.still, k4.size, k4.isNode, k4.plain, k4.still, k5, k6, hq0.size, hq0.isNode, hq0.plain, x1, y1, z1, x2, y2, z2, hq3.size, hq3.isNode, hq3.plain, hq4.size, hq4.isNode, hq4.plain]
  intro n1 hn1 hfc
  refine fin_node (Q := fun r => IsEngine r x ∧ Own n0 n1 r) (still_upd (still_upd (still_upd (still_upd (still_upd (still_upd (still_upd (stN (by simp only [stillL_nil, stillL_cons, still_lit, still_nil, still_any, still_nodeN, still_nodeC, and_self])) v0) v1) v2) v3) v4) trivial) trivial) fun hst => ?_
  refine ⟨⟨_, rfl, hst, by simp -dsimp only [go_sem]; exact hq0, by simp -dsimp only [go_sem]; exact hq1, by simp -dsimp only [go_sem]; exact hq2, by simp -dsimp only [go_sem]; exact hq3, by simp -dsimp only [go_sem]; exact hq4, by simp -dsimp only [go_sem, IsInt, IsBool, IsByte], by simp -dsimp only [go_sem, IsInt, IsBool, IsByte]⟩, own_node ?_⟩
  exact OwnN.mono (hi := p4) (ownN_snoc_lit (ownN_snoc_lit (ownN_snoc_own (mid := p3) (hi := p4) (ownN_snoc_own (mid := p2) (hi := p3) (ownN_snoc_own (mid := p1) (hi := p2) (ownN_snoc_own (mid := p0) (hi := p1) (ownN_snoc_own (mid := n0) (hi := p0) (ownN_zero n0 n0 _) (by simp -dsimp only [go_sem]; exact ho0) (by omega) (by omega) (by omega) (by omega)) (by simp -dsimp only [go_sem]; exact ho1) (by omega) (by omega) (by omega) (by omega)) (by simp -dsimp only [go_sem]; exact ho2) (by omega) (by omega) (by omega) (by omega)) (by simp -dsimp only [go_sem]; exact ho3) (by omega) (by omega) (by omega) (by omega)) (by simp -dsimp only [go_sem]; exact ho4) (by omega) (by omega) (by omega) (by omega)) (by simp -dsimp only [go_sem]; rfl)) (by simp -dsimp only [go_sem]; rfl)) (Nat.le_refl _) (by omega)
theorem specPageOk_p (d : D) (p : Md.Page) (h : IsPage d p) : PCall Tryz.prog 157 [d] fun _ _ r => r = .lit (.bool (Md.pageOk p)) := by
  obtain ⟨f, rfl, hst, h0, hl, g, hg, hgs, h1⟩ := h
  have h0 : f 0 = _ := h0
  refine pcall_intro_v Tryz.func157 rfl (by decide) rfl (by decide) (by rw [Tryz.ntmps157]; simp) fun w0 M n0 => ivc_sound ?_; simp -dsimp only [Tryz.f157, go_sem, h0, hg]
  intro g1 b1 hb1
  refine iwp_forK 4 [1] (fun i s => s 3 = .lit (.int .i64 i) ∧ Md.AllB Md.slotOk p.slots i true) 0 (Nat.zero_le _) ⟨by simp -dsimp only [go_sem]; rfl, Md.allB_zero _ _ _⟩ ?_
  rintro i n' s hi hn hk ⟨h3, hall⟩
  refine ivc_sound ?_
  simp -dsimp only [go_sem] at hk
  by_cases hlt : i < 4
  · have hc : (i : Int) < 4 := by omega
    have hlt' : i < p.slots.length := by omega
    have hfi := h1 i hlt'
    have q := shp_slot _ _ hfi
    have e1 := q.1
    have e2 := q.2.1
    have e3 := q.2.2.1
    have e4 := q.2.2.2
    have hw := i64_succ (i := i) (by omega)
    simp -dsimp only [go_sem, hk, h3, hlt, hc, hw, hg, e1, e2, e3]
    refine xcall_v (l3Slot_p _ _ hfi) (by simp -dsimp only [go_sem, rl_still, e4]) (fun _ => trivial) fun n1 hn1 => ?_
    simp -dsimp only [go_sem, hk, h3, hlt, hc, hw]
    refine ⟨fun hb => ?_, fun hb => into_k (by omega) (by simp -dsimp only [go_sem, hk]) ⟨by simp -dsimp only [go_sem], hall.succ hlt' (by simpa using hb)⟩⟩
    have : Md.slotsOk p.slots = false := Md.not_all hlt' (by simpa using hb)
    simp [Md.pageOk, this]
  · have hc : ¬ (i : Int) < 4 := by omega
    simp -dsimp only [go_sem, hk, h3, hlt, hc, h0]
    refine xcall_v (l1In_p _ _ _) (by simp -dsimp only [go_sem, h0]; rfl) (fun _ => trivial) fun n1 hn1 => ?_
    simp -dsimp only [go_sem, h0]
    have : Md.slotsOk p.slots = true := hall.all (by omega)
    simp [Md.pageOk, this]
theorem specSeated_p (d : D) (p : Md.Pool) (no : Int) (h : IsPool d p) : PCall Tryz.prog 174 [d, .lit (.int .i64 no)] fun _ _ r => r = .lit (.int .i64 (Md.seated p no)) := by
  obtain ⟨f, rfl, hst, h0, h1⟩ := h
  refine pcall_intro_v Tryz.func174 rfl (by decide) rfl (by decide) (by rw [Tryz.ntmps174]; simp) fun w0 M n0 => ivc_sound ?_; simp -dsimp only [Tryz.f174, go_sem, h0.size, h0.isNode, h0.plain, h0.lenT]
  intro g1 b1 hb1
  refine iwp_forK p.seats.length [1, 2] (fun i s => s 5 = .lit (.int .i64 i) ∧ ∀ j (hj : j < i) (hj' : j < p.seats.length), (p.seats[j].no == no) = false) 0 (Nat.zero_le _) ⟨by simp -dsimp only [go_sem]; rfl, fun j hj => absurd hj (by omega)⟩ ?_
  rintro i n' s hi hn hk ⟨h3, hall⟩
  refine ivc_sound ?_
  simp -dsimp only [go_sem] at hk
  by_cases hlt : i < p.seats.length
  · obtain ⟨t, zb, fi, hfe, hst', hf'⟩ := h0.sl hlt
    obtain ⟨k, hkk, hks, k0, k1, k2, k3⟩ := hf' i hlt
    have k0 : k 0 = _ := k0
    have hw := i64_succ (i := i) (by have := h0.short; omega)
    have hl0 := h0.lenT
    rw [hfe] at hl0
    simp -dsimp only [go_sem, hk, h3, hlt, hw, hfe, hl0, hkk, k0]
    refine ⟨fun hb => ?_, fun hb => into_k (by omega) (by simp -dsimp only [go_sem, hk]) ⟨by simp -dsimp only [go_sem], fun j hj hj' => ?_⟩⟩
    · rw [show Md.seated p no = (i : Int) from Md.idx_at hlt hb hall]
    · rcases Nat.lt_or_ge j i with h2 | h2
      · exact hall j h2 hj'
      · obtain rfl : j = i := by omega
        exact hb
  · simp -dsimp only [go_sem, hk, h3, hlt, h0.size, h0.isNode, h0.plain, h0.lenT]
    rw [show Md.seated p no = -1 from Md.idx_none fun j hj => hall j (by omega) hj]
theorem seated1_p (d : D) (s : Md.Seat) (no : Int) (h : IsSeat d s) : PCall Tryz.prog 177 [d, .cptr (.lit (.int .i64 no))] fun _ _ r => r = .lit (.bool (s.no == no)) := by
  obtain ⟨k, hkk, hks, k0, k1, k2, k3⟩ := h
  have k0 : k 0 = _ := k0
  refine pcall_intro_v Tryz.func177 rfl (by decide) rfl (by decide) (by rw [Tryz.ntmps177]; simp) fun w0 M n0 => ivc_sound ?_; simp -dsimp only [Tryz.f177, go_sem, hkk, k0]
  repeat' (first | refine ⟨?_, ?_⟩ | with_reducible intro _)
theorem seated_p (d : D) (p : Md.Pool) (no : Int) (h : IsPool d p) : PCall Tryz.prog 102 [d, .lit (.int .i64 no)] fun _ _ r => r = .lit (.int .i64 (Md.seated p no)) := by
  obtain ⟨f, rfl, hst, h0, h1⟩ := h
  refine pcall_intro_v Tryz.func102 rfl (by decide) rfl (by decide) (by rw [Tryz.ntmps102]; simp) fun w0 M n0 => ivc_sound ?_; simp -dsimp only [Tryz.f102, go_sem, h0.size, h0.isNode, h0.plain]
  intro g1 b1 hb1 g2 b2 hb2
  refine xcall_v (indexFunc_Seat shp_seat p.seats _ h0 177 1 (capD (.cptr (.lit (.int .i64 no)))) (fun s => s.no == no) (still_cap trivial) fun x _ dx hx => seated1_p dx x no hx)
    (by simp -dsimp only [go_sem, rl_cap, rl_still, h0.still]) (fun _ => trivial) fun n2 hn2 => ?_
  simp -dsimp only [go_sem]
  rfl
theorem eqIntS_p (d d' : D) (xs : List Int) (h : IsL 1 IsInt d xs) (h' : IsL 1 IsInt d' xs) : PCall Tryz.prog 146 [d, d'] fun _ _ r => r = .lit (.bool true) := by
  refine pcall_intro_v Tryz.func146 rfl (by decide) rfl (by decide) (by rw [Tryz.ntmps146]; simp) fun w0 M n0 => ivc_sound ?_; simp -dsimp only [Tryz.f146, go_sem, h.lenT, h'.lenT, bne_self_eq_false, Bool.not_true, Bool.not_false, Bool.false_eq_true, Bool.true_eq_false, false_imp_iff, true_and, and_true, forall_const, reduceCtorEq]
  refine iwp_forK xs.length [0, 1] (fun i s => s 5 = .lit (.int .i64 i)) 0 (Nat.zero_le _) (by simp -dsimp only [go_sem]; rfl) ?_
  rintro i n' s hi hn hk h5
  refine ivc_sound ?_
  by_cases hlt : i < xs.length
  · obtain ⟨t, zb, fi, rfl, hst, hf⟩ := h.sl hlt
    obtain ⟨t', zb', fi', rfl, hst', hf'⟩ := h'.sl hlt
    have hfi : fi i = _ := hf i hlt
    have hfi' : fi' i = _ := hf' i hlt
    have hw := i64_succ (i := i) (by have := h.short; omega)
    simp -dsimp only [go_sem] at hk
    simp -dsimp only [go_sem, hk, h5, hlt, hw]
    refine iwp_plan [(0, true), (1, true), (2, true), (3, true), (4, true), (5, true), (6, true), (7, true), (8, true)] [] rfl (by decide +kernel) (by decide) [] (by decide +kernel) ?_
    simp -dsimp only [go_sem, hk, h5, hlt, hw, hfi, hfi', bne_self_eq_false, Bool.not_true, Bool.not_false, Bool.false_eq_true, Bool.true_eq_false, false_imp_iff, true_and, and_true, forall_const, reduceCtorEq]
    exact into_k (by omega) (by simp -dsimp only [go_sem, hk]) (by simp -dsimp only [go_sem])
  · simp -dsimp only [go_sem] at hk
    simp -dsimp only [go_sem, hk, h5, hlt, h.lenT]
theorem eqObj_p (d d' : D) (x : Md.Obj) (h : IsObj d x) (h' : IsObj d' x) : PCall Tryz.prog 71 [d, d'] fun _ _ r => r = .lit (.bool true) := by
  obtain ⟨f, rfl, hst, k0, k1, k2⟩ := h
  obtain ⟨f', rfl, hst', l0, l1, l2⟩ := h'
  have k0 : f 0 = _ := k0
  have l0 : f' 0 = _ := l0
  refine pcall_intro_v Tryz.func71 rfl (by decide) rfl (by decide) (by rw [Tryz.ntmps71]; simp) fun w0 M n0 => ivc_sound ?_; simp -dsimp only [Tryz.f71, go_sem, k0, l0, k1.size, k1.isNode, k1.plain, l1.size, l1.isNode, l1.plain, k2.size, k2.isNode, k2.plain, l2.size, l2.isNode, l2.plain, bne_self_eq_false, Bool.not_true, Bool.not_false, Bool.false_eq_true, Bool.true_eq_false, false_imp_iff, true_and, and_true, forall_const, reduceCtorEq]
  intro g1 b1 hb1 g2 b2 hb2
  refine xcall_v (eqIntS_p _ _ _ k1 l1) (by simp -dsimp only [go_sem, rl_still, k1.still, l1.still]) (fun _ => trivial) fun m1 hm1 => ?_
  simp -dsimp only [go_sem, k0, l0, k1.size, k1.isNode, k1.plain, l1.size, l1.isNode, l1.plain, k2.size, k2.isNode, k2.plain, l2.size, l2.isNode, l2.plain, bne_self_eq_false, Bool.not_true, Bool.not_false, Bool.false_eq_true, Bool.true_eq_false, false_imp_iff, true_and, and_true, forall_const, reduceCtorEq]
  refine xcall_v (eqIntS_p _ _ _ k2 l2) (by simp -dsimp only [go_sem, rl_still, k2.still, l2.still]) (fun _ => trivial) fun m2 hm2 => ?_
  simp -dsimp only [go_sem, k0, l0, k1.size, k1.isNode, k1.plain, l1.size, l1.isNode, l1.plain, k2.size, k2.isNode, k2.plain, l2.size, l2.isNode, l2.plain, bne_self_eq_false, Bool.not_true, Bool.not_false, Bool.false_eq_true, Bool.true_eq_false, false_imp_iff, true_and, and_true, forall_const, reduceCtorEq]
theorem eqSlot_p (d d' : D) (x : Md.Slot) (h : IsSlot d x) (h' : IsSlot d' x) : PCall Tryz.prog 18 [d, d'] fun _ _ r => r = .lit (.bool true) := by
  obtain ⟨f, rfl, hst, k0, k1⟩ := h
  obtain ⟨f', rfl, hst', l0, l1⟩ := h'
  have k0 : f 0 = _ := k0
  have l0 : f' 0 = _ := l0
  have qk1 := shp_obj _ _ k1
  have xk1 := qk1.1
  have yk1 := qk1.2.1
  have wk1 := qk1.2.2.2
  have ql1 := shp_obj _ _ l1
  have xl1 := ql1.1
  have yl1 := ql1.2.1
  have wl1 := ql1.2.2.2
  refine pcall_intro_v Tryz.func18 rfl (by decide) rfl (by decide) (by rw [Tryz.ntmps18]; simp) fun w0 M n0 => ivc_sound ?_; simp -dsimp only [Tryz.f18, go_sem, k0, l0, xk1, yk1, xl1, yl1, bne_self_eq_false, Bool.not_true, Bool.not_false, Bool.false_eq_true, Bool.true_eq_false, false_imp_iff, true_and, and_true, forall_const, reduceCtorEq]
  intro g1 b1 hb1 g2 b2 hb2
  refine xcall_v (eqObj_p _ _ _ k1 l1) (by simp -dsimp only [go_sem, rl_still, wk1, wl1]) (fun _ => trivial) fun m1 hm1 => ?_
  simp -dsimp only [go_sem, k0, l0, xk1, yk1, xl1, yl1, bne_self_eq_false, Bool.not_true, Bool.not_false, Bool.false_eq_true, Bool.true_eq_false, false_imp_iff, true_and, and_true, forall_const, reduceCtorEq]
theorem eqSlotA4_p (d d' : D) (xs : List Md.Slot) (h : IsA 4 4 IsSlot d xs) (h' : IsA 4 4 IsSlot d' xs) : PCall Tryz.prog 205 [d, d'] fun _ _ r => r = .lit (.bool true) := by
  obtain ⟨hl, fi, rfl, hst, hf⟩ := h
  obtain ⟨hl', fi', rfl, hst', hf'⟩ := h'
  refine pcall_intro_v Tryz.func205 rfl (by decide) rfl (by decide) (by rw [Tryz.ntmps205]; simp) fun w0 M n0 => ivc_sound ?_; simp -dsimp only [Tryz.f205, go_sem, bne_self_eq_false, Bool.not_true, Bool.not_false, Bool.false_eq_true, Bool.true_eq_false, false_imp_iff, true_and, and_true, forall_const, reduceCtorEq]
  intro g1 b1 hb1 g2 b2 hb2
  refine iwp_forK 4 [2, 3] (fun i s => s 5 = .lit (.int .i64 i)) 0 (Nat.zero_le _) (by simp -dsimp only [go_sem]; rfl) ?_
  rintro i n' s hi hn hk h5
  refine ivc_sound ?_
  simp -dsimp only [go_sem] at hk
  by_cases hlt : i < 4
  · have hc : (i : Int) < 4 := by omega
    have hlt' : i < xs.length := by omega
    have hfi := hf i hlt'
    have hfi' := hf' i hlt'
    have q := shp_slot _ _ hfi
    have e1 := q.1
    have e2 := q.2.1
    have e4 := q.2.2.2
    have q' := shp_slot _ _ hfi'
    have k1 := q'.1
    have k2 := q'.2.1
    have k4 := q'.2.2.2
    have hw := i64_succ (i := i) (by omega)
    simp -dsimp only [go_sem, hk, h5, hlt, hc, hw]
    refine iwp_plan [(0, true), (1, true), (2, true), (3, true), (4, true), (5, true), (6, false), (7, true)] [2, 3] rfl (by decide +kernel) (by decide) [] (by decide +kernel) ?_
    simp -dsimp only [go_sem, hk, h5, hlt, hc, hw, e1, e2, k1, k2, bne_self_eq_false, Bool.not_true, Bool.not_false, Bool.false_eq_true, Bool.true_eq_false, false_imp_iff, true_and, and_true, forall_const, reduceCtorEq]
    refine xcall_v (eqSlot_p _ _ _ hfi hfi') (by simp -dsimp only [go_sem, rl_still, e4, k4]) (fun _ => trivial) fun n1 hn1 => ?_
    simp -dsimp only [go_sem, hk, h5, hlt, hc, hw, bne_self_eq_false, Bool.not_true, Bool.not_false, Bool.false_eq_true, Bool.true_eq_false, false_imp_iff, true_and, and_true, forall_const, reduceCtorEq]
    exact into_k (by omega) (by simp -dsimp only [go_sem, hk]) (by simp -dsimp only [go_sem])
  · have hc : ¬ (i : Int) < 4 := by omega
    simp -dsimp only [go_sem, hk, h5, hlt, hc]
theorem eqPage_p (d d' : D) (x : Md.Page) (h : IsPage d x) (h' : IsPage d' x) : PCall Tryz.prog 141 [d, d'] fun _ _ r => r = .lit (.bool true) := by
  obtain ⟨f, rfl, hst, k0, k1⟩ := h
  obtain ⟨f', rfl, hst', l0, l1⟩ := h'
  have k0 : f 0 = _ := k0
  have l0 : f' 0 = _ := l0
  refine pcall_intro_v Tryz.func141 rfl (by decide) rfl (by decide) (by rw [Tryz.ntmps141]; simp) fun w0 M n0 => ivc_sound ?_; simp -dsimp only [Tryz.f141, go_sem, k0, l0, k1.size, k1.isNode, k1.plain, l1.size, l1.isNode, l1.plain, bne_self_eq_false, Bool.not_true, Bool.not_false, Bool.false_eq_true, Bool.true_eq_false, false_imp_iff, true_and, and_true, forall_const, reduceCtorEq]
  intro g1 b1 hb1 g2 b2 hb2
  refine xcall_v (eqSlotA4_p _ _ _ k1 l1) (by simp -dsimp only [go_sem, rl_still, k1.still, l1.still]) (fun _ => trivial) fun m1 hm1 => ?_
  simp -dsimp only [go_sem, k0, l0, k1.size, k1.isNode, k1.plain, l1.size, l1.isNode, l1.plain, bne_self_eq_false, Bool.not_true, Bool.not_false, Bool.false_eq_true, Bool.true_eq_false, false_imp_iff, true_and, and_true, forall_const, reduceCtorEq]
theorem eqLive_p (d d' : D) (x : Md.Live) (h : IsLive d x) (h' : IsLive d' x) : PCall Tryz.prog 144 [d, d'] fun _ _ r => r = .lit (.bool true) := by
  obtain ⟨f, rfl, hst, k0, k1, k2⟩ := h
  obtain ⟨f', rfl, hst', l0, l1, l2⟩ := h'
  have k0 : f 0 = _ := k0
  have l0 : f' 0 = _ := l0
  have k1 : f 1 = _ := k1
  have l1 : f' 1 = _ := l1
  have k2 : f 2 = _ := k2
  have l2 : f' 2 = _ := l2
  refine pcall_intro_v Tryz.func144 rfl (by decide) rfl (by decide) (by rw [Tryz.ntmps144]; simp) fun w0 M n0 => ivc_sound ?_; simp -dsimp only [Tryz.f144, go_sem, k0, l0, k1, l1, k2, l2, bne_self_eq_false, Bool.not_true, Bool.not_false, Bool.false_eq_true, Bool.true_eq_false, false_imp_iff, true_and, and_true, forall_const, reduceCtorEq]
theorem eqLiveS_p (d d' : D) (xs : List Md.Live) (h : IsL 3 IsLive d xs) (h' : IsL 3 IsLive d' xs) : PCall Tryz.prog 69 [d, d'] fun _ _ r => r = .lit (.bool true) := by
  refine pcall_intro_v Tryz.func69 rfl (by decide) rfl (by decide) (by rw [Tryz.ntmps69]; simp) fun w0 M n0 => ivc_sound ?_; simp -dsimp only [Tryz.f69, go_sem, h.lenT, h'.lenT, bne_self_eq_false, Bool.not_true, Bool.not_false, Bool.false_eq_true, Bool.true_eq_false, false_imp_iff, true_and, and_true, forall_const, reduceCtorEq]
  refine iwp_forK xs.length [0, 1] (fun i s => s 5 = .lit (.int .i64 i)) 0 (Nat.zero_le _) (by simp -dsimp only [go_sem]; rfl) ?_
  rintro i n' s hi hn hk h5
  refine ivc_sound ?_
  by_cases hlt : i < xs.length
  · obtain ⟨t, zb, fi, rfl, hst, hf⟩ := h.sl hlt
    obtain ⟨t', zb', fi', rfl, hst', hf'⟩ := h'.sl hlt
    have hfi := hf i hlt
    have hfi' := hf' i hlt
    have q := shp_live _ _ hfi
    have e1 := q.1
    have e2 := q.2.1
    have e4 := q.2.2.2
    have q' := shp_live _ _ hfi'
    have k1 := q'.1
    have k2 := q'.2.1
    have k4 := q'.2.2.2
    have hw := i64_succ (i := i) (by have := h.short; omega)
    simp -dsimp only [go_sem] at hk
    simp -dsimp only [go_sem, hk, h5, hlt, hw]
    refine iwp_plan [(0, true), (1, true), (2, true), (3, true), (4, true), (5, true), (6, true), (7, true), (8, false), (9, true)] [] rfl (by decide +kernel) (by decide) [] (by decide +kernel) ?_
    simp -dsimp only [go_sem, hk, h5, hlt, hw, e1, e2, k1, k2, bne_self_eq_false, Bool.not_true, Bool.not_false, Bool.false_eq_true, Bool.true_eq_false, false_imp_iff, true_and, and_true, forall_const, reduceCtorEq]
    refine xcall_v (eqLive_p _ _ _ hfi hfi') (by simp -dsimp only [go_sem, rl_still, e4, k4]) (fun _ => trivial) fun n1 hn1 => ?_
    simp -dsimp only [go_sem, hk, h5, hlt, hw, bne_self_eq_false, Bool.not_true, Bool.not_false, Bool.false_eq_true, Bool.true_eq_false, false_imp_iff, true_and, and_true, forall_const, reduceCtorEq]
    exact into_k (by omega) (by simp -dsimp only [go_sem, hk]) (by simp -dsimp only [go_sem])
  · simp -dsimp only [go_sem] at hk
    simp -dsimp only [go_sem, hk, h5, hlt, h.lenT]
theorem eqRec_p (d d' : D) (x : Md.Rec) (h : IsRec d x) (h' : IsRec d' x) : PCall Tryz.prog 207 [d, d'] fun _ _ r => r = .lit (.bool true) := by
  obtain ⟨f, rfl, hst, k0, k1, k2, k3, k4, k5, k6, k7, k8⟩ := h
  obtain ⟨f', rfl, hst', l0, l1, l2, l3, l4, l5, l6, l7, l8⟩ := h'
  have k0 : f 0 = _ := k0
  have l0 : f' 0 = _ := l0
  have k1 : f 1 = _ := k1
  have l1 : f' 1 = _ := l1
  have k2 : f 2 = _ := k2
  have l2 : f' 2 = _ := l2
  have k3 : f 3 = _ := k3
  have l3 : f' 3 = _ := l3
  have k4 : f 4 = _ := k4
  have l4 : f' 4 = _ := l4
  have qk5 := shp_slot _ _ k5
  have xk5 := qk5.1
  have yk5 := qk5.2.1
  have wk5 := qk5.2.2.2
  have ql5 := shp_slot _ _ l5
  have xl5 := ql5.1
  have yl5 := ql5.2.1
  have wl5 := ql5.2.2.2
  have qk6 := shp_slot _ _ k6
  have xk6 := qk6.1
  have yk6 := qk6.2.1
  have wk6 := qk6.2.2.2
  have ql6 := shp_slot _ _ l6
  have xl6 := ql6.1
  have yl6 := ql6.2.1
  have wl6 := ql6.2.2.2
  have k7 : f 7 = _ := k7
  have l7 : f' 7 = _ := l7
  refine pcall_intro_v Tryz.func207 rfl (by decide) rfl (by decide) (by rw [Tryz.ntmps207]; simp) fun w0 M n0 => ivc_sound ?_; simp -dsimp only [Tryz.f207, go_sem, k0, l0, k1, l1, k2, l2, k3, l3, k4, l4, xk5, yk5, xl5, yl5, xk6, yk6, xl6, yl6, k7, l7, k8.size, k8.isNode, k8.plain, l8.size, l8.isNode, l8.plain, bne_self_eq_false, Bool.not_true, Bool.not_false, Bool.false_eq_true, Bool.true_eq_false, false_imp_iff, true_and, and_true, forall_const, reduceCtorEq]
  intro g1 b1 hb1 g2 b2 hb2
  refine xcall_v (eqSlot_p _ _ _ k5 l5) (by simp -dsimp only [go_sem, rl_still, wk5, wl5]) (fun _ => trivial) fun m5 hm5 => ?_
  simp -dsimp only [go_sem, k0, l0, k1, l1, k2, l2, k3, l3, k4, l4, xk5, yk5, xl5, yl5, xk6, yk6, xl6, yl6, k7, l7, k8.size, k8.isNode, k8.plain, l8.size, l8.isNode, l8.plain, bne_self_eq_false, Bool.not_true, Bool.not_false, Bool.false_eq_true, Bool.true_eq_false, false_imp_iff, true_and, and_true, forall_const, reduceCtorEq]
  refine xcall_v (eqSlot_p _ _ _ k6 l6) (by simp -dsimp only [go_sem, rl_still, wk6, wl6]) (fun _ => trivial) fun m6 hm6 => ?_
  simp -dsimp only [go_sem, k0, l0, k1, l1, k2, l2, k3, l3, k4, l4, xk5, yk5, xl5, yl5, xk6, yk6, xl6, yl6, k7, l7, k8.size, k8.isNode, k8.plain, l8.size, l8.isNode, l8.plain, bne_self_eq_false, Bool.not_true, Bool.not_false, Bool.false_eq_true, Bool.true_eq_false, false_imp_iff, true_and, and_true, forall_const, reduceCtorEq]
  refine xcall_v (eqLiveS_p _ _ _ k8 l8) (by simp -dsimp only [go_sem, rl_still, k8.still, l8.still]) (fun _ => trivial) fun m8 hm8 => ?_
  simp -dsimp only [go_sem, k0, l0, k1, l1, k2, l2, k3, l3, k4, l4, xk5, yk5, xl5, yl5, xk6, yk6, xl6, yl6, k7, l7, k8.size, k8.isNode, k8.plain, l8.size, l8.isNode, l8.plain, bne_self_eq_false, Bool.not_true, Bool.not_false, Bool.false_eq_true, Bool.true_eq_false, false_imp_iff, true_and, and_true, forall_const, reduceCtorEq]
theorem eqRecS_p (d d' : D) (xs : List Md.Rec) (h : IsL 15 IsRec d xs) (h' : IsL 15 IsRec d' xs) : PCall Tryz.prog 143 [d, d'] fun _ _ r => r = .lit (.bool true) := by
  refine pcall_intro_v Tryz.func143 rfl (by decide) rfl (by decide) (by rw [Tryz.ntmps143]; simp) fun w0 M n0 => ivc_sound ?_; simp -dsimp only [Tryz.f143, go_sem, h.lenT, h'.lenT, bne_self_eq_false, Bool.not_true, Bool.not_false, Bool.false_eq_true, Bool.true_eq_false, false_imp_iff, true_and, and_true, forall_const, reduceCtorEq]
  refine iwp_forK xs.length [0, 1] (fun i s => s 5 = .lit (.int .i64 i)) 0 (Nat.zero_le _) (by simp -dsimp only [go_sem]; rfl) ?_
  rintro i n' s hi hn hk h5
  refine ivc_sound ?_
  by_cases hlt : i < xs.length
  · obtain ⟨t, zb, fi, rfl, hst, hf⟩ := h.sl hlt
    obtain ⟨t', zb', fi', rfl, hst', hf'⟩ := h'.sl hlt
    have hfi := hf i hlt
    have hfi' := hf' i hlt
    have q := shp_rec _ _ hfi
    have e1 := q.1
    have e2 := q.2.1
    have e4 := q.2.2.2
    have q' := shp_rec _ _ hfi'
    have k1 := q'.1
    have k2 := q'.2.1
    have k4 := q'.2.2.2
    have hw := i64_succ (i := i) (by have := h.short; omega)
    simp -dsimp only [go_sem] at hk
    simp -dsimp only [go_sem, hk, h5, hlt, hw]
    refine iwp_plan [(0, true), (1, true), (2, true), (3, true), (4, true), (5, true), (6, true), (7, true), (8, false), (9, true)] [] rfl (by decide +kernel) (by decide) [] (by decide +kernel) ?_
    simp -dsimp only [go_sem, hk, h5, hlt, hw, e1, e2, k1, k2, bne_self_eq_false, Bool.not_true, Bool.not_false, Bool.false_eq_true, Bool.true_eq_false, false_imp_iff, true_and, and_true, forall_const, reduceCtorEq]
    refine xcall_v (eqRec_p _ _ _ hfi hfi') (by simp -dsimp only [go_sem, rl_still, e4, k4]) (fun _ => trivial) fun n1 hn1 => ?_
    simp -dsimp only [go_sem, hk, h5, hlt, hw, bne_self_eq_false, Bool.not_true, Bool.not_false, Bool.false_eq_true, Bool.true_eq_false, false_imp_iff, true_and, and_true, forall_const, reduceCtorEq]
    exact into_k (by omega) (by simp -dsimp only [go_sem, hk]) (by simp -dsimp only [go_sem])
  · simp -dsimp only [go_sem] at hk
    simp -dsimp only [go_sem, hk, h5, hlt, h.lenT]
theorem eqLog_p (d d' : D) (x : Md.Log) (h : IsLog d x) (h' : IsLog d' x) : PCall Tryz.prog 68 [d, d'] fun _ _ r => r = .lit (.bool true) := by
  obtain ⟨f, rfl, hst, k0, k1⟩ := h
  obtain ⟨f', rfl, hst', l0, l1⟩ := h'
  have k1 : f 1 = _ := k1
  have l1 : f' 1 = _ := l1
  refine pcall_intro_v Tryz.func68 rfl (by decide) rfl (by decide) (by rw [Tryz.ntmps68]; simp) fun w0 M n0 => ivc_sound ?_; simp -dsimp only [Tryz.f68, go_sem, k0.size, k0.isNode, k0.plain, l0.size, l0.isNode, l0.plain, k1, l1, bne_self_eq_false, Bool.not_true, Bool.not_false, Bool.false_eq_true, Bool.true_eq_false, false_imp_iff, true_and, and_true, forall_const, reduceCtorEq]
  intro g1 b1 hb1 g2 b2 hb2
  refine xcall_v (eqRecS_p _ _ _ k0 l0) (by simp -dsimp only [go_sem, rl_still, k0.still, l0.still]) (fun _ => trivial) fun m0 hm0 => ?_
  simp -dsimp only [go_sem, k0.size, k0.isNode, k0.plain, l0.size, l0.isNode, l0.plain, k1, l1, bne_self_eq_false, Bool.not_true, Bool.not_false, Bool.false_eq_true, Bool.true_eq_false, false_imp_iff, true_and, and_true, forall_const, reduceCtorEq]
theorem eqSeat_p (d d' : D) (x : Md.Seat) (h : IsSeat d x) (h' : IsSeat d' x) : PCall Tryz.prog 206 [d, d'] fun _ _ r => r = .lit (.bool true) := by
  obtain ⟨f, rfl, hst, k0, k1, k2, k3⟩ := h
  obtain ⟨f', rfl, hst', l0, l1, l2, l3⟩ := h'
  have k0 : f 0 = _ := k0
  have l0 : f' 0 = _ := l0
  have qk1 := shp_page _ _ k1
  have xk1 := qk1.1
  have yk1 := qk1.2.1
  have wk1 := qk1.2.2.2
  have ql1 := shp_page _ _ l1
  have xl1 := ql1.1
  have yl1 := ql1.2.1
  have wl1 := ql1.2.2.2
  have k2 : f 2 = _ := k2
  have l2 : f' 2 = _ := l2
  have k3 : f 3 = _ := k3
  have l3 : f' 3 = _ := l3
  refine pcall_intro_v Tryz.func206 rfl (by decide) rfl (by decide) (by rw [Tryz.ntmps206]; simp) fun w0 M n0 => ivc_sound ?_; simp -dsimp only [Tryz.f206, go_sem, k0, l0, xk1, yk1, xl1, yl1, k2, l2, k3, l3, bne_self_eq_false, Bool.not_true, Bool.not_false, Bool.false_eq_true, Bool.true_eq_false, false_imp_iff, true_and, and_true, forall_const, reduceCtorEq]
  intro g1 b1 hb1 g2 b2 hb2
  refine xcall_v (eqPage_p _ _ _ k1 l1) (by simp -dsimp only [go_sem, rl_still, wk1, wl1]) (fun _ => trivial) fun m1 hm1 => ?_
  simp -dsimp only [go_sem, k0, l0, xk1, yk1, xl1, yl1, k2, l2, k3, l3, bne_self_eq_false, Bool.not_true, Bool.not_false, Bool.false_eq_true, Bool.true_eq_false, false_imp_iff, true_and, and_true, forall_const, reduceCtorEq]
theorem eqSeatS_p (d d' : D) (xs : List Md.Seat) (h : IsL 20 IsSeat d xs) (h' : IsL 20 IsSeat d' xs) : PCall Tryz.prog 142 [d, d'] fun _ _ r => r = .lit (.bool true) := by
  refine pcall_intro_v Tryz.func142 rfl (by decide) rfl (by decide) (by rw [Tryz.ntmps142]; simp) fun w0 M n0 => ivc_sound ?_; simp -dsimp only [Tryz.f142, go_sem, h.lenT, h'.lenT, bne_self_eq_false, Bool.not_true, Bool.not_false, Bool.false_eq_true, Bool.true_eq_false, false_imp_iff, true_and, and_true, forall_const, reduceCtorEq]
  refine iwp_forK xs.length [0, 1] (fun i s => s 5 = .lit (.int .i64 i)) 0 (Nat.zero_le _) (by simp -dsimp only [go_sem]; rfl) ?_
  rintro i n' s hi hn hk h5
  refine ivc_sound ?_
  by_cases hlt : i < xs.length
  · obtain ⟨t, zb, fi, rfl, hst, hf⟩ := h.sl hlt
    obtain ⟨t', zb', fi', rfl, hst', hf'⟩ := h'.sl hlt
    have hfi := hf i hlt
    have hfi' := hf' i hlt
    have q := shp_seat _ _ hfi
    have e1 := q.1
    have e2 := q.2.1
    have e4 := q.2.2.2
    have q' := shp_seat _ _ hfi'
    have k1 := q'.1
    have k2 := q'.2.1
    have k4 := q'.2.2.2
    have hw := i64_succ (i := i) (by have := h.short; omega)
    simp -dsimp only [go_sem] at hk
    simp -dsimp only [go_sem, hk, h5, hlt, hw]
    refine iwp_plan [(0, true), (1, true), (2, true), (3, true), (4, true), (5, true), (6, true), (7, true), (8, false), (9, true)] [] rfl (by decide +kernel) (by decide) [] (by decide +kernel) ?_
    simp -dsimp only [go_sem, hk, h5, hlt, hw, e1, e2, k1, k2, bne_self_eq_false, Bool.not_true, Bool.not_false, Bool.false_eq_true, Bool.true_eq_false, false_imp_iff, true_and, and_true, forall_const, reduceCtorEq]
    refine xcall_v (eqSeat_p _ _ _ hfi hfi') (by simp -dsimp only [go_sem, rl_still, e4, k4]) (fun _ => trivial) fun n1 hn1 => ?_
    simp -dsimp only [go_sem, hk, h5, hlt, hw, bne_self_eq_false, Bool.not_true, Bool.not_false, Bool.false_eq_true, Bool.true_eq_false, false_imp_iff, true_and, and_true, forall_const, reduceCtorEq]
    exact into_k (by omega) (by simp -dsimp only [go_sem, hk]) (by simp -dsimp only [go_sem])
  · simp -dsimp only [go_sem] at hk
    simp -dsimp only [go_sem, hk, h5, hlt, h.lenT]
theorem eqPool_p (d d' : D) (x : Md.Pool) (h : IsPool d x) (h' : IsPool d' x) : PCall Tryz.prog 67 [d, d'] fun _ _ r => r = .lit (.bool true) := by
  obtain ⟨f, rfl, hst, k0, k1⟩ := h
  obtain ⟨f', rfl, hst', l0, l1⟩ := h'
  have k1 : f 1 = _ := k1
  have l1 : f' 1 = _ := l1
  refine pcall_intro_v Tryz.func67 rfl (by decide) rfl (by decide) (by rw [Tryz.ntmps67]; simp) fun w0 M n0 => ivc_sound ?_; simp -dsimp only [Tryz.f67, go_sem, k0.size, k0.isNode, k0.plain, l0.size, l0.isNode, l0.plain, k1, l1, bne_self_eq_false, Bool.not_true, Bool.not_false, Bool.false_eq_true, Bool.true_eq_false, false_imp_iff, true_and, and_true, forall_const, reduceCtorEq]
  intro g1 b1 hb1 g2 b2 hb2
  refine xcall_v (eqSeatS_p _ _ _ k0 l0) (by simp -dsimp only [go_sem, rl_still, k0.still, l0.still]) (fun _ => trivial) fun m0 hm0 => ?_
  simp -dsimp only [go_sem, k0.size, k0.isNode, k0.plain, l0.size, l0.isNode, l0.plain, k1, l1, bne_self_eq_false, Bool.not_true, Bool.not_false, Bool.false_eq_true, Bool.true_eq_false, false_imp_iff, true_and, and_true, forall_const, reduceCtorEq]
theorem eqHold_p (d d' : D) (x : Md.Hold) (h : IsHold d x) (h' : IsHold d' x) : PCall Tryz.prog 145 [d, d'] fun _ _ r => r = .lit (.bool true) := by
  obtain ⟨f, rfl, hst, k0, k1⟩ := h
  obtain ⟨f', rfl, hst', l0, l1⟩ := h'
  have k0 : f 0 = _ := k0
  have l0 : f' 0 = _ := l0
  have k1 : f 1 = _ := k1
  have l1 : f' 1 = _ := l1
  refine pcall_intro_v Tryz.func145 rfl (by decide) rfl (by decide) (by rw [Tryz.ntmps145]; simp) fun w0 M n0 => ivc_sound ?_; simp -dsimp only [Tryz.f145, go_sem, k0, l0, k1, l1, bne_self_eq_false, Bool.not_true, Bool.not_false, Bool.false_eq_true, Bool.true_eq_false, false_imp_iff, true_and, and_true, forall_const, reduceCtorEq]
theorem eqHoldS_p (d d' : D) (xs : List Md.Hold) (h : IsL 2 IsHold d xs) (h' : IsL 2 IsHold d' xs) : PCall Tryz.prog 70 [d, d'] fun _ _ r => r = .lit (.bool true) := by
  refine pcall_intro_v Tryz.func70 rfl (by decide) rfl (by decide) (by rw [Tryz.ntmps70]; simp) fun w0 M n0 => ivc_sound ?_; simp -dsimp only [Tryz.f70, go_sem, h.lenT, h'.lenT, bne_self_eq_false, Bool.not_true, Bool.not_false, Bool.false_eq_true, Bool.true_eq_false, false_imp_iff, true_and, and_true, forall_const, reduceCtorEq]
  refine iwp_forK xs.length [0, 1] (fun i s => s 5 = .lit (.int .i64 i)) 0 (Nat.zero_le _) (by simp -dsimp only [go_sem]; rfl) ?_
  rintro i n' s hi hn hk h5
  refine ivc_sound ?_
  by_cases hlt : i < xs.length
  · obtain ⟨t, zb, fi, rfl, hst, hf⟩ := h.sl hlt
    obtain ⟨t', zb', fi', rfl, hst', hf'⟩ := h'.sl hlt
    have hfi := hf i hlt
    have hfi' := hf' i hlt
    have q := shp_hold _ _ hfi
    have e1 := q.1
    have e2 := q.2.1
    have e4 := q.2.2.2
    have q' := shp_hold _ _ hfi'
    have k1 := q'.1
    have k2 := q'.2.1
    have k4 := q'.2.2.2
    have hw := i64_succ (i := i) (by have := h.short; omega)
    simp -dsimp only [go_sem] at hk
    simp -dsimp only [go_sem, hk, h5, hlt, hw]
    refine iwp_plan [(0, true), (1, true), (2, true), (3, true), (4, true), (5, true), (6, true), (7, true), (8, false), (9, true)] [] rfl (by decide +kernel) (by decide) [] (by decide +kernel) ?_
    simp -dsimp only [go_sem, hk, h5, hlt, hw, e1, e2, k1, k2, bne_self_eq_false, Bool.not_true, Bool.not_false, Bool.false_eq_true, Bool.true_eq_false, false_imp_iff, true_and, and_true, forall_const, reduceCtorEq]
    refine xcall_v (eqHold_p _ _ _ hfi hfi') (by simp -dsimp only [go_sem, rl_still, e4, k4]) (fun _ => trivial) fun n1 hn1 => ?_
    simp -dsimp only [go_sem, hk, h5, hlt, hw, bne_self_eq_false, Bool.not_true, Bool.not_false, Bool.false_eq_true, Bool.true_eq_false, false_imp_iff, true_and, and_true, forall_const, reduceCtorEq]
    exact into_k (by omega) (by simp -dsimp only [go_sem, hk]) (by simp -dsimp only [go_sem])
  · simp -dsimp only [go_sem] at hk
    simp -dsimp only [go_sem, hk, h5, hlt, h.lenT]
theorem eqPageA8_p (d d' : D) (xs : List Md.Page) (h : IsA 8 17 IsPage d xs) (h' : IsA 8 17 IsPage d' xs) : PCall Tryz.prog 66 [d, d'] fun _ _ r => r = .lit (.bool true) := by
  obtain ⟨hl, fi, rfl, hst, hf⟩ := h
  obtain ⟨hl', fi', rfl, hst', hf'⟩ := h'
  refine pcall_intro_v Tryz.func66 rfl (by decide) rfl (by decide) (by rw [Tryz.ntmps66]; simp) fun w0 M n0 => ivc_sound ?_; simp -dsimp only [Tryz.f66, go_sem, bne_self_eq_false, Bool.not_true, Bool.not_false, Bool.false_eq_true, Bool.true_eq_false, false_imp_iff, true_and, and_true, forall_const, reduceCtorEq]
  intro g1 b1 hb1 g2 b2 hb2
  refine iwp_forK 8 [2, 3] (fun i s => s 5 = .lit (.int .i64 i)) 0 (Nat.zero_le _) (by simp -dsimp only [go_sem]; rfl) ?_
  rintro i n' s hi hn hk h5
  refine ivc_sound ?_
  simp -dsimp only [go_sem] at hk
  by_cases hlt : i < 8
  · have hc : (i : Int) < 8 := by omega
    have hlt' : i < xs.length := by omega
    have hfi := hf i hlt'
    have hfi' := hf' i hlt'
    have q := shp_page _ _ hfi
    have e1 := q.1
    have e2 := q.2.1
    have e4 := q.2.2.2
    have q' := shp_page _ _ hfi'
    have k1 := q'.1
    have k2 := q'.2.1
    have k4 := q'.2.2.2
    have hw := i64_succ (i := i) (by omega)
    simp -dsimp only [go_sem, hk, h5, hlt, hc, hw]
    refine iwp_plan [(0, true), (1, true), (2, true), (3, true), (4, true), (5, true), (6, false), (7, true)] [2, 3] rfl (by decide +kernel) (by decide) [] (by decide +kernel) ?_
    simp -dsimp only [go_sem, hk, h5, hlt, hc, hw, e1, e2, k1, k2, bne_self_eq_false, Bool.not_true, Bool.not_false, Bool.false_eq_true, Bool.true_eq_false, false_imp_iff, true_and, and_true, forall_const, reduceCtorEq]
    refine xcall_v (eqPage_p _ _ _ hfi hfi') (by simp -dsimp only [go_sem, rl_still, e4, k4]) (fun _ => trivial) fun n1 hn1 => ?_
    simp -dsimp only [go_sem, hk, h5, hlt, hc, hw, bne_self_eq_false, Bool.not_true, Bool.not_false, Bool.false_eq_true, Bool.true_eq_false, false_imp_iff, true_and, and_true, forall_const, reduceCtorEq]
    exact into_k (by omega) (by simp -dsimp only [go_sem, hk]) (by simp -dsimp only [go_sem])
  · have hc : ¬ (i : Int) < 8 := by omega
    simp -dsimp only [go_sem, hk, h5, hlt, hc]
theorem eqEngine_p (d d' : D) (x : Md.Engine) (h : IsEngine d x) (h' : IsEngine d' x) : PCall Tryz.prog 17 [d, d'] fun _ _ r => r = .lit (.bool true) := by
  obtain ⟨f, rfl, hst, k0, k1, k2, k3, k4, k5, k6⟩ := h
  obtain ⟨f', rfl, hst', l0, l1, l2, l3, l4, l5, l6⟩ := h'
  have qk1 := shp_pool _ _ k1
  have xk1 := qk1.1
  have yk1 := qk1.2.1
  have wk1 := qk1.2.2.2
  have ql1 := shp_pool _ _ l1
  have xl1 := ql1.1
  have yl1 := ql1.2.1
  have wl1 := ql1.2.2.2
  have qk2 := shp_log _ _ k2
  have xk2 := qk2.1
  have yk2 := qk2.2.1
  have wk2 := qk2.2.2.2
  have ql2 := shp_log _ _ l2
  have xl2 := ql2.1
  have yl2 := ql2.2.1
  have wl2 := ql2.2.2.2
  have k5 : f 5 = _ := k5
  have l5 : f' 5 = _ := l5
  have k6 : f 6 = _ := k6
  have l6 : f' 6 = _ := l6
  refine pcall_intro_v Tryz.func17 rfl (by decide) rfl (by decide) (by rw [Tryz.ntmps17]; simp) fun w0 M n0 => ivc_sound ?_; simp -dsimp only [Tryz.f17, go_sem, k0.size, k0.isNode, k0.plain, l0.size, l0.isNode, l0.plain, xk1, yk1, xl1, yl1, xk2, yk2, xl2, yl2, k3.size, k3.isNode, k3.plain, l3.size, l3.isNode, l3.plain, k4.size, k4.isNode, k4.plain, l4.size, l4.isNode, l4.plain, k5, l5, k6, l6, bne_self_eq_false, Bool.not_true, Bool.not_false, Bool.false_eq_true, Bool.true_eq_false, false_imp_iff, true_and, and_true, forall_const, reduceCtorEq]
  intro g1 b1 hb1 g2 b2 hb2
  refine xcall_v (eqPageA8_p _ _ _ k0 l0) (by simp -dsimp only [go_sem, rl_still, k0.still, l0.still]) (fun _ => trivial) fun m0 hm0 => ?_
  simp -dsimp only [go_sem, k0.size, k0.isNode, k0.plain, l0.size, l0.isNode, l0.plain, xk1, yk1, xl1, yl1, xk2, yk2, xl2, yl2, k3.size, k3.isNode, k3.plain, l3.size, l3.isNode, l3.plain, k4.size, k4.isNode, k4.plain, l4.size, l4.isNode, l4.plain, k5, l5, k6, l6, bne_self_eq_false, Bool.not_true, Bool.not_false, Bool.false_eq_true, Bool.true_eq_false, false_imp_iff, true_and, and_true, forall_const, reduceCtorEq]
  refine xcall_v (eqPool_p _ _ _ k1 l1) (by simp -dsimp only [go_sem, rl_still, wk1, wl1]) (fun _ => trivial) fun m1 hm1 => ?_
  simp -dsimp only [go_sem, k0.size, k0.isNode, k0.plain, l0.size, l0.isNode, l0.plain, xk1, yk1, xl1, yl1, xk2, yk2, xl2, yl2, k3.size, k3.isNode, k3.plain, l3.size, l3.isNode, l3.plain, k4.size, k4.isNode, k4.plain, l4.size, l4.isNode, l4.plain, k5, l5, k6, l6, bne_self_eq_false, Bool.not_true, Bool.not_false, Bool.false_eq_true, Bool.true_eq_false, false_imp_iff, true_and, and_true, forall_const, reduceCtorEq]
  refine xcall_v (eqLog_p _ _ _ k2 l2) (by simp -dsimp only [go_sem, rl_still, wk2, wl2]) (fun _ => trivial) fun m2 hm2 => ?_
  simp -dsimp only [go_sem, k0.size, k0.isNode, k0.plain, l0.size, l0.isNode, l0.plain, xk1, yk1, xl1, yl1, xk2, yk2, xl2, yl2, k3.size, k3.isNode, k3.plain, l3.size, l3.isNode, l3.plain, k4.size, k4.isNode, k4.plain, l4.size, l4.isNode, l4.plain, k5, l5, k6, l6, bne_self_eq_false, Bool.not_true, Bool.not_false, Bool.false_eq_true, Bool.true_eq_false, false_imp_iff, true_and, and_true, forall_const, reduceCtorEq]
  refine xcall_v (eqLiveS_p _ _ _ k3 l3) (by simp -dsimp only [go_sem, rl_still, k3.still, l3.still]) (fun _ => trivial) fun m3 hm3 => ?_
  simp -dsimp only [go_sem, k0.size, k0.isNode, k0.plain, l0.size, l0.isNode, l0.plain, xk1, yk1, xl1, yl1, xk2, yk2, xl2, yl2, k3.size, k3.isNode, k3.plain, l3.size, l3.isNode, l3.plain, k4.size, k4.isNode, k4.plain, l4.size, l4.isNode, l4.plain, k5, l5, k6, l6, bne_self_eq_false, Bool.not_true, Bool.not_false, Bool.false_eq_true, Bool.true_eq_false, false_imp_iff, true_and, and_true, forall_const, reduceCtorEq]
  refine xcall_v (eqHoldS_p _ _ _ k4 l4) (by simp -dsimp only [go_sem, rl_still, k4.still, l4.still]) (fun _ => trivial) fun m4 hm4 => ?_
  simp -dsimp only [go_sem, k0.size, k0.isNode, k0.plain, l0.size, l0.isNode, l0.plain, xk1, yk1, xl1, yl1, xk2, yk2, xl2, yl2, k3.size, k3.isNode, k3.plain, l3.size, l3.isNode, l3.plain, k4.size, k4.isNode, k4.plain, l4.size, l4.isNode, l4.plain, k5, l5, k6, l6, bne_self_eq_false, Bool.not_true, Bool.not_false, Bool.false_eq_true, Bool.true_eq_false, false_imp_iff, true_and, and_true, forall_const, reduceCtorEq]
end Go.Proofs.YtncinhlaabdlaaaGreat.IM
end
