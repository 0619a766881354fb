/- Several of my texts in one module (merge.py, shake.py). -/
import GoSem.ClaimWrapper
import Derived.JoinedOf
import Derived.Test.YtncinhlaabdlaaaGreatChecked
import Derived.KernelRfl
section
namespace Go.Proofs.YtncinhlaabdlaaaGreat.IM
open Go
def wordsN : List Nat → List (List Nat)
  | [] => [[]]
  | c :: r => if c = 32 then [] :: wordsN r else match wordsN r with
    | w :: ws => (c :: w) :: ws
    | [] => [[c]]
theorem space_all : (List.range 128).all (fun c => decide (Char.ofNat c = Char.ofNat 32) == decide (c = 32)) = true := by decide +kernel
theorem ofNat_space {c : Nat} (h : c < 128) : Char.ofNat c = Char.ofNat 32 ↔ c = 32 := by
  have := List.all_eq_true.1 space_all c (List.mem_range.2 h)
  simpa using this
theorem wordsN_cons (c : Nat) (r : List Nat) : wordsN (c :: r) = if c = 32 then [] :: wordsN r else match wordsN r with
    | w :: ws => (c :: w) :: ws
    | [] => [[c]] := by rw [wordsN]
theorem wordsSigns_cons (c : Char) (r : List Char) : wordsSigns (c :: r) = if c = Char.ofNat 32 then [] :: wordsSigns r else match wordsSigns r with
    | w :: ws => (c :: w) :: ws
    | [] => [[c]] := by
  by_cases h : c = Char.ofNat 32
  · rw [if_pos h, h]; rfl
  · rw [if_neg h]
    exact wordsSigns.eq_3 c r (fun he => h he)
theorem wordsSigns_nat : ∀ {l : List Nat}, (l.all (· < 128)) = true → wordsSigns (l.map Char.ofNat) = (wordsN l).map (List.map Char.ofNat)
  | [], _ => rfl
  | c :: r, h => by
    simp only [List.all_cons, Bool.and_eq_true, decide_eq_true_eq] at h
    rw [List.map_cons, wordsSigns_cons, wordsSigns_nat (l := r) h.2]
    rw [wordsN_cons]
    by_cases hc : c = 32
    · rw [if_pos ((ofNat_space h.1).2 hc), if_pos hc]; rfl
    · rw [if_neg (fun he => hc ((ofNat_space h.1).1 he)), if_neg hc]
      cases wordsN r <;> rfl
theorem cg : ("cut".toList == "gc".toList) = false := by decide +kernel
theorem cs : ("cut".toList == "spec".toList) = false := by decide +kernel
theorem cc : ("cut".toList == "carried".toList) = false := by decide +kernel
theorem words_cut {W : List (List Nat)} (h1 : W = [104, 97, 114, 110, 101, 115, 115] :: W.getD 1 [] :: [99, 117, 116] :: W.drop 3) (h2 : isSumSigns ((W.getD 1 []).map Char.ofNat) = true) :
    behindMainWord (W.map (List.map Char.ofNat)) = "cut".toList :: (W.drop 3).map (List.map Char.ofNat) := by
  have h3 : List.map Char.ofNat [104, 97, 114, 110, 101, 115, 115] = "harness".toList := by decide +kernel
  have h4 : List.map Char.ofNat [99, 117, 116] = "cut".toList := by decide +kernel
  rw [h1]
  simp only [List.map_cons, behindMainWord, h2, h3, h4, beq_self_eq_true, Bool.true_or, Bool.and_self, if_true]
  rfl
theorem strip_cut (ws : List (List Char)) : stripLifts liftWords ("cut".toList :: ws) = ([], "cut".toList :: ws) := by
  have h : ∀ (l : List String), (l.all fun o => !("cut".toList == o.toList)) = true → stripLifts l ("cut".toList :: ws) = ([], "cut".toList :: ws) := by
    intro l
    induction l with
    | nil => intro _; rfl
    | cons o os ih =>
      intro h
      simp only [List.all_cons, Bool.and_eq_true, Bool.not_eq_true'] at h
      rw [stripLifts, h.1]
      simpa using ih h.2
  exact h _ (by decide +kernel)
section
variable (P : Program) (rest : List (List Char)) (h : behindMainWord (wordsSigns P.initOrder.toList) = "cut".toList :: rest)
include h
theorem make_gen : P.make = some .cut := by
  unfold Program.make
  rw [h]
  simp only [cg, cs, beq_self_eq_true, Bool.or_self, Bool.true_or, if_true, Bool.false_eq_true, if_false]
theorem headLifts_gen : P.headLifts = [] := by
  unfold Program.headLifts
  rw [h, strip_cut]
  dsimp only
  split <;> rfl
theorem lifts_gen : P.liftsFinal = false := by
  unfold Program.liftsFinal
  rw [headLifts_gen P rest h, h]
  dsimp only
  have h1 : (("cut".toList :: rest).head? == some "carried".toList) = false := by
    show (some "cut".toList == some "carried".toList) = false
    decide +kernel
  rw [h1]
  rfl
theorem may_gen (ll : P.laysLater = false) (lr : P.bearsReflect = false) (ld : P.doorFits [] = true) : P.mayEnter = true := by
  unfold Program.mayEnter
  rw [h]
  dsimp only
  rw [strip_cut, ll, lr]
  simp only [cg, cs, cc, ld]
  have h1 : (("cut".toList :: rest).head? == some "cut".toList) = true := by
    show (some "cut".toList == some "cut".toList) = true
    decide +kernel
  rw [h1]
  rfl
end
def restFacts (P : Program) (f : FuncId) (fn : Func) (s : ChangeSpec) (c : OpenClaim) : { b : Bool // P.mayEnter = true → (c.lifted == P.liftsFinal) = true → (P.make == some c.make) = true → b = true → joinedFacts P f fn s c = true } := by
  refine ⟨?_, fun h1 h2 h3 h => ?_⟩
  rotate_left
  · unfold joinedFacts
    rw [h1, h2, h3]
    exact h
theorem joined_of {P : Program} {f : FuncId} {fn : Func} {s : ChangeSpec} {c : OpenClaim} (rest : List (List Char)) (h : behindMainWord (wordsSigns P.initOrder.toList) = "cut".toList :: rest)
    (ll : P.laysLater = false) (lr : P.bearsReflect = false) (ld : P.doorFits [] = true) (cl : (c.lifted == false) = true) (cm : (some Make.cut == some c.make) = true) (k : (restFacts P f fn s c).1 = true) : joinedFacts P f fn s c = true :=
  (restFacts P f fn s c).2 (may_gen P rest h ll lr ld) (by rw [lifts_gen P rest h]; exact cl) (by rw [make_gen P rest h]; exact cm) k
end Go.Proofs.YtncinhlaabdlaaaGreat.IM
end
section
namespace Go.Proofs.YtncinhlaabdlaaaGreat.IM
open Go Go.Proofs
def signs : List Nat := [104, 97, 114, 110, 101, 115, 115, 32, 57, 102, 98, 56, 54, 49, 102, 49, 54, 100, 48, 98, 49, 53, 57, 100, 101, 55, 50, 101, 52, 48, 51, 49, 99, 50, 101, 50, 98, 50, 53, 100, 56, 52, 57, 53, 98, 100, 102, 99, 57, 101, 99, 48, 57, 57, 97, 49, 102, 97, 102, 53, 100, 57, 49, 57, 99, 51, 53, 100, 56, 97, 100, 57, 32, 99, 117, 116, 32, 97, 116, 32, 108, 111, 111, 112, 46, 101, 120, 97, 109, 112, 108, 101, 47, 103, 48, 48, 49, 56, 49, 47, 108, 97, 119, 115, 46, 70, 110, 69, 120, 97, 99, 116, 83, 101, 116, 32, 108, 111, 111, 112, 46, 101, 120, 97, 109, 112, 108, 101, 47, 103, 48, 48, 49, 56, 49, 47, 108, 97, 119, 115, 46, 70, 110, 69, 120, 97, 99, 116, 82, 101, 115, 116, 97, 114, 116, 32, 108, 111, 111, 112, 46, 101, 120, 97, 109, 112, 108, 101, 47, 103, 48, 48, 49, 56, 49, 47, 108, 97, 119, 115, 46, 70, 110, 69, 120, 97, 99, 116, 66, 101, 103, 105, 110, 32, 108, 111, 111, 112, 46, 101, 120, 97, 109, 112, 108, 101, 47, 103, 48, 48, 49, 56, 49, 47, 108, 97, 119, 115, 46, 70, 110, 69, 120, 97, 99, 116, 67, 114, 97, 115, 104, 32, 108, 111, 111, 112, 46, 101, 120, 97, 109, 112, 108, 101, 47, 103, 48, 48, 49, 56, 49, 47, 108, 97, 119, 115, 46, 70, 110, 69, 120, 97, 99, 116, 67, 104, 101, 99, 107, 32, 108, 111, 111, 112, 46, 101, 120, 97, 109, 112, 108, 101, 47, 103, 48, 48, 49, 56, 49, 47, 108, 97, 119, 115, 46, 70, 110, 69, 120, 97, 99, 116, 70, 108, 117, 115, 104, 32, 108, 111, 111, 112, 46, 101, 120, 97, 109, 112, 108, 101, 47, 103, 48, 48, 49, 56, 49, 47, 108, 97, 119, 115, 46, 70, 110, 69, 120, 97, 99, 116, 67, 111, 109, 109, 105, 116, 32, 108, 111, 111, 112, 46, 101, 120, 97, 109, 112, 108, 101, 47, 103, 48, 48, 49, 56, 49, 47, 108, 97, 119, 115, 46, 70, 110, 69, 120, 97, 99, 116, 71, 101, 116]
def words : List (List Nat) := [[104, 97, 114, 110, 101, 115, 115], [57, 102, 98, 56, 54, 49, 102, 49, 54, 100, 48, 98, 49, 53, 57, 100, 101, 55, 50, 101, 52, 48, 51, 49, 99, 50, 101, 50, 98, 50, 53, 100, 56, 52, 57, 53, 98, 100, 102, 99, 57, 101, 99, 48, 57, 57, 97, 49, 102, 97, 102, 53, 100, 57, 49, 57, 99, 51, 53, 100, 56, 97, 100, 57], [99, 117, 116], [97, 116], [108, 111, 111, 112, 46, 101, 120, 97, 109, 112, 108, 101, 47, 103, 48, 48, 49, 56, 49, 47, 108, 97, 119, 115, 46, 70, 110, 69, 120, 97, 99, 116, 83, 101, 116], [108, 111, 111, 112, 46, 101, 120, 97, 109, 112, 108, 101, 47, 103, 48, 48, 49, 56, 49, 47, 108, 97, 119, 115, 46, 70, 110, 69, 120, 97, 99, 116, 82, 101, 115, 116, 97, 114, 116], [108, 111, 111, 112, 46, 101, 120, 97, 109, 112, 108, 101, 47, 103, 48, 48, 49, 56, 49, 47, 108, 97, 119, 115, 46, 70, 110, 69, 120, 97, 99, 116, 66, 101, 103, 105, 110], [108, 111, 111, 112, 46, 101, 120, 97, 109, 112, 108, 101, 47, 103, 48, 48, 49, 56, 49, 47, 108, 97, 119, 115, 46, 70, 110, 69, 120, 97, 99, 116, 67, 114, 97, 115, 104], [108, 111, 111, 112, 46, 101, 120, 97, 109, 112, 108, 101, 47, 103, 48, 48, 49, 56, 49, 47, 108, 97, 119, 115, 46, 70, 110, 69, 120, 97, 99, 116, 67, 104, 101, 99, 107], [108, 111, 111, 112, 46, 101, 120, 97, 109, 112, 108, 101, 47, 103, 48, 48, 49, 56, 49, 47, 108, 97, 119, 115, 46, 70, 110, 69, 120, 97, 99, 116, 70, 108, 117, 115, 104], [108, 111, 111, 112, 46, 101, 120, 97, 109, 112, 108, 101, 47, 103, 48, 48, 49, 56, 49, 47, 108, 97, 119, 115, 46, 70, 110, 69, 120, 97, 99, 116, 67, 111, 109, 109, 105, 116], [108, 111, 111, 112, 46, 101, 120, 97, 109, 112, 108, 101, 47, 103, 48, 48, 49, 56, 49, 47, 108, 97, 119, 115, 46, 70, 110, 69, 120, 97, 99, 116, 71, 101, 116]]
theorem head_io : Tryz.checked.prog.initOrder = String.ofList (signs.map Char.ofNat) := by kernel_rfl
theorem head_wd : wordsN signs = words := by decide +kernel
theorem head_words : wordsSigns Tryz.checked.prog.initOrder.toList = words.map (List.map Char.ofNat) := by rw [head_io, String.toList_ofList, wordsSigns_nat (by decide +kernel), head_wd]
theorem head_cut : behindMainWord (wordsSigns Tryz.checked.prog.initOrder.toList) = "cut".toList :: (words.drop 3).map (List.map Char.ofNat) := head_words ▸ words_cut (by decide +kernel) (by decide +kernel)
theorem head_ll : Tryz.checked.prog.laysLater = false := by kernel_rfl
theorem head_lr : Tryz.checked.prog.bearsReflect = false := by kernel_rfl
theorem head_ld : Tryz.checked.prog.doorFits [] = true := by kernel_rfl
end Go.Proofs.YtncinhlaabdlaaaGreat.IM
end
