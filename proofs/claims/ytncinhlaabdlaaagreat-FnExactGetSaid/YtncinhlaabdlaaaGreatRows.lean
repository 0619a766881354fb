/-
  No cell of these rows narrows 'for every input' (looked for: loops, veiled, ifaces, maps, wideKeys, modest, calm, conditions, laid).
  DERIVED. THE GIVEN ROWS OF THIS SEAT. 8 by the template 'for every input the law returns true; each argument reads behind the call as it read before'; 0 by the template 'total and deterministic' (their statements: YtncinhlaabdlaaaGreatTotals.lean).
  GIVEN WITH THE SEED: the statements are not yours to turn. If you find one false, say at which input.
  Laid BY PROGRAM, IN A SANDBOX (cutbox-rows.mjs): the forced cells as the released guide's own fill.sh prints them over the translation 953cd51e35d00d82… (all of the seat's roots in one cut). By AI agents, Wed Nov 11 2026. No macro, syntax, notation, axiom, sorry.
-/
import Derived.Test.YtncinhlaabdlaaaGreatChecked
import GoSem.Claim
import GoSem.ClaimJoined
import GoSem.ClaimMapViews
import Derived.JoinedTies
import Derived.KernelRfl
namespace Go.Proofs.YtncinhlaabdlaaaGreat
/- THE CELL 'sum', in the pinned program and in every row, IS THE sha256 OF THE DUMP (.gsa) THAT YtncinhlaabdlaaaGreatProg.lean LOADS. Nothing in Lean hashes anything: it is a label: what it is worth is what the hold of that sum in a sandbox is worth. -/
noncomputable def Tryz.pinned : Pinned := { name := "ytncinhlaabdlaaagreat", sum := "953cd51e35d00d82805fb72d7148b917d800baacfebf62e75e54623970baf36e", checked := Tryz.checked }
namespace Rows
def none {H : Type} : Left H := { results := [], args := [] }

/-- 'laws.FnExactSet': WHATEVER THE INPUT: true; the input reads as it did. -/
def fnExactSetSpec : ChangeSpec := { name := "fnExactSet", fn := fun _ => fun
  | [d1, d2, d3, d4] => { results := [.lit (.bool true)], args := [d1, d2, d3, d4] }
  | _ => none }
def fnExactSetRow : OpenClaim := { program := "ytncinhlaabdlaaagreat", sum := "953cd51e35d00d82805fb72d7148b917d800baacfebf62e75e54623970baf36e", func := "loop.example/g00181/laws.FnExactSet", spec := "fnExactSet", unfollowed := true, recurses := true, apart := false }
def FnExactSetSaid : Prop := fnExactSetRow.holds Tryz.pinned (OpenSpec.ofChange fnExactSetSpec)

/-- ITS FALSE NEIGHBOUR: 'it returns false'. Refute it at one input. -/
def fnExactSetWrong : ChangeSpec := { name := "fnExactSet", fn := fun _ => fun
  | [d1, d2, d3, d4] => { results := [.lit (.bool false)], args := [d1, d2, d3, d4] }
  | _ => none }
def FnExactSetWrongFalsely : Prop := fnExactSetRow.holds Tryz.pinned (OpenSpec.ofChange fnExactSetWrong)

/-- 'laws.FnExactRestart': WHATEVER THE INPUT: true; the input reads as it did. -/
def fnExactRestartSpec : ChangeSpec := { name := "fnExactRestart", fn := fun _ => fun
  | [d1, d2] => { results := [.lit (.bool true)], args := [d1, d2] }
  | _ => none }
def fnExactRestartRow : OpenClaim := { program := "ytncinhlaabdlaaagreat", sum := "953cd51e35d00d82805fb72d7148b917d800baacfebf62e75e54623970baf36e", func := "loop.example/g00181/laws.FnExactRestart", spec := "fnExactRestart", inPlace := ["slices.overlaps[loop.example/g00181/impl.Live]"], unfollowed := true, recurses := true, apart := false }
def FnExactRestartSaid : Prop := fnExactRestartRow.holds Tryz.pinned (OpenSpec.ofChange fnExactRestartSpec)

/-- ITS FALSE NEIGHBOUR: 'it returns false'. Refute it at one input. -/
def fnExactRestartWrong : ChangeSpec := { name := "fnExactRestart", fn := fun _ => fun
  | [d1, d2] => { results := [.lit (.bool false)], args := [d1, d2] }
  | _ => none }
def FnExactRestartWrongFalsely : Prop := fnExactRestartRow.holds Tryz.pinned (OpenSpec.ofChange fnExactRestartWrong)

/-- 'laws.FnExactBegin': WHATEVER THE INPUT: true; the input reads as it did. -/
def fnExactBeginSpec : ChangeSpec := { name := "fnExactBegin", fn := fun _ => fun
  | [d] => { results := [.lit (.bool true)], args := [d] }
  | _ => none }
def fnExactBeginRow : OpenClaim := { program := "ytncinhlaabdlaaagreat", sum := "953cd51e35d00d82805fb72d7148b917d800baacfebf62e75e54623970baf36e", func := "loop.example/g00181/laws.FnExactBegin", spec := "fnExactBegin", unfollowed := true, recurses := true, apart := false }
def FnExactBeginSaid : Prop := fnExactBeginRow.holds Tryz.pinned (OpenSpec.ofChange fnExactBeginSpec)

/-- ITS FALSE NEIGHBOUR: 'it returns false'. Refute it at one input. -/
def fnExactBeginWrong : ChangeSpec := { name := "fnExactBegin", fn := fun _ => fun
  | [d] => { results := [.lit (.bool false)], args := [d] }
  | _ => none }
def FnExactBeginWrongFalsely : Prop := fnExactBeginRow.holds Tryz.pinned (OpenSpec.ofChange fnExactBeginWrong)

/-- 'laws.FnExactCrash': WHATEVER THE INPUT: true; the input reads as it did. -/
def fnExactCrashSpec : ChangeSpec := { name := "fnExactCrash", fn := fun _ => fun
  | [d1, d2] => { results := [.lit (.bool true)], args := [d1, d2] }
  | _ => none }
def fnExactCrashRow : OpenClaim := { program := "ytncinhlaabdlaaagreat", sum := "953cd51e35d00d82805fb72d7148b917d800baacfebf62e75e54623970baf36e", func := "loop.example/g00181/laws.FnExactCrash", spec := "fnExactCrash", unfollowed := true, recurses := true, apart := false }
def FnExactCrashSaid : Prop := fnExactCrashRow.holds Tryz.pinned (OpenSpec.ofChange fnExactCrashSpec)

/-- ITS FALSE NEIGHBOUR: 'it returns false'. Refute it at one input. -/
def fnExactCrashWrong : ChangeSpec := { name := "fnExactCrash", fn := fun _ => fun
  | [d1, d2] => { results := [.lit (.bool false)], args := [d1, d2] }
  | _ => none }
def FnExactCrashWrongFalsely : Prop := fnExactCrashRow.holds Tryz.pinned (OpenSpec.ofChange fnExactCrashWrong)

/-- 'laws.FnExactCheck': WHATEVER THE INPUT: true; the input reads as it did. -/
def fnExactCheckSpec : ChangeSpec := { name := "fnExactCheck", fn := fun _ => fun
  | [d] => { results := [.lit (.bool true)], args := [d] }
  | _ => none }
def fnExactCheckRow : OpenClaim := { program := "ytncinhlaabdlaaagreat", sum := "953cd51e35d00d82805fb72d7148b917d800baacfebf62e75e54623970baf36e", func := "loop.example/g00181/laws.FnExactCheck", spec := "fnExactCheck", unfollowed := true, recurses := true, apart := false }
def FnExactCheckSaid : Prop := fnExactCheckRow.holds Tryz.pinned (OpenSpec.ofChange fnExactCheckSpec)

/-- ITS FALSE NEIGHBOUR: 'it returns false'. Refute it at one input. -/
def fnExactCheckWrong : ChangeSpec := { name := "fnExactCheck", fn := fun _ => fun
  | [d] => { results := [.lit (.bool false)], args := [d] }
  | _ => none }
def FnExactCheckWrongFalsely : Prop := fnExactCheckRow.holds Tryz.pinned (OpenSpec.ofChange fnExactCheckWrong)

/-- 'laws.FnExactFlush': WHATEVER THE INPUT: true; the input reads as it did. -/
def fnExactFlushSpec : ChangeSpec := { name := "fnExactFlush", fn := fun _ => fun
  | [d1, d2] => { results := [.lit (.bool true)], args := [d1, d2] }
  | _ => none }
def fnExactFlushRow : OpenClaim := { program := "ytncinhlaabdlaaagreat", sum := "953cd51e35d00d82805fb72d7148b917d800baacfebf62e75e54623970baf36e", func := "loop.example/g00181/laws.FnExactFlush", spec := "fnExactFlush", unfollowed := true, recurses := true, apart := false }
def FnExactFlushSaid : Prop := fnExactFlushRow.holds Tryz.pinned (OpenSpec.ofChange fnExactFlushSpec)

/-- ITS FALSE NEIGHBOUR: 'it returns false'. Refute it at one input. -/
def fnExactFlushWrong : ChangeSpec := { name := "fnExactFlush", fn := fun _ => fun
  | [d1, d2] => { results := [.lit (.bool false)], args := [d1, d2] }
  | _ => none }
def FnExactFlushWrongFalsely : Prop := fnExactFlushRow.holds Tryz.pinned (OpenSpec.ofChange fnExactFlushWrong)

/-- 'laws.FnExactCommit': WHATEVER THE INPUT: true; the input reads as it did. -/
def fnExactCommitSpec : ChangeSpec := { name := "fnExactCommit", fn := fun _ => fun
  | [d1, d2] => { results := [.lit (.bool true)], args := [d1, d2] }
  | _ => none }
def fnExactCommitRow : OpenClaim := { program := "ytncinhlaabdlaaagreat", sum := "953cd51e35d00d82805fb72d7148b917d800baacfebf62e75e54623970baf36e", func := "loop.example/g00181/laws.FnExactCommit", spec := "fnExactCommit", unfollowed := true, recurses := true, apart := false }
def FnExactCommitSaid : Prop := fnExactCommitRow.holds Tryz.pinned (OpenSpec.ofChange fnExactCommitSpec)

/-- ITS FALSE NEIGHBOUR: 'it returns false'. Refute it at one input. -/
def fnExactCommitWrong : ChangeSpec := { name := "fnExactCommit", fn := fun _ => fun
  | [d1, d2] => { results := [.lit (.bool false)], args := [d1, d2] }
  | _ => none }
def FnExactCommitWrongFalsely : Prop := fnExactCommitRow.holds Tryz.pinned (OpenSpec.ofChange fnExactCommitWrong)

/-- 'laws.FnExactGet': WHATEVER THE INPUT: true; the input reads as it did. -/
def fnExactGetSpec : ChangeSpec := { name := "fnExactGet", fn := fun _ => fun
  | [d1, d2] => { results := [.lit (.bool true)], args := [d1, d2] }
  | _ => none }
def fnExactGetRow : OpenClaim := { program := "ytncinhlaabdlaaagreat", sum := "953cd51e35d00d82805fb72d7148b917d800baacfebf62e75e54623970baf36e", func := "loop.example/g00181/laws.FnExactGet", spec := "fnExactGet", unfollowed := true, recurses := true, apart := false }
def FnExactGetSaid : Prop := fnExactGetRow.holds Tryz.pinned (OpenSpec.ofChange fnExactGetSpec)

/-- ITS FALSE NEIGHBOUR: 'it returns false'. Refute it at one input. -/
def fnExactGetWrong : ChangeSpec := { name := "fnExactGet", fn := fun _ => fun
  | [d1, d2] => { results := [.lit (.bool false)], args := [d1, d2] }
  | _ => none }
def FnExactGetWrongFalsely : Prop := fnExactGetRow.holds Tryz.pinned (OpenSpec.ofChange fnExactGetWrong)

/- THE SECOND FORM. 'bulk': how many values and letters a reading holds, each counted each time it is reached (what is shared counts as often as it is met; a slice's spare places count too). A statement '..UptoSaid' is the law's where the arguments, and the package variables that the reading takes, are together of bulk at most 1048576: NARROWER than '..Said'. Prove '..Said' where nothing that the law and all that it calls make is longer than what came in: it says more and counts as full. Else prove '..UptoSaid'. A law counts once. -/
mutual
def uptoBulk {H : Type} : DataW H → Nat
  | .lit (.string bytes) => bytes.length + 1
  | .lit _ => 1
  | .nil => 1
  | .ptr d => uptoBulk d + 1
  | .slice elems spare => uptoBulkAll elems + uptoBulkAll spare + 1
  | .agg parts => uptoBulkAll parts + 1
  | .iface _ d => uptoBulk d + 1
  | .map entries => uptoBulkEntries entries + 1
  | .held _ => 1
def uptoBulkAll {H : Type} : List (DataW H) → Nat
  | [] => 0
  | d :: r => uptoBulk d + uptoBulkAll r
def uptoBulkEntries {H : Type} : List (Lit × DataW H) → Nat
  | [] => 0
  | x :: r => uptoBulkEntry x + uptoBulkEntries r
def uptoBulkEntry {H : Type} : Lit × DataW H → Nat
  | (.string bytes, d) => bytes.length + uptoBulk d + 1
  | (_, d) => uptoBulk d + 1
 end
def uptoSmall : (H : Type) → List (DataW H) → Bool := fun _ ds => decide (uptoBulkAll ds ≤ 1048576)
def OpenSpec.upto (s : _root_.Go.ChangeSpec) : _root_.Go.OpenSpec := { _root_.Go.OpenSpec.ofChange s with cond := some uptoSmall }

/-- 'laws.FnExactSet', WHERE WHAT IT READS IS OF BULK AT MOST 1048576: true; the input reads as it did. -/
def fnExactSetUptoRow : OpenClaim := { program := "ytncinhlaabdlaaagreat", sum := "953cd51e35d00d82805fb72d7148b917d800baacfebf62e75e54623970baf36e", func := "loop.example/g00181/laws.FnExactSet", spec := "fnExactSet", unfollowed := true, recurses := true, apart := false, narrowed := true }
def FnExactSetUptoSaid : Prop := fnExactSetUptoRow.holds Tryz.pinned (OpenSpec.upto fnExactSetSpec)

/-- 'laws.FnExactRestart', WHERE WHAT IT READS IS OF BULK AT MOST 1048576: true; the input reads as it did. -/
def fnExactRestartUptoRow : OpenClaim := { program := "ytncinhlaabdlaaagreat", sum := "953cd51e35d00d82805fb72d7148b917d800baacfebf62e75e54623970baf36e", func := "loop.example/g00181/laws.FnExactRestart", spec := "fnExactRestart", inPlace := ["slices.overlaps[loop.example/g00181/impl.Live]"], unfollowed := true, recurses := true, apart := false, narrowed := true }
def FnExactRestartUptoSaid : Prop := fnExactRestartUptoRow.holds Tryz.pinned (OpenSpec.upto fnExactRestartSpec)

/-- 'laws.FnExactBegin', WHERE WHAT IT READS IS OF BULK AT MOST 1048576: true; the input reads as it did. -/
def fnExactBeginUptoRow : OpenClaim := { program := "ytncinhlaabdlaaagreat", sum := "953cd51e35d00d82805fb72d7148b917d800baacfebf62e75e54623970baf36e", func := "loop.example/g00181/laws.FnExactBegin", spec := "fnExactBegin", unfollowed := true, recurses := true, apart := false, narrowed := true }
def FnExactBeginUptoSaid : Prop := fnExactBeginUptoRow.holds Tryz.pinned (OpenSpec.upto fnExactBeginSpec)

/-- 'laws.FnExactCrash', WHERE WHAT IT READS IS OF BULK AT MOST 1048576: true; the input reads as it did. -/
def fnExactCrashUptoRow : OpenClaim := { program := "ytncinhlaabdlaaagreat", sum := "953cd51e35d00d82805fb72d7148b917d800baacfebf62e75e54623970baf36e", func := "loop.example/g00181/laws.FnExactCrash", spec := "fnExactCrash", unfollowed := true, recurses := true, apart := false, narrowed := true }
def FnExactCrashUptoSaid : Prop := fnExactCrashUptoRow.holds Tryz.pinned (OpenSpec.upto fnExactCrashSpec)

/-- 'laws.FnExactCheck', WHERE WHAT IT READS IS OF BULK AT MOST 1048576: true; the input reads as it did. -/
def fnExactCheckUptoRow : OpenClaim := { program := "ytncinhlaabdlaaagreat", sum := "953cd51e35d00d82805fb72d7148b917d800baacfebf62e75e54623970baf36e", func := "loop.example/g00181/laws.FnExactCheck", spec := "fnExactCheck", unfollowed := true, recurses := true, apart := false, narrowed := true }
def FnExactCheckUptoSaid : Prop := fnExactCheckUptoRow.holds Tryz.pinned (OpenSpec.upto fnExactCheckSpec)

/-- 'laws.FnExactFlush', WHERE WHAT IT READS IS OF BULK AT MOST 1048576: true; the input reads as it did. -/
def fnExactFlushUptoRow : OpenClaim := { program := "ytncinhlaabdlaaagreat", sum := "953cd51e35d00d82805fb72d7148b917d800baacfebf62e75e54623970baf36e", func := "loop.example/g00181/laws.FnExactFlush", spec := "fnExactFlush", unfollowed := true, recurses := true, apart := false, narrowed := true }
def FnExactFlushUptoSaid : Prop := fnExactFlushUptoRow.holds Tryz.pinned (OpenSpec.upto fnExactFlushSpec)

/-- 'laws.FnExactCommit', WHERE WHAT IT READS IS OF BULK AT MOST 1048576: true; the input reads as it did. -/
def fnExactCommitUptoRow : OpenClaim := { program := "ytncinhlaabdlaaagreat", sum := "953cd51e35d00d82805fb72d7148b917d800baacfebf62e75e54623970baf36e", func := "loop.example/g00181/laws.FnExactCommit", spec := "fnExactCommit", unfollowed := true, recurses := true, apart := false, narrowed := true }
def FnExactCommitUptoSaid : Prop := fnExactCommitUptoRow.holds Tryz.pinned (OpenSpec.upto fnExactCommitSpec)

/-- 'laws.FnExactGet', WHERE WHAT IT READS IS OF BULK AT MOST 1048576: true; the input reads as it did. -/
def fnExactGetUptoRow : OpenClaim := { program := "ytncinhlaabdlaaagreat", sum := "953cd51e35d00d82805fb72d7148b917d800baacfebf62e75e54623970baf36e", func := "loop.example/g00181/laws.FnExactGet", spec := "fnExactGet", unfollowed := true, recurses := true, apart := false, narrowed := true }
def FnExactGetUptoSaid : Prop := fnExactGetUptoRow.holds Tryz.pinned (OpenSpec.upto fnExactGetSpec)

end Rows
end Go.Proofs.YtncinhlaabdlaaaGreat
