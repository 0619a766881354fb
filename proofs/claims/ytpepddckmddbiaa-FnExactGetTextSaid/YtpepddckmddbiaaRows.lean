/-
  No cell of these rows narrows 'for every input' (looked for: loops, veiled, ifaces, maps, wideKeys, modest, calm, conditions, laid).
  DERIVED. THE GIVEN ROWS OF THIS SEAT. 30 by the template 'for every input the law returns true; each argument reads behind the call as it read before'; 0 by the template 'total and deterministic' (their statements: YtpepddckmddbiaaTotals.lean).
  GIVEN WITH THE SEED: the statements are not yours to turn. If you find one false, say at which input.
  Laid BY PROGRAM, IN A SANDBOX (cutbox-rows.mjs): the forced cells as the released guide's own fill.sh prints them over the translation 4dd3cfc134d6c188… (all of the seat's roots in one cut). By AI agents, Wed Nov 11 2026. No macro, syntax, notation, axiom, sorry.
-/
import Derived.Test.YtpepddckmddbiaaChecked
import GoSem.Claim
import GoSem.ClaimJoined
import GoSem.ClaimMapViews
import Derived.JoinedTies
import Derived.KernelRfl
namespace Go.Proofs.Ytpepddckmddbiaa
/- THE CELL 'sum', in the pinned program and in every row, IS THE sha256 OF THE DUMP (.gsa) THAT YtpepddckmddbiaaProg.lean LOADS. Nothing in Lean hashes anything: it is a label: what it is worth is what the hold of that sum in a sandbox is worth. -/
noncomputable def Try.pinned : Pinned := { name := "ytpepddckmddbiaa", sum := "4dd3cfc134d6c188e8d61dae7f60141ec83b71354e36d7801f545fee5dfd7b8b", checked := Try.checked }
namespace Rows
def none {H : Type} : Left H := { results := [], args := [] }

/-- 'laws.FnModes': WHATEVER THE INPUT: true; the input reads as it did. -/
def fnModesSpec : ChangeSpec := { name := "fnModes", fn := fun _ => fun
  | [d] => { results := [.lit (.bool true)], args := [d] }
  | _ => none }
def fnModesRow : OpenClaim := { program := "ytpepddckmddbiaa", sum := "4dd3cfc134d6c188e8d61dae7f60141ec83b71354e36d7801f545fee5dfd7b8b", func := "loop.example/g00181/laws.FnModes", spec := "fnModes", apart := false }
def FnModesSaid : Prop := fnModesRow.holds Try.pinned (OpenSpec.ofChange fnModesSpec)

/-- ITS FALSE NEIGHBOUR: 'it returns false'. Refute it at one input. -/
def fnModesWrong : ChangeSpec := { name := "fnModes", fn := fun _ => fun
  | [d] => { results := [.lit (.bool false)], args := [d] }
  | _ => none }
def FnModesWrongFalsely : Prop := fnModesRow.holds Try.pinned (OpenSpec.ofChange fnModesWrong)

/-- 'laws.FnExactPutInt': WHATEVER THE INPUT: true; the input reads as it did. -/
def fnExactPutIntSpec : ChangeSpec := { name := "fnExactPutInt", fn := fun _ => fun
  | [d1, d2] => { results := [.lit (.bool true)], args := [d1, d2] }
  | _ => none }
def fnExactPutIntRow : OpenClaim := { program := "ytpepddckmddbiaa", sum := "4dd3cfc134d6c188e8d61dae7f60141ec83b71354e36d7801f545fee5dfd7b8b", func := "loop.example/g00181/laws.FnExactPutInt", spec := "fnExactPutInt", apart := false }
def FnExactPutIntSaid : Prop := fnExactPutIntRow.holds Try.pinned (OpenSpec.ofChange fnExactPutIntSpec)

/-- ITS FALSE NEIGHBOUR: 'it returns false'. Refute it at one input. -/
def fnExactPutIntWrong : ChangeSpec := { name := "fnExactPutInt", fn := fun _ => fun
  | [d1, d2] => { results := [.lit (.bool false)], args := [d1, d2] }
  | _ => none }
def FnExactPutIntWrongFalsely : Prop := fnExactPutIntRow.holds Try.pinned (OpenSpec.ofChange fnExactPutIntWrong)

/-- 'laws.FnExactPutText': WHATEVER THE INPUT: true; the input reads as it did. -/
def fnExactPutTextSpec : ChangeSpec := { name := "fnExactPutText", fn := fun _ => fun
  | [d1, d2] => { results := [.lit (.bool true)], args := [d1, d2] }
  | _ => none }
def fnExactPutTextRow : OpenClaim := { program := "ytpepddckmddbiaa", sum := "4dd3cfc134d6c188e8d61dae7f60141ec83b71354e36d7801f545fee5dfd7b8b", func := "loop.example/g00181/laws.FnExactPutText", spec := "fnExactPutText", apart := false }
def FnExactPutTextSaid : Prop := fnExactPutTextRow.holds Try.pinned (OpenSpec.ofChange fnExactPutTextSpec)

/-- ITS FALSE NEIGHBOUR: 'it returns false'. Refute it at one input. -/
def fnExactPutTextWrong : ChangeSpec := { name := "fnExactPutText", fn := fun _ => fun
  | [d1, d2] => { results := [.lit (.bool false)], args := [d1, d2] }
  | _ => none }
def FnExactPutTextWrongFalsely : Prop := fnExactPutTextRow.holds Try.pinned (OpenSpec.ofChange fnExactPutTextWrong)

/-- 'laws.FnExactSameObj': WHATEVER THE INPUT: true; the input reads as it did. -/
def fnExactSameObjSpec : ChangeSpec := { name := "fnExactSameObj", fn := fun _ => fun
  | [d1, d2] => { results := [.lit (.bool true)], args := [d1, d2] }
  | _ => none }
def fnExactSameObjRow : OpenClaim := { program := "ytpepddckmddbiaa", sum := "4dd3cfc134d6c188e8d61dae7f60141ec83b71354e36d7801f545fee5dfd7b8b", func := "loop.example/g00181/laws.FnExactSameObj", spec := "fnExactSameObj", apart := false }
def FnExactSameObjSaid : Prop := fnExactSameObjRow.holds Try.pinned (OpenSpec.ofChange fnExactSameObjSpec)

/-- ITS FALSE NEIGHBOUR: 'it returns false'. Refute it at one input. -/
def fnExactSameObjWrong : ChangeSpec := { name := "fnExactSameObj", fn := fun _ => fun
  | [d1, d2] => { results := [.lit (.bool false)], args := [d1, d2] }
  | _ => none }
def FnExactSameObjWrongFalsely : Prop := fnExactSameObjRow.holds Try.pinned (OpenSpec.ofChange fnExactSameObjWrong)

/-- 'laws.FnExactGetText': WHATEVER THE INPUT: true; the input reads as it did. -/
def fnExactGetTextSpec : ChangeSpec := { name := "fnExactGetText", fn := fun _ => fun
  | [d1, d2] => { results := [.lit (.bool true)], args := [d1, d2] }
  | _ => none }
def fnExactGetTextRow : OpenClaim := { program := "ytpepddckmddbiaa", sum := "4dd3cfc134d6c188e8d61dae7f60141ec83b71354e36d7801f545fee5dfd7b8b", func := "loop.example/g00181/laws.FnExactGetText", spec := "fnExactGetText", apart := false }
def FnExactGetTextSaid : Prop := fnExactGetTextRow.holds Try.pinned (OpenSpec.ofChange fnExactGetTextSpec)

/-- ITS FALSE NEIGHBOUR: 'it returns false'. Refute it at one input. -/
def fnExactGetTextWrong : ChangeSpec := { name := "fnExactGetText", fn := fun _ => fun
  | [d1, d2] => { results := [.lit (.bool false)], args := [d1, d2] }
  | _ => none }
def FnExactGetTextWrongFalsely : Prop := fnExactGetTextRow.holds Try.pinned (OpenSpec.ofChange fnExactGetTextWrong)

/-- 'laws.FnExactObjOk': WHATEVER THE INPUT: true; the input reads as it did. -/
def fnExactObjOkSpec : ChangeSpec := { name := "fnExactObjOk", fn := fun _ => fun
  | [d] => { results := [.lit (.bool true)], args := [d] }
  | _ => none }
def fnExactObjOkRow : OpenClaim := { program := "ytpepddckmddbiaa", sum := "4dd3cfc134d6c188e8d61dae7f60141ec83b71354e36d7801f545fee5dfd7b8b", func := "loop.example/g00181/laws.FnExactObjOk", spec := "fnExactObjOk", unfollowed := true, recurses := true, apart := false }
def FnExactObjOkSaid : Prop := fnExactObjOkRow.holds Try.pinned (OpenSpec.ofChange fnExactObjOkSpec)

/-- ITS FALSE NEIGHBOUR: 'it returns false'. Refute it at one input. -/
def fnExactObjOkWrong : ChangeSpec := { name := "fnExactObjOk", fn := fun _ => fun
  | [d] => { results := [.lit (.bool false)], args := [d] }
  | _ => none }
def FnExactObjOkWrongFalsely : Prop := fnExactObjOkRow.holds Try.pinned (OpenSpec.ofChange fnExactObjOkWrong)

/-- 'laws.FnInts': WHATEVER THE INPUT: true; the input reads as it did. -/
def fnIntsSpec : ChangeSpec := { name := "fnInts", fn := fun _ => fun
  | [d] => { results := [.lit (.bool true)], args := [d] }
  | _ => none }
def fnIntsRow : OpenClaim := { program := "ytpepddckmddbiaa", sum := "4dd3cfc134d6c188e8d61dae7f60141ec83b71354e36d7801f545fee5dfd7b8b", func := "loop.example/g00181/laws.FnInts", spec := "fnInts", apart := false }
def FnIntsSaid : Prop := fnIntsRow.holds Try.pinned (OpenSpec.ofChange fnIntsSpec)

/-- ITS FALSE NEIGHBOUR: 'it returns false'. Refute it at one input. -/
def fnIntsWrong : ChangeSpec := { name := "fnInts", fn := fun _ => fun
  | [d] => { results := [.lit (.bool false)], args := [d] }
  | _ => none }
def FnIntsWrongFalsely : Prop := fnIntsRow.holds Try.pinned (OpenSpec.ofChange fnIntsWrong)

/-- 'laws.FnExactFrame': WHATEVER THE INPUT: true; the input reads as it did. -/
def fnExactFrameSpec : ChangeSpec := { name := "fnExactFrame", fn := fun _ => fun
  | [d] => { results := [.lit (.bool true)], args := [d] }
  | _ => none }
def fnExactFrameRow : OpenClaim := { program := "ytpepddckmddbiaa", sum := "4dd3cfc134d6c188e8d61dae7f60141ec83b71354e36d7801f545fee5dfd7b8b", func := "loop.example/g00181/laws.FnExactFrame", spec := "fnExactFrame", apart := false }
def FnExactFrameSaid : Prop := fnExactFrameRow.holds Try.pinned (OpenSpec.ofChange fnExactFrameSpec)

/-- ITS FALSE NEIGHBOUR: 'it returns false'. Refute it at one input. -/
def fnExactFrameWrong : ChangeSpec := { name := "fnExactFrame", fn := fun _ => fun
  | [d] => { results := [.lit (.bool false)], args := [d] }
  | _ => none }
def FnExactFrameWrongFalsely : Prop := fnExactFrameRow.holds Try.pinned (OpenSpec.ofChange fnExactFrameWrong)

/-- 'laws.FnExactLocksOk': WHATEVER THE INPUT: true; the input reads as it did. -/
def fnExactLocksOkSpec : ChangeSpec := { name := "fnExactLocksOk", fn := fun _ => fun
  | [d] => { results := [.lit (.bool true)], args := [d] }
  | _ => none }
def fnExactLocksOkRow : OpenClaim := { program := "ytpepddckmddbiaa", sum := "4dd3cfc134d6c188e8d61dae7f60141ec83b71354e36d7801f545fee5dfd7b8b", func := "loop.example/g00181/laws.FnExactLocksOk", spec := "fnExactLocksOk", unfollowed := true, recurses := true, apart := false }
def FnExactLocksOkSaid : Prop := fnExactLocksOkRow.holds Try.pinned (OpenSpec.ofChange fnExactLocksOkSpec)

/-- ITS FALSE NEIGHBOUR: 'it returns false'. Refute it at one input. -/
def fnExactLocksOkWrong : ChangeSpec := { name := "fnExactLocksOk", fn := fun _ => fun
  | [d] => { results := [.lit (.bool false)], args := [d] }
  | _ => none }
def FnExactLocksOkWrongFalsely : Prop := fnExactLocksOkRow.holds Try.pinned (OpenSpec.ofChange fnExactLocksOkWrong)

/-- 'laws.FnExactPutObj': WHATEVER THE INPUT: true; the input reads as it did. -/
def fnExactPutObjSpec : ChangeSpec := { name := "fnExactPutObj", fn := fun _ => fun
  | [d] => { results := [.lit (.bool true)], args := [d] }
  | _ => none }
def fnExactPutObjRow : OpenClaim := { program := "ytpepddckmddbiaa", sum := "4dd3cfc134d6c188e8d61dae7f60141ec83b71354e36d7801f545fee5dfd7b8b", func := "loop.example/g00181/laws.FnExactPutObj", spec := "fnExactPutObj", unfollowed := true, recurses := true, apart := false }
def FnExactPutObjSaid : Prop := fnExactPutObjRow.holds Try.pinned (OpenSpec.ofChange fnExactPutObjSpec)

/-- ITS FALSE NEIGHBOUR: 'it returns false'. Refute it at one input. -/
def fnExactPutObjWrong : ChangeSpec := { name := "fnExactPutObj", fn := fun _ => fun
  | [d] => { results := [.lit (.bool false)], args := [d] }
  | _ => none }
def FnExactPutObjWrongFalsely : Prop := fnExactPutObjRow.holds Try.pinned (OpenSpec.ofChange fnExactPutObjWrong)

/-- 'laws.FnExactUnframe': WHATEVER THE INPUT: true; the input reads as it did. -/
def fnExactUnframeSpec : ChangeSpec := { name := "fnExactUnframe", fn := fun _ => fun
  | [d1, d2] => { results := [.lit (.bool true)], args := [d1, d2] }
  | _ => none }
def fnExactUnframeRow : OpenClaim := { program := "ytpepddckmddbiaa", sum := "4dd3cfc134d6c188e8d61dae7f60141ec83b71354e36d7801f545fee5dfd7b8b", func := "loop.example/g00181/laws.FnExactUnframe", spec := "fnExactUnframe", apart := false }
def FnExactUnframeSaid : Prop := fnExactUnframeRow.holds Try.pinned (OpenSpec.ofChange fnExactUnframeSpec)

/-- ITS FALSE NEIGHBOUR: 'it returns false'. Refute it at one input. -/
def fnExactUnframeWrong : ChangeSpec := { name := "fnExactUnframe", fn := fun _ => fun
  | [d1, d2] => { results := [.lit (.bool false)], args := [d1, d2] }
  | _ => none }
def FnExactUnframeWrongFalsely : Prop := fnExactUnframeRow.holds Try.pinned (OpenSpec.ofChange fnExactUnframeWrong)

/-- 'laws.FnFrames': WHATEVER THE INPUT: true; the input reads as it did. -/
def fnFramesSpec : ChangeSpec := { name := "fnFrames", fn := fun _ => fun
  | [d] => { results := [.lit (.bool true)], args := [d] }
  | _ => none }
def fnFramesRow : OpenClaim := { program := "ytpepddckmddbiaa", sum := "4dd3cfc134d6c188e8d61dae7f60141ec83b71354e36d7801f545fee5dfd7b8b", func := "loop.example/g00181/laws.FnFrames", spec := "fnFrames", apart := false }
def FnFramesSaid : Prop := fnFramesRow.holds Try.pinned (OpenSpec.ofChange fnFramesSpec)

/-- ITS FALSE NEIGHBOUR: 'it returns false'. Refute it at one input. -/
def fnFramesWrong : ChangeSpec := { name := "fnFrames", fn := fun _ => fun
  | [d] => { results := [.lit (.bool false)], args := [d] }
  | _ => none }
def FnFramesWrongFalsely : Prop := fnFramesRow.holds Try.pinned (OpenSpec.ofChange fnFramesWrong)

/-- 'laws.FnChanged': WHATEVER THE INPUT: true; the input reads as it did. -/
def fnChangedSpec : ChangeSpec := { name := "fnChanged", fn := fun _ => fun
  | [d] => { results := [.lit (.bool true)], args := [d] }
  | _ => none }
def fnChangedRow : OpenClaim := { program := "ytpepddckmddbiaa", sum := "4dd3cfc134d6c188e8d61dae7f60141ec83b71354e36d7801f545fee5dfd7b8b", func := "loop.example/g00181/laws.FnChanged", spec := "fnChanged", unfollowed := true, recurses := true, apart := false }
def FnChangedSaid : Prop := fnChangedRow.holds Try.pinned (OpenSpec.ofChange fnChangedSpec)

/-- ITS FALSE NEIGHBOUR: 'it returns false'. Refute it at one input. -/
def fnChangedWrong : ChangeSpec := { name := "fnChanged", fn := fun _ => fun
  | [d] => { results := [.lit (.bool false)], args := [d] }
  | _ => none }
def FnChangedWrongFalsely : Prop := fnChangedRow.holds Try.pinned (OpenSpec.ofChange fnChangedWrong)

/-- 'laws.FnExactChain': WHATEVER THE INPUT: true; the input reads as it did. -/
def fnExactChainSpec : ChangeSpec := { name := "fnExactChain", fn := fun _ => fun
  | [d1, d2] => { results := [.lit (.bool true)], args := [d1, d2] }
  | _ => none }
def fnExactChainRow : OpenClaim := { program := "ytpepddckmddbiaa", sum := "4dd3cfc134d6c188e8d61dae7f60141ec83b71354e36d7801f545fee5dfd7b8b", func := "loop.example/g00181/laws.FnExactChain", spec := "fnExactChain", unfollowed := true, recurses := true, apart := false }
def FnExactChainSaid : Prop := fnExactChainRow.holds Try.pinned (OpenSpec.ofChange fnExactChainSpec)

/-- ITS FALSE NEIGHBOUR: 'it returns false'. Refute it at one input. -/
def fnExactChainWrong : ChangeSpec := { name := "fnExactChain", fn := fun _ => fun
  | [d1, d2] => { results := [.lit (.bool false)], args := [d1, d2] }
  | _ => none }
def FnExactChainWrongFalsely : Prop := fnExactChainRow.holds Try.pinned (OpenSpec.ofChange fnExactChainWrong)

/-- 'laws.FnPools': WHATEVER THE INPUT: true; the input reads as it did. -/
def fnPoolsSpec : ChangeSpec := { name := "fnPools", fn := fun _ => fun
  | [d] => { results := [.lit (.bool true)], args := [d] }
  | _ => none }
def fnPoolsRow : OpenClaim := { program := "ytpepddckmddbiaa", sum := "4dd3cfc134d6c188e8d61dae7f60141ec83b71354e36d7801f545fee5dfd7b8b", func := "loop.example/g00181/laws.FnPools", spec := "fnPools", unfollowed := true, recurses := true, apart := false }
def FnPoolsSaid : Prop := fnPoolsRow.holds Try.pinned (OpenSpec.ofChange fnPoolsSpec)

/-- ITS FALSE NEIGHBOUR: 'it returns false'. Refute it at one input. -/
def fnPoolsWrong : ChangeSpec := { name := "fnPools", fn := fun _ => fun
  | [d] => { results := [.lit (.bool false)], args := [d] }
  | _ => none }
def FnPoolsWrongFalsely : Prop := fnPoolsRow.holds Try.pinned (OpenSpec.ofChange fnPoolsWrong)

/-- 'laws.FnExactClean': WHATEVER THE INPUT: true; the input reads as it did. -/
def fnExactCleanSpec : ChangeSpec := { name := "fnExactClean", fn := fun _ => fun
  | [d1, d2] => { results := [.lit (.bool true)], args := [d1, d2] }
  | _ => none }
def fnExactCleanRow : OpenClaim := { program := "ytpepddckmddbiaa", sum := "4dd3cfc134d6c188e8d61dae7f60141ec83b71354e36d7801f545fee5dfd7b8b", func := "loop.example/g00181/laws.FnExactClean", spec := "fnExactClean", unfollowed := true, recurses := true, apart := false }
def FnExactCleanSaid : Prop := fnExactCleanRow.holds Try.pinned (OpenSpec.ofChange fnExactCleanSpec)

/-- ITS FALSE NEIGHBOUR: 'it returns false'. Refute it at one input. -/
def fnExactCleanWrong : ChangeSpec := { name := "fnExactClean", fn := fun _ => fun
  | [d1, d2] => { results := [.lit (.bool false)], args := [d1, d2] }
  | _ => none }
def FnExactCleanWrongFalsely : Prop := fnExactCleanRow.holds Try.pinned (OpenSpec.ofChange fnExactCleanWrong)

/-- 'laws.FnRedone': WHATEVER THE INPUT: true; the input reads as it did. -/
def fnRedoneSpec : ChangeSpec := { name := "fnRedone", fn := fun _ => fun
  | [d] => { results := [.lit (.bool true)], args := [d] }
  | _ => none }
def fnRedoneRow : OpenClaim := { program := "ytpepddckmddbiaa", sum := "4dd3cfc134d6c188e8d61dae7f60141ec83b71354e36d7801f545fee5dfd7b8b", func := "loop.example/g00181/laws.FnRedone", spec := "fnRedone", unfollowed := true, recurses := true, apart := false }
def FnRedoneSaid : Prop := fnRedoneRow.holds Try.pinned (OpenSpec.ofChange fnRedoneSpec)

/-- ITS FALSE NEIGHBOUR: 'it returns false'. Refute it at one input. -/
def fnRedoneWrong : ChangeSpec := { name := "fnRedone", fn := fun _ => fun
  | [d] => { results := [.lit (.bool false)], args := [d] }
  | _ => none }
def FnRedoneWrongFalsely : Prop := fnRedoneRow.holds Try.pinned (OpenSpec.ofChange fnRedoneWrong)

/-- 'laws.FnExactCommitted': WHATEVER THE INPUT: true; the input reads as it did. -/
def fnExactCommittedSpec : ChangeSpec := { name := "fnExactCommitted", fn := fun _ => fun
  | [d] => { results := [.lit (.bool true)], args := [d] }
  | _ => none }
def fnExactCommittedRow : OpenClaim := { program := "ytpepddckmddbiaa", sum := "4dd3cfc134d6c188e8d61dae7f60141ec83b71354e36d7801f545fee5dfd7b8b", func := "loop.example/g00181/laws.FnExactCommitted", spec := "fnExactCommitted", apart := false }
def FnExactCommittedSaid : Prop := fnExactCommittedRow.holds Try.pinned (OpenSpec.ofChange fnExactCommittedSpec)

/-- ITS FALSE NEIGHBOUR: 'it returns false'. Refute it at one input. -/
def fnExactCommittedWrong : ChangeSpec := { name := "fnExactCommitted", fn := fun _ => fun
  | [d] => { results := [.lit (.bool false)], args := [d] }
  | _ => none }
def FnExactCommittedWrongFalsely : Prop := fnExactCommittedRow.holds Try.pinned (OpenSpec.ofChange fnExactCommittedWrong)

/-- 'laws.FnExactPutPage': WHATEVER THE INPUT: true; the input reads as it did. -/
def fnExactPutPageSpec : ChangeSpec := { name := "fnExactPutPage", fn := fun _ => fun
  | [d] => { results := [.lit (.bool true)], args := [d] }
  | _ => none }
def fnExactPutPageRow : OpenClaim := { program := "ytpepddckmddbiaa", sum := "4dd3cfc134d6c188e8d61dae7f60141ec83b71354e36d7801f545fee5dfd7b8b", func := "loop.example/g00181/laws.FnExactPutPage", spec := "fnExactPutPage", unfollowed := true, recurses := true, apart := false }
def FnExactPutPageSaid : Prop := fnExactPutPageRow.holds Try.pinned (OpenSpec.ofChange fnExactPutPageSpec)

/-- ITS FALSE NEIGHBOUR: 'it returns false'. Refute it at one input. -/
def fnExactPutPageWrong : ChangeSpec := { name := "fnExactPutPage", fn := fun _ => fun
  | [d] => { results := [.lit (.bool false)], args := [d] }
  | _ => none }
def FnExactPutPageWrongFalsely : Prop := fnExactPutPageRow.holds Try.pinned (OpenSpec.ofChange fnExactPutPageWrong)

/-- 'laws.FnExactVictim': WHATEVER THE INPUT: true; the input reads as it did. -/
def fnExactVictimSpec : ChangeSpec := { name := "fnExactVictim", fn := fun _ => fun
  | [d] => { results := [.lit (.bool true)], args := [d] }
  | _ => none }
def fnExactVictimRow : OpenClaim := { program := "ytpepddckmddbiaa", sum := "4dd3cfc134d6c188e8d61dae7f60141ec83b71354e36d7801f545fee5dfd7b8b", func := "loop.example/g00181/laws.FnExactVictim", spec := "fnExactVictim", unfollowed := true, recurses := true, apart := false }
def FnExactVictimSaid : Prop := fnExactVictimRow.holds Try.pinned (OpenSpec.ofChange fnExactVictimSpec)

/-- ITS FALSE NEIGHBOUR: 'it returns false'. Refute it at one input. -/
def fnExactVictimWrong : ChangeSpec := { name := "fnExactVictim", fn := fun _ => fun
  | [d] => { results := [.lit (.bool false)], args := [d] }
  | _ => none }
def FnExactVictimWrongFalsely : Prop := fnExactVictimRow.holds Try.pinned (OpenSpec.ofChange fnExactVictimWrong)

/-- 'laws.FnExactChange': WHATEVER THE INPUT: true; the input reads as it did. -/
def fnExactChangeSpec : ChangeSpec := { name := "fnExactChange", fn := fun _ => fun
  | [d1, d2, d3] => { results := [.lit (.bool true)], args := [d1, d2, d3] }
  | _ => none }
def fnExactChangeRow : OpenClaim := { program := "ytpepddckmddbiaa", sum := "4dd3cfc134d6c188e8d61dae7f60141ec83b71354e36d7801f545fee5dfd7b8b", func := "loop.example/g00181/laws.FnExactChange", spec := "fnExactChange", unfollowed := true, recurses := true, apart := false }
def FnExactChangeSaid : Prop := fnExactChangeRow.holds Try.pinned (OpenSpec.ofChange fnExactChangeSpec)

/-- ITS FALSE NEIGHBOUR: 'it returns false'. Refute it at one input. -/
def fnExactChangeWrong : ChangeSpec := { name := "fnExactChange", fn := fun _ => fun
  | [d1, d2, d3] => { results := [.lit (.bool false)], args := [d1, d2, d3] }
  | _ => none }
def FnExactChangeWrongFalsely : Prop := fnExactChangeRow.holds Try.pinned (OpenSpec.ofChange fnExactChangeWrong)

/-- 'laws.FnExactPutRec': WHATEVER THE INPUT: true; the input reads as it did. -/
def fnExactPutRecSpec : ChangeSpec := { name := "fnExactPutRec", fn := fun _ => fun
  | [d] => { results := [.lit (.bool true)], args := [d] }
  | _ => none }
def fnExactPutRecRow : OpenClaim := { program := "ytpepddckmddbiaa", sum := "4dd3cfc134d6c188e8d61dae7f60141ec83b71354e36d7801f545fee5dfd7b8b", func := "loop.example/g00181/laws.FnExactPutRec", spec := "fnExactPutRec", unfollowed := true, recurses := true, apart := false }
def FnExactPutRecSaid : Prop := fnExactPutRecRow.holds Try.pinned (OpenSpec.ofChange fnExactPutRecSpec)

/-- ITS FALSE NEIGHBOUR: 'it returns false'. Refute it at one input. -/
def fnExactPutRecWrong : ChangeSpec := { name := "fnExactPutRec", fn := fun _ => fun
  | [d] => { results := [.lit (.bool false)], args := [d] }
  | _ => none }
def FnExactPutRecWrongFalsely : Prop := fnExactPutRecRow.holds Try.pinned (OpenSpec.ofChange fnExactPutRecWrong)

/-- 'laws.FnTorn': WHATEVER THE INPUT: true; the input reads as it did. -/
def fnTornSpec : ChangeSpec := { name := "fnTorn", fn := fun _ => fun
  | [d] => { results := [.lit (.bool true)], args := [d] }
  | _ => none }
def fnTornRow : OpenClaim := { program := "ytpepddckmddbiaa", sum := "4dd3cfc134d6c188e8d61dae7f60141ec83b71354e36d7801f545fee5dfd7b8b", func := "loop.example/g00181/laws.FnTorn", spec := "fnTorn", unfollowed := true, recurses := true, apart := false }
def FnTornSaid : Prop := fnTornRow.holds Try.pinned (OpenSpec.ofChange fnTornSpec)

/-- ITS FALSE NEIGHBOUR: 'it returns false'. Refute it at one input. -/
def fnTornWrong : ChangeSpec := { name := "fnTorn", fn := fun _ => fun
  | [d] => { results := [.lit (.bool false)], args := [d] }
  | _ => none }
def FnTornWrongFalsely : Prop := fnTornRow.holds Try.pinned (OpenSpec.ofChange fnTornWrong)

/-- 'laws.FnExactBring': WHATEVER THE INPUT: true; the input reads as it did. -/
def fnExactBringSpec : ChangeSpec := { name := "fnExactBring", fn := fun _ => fun
  | [d1, d2, d3] => { results := [.lit (.bool true)], args := [d1, d2, d3] }
  | _ => none }
def fnExactBringRow : OpenClaim := { program := "ytpepddckmddbiaa", sum := "4dd3cfc134d6c188e8d61dae7f60141ec83b71354e36d7801f545fee5dfd7b8b", func := "loop.example/g00181/laws.FnExactBring", spec := "fnExactBring", unfollowed := true, recurses := true, apart := false }
def FnExactBringSaid : Prop := fnExactBringRow.holds Try.pinned (OpenSpec.ofChange fnExactBringSpec)

/-- ITS FALSE NEIGHBOUR: 'it returns false'. Refute it at one input. -/
def fnExactBringWrong : ChangeSpec := { name := "fnExactBring", fn := fun _ => fun
  | [d1, d2, d3] => { results := [.lit (.bool false)], args := [d1, d2, d3] }
  | _ => none }
def FnExactBringWrongFalsely : Prop := fnExactBringRow.holds Try.pinned (OpenSpec.ofChange fnExactBringWrong)

/-- 'laws.FnAppended': WHATEVER THE INPUT: true; the input reads as it did. -/
def fnAppendedSpec : ChangeSpec := { name := "fnAppended", fn := fun _ => fun
  | [d] => { results := [.lit (.bool true)], args := [d] }
  | _ => none }
def fnAppendedRow : OpenClaim := { program := "ytpepddckmddbiaa", sum := "4dd3cfc134d6c188e8d61dae7f60141ec83b71354e36d7801f545fee5dfd7b8b", func := "loop.example/g00181/laws.FnAppended", spec := "fnAppended", unfollowed := true, recurses := true, apart := false }
def FnAppendedSaid : Prop := fnAppendedRow.holds Try.pinned (OpenSpec.ofChange fnAppendedSpec)

/-- ITS FALSE NEIGHBOUR: 'it returns false'. Refute it at one input. -/
def fnAppendedWrong : ChangeSpec := { name := "fnAppended", fn := fun _ => fun
  | [d] => { results := [.lit (.bool false)], args := [d] }
  | _ => none }
def FnAppendedWrongFalsely : Prop := fnAppendedRow.holds Try.pinned (OpenSpec.ofChange fnAppendedWrong)

/-- 'laws.FnExactForce': WHATEVER THE INPUT: true; the input reads as it did. -/
def fnExactForceSpec : ChangeSpec := { name := "fnExactForce", fn := fun _ => fun
  | [d1, d2] => { results := [.lit (.bool true)], args := [d1, d2] }
  | _ => none }
def fnExactForceRow : OpenClaim := { program := "ytpepddckmddbiaa", sum := "4dd3cfc134d6c188e8d61dae7f60141ec83b71354e36d7801f545fee5dfd7b8b", func := "loop.example/g00181/laws.FnExactForce", spec := "fnExactForce", unfollowed := true, recurses := true, apart := false }
def FnExactForceSaid : Prop := fnExactForceRow.holds Try.pinned (OpenSpec.ofChange fnExactForceSpec)

/-- ITS FALSE NEIGHBOUR: 'it returns false'. Refute it at one input. -/
def fnExactForceWrong : ChangeSpec := { name := "fnExactForce", fn := fun _ => fun
  | [d1, d2] => { results := [.lit (.bool false)], args := [d1, d2] }
  | _ => none }
def FnExactForceWrongFalsely : Prop := fnExactForceRow.holds Try.pinned (OpenSpec.ofChange fnExactForceWrong)

/-- 'laws.FnExactTear': WHATEVER THE INPUT: true; the input reads as it did. -/
def fnExactTearSpec : ChangeSpec := { name := "fnExactTear", fn := fun _ => fun
  | [d1, d2] => { results := [.lit (.bool true)], args := [d1, d2] }
  | _ => none }
def fnExactTearRow : OpenClaim := { program := "ytpepddckmddbiaa", sum := "4dd3cfc134d6c188e8d61dae7f60141ec83b71354e36d7801f545fee5dfd7b8b", func := "loop.example/g00181/laws.FnExactTear", spec := "fnExactTear", unfollowed := true, recurses := true, apart := false }
def FnExactTearSaid : Prop := fnExactTearRow.holds Try.pinned (OpenSpec.ofChange fnExactTearSpec)

/-- ITS FALSE NEIGHBOUR: 'it returns false'. Refute it at one input. -/
def fnExactTearWrong : ChangeSpec := { name := "fnExactTear", fn := fun _ => fun
  | [d1, d2] => { results := [.lit (.bool false)], args := [d1, d2] }
  | _ => none }
def FnExactTearWrongFalsely : Prop := fnExactTearRow.holds Try.pinned (OpenSpec.ofChange fnExactTearWrong)

/-- 'laws.FnExactAppend': WHATEVER THE INPUT: true; the input reads as it did. -/
def fnExactAppendSpec : ChangeSpec := { name := "fnExactAppend", fn := fun _ => fun
  | [d1, d2] => { results := [.lit (.bool true)], args := [d1, d2] }
  | _ => none }
def fnExactAppendRow : OpenClaim := { program := "ytpepddckmddbiaa", sum := "4dd3cfc134d6c188e8d61dae7f60141ec83b71354e36d7801f545fee5dfd7b8b", func := "loop.example/g00181/laws.FnExactAppend", spec := "fnExactAppend", unfollowed := true, recurses := true, apart := false }
def FnExactAppendSaid : Prop := fnExactAppendRow.holds Try.pinned (OpenSpec.ofChange fnExactAppendSpec)

/-- ITS FALSE NEIGHBOUR: 'it returns false'. Refute it at one input. -/
def fnExactAppendWrong : ChangeSpec := { name := "fnExactAppend", fn := fun _ => fun
  | [d1, d2] => { results := [.lit (.bool false)], args := [d1, d2] }
  | _ => none }
def FnExactAppendWrongFalsely : Prop := fnExactAppendRow.holds Try.pinned (OpenSpec.ofChange fnExactAppendWrong)

/-- 'laws.FnExactLogBytes': WHATEVER THE INPUT: true; the input reads as it did. -/
def fnExactLogBytesSpec : ChangeSpec := { name := "fnExactLogBytes", fn := fun _ => fun
  | [d] => { results := [.lit (.bool true)], args := [d] }
  | _ => none }
def fnExactLogBytesRow : OpenClaim := { program := "ytpepddckmddbiaa", sum := "4dd3cfc134d6c188e8d61dae7f60141ec83b71354e36d7801f545fee5dfd7b8b", func := "loop.example/g00181/laws.FnExactLogBytes", spec := "fnExactLogBytes", unfollowed := true, recurses := true, apart := false }
def FnExactLogBytesSaid : Prop := fnExactLogBytesRow.holds Try.pinned (OpenSpec.ofChange fnExactLogBytesSpec)

/-- ITS FALSE NEIGHBOUR: 'it returns false'. Refute it at one input. -/
def fnExactLogBytesWrong : ChangeSpec := { name := "fnExactLogBytes", fn := fun _ => fun
  | [d] => { results := [.lit (.bool false)], args := [d] }
  | _ => none }
def FnExactLogBytesWrongFalsely : Prop := fnExactLogBytesRow.holds Try.pinned (OpenSpec.ofChange fnExactLogBytesWrong)

/-- 'laws.FnLosers': WHATEVER THE INPUT: true; the input reads as it did. -/
def fnLosersSpec : ChangeSpec := { name := "fnLosers", fn := fun _ => fun
  | [d] => { results := [.lit (.bool true)], args := [d] }
  | _ => none }
def fnLosersRow : OpenClaim := { program := "ytpepddckmddbiaa", sum := "4dd3cfc134d6c188e8d61dae7f60141ec83b71354e36d7801f545fee5dfd7b8b", func := "loop.example/g00181/laws.FnLosers", spec := "fnLosers", inPlace := ["slices.overlaps[loop.example/g00181/impl.Live]"], unfollowed := true, recurses := true, apart := false }
def FnLosersSaid : Prop := fnLosersRow.holds Try.pinned (OpenSpec.ofChange fnLosersSpec)

/-- ITS FALSE NEIGHBOUR: 'it returns false'. Refute it at one input. -/
def fnLosersWrong : ChangeSpec := { name := "fnLosers", fn := fun _ => fun
  | [d] => { results := [.lit (.bool false)], args := [d] }
  | _ => none }
def FnLosersWrongFalsely : Prop := fnLosersRow.holds Try.pinned (OpenSpec.ofChange fnLosersWrong)

/- THE SECOND FORM. 'bulk': how many values and letters a reading holds, each counted each time it is reached (what is shared counts as often as it is met; a slice's spare places count too). A statement '..UptoSaid' is the law's where the arguments, and the package variables that the reading takes, are together of bulk at most 1048576: NARROWER than '..Said'. Prove '..Said' where nothing that the law and all that it calls make is longer than what came in: it says more and counts as full. Else prove '..UptoSaid'. A law counts once. -/
mutual
def uptoBulk {H : Type} : DataW H → Nat
  | .lit (.string bytes) => bytes.length + 1
  | .lit _ => 1
  | .nil => 1
  | .ptr d => uptoBulk d + 1
  | .slice elems spare => uptoBulkAll elems + uptoBulkAll spare + 1
  | .agg parts => uptoBulkAll parts + 1
  | .iface _ d => uptoBulk d + 1
  | .map entries => uptoBulkEntries entries + 1
  | .held _ => 1
def uptoBulkAll {H : Type} : List (DataW H) → Nat
  | [] => 0
  | d :: r => uptoBulk d + uptoBulkAll r
def uptoBulkEntries {H : Type} : List (Lit × DataW H) → Nat
  | [] => 0
  | x :: r => uptoBulkEntry x + uptoBulkEntries r
def uptoBulkEntry {H : Type} : Lit × DataW H → Nat
  | (.string bytes, d) => bytes.length + uptoBulk d + 1
  | (_, d) => uptoBulk d + 1
 end
def uptoSmall : (H : Type) → List (DataW H) → Bool := fun _ ds => decide (uptoBulkAll ds ≤ 1048576)
def OpenSpec.upto (s : _root_.Go.ChangeSpec) : _root_.Go.OpenSpec := { _root_.Go.OpenSpec.ofChange s with cond := some uptoSmall }

/-- 'laws.FnModes', WHERE WHAT IT READS IS OF BULK AT MOST 1048576: true; the input reads as it did. -/
def fnModesUptoRow : OpenClaim := { program := "ytpepddckmddbiaa", sum := "4dd3cfc134d6c188e8d61dae7f60141ec83b71354e36d7801f545fee5dfd7b8b", func := "loop.example/g00181/laws.FnModes", spec := "fnModes", apart := false, narrowed := true }
def FnModesUptoSaid : Prop := fnModesUptoRow.holds Try.pinned (OpenSpec.upto fnModesSpec)

/-- 'laws.FnExactPutInt', WHERE WHAT IT READS IS OF BULK AT MOST 1048576: true; the input reads as it did. -/
def fnExactPutIntUptoRow : OpenClaim := { program := "ytpepddckmddbiaa", sum := "4dd3cfc134d6c188e8d61dae7f60141ec83b71354e36d7801f545fee5dfd7b8b", func := "loop.example/g00181/laws.FnExactPutInt", spec := "fnExactPutInt", apart := false, narrowed := true }
def FnExactPutIntUptoSaid : Prop := fnExactPutIntUptoRow.holds Try.pinned (OpenSpec.upto fnExactPutIntSpec)

/-- 'laws.FnExactPutText', WHERE WHAT IT READS IS OF BULK AT MOST 1048576: true; the input reads as it did. -/
def fnExactPutTextUptoRow : OpenClaim := { program := "ytpepddckmddbiaa", sum := "4dd3cfc134d6c188e8d61dae7f60141ec83b71354e36d7801f545fee5dfd7b8b", func := "loop.example/g00181/laws.FnExactPutText", spec := "fnExactPutText", apart := false, narrowed := true }
def FnExactPutTextUptoSaid : Prop := fnExactPutTextUptoRow.holds Try.pinned (OpenSpec.upto fnExactPutTextSpec)

/-- 'laws.FnExactSameObj', WHERE WHAT IT READS IS OF BULK AT MOST 1048576: true; the input reads as it did. -/
def fnExactSameObjUptoRow : OpenClaim := { program := "ytpepddckmddbiaa", sum := "4dd3cfc134d6c188e8d61dae7f60141ec83b71354e36d7801f545fee5dfd7b8b", func := "loop.example/g00181/laws.FnExactSameObj", spec := "fnExactSameObj", apart := false, narrowed := true }
def FnExactSameObjUptoSaid : Prop := fnExactSameObjUptoRow.holds Try.pinned (OpenSpec.upto fnExactSameObjSpec)

/-- 'laws.FnExactGetText', WHERE WHAT IT READS IS OF BULK AT MOST 1048576: true; the input reads as it did. -/
def fnExactGetTextUptoRow : OpenClaim := { program := "ytpepddckmddbiaa", sum := "4dd3cfc134d6c188e8d61dae7f60141ec83b71354e36d7801f545fee5dfd7b8b", func := "loop.example/g00181/laws.FnExactGetText", spec := "fnExactGetText", apart := false, narrowed := true }
def FnExactGetTextUptoSaid : Prop := fnExactGetTextUptoRow.holds Try.pinned (OpenSpec.upto fnExactGetTextSpec)

/-- 'laws.FnExactObjOk', WHERE WHAT IT READS IS OF BULK AT MOST 1048576: true; the input reads as it did. -/
def fnExactObjOkUptoRow : OpenClaim := { program := "ytpepddckmddbiaa", sum := "4dd3cfc134d6c188e8d61dae7f60141ec83b71354e36d7801f545fee5dfd7b8b", func := "loop.example/g00181/laws.FnExactObjOk", spec := "fnExactObjOk", unfollowed := true, recurses := true, apart := false, narrowed := true }
def FnExactObjOkUptoSaid : Prop := fnExactObjOkUptoRow.holds Try.pinned (OpenSpec.upto fnExactObjOkSpec)

/-- 'laws.FnInts', WHERE WHAT IT READS IS OF BULK AT MOST 1048576: true; the input reads as it did. -/
def fnIntsUptoRow : OpenClaim := { program := "ytpepddckmddbiaa", sum := "4dd3cfc134d6c188e8d61dae7f60141ec83b71354e36d7801f545fee5dfd7b8b", func := "loop.example/g00181/laws.FnInts", spec := "fnInts", apart := false, narrowed := true }
def FnIntsUptoSaid : Prop := fnIntsUptoRow.holds Try.pinned (OpenSpec.upto fnIntsSpec)

/-- 'laws.FnExactFrame', WHERE WHAT IT READS IS OF BULK AT MOST 1048576: true; the input reads as it did. -/
def fnExactFrameUptoRow : OpenClaim := { program := "ytpepddckmddbiaa", sum := "4dd3cfc134d6c188e8d61dae7f60141ec83b71354e36d7801f545fee5dfd7b8b", func := "loop.example/g00181/laws.FnExactFrame", spec := "fnExactFrame", apart := false, narrowed := true }
def FnExactFrameUptoSaid : Prop := fnExactFrameUptoRow.holds Try.pinned (OpenSpec.upto fnExactFrameSpec)

/-- 'laws.FnExactLocksOk', WHERE WHAT IT READS IS OF BULK AT MOST 1048576: true; the input reads as it did. -/
def fnExactLocksOkUptoRow : OpenClaim := { program := "ytpepddckmddbiaa", sum := "4dd3cfc134d6c188e8d61dae7f60141ec83b71354e36d7801f545fee5dfd7b8b", func := "loop.example/g00181/laws.FnExactLocksOk", spec := "fnExactLocksOk", unfollowed := true, recurses := true, apart := false, narrowed := true }
def FnExactLocksOkUptoSaid : Prop := fnExactLocksOkUptoRow.holds Try.pinned (OpenSpec.upto fnExactLocksOkSpec)

/-- 'laws.FnExactPutObj', WHERE WHAT IT READS IS OF BULK AT MOST 1048576: true; the input reads as it did. -/
def fnExactPutObjUptoRow : OpenClaim := { program := "ytpepddckmddbiaa", sum := "4dd3cfc134d6c188e8d61dae7f60141ec83b71354e36d7801f545fee5dfd7b8b", func := "loop.example/g00181/laws.FnExactPutObj", spec := "fnExactPutObj", unfollowed := true, recurses := true, apart := false, narrowed := true }
def FnExactPutObjUptoSaid : Prop := fnExactPutObjUptoRow.holds Try.pinned (OpenSpec.upto fnExactPutObjSpec)

/-- 'laws.FnExactUnframe', WHERE WHAT IT READS IS OF BULK AT MOST 1048576: true; the input reads as it did. -/
def fnExactUnframeUptoRow : OpenClaim := { program := "ytpepddckmddbiaa", sum := "4dd3cfc134d6c188e8d61dae7f60141ec83b71354e36d7801f545fee5dfd7b8b", func := "loop.example/g00181/laws.FnExactUnframe", spec := "fnExactUnframe", apart := false, narrowed := true }
def FnExactUnframeUptoSaid : Prop := fnExactUnframeUptoRow.holds Try.pinned (OpenSpec.upto fnExactUnframeSpec)

/-- 'laws.FnFrames', WHERE WHAT IT READS IS OF BULK AT MOST 1048576: true; the input reads as it did. -/
def fnFramesUptoRow : OpenClaim := { program := "ytpepddckmddbiaa", sum := "4dd3cfc134d6c188e8d61dae7f60141ec83b71354e36d7801f545fee5dfd7b8b", func := "loop.example/g00181/laws.FnFrames", spec := "fnFrames", apart := false, narrowed := true }
def FnFramesUptoSaid : Prop := fnFramesUptoRow.holds Try.pinned (OpenSpec.upto fnFramesSpec)

/-- 'laws.FnChanged', WHERE WHAT IT READS IS OF BULK AT MOST 1048576: true; the input reads as it did. -/
def fnChangedUptoRow : OpenClaim := { program := "ytpepddckmddbiaa", sum := "4dd3cfc134d6c188e8d61dae7f60141ec83b71354e36d7801f545fee5dfd7b8b", func := "loop.example/g00181/laws.FnChanged", spec := "fnChanged", unfollowed := true, recurses := true, apart := false, narrowed := true }
def FnChangedUptoSaid : Prop := fnChangedUptoRow.holds Try.pinned (OpenSpec.upto fnChangedSpec)

/-- 'laws.FnExactChain', WHERE WHAT IT READS IS OF BULK AT MOST 1048576: true; the input reads as it did. -/
def fnExactChainUptoRow : OpenClaim := { program := "ytpepddckmddbiaa", sum := "4dd3cfc134d6c188e8d61dae7f60141ec83b71354e36d7801f545fee5dfd7b8b", func := "loop.example/g00181/laws.FnExactChain", spec := "fnExactChain", unfollowed := true, recurses := true, apart := false, narrowed := true }
def FnExactChainUptoSaid : Prop := fnExactChainUptoRow.holds Try.pinned (OpenSpec.upto fnExactChainSpec)

/-- 'laws.FnPools', WHERE WHAT IT READS IS OF BULK AT MOST 1048576: true; the input reads as it did. -/
def fnPoolsUptoRow : OpenClaim := { program := "ytpepddckmddbiaa", sum := "4dd3cfc134d6c188e8d61dae7f60141ec83b71354e36d7801f545fee5dfd7b8b", func := "loop.example/g00181/laws.FnPools", spec := "fnPools", unfollowed := true, recurses := true, apart := false, narrowed := true }
def FnPoolsUptoSaid : Prop := fnPoolsUptoRow.holds Try.pinned (OpenSpec.upto fnPoolsSpec)

/-- 'laws.FnExactClean', WHERE WHAT IT READS IS OF BULK AT MOST 1048576: true; the input reads as it did. -/
def fnExactCleanUptoRow : OpenClaim := { program := "ytpepddckmddbiaa", sum := "4dd3cfc134d6c188e8d61dae7f60141ec83b71354e36d7801f545fee5dfd7b8b", func := "loop.example/g00181/laws.FnExactClean", spec := "fnExactClean", unfollowed := true, recurses := true, apart := false, narrowed := true }
def FnExactCleanUptoSaid : Prop := fnExactCleanUptoRow.holds Try.pinned (OpenSpec.upto fnExactCleanSpec)

/-- 'laws.FnRedone', WHERE WHAT IT READS IS OF BULK AT MOST 1048576: true; the input reads as it did. -/
def fnRedoneUptoRow : OpenClaim := { program := "ytpepddckmddbiaa", sum := "4dd3cfc134d6c188e8d61dae7f60141ec83b71354e36d7801f545fee5dfd7b8b", func := "loop.example/g00181/laws.FnRedone", spec := "fnRedone", unfollowed := true, recurses := true, apart := false, narrowed := true }
def FnRedoneUptoSaid : Prop := fnRedoneUptoRow.holds Try.pinned (OpenSpec.upto fnRedoneSpec)

/-- 'laws.FnExactCommitted', WHERE WHAT IT READS IS OF BULK AT MOST 1048576: true; the input reads as it did. -/
def fnExactCommittedUptoRow : OpenClaim := { program := "ytpepddckmddbiaa", sum := "4dd3cfc134d6c188e8d61dae7f60141ec83b71354e36d7801f545fee5dfd7b8b", func := "loop.example/g00181/laws.FnExactCommitted", spec := "fnExactCommitted", apart := false, narrowed := true }
def FnExactCommittedUptoSaid : Prop := fnExactCommittedUptoRow.holds Try.pinned (OpenSpec.upto fnExactCommittedSpec)

/-- 'laws.FnExactPutPage', WHERE WHAT IT READS IS OF BULK AT MOST 1048576: true; the input reads as it did. -/
def fnExactPutPageUptoRow : OpenClaim := { program := "ytpepddckmddbiaa", sum := "4dd3cfc134d6c188e8d61dae7f60141ec83b71354e36d7801f545fee5dfd7b8b", func := "loop.example/g00181/laws.FnExactPutPage", spec := "fnExactPutPage", unfollowed := true, recurses := true, apart := false, narrowed := true }
def FnExactPutPageUptoSaid : Prop := fnExactPutPageUptoRow.holds Try.pinned (OpenSpec.upto fnExactPutPageSpec)

/-- 'laws.FnExactVictim', WHERE WHAT IT READS IS OF BULK AT MOST 1048576: true; the input reads as it did. -/
def fnExactVictimUptoRow : OpenClaim := { program := "ytpepddckmddbiaa", sum := "4dd3cfc134d6c188e8d61dae7f60141ec83b71354e36d7801f545fee5dfd7b8b", func := "loop.example/g00181/laws.FnExactVictim", spec := "fnExactVictim", unfollowed := true, recurses := true, apart := false, narrowed := true }
def FnExactVictimUptoSaid : Prop := fnExactVictimUptoRow.holds Try.pinned (OpenSpec.upto fnExactVictimSpec)

/-- 'laws.FnExactChange', WHERE WHAT IT READS IS OF BULK AT MOST 1048576: true; the input reads as it did. -/
def fnExactChangeUptoRow : OpenClaim := { program := "ytpepddckmddbiaa", sum := "4dd3cfc134d6c188e8d61dae7f60141ec83b71354e36d7801f545fee5dfd7b8b", func := "loop.example/g00181/laws.FnExactChange", spec := "fnExactChange", unfollowed := true, recurses := true, apart := false, narrowed := true }
def FnExactChangeUptoSaid : Prop := fnExactChangeUptoRow.holds Try.pinned (OpenSpec.upto fnExactChangeSpec)

/-- 'laws.FnExactPutRec', WHERE WHAT IT READS IS OF BULK AT MOST 1048576: true; the input reads as it did. -/
def fnExactPutRecUptoRow : OpenClaim := { program := "ytpepddckmddbiaa", sum := "4dd3cfc134d6c188e8d61dae7f60141ec83b71354e36d7801f545fee5dfd7b8b", func := "loop.example/g00181/laws.FnExactPutRec", spec := "fnExactPutRec", unfollowed := true, recurses := true, apart := false, narrowed := true }
def FnExactPutRecUptoSaid : Prop := fnExactPutRecUptoRow.holds Try.pinned (OpenSpec.upto fnExactPutRecSpec)

/-- 'laws.FnTorn', WHERE WHAT IT READS IS OF BULK AT MOST 1048576: true; the input reads as it did. -/
def fnTornUptoRow : OpenClaim := { program := "ytpepddckmddbiaa", sum := "4dd3cfc134d6c188e8d61dae7f60141ec83b71354e36d7801f545fee5dfd7b8b", func := "loop.example/g00181/laws.FnTorn", spec := "fnTorn", unfollowed := true, recurses := true, apart := false, narrowed := true }
def FnTornUptoSaid : Prop := fnTornUptoRow.holds Try.pinned (OpenSpec.upto fnTornSpec)

/-- 'laws.FnExactBring', WHERE WHAT IT READS IS OF BULK AT MOST 1048576: true; the input reads as it did. -/
def fnExactBringUptoRow : OpenClaim := { program := "ytpepddckmddbiaa", sum := "4dd3cfc134d6c188e8d61dae7f60141ec83b71354e36d7801f545fee5dfd7b8b", func := "loop.example/g00181/laws.FnExactBring", spec := "fnExactBring", unfollowed := true, recurses := true, apart := false, narrowed := true }
def FnExactBringUptoSaid : Prop := fnExactBringUptoRow.holds Try.pinned (OpenSpec.upto fnExactBringSpec)

/-- 'laws.FnAppended', WHERE WHAT IT READS IS OF BULK AT MOST 1048576: true; the input reads as it did. -/
def fnAppendedUptoRow : OpenClaim := { program := "ytpepddckmddbiaa", sum := "4dd3cfc134d6c188e8d61dae7f60141ec83b71354e36d7801f545fee5dfd7b8b", func := "loop.example/g00181/laws.FnAppended", spec := "fnAppended", unfollowed := true, recurses := true, apart := false, narrowed := true }
def FnAppendedUptoSaid : Prop := fnAppendedUptoRow.holds Try.pinned (OpenSpec.upto fnAppendedSpec)

/-- 'laws.FnExactForce', WHERE WHAT IT READS IS OF BULK AT MOST 1048576: true; the input reads as it did. -/
def fnExactForceUptoRow : OpenClaim := { program := "ytpepddckmddbiaa", sum := "4dd3cfc134d6c188e8d61dae7f60141ec83b71354e36d7801f545fee5dfd7b8b", func := "loop.example/g00181/laws.FnExactForce", spec := "fnExactForce", unfollowed := true, recurses := true, apart := false, narrowed := true }
def FnExactForceUptoSaid : Prop := fnExactForceUptoRow.holds Try.pinned (OpenSpec.upto fnExactForceSpec)

/-- 'laws.FnExactTear', WHERE WHAT IT READS IS OF BULK AT MOST 1048576: true; the input reads as it did. -/
def fnExactTearUptoRow : OpenClaim := { program := "ytpepddckmddbiaa", sum := "4dd3cfc134d6c188e8d61dae7f60141ec83b71354e36d7801f545fee5dfd7b8b", func := "loop.example/g00181/laws.FnExactTear", spec := "fnExactTear", unfollowed := true, recurses := true, apart := false, narrowed := true }
def FnExactTearUptoSaid : Prop := fnExactTearUptoRow.holds Try.pinned (OpenSpec.upto fnExactTearSpec)

/-- 'laws.FnExactAppend', WHERE WHAT IT READS IS OF BULK AT MOST 1048576: true; the input reads as it did. -/
def fnExactAppendUptoRow : OpenClaim := { program := "ytpepddckmddbiaa", sum := "4dd3cfc134d6c188e8d61dae7f60141ec83b71354e36d7801f545fee5dfd7b8b", func := "loop.example/g00181/laws.FnExactAppend", spec := "fnExactAppend", unfollowed := true, recurses := true, apart := false, narrowed := true }
def FnExactAppendUptoSaid : Prop := fnExactAppendUptoRow.holds Try.pinned (OpenSpec.upto fnExactAppendSpec)

/-- 'laws.FnExactLogBytes', WHERE WHAT IT READS IS OF BULK AT MOST 1048576: true; the input reads as it did. -/
def fnExactLogBytesUptoRow : OpenClaim := { program := "ytpepddckmddbiaa", sum := "4dd3cfc134d6c188e8d61dae7f60141ec83b71354e36d7801f545fee5dfd7b8b", func := "loop.example/g00181/laws.FnExactLogBytes", spec := "fnExactLogBytes", unfollowed := true, recurses := true, apart := false, narrowed := true }
def FnExactLogBytesUptoSaid : Prop := fnExactLogBytesUptoRow.holds Try.pinned (OpenSpec.upto fnExactLogBytesSpec)

/-- 'laws.FnLosers', WHERE WHAT IT READS IS OF BULK AT MOST 1048576: true; the input reads as it did. -/
def fnLosersUptoRow : OpenClaim := { program := "ytpepddckmddbiaa", sum := "4dd3cfc134d6c188e8d61dae7f60141ec83b71354e36d7801f545fee5dfd7b8b", func := "loop.example/g00181/laws.FnLosers", spec := "fnLosers", inPlace := ["slices.overlaps[loop.example/g00181/impl.Live]"], unfollowed := true, recurses := true, apart := false, narrowed := true }
def FnLosersUptoSaid : Prop := fnLosersUptoRow.holds Try.pinned (OpenSpec.upto fnLosersSpec)

end Rows
end Go.Proofs.Ytpepddckmddbiaa
