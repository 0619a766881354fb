/-
  No cell of these rows narrows 'for every input' (looked for: loops, veiled, ifaces, maps, wideKeys, modest, calm, conditions, laid).
  DERIVED. THE GIVEN ROWS OF THIS SEAT. 30 by the template 'for every input the law returns true; each argument reads behind the call as it read before'; 0 by the template 'total and deterministic' (their statements: YtjaddgkhlmallaaTotals.lean).
  GIVEN WITH THE SEED: the statements are not yours to turn. If you find one false, say at which input.
  Laid BY PROGRAM, IN A SANDBOX (cutbox-rows.mjs): the forced cells as the released guide's own fill.sh prints them over the translation 9d1a81b779ba28cf… (all of the seat's roots in one cut). By AI agents, Wed Nov 11 2026. No macro, syntax, notation, axiom, sorry.
-/
import Derived.Test.YtjaddgkhlmallaaChecked
import GoSem.Claim
import GoSem.ClaimJoined
import GoSem.ClaimMapViews
import Derived.JoinedTies
import Derived.KernelRfl
namespace Go.Proofs.Ytjaddgkhlmallaa
/- THE CELL 'sum', in the pinned program and in every row, IS THE sha256 OF THE DUMP (.gsa) THAT YtjaddgkhlmallaaProg.lean LOADS. Nothing in Lean hashes anything: it is a label: what it is worth is what the hold of that sum in a sandbox is worth. -/
noncomputable def Try.pinned : Pinned := { name := "ytjaddgkhlmallaa", sum := "9d1a81b779ba28cf995b287ecdecbba1f8f2b61e13fc0dd9e15d504c96ef3275", checked := Try.checked }
namespace Rows
def none {H : Type} : Left H := { results := [], args := [] }

/-- 'laws.FnExactFreeSlot': WHATEVER THE INPUT: true; the input reads as it did. -/
def fnExactFreeSlotSpec : ChangeSpec := { name := "fnExactFreeSlot", fn := fun _ => fun
  | [d] => { results := [.lit (.bool true)], args := [d] }
  | _ => none }
def fnExactFreeSlotRow : OpenClaim := { program := "ytjaddgkhlmallaa", sum := "9d1a81b779ba28cf995b287ecdecbba1f8f2b61e13fc0dd9e15d504c96ef3275", func := "loop.example/g00181/laws.FnExactFreeSlot", spec := "fnExactFreeSlot", unfollowed := true, recurses := true, apart := false }
def FnExactFreeSlotSaid : Prop := fnExactFreeSlotRow.holds Try.pinned (OpenSpec.ofChange fnExactFreeSlotSpec)

/-- ITS FALSE NEIGHBOUR: 'it returns false'. Refute it at one input. -/
def fnExactFreeSlotWrong : ChangeSpec := { name := "fnExactFreeSlot", fn := fun _ => fun
  | [d] => { results := [.lit (.bool false)], args := [d] }
  | _ => none }
def FnExactFreeSlotWrongFalsely : Prop := fnExactFreeSlotRow.holds Try.pinned (OpenSpec.ofChange fnExactFreeSlotWrong)

/-- 'laws.FnExactPageOk': WHATEVER THE INPUT: true; the input reads as it did. -/
def fnExactPageOkSpec : ChangeSpec := { name := "fnExactPageOk", fn := fun _ => fun
  | [d] => { results := [.lit (.bool true)], args := [d] }
  | _ => none }
def fnExactPageOkRow : OpenClaim := { program := "ytjaddgkhlmallaa", sum := "9d1a81b779ba28cf995b287ecdecbba1f8f2b61e13fc0dd9e15d504c96ef3275", func := "loop.example/g00181/laws.FnExactPageOk", spec := "fnExactPageOk", unfollowed := true, recurses := true, apart := false }
def FnExactPageOkSaid : Prop := fnExactPageOkRow.holds Try.pinned (OpenSpec.ofChange fnExactPageOkSpec)

/-- ITS FALSE NEIGHBOUR: 'it returns false'. Refute it at one input. -/
def fnExactPageOkWrong : ChangeSpec := { name := "fnExactPageOk", fn := fun _ => fun
  | [d] => { results := [.lit (.bool false)], args := [d] }
  | _ => none }
def FnExactPageOkWrongFalsely : Prop := fnExactPageOkRow.holds Try.pinned (OpenSpec.ofChange fnExactPageOkWrong)

/-- 'laws.FnExactPutObj': WHATEVER THE INPUT: true; the input reads as it did. -/
def fnExactPutObjSpec : ChangeSpec := { name := "fnExactPutObj", fn := fun _ => fun
  | [d] => { results := [.lit (.bool true)], args := [d] }
  | _ => none }
def fnExactPutObjRow : OpenClaim := { program := "ytjaddgkhlmallaa", sum := "9d1a81b779ba28cf995b287ecdecbba1f8f2b61e13fc0dd9e15d504c96ef3275", func := "loop.example/g00181/laws.FnExactPutObj", spec := "fnExactPutObj", unfollowed := true, recurses := true, apart := false }
def FnExactPutObjSaid : Prop := fnExactPutObjRow.holds Try.pinned (OpenSpec.ofChange fnExactPutObjSpec)

/-- ITS FALSE NEIGHBOUR: 'it returns false'. Refute it at one input. -/
def fnExactPutObjWrong : ChangeSpec := { name := "fnExactPutObj", fn := fun _ => fun
  | [d] => { results := [.lit (.bool false)], args := [d] }
  | _ => none }
def FnExactPutObjWrongFalsely : Prop := fnExactPutObjRow.holds Try.pinned (OpenSpec.ofChange fnExactPutObjWrong)

/-- 'laws.FnExactSeated': WHATEVER THE INPUT: true; the input reads as it did. -/
def fnExactSeatedSpec : ChangeSpec := { name := "fnExactSeated", fn := fun _ => fun
  | [d1, d2] => { results := [.lit (.bool true)], args := [d1, d2] }
  | _ => none }
def fnExactSeatedRow : OpenClaim := { program := "ytjaddgkhlmallaa", sum := "9d1a81b779ba28cf995b287ecdecbba1f8f2b61e13fc0dd9e15d504c96ef3275", func := "loop.example/g00181/laws.FnExactSeated", spec := "fnExactSeated", unfollowed := true, recurses := true, apart := false }
def FnExactSeatedSaid : Prop := fnExactSeatedRow.holds Try.pinned (OpenSpec.ofChange fnExactSeatedSpec)

/-- ITS FALSE NEIGHBOUR: 'it returns false'. Refute it at one input. -/
def fnExactSeatedWrong : ChangeSpec := { name := "fnExactSeated", fn := fun _ => fun
  | [d1, d2] => { results := [.lit (.bool false)], args := [d1, d2] }
  | _ => none }
def FnExactSeatedWrongFalsely : Prop := fnExactSeatedRow.holds Try.pinned (OpenSpec.ofChange fnExactSeatedWrong)

/-- 'laws.FnExactPoolOk': WHATEVER THE INPUT: true; the input reads as it did. -/
def fnExactPoolOkSpec : ChangeSpec := { name := "fnExactPoolOk", fn := fun _ => fun
  | [d] => { results := [.lit (.bool true)], args := [d] }
  | _ => none }
def fnExactPoolOkRow : OpenClaim := { program := "ytjaddgkhlmallaa", sum := "9d1a81b779ba28cf995b287ecdecbba1f8f2b61e13fc0dd9e15d504c96ef3275", func := "loop.example/g00181/laws.FnExactPoolOk", spec := "fnExactPoolOk", unfollowed := true, recurses := true, apart := false }
def FnExactPoolOkSaid : Prop := fnExactPoolOkRow.holds Try.pinned (OpenSpec.ofChange fnExactPoolOkSpec)

/-- ITS FALSE NEIGHBOUR: 'it returns false'. Refute it at one input. -/
def fnExactPoolOkWrong : ChangeSpec := { name := "fnExactPoolOk", fn := fun _ => fun
  | [d] => { results := [.lit (.bool false)], args := [d] }
  | _ => none }
def FnExactPoolOkWrongFalsely : Prop := fnExactPoolOkRow.holds Try.pinned (OpenSpec.ofChange fnExactPoolOkWrong)

/-- 'laws.FnExactSetSlot': WHATEVER THE INPUT: true; the input reads as it did. -/
def fnExactSetSlotSpec : ChangeSpec := { name := "fnExactSetSlot", fn := fun _ => fun
  | [d1, d2, d3, d4] => { results := [.lit (.bool true)], args := [d1, d2, d3, d4] }
  | _ => none }
def fnExactSetSlotRow : OpenClaim := { program := "ytjaddgkhlmallaa", sum := "9d1a81b779ba28cf995b287ecdecbba1f8f2b61e13fc0dd9e15d504c96ef3275", func := "loop.example/g00181/laws.FnExactSetSlot", spec := "fnExactSetSlot", unfollowed := true, recurses := true, apart := false }
def FnExactSetSlotSaid : Prop := fnExactSetSlotRow.holds Try.pinned (OpenSpec.ofChange fnExactSetSlotSpec)

/-- ITS FALSE NEIGHBOUR: 'it returns false'. Refute it at one input. -/
def fnExactSetSlotWrong : ChangeSpec := { name := "fnExactSetSlot", fn := fun _ => fun
  | [d1, d2, d3, d4] => { results := [.lit (.bool false)], args := [d1, d2, d3, d4] }
  | _ => none }
def FnExactSetSlotWrongFalsely : Prop := fnExactSetSlotRow.holds Try.pinned (OpenSpec.ofChange fnExactSetSlotWrong)

/-- 'laws.FnExactRecOk': WHATEVER THE INPUT: true; the input reads as it did. -/
def fnExactRecOkSpec : ChangeSpec := { name := "fnExactRecOk", fn := fun _ => fun
  | [d] => { results := [.lit (.bool true)], args := [d] }
  | _ => none }
def fnExactRecOkRow : OpenClaim := { program := "ytjaddgkhlmallaa", sum := "9d1a81b779ba28cf995b287ecdecbba1f8f2b61e13fc0dd9e15d504c96ef3275", func := "loop.example/g00181/laws.FnExactRecOk", spec := "fnExactRecOk", unfollowed := true, recurses := true, apart := false }
def FnExactRecOkSaid : Prop := fnExactRecOkRow.holds Try.pinned (OpenSpec.ofChange fnExactRecOkSpec)

/-- ITS FALSE NEIGHBOUR: 'it returns false'. Refute it at one input. -/
def fnExactRecOkWrong : ChangeSpec := { name := "fnExactRecOk", fn := fun _ => fun
  | [d] => { results := [.lit (.bool false)], args := [d] }
  | _ => none }
def FnExactRecOkWrongFalsely : Prop := fnExactRecOkRow.holds Try.pinned (OpenSpec.ofChange fnExactRecOkWrong)

/-- 'laws.FnChanged': WHATEVER THE INPUT: true; the input reads as it did. -/
def fnChangedSpec : ChangeSpec := { name := "fnChanged", fn := fun _ => fun
  | [d] => { results := [.lit (.bool true)], args := [d] }
  | _ => none }
def fnChangedRow : OpenClaim := { program := "ytjaddgkhlmallaa", sum := "9d1a81b779ba28cf995b287ecdecbba1f8f2b61e13fc0dd9e15d504c96ef3275", func := "loop.example/g00181/laws.FnChanged", spec := "fnChanged", unfollowed := true, recurses := true, apart := false }
def FnChangedSaid : Prop := fnChangedRow.holds Try.pinned (OpenSpec.ofChange fnChangedSpec)

/-- ITS FALSE NEIGHBOUR: 'it returns false'. Refute it at one input. -/
def fnChangedWrong : ChangeSpec := { name := "fnChanged", fn := fun _ => fun
  | [d] => { results := [.lit (.bool false)], args := [d] }
  | _ => none }
def FnChangedWrongFalsely : Prop := fnChangedRow.holds Try.pinned (OpenSpec.ofChange fnChangedWrong)

/-- 'laws.FnExactChain': WHATEVER THE INPUT: true; the input reads as it did. -/
def fnExactChainSpec : ChangeSpec := { name := "fnExactChain", fn := fun _ => fun
  | [d1, d2] => { results := [.lit (.bool true)], args := [d1, d2] }
  | _ => none }
def fnExactChainRow : OpenClaim := { program := "ytjaddgkhlmallaa", sum := "9d1a81b779ba28cf995b287ecdecbba1f8f2b61e13fc0dd9e15d504c96ef3275", func := "loop.example/g00181/laws.FnExactChain", spec := "fnExactChain", unfollowed := true, recurses := true, apart := false }
def FnExactChainSaid : Prop := fnExactChainRow.holds Try.pinned (OpenSpec.ofChange fnExactChainSpec)

/-- ITS FALSE NEIGHBOUR: 'it returns false'. Refute it at one input. -/
def fnExactChainWrong : ChangeSpec := { name := "fnExactChain", fn := fun _ => fun
  | [d1, d2] => { results := [.lit (.bool false)], args := [d1, d2] }
  | _ => none }
def FnExactChainWrongFalsely : Prop := fnExactChainRow.holds Try.pinned (OpenSpec.ofChange fnExactChainWrong)

/-- 'laws.FnPools': WHATEVER THE INPUT: true; the input reads as it did. -/
def fnPoolsSpec : ChangeSpec := { name := "fnPools", fn := fun _ => fun
  | [d] => { results := [.lit (.bool true)], args := [d] }
  | _ => none }
def fnPoolsRow : OpenClaim := { program := "ytjaddgkhlmallaa", sum := "9d1a81b779ba28cf995b287ecdecbba1f8f2b61e13fc0dd9e15d504c96ef3275", func := "loop.example/g00181/laws.FnPools", spec := "fnPools", unfollowed := true, recurses := true, apart := false }
def FnPoolsSaid : Prop := fnPoolsRow.holds Try.pinned (OpenSpec.ofChange fnPoolsSpec)

/-- ITS FALSE NEIGHBOUR: 'it returns false'. Refute it at one input. -/
def fnPoolsWrong : ChangeSpec := { name := "fnPools", fn := fun _ => fun
  | [d] => { results := [.lit (.bool false)], args := [d] }
  | _ => none }
def FnPoolsWrongFalsely : Prop := fnPoolsRow.holds Try.pinned (OpenSpec.ofChange fnPoolsWrong)

/-- 'laws.FnExactClean': WHATEVER THE INPUT: true; the input reads as it did. -/
def fnExactCleanSpec : ChangeSpec := { name := "fnExactClean", fn := fun _ => fun
  | [d1, d2] => { results := [.lit (.bool true)], args := [d1, d2] }
  | _ => none }
def fnExactCleanRow : OpenClaim := { program := "ytjaddgkhlmallaa", sum := "9d1a81b779ba28cf995b287ecdecbba1f8f2b61e13fc0dd9e15d504c96ef3275", func := "loop.example/g00181/laws.FnExactClean", spec := "fnExactClean", unfollowed := true, recurses := true, apart := false }
def FnExactCleanSaid : Prop := fnExactCleanRow.holds Try.pinned (OpenSpec.ofChange fnExactCleanSpec)

/-- ITS FALSE NEIGHBOUR: 'it returns false'. Refute it at one input. -/
def fnExactCleanWrong : ChangeSpec := { name := "fnExactClean", fn := fun _ => fun
  | [d1, d2] => { results := [.lit (.bool false)], args := [d1, d2] }
  | _ => none }
def FnExactCleanWrongFalsely : Prop := fnExactCleanRow.holds Try.pinned (OpenSpec.ofChange fnExactCleanWrong)

/-- 'laws.FnExactUsed': WHATEVER THE INPUT: true; the input reads as it did. -/
def fnExactUsedSpec : ChangeSpec := { name := "fnExactUsed", fn := fun _ => fun
  | [d1, d2] => { results := [.lit (.bool true)], args := [d1, d2] }
  | _ => none }
def fnExactUsedRow : OpenClaim := { program := "ytjaddgkhlmallaa", sum := "9d1a81b779ba28cf995b287ecdecbba1f8f2b61e13fc0dd9e15d504c96ef3275", func := "loop.example/g00181/laws.FnExactUsed", spec := "fnExactUsed", unfollowed := true, recurses := true, apart := false }
def FnExactUsedSaid : Prop := fnExactUsedRow.holds Try.pinned (OpenSpec.ofChange fnExactUsedSpec)

/-- ITS FALSE NEIGHBOUR: 'it returns false'. Refute it at one input. -/
def fnExactUsedWrong : ChangeSpec := { name := "fnExactUsed", fn := fun _ => fun
  | [d1, d2] => { results := [.lit (.bool false)], args := [d1, d2] }
  | _ => none }
def FnExactUsedWrongFalsely : Prop := fnExactUsedRow.holds Try.pinned (OpenSpec.ofChange fnExactUsedWrong)

/-- 'laws.FnRedone': WHATEVER THE INPUT: true; the input reads as it did. -/
def fnRedoneSpec : ChangeSpec := { name := "fnRedone", fn := fun _ => fun
  | [d] => { results := [.lit (.bool true)], args := [d] }
  | _ => none }
def fnRedoneRow : OpenClaim := { program := "ytjaddgkhlmallaa", sum := "9d1a81b779ba28cf995b287ecdecbba1f8f2b61e13fc0dd9e15d504c96ef3275", func := "loop.example/g00181/laws.FnRedone", spec := "fnRedone", unfollowed := true, recurses := true, apart := false }
def FnRedoneSaid : Prop := fnRedoneRow.holds Try.pinned (OpenSpec.ofChange fnRedoneSpec)

/-- ITS FALSE NEIGHBOUR: 'it returns false'. Refute it at one input. -/
def fnRedoneWrong : ChangeSpec := { name := "fnRedone", fn := fun _ => fun
  | [d] => { results := [.lit (.bool false)], args := [d] }
  | _ => none }
def FnRedoneWrongFalsely : Prop := fnRedoneRow.holds Try.pinned (OpenSpec.ofChange fnRedoneWrong)

/-- 'laws.FnExactLogOk': WHATEVER THE INPUT: true; the input reads as it did. -/
def fnExactLogOkSpec : ChangeSpec := { name := "fnExactLogOk", fn := fun _ => fun
  | [d] => { results := [.lit (.bool true)], args := [d] }
  | _ => none }
def fnExactLogOkRow : OpenClaim := { program := "ytjaddgkhlmallaa", sum := "9d1a81b779ba28cf995b287ecdecbba1f8f2b61e13fc0dd9e15d504c96ef3275", func := "loop.example/g00181/laws.FnExactLogOk", spec := "fnExactLogOk", unfollowed := true, recurses := true, apart := false }
def FnExactLogOkSaid : Prop := fnExactLogOkRow.holds Try.pinned (OpenSpec.ofChange fnExactLogOkSpec)

/-- ITS FALSE NEIGHBOUR: 'it returns false'. Refute it at one input. -/
def fnExactLogOkWrong : ChangeSpec := { name := "fnExactLogOk", fn := fun _ => fun
  | [d] => { results := [.lit (.bool false)], args := [d] }
  | _ => none }
def FnExactLogOkWrongFalsely : Prop := fnExactLogOkRow.holds Try.pinned (OpenSpec.ofChange fnExactLogOkWrong)

/-- 'laws.FnExactCommitted': WHATEVER THE INPUT: true; the input reads as it did. -/
def fnExactCommittedSpec : ChangeSpec := { name := "fnExactCommitted", fn := fun _ => fun
  | [d] => { results := [.lit (.bool true)], args := [d] }
  | _ => none }
def fnExactCommittedRow : OpenClaim := { program := "ytjaddgkhlmallaa", sum := "9d1a81b779ba28cf995b287ecdecbba1f8f2b61e13fc0dd9e15d504c96ef3275", func := "loop.example/g00181/laws.FnExactCommitted", spec := "fnExactCommitted", apart := false }
def FnExactCommittedSaid : Prop := fnExactCommittedRow.holds Try.pinned (OpenSpec.ofChange fnExactCommittedSpec)

/-- ITS FALSE NEIGHBOUR: 'it returns false'. Refute it at one input. -/
def fnExactCommittedWrong : ChangeSpec := { name := "fnExactCommitted", fn := fun _ => fun
  | [d] => { results := [.lit (.bool false)], args := [d] }
  | _ => none }
def FnExactCommittedWrongFalsely : Prop := fnExactCommittedRow.holds Try.pinned (OpenSpec.ofChange fnExactCommittedWrong)

/-- 'laws.FnExactPutPage': WHATEVER THE INPUT: true; the input reads as it did. -/
def fnExactPutPageSpec : ChangeSpec := { name := "fnExactPutPage", fn := fun _ => fun
  | [d] => { results := [.lit (.bool true)], args := [d] }
  | _ => none }
def fnExactPutPageRow : OpenClaim := { program := "ytjaddgkhlmallaa", sum := "9d1a81b779ba28cf995b287ecdecbba1f8f2b61e13fc0dd9e15d504c96ef3275", func := "loop.example/g00181/laws.FnExactPutPage", spec := "fnExactPutPage", unfollowed := true, recurses := true, apart := false }
def FnExactPutPageSaid : Prop := fnExactPutPageRow.holds Try.pinned (OpenSpec.ofChange fnExactPutPageSpec)

/-- ITS FALSE NEIGHBOUR: 'it returns false'. Refute it at one input. -/
def fnExactPutPageWrong : ChangeSpec := { name := "fnExactPutPage", fn := fun _ => fun
  | [d] => { results := [.lit (.bool false)], args := [d] }
  | _ => none }
def FnExactPutPageWrongFalsely : Prop := fnExactPutPageRow.holds Try.pinned (OpenSpec.ofChange fnExactPutPageWrong)

/-- 'laws.FnExactVictim': WHATEVER THE INPUT: true; the input reads as it did. -/
def fnExactVictimSpec : ChangeSpec := { name := "fnExactVictim", fn := fun _ => fun
  | [d] => { results := [.lit (.bool true)], args := [d] }
  | _ => none }
def fnExactVictimRow : OpenClaim := { program := "ytjaddgkhlmallaa", sum := "9d1a81b779ba28cf995b287ecdecbba1f8f2b61e13fc0dd9e15d504c96ef3275", func := "loop.example/g00181/laws.FnExactVictim", spec := "fnExactVictim", unfollowed := true, recurses := true, apart := false }
def FnExactVictimSaid : Prop := fnExactVictimRow.holds Try.pinned (OpenSpec.ofChange fnExactVictimSpec)

/-- ITS FALSE NEIGHBOUR: 'it returns false'. Refute it at one input. -/
def fnExactVictimWrong : ChangeSpec := { name := "fnExactVictim", fn := fun _ => fun
  | [d] => { results := [.lit (.bool false)], args := [d] }
  | _ => none }
def FnExactVictimWrongFalsely : Prop := fnExactVictimRow.holds Try.pinned (OpenSpec.ofChange fnExactVictimWrong)

/-- 'laws.FnExactUndoOf': WHATEVER THE INPUT: true; the input reads as it did. -/
def fnExactUndoOfSpec : ChangeSpec := { name := "fnExactUndoOf", fn := fun _ => fun
  | [d1, d2, d3] => { results := [.lit (.bool true)], args := [d1, d2, d3] }
  | _ => none }
def fnExactUndoOfRow : OpenClaim := { program := "ytjaddgkhlmallaa", sum := "9d1a81b779ba28cf995b287ecdecbba1f8f2b61e13fc0dd9e15d504c96ef3275", func := "loop.example/g00181/laws.FnExactUndoOf", spec := "fnExactUndoOf", unfollowed := true, recurses := true, apart := false }
def FnExactUndoOfSaid : Prop := fnExactUndoOfRow.holds Try.pinned (OpenSpec.ofChange fnExactUndoOfSpec)

/-- ITS FALSE NEIGHBOUR: 'it returns false'. Refute it at one input. -/
def fnExactUndoOfWrong : ChangeSpec := { name := "fnExactUndoOf", fn := fun _ => fun
  | [d1, d2, d3] => { results := [.lit (.bool false)], args := [d1, d2, d3] }
  | _ => none }
def FnExactUndoOfWrongFalsely : Prop := fnExactUndoOfRow.holds Try.pinned (OpenSpec.ofChange fnExactUndoOfWrong)

/-- 'laws.FnExactChange': WHATEVER THE INPUT: true; the input reads as it did. -/
def fnExactChangeSpec : ChangeSpec := { name := "fnExactChange", fn := fun _ => fun
  | [d1, d2, d3] => { results := [.lit (.bool true)], args := [d1, d2, d3] }
  | _ => none }
def fnExactChangeRow : OpenClaim := { program := "ytjaddgkhlmallaa", sum := "9d1a81b779ba28cf995b287ecdecbba1f8f2b61e13fc0dd9e15d504c96ef3275", func := "loop.example/g00181/laws.FnExactChange", spec := "fnExactChange", unfollowed := true, recurses := true, apart := false }
def FnExactChangeSaid : Prop := fnExactChangeRow.holds Try.pinned (OpenSpec.ofChange fnExactChangeSpec)

/-- ITS FALSE NEIGHBOUR: 'it returns false'. Refute it at one input. -/
def fnExactChangeWrong : ChangeSpec := { name := "fnExactChange", fn := fun _ => fun
  | [d1, d2, d3] => { results := [.lit (.bool false)], args := [d1, d2, d3] }
  | _ => none }
def FnExactChangeWrongFalsely : Prop := fnExactChangeRow.holds Try.pinned (OpenSpec.ofChange fnExactChangeWrong)

/-- 'laws.FnExactPutRec': WHATEVER THE INPUT: true; the input reads as it did. -/
def fnExactPutRecSpec : ChangeSpec := { name := "fnExactPutRec", fn := fun _ => fun
  | [d] => { results := [.lit (.bool true)], args := [d] }
  | _ => none }
def fnExactPutRecRow : OpenClaim := { program := "ytjaddgkhlmallaa", sum := "9d1a81b779ba28cf995b287ecdecbba1f8f2b61e13fc0dd9e15d504c96ef3275", func := "loop.example/g00181/laws.FnExactPutRec", spec := "fnExactPutRec", unfollowed := true, recurses := true, apart := false }
def FnExactPutRecSaid : Prop := fnExactPutRecRow.holds Try.pinned (OpenSpec.ofChange fnExactPutRecSpec)

/-- ITS FALSE NEIGHBOUR: 'it returns false'. Refute it at one input. -/
def fnExactPutRecWrong : ChangeSpec := { name := "fnExactPutRec", fn := fun _ => fun
  | [d] => { results := [.lit (.bool false)], args := [d] }
  | _ => none }
def FnExactPutRecWrongFalsely : Prop := fnExactPutRecRow.holds Try.pinned (OpenSpec.ofChange fnExactPutRecWrong)

/-- 'laws.FnExactRedo': WHATEVER THE INPUT: true; the input reads as it did. -/
def fnExactRedoSpec : ChangeSpec := { name := "fnExactRedo", fn := fun _ => fun
  | [d1, d2] => { results := [.lit (.bool true)], args := [d1, d2] }
  | _ => none }
def fnExactRedoRow : OpenClaim := { program := "ytjaddgkhlmallaa", sum := "9d1a81b779ba28cf995b287ecdecbba1f8f2b61e13fc0dd9e15d504c96ef3275", func := "loop.example/g00181/laws.FnExactRedo", spec := "fnExactRedo", unfollowed := true, recurses := true, apart := false }
def FnExactRedoSaid : Prop := fnExactRedoRow.holds Try.pinned (OpenSpec.ofChange fnExactRedoSpec)

/-- ITS FALSE NEIGHBOUR: 'it returns false'. Refute it at one input. -/
def fnExactRedoWrong : ChangeSpec := { name := "fnExactRedo", fn := fun _ => fun
  | [d1, d2] => { results := [.lit (.bool false)], args := [d1, d2] }
  | _ => none }
def FnExactRedoWrongFalsely : Prop := fnExactRedoRow.holds Try.pinned (OpenSpec.ofChange fnExactRedoWrong)

/-- 'laws.FnTorn': WHATEVER THE INPUT: true; the input reads as it did. -/
def fnTornSpec : ChangeSpec := { name := "fnTorn", fn := fun _ => fun
  | [d] => { results := [.lit (.bool true)], args := [d] }
  | _ => none }
def fnTornRow : OpenClaim := { program := "ytjaddgkhlmallaa", sum := "9d1a81b779ba28cf995b287ecdecbba1f8f2b61e13fc0dd9e15d504c96ef3275", func := "loop.example/g00181/laws.FnTorn", spec := "fnTorn", unfollowed := true, recurses := true, apart := false }
def FnTornSaid : Prop := fnTornRow.holds Try.pinned (OpenSpec.ofChange fnTornSpec)

/-- ITS FALSE NEIGHBOUR: 'it returns false'. Refute it at one input. -/
def fnTornWrong : ChangeSpec := { name := "fnTorn", fn := fun _ => fun
  | [d] => { results := [.lit (.bool false)], args := [d] }
  | _ => none }
def FnTornWrongFalsely : Prop := fnTornRow.holds Try.pinned (OpenSpec.ofChange fnTornWrong)

/-- 'laws.FnExactEngineNew': WHATEVER THE INPUT: true; the input reads as it did. -/
def fnExactEngineNewSpec : ChangeSpec := { name := "fnExactEngineNew", fn := fun _ => fun
  | [] => { results := [.lit (.bool true)], args := [] }
  | _ => none }
def fnExactEngineNewRow : OpenClaim := { program := "ytjaddgkhlmallaa", sum := "9d1a81b779ba28cf995b287ecdecbba1f8f2b61e13fc0dd9e15d504c96ef3275", func := "loop.example/g00181/laws.FnExactEngineNew", spec := "fnExactEngineNew", apart := false }
def FnExactEngineNewSaid : Prop := fnExactEngineNewRow.holds Try.pinned (OpenSpec.ofChange fnExactEngineNewSpec)

/-- ITS FALSE NEIGHBOUR: 'it returns false'. Refute it at one input. -/
def fnExactEngineNewWrong : ChangeSpec := { name := "fnExactEngineNew", fn := fun _ => fun
  | [] => { results := [.lit (.bool false)], args := [] }
  | _ => none }
def FnExactEngineNewWrongFalsely : Prop := fnExactEngineNewRow.holds Try.pinned (OpenSpec.ofChange fnExactEngineNewWrong)

/-- 'laws.FnExactBring': WHATEVER THE INPUT: true; the input reads as it did. -/
def fnExactBringSpec : ChangeSpec := { name := "fnExactBring", fn := fun _ => fun
  | [d1, d2, d3] => { results := [.lit (.bool true)], args := [d1, d2, d3] }
  | _ => none }
def fnExactBringRow : OpenClaim := { program := "ytjaddgkhlmallaa", sum := "9d1a81b779ba28cf995b287ecdecbba1f8f2b61e13fc0dd9e15d504c96ef3275", func := "loop.example/g00181/laws.FnExactBring", spec := "fnExactBring", unfollowed := true, recurses := true, apart := false }
def FnExactBringSaid : Prop := fnExactBringRow.holds Try.pinned (OpenSpec.ofChange fnExactBringSpec)

/-- ITS FALSE NEIGHBOUR: 'it returns false'. Refute it at one input. -/
def fnExactBringWrong : ChangeSpec := { name := "fnExactBring", fn := fun _ => fun
  | [d1, d2, d3] => { results := [.lit (.bool false)], args := [d1, d2, d3] }
  | _ => none }
def FnExactBringWrongFalsely : Prop := fnExactBringRow.holds Try.pinned (OpenSpec.ofChange fnExactBringWrong)

/-- 'laws.FnAppended': WHATEVER THE INPUT: true; the input reads as it did. -/
def fnAppendedSpec : ChangeSpec := { name := "fnAppended", fn := fun _ => fun
  | [d] => { results := [.lit (.bool true)], args := [d] }
  | _ => none }
def fnAppendedRow : OpenClaim := { program := "ytjaddgkhlmallaa", sum := "9d1a81b779ba28cf995b287ecdecbba1f8f2b61e13fc0dd9e15d504c96ef3275", func := "loop.example/g00181/laws.FnAppended", spec := "fnAppended", unfollowed := true, recurses := true, apart := false }
def FnAppendedSaid : Prop := fnAppendedRow.holds Try.pinned (OpenSpec.ofChange fnAppendedSpec)

/-- ITS FALSE NEIGHBOUR: 'it returns false'. Refute it at one input. -/
def fnAppendedWrong : ChangeSpec := { name := "fnAppended", fn := fun _ => fun
  | [d] => { results := [.lit (.bool false)], args := [d] }
  | _ => none }
def FnAppendedWrongFalsely : Prop := fnAppendedRow.holds Try.pinned (OpenSpec.ofChange fnAppendedWrong)

/-- 'laws.FnExactForce': WHATEVER THE INPUT: true; the input reads as it did. -/
def fnExactForceSpec : ChangeSpec := { name := "fnExactForce", fn := fun _ => fun
  | [d1, d2] => { results := [.lit (.bool true)], args := [d1, d2] }
  | _ => none }
def fnExactForceRow : OpenClaim := { program := "ytjaddgkhlmallaa", sum := "9d1a81b779ba28cf995b287ecdecbba1f8f2b61e13fc0dd9e15d504c96ef3275", func := "loop.example/g00181/laws.FnExactForce", spec := "fnExactForce", unfollowed := true, recurses := true, apart := false }
def FnExactForceSaid : Prop := fnExactForceRow.holds Try.pinned (OpenSpec.ofChange fnExactForceSpec)

/-- ITS FALSE NEIGHBOUR: 'it returns false'. Refute it at one input. -/
def fnExactForceWrong : ChangeSpec := { name := "fnExactForce", fn := fun _ => fun
  | [d1, d2] => { results := [.lit (.bool false)], args := [d1, d2] }
  | _ => none }
def FnExactForceWrongFalsely : Prop := fnExactForceRow.holds Try.pinned (OpenSpec.ofChange fnExactForceWrong)

/-- 'laws.FnExactTear': WHATEVER THE INPUT: true; the input reads as it did. -/
def fnExactTearSpec : ChangeSpec := { name := "fnExactTear", fn := fun _ => fun
  | [d1, d2] => { results := [.lit (.bool true)], args := [d1, d2] }
  | _ => none }
def fnExactTearRow : OpenClaim := { program := "ytjaddgkhlmallaa", sum := "9d1a81b779ba28cf995b287ecdecbba1f8f2b61e13fc0dd9e15d504c96ef3275", func := "loop.example/g00181/laws.FnExactTear", spec := "fnExactTear", unfollowed := true, recurses := true, apart := false }
def FnExactTearSaid : Prop := fnExactTearRow.holds Try.pinned (OpenSpec.ofChange fnExactTearSpec)

/-- ITS FALSE NEIGHBOUR: 'it returns false'. Refute it at one input. -/
def fnExactTearWrong : ChangeSpec := { name := "fnExactTear", fn := fun _ => fun
  | [d1, d2] => { results := [.lit (.bool false)], args := [d1, d2] }
  | _ => none }
def FnExactTearWrongFalsely : Prop := fnExactTearRow.holds Try.pinned (OpenSpec.ofChange fnExactTearWrong)

/-- 'laws.FnExactAppend': WHATEVER THE INPUT: true; the input reads as it did. -/
def fnExactAppendSpec : ChangeSpec := { name := "fnExactAppend", fn := fun _ => fun
  | [d1, d2] => { results := [.lit (.bool true)], args := [d1, d2] }
  | _ => none }
def fnExactAppendRow : OpenClaim := { program := "ytjaddgkhlmallaa", sum := "9d1a81b779ba28cf995b287ecdecbba1f8f2b61e13fc0dd9e15d504c96ef3275", func := "loop.example/g00181/laws.FnExactAppend", spec := "fnExactAppend", unfollowed := true, recurses := true, apart := false }
def FnExactAppendSaid : Prop := fnExactAppendRow.holds Try.pinned (OpenSpec.ofChange fnExactAppendSpec)

/-- ITS FALSE NEIGHBOUR: 'it returns false'. Refute it at one input. -/
def fnExactAppendWrong : ChangeSpec := { name := "fnExactAppend", fn := fun _ => fun
  | [d1, d2] => { results := [.lit (.bool false)], args := [d1, d2] }
  | _ => none }
def FnExactAppendWrongFalsely : Prop := fnExactAppendRow.holds Try.pinned (OpenSpec.ofChange fnExactAppendWrong)

/-- 'laws.FnExactLogBytes': WHATEVER THE INPUT: true; the input reads as it did. -/
def fnExactLogBytesSpec : ChangeSpec := { name := "fnExactLogBytes", fn := fun _ => fun
  | [d] => { results := [.lit (.bool true)], args := [d] }
  | _ => none }
def fnExactLogBytesRow : OpenClaim := { program := "ytjaddgkhlmallaa", sum := "9d1a81b779ba28cf995b287ecdecbba1f8f2b61e13fc0dd9e15d504c96ef3275", func := "loop.example/g00181/laws.FnExactLogBytes", spec := "fnExactLogBytes", unfollowed := true, recurses := true, apart := false }
def FnExactLogBytesSaid : Prop := fnExactLogBytesRow.holds Try.pinned (OpenSpec.ofChange fnExactLogBytesSpec)

/-- ITS FALSE NEIGHBOUR: 'it returns false'. Refute it at one input. -/
def fnExactLogBytesWrong : ChangeSpec := { name := "fnExactLogBytes", fn := fun _ => fun
  | [d] => { results := [.lit (.bool false)], args := [d] }
  | _ => none }
def FnExactLogBytesWrongFalsely : Prop := fnExactLogBytesRow.holds Try.pinned (OpenSpec.ofChange fnExactLogBytesWrong)

/-- 'laws.FnLosers': WHATEVER THE INPUT: true; the input reads as it did. -/
def fnLosersSpec : ChangeSpec := { name := "fnLosers", fn := fun _ => fun
  | [d] => { results := [.lit (.bool true)], args := [d] }
  | _ => none }
def fnLosersRow : OpenClaim := { program := "ytjaddgkhlmallaa", sum := "9d1a81b779ba28cf995b287ecdecbba1f8f2b61e13fc0dd9e15d504c96ef3275", func := "loop.example/g00181/laws.FnLosers", spec := "fnLosers", inPlace := ["slices.overlaps[loop.example/g00181/impl.Live]"], unfollowed := true, recurses := true, apart := false }
def FnLosersSaid : Prop := fnLosersRow.holds Try.pinned (OpenSpec.ofChange fnLosersSpec)

/-- ITS FALSE NEIGHBOUR: 'it returns false'. Refute it at one input. -/
def fnLosersWrong : ChangeSpec := { name := "fnLosers", fn := fun _ => fun
  | [d] => { results := [.lit (.bool false)], args := [d] }
  | _ => none }
def FnLosersWrongFalsely : Prop := fnLosersRow.holds Try.pinned (OpenSpec.ofChange fnLosersWrong)

/- THE SECOND FORM. 'bulk': how many values and letters a reading holds, each counted each time it is reached (what is shared counts as often as it is met; a slice's spare places count too). A statement '..UptoSaid' is the law's where the arguments, and the package variables that the reading takes, are together of bulk at most 1048576: NARROWER than '..Said'. Prove '..Said' where nothing that the law and all that it calls make is longer than what came in: it says more and counts as full. Else prove '..UptoSaid'. A law counts once. -/
mutual
def uptoBulk {H : Type} : DataW H → Nat
  | .lit (.string bytes) => bytes.length + 1
  | .lit _ => 1
  | .nil => 1
  | .ptr d => uptoBulk d + 1
  | .slice elems spare => uptoBulkAll elems + uptoBulkAll spare + 1
  | .agg parts => uptoBulkAll parts + 1
  | .iface _ d => uptoBulk d + 1
  | .map entries => uptoBulkEntries entries + 1
  | .held _ => 1
def uptoBulkAll {H : Type} : List (DataW H) → Nat
  | [] => 0
  | d :: r => uptoBulk d + uptoBulkAll r
def uptoBulkEntries {H : Type} : List (Lit × DataW H) → Nat
  | [] => 0
  | x :: r => uptoBulkEntry x + uptoBulkEntries r
def uptoBulkEntry {H : Type} : Lit × DataW H → Nat
  | (.string bytes, d) => bytes.length + uptoBulk d + 1
  | (_, d) => uptoBulk d + 1
 end
def uptoSmall : (H : Type) → List (DataW H) → Bool := fun _ ds => decide (uptoBulkAll ds ≤ 1048576)
def OpenSpec.upto (s : _root_.Go.ChangeSpec) : _root_.Go.OpenSpec := { _root_.Go.OpenSpec.ofChange s with cond := some uptoSmall }

/-- 'laws.FnExactFreeSlot', WHERE WHAT IT READS IS OF BULK AT MOST 1048576: true; the input reads as it did. -/
def fnExactFreeSlotUptoRow : OpenClaim := { program := "ytjaddgkhlmallaa", sum := "9d1a81b779ba28cf995b287ecdecbba1f8f2b61e13fc0dd9e15d504c96ef3275", func := "loop.example/g00181/laws.FnExactFreeSlot", spec := "fnExactFreeSlot", unfollowed := true, recurses := true, apart := false, narrowed := true }
def FnExactFreeSlotUptoSaid : Prop := fnExactFreeSlotUptoRow.holds Try.pinned (OpenSpec.upto fnExactFreeSlotSpec)

/-- 'laws.FnExactPageOk', WHERE WHAT IT READS IS OF BULK AT MOST 1048576: true; the input reads as it did. -/
def fnExactPageOkUptoRow : OpenClaim := { program := "ytjaddgkhlmallaa", sum := "9d1a81b779ba28cf995b287ecdecbba1f8f2b61e13fc0dd9e15d504c96ef3275", func := "loop.example/g00181/laws.FnExactPageOk", spec := "fnExactPageOk", unfollowed := true, recurses := true, apart := false, narrowed := true }
def FnExactPageOkUptoSaid : Prop := fnExactPageOkUptoRow.holds Try.pinned (OpenSpec.upto fnExactPageOkSpec)

/-- 'laws.FnExactPutObj', WHERE WHAT IT READS IS OF BULK AT MOST 1048576: true; the input reads as it did. -/
def fnExactPutObjUptoRow : OpenClaim := { program := "ytjaddgkhlmallaa", sum := "9d1a81b779ba28cf995b287ecdecbba1f8f2b61e13fc0dd9e15d504c96ef3275", func := "loop.example/g00181/laws.FnExactPutObj", spec := "fnExactPutObj", unfollowed := true, recurses := true, apart := false, narrowed := true }
def FnExactPutObjUptoSaid : Prop := fnExactPutObjUptoRow.holds Try.pinned (OpenSpec.upto fnExactPutObjSpec)

/-- 'laws.FnExactSeated', WHERE WHAT IT READS IS OF BULK AT MOST 1048576: true; the input reads as it did. -/
def fnExactSeatedUptoRow : OpenClaim := { program := "ytjaddgkhlmallaa", sum := "9d1a81b779ba28cf995b287ecdecbba1f8f2b61e13fc0dd9e15d504c96ef3275", func := "loop.example/g00181/laws.FnExactSeated", spec := "fnExactSeated", unfollowed := true, recurses := true, apart := false, narrowed := true }
def FnExactSeatedUptoSaid : Prop := fnExactSeatedUptoRow.holds Try.pinned (OpenSpec.upto fnExactSeatedSpec)

/-- 'laws.FnExactPoolOk', WHERE WHAT IT READS IS OF BULK AT MOST 1048576: true; the input reads as it did. -/
def fnExactPoolOkUptoRow : OpenClaim := { program := "ytjaddgkhlmallaa", sum := "9d1a81b779ba28cf995b287ecdecbba1f8f2b61e13fc0dd9e15d504c96ef3275", func := "loop.example/g00181/laws.FnExactPoolOk", spec := "fnExactPoolOk", unfollowed := true, recurses := true, apart := false, narrowed := true }
def FnExactPoolOkUptoSaid : Prop := fnExactPoolOkUptoRow.holds Try.pinned (OpenSpec.upto fnExactPoolOkSpec)

/-- 'laws.FnExactSetSlot', WHERE WHAT IT READS IS OF BULK AT MOST 1048576: true; the input reads as it did. -/
def fnExactSetSlotUptoRow : OpenClaim := { program := "ytjaddgkhlmallaa", sum := "9d1a81b779ba28cf995b287ecdecbba1f8f2b61e13fc0dd9e15d504c96ef3275", func := "loop.example/g00181/laws.FnExactSetSlot", spec := "fnExactSetSlot", unfollowed := true, recurses := true, apart := false, narrowed := true }
def FnExactSetSlotUptoSaid : Prop := fnExactSetSlotUptoRow.holds Try.pinned (OpenSpec.upto fnExactSetSlotSpec)

/-- 'laws.FnExactRecOk', WHERE WHAT IT READS IS OF BULK AT MOST 1048576: true; the input reads as it did. -/
def fnExactRecOkUptoRow : OpenClaim := { program := "ytjaddgkhlmallaa", sum := "9d1a81b779ba28cf995b287ecdecbba1f8f2b61e13fc0dd9e15d504c96ef3275", func := "loop.example/g00181/laws.FnExactRecOk", spec := "fnExactRecOk", unfollowed := true, recurses := true, apart := false, narrowed := true }
def FnExactRecOkUptoSaid : Prop := fnExactRecOkUptoRow.holds Try.pinned (OpenSpec.upto fnExactRecOkSpec)

/-- 'laws.FnChanged', WHERE WHAT IT READS IS OF BULK AT MOST 1048576: true; the input reads as it did. -/
def fnChangedUptoRow : OpenClaim := { program := "ytjaddgkhlmallaa", sum := "9d1a81b779ba28cf995b287ecdecbba1f8f2b61e13fc0dd9e15d504c96ef3275", func := "loop.example/g00181/laws.FnChanged", spec := "fnChanged", unfollowed := true, recurses := true, apart := false, narrowed := true }
def FnChangedUptoSaid : Prop := fnChangedUptoRow.holds Try.pinned (OpenSpec.upto fnChangedSpec)

/-- 'laws.FnExactChain', WHERE WHAT IT READS IS OF BULK AT MOST 1048576: true; the input reads as it did. -/
def fnExactChainUptoRow : OpenClaim := { program := "ytjaddgkhlmallaa", sum := "9d1a81b779ba28cf995b287ecdecbba1f8f2b61e13fc0dd9e15d504c96ef3275", func := "loop.example/g00181/laws.FnExactChain", spec := "fnExactChain", unfollowed := true, recurses := true, apart := false, narrowed := true }
def FnExactChainUptoSaid : Prop := fnExactChainUptoRow.holds Try.pinned (OpenSpec.upto fnExactChainSpec)

/-- 'laws.FnPools', WHERE WHAT IT READS IS OF BULK AT MOST 1048576: true; the input reads as it did. -/
def fnPoolsUptoRow : OpenClaim := { program := "ytjaddgkhlmallaa", sum := "9d1a81b779ba28cf995b287ecdecbba1f8f2b61e13fc0dd9e15d504c96ef3275", func := "loop.example/g00181/laws.FnPools", spec := "fnPools", unfollowed := true, recurses := true, apart := false, narrowed := true }
def FnPoolsUptoSaid : Prop := fnPoolsUptoRow.holds Try.pinned (OpenSpec.upto fnPoolsSpec)

/-- 'laws.FnExactClean', WHERE WHAT IT READS IS OF BULK AT MOST 1048576: true; the input reads as it did. -/
def fnExactCleanUptoRow : OpenClaim := { program := "ytjaddgkhlmallaa", sum := "9d1a81b779ba28cf995b287ecdecbba1f8f2b61e13fc0dd9e15d504c96ef3275", func := "loop.example/g00181/laws.FnExactClean", spec := "fnExactClean", unfollowed := true, recurses := true, apart := false, narrowed := true }
def FnExactCleanUptoSaid : Prop := fnExactCleanUptoRow.holds Try.pinned (OpenSpec.upto fnExactCleanSpec)

/-- 'laws.FnExactUsed', WHERE WHAT IT READS IS OF BULK AT MOST 1048576: true; the input reads as it did. -/
def fnExactUsedUptoRow : OpenClaim := { program := "ytjaddgkhlmallaa", sum := "9d1a81b779ba28cf995b287ecdecbba1f8f2b61e13fc0dd9e15d504c96ef3275", func := "loop.example/g00181/laws.FnExactUsed", spec := "fnExactUsed", unfollowed := true, recurses := true, apart := false, narrowed := true }
def FnExactUsedUptoSaid : Prop := fnExactUsedUptoRow.holds Try.pinned (OpenSpec.upto fnExactUsedSpec)

/-- 'laws.FnRedone', WHERE WHAT IT READS IS OF BULK AT MOST 1048576: true; the input reads as it did. -/
def fnRedoneUptoRow : OpenClaim := { program := "ytjaddgkhlmallaa", sum := "9d1a81b779ba28cf995b287ecdecbba1f8f2b61e13fc0dd9e15d504c96ef3275", func := "loop.example/g00181/laws.FnRedone", spec := "fnRedone", unfollowed := true, recurses := true, apart := false, narrowed := true }
def FnRedoneUptoSaid : Prop := fnRedoneUptoRow.holds Try.pinned (OpenSpec.upto fnRedoneSpec)

/-- 'laws.FnExactLogOk', WHERE WHAT IT READS IS OF BULK AT MOST 1048576: true; the input reads as it did. -/
def fnExactLogOkUptoRow : OpenClaim := { program := "ytjaddgkhlmallaa", sum := "9d1a81b779ba28cf995b287ecdecbba1f8f2b61e13fc0dd9e15d504c96ef3275", func := "loop.example/g00181/laws.FnExactLogOk", spec := "fnExactLogOk", unfollowed := true, recurses := true, apart := false, narrowed := true }
def FnExactLogOkUptoSaid : Prop := fnExactLogOkUptoRow.holds Try.pinned (OpenSpec.upto fnExactLogOkSpec)

/-- 'laws.FnExactCommitted', WHERE WHAT IT READS IS OF BULK AT MOST 1048576: true; the input reads as it did. -/
def fnExactCommittedUptoRow : OpenClaim := { program := "ytjaddgkhlmallaa", sum := "9d1a81b779ba28cf995b287ecdecbba1f8f2b61e13fc0dd9e15d504c96ef3275", func := "loop.example/g00181/laws.FnExactCommitted", spec := "fnExactCommitted", apart := false, narrowed := true }
def FnExactCommittedUptoSaid : Prop := fnExactCommittedUptoRow.holds Try.pinned (OpenSpec.upto fnExactCommittedSpec)

/-- 'laws.FnExactPutPage', WHERE WHAT IT READS IS OF BULK AT MOST 1048576: true; the input reads as it did. -/
def fnExactPutPageUptoRow : OpenClaim := { program := "ytjaddgkhlmallaa", sum := "9d1a81b779ba28cf995b287ecdecbba1f8f2b61e13fc0dd9e15d504c96ef3275", func := "loop.example/g00181/laws.FnExactPutPage", spec := "fnExactPutPage", unfollowed := true, recurses := true, apart := false, narrowed := true }
def FnExactPutPageUptoSaid : Prop := fnExactPutPageUptoRow.holds Try.pinned (OpenSpec.upto fnExactPutPageSpec)

/-- 'laws.FnExactVictim', WHERE WHAT IT READS IS OF BULK AT MOST 1048576: true; the input reads as it did. -/
def fnExactVictimUptoRow : OpenClaim := { program := "ytjaddgkhlmallaa", sum := "9d1a81b779ba28cf995b287ecdecbba1f8f2b61e13fc0dd9e15d504c96ef3275", func := "loop.example/g00181/laws.FnExactVictim", spec := "fnExactVictim", unfollowed := true, recurses := true, apart := false, narrowed := true }
def FnExactVictimUptoSaid : Prop := fnExactVictimUptoRow.holds Try.pinned (OpenSpec.upto fnExactVictimSpec)

/-- 'laws.FnExactUndoOf', WHERE WHAT IT READS IS OF BULK AT MOST 1048576: true; the input reads as it did. -/
def fnExactUndoOfUptoRow : OpenClaim := { program := "ytjaddgkhlmallaa", sum := "9d1a81b779ba28cf995b287ecdecbba1f8f2b61e13fc0dd9e15d504c96ef3275", func := "loop.example/g00181/laws.FnExactUndoOf", spec := "fnExactUndoOf", unfollowed := true, recurses := true, apart := false, narrowed := true }
def FnExactUndoOfUptoSaid : Prop := fnExactUndoOfUptoRow.holds Try.pinned (OpenSpec.upto fnExactUndoOfSpec)

/-- 'laws.FnExactChange', WHERE WHAT IT READS IS OF BULK AT MOST 1048576: true; the input reads as it did. -/
def fnExactChangeUptoRow : OpenClaim := { program := "ytjaddgkhlmallaa", sum := "9d1a81b779ba28cf995b287ecdecbba1f8f2b61e13fc0dd9e15d504c96ef3275", func := "loop.example/g00181/laws.FnExactChange", spec := "fnExactChange", unfollowed := true, recurses := true, apart := false, narrowed := true }
def FnExactChangeUptoSaid : Prop := fnExactChangeUptoRow.holds Try.pinned (OpenSpec.upto fnExactChangeSpec)

/-- 'laws.FnExactPutRec', WHERE WHAT IT READS IS OF BULK AT MOST 1048576: true; the input reads as it did. -/
def fnExactPutRecUptoRow : OpenClaim := { program := "ytjaddgkhlmallaa", sum := "9d1a81b779ba28cf995b287ecdecbba1f8f2b61e13fc0dd9e15d504c96ef3275", func := "loop.example/g00181/laws.FnExactPutRec", spec := "fnExactPutRec", unfollowed := true, recurses := true, apart := false, narrowed := true }
def FnExactPutRecUptoSaid : Prop := fnExactPutRecUptoRow.holds Try.pinned (OpenSpec.upto fnExactPutRecSpec)

/-- 'laws.FnExactRedo', WHERE WHAT IT READS IS OF BULK AT MOST 1048576: true; the input reads as it did. -/
def fnExactRedoUptoRow : OpenClaim := { program := "ytjaddgkhlmallaa", sum := "9d1a81b779ba28cf995b287ecdecbba1f8f2b61e13fc0dd9e15d504c96ef3275", func := "loop.example/g00181/laws.FnExactRedo", spec := "fnExactRedo", unfollowed := true, recurses := true, apart := false, narrowed := true }
def FnExactRedoUptoSaid : Prop := fnExactRedoUptoRow.holds Try.pinned (OpenSpec.upto fnExactRedoSpec)

/-- 'laws.FnTorn', WHERE WHAT IT READS IS OF BULK AT MOST 1048576: true; the input reads as it did. -/
def fnTornUptoRow : OpenClaim := { program := "ytjaddgkhlmallaa", sum := "9d1a81b779ba28cf995b287ecdecbba1f8f2b61e13fc0dd9e15d504c96ef3275", func := "loop.example/g00181/laws.FnTorn", spec := "fnTorn", unfollowed := true, recurses := true, apart := false, narrowed := true }
def FnTornUptoSaid : Prop := fnTornUptoRow.holds Try.pinned (OpenSpec.upto fnTornSpec)

/-- 'laws.FnExactEngineNew', WHERE WHAT IT READS IS OF BULK AT MOST 1048576: true; the input reads as it did. -/
def fnExactEngineNewUptoRow : OpenClaim := { program := "ytjaddgkhlmallaa", sum := "9d1a81b779ba28cf995b287ecdecbba1f8f2b61e13fc0dd9e15d504c96ef3275", func := "loop.example/g00181/laws.FnExactEngineNew", spec := "fnExactEngineNew", apart := false, narrowed := true }
def FnExactEngineNewUptoSaid : Prop := fnExactEngineNewUptoRow.holds Try.pinned (OpenSpec.upto fnExactEngineNewSpec)

/-- 'laws.FnExactBring', WHERE WHAT IT READS IS OF BULK AT MOST 1048576: true; the input reads as it did. -/
def fnExactBringUptoRow : OpenClaim := { program := "ytjaddgkhlmallaa", sum := "9d1a81b779ba28cf995b287ecdecbba1f8f2b61e13fc0dd9e15d504c96ef3275", func := "loop.example/g00181/laws.FnExactBring", spec := "fnExactBring", unfollowed := true, recurses := true, apart := false, narrowed := true }
def FnExactBringUptoSaid : Prop := fnExactBringUptoRow.holds Try.pinned (OpenSpec.upto fnExactBringSpec)

/-- 'laws.FnAppended', WHERE WHAT IT READS IS OF BULK AT MOST 1048576: true; the input reads as it did. -/
def fnAppendedUptoRow : OpenClaim := { program := "ytjaddgkhlmallaa", sum := "9d1a81b779ba28cf995b287ecdecbba1f8f2b61e13fc0dd9e15d504c96ef3275", func := "loop.example/g00181/laws.FnAppended", spec := "fnAppended", unfollowed := true, recurses := true, apart := false, narrowed := true }
def FnAppendedUptoSaid : Prop := fnAppendedUptoRow.holds Try.pinned (OpenSpec.upto fnAppendedSpec)

/-- 'laws.FnExactForce', WHERE WHAT IT READS IS OF BULK AT MOST 1048576: true; the input reads as it did. -/
def fnExactForceUptoRow : OpenClaim := { program := "ytjaddgkhlmallaa", sum := "9d1a81b779ba28cf995b287ecdecbba1f8f2b61e13fc0dd9e15d504c96ef3275", func := "loop.example/g00181/laws.FnExactForce", spec := "fnExactForce", unfollowed := true, recurses := true, apart := false, narrowed := true }
def FnExactForceUptoSaid : Prop := fnExactForceUptoRow.holds Try.pinned (OpenSpec.upto fnExactForceSpec)

/-- 'laws.FnExactTear', WHERE WHAT IT READS IS OF BULK AT MOST 1048576: true; the input reads as it did. -/
def fnExactTearUptoRow : OpenClaim := { program := "ytjaddgkhlmallaa", sum := "9d1a81b779ba28cf995b287ecdecbba1f8f2b61e13fc0dd9e15d504c96ef3275", func := "loop.example/g00181/laws.FnExactTear", spec := "fnExactTear", unfollowed := true, recurses := true, apart := false, narrowed := true }
def FnExactTearUptoSaid : Prop := fnExactTearUptoRow.holds Try.pinned (OpenSpec.upto fnExactTearSpec)

/-- 'laws.FnExactAppend', WHERE WHAT IT READS IS OF BULK AT MOST 1048576: true; the input reads as it did. -/
def fnExactAppendUptoRow : OpenClaim := { program := "ytjaddgkhlmallaa", sum := "9d1a81b779ba28cf995b287ecdecbba1f8f2b61e13fc0dd9e15d504c96ef3275", func := "loop.example/g00181/laws.FnExactAppend", spec := "fnExactAppend", unfollowed := true, recurses := true, apart := false, narrowed := true }
def FnExactAppendUptoSaid : Prop := fnExactAppendUptoRow.holds Try.pinned (OpenSpec.upto fnExactAppendSpec)

/-- 'laws.FnExactLogBytes', WHERE WHAT IT READS IS OF BULK AT MOST 1048576: true; the input reads as it did. -/
def fnExactLogBytesUptoRow : OpenClaim := { program := "ytjaddgkhlmallaa", sum := "9d1a81b779ba28cf995b287ecdecbba1f8f2b61e13fc0dd9e15d504c96ef3275", func := "loop.example/g00181/laws.FnExactLogBytes", spec := "fnExactLogBytes", unfollowed := true, recurses := true, apart := false, narrowed := true }
def FnExactLogBytesUptoSaid : Prop := fnExactLogBytesUptoRow.holds Try.pinned (OpenSpec.upto fnExactLogBytesSpec)

/-- 'laws.FnLosers', WHERE WHAT IT READS IS OF BULK AT MOST 1048576: true; the input reads as it did. -/
def fnLosersUptoRow : OpenClaim := { program := "ytjaddgkhlmallaa", sum := "9d1a81b779ba28cf995b287ecdecbba1f8f2b61e13fc0dd9e15d504c96ef3275", func := "loop.example/g00181/laws.FnLosers", spec := "fnLosers", inPlace := ["slices.overlaps[loop.example/g00181/impl.Live]"], unfollowed := true, recurses := true, apart := false, narrowed := true }
def FnLosersUptoSaid : Prop := fnLosersUptoRow.holds Try.pinned (OpenSpec.upto fnLosersSpec)

end Rows
end Go.Proofs.Ytjaddgkhlmallaa
