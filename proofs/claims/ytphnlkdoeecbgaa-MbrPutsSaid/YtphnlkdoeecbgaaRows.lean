/-
  No cell of these rows narrows 'for every input' (looked for: loops, veiled, ifaces, maps, wideKeys, modest, calm, conditions, laid).
  DERIVED. THE GIVEN ROWS OF THIS SEAT. 8 by the template 'for every input the law returns true; each argument reads behind the call as it read before'; 0 by the template 'total and deterministic' (their statements: YtphnlkdoeecbgaaTotals.lean).
  GIVEN WITH THE SEED: the statements are not yours to turn. If you find one false, say at which input.
  Laid BY PROGRAM, IN A SANDBOX (cutbox-rows.mjs): the forced cells as the released guide's own fill.sh prints them over the translation d7369ad7844764d6… (all of the seat's roots in one cut). By AI agents, Wed Nov 11 2026. No macro, syntax, notation, axiom, sorry.
-/
import Derived.Test.YtphnlkdoeecbgaaChecked
import GoSem.Claim
import GoSem.ClaimJoined
import GoSem.ClaimMapViews
import Derived.JoinedTies
import Derived.KernelRfl
namespace Go.Proofs.Ytphnlkdoeecbgaa
/- THE CELL 'sum', in the pinned program and in every row, IS THE sha256 OF THE DUMP (.gsa) THAT YtphnlkdoeecbgaaProg.lean LOADS. Nothing in Lean hashes anything: it is a label: what it is worth is what the hold of that sum in a sandbox is worth. -/
noncomputable def Try.pinned : Pinned := { name := "ytphnlkdoeecbgaa", sum := "d7369ad7844764d6f0cfa0e368215b8f5f92d7327f8cf3b2190b3db7f6f318ce", checked := Try.checked }
namespace Rows
def none {H : Type} : Left H := { results := [], args := [] }

/-- 'fettlelaw18.ExtBlocks': WHATEVER THE INPUT: true; the input reads as it did. -/
def extBlocksSpec : ChangeSpec := { name := "extBlocks", fn := fun _ => fun
  | [d1, d2] => { results := [.lit (.bool true)], args := [d1, d2] }
  | _ => none }
def extBlocksRow : OpenClaim := { program := "ytphnlkdoeecbgaa", sum := "d7369ad7844764d6f0cfa0e368215b8f5f92d7327f8cf3b2190b3db7f6f318ce", func := "fettle/fettlelaw18.ExtBlocks", spec := "extBlocks", unfollowed := true, recurses := true, apart := false }
def ExtBlocksSaid : Prop := extBlocksRow.holds Try.pinned (OpenSpec.ofChange extBlocksSpec)

/-- ITS FALSE NEIGHBOUR: 'it returns false'. Refute it at one input. -/
def extBlocksWrong : ChangeSpec := { name := "extBlocks", fn := fun _ => fun
  | [d1, d2] => { results := [.lit (.bool false)], args := [d1, d2] }
  | _ => none }
def ExtBlocksWrongFalsely : Prop := extBlocksRow.holds Try.pinned (OpenSpec.ofChange extBlocksWrong)

/-- 'fettlelaw18.ExtMaps': WHATEVER THE INPUT: true; the input reads as it did. -/
def extMapsSpec : ChangeSpec := { name := "extMaps", fn := fun _ => fun
  | [d] => { results := [.lit (.bool true)], args := [d] }
  | _ => none }
def extMapsRow : OpenClaim := { program := "ytphnlkdoeecbgaa", sum := "d7369ad7844764d6f0cfa0e368215b8f5f92d7327f8cf3b2190b3db7f6f318ce", func := "fettle/fettlelaw18.ExtMaps", spec := "extMaps", unfollowed := true, recurses := true, apart := false }
def ExtMapsSaid : Prop := extMapsRow.holds Try.pinned (OpenSpec.ofChange extMapsSpec)

/-- ITS FALSE NEIGHBOUR: 'it returns false'. Refute it at one input. -/
def extMapsWrong : ChangeSpec := { name := "extMaps", fn := fun _ => fun
  | [d] => { results := [.lit (.bool false)], args := [d] }
  | _ => none }
def ExtMapsWrongFalsely : Prop := extMapsRow.holds Try.pinned (OpenSpec.ofChange extMapsWrong)

/-- 'fettlelaw18.ExtRows': WHATEVER THE INPUT: true; the input reads as it did. -/
def extRowsSpec : ChangeSpec := { name := "extRows", fn := fun _ => fun
  | [d1, d2, d3] => { results := [.lit (.bool true)], args := [d1, d2, d3] }
  | _ => none }
def extRowsRow : OpenClaim := { program := "ytphnlkdoeecbgaa", sum := "d7369ad7844764d6f0cfa0e368215b8f5f92d7327f8cf3b2190b3db7f6f318ce", func := "fettle/fettlelaw18.ExtRows", spec := "extRows", unfollowed := true, recurses := true, apart := false }
def ExtRowsSaid : Prop := extRowsRow.holds Try.pinned (OpenSpec.ofChange extRowsSpec)

/-- ITS FALSE NEIGHBOUR: 'it returns false'. Refute it at one input. -/
def extRowsWrong : ChangeSpec := { name := "extRows", fn := fun _ => fun
  | [d1, d2, d3] => { results := [.lit (.bool false)], args := [d1, d2, d3] }
  | _ => none }
def ExtRowsWrongFalsely : Prop := extRowsRow.holds Try.pinned (OpenSpec.ofChange extRowsWrong)

/-- 'fettlelaw13.MbrEntries': WHATEVER THE INPUT: true; the input reads as it did. -/
def mbrEntriesSpec : ChangeSpec := { name := "mbrEntries", fn := fun _ => fun
  | [d] => { results := [.lit (.bool true)], args := [d] }
  | _ => none }
def mbrEntriesRow : OpenClaim := { program := "ytphnlkdoeecbgaa", sum := "d7369ad7844764d6f0cfa0e368215b8f5f92d7327f8cf3b2190b3db7f6f318ce", func := "fettle/fettlelaw13.MbrEntries", spec := "mbrEntries", unfollowed := true, recurses := true, apart := false }
def MbrEntriesSaid : Prop := mbrEntriesRow.holds Try.pinned (OpenSpec.ofChange mbrEntriesSpec)

/-- ITS FALSE NEIGHBOUR: 'it returns false'. Refute it at one input. -/
def mbrEntriesWrong : ChangeSpec := { name := "mbrEntries", fn := fun _ => fun
  | [d] => { results := [.lit (.bool false)], args := [d] }
  | _ => none }
def MbrEntriesWrongFalsely : Prop := mbrEntriesRow.holds Try.pinned (OpenSpec.ofChange mbrEntriesWrong)

/-- 'fettlelaw13.MbrLoops': WHATEVER THE INPUT: true; the input reads as it did. -/
def mbrLoopsSpec : ChangeSpec := { name := "mbrLoops", fn := fun _ => fun
  | [d1, d2, d3] => { results := [.lit (.bool true)], args := [d1, d2, d3] }
  | _ => none }
def mbrLoopsRow : OpenClaim := { program := "ytphnlkdoeecbgaa", sum := "d7369ad7844764d6f0cfa0e368215b8f5f92d7327f8cf3b2190b3db7f6f318ce", func := "fettle/fettlelaw13.MbrLoops", spec := "mbrLoops", unfollowed := true, recurses := true, apart := false }
def MbrLoopsSaid : Prop := mbrLoopsRow.holds Try.pinned (OpenSpec.ofChange mbrLoopsSpec)

/-- ITS FALSE NEIGHBOUR: 'it returns false'. Refute it at one input. -/
def mbrLoopsWrong : ChangeSpec := { name := "mbrLoops", fn := fun _ => fun
  | [d1, d2, d3] => { results := [.lit (.bool false)], args := [d1, d2, d3] }
  | _ => none }
def MbrLoopsWrongFalsely : Prop := mbrLoopsRow.holds Try.pinned (OpenSpec.ofChange mbrLoopsWrong)

/-- 'fettlelaw13.MbrSectors': WHATEVER THE INPUT: true; the input reads as it did. -/
def mbrSectorsSpec : ChangeSpec := { name := "mbrSectors", fn := fun _ => fun
  | [d1, d2, d3] => { results := [.lit (.bool true)], args := [d1, d2, d3] }
  | _ => none }
def mbrSectorsRow : OpenClaim := { program := "ytphnlkdoeecbgaa", sum := "d7369ad7844764d6f0cfa0e368215b8f5f92d7327f8cf3b2190b3db7f6f318ce", func := "fettle/fettlelaw13.MbrSectors", spec := "mbrSectors", unfollowed := true, recurses := true, apart := false }
def MbrSectorsSaid : Prop := mbrSectorsRow.holds Try.pinned (OpenSpec.ofChange mbrSectorsSpec)

/-- ITS FALSE NEIGHBOUR: 'it returns false'. Refute it at one input. -/
def mbrSectorsWrong : ChangeSpec := { name := "mbrSectors", fn := fun _ => fun
  | [d1, d2, d3] => { results := [.lit (.bool false)], args := [d1, d2, d3] }
  | _ => none }
def MbrSectorsWrongFalsely : Prop := mbrSectorsRow.holds Try.pinned (OpenSpec.ofChange mbrSectorsWrong)

/-- 'fettlelaw13.MbrPuts': WHATEVER THE INPUT: true; the input reads as it did. -/
def mbrPutsSpec : ChangeSpec := { name := "mbrPuts", fn := fun _ => fun
  | [d1, d2, d3] => { results := [.lit (.bool true)], args := [d1, d2, d3] }
  | _ => none }
def mbrPutsRow : OpenClaim := { program := "ytphnlkdoeecbgaa", sum := "d7369ad7844764d6f0cfa0e368215b8f5f92d7327f8cf3b2190b3db7f6f318ce", func := "fettle/fettlelaw13.MbrPuts", spec := "mbrPuts", unfollowed := true, recurses := true, apart := false }
def MbrPutsSaid : Prop := mbrPutsRow.holds Try.pinned (OpenSpec.ofChange mbrPutsSpec)

/-- ITS FALSE NEIGHBOUR: 'it returns false'. Refute it at one input. -/
def mbrPutsWrong : ChangeSpec := { name := "mbrPuts", fn := fun _ => fun
  | [d1, d2, d3] => { results := [.lit (.bool false)], args := [d1, d2, d3] }
  | _ => none }
def MbrPutsWrongFalsely : Prop := mbrPutsRow.holds Try.pinned (OpenSpec.ofChange mbrPutsWrong)

/-- 'fettlelaw14.GptChecks': WHATEVER THE INPUT: true; the input reads as it did. -/
def gptChecksSpec : ChangeSpec := { name := "gptChecks", fn := fun _ => fun
  | [d] => { results := [.lit (.bool true)], args := [d] }
  | _ => none }
def gptChecksRow : OpenClaim := { program := "ytphnlkdoeecbgaa", sum := "d7369ad7844764d6f0cfa0e368215b8f5f92d7327f8cf3b2190b3db7f6f318ce", func := "fettle/fettlelaw14.GptChecks", spec := "gptChecks", unfollowed := true, recurses := true, apart := false }
def GptChecksSaid : Prop := gptChecksRow.holds Try.pinned (OpenSpec.ofChange gptChecksSpec)

/-- ITS FALSE NEIGHBOUR: 'it returns false'. Refute it at one input. -/
def gptChecksWrong : ChangeSpec := { name := "gptChecks", fn := fun _ => fun
  | [d] => { results := [.lit (.bool false)], args := [d] }
  | _ => none }
def GptChecksWrongFalsely : Prop := gptChecksRow.holds Try.pinned (OpenSpec.ofChange gptChecksWrong)

/- THE SECOND FORM. 'bulk': how many values and letters a reading holds, each counted each time it is reached (what is shared counts as often as it is met; a slice's spare places count too). A statement '..UptoSaid' is the law's where the arguments, and the package variables that the reading takes, are together of bulk at most 1048576: NARROWER than '..Said'. Prove '..Said' where nothing that the law and all that it calls make is longer than what came in: it says more and counts as full. Else prove '..UptoSaid'. A law counts once. -/
mutual
def uptoBulk {H : Type} : DataW H → Nat
  | .lit (.string bytes) => bytes.length + 1
  | .lit _ => 1
  | .nil => 1
  | .ptr d => uptoBulk d + 1
  | .slice elems spare => uptoBulkAll elems + uptoBulkAll spare + 1
  | .agg parts => uptoBulkAll parts + 1
  | .iface _ d => uptoBulk d + 1
  | .map entries => uptoBulkEntries entries + 1
  | .held _ => 1
def uptoBulkAll {H : Type} : List (DataW H) → Nat
  | [] => 0
  | d :: r => uptoBulk d + uptoBulkAll r
def uptoBulkEntries {H : Type} : List (Lit × DataW H) → Nat
  | [] => 0
  | x :: r => uptoBulkEntry x + uptoBulkEntries r
def uptoBulkEntry {H : Type} : Lit × DataW H → Nat
  | (.string bytes, d) => bytes.length + uptoBulk d + 1
  | (_, d) => uptoBulk d + 1
 end
def uptoSmall : (H : Type) → List (DataW H) → Bool := fun _ ds => decide (uptoBulkAll ds ≤ 1048576)
def OpenSpec.upto (s : _root_.Go.ChangeSpec) : _root_.Go.OpenSpec := { _root_.Go.OpenSpec.ofChange s with cond := some uptoSmall }

/-- 'fettlelaw18.ExtBlocks', WHERE WHAT IT READS IS OF BULK AT MOST 1048576: true; the input reads as it did. -/
def extBlocksUptoRow : OpenClaim := { program := "ytphnlkdoeecbgaa", sum := "d7369ad7844764d6f0cfa0e368215b8f5f92d7327f8cf3b2190b3db7f6f318ce", func := "fettle/fettlelaw18.ExtBlocks", spec := "extBlocks", unfollowed := true, recurses := true, apart := false, narrowed := true }
def ExtBlocksUptoSaid : Prop := extBlocksUptoRow.holds Try.pinned (OpenSpec.upto extBlocksSpec)

/-- 'fettlelaw18.ExtMaps', WHERE WHAT IT READS IS OF BULK AT MOST 1048576: true; the input reads as it did. -/
def extMapsUptoRow : OpenClaim := { program := "ytphnlkdoeecbgaa", sum := "d7369ad7844764d6f0cfa0e368215b8f5f92d7327f8cf3b2190b3db7f6f318ce", func := "fettle/fettlelaw18.ExtMaps", spec := "extMaps", unfollowed := true, recurses := true, apart := false, narrowed := true }
def ExtMapsUptoSaid : Prop := extMapsUptoRow.holds Try.pinned (OpenSpec.upto extMapsSpec)

/-- 'fettlelaw18.ExtRows', WHERE WHAT IT READS IS OF BULK AT MOST 1048576: true; the input reads as it did. -/
def extRowsUptoRow : OpenClaim := { program := "ytphnlkdoeecbgaa", sum := "d7369ad7844764d6f0cfa0e368215b8f5f92d7327f8cf3b2190b3db7f6f318ce", func := "fettle/fettlelaw18.ExtRows", spec := "extRows", unfollowed := true, recurses := true, apart := false, narrowed := true }
def ExtRowsUptoSaid : Prop := extRowsUptoRow.holds Try.pinned (OpenSpec.upto extRowsSpec)

/-- 'fettlelaw13.MbrEntries', WHERE WHAT IT READS IS OF BULK AT MOST 1048576: true; the input reads as it did. -/
def mbrEntriesUptoRow : OpenClaim := { program := "ytphnlkdoeecbgaa", sum := "d7369ad7844764d6f0cfa0e368215b8f5f92d7327f8cf3b2190b3db7f6f318ce", func := "fettle/fettlelaw13.MbrEntries", spec := "mbrEntries", unfollowed := true, recurses := true, apart := false, narrowed := true }
def MbrEntriesUptoSaid : Prop := mbrEntriesUptoRow.holds Try.pinned (OpenSpec.upto mbrEntriesSpec)

/-- 'fettlelaw13.MbrLoops', WHERE WHAT IT READS IS OF BULK AT MOST 1048576: true; the input reads as it did. -/
def mbrLoopsUptoRow : OpenClaim := { program := "ytphnlkdoeecbgaa", sum := "d7369ad7844764d6f0cfa0e368215b8f5f92d7327f8cf3b2190b3db7f6f318ce", func := "fettle/fettlelaw13.MbrLoops", spec := "mbrLoops", unfollowed := true, recurses := true, apart := false, narrowed := true }
def MbrLoopsUptoSaid : Prop := mbrLoopsUptoRow.holds Try.pinned (OpenSpec.upto mbrLoopsSpec)

/-- 'fettlelaw13.MbrSectors', WHERE WHAT IT READS IS OF BULK AT MOST 1048576: true; the input reads as it did. -/
def mbrSectorsUptoRow : OpenClaim := { program := "ytphnlkdoeecbgaa", sum := "d7369ad7844764d6f0cfa0e368215b8f5f92d7327f8cf3b2190b3db7f6f318ce", func := "fettle/fettlelaw13.MbrSectors", spec := "mbrSectors", unfollowed := true, recurses := true, apart := false, narrowed := true }
def MbrSectorsUptoSaid : Prop := mbrSectorsUptoRow.holds Try.pinned (OpenSpec.upto mbrSectorsSpec)

/-- 'fettlelaw13.MbrPuts', WHERE WHAT IT READS IS OF BULK AT MOST 1048576: true; the input reads as it did. -/
def mbrPutsUptoRow : OpenClaim := { program := "ytphnlkdoeecbgaa", sum := "d7369ad7844764d6f0cfa0e368215b8f5f92d7327f8cf3b2190b3db7f6f318ce", func := "fettle/fettlelaw13.MbrPuts", spec := "mbrPuts", unfollowed := true, recurses := true, apart := false, narrowed := true }
def MbrPutsUptoSaid : Prop := mbrPutsUptoRow.holds Try.pinned (OpenSpec.upto mbrPutsSpec)

/-- 'fettlelaw14.GptChecks', WHERE WHAT IT READS IS OF BULK AT MOST 1048576: true; the input reads as it did. -/
def gptChecksUptoRow : OpenClaim := { program := "ytphnlkdoeecbgaa", sum := "d7369ad7844764d6f0cfa0e368215b8f5f92d7327f8cf3b2190b3db7f6f318ce", func := "fettle/fettlelaw14.GptChecks", spec := "gptChecks", unfollowed := true, recurses := true, apart := false, narrowed := true }
def GptChecksUptoSaid : Prop := gptChecksUptoRow.holds Try.pinned (OpenSpec.upto gptChecksSpec)

end Rows
end Go.Proofs.Ytphnlkdoeecbgaa
