/-
  No cell of these rows narrows 'for every input' (looked for: loops, veiled, ifaces, maps, wideKeys, modest, calm, conditions, laid).
  DERIVED. THE GIVEN ROWS OF THIS SEAT. 8 by the template 'for every input the law returns true; each argument reads behind the call as it read before'; 0 by the template 'total and deterministic' (their statements: YtgapfoaklgganaaTotals.lean).
  GIVEN WITH THE SEED: the statements are not yours to turn. If you find one false, say at which input.
  Laid BY PROGRAM, IN A SANDBOX (cutbox-rows.mjs): the forced cells as the released guide's own fill.sh prints them over the translation 3b053f5a609e3ec9… (all of the seat's roots in one cut). By AI agents, Wed Nov 11 2026. No macro, syntax, notation, axiom, sorry.
-/
import Derived.Test.YtgapfoaklgganaaChecked
import GoSem.Claim
import GoSem.ClaimJoined
import GoSem.ClaimMapViews
import Derived.JoinedTies
import Derived.KernelRfl
namespace Go.Proofs.Ytgapfoaklgganaa
/- THE CELL 'sum', in the pinned program and in every row, IS THE sha256 OF THE DUMP (.gsa) THAT YtgapfoaklgganaaProg.lean LOADS. Nothing in Lean hashes anything: it is a label: what it is worth is what the hold of that sum in a sandbox is worth. -/
noncomputable def Try.pinned : Pinned := { name := "ytgapfoaklgganaa", sum := "3b053f5a609e3ec9364d863b46e5a5b17e5dc87fa71ea834df87da17de2911c4", checked := Try.checked }
namespace Rows
def none {H : Type} : Left H := { results := [], args := [] }

/-- 'fettlelaw14.GptParts': WHATEVER THE INPUT: true; the input reads as it did. -/
def gptPartsSpec : ChangeSpec := { name := "gptParts", fn := fun _ => fun
  | [d] => { results := [.lit (.bool true)], args := [d] }
  | _ => none }
def gptPartsRow : OpenClaim := { program := "ytgapfoaklgganaa", sum := "3b053f5a609e3ec9364d863b46e5a5b17e5dc87fa71ea834df87da17de2911c4", func := "fettle/fettlelaw14.GptParts", spec := "gptParts", unfollowed := true, recurses := true, apart := false }
def GptPartsSaid : Prop := gptPartsRow.holds Try.pinned (OpenSpec.ofChange gptPartsSpec)

/-- ITS FALSE NEIGHBOUR: 'it returns false'. Refute it at one input. -/
def gptPartsWrong : ChangeSpec := { name := "gptParts", fn := fun _ => fun
  | [d] => { results := [.lit (.bool false)], args := [d] }
  | _ => none }
def GptPartsWrongFalsely : Prop := gptPartsRow.holds Try.pinned (OpenSpec.ofChange gptPartsWrong)

/-- 'fettlelaw16.FatSectors': WHATEVER THE INPUT: true; the input reads as it did. -/
def fatSectorsSpec : ChangeSpec := { name := "fatSectors", fn := fun _ => fun
  | [d1, d2] => { results := [.lit (.bool true)], args := [d1, d2] }
  | _ => none }
def fatSectorsRow : OpenClaim := { program := "ytgapfoaklgganaa", sum := "3b053f5a609e3ec9364d863b46e5a5b17e5dc87fa71ea834df87da17de2911c4", func := "fettle/fettlelaw16.FatSectors", spec := "fatSectors", unfollowed := true, recurses := true, apart := false }
def FatSectorsSaid : Prop := fatSectorsRow.holds Try.pinned (OpenSpec.ofChange fatSectorsSpec)

/-- ITS FALSE NEIGHBOUR: 'it returns false'. Refute it at one input. -/
def fatSectorsWrong : ChangeSpec := { name := "fatSectors", fn := fun _ => fun
  | [d1, d2] => { results := [.lit (.bool false)], args := [d1, d2] }
  | _ => none }
def FatSectorsWrongFalsely : Prop := fatSectorsRow.holds Try.pinned (OpenSpec.ofChange fatSectorsWrong)

/-- 'fettlelaw16.FatCounts': WHATEVER THE INPUT: true; the input reads as it did. -/
def fatCountsSpec : ChangeSpec := { name := "fatCounts", fn := fun _ => fun
  | [d1, d2] => { results := [.lit (.bool true)], args := [d1, d2] }
  | _ => none }
def fatCountsRow : OpenClaim := { program := "ytgapfoaklgganaa", sum := "3b053f5a609e3ec9364d863b46e5a5b17e5dc87fa71ea834df87da17de2911c4", func := "fettle/fettlelaw16.FatCounts", spec := "fatCounts", unfollowed := true, recurses := true, apart := false }
def FatCountsSaid : Prop := fatCountsRow.holds Try.pinned (OpenSpec.ofChange fatCountsSpec)

/-- ITS FALSE NEIGHBOUR: 'it returns false'. Refute it at one input. -/
def fatCountsWrong : ChangeSpec := { name := "fatCounts", fn := fun _ => fun
  | [d1, d2] => { results := [.lit (.bool false)], args := [d1, d2] }
  | _ => none }
def FatCountsWrongFalsely : Prop := fatCountsRow.holds Try.pinned (OpenSpec.ofChange fatCountsWrong)

/-- 'fettlelaw14.GptEncodes': WHATEVER THE INPUT: true; the input reads as it did. -/
def gptEncodesSpec : ChangeSpec := { name := "gptEncodes", fn := fun _ => fun
  | [d] => { results := [.lit (.bool true)], args := [d] }
  | _ => none }
def gptEncodesRow : OpenClaim := { program := "ytgapfoaklgganaa", sum := "3b053f5a609e3ec9364d863b46e5a5b17e5dc87fa71ea834df87da17de2911c4", func := "fettle/fettlelaw14.GptEncodes", spec := "gptEncodes", unfollowed := true, recurses := true, apart := false }
def GptEncodesSaid : Prop := gptEncodesRow.holds Try.pinned (OpenSpec.ofChange gptEncodesSpec)

/-- ITS FALSE NEIGHBOUR: 'it returns false'. Refute it at one input. -/
def gptEncodesWrong : ChangeSpec := { name := "gptEncodes", fn := fun _ => fun
  | [d] => { results := [.lit (.bool false)], args := [d] }
  | _ => none }
def GptEncodesWrongFalsely : Prop := gptEncodesRow.holds Try.pinned (OpenSpec.ofChange gptEncodesWrong)

/-- 'fettlelaw16.FatMakes': WHATEVER THE INPUT: true; the input reads as it did. -/
def fatMakesSpec : ChangeSpec := { name := "fatMakes", fn := fun _ => fun
  | [d1, d2] => { results := [.lit (.bool true)], args := [d1, d2] }
  | _ => none }
def fatMakesRow : OpenClaim := { program := "ytgapfoaklgganaa", sum := "3b053f5a609e3ec9364d863b46e5a5b17e5dc87fa71ea834df87da17de2911c4", func := "fettle/fettlelaw16.FatMakes", spec := "fatMakes", unfollowed := true, recurses := true, apart := false }
def FatMakesSaid : Prop := fatMakesRow.holds Try.pinned (OpenSpec.ofChange fatMakesSpec)

/-- ITS FALSE NEIGHBOUR: 'it returns false'. Refute it at one input. -/
def fatMakesWrong : ChangeSpec := { name := "fatMakes", fn := fun _ => fun
  | [d1, d2] => { results := [.lit (.bool false)], args := [d1, d2] }
  | _ => none }
def FatMakesWrongFalsely : Prop := fatMakesRow.holds Try.pinned (OpenSpec.ofChange fatMakesWrong)

/-- 'fettlelaw16.FatLoops': WHATEVER THE INPUT: true; the input reads as it did. -/
def fatLoopsSpec : ChangeSpec := { name := "fatLoops", fn := fun _ => fun
  | [d1, d2, d3] => { results := [.lit (.bool true)], args := [d1, d2, d3] }
  | _ => none }
def fatLoopsRow : OpenClaim := { program := "ytgapfoaklgganaa", sum := "3b053f5a609e3ec9364d863b46e5a5b17e5dc87fa71ea834df87da17de2911c4", func := "fettle/fettlelaw16.FatLoops", spec := "fatLoops", unfollowed := true, recurses := true, apart := false }
def FatLoopsSaid : Prop := fatLoopsRow.holds Try.pinned (OpenSpec.ofChange fatLoopsSpec)

/-- ITS FALSE NEIGHBOUR: 'it returns false'. Refute it at one input. -/
def fatLoopsWrong : ChangeSpec := { name := "fatLoops", fn := fun _ => fun
  | [d1, d2, d3] => { results := [.lit (.bool false)], args := [d1, d2, d3] }
  | _ => none }
def FatLoopsWrongFalsely : Prop := fatLoopsRow.holds Try.pinned (OpenSpec.ofChange fatLoopsWrong)

/-- 'fettlelaw16.FatChains': WHATEVER THE INPUT: true; the input reads as it did. -/
def fatChainsSpec : ChangeSpec := { name := "fatChains", fn := fun _ => fun
  | [d1, d2, d3] => { results := [.lit (.bool true)], args := [d1, d2, d3] }
  | _ => none }
def fatChainsRow : OpenClaim := { program := "ytgapfoaklgganaa", sum := "3b053f5a609e3ec9364d863b46e5a5b17e5dc87fa71ea834df87da17de2911c4", func := "fettle/fettlelaw16.FatChains", spec := "fatChains", unfollowed := true, recurses := true, apart := false }
def FatChainsSaid : Prop := fatChainsRow.holds Try.pinned (OpenSpec.ofChange fatChainsSpec)

/-- ITS FALSE NEIGHBOUR: 'it returns false'. Refute it at one input. -/
def fatChainsWrong : ChangeSpec := { name := "fatChains", fn := fun _ => fun
  | [d1, d2, d3] => { results := [.lit (.bool false)], args := [d1, d2, d3] }
  | _ => none }
def FatChainsWrongFalsely : Prop := fatChainsRow.holds Try.pinned (OpenSpec.ofChange fatChainsWrong)

/-- 'fettlelaw16.FatNils': WHATEVER THE INPUT: true; the input reads as it did. -/
def fatNilsSpec : ChangeSpec := { name := "fatNils", fn := fun _ => fun
  | [d] => { results := [.lit (.bool true)], args := [d] }
  | _ => none }
def fatNilsRow : OpenClaim := { program := "ytgapfoaklgganaa", sum := "3b053f5a609e3ec9364d863b46e5a5b17e5dc87fa71ea834df87da17de2911c4", func := "fettle/fettlelaw16.FatNils", spec := "fatNils", unfollowed := true, recurses := true, apart := false }
def FatNilsSaid : Prop := fatNilsRow.holds Try.pinned (OpenSpec.ofChange fatNilsSpec)

/-- ITS FALSE NEIGHBOUR: 'it returns false'. Refute it at one input. -/
def fatNilsWrong : ChangeSpec := { name := "fatNils", fn := fun _ => fun
  | [d] => { results := [.lit (.bool false)], args := [d] }
  | _ => none }
def FatNilsWrongFalsely : Prop := fatNilsRow.holds Try.pinned (OpenSpec.ofChange fatNilsWrong)

/- THE SECOND FORM. 'bulk': how many values and letters a reading holds, each counted each time it is reached (what is shared counts as often as it is met; a slice's spare places count too). A statement '..UptoSaid' is the law's where the arguments, and the package variables that the reading takes, are together of bulk at most 1048576: NARROWER than '..Said'. Prove '..Said' where nothing that the law and all that it calls make is longer than what came in: it says more and counts as full. Else prove '..UptoSaid'. A law counts once. -/
mutual
def uptoBulk {H : Type} : DataW H → Nat
  | .lit (.string bytes) => bytes.length + 1
  | .lit _ => 1
  | .nil => 1
  | .ptr d => uptoBulk d + 1
  | .slice elems spare => uptoBulkAll elems + uptoBulkAll spare + 1
  | .agg parts => uptoBulkAll parts + 1
  | .iface _ d => uptoBulk d + 1
  | .map entries => uptoBulkEntries entries + 1
  | .held _ => 1
def uptoBulkAll {H : Type} : List (DataW H) → Nat
  | [] => 0
  | d :: r => uptoBulk d + uptoBulkAll r
def uptoBulkEntries {H : Type} : List (Lit × DataW H) → Nat
  | [] => 0
  | x :: r => uptoBulkEntry x + uptoBulkEntries r
def uptoBulkEntry {H : Type} : Lit × DataW H → Nat
  | (.string bytes, d) => bytes.length + uptoBulk d + 1
  | (_, d) => uptoBulk d + 1
 end
def uptoSmall : (H : Type) → List (DataW H) → Bool := fun _ ds => decide (uptoBulkAll ds ≤ 1048576)
def OpenSpec.upto (s : _root_.Go.ChangeSpec) : _root_.Go.OpenSpec := { _root_.Go.OpenSpec.ofChange s with cond := some uptoSmall }

/-- 'fettlelaw14.GptParts', WHERE WHAT IT READS IS OF BULK AT MOST 1048576: true; the input reads as it did. -/
def gptPartsUptoRow : OpenClaim := { program := "ytgapfoaklgganaa", sum := "3b053f5a609e3ec9364d863b46e5a5b17e5dc87fa71ea834df87da17de2911c4", func := "fettle/fettlelaw14.GptParts", spec := "gptParts", unfollowed := true, recurses := true, apart := false, narrowed := true }
def GptPartsUptoSaid : Prop := gptPartsUptoRow.holds Try.pinned (OpenSpec.upto gptPartsSpec)

/-- 'fettlelaw16.FatSectors', WHERE WHAT IT READS IS OF BULK AT MOST 1048576: true; the input reads as it did. -/
def fatSectorsUptoRow : OpenClaim := { program := "ytgapfoaklgganaa", sum := "3b053f5a609e3ec9364d863b46e5a5b17e5dc87fa71ea834df87da17de2911c4", func := "fettle/fettlelaw16.FatSectors", spec := "fatSectors", unfollowed := true, recurses := true, apart := false, narrowed := true }
def FatSectorsUptoSaid : Prop := fatSectorsUptoRow.holds Try.pinned (OpenSpec.upto fatSectorsSpec)

/-- 'fettlelaw16.FatCounts', WHERE WHAT IT READS IS OF BULK AT MOST 1048576: true; the input reads as it did. -/
def fatCountsUptoRow : OpenClaim := { program := "ytgapfoaklgganaa", sum := "3b053f5a609e3ec9364d863b46e5a5b17e5dc87fa71ea834df87da17de2911c4", func := "fettle/fettlelaw16.FatCounts", spec := "fatCounts", unfollowed := true, recurses := true, apart := false, narrowed := true }
def FatCountsUptoSaid : Prop := fatCountsUptoRow.holds Try.pinned (OpenSpec.upto fatCountsSpec)

/-- 'fettlelaw14.GptEncodes', WHERE WHAT IT READS IS OF BULK AT MOST 1048576: true; the input reads as it did. -/
def gptEncodesUptoRow : OpenClaim := { program := "ytgapfoaklgganaa", sum := "3b053f5a609e3ec9364d863b46e5a5b17e5dc87fa71ea834df87da17de2911c4", func := "fettle/fettlelaw14.GptEncodes", spec := "gptEncodes", unfollowed := true, recurses := true, apart := false, narrowed := true }
def GptEncodesUptoSaid : Prop := gptEncodesUptoRow.holds Try.pinned (OpenSpec.upto gptEncodesSpec)

/-- 'fettlelaw16.FatMakes', WHERE WHAT IT READS IS OF BULK AT MOST 1048576: true; the input reads as it did. -/
def fatMakesUptoRow : OpenClaim := { program := "ytgapfoaklgganaa", sum := "3b053f5a609e3ec9364d863b46e5a5b17e5dc87fa71ea834df87da17de2911c4", func := "fettle/fettlelaw16.FatMakes", spec := "fatMakes", unfollowed := true, recurses := true, apart := false, narrowed := true }
def FatMakesUptoSaid : Prop := fatMakesUptoRow.holds Try.pinned (OpenSpec.upto fatMakesSpec)

/-- 'fettlelaw16.FatLoops', WHERE WHAT IT READS IS OF BULK AT MOST 1048576: true; the input reads as it did. -/
def fatLoopsUptoRow : OpenClaim := { program := "ytgapfoaklgganaa", sum := "3b053f5a609e3ec9364d863b46e5a5b17e5dc87fa71ea834df87da17de2911c4", func := "fettle/fettlelaw16.FatLoops", spec := "fatLoops", unfollowed := true, recurses := true, apart := false, narrowed := true }
def FatLoopsUptoSaid : Prop := fatLoopsUptoRow.holds Try.pinned (OpenSpec.upto fatLoopsSpec)

/-- 'fettlelaw16.FatChains', WHERE WHAT IT READS IS OF BULK AT MOST 1048576: true; the input reads as it did. -/
def fatChainsUptoRow : OpenClaim := { program := "ytgapfoaklgganaa", sum := "3b053f5a609e3ec9364d863b46e5a5b17e5dc87fa71ea834df87da17de2911c4", func := "fettle/fettlelaw16.FatChains", spec := "fatChains", unfollowed := true, recurses := true, apart := false, narrowed := true }
def FatChainsUptoSaid : Prop := fatChainsUptoRow.holds Try.pinned (OpenSpec.upto fatChainsSpec)

/-- 'fettlelaw16.FatNils', WHERE WHAT IT READS IS OF BULK AT MOST 1048576: true; the input reads as it did. -/
def fatNilsUptoRow : OpenClaim := { program := "ytgapfoaklgganaa", sum := "3b053f5a609e3ec9364d863b46e5a5b17e5dc87fa71ea834df87da17de2911c4", func := "fettle/fettlelaw16.FatNils", spec := "fatNils", unfollowed := true, recurses := true, apart := false, narrowed := true }
def FatNilsUptoSaid : Prop := fatNilsUptoRow.holds Try.pinned (OpenSpec.upto fatNilsSpec)

end Rows
end Go.Proofs.Ytgapfoaklgganaa
