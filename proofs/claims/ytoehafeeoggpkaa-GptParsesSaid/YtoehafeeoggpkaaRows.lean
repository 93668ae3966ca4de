/-
  No cell of these rows narrows 'for every input' (looked for: loops, veiled, ifaces, maps, wideKeys, modest, calm, conditions, laid).
  DERIVED. THE GIVEN ROWS OF THIS SEAT. 7 by the template 'for every input the law returns true; each argument reads behind the call as it read before'; 0 by the template 'total and deterministic' (their statements: YtoehafeeoggpkaaTotals.lean).
  GIVEN WITH THE SEED: the statements are not yours to turn. If you find one false, say at which input.
  Laid BY PROGRAM, IN A SANDBOX (cutbox-rows.mjs): the forced cells as the released guide's own fill.sh prints them over the translation 5842d08ae8b9a519… (all of the seat's roots in one cut). By AI agents, Wed Nov 11 2026. No macro, syntax, notation, axiom, sorry.
-/
import Derived.Test.YtoehafeeoggpkaaChecked
import GoSem.Claim
import GoSem.ClaimJoined
import GoSem.ClaimMapViews
import Derived.JoinedTies
import Derived.KernelRfl
namespace Go.Proofs.Ytoehafeeoggpkaa
/- THE CELL 'sum', in the pinned program and in every row, IS THE sha256 OF THE DUMP (.gsa) THAT YtoehafeeoggpkaaProg.lean LOADS. Nothing in Lean hashes anything: it is a label: what it is worth is what the hold of that sum in a sandbox is worth. -/
noncomputable def Try.pinned : Pinned := { name := "ytoehafeeoggpkaa", sum := "5842d08ae8b9a51958420f291f4e42bc588211c9383cdd6a8470fcf0eb1f1f6d", checked := Try.checked }
namespace Rows
def none {H : Type} : Left H := { results := [], args := [] }

/-- 'fettlelaw13.MbrLoops': WHATEVER THE INPUT: true; the input reads as it did. -/
def mbrLoopsSpec : ChangeSpec := { name := "mbrLoops", fn := fun _ => fun
  | [d1, d2, d3] => { results := [.lit (.bool true)], args := [d1, d2, d3] }
  | _ => none }
def mbrLoopsRow : OpenClaim := { program := "ytoehafeeoggpkaa", sum := "5842d08ae8b9a51958420f291f4e42bc588211c9383cdd6a8470fcf0eb1f1f6d", func := "fettle/fettlelaw13.MbrLoops", spec := "mbrLoops", unfollowed := true, recurses := true, apart := false }
def MbrLoopsSaid : Prop := mbrLoopsRow.holds Try.pinned (OpenSpec.ofChange mbrLoopsSpec)

/-- ITS FALSE NEIGHBOUR: 'it returns false'. Refute it at one input. -/
def mbrLoopsWrong : ChangeSpec := { name := "mbrLoops", fn := fun _ => fun
  | [d1, d2, d3] => { results := [.lit (.bool false)], args := [d1, d2, d3] }
  | _ => none }
def MbrLoopsWrongFalsely : Prop := mbrLoopsRow.holds Try.pinned (OpenSpec.ofChange mbrLoopsWrong)

/-- 'fettlelaw13.MbrSectors': WHATEVER THE INPUT: true; the input reads as it did. -/
def mbrSectorsSpec : ChangeSpec := { name := "mbrSectors", fn := fun _ => fun
  | [d1, d2, d3] => { results := [.lit (.bool true)], args := [d1, d2, d3] }
  | _ => none }
def mbrSectorsRow : OpenClaim := { program := "ytoehafeeoggpkaa", sum := "5842d08ae8b9a51958420f291f4e42bc588211c9383cdd6a8470fcf0eb1f1f6d", func := "fettle/fettlelaw13.MbrSectors", spec := "mbrSectors", unfollowed := true, recurses := true, apart := false }
def MbrSectorsSaid : Prop := mbrSectorsRow.holds Try.pinned (OpenSpec.ofChange mbrSectorsSpec)

/-- ITS FALSE NEIGHBOUR: 'it returns false'. Refute it at one input. -/
def mbrSectorsWrong : ChangeSpec := { name := "mbrSectors", fn := fun _ => fun
  | [d1, d2, d3] => { results := [.lit (.bool false)], args := [d1, d2, d3] }
  | _ => none }
def MbrSectorsWrongFalsely : Prop := mbrSectorsRow.holds Try.pinned (OpenSpec.ofChange mbrSectorsWrong)

/-- 'fettlelaw14.GptChecks': WHATEVER THE INPUT: true; the input reads as it did. -/
def gptChecksSpec : ChangeSpec := { name := "gptChecks", fn := fun _ => fun
  | [d] => { results := [.lit (.bool true)], args := [d] }
  | _ => none }
def gptChecksRow : OpenClaim := { program := "ytoehafeeoggpkaa", sum := "5842d08ae8b9a51958420f291f4e42bc588211c9383cdd6a8470fcf0eb1f1f6d", func := "fettle/fettlelaw14.GptChecks", spec := "gptChecks", unfollowed := true, recurses := true, apart := false }
def GptChecksSaid : Prop := gptChecksRow.holds Try.pinned (OpenSpec.ofChange gptChecksSpec)

/-- ITS FALSE NEIGHBOUR: 'it returns false'. Refute it at one input. -/
def gptChecksWrong : ChangeSpec := { name := "gptChecks", fn := fun _ => fun
  | [d] => { results := [.lit (.bool false)], args := [d] }
  | _ => none }
def GptChecksWrongFalsely : Prop := gptChecksRow.holds Try.pinned (OpenSpec.ofChange gptChecksWrong)

/-- 'fettlelaw14.GptParses': WHATEVER THE INPUT: true; the input reads as it did. -/
def gptParsesSpec : ChangeSpec := { name := "gptParses", fn := fun _ => fun
  | [d1, d2] => { results := [.lit (.bool true)], args := [d1, d2] }
  | _ => none }
def gptParsesRow : OpenClaim := { program := "ytoehafeeoggpkaa", sum := "5842d08ae8b9a51958420f291f4e42bc588211c9383cdd6a8470fcf0eb1f1f6d", func := "fettle/fettlelaw14.GptParses", spec := "gptParses", unfollowed := true, recurses := true, apart := false }
def GptParsesSaid : Prop := gptParsesRow.holds Try.pinned (OpenSpec.ofChange gptParsesSpec)

/-- ITS FALSE NEIGHBOUR: 'it returns false'. Refute it at one input. -/
def gptParsesWrong : ChangeSpec := { name := "gptParses", fn := fun _ => fun
  | [d1, d2] => { results := [.lit (.bool false)], args := [d1, d2] }
  | _ => none }
def GptParsesWrongFalsely : Prop := gptParsesRow.holds Try.pinned (OpenSpec.ofChange gptParsesWrong)

/-- 'fettlelaw14.GptBytes': WHATEVER THE INPUT: true; the input reads as it did. -/
def gptBytesSpec : ChangeSpec := { name := "gptBytes", fn := fun _ => fun
  | [d] => { results := [.lit (.bool true)], args := [d] }
  | _ => none }
def gptBytesRow : OpenClaim := { program := "ytoehafeeoggpkaa", sum := "5842d08ae8b9a51958420f291f4e42bc588211c9383cdd6a8470fcf0eb1f1f6d", func := "fettle/fettlelaw14.GptBytes", spec := "gptBytes", unfollowed := true, recurses := true, apart := false }
def GptBytesSaid : Prop := gptBytesRow.holds Try.pinned (OpenSpec.ofChange gptBytesSpec)

/-- ITS FALSE NEIGHBOUR: 'it returns false'. Refute it at one input. -/
def gptBytesWrong : ChangeSpec := { name := "gptBytes", fn := fun _ => fun
  | [d] => { results := [.lit (.bool false)], args := [d] }
  | _ => none }
def GptBytesWrongFalsely : Prop := gptBytesRow.holds Try.pinned (OpenSpec.ofChange gptBytesWrong)

/-- 'fettlelaw14.GptEncodes': WHATEVER THE INPUT: true; the input reads as it did. -/
def gptEncodesSpec : ChangeSpec := { name := "gptEncodes", fn := fun _ => fun
  | [d] => { results := [.lit (.bool true)], args := [d] }
  | _ => none }
def gptEncodesRow : OpenClaim := { program := "ytoehafeeoggpkaa", sum := "5842d08ae8b9a51958420f291f4e42bc588211c9383cdd6a8470fcf0eb1f1f6d", func := "fettle/fettlelaw14.GptEncodes", spec := "gptEncodes", unfollowed := true, recurses := true, apart := false }
def GptEncodesSaid : Prop := gptEncodesRow.holds Try.pinned (OpenSpec.ofChange gptEncodesSpec)

/-- ITS FALSE NEIGHBOUR: 'it returns false'. Refute it at one input. -/
def gptEncodesWrong : ChangeSpec := { name := "gptEncodes", fn := fun _ => fun
  | [d] => { results := [.lit (.bool false)], args := [d] }
  | _ => none }
def GptEncodesWrongFalsely : Prop := gptEncodesRow.holds Try.pinned (OpenSpec.ofChange gptEncodesWrong)

/-- 'fettlelaw14.GptMends': WHATEVER THE INPUT: true; the input reads as it did. -/
def gptMendsSpec : ChangeSpec := { name := "gptMends", fn := fun _ => fun
  | [d1, d2, d3] => { results := [.lit (.bool true)], args := [d1, d2, d3] }
  | _ => none }
def gptMendsRow : OpenClaim := { program := "ytoehafeeoggpkaa", sum := "5842d08ae8b9a51958420f291f4e42bc588211c9383cdd6a8470fcf0eb1f1f6d", func := "fettle/fettlelaw14.GptMends", spec := "gptMends", unfollowed := true, recurses := true, apart := false }
def GptMendsSaid : Prop := gptMendsRow.holds Try.pinned (OpenSpec.ofChange gptMendsSpec)

/-- ITS FALSE NEIGHBOUR: 'it returns false'. Refute it at one input. -/
def gptMendsWrong : ChangeSpec := { name := "gptMends", fn := fun _ => fun
  | [d1, d2, d3] => { results := [.lit (.bool false)], args := [d1, d2, d3] }
  | _ => none }
def GptMendsWrongFalsely : Prop := gptMendsRow.holds Try.pinned (OpenSpec.ofChange gptMendsWrong)

/- THE SECOND FORM. 'bulk': how many values and letters a reading holds, each counted each time it is reached (what is shared counts as often as it is met; a slice's spare places count too). A statement '..UptoSaid' is the law's where the arguments, and the package variables that the reading takes, are together of bulk at most 1048576: NARROWER than '..Said'. Prove '..Said' where nothing that the law and all that it calls make is longer than what came in: it says more and counts as full. Else prove '..UptoSaid'. A law counts once. -/
mutual
def uptoBulk {H : Type} : DataW H → Nat
  | .lit (.string bytes) => bytes.length + 1
  | .lit _ => 1
  | .nil => 1
  | .ptr d => uptoBulk d + 1
  | .slice elems spare => uptoBulkAll elems + uptoBulkAll spare + 1
  | .agg parts => uptoBulkAll parts + 1
  | .iface _ d => uptoBulk d + 1
  | .map entries => uptoBulkEntries entries + 1
  | .held _ => 1
def uptoBulkAll {H : Type} : List (DataW H) → Nat
  | [] => 0
  | d :: r => uptoBulk d + uptoBulkAll r
def uptoBulkEntries {H : Type} : List (Lit × DataW H) → Nat
  | [] => 0
  | x :: r => uptoBulkEntry x + uptoBulkEntries r
def uptoBulkEntry {H : Type} : Lit × DataW H → Nat
  | (.string bytes, d) => bytes.length + uptoBulk d + 1
  | (_, d) => uptoBulk d + 1
 end
def uptoSmall : (H : Type) → List (DataW H) → Bool := fun _ ds => decide (uptoBulkAll ds ≤ 1048576)
def OpenSpec.upto (s : _root_.Go.ChangeSpec) : _root_.Go.OpenSpec := { _root_.Go.OpenSpec.ofChange s with cond := some uptoSmall }

/-- 'fettlelaw13.MbrLoops', WHERE WHAT IT READS IS OF BULK AT MOST 1048576: true; the input reads as it did. -/
def mbrLoopsUptoRow : OpenClaim := { program := "ytoehafeeoggpkaa", sum := "5842d08ae8b9a51958420f291f4e42bc588211c9383cdd6a8470fcf0eb1f1f6d", func := "fettle/fettlelaw13.MbrLoops", spec := "mbrLoops", unfollowed := true, recurses := true, apart := false, narrowed := true }
def MbrLoopsUptoSaid : Prop := mbrLoopsUptoRow.holds Try.pinned (OpenSpec.upto mbrLoopsSpec)

/-- 'fettlelaw13.MbrSectors', WHERE WHAT IT READS IS OF BULK AT MOST 1048576: true; the input reads as it did. -/
def mbrSectorsUptoRow : OpenClaim := { program := "ytoehafeeoggpkaa", sum := "5842d08ae8b9a51958420f291f4e42bc588211c9383cdd6a8470fcf0eb1f1f6d", func := "fettle/fettlelaw13.MbrSectors", spec := "mbrSectors", unfollowed := true, recurses := true, apart := false, narrowed := true }
def MbrSectorsUptoSaid : Prop := mbrSectorsUptoRow.holds Try.pinned (OpenSpec.upto mbrSectorsSpec)

/-- 'fettlelaw14.GptChecks', WHERE WHAT IT READS IS OF BULK AT MOST 1048576: true; the input reads as it did. -/
def gptChecksUptoRow : OpenClaim := { program := "ytoehafeeoggpkaa", sum := "5842d08ae8b9a51958420f291f4e42bc588211c9383cdd6a8470fcf0eb1f1f6d", func := "fettle/fettlelaw14.GptChecks", spec := "gptChecks", unfollowed := true, recurses := true, apart := false, narrowed := true }
def GptChecksUptoSaid : Prop := gptChecksUptoRow.holds Try.pinned (OpenSpec.upto gptChecksSpec)

/-- 'fettlelaw14.GptParses', WHERE WHAT IT READS IS OF BULK AT MOST 1048576: true; the input reads as it did. -/
def gptParsesUptoRow : OpenClaim := { program := "ytoehafeeoggpkaa", sum := "5842d08ae8b9a51958420f291f4e42bc588211c9383cdd6a8470fcf0eb1f1f6d", func := "fettle/fettlelaw14.GptParses", spec := "gptParses", unfollowed := true, recurses := true, apart := false, narrowed := true }
def GptParsesUptoSaid : Prop := gptParsesUptoRow.holds Try.pinned (OpenSpec.upto gptParsesSpec)

/-- 'fettlelaw14.GptBytes', WHERE WHAT IT READS IS OF BULK AT MOST 1048576: true; the input reads as it did. -/
def gptBytesUptoRow : OpenClaim := { program := "ytoehafeeoggpkaa", sum := "5842d08ae8b9a51958420f291f4e42bc588211c9383cdd6a8470fcf0eb1f1f6d", func := "fettle/fettlelaw14.GptBytes", spec := "gptBytes", unfollowed := true, recurses := true, apart := false, narrowed := true }
def GptBytesUptoSaid : Prop := gptBytesUptoRow.holds Try.pinned (OpenSpec.upto gptBytesSpec)

/-- 'fettlelaw14.GptEncodes', WHERE WHAT IT READS IS OF BULK AT MOST 1048576: true; the input reads as it did. -/
def gptEncodesUptoRow : OpenClaim := { program := "ytoehafeeoggpkaa", sum := "5842d08ae8b9a51958420f291f4e42bc588211c9383cdd6a8470fcf0eb1f1f6d", func := "fettle/fettlelaw14.GptEncodes", spec := "gptEncodes", unfollowed := true, recurses := true, apart := false, narrowed := true }
def GptEncodesUptoSaid : Prop := gptEncodesUptoRow.holds Try.pinned (OpenSpec.upto gptEncodesSpec)

/-- 'fettlelaw14.GptMends', WHERE WHAT IT READS IS OF BULK AT MOST 1048576: true; the input reads as it did. -/
def gptMendsUptoRow : OpenClaim := { program := "ytoehafeeoggpkaa", sum := "5842d08ae8b9a51958420f291f4e42bc588211c9383cdd6a8470fcf0eb1f1f6d", func := "fettle/fettlelaw14.GptMends", spec := "gptMends", unfollowed := true, recurses := true, apart := false, narrowed := true }
def GptMendsUptoSaid : Prop := gptMendsUptoRow.holds Try.pinned (OpenSpec.upto gptMendsSpec)

end Rows
end Go.Proofs.Ytoehafeeoggpkaa
