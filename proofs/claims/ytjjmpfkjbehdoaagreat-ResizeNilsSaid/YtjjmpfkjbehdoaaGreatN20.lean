import Derived.Test.YtjjmpfkjbehdoaaGreatC20
import Derived.Test.YtjjmpfkjbehdoaaGreatAM31
import Derived.Test.YtjjmpfkjbehdoaaGreatAM34
set_option linter.unusedVariables false
set_option linter.unusedSimpArgs false
set_option linter.unnecessarySimpa false
/-! ResizeNils over the executor. -/
namespace Go.Proofs.YtjjmpfkjbehdoaaGreat.L20
open Go Go.AM Go.Proofs.YtjjmpfkjbehdoaaGreat.AMC
noncomputable def tabF : FuncId → Option AEntry := fun f => (tab.set 8 (.prim primTrue)).get f
noncomputable abbrev En (L d : Nat) : Env := ⟨tabF, L, d, noRound⟩
theorem tab8 : tabF 8 = some (.prim primTrue) := by rfl
theorem go8 (L d : Nat) (h : AHeap) : (En L (d + 1)).go 8 [] h = some (.bool true, h) := by
  simp only [Env.go, callFR, tab8, primTrue]
set_option maxRecDepth 10000
theorem fopen_nil (L d : Nat) (h : AHeap) : (En L (d + 1)).go 17 [.nilIface] h = some (.tuple #[.pointer none, .int .i64 2], h) := by
  refine go_of (show tabF 17 = some (.code a17) by rfl) rfl ?_
  unfold a17
  simp
theorem eopen_nil (L d : Nat) (h : AHeap) : (En L (d + 1)).go 25 [.nilIface] h = some (.tuple #[.pointer none, .int .i64 2], h) := by
  refine go_of (show tabF 25 = some (.code a25) by rfl) rfl ?_
  unfold a25
  simp
theorem ftree_nil (L d : Nat) (h : AHeap) : (En L (d + 2)).go 9 [.nilIface] h = some (.tuple #[.slice none 0 0, .slice none 0 0, .int .i64 2], h) := by
  refine go_of (show tabF 9 = some (.code a9) by rfl) rfl ?_
  unfold a9
  simp [fopen_nil]
theorem etree_nil (L d : Nat) (h : AHeap) : (En L (d + 2)).go 10 [.nilIface] h = some (.tuple #[.slice none 0 0, .slice none 0 0, .int .i64 2], h) := by
  refine go_of (show tabF 10 = some (.code a10) by rfl) rfl ?_
  unfold a10
  simp [eopen_nil]
theorem known_nil (L d : Nat) (h : AHeap) : (En L (d + 3)).go 4 [.nilIface] h = some (.tuple #[.int .i64 0, .slice none 0 0, .slice none 0 0, .int .i64 2], h) := by
  refine go_of (show tabF 4 = some (.code a4) by rfl) rfl ?_
  unfold a4
  simp [ftree_nil, etree_nil]
theorem last_nil (L d : Nat) (n : Int) (h : AHeap) : (En L (d + 3)).go 5 [.nilIface, .int .i64 n] h = some (.tuple #[.slice none 0 0, .int .i64 2], h) := by
  refine go_of (show tabF 5 = some (.code a5) by rfl) rfl ?_
  unfold a5
  simp
theorem fatto_nil (L d : Nat) (n : Int) (h : AHeap) : (En L (d + 3)).go 6 [.nilIface, .int .i64 n] h = some (.tuple #[.slice none 0 0, .int .i64 2], h) := by
  refine go_of (show tabF 6 = some (.code a6) by rfl) rfl ?_
  unfold a6
  simp [fopen_nil]
theorem extto_nil (L d : Nat) (n : Int) (h : AHeap) : (En L (d + 3)).go 7 [.nilIface, .int .i64 n] h = some (.tuple #[.slice none 0 0, .int .i64 2], h) := by
  refine go_of (show tabF 7 = some (.code a7) by rfl) rfl ?_
  unfold a7
  simp [eopen_nil]
theorem law_nils (L d : Nat) (n : Int) (h : AHeap) : ∃ r h', (En L (d + 4)).go 3 [.int .i64 n] h = some (r, h') ∧ r = .bool true := by
  refine go_ex (R := fun r _ => r = .bool true) (show tabF 3 = some (.code a3) by rfl) rfl ?_
  unfold a3
  simp [known_nil, last_nil, fatto_nil, extto_nil, go8]
end Go.Proofs.YtjjmpfkjbehdoaaGreat.L20
