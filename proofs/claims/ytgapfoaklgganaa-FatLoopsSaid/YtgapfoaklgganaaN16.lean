import Derived.Test.YtgapfoaklgganaaC16
import Derived.Test.YtgapfoaklgganaaAM31
import Derived.Test.YtgapfoaklgganaaAM34
set_option linter.unusedVariables false
set_option linter.unusedSimpArgs false
set_option linter.unnecessarySimpa false
/-! FatNils over the executor. -/
namespace Go.Proofs.Ytgapfoaklgganaa.L16
open Go Go.AM Go.Proofs.Ytgapfoaklgganaa.AMC
def tabF : FuncId → Option AEntry := fun f => (tab.set 21 (.prim primTrue)).get f
abbrev En (L d : Nat) : Env := ⟨tabF, L, d, noRound⟩
theorem tab21 : tabF 21 = some (.prim primTrue) := by rfl
theorem go21 (L d : Nat) (h : AHeap) : (En L (d + 1)).go 21 [] h = some (.bool true, h) := by
  simp only [Env.go, callFR, tab21, primTrue]
set_option maxRecDepth 10000
theorem open_nil (L d : Nat) (h : AHeap) : (En L (d + 1)).go 41 [.nilIface] h = some (.tuple #[.pointer none, .int .i64 2], h) := by
  refine go_of (show tabF 41 = some (.code a41) by rfl) rfl ?_
  unfold a41
  simp
theorem chain_nil (L d : Nat) (n : Int) (h : AHeap) : (En L (d + 1)).go 47 [.pointer none, .int .i64 n, .map none] h = some (.tuple #[.slice none 0 0, .int .i64 2], h) := by
  refine go_of (show tabF 47 = some (.code a47) by rfl) rfl ?_
  unfold a47
  simp
theorem space_nil (L d : Nat) (h : AHeap) : (En L (d + 1)).go 42 [.pointer none] h = some (.slice none 0 0, h) := by
  refine go_of (show tabF 42 = some (.code a42) by rfl) rfl ?_
  unfold a42
  simp
theorem runs_nil (L d : Nat) (a : Option Addr) (len cap : Nat) (n : Int) (h : AHeap) : (En L (d + 1)).go 52 [.pointer none, .slice a len cap, .int .i64 n] h = some (.slice none 0 0, h) := by
  refine go_of (show tabF 52 = some (.code a52) by rfl) rfl ?_
  unfold a52
  simp
theorem lit_i (x : Int) (h : AHeap) : aBuildSlice true ⟨1, 8, [.int .i64 0]⟩ 1 [(0, .int .i64 x)] h = some (.slice (some ⟨h.next, 0, none⟩) 1 1, h.new (.row false 0 (mkRow true [.int .i64 x]))) := rfl
theorem law_nils (L d : Nat) (n : Int) (h : AHeap) : ∃ r h', (En L (d + 2)).go 10 [.int .i64 n] h = some (r, h') ∧ r = .bool true := by
  refine go_ex (R := fun r _ => r = .bool true) (show tabF 10 = some (.code a10) by rfl) rfl ?_
  unfold a10
  simp [open_nil, chain_nil, space_nil, runs_nil, go21, lit_i]
end Go.Proofs.Ytgapfoaklgganaa.L16
