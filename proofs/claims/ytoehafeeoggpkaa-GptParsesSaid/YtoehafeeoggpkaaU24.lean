import Derived.Test.YtoehafeeoggpkaaS24
import Derived.Test.YtoehafeeoggpkaaC24
set_option linter.unusedVariables false
set_option linter.unusedSimpArgs false
set_option linter.unnecessarySimpa false
/-! The sort as a primitive is sound. -/
namespace Go.Proofs.Ytoehafeeoggpkaa.L24
open Go Go.Proofs Go.Shelf Go.RowKit Go.Lib Go.Sort Go.AM Go.Proofs.Ytoehafeeoggpkaa.AMC
set_option maxRecDepth 10000
noncomputable abbrev E0 (L d : Nat) : Env := ⟨fun f => tab.get f, L, d, noRound⟩
theorem idx0 : aIndex .str (.string ⟨#[0, 1, 2, 2, 3, 3, 3, 3, 4, 4, 4, 4, 4, 4, 4, 4, 5, 5, 5, 5, 5, 5, 5, 5, 5, 5, 5, 5, 5, 5, 5, 5, 6, 6, 6, 6, 6, 6, 6, 6, 6, 6, 6, 6, 6, 6, 6, 6, 6, 6, 6, 6, 6, 6, 6, 6, 6, 6, 6, 6, 6, 6, 6, 6, 7, 7, 7, 7, 7, 7, 7, 7, 7, 7, 7, 7, 7, 7, 7, 7, 7, 7, 7, 7, 7, 7, 7, 7, 7, 7, 7, 7, 7, 7, 7, 7, 7, 7, 7, 7, 7, 7, 7, 7, 7, 7, 7, 7, 7, 7, 7, 7, 7, 7, 7, 7, 7, 7, 7, 7, 7, 7, 7, 7, 7, 7, 7, 7, 8, 8, 8, 8, 8, 8, 8, 8, 8, 8, 8, 8, 8, 8, 8, 8, 8, 8, 8, 8, 8, 8, 8, 8, 8, 8, 8, 8, 8, 8, 8, 8, 8, 8, 8, 8, 8, 8, 8, 8, 8, 8, 8, 8, 8, 8, 8, 8, 8, 8, 8, 8, 8, 8, 8, 8, 8, 8, 8, 8, 8, 8, 8, 8, 8, 8, 8, 8, 8, 8, 8, 8, 8, 8, 8, 8, 8, 8, 8, 8, 8, 8, 8, 8, 8, 8, 8, 8, 8, 8, 8, 8, 8, 8, 8, 8, 8, 8, 8, 8, 8, 8, 8, 8, 8, 8, 8, 8, 8, 8, 8, 8, 8, 8, 8, 8, 8, 8, 8, 8, 8, 8, 8, 8, 8, 8, 8, 8]⟩) (.int .u8 0) = some (.int .u8 0) := by kernel_rfl
theorem len64_0 (L d : Nat) (h : AHeap) : (E0 (L + 10) (d + 1)).go 106 [.int .u64 0] h = some (.int .i64 0, h) := by
  refine go_of (show tab.get 106 = some (.code a106) by rfl) rfl ?_
  unfold a106
  have w8 : wrapF .u8 0 = 0 := by decide
  simp [w8, idx0, wrapF_i64]
theorem len_0 (L d : Nat) (h : AHeap) : (E0 (L + 10) (d + 2)).go 92 [.int .u64 0] h = some (.int .i64 0, h) := by
  refine go_of (show tab.get 92 = some (.code a92) by rfl) rfl ?_
  unfold a92
  simp [len64_0, wrapF_u64]
theorem ins_0 (L d : Nat) (a : Option Addr) (cap : Nat) (f : Value) (h : AHeap) : (E0 (L + 10) (d + 1)).go 97 [.slice a 0 cap, .int .i64 0, .int .i64 0, f] h = some (.tuple #[], h) := by
  refine go_of (show tab.get 97 = some (.code a97) by rfl) rfl ?_
  unfold a97
  simp [W_loop_all, WL_succ, wrapF_i64]
theorem pdq_0 (L d : Nat) (a : Option Addr) (cap : Nat) (f : Value) (h : AHeap) : (E0 (L + 10) (d + 2)).go 91 [.slice a 0 cap, .int .i64 0, .int .i64 0, .int .i64 0, f] h = some (.tuple #[], h) := by
  refine go_of (show tab.get 91 = some (.code a91) by rfl) rfl ?_
  unfold a91
  simp [W_loop_all, WL_succ, wrapF_i64, ins_0]
theorem sort_0 (L d : Nat) (a : Option Addr) (cap : Nat) (f : Value) (h : AHeap) : (E0 (L + 10) (d + 3)).go 77 [.slice a 0 cap, f] h = some (.tuple #[], h) := by
  refine go_of (show tab.get 77 = some (.code a77) by rfl) rfl ?_
  unfold a77
  simp [wrapF_u64, len_0, pdq_0]
end Go.Proofs.Ytoehafeeoggpkaa.L24
