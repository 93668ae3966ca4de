import Derived.Test.YtgapfoaklgganaaS14
import Derived.Test.YtgapfoaklgganaaC14
set_option linter.unusedVariables false
set_option linter.unusedSimpArgs false
set_option linter.unnecessarySimpa false
/-! The sort as a primitive is sound. -/
namespace Go.Proofs.Ytgapfoaklgganaa.L14
open Go Go.Proofs Go.Shelf Go.RowKit Go.Lib Go.Sort Go.AM Go.Proofs.Ytgapfoaklgganaa.AMC
set_option maxRecDepth 10000
noncomputable abbrev E0 (L d : Nat) : Env := ⟨fun f => tab.get f, L, d, noRound⟩
theorem idx0 : aIndex .str (.string ⟨#[0, 1, 2, 2, 3, 3, 3, 3, 4, 4, 4, 4, 4, 4, 4, 4, 5, 5, 5, 5, 5, 5, 5, 5, 5, 5, 5, 5, 5, 5, 5, 5, 6, 6, 6, 6, 6, 6, 6, 6, 6, 6, 6, 6, 6, 6, 6, 6, 6, 6, 6, 6, 6, 6, 6, 6, 6, 6, 6, 6, 6, 6, 6, 6, 7, 7, 7, 7, 7, 7, 7, 7, 7, 7, 7, 7, 7, 7, 7, 7, 7, 7, 7, 7, 7, 7, 7, 7, 7, 7, 7, 7, 7, 7, 7, 7, 7, 7, 7, 7, 7, 7, 7, 7, 7, 7, 7, 7, 7, 7, 7, 7, 7, 7, 7, 7, 7, 7, 7, 7, 7, 7, 7, 7, 7, 7, 7, 7, 8, 8, 8, 8, 8, 8, 8, 8, 8, 8, 8, 8, 8, 8, 8, 8, 8, 8, 8, 8, 8, 8, 8, 8, 8, 8, 8, 8, 8, 8, 8, 8, 8, 8, 8, 8, 8, 8, 8, 8, 8, 8, 8, 8, 8, 8, 8, 8, 8, 8, 8, 8, 8, 8, 8, 8, 8, 8, 8, 8, 8, 8, 8, 8, 8, 8, 8, 8, 8, 8, 8, 8, 8, 8, 8, 8, 8, 8, 8, 8, 8, 8, 8, 8, 8, 8, 8, 8, 8, 8, 8, 8, 8, 8, 8, 8, 8, 8, 8, 8, 8, 8, 8, 8, 8, 8, 8, 8, 8, 8, 8, 8, 8, 8, 8, 8, 8, 8, 8, 8, 8, 8, 8, 8, 8, 8, 8, 8]⟩) (.int .u8 0) = some (.int .u8 0) := by kernel_rfl
theorem len64_0 (L d : Nat) (h : AHeap) : (E0 (L + 10) (d + 1)).go 128 [.int .u64 0] h = some (.int .i64 0, h) := by
  refine go_of (show tab.get 128 = some (.code a128) by rfl) rfl ?_
  unfold a128
  have w8 : wrapF .u8 0 = 0 := by decide
  simp [w8, idx0, wrapF_i64]
theorem len_0 (L d : Nat) (h : AHeap) : (E0 (L + 10) (d + 2)).go 114 [.int .u64 0] h = some (.int .i64 0, h) := by
  refine go_of (show tab.get 114 = some (.code a114) by rfl) rfl ?_
  unfold a114
  simp [len64_0, wrapF_u64]
theorem ins_0 (L d : Nat) (a : Option Addr) (cap : Nat) (f : Value) (h : AHeap) : (E0 (L + 10) (d + 1)).go 119 [.slice a 0 cap, .int .i64 0, .int .i64 0, f] h = some (.tuple #[], h) := by
  refine go_of (show tab.get 119 = some (.code a119) by rfl) rfl ?_
  unfold a119
  simp [W_loop_all, WL_succ, wrapF_i64]
theorem pdq_0 (L d : Nat) (a : Option Addr) (cap : Nat) (f : Value) (h : AHeap) : (E0 (L + 10) (d + 2)).go 113 [.slice a 0 cap, .int .i64 0, .int .i64 0, .int .i64 0, f] h = some (.tuple #[], h) := by
  refine go_of (show tab.get 113 = some (.code a113) by rfl) rfl ?_
  unfold a113
  simp [W_loop_all, WL_succ, wrapF_i64, ins_0]
theorem sort_0 (L d : Nat) (a : Option Addr) (cap : Nat) (f : Value) (h : AHeap) : (E0 (L + 10) (d + 3)).go 101 [.slice a 0 cap, f] h = some (.tuple #[], h) := by
  refine go_of (show tab.get 101 = some (.code a101) by rfl) rfl ?_
  unfold a101
  simp [wrapF_u64, len_0, pdq_0]
end Go.Proofs.Ytgapfoaklgganaa.L14
