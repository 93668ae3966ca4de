import Derived.Test.YtoehafeeoggpkaaRows
import Derived.Test.YtoehafeeoggpkaaC24
import Derived.Test.YtoehafeeoggpkaaAM38
/-! The self-check of layer 14, run by the kernel. -/
namespace Go.Proofs.Ytoehafeeoggpkaa.L24
open Go Go.AM Go.RowKit Go.Proofs.Ytoehafeeoggpkaa.AMC
noncomputable section
def tabQ : Tr AEntry := (tab.set 85 (.prim qStep)).set 71 (.prim qFast)
theorem tabQ_ok : TabSound Try.prog (fun f => tabQ.get f) :=
  tab_prim (tab_prim tabOk ok85.1 (qStep_runs follows tabOk (show tab.get 85 = some (.code stepA) by rfl))) ok71.1 (qFast_runs follows tabOk (show tab.get 71 = some (.code fastA) by rfl))
theorem laid_runs : ansB (callF true (fun f => tabQ.get f) 100000 100 16 [] AHeap.empty) = some true := quick2 (by kernel_rfl)
theorem laid_calls (w : World) : Calls Try.prog 16 #[] w fun e w' => e = .returned (.bool true) ∧ Below w.heap.size w w' := closed_tr follows tabQ_ok laid_runs w
end
end Go.Proofs.Ytoehafeeoggpkaa.L24
