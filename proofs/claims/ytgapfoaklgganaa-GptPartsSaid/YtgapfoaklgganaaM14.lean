import Derived.Test.YtgapfoaklgganaaRows
import Derived.Test.YtgapfoaklgganaaC14
import Derived.Test.YtgapfoaklgganaaAM38
/-! The self-check of layer 14, run by the kernel. -/
namespace Go.Proofs.Ytgapfoaklgganaa.L14
open Go Go.AM Go.RowKit Go.Proofs.Ytgapfoaklgganaa.AMC
noncomputable section
def tabQ : Tr AEntry := (tab.set 111 (.prim qStep)).set 96 (.prim qFast)
theorem tabQ_ok : TabSound Try.prog (fun f => tabQ.get f) :=
  tab_prim (tab_prim tabOk ok111.1 (qStep_runs follows tabOk (show tab.get 111 = some (.code stepA) by rfl))) ok96.1 (qFast_runs follows tabOk (show tab.get 96 = some (.code fastA) by rfl))
theorem laid_runs : ansB (callF true (fun f => tabQ.get f) 100000 100 13 [] AHeap.empty) = some true := quick2 (by kernel_rfl)
theorem laid_calls (w : World) : Calls Try.prog 13 #[] w fun e w' => e = .returned (.bool true) ∧ Below w.heap.size w w' := closed_tr follows tabQ_ok laid_runs w
end
end Go.Proofs.Ytgapfoaklgganaa.L14
