import Derived.Test.YtejlmlfncbcbbaaRows
import Derived.Test.YtejlmlfncbcbbaaN21
import Derived.Test.YtejlmlfncbcbbaaAM35
/-! The self-check of layer 15, run by the kernel. -/
namespace Go.Proofs.Ytejlmlfncbcbbaa.L21
open Go Go.AM Go.RowKit Go.Proofs.Ytejlmlfncbcbbaa.AMC
theorem mapped_runs : ansB (callF true (fun f => tab.get f) 100000 100 4 [] AHeap.empty) = some true := quick2 (by kernel_rfl)
theorem mapped_calls (w : World) : Calls Try.prog 4 #[] w fun e w' => e = .returned (.bool true) ∧ Below w.heap.size w w' := closed_tr follows tabOk mapped_runs w
theorem tabF_ok : TabSound Try.prog tabF := tab_prim tabOk ok4.1 (primTrue_runs mapped_calls)
end Go.Proofs.Ytejlmlfncbcbbaa.L21
