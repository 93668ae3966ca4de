import Derived.Test.YtjjmpfkjbehdoaaGreatRows
import Derived.Test.YtjjmpfkjbehdoaaGreatN20
/-! The self-check of layer 20, run by the kernel. -/
namespace Go.Proofs.YtjjmpfkjbehdoaaGreat.L20
open Go Go.AM Go.RowKit Go.Proofs.YtjjmpfkjbehdoaaGreat.AMC
theorem made_runs : ansB (callF true (fun f => tab.get f) 100000 100 8 [] AHeap.empty) = some true := quick (by kernel_rfl)
theorem made_calls (w : World) : Calls Tryz.prog 8 #[] w fun e w' => e = .returned (.bool true) ∧ Below w.heap.size w w' := closed_tr follows tabOk made_runs w
theorem tabF_ok : TabSound Tryz.prog tabF := tab_prim tabOk ok8.1 (primTrue_runs made_calls)
end Go.Proofs.YtjjmpfkjbehdoaaGreat.L20
