/- PROVED: whatever the bytes, FatNils returns true, and its argument reads as it did. Conditions: none but the row's own. -/
import Derived.Test.YtgapfoaklgganaaRows
import Derived.Test.YtgapfoaklgganaaN16
import Derived.WalkKit
import Derived.ProofKit
import Derived.OpenShut
import Derived.ShutString
import Derived.ChangeOld
import Derived.Below
import Derived.SizedLaws
set_option linter.unusedVariables false
set_option linter.unnecessarySimpa false
namespace Go.Proofs.Ytgapfoaklgganaa.L16
open Go Go.AM Go.RowKit Go.Proofs.Ytgapfoaklgganaa.AMC
theorem made_runs : ansB (callF true (fun f => tab.get f) 100000 100 21 [] AHeap.empty) = some true := quick (by kernel_rfl)
theorem made_calls (w : World) : Calls Try.prog 21 #[] w fun e w' => e = .returned (.bool true) ∧ Below w.heap.size w w' := closed_tr follows tabOk made_runs w
theorem tabF_ok : TabSound Try.prog tabF := tab_prim tabOk ok21.1 (primTrue_runs made_calls)
end Go.Proofs.Ytgapfoaklgganaa.L16
namespace Go.Proofs.Ytgapfoaklgganaa.fatNils
open Go.ChangeShapes Go.WideShapes Go.ChangeAt Go.RowKit Go.AM
open Go.ChangeMaps (open_string shut_string)
theorem own : ownKnob Try.prog.godebug = none := by kernel_rfl
theorem laidOut : laidOutB Try.prog = true := by kernel_rfl
theorem calls (W : World) (n : Int) : Calls Try.prog 10 #[.int .i64 n] W fun e w' => e = .returned (.bool true) ∧ Below W.heap.size W w' := by
  obtain ⟨r1, h', hgo, rfl⟩ := L16.law_nils 100000 98 n AHeap.empty
  exact go_calls AMC.follows L16.tabF_ok hgo (Inv.empty W) (.cons (.int _ _) .nil) ⟨true, rfl⟩
set_option maxRecDepth 100000 in
theorem lifted (os : Os) (started : os.Started) (H : Type) (enc : TypeId × Value → H) :
    ReturnsInHanded {} Try.checked os 10 .any (Rows.fatNilsSpec.pre6 enc Try.prog Try.f10 Rows.fatNilsRow.domain false) (Rows.fatNilsSpec.post enc Try.prog Try.f10 false true false false) := by
  refine returnsInHanded_of_change_sized (C := Try.checked) own started (by kernel_rfl) Try.func10
    (ChangeSpec.witness6 (enc := enc) (C := Try.checked) false ⟨#[], #[.int .i64 0], []⟩ 8 (by kernel_rfl) (by kernel_rfl) (by kernel_rfl) (by kernel_rfl)) ?_
  intro W base args ds gs before hval0 hW hcnd hsz0 _
  have hsz : (DataW.weightsEach Try.prog (Try.f10.params.toList ++ Rows.fatNilsSpec.plain.varTypes Try.prog) (ds ++ gs)).all (· ≤ reachBytes) = true := hsz0
  have hval : ∀ (j : Nat) t v, Try.f10.params[j]? = some t → args[j]? = some v → Value.okWide Try.prog W .any base t v := hval0
  have hW' := hW
  obtain ⟨p, q, hA0, hV, rfl, hfz, hnd⟩ := hW
  have hA : DataW.TrodAll enc Try.prog W 0 (fun _ => true) true Try.f10.params.toList args.toList ds p := hA0
  rw [Try.params10] at hA hval hsz
  obtain ⟨v0, vs0, d0, ds0, p0, q0, hargs, rfl, rfl, h0, r0⟩ := trodAll_cons hA
  obtain ⟨rfl, rfl, rfl⟩ := trodAll_nil r0
  obtain rfl : args = #[v0] := by cases args; simp_all
  obtain ⟨rfl, rfl⟩ := trodVars_none hV
  obtain ⟨n, rfl, rfl, rfl, wn⟩ := open_int Try.underlying2 (hval 0 2 v0 rfl rfl) h0
  clear hA0 hval0 hsz0 hsz
  refine (calls W n).mono fun e W' ⟨he, bel⟩ => ?_
  subst he
  exact ⟨_, rfl, _, _, _, [], _, [], hW', trodAll_mk1 (shut_bool Try.underlying4 _), (trodAll_cons_mk (shut_int Try.underlying2 wn) trodAll_mk0), rfl, bel.frame _, fun h => by cases h⟩
theorem over : Rows.fatNilsRow.holds Try.pinned (OpenSpec.ofChange Rows.fatNilsSpec) :=
  OpenClaim.holds_of_wide 10 Try.f10 rfl rfl rfl rfl rfl rfl rfl ⟨rfl, rfl, rfl, rfl, rfl⟩ rfl rfl rfl rfl rfl (by kernel_rfl) Try.func10 (by kernel_rfl)
    (of_decide_eq_true (by kernel_rfl)) (by unfold Func.isWrapper; first | (rw [if_pos (by decide +kernel)]; kernel_rfl) | (rw [if_neg (by decide +kernel)]; exact ⟨rfl, rfl⟩))
    (fun os started H enc _ => lifted os started H enc)
theorem proved : Rows.FatNilsSaid := over
end Go.Proofs.Ytgapfoaklgganaa.fatNils
namespace Go.Proofs.Ytgapfoaklgganaa
/-- The row, under a short name, for the claim. -/
theorem fatNils_holds : Rows.FatNilsSaid := fatNils.proved
end Go.Proofs.Ytgapfoaklgganaa
