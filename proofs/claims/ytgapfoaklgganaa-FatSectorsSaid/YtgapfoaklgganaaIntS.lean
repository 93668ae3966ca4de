import Derived.Lib.SmallJoins
import Derived.WalkKit
import Derived.ProofKit
import Derived.OpenShut
import Derived.WideShapes
set_option linter.unusedVariables false
set_option linter.unnecessarySimpa false
/-! A struct of numbers, by value, as an argument. -/
namespace Go.Proofs.Ytgapfoaklgganaa.L16
open Go Go.ChangeShapes Go.WideShapes Go.RowKit Go.Deep
theorem list8 {α : Type} {l : List α} (h : l.length = 8) : ∃ a b c d e f g i, l = [a, b, c, d, e, f, g, i] := by
  match l, h with
  | [a, b, c, d, e, f, g, i], _ => exact ⟨a, b, c, d, e, f, g, i, rfl⟩
def numOf : Value → Int
  | .int _ n => n
  | _ => 0
theorem open_intS {H : Type} {enc : TypeId × Value → H} {P : Program} {w : World} {base b0 : Nat} {spare : Nat → Bool} {held : Bool} {r : Reach} {t : TypeId} {fs : Array Field} {v : Value} {d : DataW H} {p : List MemPlace}
    (ht : P.underlying t = some (.struct fs)) (hone : oneCellFields P fs = true) (hint : ∀ (i : Nat) (f : Field), fs[i]? = some f → P.underlying f.type = some (.int .i64)) (hC : P.cellsOf t = fs.size)
    (hv : Value.okWide P w r b0 t v) (h : DataW.Trod enc P w base spare held t v d p) :
    ∃ zs : List Int, zs.length = fs.size ∧ v = .agg (zs.map (Value.int .i64)).toArray ∧ d = .agg (zs.map fun n => .lit (.int .i64 n)) ∧ p = [] ∧ ∀ n ∈ zs, (Lit.int .i64 n).wf = true := by
  obtain ⟨cs, rfl, hsz⟩ := okWide_struct ht hv
  obtain ⟨fuel, hf⟩ := h
  have hf : DataW.trod enc P w base spare held fuel t cs.toList = some (d, p) := hf
  obtain ⟨xs, n, _, hx, hl, hlen, hfl⟩ := DataW.trod_struct ht hf
  simp only [Prod.mk.injEq] at hx
  have hcl : cs.toList.length = fs.size := by rw [hl, hC]
  have per : ∀ i, i < fs.size → ∃ z, cs.toList[i]? = some (.int .i64 z) ∧ xs[i]? = some (.lit (.int .i64 z), []) ∧ (Lit.int .i64 z).wf = true := by
    intro i hi
    have hfi : fs[i]? = some fs[i] := Array.getElem?_eq_getElem hi
    obtain ⟨o, k⟩ := hone_of hone i fs[i] hfi
    have hx1 := hfl i fs[i] hfi
    have hxi : xs[i]? = some xs[i] := List.getElem?_eq_getElem (by omega)
    have hci : cs.toList[i]? = some (cs.toList[i]'(by omega)) := List.getElem?_eq_getElem (by omega)
    have hone1 : (cs.toList.drop i).take 1 = [cs.toList[i]'(by omega)] := by
      rw [List.drop_eq_getElem_cons (by omega)]; rfl
    rw [o, k, hone1, hxi] at hx1
    obtain ⟨z, hz1, hz2, hz3⟩ := DataW.trod_int (hint i _ hfi) hx1
    simp only [List.cons.injEq, and_true] at hz1
    exact ⟨z, by rw [hci, hz1], by rw [hxi, hz2], hz3⟩
  refine ⟨cs.toList.map numOf, by simpa using hcl, ?_, ?_, ?_, ?_⟩
  · congr 1
    apply Array.ext'
    simp only [List.map_map]
    symm
    apply List.ext_getElem?
    intro i
    rw [List.getElem?_map]
    by_cases hi : i < fs.size
    · obtain ⟨z, h1, _, _⟩ := per i hi
      rw [h1]; rfl
    · rw [List.getElem?_eq_none (by omega)]; rfl
  · rw [hx.1]
    congr 1
    apply List.ext_getElem?
    intro i
    rw [List.getElem?_map, List.getElem?_map, List.getElem?_map]
    by_cases hi : i < fs.size
    · obtain ⟨z, h1, h2, _⟩ := per i hi
      rw [h1, h2]; rfl
    · rw [List.getElem?_eq_none (by omega), List.getElem?_eq_none (by omega)]; rfl
  · rw [hx.2]
    apply List.flatMap_eq_nil_iff.2
    intro y hy
    obtain ⟨i, hi⟩ := List.mem_iff_getElem?.1 hy
    have hi2 : i < fs.size := by have := (List.getElem?_eq_some_iff.1 hi).1; omega
    obtain ⟨z, _, h2, _⟩ := per i hi2
    rw [h2] at hi
    injection hi with hi
    rw [← hi]
  · intro m hm
    obtain ⟨c, hc, rfl⟩ := List.mem_map.1 hm
    obtain ⟨i, hi⟩ := List.mem_iff_getElem?.1 hc
    have hi2 : i < fs.size := by have := (List.getElem?_eq_some_iff.1 hi).1; omega
    obtain ⟨z, h1, _, h3⟩ := per i hi2
    rw [h1] at hi
    injection hi with hi
    rw [← hi]; exact h3
end Go.Proofs.Ytgapfoaklgganaa.L16
