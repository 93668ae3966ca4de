import Derived.Test.YtjhoojdbjmneaaaCrcPlain
import Derived.Test.YtjhoojdbjmneaaaPCrcGoesy
/-! A row of bytes that came in, told as one that is shared. -/
namespace Go.Proofs.Ytjhoojdbjmneaaa.PCrcOvers
open Go.RowKit Go.Proofs.YtjhoojdbjmneaaaW.PrintWords Go.Proofs.YtjhoojdbjmneaaaW.PrintLast
set_option linter.unusedVariables false
theorem F_all {w : World} {A : Option Addr} {n : Nat} {xs : List Int} (h : (Kd.int .u8).C w A n xs) : Kd.F (Kd.int .u8) w (fun _ => True) A n xs := by
  intro W' hW
  obtain ⟨h1, h2, h3⟩ := h
  refine ⟨h1, h2, fun hn => ?_⟩
  obtain ⟨ad, e, hc⟩ := h3 hn
  refine ⟨ad, e, fun j p hj => ?_⟩
  obtain ⟨c, hl, hK, hcell⟩ := hc j p hj
  refine ⟨c, hl, hK, fun i u hu => ?_⟩
  have hu2 := hcell i u hu
  have hlt : (ad.add (j * (Kd.int .u8).sz + i)).block < w.heap.size := by
    rcases Nat.lt_or_ge (ad.add (j * (Kd.int .u8).sz + i)).block w.heap.size with h' | h'
    · exact h'
    · simp [World.cell?, Array.getElem?_eq_none h'] at hu2
  rw [← hu2]
  unfold World.cell?
  rw [hW _ trivial hlt]
theorem V_all {w : World} {A : Option Addr} {c b : Nat} {xs : List Int} (h : (Kd.int .u8).C w A xs.length xs) (hc : xs.length ≤ c) :
    Kd.V (Kd.int .u8) 5 w b (fun _ => True) (.slice A xs.length c) xs := ⟨A, c, rfl, hc, F_all h⟩
end Go.Proofs.Ytjhoojdbjmneaaa.PCrcOvers
