/- PROVED: whatever the parts and the cut, CrcParts returns true, and its arguments read as they did. Conditions: none but the row's own. -/
import Derived.Test.YtjhoojdbjmneaaaRows
import Derived.Test.YtjhoojdbjmneaaaPureCrcParts
import Derived.Deep.Slices
import Derived.WalkKit
import Derived.ProofKit
import Derived.OpenShut
import Derived.ShutString
import Derived.ChangeOld
import Derived.Below
import Derived.SizedLaws
import Derived.Test.YtjhoojdbjmneaaaWSized
namespace Go.Proofs.Ytjhoojdbjmneaaa.crcParts
open Go.ChangeShapes Go.WideShapes Go.ChangeAt Go.RowKit
open Go.ChangeMaps (open_string shut_string)
set_option linter.unusedVariables false
theorem own : ownKnob Try.prog.godebug = none := by kernel_rfl
theorem laidOut : laidOutB Try.prog = true := by kernel_rfl
def IsRow (k : IntKind) (w : World) (a : Option Addr) (len cap : Nat) (zs : List Int) : Prop :=
  (a = none ∧ len = 0 ∧ cap = 0 ∧ zs = []) ∨
  ∃ x, a = some x ∧ len ≤ cap ∧ cap ≤ maxLen ∧ zs.length = cap ∧ (∀ i, i < zs.length → w.cell? (x.add i) = some (.int k (zs.getD i 0))) ∧ ∀ n ∈ zs, (Lit.int k n).wf = true
open CrcMath PCrcOvers Go.Proofs.YtjhoojdbjmneaaaW.PrintWords Go.Proofs.YtjhoojdbjmneaaaW.PrintLast in
/-- An element: a row of bytes that is read. -/
theorem elem_row {H : Type} {enc : TypeId × Value → H} {W : World} {V : Value} {n : Nat} {x : DataW H × List MemPlace}
    (h : DataW.trod enc Try.prog W 0 (fun _ => true) true n 22 [V] = some x) :
    ∃ (l : List Int) (A : Option Addr) (c : Nat), V = .slice A l.length c ∧ l.length ≤ c ∧ (Kd.int .u8).C W A l.length l ∧ Bytes l := by
  have key : ∃ (A : Option Addr) (len cap : Nat) (zs : List Int), V = .slice A len cap ∧ IsRow .u8 W A len cap zs := by
    rcases open_ints Try.underlying22 Try.underlying5 (by kernel_rfl) h with ⟨hcs, _⟩ | ⟨x, l, c, zs, hcs, _, hl, hm, hz, _, hcell, hwz⟩
    · simp at hcs
      exact ⟨none, 0, 0, [], hcs, .inl ⟨rfl, rfl, rfl, rfl⟩⟩
    · simp at hcs
      exact ⟨some x, l, c, zs, hcs, .inr ⟨_, rfl, hl, hm, by simpa using hz, hcell, hwz⟩⟩
  obtain ⟨A, len, cap, zs, rfl, w0⟩ := key
  obtain ⟨l0, rfl, hr0, hm0, hw0, hc0⟩ := ReadsInt.ofRowC w0
  exact ⟨l0, A, cap, rfl, hc0, Kd.C_of_reads (d := (0 : Int)) (h1 := fun _ => rfl) hr0, Bytes.of hw0⟩
open CrcMath PCrcOvers Go.Proofs.YtjhoojdbjmneaaaW.PrintWords Go.Proofs.YtjhoojdbjmneaaaW.PrintLast in
/-- All of them. -/
theorem arg_rows {H : Type} {enc : TypeId × Value → H} {W : World} {a0 : Option Addr} {len0 cap0 : Nat} {n : Nat} {x : DataW H × List MemPlace}
    (h : DataW.trod enc Try.prog W 0 (fun _ => true) true n 28 [.slice a0 len0 cap0] = some x) :
    ∃ l : List (List Int), l.length = len0 ∧ len0 ≤ cap0 ∧ (Kd.slice 5 (Kd.int .u8)).C W a0 l.length l ∧ ∀ y ∈ l, Bytes y := by
  rcases Go.Deep.open_slice1 Try.underlying28 (by kernel_rfl) h with ⟨hcs, _⟩ | ⟨a, len, cap, m, n', V, D, Pl, hcs, _, hl, hm, hmm, _, hV⟩
  · simp at hcs
    obtain ⟨rfl, rfl, rfl⟩ := hcs
    exact ⟨[], rfl, Nat.le_refl _, Kd.C_nil _ _, fun y hy => by simp at hy⟩
  · simp at hcs hmm
    obtain ⟨rfl, rfl, rfl⟩ := hcs
    subst hmm
    have he : ∀ i, i < len0 → ∃ (l : List Int) (A : Option Addr) (c : Nat), V i = .slice A l.length c ∧ l.length ≤ c ∧ (Kd.int .u8).C W A l.length l ∧ Bytes l :=
      fun i hi => elem_row (hV i (by omega)).2
    let L : Nat → List Int := fun i => if hi : i < len0 then Classical.choose (he i hi) else []
    have hL : ∀ i, i < len0 → ∃ (A : Option Addr) (c : Nat), V i = .slice A (L i).length c ∧ (L i).length ≤ c ∧ (Kd.int .u8).C W A (L i).length (L i) ∧ Bytes (L i) := fun i hi => by
      have : L i = Classical.choose (he i hi) := by simp only [L]; rw [dif_pos hi]
      rw [this]
      exact Classical.choose_spec (he i hi)
    refine ⟨(List.range len0).map L, by simp, hl, ?_, fun y hy => ?_⟩
    · refine ⟨rfl, ?_, fun _ => ⟨a, rfl, fun j p hj => ?_⟩⟩
      · simp only [List.length_map, List.length_range]
        exact Nat.le_trans hl (Nat.le_trans hm (by decide))
      · have hlt : j < len0 := by have := (List.getElem?_eq_some_iff.1 hj).1; simpa using this
        have hp : p = L j := by simp [List.getElem?_map, List.getElem?_range hlt] at hj; exact hj.symm
        subst hp
        obtain ⟨A, c, e1, e2, e3, _⟩ := hL j hlt
        refine ⟨[.slice A (L j).length c], rfl, ⟨A, c, rfl, e2, e3⟩, fun i u hu => ?_⟩
        cases i with
        | succ i => simp at hu
        | zero =>
          simp at hu; subst hu
          have := (hV j (by omega)).1
          rw [e1] at this
          show W.cell? (a.add (j * 1 + 0)) = _
          rw [Nat.mul_one, Nat.add_zero]; exact this
    · obtain ⟨i, hi, rfl⟩ := List.mem_map.1 hy
      obtain ⟨_, _, _, _, _, hb⟩ := hL i (List.mem_range.1 hi)
      exact hb
set_option maxRecDepth 100000 in
theorem lifted (os : Os) (started : os.Started) (H : Type) (enc : TypeId × Value → H) :
    ReturnsInHanded {} Try.checked os 4 .any (Rows.crcPartsSpec.pre6 enc Try.prog Try.f4 Rows.crcPartsRow.domain false) (Rows.crcPartsSpec.post enc Try.prog Try.f4 false true false false) := by
  refine returnsInHanded_of_change_sized (C := Try.checked) own started (by kernel_rfl) Try.func4
    (ChangeSpec.witness6 (enc := enc) (C := Try.checked) false ⟨#[], #[.slice none 0 0, .int .i64 0], []⟩ 8 (by kernel_rfl) (by kernel_rfl) (by kernel_rfl) (by kernel_rfl)) ?_
  intro W base args ds gs before hval0 hW hcnd hsz0 _
  have hsz : (DataW.weightsEach Try.prog (Try.f4.params.toList ++ Rows.crcPartsSpec.plain.varTypes Try.prog) (ds ++ gs)).all (· ≤ reachBytes) = true := hsz0
  have hval : ∀ (j : Nat) t v, Try.f4.params[j]? = some t → args[j]? = some v → Value.okWide Try.prog W .any base t v := hval0
  have hW' := hW
  obtain ⟨p, q, hA0, hV, rfl, hfz, hnd⟩ := hW
  have hA : DataW.TrodAll enc Try.prog W 0 (fun _ => true) true Try.f4.params.toList args.toList ds p := hA0
  rw [Try.params4] at hA hval hsz
  obtain ⟨v0, vs0, d0, ds0, p0, q0, hargs, rfl, rfl, h0, r0⟩ := trodAll_cons hA
  obtain ⟨v1, vs1, d1, ds1, p1, q1, rfl, rfl, rfl, h1, r1⟩ := trodAll_cons r0
  obtain ⟨rfl, rfl, rfl⟩ := trodAll_nil r1
  obtain rfl : args = #[v0, v1] := by cases args; simp_all
  obtain ⟨rfl, rfl⟩ := trodVars_none hV
  obtain ⟨a0, len0, cap0, rfl⟩ := okWide_slice Try.underlying28 (hval 0 28 v0 rfl rfl)
  have k0 := h0
  have lt0 : ∀ x ∈ p0, x.block < W.heap.size := by obtain ⟨m, hm⟩ := k0; exact DataW.trod_lt m _ _ _ hm
  obtain ⟨l0, rfl, hc0, hC, hbs⟩ : ∃ l : List (List Int), l.length = len0 ∧ len0 ≤ cap0 ∧ (Go.Proofs.YtjhoojdbjmneaaaW.PrintWords.Kd.slice 5 (Go.Proofs.YtjhoojdbjmneaaaW.PrintWords.Kd.int .u8)).C W a0 l.length l ∧ ∀ y ∈ l, CrcMath.Bytes y := by
    obtain ⟨fuel, hf⟩ := h0
    exact arg_rows hf
  obtain ⟨a1, rfl, rfl, rfl, w1⟩ := open_int Try.underlying3 (hval 1 3 v1 rfl rfl) h1
  clear hA0 hval0 hsz0 hsz
  obtain ⟨k, hk⟩ := CrcMath.parts_f a1 l0 hbs
  refine (PCrcOvers.fettlelaw02_CrcParts.calls k a0 cap0 l0 a1 true W hC hc0 hk).mono fun e W' ⟨he, bel⟩ => ?_
  subst he
  exact ⟨_, rfl, _, _, _, [], _, [], hW', trodAll_mk1 (shut_bool Try.underlying4 _), (trodAll_cons_mk (Below.trod laidOut (by kernel_rfl) (of_decide_eq_true (by kernel_rfl)) k0 bel lt0) (trodAll_cons_mk (shut_int Try.underlying3 w1) trodAll_mk0)), rfl, bel.frame _, fun h => by cases h⟩
theorem over : Rows.crcPartsRow.holds Try.pinned (OpenSpec.ofChange Rows.crcPartsSpec) :=
  OpenClaim.holds_of_wide 4 Try.f4 rfl rfl rfl rfl rfl rfl rfl ⟨rfl, rfl, rfl, rfl, rfl⟩ rfl rfl rfl rfl rfl (by kernel_rfl) Try.func4 (by kernel_rfl)
    (of_decide_eq_true (by kernel_rfl)) (by unfold Func.isWrapper; first | (rw [if_pos (by decide +kernel)]; kernel_rfl) | (rw [if_neg (by decide +kernel)]; exact ⟨rfl, rfl⟩))
    (fun os started H enc _ => lifted os started H enc)
theorem proved : Rows.CrcPartsSaid := over
#print axioms proved
end Go.Proofs.Ytjhoojdbjmneaaa.crcParts
namespace Go.Proofs.Ytjhoojdbjmneaaa
/-- The row, under a short name, for the claim. -/
theorem crcParts_holds : Rows.CrcPartsSaid := crcParts.proved
end Go.Proofs.Ytjhoojdbjmneaaa
