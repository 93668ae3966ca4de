/- PROVED: whatever the bytes, FatSectors returns true, and its argument reads as it did. Conditions: none but the row's own. -/
import Derived.Test.YtgapfoaklgganaaRows
import Derived.Test.YtgapfoaklgganaaM16
import Derived.Test.YtgapfoaklgganaaA16
import Derived.Test.YtgapfoaklgganaaIntS
import Derived.Lib.SmallJoins
import Derived.WalkKit
import Derived.ProofKit
import Derived.OpenShut
import Derived.ShutString
import Derived.ChangeOld
import Derived.Below
import Derived.SizedLaws
set_option linter.unusedVariables false
set_option linter.unnecessarySimpa false
namespace Go.Proofs.Ytgapfoaklgganaa.fatSectors
open Go.ChangeShapes Go.WideShapes Go.ChangeAt Go.RowKit Go.AM
open Go.ChangeMaps (open_string shut_string)
theorem own : ownKnob Try.prog.godebug = none := by kernel_rfl
theorem laidOut : laidOutB Try.prog = true := by kernel_rfl
theorem byt_of {zs : List Int} (h : ∀ n ∈ zs, (Lit.int .u8 n).wf = true) (len : Nat) : Byt (zs.take len) := by
  intro x hx
  have := h x (List.mem_of_mem_take hx)
  simp [Lit.wf] at this
  have e1 : IntKind.u8.min = 0 := by decide
  have e2 : IntKind.u8.max = 255 := by decide
  omega
theorem calls (W : World) (r : Reach) (base : Nat) (a0 : Option Addr) (len0 cap0 : Nat) (zs : List Int)
    (hz : (a0 = none ∧ len0 = 0 ∧ cap0 = 0 ∧ zs = []) ∨ ∃ x, a0 = some x ∧ len0 ≤ cap0 ∧ cap0 ≤ maxLen ∧ zs.length = cap0 ∧ (∀ i, i < zs.length → W.cell? (x.add i) = some (.int .u8 (zs.getD i 0))) ∧ ∀ n ∈ zs, (Lit.int .u8 n).wf = true)
    (hok : ∀ x, a0 = some x → World.has Try.prog W r base x 5 cap0) (e a t s g r' i c : Int) :
    Calls Try.prog 4 #[L16.btV e a t s g r' i c, .slice a0 len0 cap0] W fun e w' => e = .returned (.bool true) ∧ Below W.heap.size W w' := by
  have hbt : Byt (zs.take len0) := by
    rcases hz with ⟨_, _, _, rfl⟩ | ⟨_, _, _, _, _, _, hwf⟩
    · intro x hx; simp at hx
    · exact byt_of hwf len0
  obtain ⟨σ, h, a', hA, hv, hs0, hl⟩ := (Inv.empty W).addSl (k := .u8) (P := Try.prog) (r := r) (base := base) (e := 5) rfl a0 len0 cap0 zs hz hok
  have hs : SlB h (.slice a' len0 cap0) (zs.take len0) := by
    show SlAt h 1 _ (byV _) _
    rw [hl]; exact hs0
  obtain ⟨r1, h', hgo, rfl⟩ := L16.law_sectors 99990 95 e a t s g r' i c (.slice a' len0 cap0) (zs.take len0) h (hA.keep.wf Wf.empty) hbt hs
  exact go_calls AMC.follows L16.tabF_ok hgo hA.inv (.cons (VR.closed 2 _ rfl) (.cons hv .nil)) ⟨true, rfl⟩
set_option maxRecDepth 100000 in
theorem lifted (os : Os) (started : os.Started) (H : Type) (enc : TypeId × Value → H) :
    ReturnsInHanded {} Try.checked os 4 .any (Rows.fatSectorsSpec.pre6 enc Try.prog Try.f4 Rows.fatSectorsRow.domain false) (Rows.fatSectorsSpec.post enc Try.prog Try.f4 false true false false) := by
  refine returnsInHanded_of_change_sized (C := Try.checked) own started (by kernel_rfl) Try.func4
    (ChangeSpec.witness6 (enc := enc) (C := Try.checked) false ⟨#[], #[.agg #[.int .i64 0, .int .i64 0, .int .i64 0, .int .i64 0, .int .i64 0, .int .i64 0, .int .i64 0, .int .i64 0], .slice none 0 0], []⟩ 8 (by kernel_rfl) (by kernel_rfl) (by kernel_rfl) (by kernel_rfl)) ?_
  intro W base args ds gs before hval0 hW hcnd hsz0 _
  have hsz : (DataW.weightsEach Try.prog (Try.f4.params.toList ++ Rows.fatSectorsSpec.plain.varTypes Try.prog) (ds ++ gs)).all (· ≤ reachBytes) = true := hsz0
  have hval : ∀ (j : Nat) t v, Try.f4.params[j]? = some t → args[j]? = some v → Value.okWide Try.prog W .any base t v := hval0
  have hW' := hW
  obtain ⟨p, q, hA0, hV, rfl, hfz, hnd⟩ := hW
  have hA : DataW.TrodAll enc Try.prog W 0 (fun _ => true) true Try.f4.params.toList args.toList ds p := hA0
  rw [Try.params4] at hA hval hsz
  obtain ⟨v0, vs0, d0, ds0, p0, q0, hargs, rfl, rfl, h0, r0⟩ := trodAll_cons hA
  obtain ⟨v1, vs1, d1, ds1, p1, q1, rfl, rfl, rfl, h1, r1⟩ := trodAll_cons r0
  obtain ⟨rfl, rfl, rfl⟩ := trodAll_nil r1
  obtain rfl : args = #[v0, v1] := by cases args; simp_all
  obtain ⟨rfl, rfl⟩ := trodVars_none hV
  have hv0 := hval 1 30 v1 rfl rfl
  obtain ⟨a0, len0, cap0, rfl⟩ := okWide_slice Try.underlying30 hv0
  have hok : ∀ x, a0 = some x → World.has Try.prog W .any base x 5 cap0 := by
    rintro x rfl
    simp only [Value.okWide, Try.underlying30, Cell.okWide, Cell.ok] at hv0
    exact hv0.2.2
  have k0 := h1
  have lt0 : ∀ x ∈ p1, x.block < W.heap.size := by obtain ⟨m, hm⟩ := k0; exact DataW.trod_lt m _ _ _ hm
  obtain ⟨z0, w0⟩ : ∃ zs : List Int, (a0 = none ∧ len0 = 0 ∧ cap0 = 0 ∧ zs = []) ∨ ∃ x, a0 = some x ∧ len0 ≤ cap0 ∧ cap0 ≤ maxLen ∧ zs.length = cap0 ∧ (∀ i, i < zs.length → W.cell? (x.add i) = some (.int .u8 (zs.getD i 0))) ∧ ∀ n ∈ zs, (Lit.int .u8 n).wf = true := by
    obtain ⟨fuel, hf⟩ := h1
    rcases open_ints Try.underlying30 Try.underlying5 (by kernel_rfl) hf with ⟨hcs, _⟩ | ⟨x, l, c, zs, hcs, _, hl, hm, hz, _, hcell, hwz⟩
    · simp [Value.cells] at hcs
      obtain ⟨rfl, rfl, rfl⟩ := hcs
      exact ⟨[], .inl ⟨rfl, rfl, rfl, rfl⟩⟩
    · simp [Value.cells] at hcs
      obtain ⟨rfl, rfl, rfl⟩ := hcs
      exact ⟨zs, .inr ⟨_, rfl, hl, hm, by simpa using hz, hcell, hwz⟩⟩
  have hc2 : Try.prog.cellsOf 2 = 1 := by kernel_rfl
  obtain ⟨ns, hns, rfl, rfl, rfl, hwf⟩ := L16.open_intS Try.underlying44 (by kernel_rfl) (fun i f hf => by
    have hi : i < 8 := (Array.getElem?_eq_some_iff.1 hf).1
    have : i = 0 ∨ i = 1 ∨ i = 2 ∨ i = 3 ∨ i = 4 ∨ i = 5 ∨ i = 6 ∨ i = 7 := by omega
    rcases this with rfl | rfl | rfl | rfl | rfl | rfl | rfl | rfl <;> (simp at hf; subst hf; exact Try.underlying2)) (by kernel_rfl) (hval 0 44 v0 rfl rfl) h0
  obtain ⟨e, a, t, s, g, r, i, c, rfl⟩ := L16.list8 hns
  have we : (Lit.int .i64 e).wf = true := hwf e (by simp)
  have wa : (Lit.int .i64 a).wf = true := hwf a (by simp)
  have wt : (Lit.int .i64 t).wf = true := hwf t (by simp)
  have ws : (Lit.int .i64 s).wf = true := hwf s (by simp)
  have wg : (Lit.int .i64 g).wf = true := hwf g (by simp)
  have wr : (Lit.int .i64 r).wf = true := hwf r (by simp)
  have wi : (Lit.int .i64 i).wf = true := hwf i (by simp)
  have wc : (Lit.int .i64 c).wf = true := hwf c (by simp)
  have structReads : ∀ (W' : World) (sp : Nat → Bool), DataW.Trod enc Try.prog W' 0 sp true 44 (.agg #[.int .i64 e, .int .i64 a, .int .i64 t, .int .i64 s, .int .i64 g, .int .i64 r, .int .i64 i, .int .i64 c]) (.agg [.lit (.int .i64 e), .lit (.int .i64 a), .lit (.int .i64 t), .lit (.int .i64 s), .lit (.int .i64 g), .lit (.int .i64 r), .lit (.int .i64 i), .lit (.int .i64 c)]) [] := fun W' sp => by
    have ts := trod_struct_mk (enc := enc) (w := W') (base := 0) (spare := sp) (held := true) (n := 1) (cs := [.int .i64 e, .int .i64 a, .int .i64 t, .int .i64 s, .int .i64 g, .int .i64 r, .int .i64 i, .int .i64 c]) (xs := [(.lit (.int .i64 e), []), (.lit (.int .i64 a), []), (.lit (.int .i64 t), []), (.lit (.int .i64 s), []), (.lit (.int .i64 g), []), (.lit (.int .i64 r), []), (.lit (.int .i64 i), []), (.lit (.int .i64 c), [])]) Try.underlying44 (by kernel_rfl) (by simp [DataW.trod, Try.underlying2, hc2, we, wa, wt, ws, wg, wr, wi, wc])
    exact ⟨_, by simpa [Value.cells] using ts⟩
  clear hA0 hval0 hsz0 hsz
  refine (calls W .any base a0 len0 cap0 z0 w0 hok e a t s g r i c).mono fun e' W' ⟨he, bel⟩ => ?_
  subst he
  exact ⟨_, rfl, _, _, _, [], _, [], hW', trodAll_mk1 (shut_bool Try.underlying4 _), (trodAll_cons_mk (structReads _ _) (trodAll_cons_mk (Below.trod laidOut (by kernel_rfl) (of_decide_eq_true (by kernel_rfl)) k0 bel lt0) trodAll_mk0)), rfl, bel.frame _, fun h => by cases h⟩
theorem over : Rows.fatSectorsRow.holds Try.pinned (OpenSpec.ofChange Rows.fatSectorsSpec) :=
  OpenClaim.holds_of_wide 4 Try.f4 rfl rfl rfl rfl rfl rfl rfl ⟨rfl, rfl, rfl, rfl, rfl⟩ rfl rfl rfl rfl rfl (by kernel_rfl) Try.func4 (by kernel_rfl)
    (of_decide_eq_true (by kernel_rfl)) (by unfold Func.isWrapper; first | (rw [if_pos (by decide +kernel)]; kernel_rfl) | (rw [if_neg (by decide +kernel)]; exact ⟨rfl, rfl⟩))
    (fun os started H enc _ => lifted os started H enc)
theorem proved : Rows.FatSectorsSaid := over
end Go.Proofs.Ytgapfoaklgganaa.fatSectors
namespace Go.Proofs.Ytgapfoaklgganaa
/-- The row, under a short name, for the claim. -/
theorem fatSectors_holds : Rows.FatSectorsSaid := fatSectors.proved
end Go.Proofs.Ytgapfoaklgganaa
