/- PROVED: whatever the bytes, MbrPuts returns true, and its argument reads as it did. Conditions: none but the row's own. -/
import Derived.Test.YtphnlkdoeecbgaaRows
import Derived.Test.YtphnlkdoeecbgaaLawP13
import Derived.Lib.SmallJoins
import Derived.WalkKit
import Derived.ProofKit
import Derived.OpenShut
import Derived.ShutString
import Derived.ChangeOld
import Derived.Below
import Derived.SizedLaws
set_option linter.unusedVariables false
set_option linter.unnecessarySimpa false
namespace Go.Proofs.Ytphnlkdoeecbgaa.L13
open Go Go.AM Go.RowKit Go.Proofs.Ytphnlkdoeecbgaa.AMC
theorem chained_runs : ansB (callF true (fun f => tab.get f) 100000 100 35 [] AHeap.empty) = some true := by kernel_rfl
theorem chained_calls (w : World) : Calls Try.prog 35 #[] w fun e w' => e = .returned (.bool true) ∧ Below w.heap.size w w' := closed_tr follows tabOk chained_runs w
theorem tabF_ok : TabSound Try.prog tabF := tab_prim tabOk ok35.1 (primTrue_runs chained_calls)
end Go.Proofs.Ytphnlkdoeecbgaa.L13
namespace Go.Proofs.Ytphnlkdoeecbgaa.mbrPuts
open Go.ChangeShapes Go.WideShapes Go.ChangeAt Go.RowKit Go.AM
open Go.ChangeMaps (open_string shut_string)
theorem own : ownKnob Try.prog.godebug = none := by kernel_rfl
theorem laidOut : laidOutB Try.prog = true := by kernel_rfl
theorem byt_of {zs : List Int} (h : ∀ n ∈ zs, (Lit.int .u8 n).wf = true) (len : Nat) : Byt (zs.take len) := by
  intro x hx
  have := h x (List.mem_of_mem_take hx)
  simp [Lit.wf] at this
  have e1 : IntKind.u8.min = 0 := by decide
  have e2 : IntKind.u8.max = 255 := by decide
  omega
theorem calls (W : World) (r : Reach) (base : Nat) (a0 : Option Addr) (len0 cap0 : Nat) (zs : List Int)
    (hz : (a0 = none ∧ len0 = 0 ∧ cap0 = 0 ∧ zs = []) ∨ ∃ x, a0 = some x ∧ len0 ≤ cap0 ∧ cap0 ≤ maxLen ∧ zs.length = cap0 ∧ (∀ i, i < zs.length → W.cell? (x.add i) = some (.int .u8 (zs.getD i 0))) ∧ ∀ n ∈ zs, (Lit.int .u8 n).wf = true)
    (hok : ∀ x, a0 = some x → World.has Try.prog W r base x 5 cap0) (i t f c : Int) :
    Calls Try.prog 9 #[.slice a0 len0 cap0, .int .i64 i, L13.entV t f c] W fun e w' => e = .returned (.bool true) ∧ Below W.heap.size W w' := by
  have hbt : Byt (zs.take len0) := by
    rcases hz with ⟨_, _, _, rfl⟩ | ⟨_, _, _, _, _, _, hwf⟩
    · intro x hx; simp at hx
    · exact byt_of hwf len0
  obtain ⟨σ, h, a', hA, hv, hs0, hl⟩ := (Inv.empty W).addSl (k := .u8) (P := Try.prog) (r := r) (base := base) (e := 5) rfl a0 len0 cap0 zs hz hok
  have hs : SlB h (.slice a' len0 cap0) (zs.take len0) := by
    show SlAt h 1 _ (byV _) _
    rw [hl]; exact hs0
  obtain ⟨r1, h', hgo, rfl⟩ := L13.law_puts 99990 95 (.slice a' len0 cap0) (zs.take len0) i t f c h hbt hs
  exact go_calls AMC.follows L13.tabF_ok hgo hA.inv (.cons hv (.cons (.int _ _) (.cons (VR.closed 2 _ rfl) .nil))) ⟨true, rfl⟩
set_option maxRecDepth 100000 in
theorem lifted (os : Os) (started : os.Started) (H : Type) (enc : TypeId × Value → H) :
    ReturnsInHanded {} Try.checked os 9 .any (Rows.mbrPutsSpec.pre6 enc Try.prog Try.f9 Rows.mbrPutsRow.domain false) (Rows.mbrPutsSpec.post enc Try.prog Try.f9 false true false false) := by
  refine returnsInHanded_of_change_sized (C := Try.checked) own started (by kernel_rfl) Try.func9
    (ChangeSpec.witness6 (enc := enc) (C := Try.checked) false ⟨#[], #[.slice none 0 0, .int .i64 0, .agg #[.int .i64 0, .int .i64 0, .int .i64 0]], []⟩ 8 (by kernel_rfl) (by kernel_rfl) (by kernel_rfl) (by kernel_rfl)) ?_
  intro W base args ds gs before hval0 hW hcnd hsz0 _
  have hsz : (DataW.weightsEach Try.prog (Try.f9.params.toList ++ Rows.mbrPutsSpec.plain.varTypes Try.prog) (ds ++ gs)).all (· ≤ reachBytes) = true := hsz0
  have hval : ∀ (j : Nat) t v, Try.f9.params[j]? = some t → args[j]? = some v → Value.okWide Try.prog W .any base t v := hval0
  have hW' := hW
  obtain ⟨p, q, hA0, hV, rfl, hfz, hnd⟩ := hW
  have hA : DataW.TrodAll enc Try.prog W 0 (fun _ => true) true Try.f9.params.toList args.toList ds p := hA0
  rw [Try.params9] at hA hval hsz
  obtain ⟨v0, vs0, d0, ds0, p0, q0, hargs, rfl, rfl, h0, r0⟩ := trodAll_cons hA
  obtain ⟨v1, vs1, d1, ds1, p1, q1, rfl, rfl, rfl, h1, r1⟩ := trodAll_cons r0
  obtain ⟨v2, vs2, d2, ds2, p2, q2, rfl, rfl, rfl, h2, r2⟩ := trodAll_cons r1
  obtain ⟨rfl, rfl, rfl⟩ := trodAll_nil r2
  obtain rfl : args = #[v0, v1, v2] := by cases args; simp_all
  obtain ⟨rfl, rfl⟩ := trodVars_none hV
  have hv0 := hval 0 24 v0 rfl rfl
  obtain ⟨a0, len0, cap0, rfl⟩ := okWide_slice Try.underlying24 hv0
  have hok : ∀ x, a0 = some x → World.has Try.prog W .any base x 5 cap0 := by
    rintro x rfl
    simp only [Value.okWide, Try.underlying24, Cell.okWide, Cell.ok] at hv0
    exact hv0.2.2
  have k0 := h0
  have lt0 : ∀ x ∈ p0, x.block < W.heap.size := by obtain ⟨m, hm⟩ := k0; exact DataW.trod_lt m _ _ _ hm
  obtain ⟨z0, w0⟩ : ∃ zs : List Int, (a0 = none ∧ len0 = 0 ∧ cap0 = 0 ∧ zs = []) ∨ ∃ x, a0 = some x ∧ len0 ≤ cap0 ∧ cap0 ≤ maxLen ∧ zs.length = cap0 ∧ (∀ i, i < zs.length → W.cell? (x.add i) = some (.int .u8 (zs.getD i 0))) ∧ ∀ n ∈ zs, (Lit.int .u8 n).wf = true := by
    obtain ⟨fuel, hf⟩ := h0
    rcases open_ints Try.underlying24 Try.underlying5 (by kernel_rfl) hf with ⟨hcs, _⟩ | ⟨x, l, c, zs, hcs, _, hl, hm, hz, _, hcell, hwz⟩
    · simp [Value.cells] at hcs
      obtain ⟨rfl, rfl, rfl⟩ := hcs
      exact ⟨[], .inl ⟨rfl, rfl, rfl, rfl⟩⟩
    · simp [Value.cells] at hcs
      obtain ⟨rfl, rfl, rfl⟩ := hcs
      exact ⟨zs, .inr ⟨_, rfl, hl, hm, by simpa using hz, hcell, hwz⟩⟩
  obtain ⟨i, rfl, rfl, rfl, wi⟩ := open_int Try.underlying3 (hval 1 3 v1 rfl rfl) h1
  obtain ⟨c0, c1, c2, y0, y1, y2, m, rfl, rfl, rfl, hy0, hy1, hy2⟩ := Go.Joins.open_agg3 Try.underlying78 (by kernel_rfl) (by kernel_rfl) (hval 2 78 v2 rfl rfl) h2
  obtain ⟨t, e0, rfl, wt⟩ := DataW.trod_int Try.underlying3 hy0
  obtain ⟨f, e1, rfl, wf⟩ := DataW.trod_int Try.underlying2 hy1
  obtain ⟨c, e2, rfl, wc⟩ := DataW.trod_int Try.underlying2 hy2
  simp at e0 e1 e2
  subst e0 e1 e2
  have structReads : ∀ (W' : World) (sp : Nat → Bool), DataW.Trod enc Try.prog W' 0 sp true 78 (.agg #[.int .i64 t, .int .i64 f, .int .i64 c]) (.agg [.lit (.int .i64 t), .lit (.int .i64 f), .lit (.int .i64 c)]) [] := fun W' sp =>
    Go.Joins.shut_agg3 (y0 := (.lit (.int .i64 t), [])) (y1 := (.lit (.int .i64 f), [])) (y2 := (.lit (.int .i64 c), [])) Try.underlying78 (by kernel_rfl) (by kernel_rfl) ⟨1, by simp [DataW.trod, Try.underlying3, wt]⟩ ⟨1, by simp [DataW.trod, Try.underlying2, wf]⟩ ⟨1, by simp [DataW.trod, Try.underlying2, wc]⟩
  clear hA0 hval0 hsz0 hsz
  refine (calls W .any base a0 len0 cap0 z0 w0 hok i t f c).mono fun e W' ⟨he, bel⟩ => ?_
  subst he
  exact ⟨_, rfl, _, _, _, [], _, [], hW', trodAll_mk1 (shut_bool Try.underlying4 _), (trodAll_cons_mk (Below.trod laidOut (by kernel_rfl) (of_decide_eq_true (by kernel_rfl)) k0 bel lt0) (trodAll_cons_mk (shut_int Try.underlying3 wi) (trodAll_cons_mk (structReads _ _) trodAll_mk0))), rfl, bel.frame _, fun h => by cases h⟩
theorem over : Rows.mbrPutsRow.holds Try.pinned (OpenSpec.ofChange Rows.mbrPutsSpec) :=
  OpenClaim.holds_of_wide 9 Try.f9 rfl rfl rfl rfl rfl rfl rfl ⟨rfl, rfl, rfl, rfl, rfl⟩ rfl rfl rfl rfl rfl (by kernel_rfl) Try.func9 (by kernel_rfl)
    (of_decide_eq_true (by kernel_rfl)) (by unfold Func.isWrapper; first | (rw [if_pos (by decide +kernel)]; kernel_rfl) | (rw [if_neg (by decide +kernel)]; exact ⟨rfl, rfl⟩))
    (fun os started H enc _ => lifted os started H enc)
theorem proved : Rows.MbrPutsSaid := over
end Go.Proofs.Ytphnlkdoeecbgaa.mbrPuts
namespace Go.Proofs.Ytphnlkdoeecbgaa
/-- The row, under a short name, for the claim. -/
theorem mbrPuts_holds : Rows.MbrPutsSaid := mbrPuts.proved
end Go.Proofs.Ytphnlkdoeecbgaa
