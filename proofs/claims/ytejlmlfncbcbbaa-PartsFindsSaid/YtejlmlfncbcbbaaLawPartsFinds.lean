/- PROVED: whatever the paths and the name, PartsFinds returns true, and its arguments read as they did. Conditions: none but the row's own. -/
import Derived.Test.YtejlmlfncbcbbaaRows
import Derived.Test.YtejlmlfncbcbbaaM21
import Derived.Test.YtejlmlfncbcbbaaQ21
import Derived.Lib.SmallJoins
import Derived.WalkKit
import Derived.ProofKit
import Derived.OpenShut
import Derived.ShutString
import Derived.ChangeOld
import Derived.Below
import Derived.SizedLaws
set_option linter.unusedVariables false
set_option linter.unnecessarySimpa false
namespace Go.Proofs.Ytejlmlfncbcbbaa.partsFinds
open Go.ChangeShapes Go.WideShapes Go.ChangeAt Go.RowKit Go.AM
open Go.ChangeMaps (open_string shut_string)
theorem own : ownKnob Try.prog.godebug = none := by kernel_rfl
theorem laidOut : laidOutB Try.prog = true := by kernel_rfl
theorem calls (W : World) (a0 : Option Addr) (len0 cap0 : Nat) (nm : ByteArray) (hl : len0 ≤ cap0) (hm : cap0 ≤ maxLen) (hsp : ∀ x, a0 = some x → x.spot = none ∧ ∃ cs el fz, W.heap[x.block]? = some (.cells cs el fz)) (hn : a0 = none → len0 = 0 ∧ cap0 = 0)
    (hp : ∀ x, a0 = some x → ∀ i, i < cap0 → L21.PathC W x i) :
    Calls Try.prog 3 #[.slice a0 len0 cap0, .string nm] W fun e w' => e = .returned (.bool true) ∧ Below W.heap.size W w' := by
  obtain ⟨σ, h, a', l, hA, hll, hv, hr, hs⟩ := L21.addPathL (Inv.empty W) rfl a0 len0 cap0 hl hsp hn hp
  subst hll
  have hml : maxLen < 9223372036854775808 := by decide
  have hs' : ∃ (m : Nat) (ro : Bool) (gr : Nat), l.length = 0 ∨ a' = some ⟨m, 0, none⟩ ∧ m < h.next ∧ h.get m = .row ro gr (.vals (L21.rowP l)) := by
    rcases hs with h0 | ⟨m, h1, h2, ro, gr, h3⟩
    · exact ⟨0, true, 0, .inl h0⟩
    · exact ⟨m, ro, gr, .inr ⟨h1, h2, h3⟩⟩
  obtain ⟨m, ro, gr, hs'⟩ := hs'
  obtain ⟨r1, h', hgo, rfl⟩ := L21.law_finds 9223372036854775809 92 m cap0 ro gr a' l nm h (hA.keep.wf Wf.empty) (by omega) hr hs'
  exact go_calls AMC.follows L21.tabF_ok hgo hA.inv (.cons hv (.cons (.str _) .nil)) ⟨true, rfl⟩
theorem c26 : Try.prog.cellsOf 26 = 4 := by kernel_rfl
theorem c9 : Try.prog.cellsOf 9 = 1 := by kernel_rfl
theorem c3 : Try.prog.cellsOf 3 = 1 := by kernel_rfl
theorem c2 : Try.prog.cellsOf 2 = 1 := by kernel_rfl
theorem c24 : Try.prog.cellsOf 24 = 1 := by kernel_rfl
set_option maxRecDepth 100000 in
/-- A path, by its cells. -/
theorem path_of {H : Type} {enc : TypeId × Value → H} {W : World} {a : Addr} {i n : Nat} {cs : List Value} {x : DataW H × List MemPlace}
    (h1 : W.cells? 0 (a.add (i * 4)) 4 = some cs) (h2 : DataW.trod enc Try.prog W 0 (fun _ => true) true n 26 cs = some x) : L21.PathC W a i := by
  obtain ⟨_, hlen, hcell⟩ := World.cells?_some h1
  obtain ⟨xs, k, hk, _, _, hxl, hf⟩ := DataW.trod_struct Try.underlying26 h2
  match xs, hxl, cs, hlen with
  | [y0, y1, y2, y3], _, [v0, v1, v2, v3], _ =>
    have g0 := hf 0 _ rfl
    have g1 := hf 1 _ rfl
    have g2 := hf 2 _ rfl
    have g3 := hf 3 _ rfl
    simp [c9, c3, c2, c24] at g0 g1 g2 g3
    obtain ⟨s, es, _, _⟩ := DataW.trod_string Try.underlying9 g0
    obtain ⟨z1, e1, _, _⟩ := DataW.trod_int Try.underlying3 g1
    obtain ⟨z2, e2, _, _⟩ := DataW.trod_int Try.underlying2 g2
    have hr := L21.runs_of Try.underlying24 Try.underlying32 (by kernel_rfl) rfl rfl c2 c2 Try.underlying2 Try.underlying2 g3
    simp at es e1 e2
    subst es; subst e1; subst e2
    have q0 := hcell 0 (by omega)
    have q1 := hcell 1 (by omega)
    have q2 := hcell 2 (by omega)
    have q3 := hcell 3 (by omega)
    rw [Go.Deep.add_add] at q0 q1 q2 q3
    exact ⟨s, z1, z2, v3, by simpa using q0, by simpa using q1, by simpa using q2, by simpa using q3, hr⟩
set_option maxRecDepth 100000 in
theorem lifted (os : Os) (started : os.Started) (H : Type) (enc : TypeId × Value → H) :
    ReturnsInHanded {} Try.checked os 3 .any (Rows.partsFindsSpec.pre6 enc Try.prog Try.f3 Rows.partsFindsRow.domain false) (Rows.partsFindsSpec.post enc Try.prog Try.f3 false true false false) := by
  refine returnsInHanded_of_change_sized (C := Try.checked) own started (by kernel_rfl) Try.func3
    (ChangeSpec.witness6 (enc := enc) (C := Try.checked) false ⟨#[], #[.slice none 0 0, .string ⟨#[]⟩], []⟩ 8 (by kernel_rfl) (by kernel_rfl) (by kernel_rfl) (by kernel_rfl)) ?_
  intro W base args ds gs before hval0 hW hcnd hsz0 _
  have hsz : (DataW.weightsEach Try.prog (Try.f3.params.toList ++ Rows.partsFindsSpec.plain.varTypes Try.prog) (ds ++ gs)).all (· ≤ reachBytes) = true := hsz0
  have hval : ∀ (j : Nat) t v, Try.f3.params[j]? = some t → args[j]? = some v → Value.okWide Try.prog W .any base t v := hval0
  have hW' := hW
  obtain ⟨p, q, hA0, hV, rfl, hfz, hnd⟩ := hW
  have hA : DataW.TrodAll enc Try.prog W 0 (fun _ => true) true Try.f3.params.toList args.toList ds p := hA0
  rw [Try.params3] at hA hval hsz
  obtain ⟨v0, vs0, d0, ds0, p0, q0, hargs, rfl, rfl, h0, r0⟩ := trodAll_cons hA
  obtain ⟨v1, vs1, d1, ds1, p1, q1, rfl, rfl, rfl, h1, r1⟩ := trodAll_cons r0
  obtain ⟨rfl, rfl, rfl⟩ := trodAll_nil r1
  obtain rfl : args = #[v0, v1] := by cases args; simp_all
  obtain ⟨rfl, rfl⟩ := trodVars_none hV
  have hv0 := hval 0 22 v0 rfl rfl
  obtain ⟨a0, len0, cap0, rfl⟩ := okWide_slice Try.underlying22 hv0
  have hok : ∀ x, a0 = some x → World.has Try.prog W .any base x 26 cap0 := by
    rintro x rfl
    simp only [Value.okWide, Try.underlying22, Cell.okWide, Cell.ok] at hv0
    exact hv0.2.2
  have hsp : ∀ x, a0 = some x → x.spot = none ∧ ∃ cs el fz, W.heap[x.block]? = some (.cells cs el fz) := by
    intro x hx
    obtain ⟨_, hspot, row, cells, hshape, _⟩ := hok x hx
    refine ⟨hspot, ?_⟩
    unfold World.shape? at hshape
    split at hshape
    · rename_i cs el fz hh
      exact ⟨cs, el, _, by assumption⟩
    · cases hshape
  have k0 := h0
  have lt0 : ∀ x ∈ p0, x.block < W.heap.size := by obtain ⟨m, hm⟩ := k0; exact DataW.trod_lt m _ _ _ hm
  obtain ⟨hl, hm, hn, hp⟩ : len0 ≤ cap0 ∧ cap0 ≤ maxLen ∧ (a0 = none → len0 = 0 ∧ cap0 = 0) ∧ ∀ x, a0 = some x → ∀ i, i < cap0 → L21.PathC W x i := by
    obtain ⟨fuel, hf⟩ := h0
    rcases Go.Deep.open_slice Try.underlying22 hf with ⟨hcs, _⟩ | ⟨a, len, cap, m, n, D, Pl, hcs, _, hl, hm, hmm, _, hx⟩
    · simp [Value.cells] at hcs
      obtain ⟨rfl, rfl, rfl⟩ := hcs
      exact ⟨Nat.le_refl _, Nat.zero_le _, fun _ => ⟨rfl, rfl⟩, fun x hx => by cases hx⟩
    · simp [Value.cells] at hcs
      obtain ⟨rfl, rfl, rfl⟩ := hcs
      simp only [if_true] at hmm
      subst hmm
      rw [c26] at hx
      refine ⟨hl, hm, (fun h => by cases h), fun x hx' i hi => ?_⟩
      injection hx' with hx'; subst hx'
      obtain ⟨cs', g1, g2⟩ := hx i hi
      exact path_of g1 g2
  obtain ⟨nm, rfl, rfl, rfl, wn⟩ := open_string Try.underlying9 (hval 1 9 v1 rfl rfl) h1
  clear hA0 hval0 hsz0 hsz
  refine (calls W a0 len0 cap0 nm hl hm hsp hn hp).mono fun e' W' ⟨he, bel⟩ => ?_
  subst he
  exact ⟨_, rfl, _, _, _, [], _, [], hW', trodAll_mk1 (shut_bool Try.underlying4 _), (trodAll_cons_mk (Below.trod laidOut (by kernel_rfl) (of_decide_eq_true (by kernel_rfl)) k0 bel lt0) (trodAll_cons_mk (shut_string Try.underlying9 wn) trodAll_mk0)), rfl, bel.frame _, fun h => by cases h⟩
theorem over : Rows.partsFindsRow.holds Try.pinned (OpenSpec.ofChange Rows.partsFindsSpec) :=
  OpenClaim.holds_of_wide 3 Try.f3 rfl rfl rfl rfl rfl rfl rfl ⟨rfl, rfl, rfl, rfl, rfl⟩ rfl rfl rfl rfl rfl (by kernel_rfl) Try.func3 (by kernel_rfl)
    (of_decide_eq_true (by kernel_rfl)) (by unfold Func.isWrapper; first | (rw [if_pos (by decide +kernel)]; kernel_rfl) | (rw [if_neg (by decide +kernel)]; exact ⟨rfl, rfl⟩))
    (fun os started H enc _ => lifted os started H enc)
theorem proved : Rows.PartsFindsSaid := over
#print axioms proved
end Go.Proofs.Ytejlmlfncbcbbaa.partsFinds
namespace Go.Proofs.Ytejlmlfncbcbbaa
/-- The row, under a short name, for the claim. -/
theorem partsFinds_holds : Rows.PartsFindsSaid := partsFinds.proved
end Go.Proofs.Ytejlmlfncbcbbaa
