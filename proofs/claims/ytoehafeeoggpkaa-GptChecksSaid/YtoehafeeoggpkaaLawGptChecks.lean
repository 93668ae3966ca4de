/- PROVED: whatever the table, GptChecks returns true, and its argument reads as it did. Conditions: none but the row's own. -/
import Derived.Test.YtoehafeeoggpkaaRows
import Derived.Test.YtoehafeeoggpkaaR24
import Derived.Lib.SmallJoins
import Derived.WalkKit
import Derived.ProofKit
import Derived.OpenShut
import Derived.ShutString
import Derived.ChangeOld
import Derived.Below
import Derived.SizedLaws
set_option linter.unusedVariables false
set_option linter.unnecessarySimpa false
namespace Go.Proofs.Ytoehafeeoggpkaa.gptChecks
open Go.ChangeShapes Go.WideShapes Go.ChangeAt Go.RowKit Go.AM
theorem own : ownKnob Try.prog.godebug = none := by kernel_rfl
theorem laidOut : laidOutB Try.prog = true := by kernel_rfl
theorem calls (W : World) (s a b : Int) (id : List Int) (at_ be : Int) (hid : id.length = 16) (hby : Byt id) (a0 : Option Addr) (len0 cap0 : Nat) (hl : len0 ≤ cap0) (hm : cap0 ≤ maxLen) (hn : a0 = none → len0 = 0 ∧ cap0 = 0)
    (hp : ∀ x, a0 = some x → ∀ i, i < cap0 → L24.EntC W x i) :
    Calls Try.prog 5 #[.agg (⟨s, a, b, id, .slice a0 len0 cap0, at_, be⟩ : L24.Tb).cells.toArray] W fun e w' => e = .returned (.bool true) ∧ Below W.heap.size W w' := by
  obtain ⟨σ, h, a', l, hA, hll, hlo, hv, hs⟩ := L24.addEnts (Inv.empty W) rfl a0 len0 cap0 hl hn hp
  subst hll
  have o : (⟨s, a, b, id, .slice a' l.length cap0, at_, be⟩ : L24.Tb).Ok := ⟨hid, hby, ⟨_, _, _, rfl⟩⟩
  have hvt := L24.tb_vr (t := ⟨s, a, b, id, .slice a' l.length cap0, at_, be⟩) hid hv
  have hs : L24.SlZ h (.slice a' l.length cap0) l := ⟨⟨_, _, rfl⟩, fun e => hs.resolve_left e⟩
  obtain ⟨r1, h', hgo, rfl⟩ := L24.law_checks 9223372036854775809 92 ⟨s, a, b, id, .slice a' l.length cap0, at_, be⟩ o l hlo h (hA.keep.wf Wf.empty) hs (by omega)
  exact go_calls AMC.follows L24.tabF_ok hgo hA.inv (.cons hvt .nil) ⟨true, rfl⟩
theorem c56 : Try.prog.cellsOf 56 = 22 := by kernel_rfl
theorem c108 : Try.prog.cellsOf 108 = 114 := by kernel_rfl
theorem c105 : Try.prog.cellsOf 105 = 32 := by kernel_rfl
theorem c106 : Try.prog.cellsOf 106 = 80 := by kernel_rfl
theorem c53 : Try.prog.cellsOf 53 = 16 := by kernel_rfl
theorem c54 : Try.prog.cellsOf 54 = 1 := by kernel_rfl
theorem c2 : Try.prog.cellsOf 2 = 1 := by kernel_rfl
theorem c5 : Try.prog.cellsOf 5 = 1 := by kernel_rfl
set_option maxRecDepth 100000 in
/-- An entry, by its cells. -/
theorem ent_of {H : Type} {enc : TypeId × Value → H} {W : World} {a : Addr} {i n : Nat} {cs : List Value} {x : DataW H × List MemPlace}
    (h1 : W.cells? 0 (a.add (i * 114)) 114 = some cs) (h2 : DataW.trod enc Try.prog W 0 (fun _ => true) true n 108 cs = some x) : L24.EntC W a i := by
  obtain ⟨_, hlen, hcell⟩ := World.cells?_some h1
  obtain ⟨xs, k, hk, _, _, hxl, hf⟩ := DataW.trod_struct Try.underlying108 h2
  have hxl : xs.length = 4 := hxl
  match xs, hxl with
  | [y0, y1, y2, y3], _ =>
    have g0 : DataW.trod enc Try.prog W 0 (fun _ => true) true k 105 ((cs.drop 0).take (Try.prog.cellsOf 105)) = some y0 := hf 0 _ rfl
    have g1 : DataW.trod enc Try.prog W 0 (fun _ => true) true k 2 ((cs.drop 32).take (Try.prog.cellsOf 2)) = some y1 := hf 1 _ rfl
    have g2 : DataW.trod enc Try.prog W 0 (fun _ => true) true k 2 ((cs.drop 33).take (Try.prog.cellsOf 2)) = some y2 := hf 2 _ rfl
    have g3 : DataW.trod enc Try.prog W 0 (fun _ => true) true k 106 ((cs.drop 34).take (Try.prog.cellsOf 106)) = some y3 := hf 3 _ rfl
    rw [c105] at g0
    rw [c2] at g1 g2
    rw [c106] at g3
    obtain ⟨z0, l0, e0, b0⟩ := L24.open_bytes Try.underlying105 Try.underlying5 c5 c105 g0
    obtain ⟨z1, e1, _, _⟩ := DataW.trod_int Try.underlying2 g1
    obtain ⟨z2, e2, _, _⟩ := DataW.trod_int Try.underlying2 g2
    obtain ⟨z3, l3, e3, b3⟩ := L24.open_bytes Try.underlying106 Try.underlying5 c5 c106 g3
    refine ⟨⟨z0, z1, z2, z3⟩, ⟨l0, l3, b0, b3⟩, fun j hj => ?_⟩
    have hc := hcell j hj
    rw [Go.Deep.add_add] at hc
    rw [hc]
    have es := L24.split4 cs hlen
    rw [e0, e1, e2, e3] at es
    rw [es]
    rfl
set_option maxRecDepth 100000 in
theorem lifted (os : Os) (started : os.Started) (H : Type) (enc : TypeId × Value → H) :
    ReturnsInHanded {} Try.checked os 5 .any (Rows.gptChecksSpec.pre6 enc Try.prog Try.f5 Rows.gptChecksRow.domain false) (Rows.gptChecksSpec.post enc Try.prog Try.f5 false true false false) := by
  refine returnsInHanded_of_change_sized (C := Try.checked) own started (by kernel_rfl) Try.func5
    (ChangeSpec.witness6 (enc := enc) (C := Try.checked) false ⟨#[], #[.agg #[.int .i64 0, .int .i64 0, .int .i64 0, .int .u8 0, .int .u8 0, .int .u8 0, .int .u8 0, .int .u8 0, .int .u8 0, .int .u8 0, .int .u8 0, .int .u8 0, .int .u8 0, .int .u8 0, .int .u8 0, .int .u8 0, .int .u8 0, .int .u8 0, .int .u8 0, .slice none 0 0, .int .i64 0, .int .i64 0]], []⟩ 8 (by kernel_rfl) (by kernel_rfl) (by kernel_rfl) (by kernel_rfl)) ?_
  intro W base args ds gs before hval0 hW hcnd hsz0 _
  have hsz : (DataW.weightsEach Try.prog (Try.f5.params.toList ++ Rows.gptChecksSpec.plain.varTypes Try.prog) (ds ++ gs)).all (· ≤ reachBytes) = true := hsz0
  have hval : ∀ (j : Nat) t v, Try.f5.params[j]? = some t → args[j]? = some v → Value.okWide Try.prog W .any base t v := hval0
  have hW' := hW
  obtain ⟨p, q, hA0, hV, rfl, hfz, hnd⟩ := hW
  have hA : DataW.TrodAll enc Try.prog W 0 (fun _ => true) true Try.f5.params.toList args.toList ds p := hA0
  rw [Try.params5] at hA hval hsz
  obtain ⟨v0, vs0, d0, ds0, p0, q0, hargs, rfl, rfl, h0, r0⟩ := trodAll_cons hA
  obtain ⟨rfl, rfl, rfl⟩ := trodAll_nil r0
  obtain rfl : args = #[v0] := by cases args; simp_all
  obtain ⟨rfl, rfl⟩ := trodVars_none hV
  obtain ⟨cs, rfl, hsz1⟩ := okWide_struct Try.underlying56 (hval 0 56 v0 rfl rfl)
  have k0 := h0
  have lt0 : ∀ x ∈ p0, x.block < W.heap.size := by obtain ⟨m, hm⟩ := k0; exact DataW.trod_lt m _ _ _ hm
  obtain ⟨s, a, b, id, at_, be, a0, len0, cap0, hid, hby, hcs, hl, hm, hn, hp⟩ : ∃ (s a b : Int) (id : List Int) (at_ be : Int) (a0 : Option Addr) (len0 cap0 : Nat), id.length = 16 ∧ Byt id ∧ cs.toList = (⟨s, a, b, id, .slice a0 len0 cap0, at_, be⟩ : L24.Tb).cells ∧ len0 ≤ cap0 ∧ cap0 ≤ maxLen ∧ (a0 = none → len0 = 0 ∧ cap0 = 0) ∧ ∀ x, a0 = some x → ∀ i, i < cap0 → L24.EntC W x i := by
    obtain ⟨fuel, hf0⟩ := h0
    have hf0 : DataW.trod enc Try.prog W 0 (fun _ => true) true fuel 56 cs.toList = some (d0, p0) := hf0
    obtain ⟨xs, k, hk, _, hcl, hxl, hf⟩ := DataW.trod_struct Try.underlying56 hf0
    have hxl : xs.length = 7 := hxl
    rw [c56] at hcl
    match xs, hxl with
    | [y0, y1, y2, y3, y4, y5, y6], _ =>
      have g0 : DataW.trod enc Try.prog W 0 (fun _ => true) true k 2 ((cs.toList.drop 0).take (Try.prog.cellsOf 2)) = some y0 := hf 0 _ rfl
      have g1 : DataW.trod enc Try.prog W 0 (fun _ => true) true k 2 ((cs.toList.drop 1).take (Try.prog.cellsOf 2)) = some y1 := hf 1 _ rfl
      have g2 : DataW.trod enc Try.prog W 0 (fun _ => true) true k 2 ((cs.toList.drop 2).take (Try.prog.cellsOf 2)) = some y2 := hf 2 _ rfl
      have g3 : DataW.trod enc Try.prog W 0 (fun _ => true) true k 53 ((cs.toList.drop 3).take (Try.prog.cellsOf 53)) = some y3 := hf 3 _ rfl
      have g4 : DataW.trod enc Try.prog W 0 (fun _ => true) true k 54 ((cs.toList.drop 19).take (Try.prog.cellsOf 54)) = some y4 := hf 4 _ rfl
      have g5 : DataW.trod enc Try.prog W 0 (fun _ => true) true k 2 ((cs.toList.drop 20).take (Try.prog.cellsOf 2)) = some y5 := hf 5 _ rfl
      have g6 : DataW.trod enc Try.prog W 0 (fun _ => true) true k 2 ((cs.toList.drop 21).take (Try.prog.cellsOf 2)) = some y6 := hf 6 _ rfl
      rw [c2] at g0 g1 g2 g5 g6
      rw [c53] at g3
      rw [c54] at g4
      obtain ⟨z0, e0, _, _⟩ := DataW.trod_int Try.underlying2 g0
      obtain ⟨z1, e1, _, _⟩ := DataW.trod_int Try.underlying2 g1
      obtain ⟨z2, e2, _, _⟩ := DataW.trod_int Try.underlying2 g2
      obtain ⟨z3, l3, e3, b3⟩ := L24.open_bytes Try.underlying53 Try.underlying5 c5 c53 g3
      obtain ⟨z5, e5, _, _⟩ := DataW.trod_int Try.underlying2 g5
      obtain ⟨z6, e6, _, _⟩ := DataW.trod_int Try.underlying2 g6
      have es := L24.split7 cs.toList hcl
      rw [e0, e1, e2, e3, e5, e6] at es
      rcases Go.Deep.open_slice Try.underlying54 g4 with ⟨hcs, _⟩ | ⟨x, len, cap, m, n, D, Pl, hcs, _, hl, hm, hmm, _, hx⟩
      · rw [hcs] at es
        exact ⟨z0, z1, z2, z3, z5, z6, none, 0, 0, l3, b3, es, Nat.le_refl _, Nat.zero_le _, fun _ => ⟨rfl, rfl⟩, fun x hx => by cases hx⟩
      · rw [hcs] at es
        simp only [if_true] at hmm
        subst hmm
        rw [c108] at hx
        refine ⟨z0, z1, z2, z3, z5, z6, some x, len, m, l3, b3, es, hl, hm, (fun h => by cases h), fun x' hx' i hi => ?_⟩
        injection hx' with hx'; subst hx'
        obtain ⟨cs', q1, q2⟩ := hx i hi
        exact ent_of q1 q2
  have hcs2 : cs = (⟨s, a, b, id, .slice a0 len0 cap0, at_, be⟩ : L24.Tb).cells.toArray := by rw [← hcs]
  clear hA0 hval0 hsz0 hsz
  have hcall := calls W s a b id at_ be hid hby a0 len0 cap0 hl hm hn hp
  rw [← hcs2] at hcall
  refine hcall.mono fun e' W' ⟨he, bel⟩ => ?_
  subst he
  exact ⟨_, rfl, _, _, _, [], _, [], hW', trodAll_mk1 (shut_bool Try.underlying4 _), (trodAll_cons_mk (Below.trod laidOut (by kernel_rfl) (of_decide_eq_true (by kernel_rfl)) k0 bel lt0) trodAll_mk0), rfl, bel.frame _, fun h => by cases h⟩
theorem over : Rows.gptChecksRow.holds Try.pinned (OpenSpec.ofChange Rows.gptChecksSpec) :=
  OpenClaim.holds_of_wide 5 Try.f5 rfl rfl rfl rfl rfl rfl rfl ⟨rfl, rfl, rfl, rfl, rfl⟩ rfl rfl rfl rfl rfl (by kernel_rfl) Try.func5 (by kernel_rfl)
    (of_decide_eq_true (by kernel_rfl)) (by unfold Func.isWrapper; first | (rw [if_pos (by decide +kernel)]; kernel_rfl) | (rw [if_neg (by decide +kernel)]; exact ⟨rfl, rfl⟩))
    (fun os started H enc _ => lifted os started H enc)
theorem proved : Rows.GptChecksSaid := over
end Go.Proofs.Ytoehafeeoggpkaa.gptChecks
namespace Go.Proofs.Ytoehafeeoggpkaa
/-- The row, under a short name, for the claim. -/
theorem gptChecks_holds : Rows.GptChecksSaid := gptChecks.proved
end Go.Proofs.Ytoehafeeoggpkaa
