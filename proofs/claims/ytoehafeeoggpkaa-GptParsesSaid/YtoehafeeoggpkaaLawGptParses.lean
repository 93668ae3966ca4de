/- PROVED: whatever the table, GptParses returns true, and its argument reads as it did. Conditions: none but the row's own. -/
import Derived.Test.YtoehafeeoggpkaaRows
import Derived.Test.YtoehafeeoggpkaaW24M
import Derived.Deep.SlicePairs
import Derived.Lib.SmallJoins
import Derived.WalkKit
import Derived.ProofKit
import Derived.OpenShut
import Derived.ShutString
import Derived.ChangeOld
import Derived.Below
import Derived.SizedLaws
set_option linter.unusedVariables false
set_option linter.unnecessarySimpa false
namespace Go.Proofs.Ytoehafeeoggpkaa.gptParses
open Go.ChangeShapes Go.WideShapes Go.ChangeAt Go.RowKit Go.AM
theorem own : ownKnob Try.prog.godebug = none := by kernel_rfl
theorem laidOut : laidOutB Try.prog = true := by kernel_rfl
theorem calls (W : World) (s a b : Int) (id : List Int) (at_ be : Int) (hid : id.length = 16) (hby : Byt id) (a0 : Option Addr) (len0 cap0 : Nat) (hl : len0 ≤ cap0) (hm : cap0 ≤ maxLen) (hn : a0 = none → len0 = 0 ∧ cap0 = 0)
    (hp : ∀ x, a0 = some x → ∀ i, i < cap0 → L24.EntC W x i) (a1 : Option Addr) (len1 cap1 : Nat) (hl1 : len1 ≤ cap1) (hsp1 : ∀ x, a1 = some x → x.spot = none ∧ ∃ cs el fz, W.heap[x.block]? = some (.cells cs el fz)) (hn1 : a1 = none → len1 = 0 ∧ cap1 = 0)
    (hp1 : ∀ x, a1 = some x → ∀ i, i < cap1 → L24.PatC W x i) :
    Calls Try.prog 6 #[.agg (⟨s, a, b, id, .slice a0 len0 cap0, at_, be⟩ : L24.Tb).cells.toArray, .slice a1 len1 cap1] W fun e w' => e = .returned (.bool true) ∧ Below W.heap.size W w' := by
  obtain ⟨σ, h, a', l, hA, hll, hlo, hv, hs⟩ := L24.addEnts (Inv.empty W) rfl a0 len0 cap0 hl hn hp
  obtain ⟨σ2, h2, a2, pl, hA2, hll2, hv2, hpl, hps⟩ := L24.addPatL hA.inv rfl a1 len1 cap1 hl1 hsp1 hn1 hp1
  subst hll
  have o : (⟨s, a, b, id, .slice a' l.length cap0, at_, be⟩ : L24.Tb).Ok := ⟨hid, hby, ⟨_, _, _, rfl⟩⟩
  have hvt := hA2.vr (L24.tb_vr (t := ⟨s, a, b, id, .slice a' l.length cap0, at_, be⟩) hid hv)
  have hs : L24.SlZ h (.slice a' l.length cap0) l := ⟨⟨_, _, rfl⟩, fun e => hs.resolve_left e⟩
  have A := L24.addsT hA hA2
  obtain ⟨r1, h', hgo, rfl⟩ := L24.law_parses 9223372036854775809 92 ⟨s, a, b, id, .slice a' l.length cap0, at_, be⟩ o l hlo (.slice a2 len1 cap1) pl h2 (A.keep.wf Wf.empty) (hs.keep hA2.keep (Nat.le_refl _)) ⟨a2, cap1, by rw [hll2]⟩ hps hpl (by omega)
  exact go_calls AMC.follows L24.tabF_ok hgo A.inv (.cons hvt (.cons hv2 .nil)) ⟨true, rfl⟩
theorem c56 : Try.prog.cellsOf 56 = 22 := by kernel_rfl
theorem c108 : Try.prog.cellsOf 108 = 114 := by kernel_rfl
theorem c105 : Try.prog.cellsOf 105 = 32 := by kernel_rfl
theorem c106 : Try.prog.cellsOf 106 = 80 := by kernel_rfl
theorem c53 : Try.prog.cellsOf 53 = 16 := by kernel_rfl
theorem c54 : Try.prog.cellsOf 54 = 1 := by kernel_rfl
theorem c2 : Try.prog.cellsOf 2 = 1 := by kernel_rfl
theorem c115 : Try.prog.cellsOf 115 = 3 := by kernel_rfl
theorem c27 : Try.prog.cellsOf 27 = 1 := by kernel_rfl
theorem c3 : Try.prog.cellsOf 3 = 1 := by kernel_rfl
theorem c4 : Try.prog.cellsOf 4 = 1 := by kernel_rfl
theorem c5 : Try.prog.cellsOf 5 = 1 := by kernel_rfl
set_option maxRecDepth 100000 in
/-- An entry, by its cells. -/
theorem ent_of {H : Type} {enc : TypeId × Value → H} {W : World} {a : Addr} {i n : Nat} {cs : List Value} {x : DataW H × List MemPlace}
    (h1 : W.cells? 0 (a.add (i * 114)) 114 = some cs) (h2 : DataW.trod enc Try.prog W 0 (fun _ => true) true n 108 cs = some x) : L24.EntC W a i := by
  obtain ⟨_, hlen, hcell⟩ := World.cells?_some h1
  obtain ⟨xs, k, hk, _, _, hxl, hf⟩ := DataW.trod_struct Try.underlying108 h2
  have hxl : xs.length = 4 := hxl
  match xs, hxl with
  | [y0, y1, y2, y3], _ =>
    have g0 : DataW.trod enc Try.prog W 0 (fun _ => true) true k 105 ((cs.drop 0).take (Try.prog.cellsOf 105)) = some y0 := hf 0 _ rfl
    have g1 : DataW.trod enc Try.prog W 0 (fun _ => true) true k 2 ((cs.drop 32).take (Try.prog.cellsOf 2)) = some y1 := hf 1 _ rfl
    have g2 : DataW.trod enc Try.prog W 0 (fun _ => true) true k 2 ((cs.drop 33).take (Try.prog.cellsOf 2)) = some y2 := hf 2 _ rfl
    have g3 : DataW.trod enc Try.prog W 0 (fun _ => true) true k 106 ((cs.drop 34).take (Try.prog.cellsOf 106)) = some y3 := hf 3 _ rfl
    rw [c105] at g0
    rw [c2] at g1 g2
    rw [c106] at g3
    obtain ⟨z0, l0, e0, b0⟩ := L24.open_bytes Try.underlying105 Try.underlying5 c5 c105 g0
    obtain ⟨z1, e1, _, _⟩ := DataW.trod_int Try.underlying2 g1
    obtain ⟨z2, e2, _, _⟩ := DataW.trod_int Try.underlying2 g2
    obtain ⟨z3, l3, e3, b3⟩ := L24.open_bytes Try.underlying106 Try.underlying5 c5 c106 g3
    refine ⟨⟨z0, z1, z2, z3⟩, ⟨l0, l3, b0, b3⟩, fun j hj => ?_⟩
    have hc := hcell j hj
    rw [Go.Deep.add_add] at hc
    rw [hc]
    have es := L24.split4 cs hlen
    rw [e0, e1, e2, e3] at es
    rw [es]
    rfl
theorem by_of {H : Type} {enc : TypeId × Value → H} {W : World} {n : Nat} {v : Value} {x : DataW H × List MemPlace} (h : DataW.trod enc Try.prog W 0 (fun _ => true) true n 27 [v] = some x) : L24.ByC W v := by
  rcases open_ints Try.underlying27 Try.underlying5 c5 h with ⟨hcs, _⟩ | ⟨x, l, c, zs, hcs, _, hl, hm, hz, _, hcell, hwz⟩
  · left; simpa using hcs
  · right
    refine ⟨x, l, c, zs, by simpa using hcs, hl, by simpa using hz, hcell, fun y hy => ?_⟩
    have := hwz y hy
    simp [Lit.wf] at this
    have e1 : IntKind.u8.min = 0 := by decide
    have e2 : IntKind.u8.max = 255 := by decide
    omega
set_option maxRecDepth 100000 in
/-- A patch, by its cells. -/
theorem pat_of {H : Type} {enc : TypeId × Value → H} {W : World} {a : Addr} {i n : Nat} {cs : List Value} {x : DataW H × List MemPlace}
    (h1 : W.cells? 0 (a.add (i * 3)) 3 = some cs) (h2 : DataW.trod enc Try.prog W 0 (fun _ => true) true n 115 cs = some x) : L24.PatC W a i := by
  obtain ⟨_, hlen, hcell⟩ := World.cells?_some h1
  obtain ⟨xs, k, hk, _, _, hxl, hf⟩ := DataW.trod_struct Try.underlying115 h2
  match xs, hxl, cs, hlen with
  | [y0, y1, y2], _, [v0, v1, v2], _ =>
    have g0 := hf 0 _ rfl
    have g1 := hf 1 _ rfl
    have g2 := hf 2 _ rfl
    simp [c3, c27, c4] at g0 g1 g2
    obtain ⟨z0, e0, _, _⟩ := DataW.trod_int Try.underlying3 g0
    have hr := by_of g1
    obtain ⟨bb, e2, _⟩ := DataW.trod_bool Try.underlying4 g2
    simp at e0 e2
    subst e0; subst e2
    have q0 := hcell 0 (by omega)
    have q1 := hcell 1 (by omega)
    have q2 := hcell 2 (by omega)
    rw [Go.Deep.add_add] at q0 q1 q2
    exact ⟨z0, v1, bb, by simpa using q0, by simpa using q1, by simpa using q2, hr⟩
set_option maxRecDepth 100000 in
theorem lifted (os : Os) (started : os.Started) (H : Type) (enc : TypeId × Value → H) :
    ReturnsInHanded {} Try.checked os 6 .any (Rows.gptParsesSpec.pre6 enc Try.prog Try.f6 Rows.gptParsesRow.domain false) (Rows.gptParsesSpec.post enc Try.prog Try.f6 false true false false) := by
  refine returnsInHanded_of_change_sized (C := Try.checked) own started (by kernel_rfl) Try.func6
    (ChangeSpec.witness6 (enc := enc) (C := Try.checked) false ⟨#[], #[.agg #[.int .i64 0, .int .i64 0, .int .i64 0, .int .u8 0, .int .u8 0, .int .u8 0, .int .u8 0, .int .u8 0, .int .u8 0, .int .u8 0, .int .u8 0, .int .u8 0, .int .u8 0, .int .u8 0, .int .u8 0, .int .u8 0, .int .u8 0, .int .u8 0, .int .u8 0, .slice none 0 0, .int .i64 0, .int .i64 0], .slice none 0 0], []⟩ 8 (by kernel_rfl) (by kernel_rfl) (by kernel_rfl) (by kernel_rfl)) ?_
  intro W base args ds gs before hval0 hW hcnd hsz0 _
  have hsz : (DataW.weightsEach Try.prog (Try.f6.params.toList ++ Rows.gptParsesSpec.plain.varTypes Try.prog) (ds ++ gs)).all (· ≤ reachBytes) = true := hsz0
  have hval : ∀ (j : Nat) t v, Try.f6.params[j]? = some t → args[j]? = some v → Value.okWide Try.prog W .any base t v := hval0
  have hW' := hW
  obtain ⟨p, q, hA0, hV, rfl, hfz, hnd⟩ := hW
  have hA : DataW.TrodAll enc Try.prog W 0 (fun _ => true) true Try.f6.params.toList args.toList ds p := hA0
  rw [Try.params6] at hA hval hsz
  obtain ⟨v0, vs0, d0, ds0, p0, q0, hargs, rfl, rfl, h0, r0⟩ := trodAll_cons hA
  obtain ⟨v1, vs1, d1, ds1, p1, q1, rfl, rfl, rfl, h1, r1⟩ := trodAll_cons r0
  obtain ⟨rfl, rfl, rfl⟩ := trodAll_nil r1
  obtain rfl : args = #[v0, v1] := by cases args; simp_all
  obtain ⟨rfl, rfl⟩ := trodVars_none hV
  obtain ⟨cs, rfl, hsz1⟩ := okWide_struct Try.underlying56 (hval 0 56 v0 rfl rfl)
  have hv1 := hval 1 64 v1 rfl rfl
  obtain ⟨a1, len1, cap1, rfl⟩ := okWide_slice Try.underlying64 hv1
  have hok1 : ∀ x, a1 = some x → World.has Try.prog W .any base x 115 cap1 := by
    rintro x rfl
    simp only [Value.okWide, Try.underlying64, Cell.okWide, Cell.ok] at hv1
    exact hv1.2.2
  have hsp1 : ∀ x, a1 = some x → x.spot = none ∧ ∃ cs el fz, W.heap[x.block]? = some (.cells cs el fz) := by
    intro x hx
    obtain ⟨_, hspot, row, cells, hshape, _⟩ := hok1 x hx
    refine ⟨hspot, ?_⟩
    unfold World.shape? at hshape
    split at hshape
    · rename_i cs el fz hh
      exact ⟨cs, el, _, by assumption⟩
    · cases hshape
  have k1 := h1
  have lt1 : ∀ x ∈ p1, x.block < W.heap.size := by obtain ⟨m, hm⟩ := k1; exact DataW.trod_lt m _ _ _ hm
  obtain ⟨hl1, hn1, hp1⟩ : len1 ≤ cap1 ∧ (a1 = none → len1 = 0 ∧ cap1 = 0) ∧ ∀ x, a1 = some x → ∀ i, i < cap1 → L24.PatC W x i := by
    obtain ⟨fuel, hf⟩ := h1
    rcases Go.Deep.open_slice Try.underlying64 hf with ⟨hcs, _⟩ | ⟨a, len, cap, m, n, D, Pl, hcs, _, hl, hm, hmm, _, hx⟩
    · simp [Value.cells] at hcs
      obtain ⟨rfl, rfl, rfl⟩ := hcs
      exact ⟨Nat.le_refl _, fun _ => ⟨rfl, rfl⟩, fun x hx => by cases hx⟩
    · simp [Value.cells] at hcs
      obtain ⟨rfl, rfl, rfl⟩ := hcs
      simp only [if_true] at hmm
      subst hmm
      rw [c115] at hx
      refine ⟨hl, (fun h => by cases h), fun x hx' i hi => ?_⟩
      injection hx' with hx'; subst hx'
      obtain ⟨cs', g1, g2⟩ := hx i hi
      exact pat_of g1 g2
  have k0 := h0
  have lt0 : ∀ x ∈ p0, x.block < W.heap.size := by obtain ⟨m, hm⟩ := k0; exact DataW.trod_lt m _ _ _ hm
  obtain ⟨s, a, b, id, at_, be, a0, len0, cap0, hid, hby, hcs, hl, hm, hn, hp⟩ : ∃ (s a b : Int) (id : List Int) (at_ be : Int) (a0 : Option Addr) (len0 cap0 : Nat), id.length = 16 ∧ Byt id ∧ cs.toList = (⟨s, a, b, id, .slice a0 len0 cap0, at_, be⟩ : L24.Tb).cells ∧ len0 ≤ cap0 ∧ cap0 ≤ maxLen ∧ (a0 = none → len0 = 0 ∧ cap0 = 0) ∧ ∀ x, a0 = some x → ∀ i, i < cap0 → L24.EntC W x i := by
    obtain ⟨fuel, hf0⟩ := h0
    have hf0 : DataW.trod enc Try.prog W 0 (fun _ => true) true fuel 56 cs.toList = some (d0, p0) := hf0
    obtain ⟨xs, k, hk, _, hcl, hxl, hf⟩ := DataW.trod_struct Try.underlying56 hf0
    have hxl : xs.length = 7 := hxl
    rw [c56] at hcl
    match xs, hxl with
    | [y0, y1, y2, y3, y4, y5, y6], _ =>
      have g0 : DataW.trod enc Try.prog W 0 (fun _ => true) true k 2 ((cs.toList.drop 0).take (Try.prog.cellsOf 2)) = some y0 := hf 0 _ rfl
      have g1 : DataW.trod enc Try.prog W 0 (fun _ => true) true k 2 ((cs.toList.drop 1).take (Try.prog.cellsOf 2)) = some y1 := hf 1 _ rfl
      have g2 : DataW.trod enc Try.prog W 0 (fun _ => true) true k 2 ((cs.toList.drop 2).take (Try.prog.cellsOf 2)) = some y2 := hf 2 _ rfl
      have g3 : DataW.trod enc Try.prog W 0 (fun _ => true) true k 53 ((cs.toList.drop 3).take (Try.prog.cellsOf 53)) = some y3 := hf 3 _ rfl
      have g4 : DataW.trod enc Try.prog W 0 (fun _ => true) true k 54 ((cs.toList.drop 19).take (Try.prog.cellsOf 54)) = some y4 := hf 4 _ rfl
      have g5 : DataW.trod enc Try.prog W 0 (fun _ => true) true k 2 ((cs.toList.drop 20).take (Try.prog.cellsOf 2)) = some y5 := hf 5 _ rfl
      have g6 : DataW.trod enc Try.prog W 0 (fun _ => true) true k 2 ((cs.toList.drop 21).take (Try.prog.cellsOf 2)) = some y6 := hf 6 _ rfl
      rw [c2] at g0 g1 g2 g5 g6
      rw [c53] at g3
      rw [c54] at g4
      obtain ⟨z0, e0, _, _⟩ := DataW.trod_int Try.underlying2 g0
      obtain ⟨z1, e1, _, _⟩ := DataW.trod_int Try.underlying2 g1
      obtain ⟨z2, e2, _, _⟩ := DataW.trod_int Try.underlying2 g2
      obtain ⟨z3, l3, e3, b3⟩ := L24.open_bytes Try.underlying53 Try.underlying5 c5 c53 g3
      obtain ⟨z5, e5, _, _⟩ := DataW.trod_int Try.underlying2 g5
      obtain ⟨z6, e6, _, _⟩ := DataW.trod_int Try.underlying2 g6
      have es := L24.split7 cs.toList hcl
      rw [e0, e1, e2, e3, e5, e6] at es
      rcases Go.Deep.open_slice Try.underlying54 g4 with ⟨hcs, _⟩ | ⟨x, len, cap, m, n, D, Pl, hcs, _, hl, hm, hmm, _, hx⟩
      · rw [hcs] at es
        exact ⟨z0, z1, z2, z3, z5, z6, none, 0, 0, l3, b3, es, Nat.le_refl _, Nat.zero_le _, fun _ => ⟨rfl, rfl⟩, fun x hx => by cases hx⟩
      · rw [hcs] at es
        simp only [if_true] at hmm
        subst hmm
        rw [c108] at hx
        refine ⟨z0, z1, z2, z3, z5, z6, some x, len, m, l3, b3, es, hl, hm, (fun h => by cases h), fun x' hx' i hi => ?_⟩
        injection hx' with hx'; subst hx'
        obtain ⟨cs', q1, q2⟩ := hx i hi
        exact ent_of q1 q2
  have hcs2 : cs = (⟨s, a, b, id, .slice a0 len0 cap0, at_, be⟩ : L24.Tb).cells.toArray := by rw [← hcs]
  clear hA0 hval0 hsz0 hsz
  have hcall := calls W s a b id at_ be hid hby a0 len0 cap0 hl hm hn hp a1 len1 cap1 hl1 hsp1 hn1 hp1
  rw [← hcs2] at hcall
  refine hcall.mono fun e' W' ⟨he, bel⟩ => ?_
  subst he
  exact ⟨_, rfl, _, _, _, [], _, [], hW', trodAll_mk1 (shut_bool Try.underlying4 _), (trodAll_cons_mk (Below.trod laidOut (by kernel_rfl) (of_decide_eq_true (by kernel_rfl)) k0 bel lt0) (trodAll_cons_mk (Below.trod laidOut (by kernel_rfl) (of_decide_eq_true (by kernel_rfl)) k1 bel lt1) trodAll_mk0)), rfl, bel.frame _, fun h => by cases h⟩
theorem over : Rows.gptParsesRow.holds Try.pinned (OpenSpec.ofChange Rows.gptParsesSpec) :=
  OpenClaim.holds_of_wide 6 Try.f6 rfl rfl rfl rfl rfl rfl rfl ⟨rfl, rfl, rfl, rfl, rfl⟩ rfl rfl rfl rfl rfl (by kernel_rfl) Try.func6 (by kernel_rfl)
    (of_decide_eq_true (by kernel_rfl)) (by unfold Func.isWrapper; first | (rw [if_pos (by decide +kernel)]; kernel_rfl) | (rw [if_neg (by decide +kernel)]; exact ⟨rfl, rfl⟩))
    (fun os started H enc _ => lifted os started H enc)
theorem proved : Rows.GptParsesSaid := over
end Go.Proofs.Ytoehafeeoggpkaa.gptParses
namespace Go.Proofs.Ytoehafeeoggpkaa
/-- The row, under a short name, for the claim. -/
theorem gptParses_holds : Rows.GptParsesSaid := gptParses.proved
end Go.Proofs.Ytoehafeeoggpkaa
