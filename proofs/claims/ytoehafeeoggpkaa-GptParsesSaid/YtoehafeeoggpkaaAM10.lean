import Derived.Test.YtoehafeeoggpkaaAM9
import Derived.Laws.Build
import Derived.Laws.BytesString
import Derived.Laws.StructEq
import Derived.Lib.ConvBytes
import Derived.WideLaws
set_option linter.unusedVariables false
set_option linter.unusedSimpArgs false
/-! Part 10: copying, lengths, parts, conversions, comparisons. -/
namespace Go.AM
noncomputable section
open Go.RowKit

section
variable {N0 : Nat} {w0 : World} {P : Program} {σ : Sig} {h : AHeap} {w : World}

/-! ### copy -/
def lenOfA (x : Value) : Option Nat :=
  match x with
  | .slice _ n _ => some n
  | .string s => some s.size
  | _ => none
def aTake (es n : Nat) (x : Value) (h : AHeap) : Option Cells :=
  match x with
  | .slice none _ _ => if n = 0 then some (.vals []) else none
  | .slice (some ⟨m, o, none⟩) len _ =>
    if n = 0 then some (.vals []) else
    if n ≤ len then
    match h.get m with
    | .row _ _ c => if o + n * es ≤ c.size then some (c.ext o (n * es)) else none
    | _ => none
    else none
  | .string s => if es = 1 then some (mkRow true (byteCells (s.extract 0 n))) else none
  | _ => none
def aCopy (es : Nat) (dst src : Value) (h : AHeap) : Option (Value × AHeap) :=
  match lenOfA src, dst with
  | some sl, .slice base dl _ =>
    let n := if sl ≤ dl then sl else dl
    match aTake es n src h with
    | none => none
    | some c =>
      if n = 0 then some (.int .i64 0, h) else
      match base with
      | some ⟨m, o, none⟩ =>
        match h.get m with
        | .row false gr d => if o + c.size ≤ d.size then some (.int .i64 (Int.ofNat n), h.set m (.row false gr (d.blit o c))) else none
        | _ => none
      | _ => none
  | _, _ => none

theorem take_run {es n : Nat} {x x' : Value} {c : Cells} (hI : Inv N0 w0 σ h w) (hx : VR h.next σ x x') (ha : aTake es n x h = some c) :
    ∃ l', (Builtin.firstCells es n x').run P w = .ok l'.toArray w ∧ VRL h.next σ c.toList l' ∧ (∀ v ∈ l', v.oneCell' = true) ∧ (n = 0 → l' = []) := by
  unfold aTake at ha
  split at ha
  · split at ha
    · rename_i hn
      injection ha with ha; subst ha; subst hn
      refine ⟨[], ?_, .nil, fun v hv => (by cases hv), fun _ => rfl⟩
      cases hx with
      | nils => simp [Builtin.firstCells]
    · cases ha
  · rename_i m o len cap
    split at ha
    · rename_i hn
      injection ha with ha; subst ha; subst hn
      refine ⟨[], ?_, .nil, fun v hv => (by cases hv), fun _ => rfl⟩
      cases hx <;> simp [Builtin.firstCells, loadCells, loadCellsFrom]
    · rename_i hn
      split at ha
      case isFalse => cases ha
      rename_i hle
      split at ha
      · rename_i ro gr cc hrow
        split at ha
        · rename_i hsz
          injection ha with ha; subst ha
          obtain ⟨l', q1, q2, q3⟩ := hI.cellsAt hrow hsz
          obtain ⟨cap', rfl, hm⟩ := hx.slice_addr (by omega)
          refine ⟨l', ?_, q1, q3, fun e => absurd e hn⟩
          exact run_firstCells_some w es n _ len cap' l' (by rw [← q1.1, Cells.length_toList, Cells.size_ext hsz]) (fun j u hj => by rw [add_mk]; exact q2 j u hj)
        · cases ha
      · cases ha
  · rename_i s
    split at ha
    · injection ha with ha; subst ha
      cases hx with
      | str =>
      refine ⟨byteCells (s.extract 0 n), ?_, by rw [toList_mkRow]; exact VRL.closed depthC _ (byteCells_closed _), ?_, ?_⟩
      · simp only [Builtin.firstCells, Sem.run_pure]
        congr 1
        apply Array.ext'
        simp [byteCells]
      · intro v hv
        unfold byteCells at hv
        obtain ⟨b, _, rfl⟩ := List.mem_map.1 hv
        rfl
      · intro hn; subst hn
        apply List.length_eq_zero_iff.1
        rw [byteCells_length]; simp
    · cases ha
  · cases ha

theorem VR.lenOf {n : Nat} {σ : Sig} {x x' : Value} {k : Nat} (hx : VR n σ x x') (hl : lenOfA x = some k) (w : World) : (Builtin.lenOf x').run P w = .ok k w := by
  cases hx <;> simp only [lenOfA, Option.some.injEq, reduceCtorEq] at hl <;> subst hl <;> rfl

theorem copy_run {dT sT ty e : TypeId} {i : TypeInfo} {dst dst' src src' v : Value} {h' : AHeap} (hI : Inv N0 w0 σ h w) (hd : P.underlying dT = some (.slice e)) (hi : P.info? e = some i)
    (hx : VR h.next σ dst dst') (hy : VR h.next σ src src') (ha : aCopy i.size dst src h = some (v, h')) : Sim N0 w0 P σ h w (Builtin.copy_ #[dT, sT] ty #[dst', src']) v h' := by
  unfold aCopy at ha
  split at ha
  · rename_i sl base dl dc hsl
    have hform : ∃ base' cap', dst' = .slice base' dl cap' := by
      cases hx <;> exact ⟨_, _, rfl⟩
    obtain ⟨base', cap', hde⟩ := hform
    have hmin : Nat.min sl dl = if sl ≤ dl then sl else dl := by
      show min sl dl = _
      split <;> omega
    generalize hn : (if sl ≤ dl then sl else dl) = n at ha hmin
    simp only at ha
    split at ha
    · cases ha
    · rename_i c htk
      obtain ⟨l', q1, q2, q3, q4⟩ := take_run (P := P) hI hy htk
      have hlen := hy.lenOf (P := P) hsl w
      split at ha
      · rename_i hn0
        injection ha with ha; simp only [Prod.mk.injEq] at ha; obtain ⟨rfl, rfl⟩ := ha
        have := q4 hn0
        subst this
        refine Sim.same hI (v' := .int .i64 0) ?_ (.int _ _)
        subst hde
        rw [hn0] at q1 hmin
        cases base' with
        | none => simp [Builtin.copy_, run_underlying hd, hlen, sizeOf, typeInfo, hi, hmin, q1, goInt]
        | some A => simp [Builtin.copy_, run_underlying hd, hlen, sizeOf, typeInfo, hi, hmin, q1, goInt, storeCells]
      · rename_i hn0
        split at ha
        · rename_i _ m o
          split at ha
          · rename_i gr d hrow
            split at ha
            · rename_i hsz
              injection ha with ha; simp only [Prod.mk.injEq] at ha; obtain ⟨rfl, rfl⟩ := ha
              have hdl : 0 < dl := by split at hn <;> omega
              obtain ⟨cap2, he2, hm⟩ := hx.slice_addr hdl
              rw [he2] at hde
              injection hde with e1 e2 e3
              subst e1
              obtain ⟨w', r1, r2, r3⟩ := hI.storeCells (P := P) hrow (o := o) (p := c) q2 hsz q3
              refine ⟨σ, .int .i64 (Int.ofNat n), w', ?_, .int _ _, r2, r3⟩
              rw [he2]
              simp [Builtin.copy_, run_underlying hd, hlen, sizeOf, typeInfo, hi, hmin, q1, goInt, r1]
            · cases ha
          · cases ha
        · cases ha
  · cases ha

/-! ### lengths -/
inductive LenK where
  | str | sl | map | arr (n : Nat)
  deriving Inhabited
def cLen (P : Program) (t : TypeId) : Option LenK :=
  match P.underlying t with
  | some .string => some .str
  | some (.slice _) => some .sl
  | some (.map ..) => some .map
  | some (.array n _) => some (.arr n)
  | some (.pointer a) => match P.underlying a with
    | some (.array n _) => some (.arr n)
    | _ => none
  | _ => none
def aLen (k : LenK) (x : Value) (h : AHeap) : Option Value :=
  match k with
  | .str => match x with
    | .string s => some (.int .i64 (Int.ofNat s.size))
    | _ => none
  | .sl => match x with
    | .slice _ n _ => some (.int .i64 (Int.ofNat n))
    | _ => none
  | .map => match x with
    | .map none => some (.int .i64 0)
    | .map (some m) => match h.get m with
      | .map es _ => some (.int .i64 (Int.ofNat es.length))
      | _ => none
    | _ => none
  | .arr n => some (.int .i64 (Int.ofNat n))

theorem Inv.mapAt (hI : Inv N0 w0 σ h w) {m : Nat} {es : List MapEntry} {cl : Nat} (hm : h.get m = .map es cl) : ∃ es', w.heap[(σ m).blk]? = some (.map es' cl) ∧ ER h.next σ es es'.toList := by
  have := hI.obj m
  rw [hm] at this
  exact this
theorem run_getMap {r : Nat} {es : Array MapEntry} {cl : Nat} (hb : w.heap[r]? = some (.map es cl)) : (getObj r).run P w = .ok (.map es cl) w := by
  simp only [getObj, Sem.run, hb]

theorem len_run {t ty : TypeId} {k : LenK} {x x' v : Value} (hI : Inv N0 w0 σ h w) (hc : cLen P t = some k) (hx : VR h.next σ x x') (ha : aLen k x h = some v) : Sim N0 w0 P σ h w (Builtin.len_ #[t] ty #[x']) v h := by
  unfold cLen at hc
  split at hc
  · rename_i hu
    injection hc with hc; subst hc
    simp only [aLen] at ha
    split at ha
    · injection ha with ha; subst ha
      cases hx with
      | str => exact Sim.same hI (by simp [Builtin.len_, run_underlying hu, goInt]) (.int _ _)
    · cases ha
  · rename_i hu
    injection hc with hc; subst hc
    simp only [aLen] at ha
    split at ha
    · injection ha with ha; subst ha
      cases hx <;> exact Sim.same hI (by simp [Builtin.len_, run_underlying hu, goInt]) (.int _ _)
    · cases ha
  · rename_i hu
    injection hc with hc; subst hc
    simp only [aLen] at ha
    split at ha
    · injection ha with ha; subst ha
      cases hx with
      | nilm => exact Sim.same hI (by simp [Builtin.len_, run_underlying hu, goInt]) (.int _ _)
    · rename_i m
      split at ha
      · rename_i es cl hm
        injection ha with ha; subst ha
        cases hx with
        | map _ hmn =>
        obtain ⟨es', e1, e2⟩ := hI.mapAt hm
        refine Sim.same hI (v' := .int .i64 (Int.ofNat es.length)) ?_ (.int _ _)
        have : es'.size = es.length := by have := e2.1; simpa using this.symm
        simp [Builtin.len_, run_underlying hu, goInt, run_getMap e1, this]
      · cases ha
    · cases ha
  · rename_i n e hu
    injection hc with hc; subst hc
    simp only [aLen, Option.some.injEq] at ha
    subst ha
    exact Sim.same hI (by simp [Builtin.len_, run_underlying hu, goInt]) (.int _ _)
  · rename_i a hu
    split at hc
    · rename_i n e hu2
      injection hc with hc; subst hc
      simp only [aLen, Option.some.injEq] at ha
      subst ha
      exact Sim.same hI (by simp [Builtin.len_, run_underlying hu, run_underlying hu2, goInt]) (.int _ _)
    · cases hc
  · cases hc

/-! ### parts of values -/
/-- n: so many cells of an aggregate; none: one cell. -/
def aPart (n : Option Nat) (cs : Array Value) (off : Nat) : Option Value :=
  match n with
  | none => cs[off]?
  | some k => some (.agg (cs.extract off (off + k)))
theorem part_run {t : TypeId} {n : Option Nat} {cs cs' : Array Value} {off : Nat} {v : Value} (hc : cLoad P t = some n) (hr : VRL h.next σ cs.toList cs'.toList) (ha : aPart n cs off = some v) :
    ∃ v', (part t cs' off).run P w = .ok v' w ∧ VR h.next σ v v' := by
  unfold cLoad at hc
  split at hc
  · rename_i d i hd hi
    injection hc with hc
    have hag := run_isAgg' (w := w) hd
    cases hb : aggD d with
    | true =>
      rw [hb] at hc; simp only [if_true] at hc; subst hc
      simp only [aPart, Option.some.injEq] at ha
      subst ha
      refine ⟨.agg (cs'.extract off (off + i.size)), ?_, ?_⟩
      · simp only [part, Sem.run_bind, hag, hb, Result.andThen_ok, if_true, run_sizeOf' hi, Sem.run_pure]
      · refine .agg _ _ ?_ ?_
        · have := hr.1; simp only [Array.length_toList] at this; simp [this]
        · intro j x x' e e'
          rw [Array.getElem?_extract] at e e'
          split at e
          · rename_i hj
            have hsz := hr.1; simp only [Array.length_toList] at hsz
            rw [if_pos (by omega)] at e'
            exact hr.2 (off + j) x x' (by simpa using e) (by simpa using e')
          · cases e
    | false =>
      rw [hb] at hc; simp only [Bool.false_eq_true, if_false] at hc; subst hc
      simp only [aPart] at ha
      obtain ⟨v', e1, e2⟩ := hr.get (i := off) (v := v) (by simpa using ha)
      refine ⟨v', ?_, e2⟩
      have e1' : cs'[off]? = some v' := by simpa using e1
      simp only [part, Sem.run_bind, hag, hb, Result.andThen_ok, Bool.false_eq_true, if_false, e1', Sem.run_pure]
  · cases hc

def aField (n : Option Nat) (off : Nat) (x : Value) : Option Value :=
  match x with
  | .agg cs => aPart n cs off
  | _ => none
theorem field_run {s : TypeId} {f : Nat} {fs : Array Field} {fd : Field} {n : Option Nat} {x x' v : Value} (hI : Inv N0 w0 σ h w) (hs : P.underlying s = some (.struct fs)) (hf : fs[f]? = some fd) (hc : cLoad P fd.type = some n)
    (hx : VR h.next σ x x') (ha : aField n fd.offset x = some v) : Sim N0 w0 P σ h w (Instr.field s x' f) v h := by
  unfold aField at ha
  split at ha
  · obtain ⟨cs', rfl, hr⟩ := hx.of_agg
    obtain ⟨v', r1, r2⟩ := part_run (P := P) (w := w) hc hr ha
    refine Sim.same hI (v' := v') ?_ r2
    simp only [Instr.field, Sem.run_bind, run_underlying hs, Result.andThen_ok, hf, asAgg, Sem.run_pure, r1]
  · cases ha

inductive IndexK where
  | str
  | arr (len es : Nat) (n : Option Nat)
  deriving Inhabited
def cIndex (P : Program) (t : TypeId) : Option IndexK :=
  match P.underlying t with
  | some .string => some .str
  | some (.array len e) => match P.info? e, cLoad P e with
    | some i, some n => some (.arr len i.size n)
    | _, _ => none
  | _ => none
def aIndex (k : IndexK) (x ix : Value) : Option Value :=
  match ix with
  | .int _ i =>
    match k with
    | .str => match x with
      | .string s => if 0 ≤ i then (s[i.toNat]?).map fun b => .int .u8 (Int.ofNat b.toNat) else none
      | _ => none
    | .arr len es n => match x with
      | .agg cs => if 0 ≤ i ∧ i < len then aPart n cs (i.toNat * es) else none
      | _ => none
  | _ => none
theorem index_run {t : TypeId} {k : IndexK} {x x' ix ix' v : Value} (hI : Inv N0 w0 σ h w) (hc : cIndex P t = some k) (hx : VR h.next σ x x') (hix : VR h.next σ ix ix') (ha : aIndex k x ix = some v) :
    Sim N0 w0 P σ h w (Instr.index t x' ix') v h := by
  unfold aIndex at ha
  split at ha
  · rename_i kk i
    cases hix with
    | int =>
    unfold cIndex at hc
    split at hc
    · rename_i hu
      injection hc with hc; subst hc
      simp only at ha
      split at ha
      · rename_i s
        split at ha
        · rename_i h0
          cases hx with
          | str =>
          rw [Option.map_eq_some_iff] at ha
          obtain ⟨b, hb, rfl⟩ := ha
          refine Sim.same hI (v' := .int .u8 (Int.ofNat b.toNat)) ?_ (.int _ _)
          simp [Instr.index, asIntOf, run_underlying hu, h0, hb]
        · cases ha
      · cases ha
    · rename_i len e hu
      split at hc
      · rename_i inf n hi hn
        injection hc with hc; subst hc
        simp only at ha
        split at ha
        · rename_i cs
          split at ha
          · rename_i hb
            obtain ⟨cs', rfl, hr⟩ := hx.of_agg
            obtain ⟨v', r1, r2⟩ := part_run (P := P) (w := w) hn hr ha
            refine Sim.same hI (v' := v') ?_ r2
            simp only [Instr.index, asIntOf, Sem.run_bind, Sem.run_pure, Result.andThen_ok, run_underlying hu, hb, and_self, if_true, run_sizeOf' hi, r1, Sem.run_ite]
          · cases ha
        · cases ha
      · cases hc
    · cases hc
  · cases ha

def aExtract (i : Nat) (x : Value) : Option Value :=
  match x with
  | .tuple vs => vs[i]?
  | _ => none
theorem extract_run {i : Nat} {x x' v : Value} (hI : Inv N0 w0 σ h w) (hx : VR h.next σ x x') (ha : aExtract i x = some v) : Sim N0 w0 P σ h w (Instr.extract x' i) v h := by
  unfold aExtract at ha
  split at ha
  · obtain ⟨cs', rfl, hr⟩ := hx.of_tup
    obtain ⟨v', e1, e2⟩ := hr.get (i := i) (v := v) (by simpa using ha)
    have e1' : cs'[i]? = some v' := by simpa using e1
    exact Sim.same hI (by simp only [Instr.extract, e1', Sem.run_pure]) e2
  · cases ha
end
end
end Go.AM
