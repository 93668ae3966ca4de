import Derived.Test.YtoehafeeoggpkaaAM4
import Derived.Laws.AppendOwn
set_option linter.unusedVariables false
set_option linter.unusedSimpArgs false
/-! Part 5: each operation on abstract values and heap, and that the machine's does what it says. -/
namespace Go.AM
noncomputable section
open Go.RowKit

/-- What an operation that isn't a call comes to. -/
def Sim (N0 : Nat) (w0 : World) (P : Program) (σ : Sig) (h : AHeap) (w : World) (s : Sem Value) (v : Value) (h' : AHeap) : Prop :=
  ∃ σ' v' w', s.run P w = .ok v' w' ∧ VR h'.next σ' v v' ∧ Inv N0 w0 σ' h' w' ∧ Go' σ h w σ' h' w'
def SimU (N0 : Nat) (w0 : World) (P : Program) (σ : Sig) (h : AHeap) (w : World) (s : Sem Unit) (h' : AHeap) : Prop :=
  ∃ σ' w', s.run P w = .ok () w' ∧ Inv N0 w0 σ' h' w' ∧ Go' σ h w σ' h' w'

section
variable {N0 : Nat} {w0 : World} {P : Program} {σ : Sig} {h : AHeap} {w : World}

theorem Sim.same (hI : Inv N0 w0 σ h w) {s : Sem Value} {v v' : Value} (hs : s.run P w = .ok v' w) (hv : VR h.next σ v v') : Sim N0 w0 P σ h w s v h :=
  ⟨σ, v', w, hs, hv, hI, .refl _ _ _⟩

theorem run_sizeOf' {t : TypeId} {i : TypeInfo} (hi : P.info? t = some i) : (sizeOf t).run P w = .ok i.size w := by
  simp [sizeOf, typeInfo, hi]
theorem run_typeInfo' {t : TypeId} {i : TypeInfo} (hi : P.info? t = some i) : (typeInfo t).run P w = .ok i w := by
  simp [typeInfo, hi]
theorem run_zeroValue' {t : TypeId} {i : TypeInfo} {z : Value} (hi : P.info? t = some i) (hz : i.zero = some z) : (zeroValue t).run P w = .ok z w := by
  simp [zeroValue, typeInfo, hi, hz]

def aggD : TypeDesc → Bool
  | .struct _ | .array _ _ => true
  | _ => false
theorem run_isAgg' {t : TypeId} {d : TypeDesc} (hd : P.underlying t = some d) : (isAgg t).run P w = .ok (aggD d) w := by
  simp only [isAgg, Sem.run_bind, run_underlying hd, Result.andThen_ok]
  cases d <;> rfl

/-! ### loads and stores -/
/-- agg: how many cells (none: one cell, no aggregate). -/
def aLoad (n : Option Nat) (a : Value) (h : AHeap) : Option Value :=
  match a with
  | .pointer (some ⟨m, o, none⟩) =>
    match h.get m with
    | .row _ _ c =>
      match n with
      | none => c.get o
      | some k => if o + k ≤ c.size then some (.agg (c.ext o k).toList.toArray) else none
    | _ => none
  | _ => none

def cLoad (P : Program) (t : TypeId) : Option (Option Nat) :=
  match P.underlying t, P.info? t with
  | some d, some i => some (if aggD d then some i.size else none)
  | _, _ => none

theorem load_run0 {t : TypeId} {n : Option Nat} {a a' v : Value} (hI : Inv N0 w0 σ h w) (hc : cLoad P t = some n) (ha : VR h.next σ a a') (hl : aLoad n a h = some v) :
    ∃ v', (Instr.loadAt t a').run P w = .ok v' w ∧ VR h.next σ v v' := by
  unfold aLoad at hl
  split at hl
  · rename_i m o
    cases ha with
    | ptr _ _ hm =>
    split at hl
    · rename_i ro gr c hrow
      unfold cLoad at hc
      split at hc
      · rename_i d i hd hi
        simp only [Option.some.injEq] at hc
        have hag := run_isAgg' (w := w) hd
        cases hb : aggD d with
        | true =>
          rw [hb] at hc; simp only [if_true] at hc
          subst hc
          simp only at hl
          split at hl
          · rename_i hle
            injection hl with hl; subst hl
            obtain ⟨l', h1, h2⟩ := hI.loadCells (P := P) hrow hle
            refine ⟨.agg l'.toArray, ?_, .agg_list h2⟩
            simp only [Instr.loadAt, Instr.sureAddr, loadVar, Sem.run_bind, Sem.run_pure, Result.andThen_ok, hag, hb, if_true, run_sizeOf' hi, h1]
          · cases hl
        | false =>
          rw [hb] at hc; simp only [Bool.false_eq_true, if_false] at hc
          subst hc
          simp only at hl
          obtain ⟨v', h1, h2⟩ := hI.cell hrow hl
          refine ⟨v', ?_, h2⟩
          simp only [Instr.loadAt, Instr.sureAddr, loadVar, Sem.run_bind, Sem.run_pure, Result.andThen_ok, hag, hb, Bool.false_eq_true, if_false, run_load, h1]
      · cases hc
    · cases hl
  · cases hl

theorem load_run {t : TypeId} {n : Option Nat} {a a' v : Value} (hI : Inv N0 w0 σ h w) (hc : cLoad P t = some n) (ha : VR h.next σ a a') (hl : aLoad n a h = some v) :
    Sim N0 w0 P σ h w (Instr.loadAt t a') v h := by
  obtain ⟨v', h1, h2⟩ := load_run0 (P := P) hI hc ha hl
  exact Sim.same hI h1 h2

/-- The cells of a value, as a row. -/
def cellsOf (v : Value) : Cells := .vals v.cells.toList
def aStore (sz : Nat) (a x : Value) (h : AHeap) : Option AHeap :=
  match a with
  | .pointer (some ⟨m, o, none⟩) =>
    match h.get m with
    | .row false gr c => if x.cells.size = sz ∧ o + sz ≤ c.size ∧ x.cells.toList.all one = true then some (h.set m (.row false gr (c.blit o (cellsOf x)))) else none
    | _ => none
  | _ => none

theorem VRL.ones {n : Nat} {σ : Sig} {l l' : List Value} (hr : VRL n σ l l') (ho : l.all one = true) : ∀ v ∈ l', v.oneCell' = true := by
  intro v hv
  obtain ⟨i, hi⟩ := List.mem_iff_getElem?.1 hv
  obtain ⟨hlt, _⟩ := List.getElem?_eq_some_iff.1 hi
  have hlt2 : i < l.length := by rw [hr.1]; exact hlt
  have := hr.2 i _ v (List.getElem?_eq_getElem hlt2) hi
  exact this.one (List.all_eq_true.1 ho _ (List.getElem_mem hlt2))

theorem store_run {t : TypeId} {i : TypeInfo} {a a' x x' : Value} {h' : AHeap} (hI : Inv N0 w0 σ h w) (hi : P.info? t = some i) (ha : VR h.next σ a a') (hx : VR h.next σ x x') (hs : aStore i.size a x h = some h') :
    SimU N0 w0 P σ h w (Instr.storeAt t a' x') h' := by
  unfold aStore at hs
  split at hs
  · rename_i m o
    cases ha with
    | ptr _ _ hm =>
    split at hs
    · rename_i gr c hrow
      split at hs
      · rename_i hc
        obtain ⟨hsz, hle, hone⟩ := hc
        injection hs with hs; subst hs
        have hcells := hx.cells
        have hsz' : x'.cells.size = i.size := by
          have := hcells.1
          simp only [Array.length_toList] at this
          omega
        obtain ⟨w', h1, h2, h3⟩ := hI.storeCells (P := P) hrow (o := o) (p := cellsOf x) (vs := x'.cells.toList) (by simpa [cellsOf, Cells.toList] using hcells) (by show o + x.cells.toList.length ≤ c.size; simp; omega) (hcells.ones hone)
        refine ⟨σ, w', ?_, h2, h3⟩
        simp only [Instr.storeAt, Instr.sureAddr, storeVar, Sem.run_bind, Sem.run_pure, Result.andThen_ok, run_sizeOf' hi, hsz', ne_eq, not_true_eq_false, if_false, h1, Sem.run_ite]
      · cases hs
    · cases hs
  · cases hs

/-! ### new variables -/
/-- zs as a row: packed where it is asked for and can be. -/
def mkRow (pk : Bool) (l : List Value) : Cells :=
  if pk then (match pack l with | some n => .bytes n l.length | none => .vals l) else .vals l
theorem toList_mkRow (pk : Bool) (l : List Value) : (mkRow pk l).toList = l := by
  unfold mkRow
  split
  · split
    · rename_i n hp
      apply List.ext_getElem?
      intro i
      rw [Cells.get_toList, pack_get l n hp i]
      rfl
    · rfl
  · rfl

def aNew (pk : Bool) (l : List Value) (h : AHeap) : Option (Value × AHeap) := if l.all one = true then some (.pointer (some ⟨h.next, 0, none⟩), h.new (.row false 0 (mkRow pk l))) else none

theorem newVar_run {t : TypeId} {pk : Bool} {v v' x : Value} {h' : AHeap} (hI : Inv N0 w0 σ h w) (hv : VR h.next σ v v') (ha : aNew pk v.cells.toList h = some (x, h')) :
    Sim N0 w0 P σ h w (do pure (.pointer (some (← newVar t v')))) x h' := by
  unfold aNew at ha
  split at ha
  · rename_i hone
    injection ha with ha; simp only [Prod.mk.injEq] at ha
    obtain ⟨rfl, rfl⟩ := ha
    obtain ⟨σ', h1, h2, h3⟩ := hI.newRow (mkRow pk v.cells.toList) v'.cells.toList t (by rw [toList_mkRow]; exact hv.cells) (hv.cells.ones hone)
    refine ⟨σ', .pointer (some ⟨w.heap.size, 0, none⟩), _, ?_, ?_, h1, h2⟩
    · simp only [newVar, newRow, Sem.run_bind, run_newObj, Result.andThen_ok, Sem.run_pure, Array.toArray_toList]
    · have := VR.ptr (n := h.next + 1) (σ := σ') h.next 0 ⟨by omega, by rw [h3]⟩
      rw [h3] at this
      exact this
  · cases ha

/-! ### slices and addresses -/
theorem fieldAt_run {s : TypeId} {f : Nat} {fs : Array Field} {fd : Field} {i : TypeInfo} {m o : Nat} {a' : Value} (hI : Inv N0 w0 σ h w) (hs : P.underlying s = some (.struct fs)) (hf : fs[f]? = some fd)
    (hi : P.info? fd.type = some i) (hz : i.size ≠ 0) (ha : VR h.next σ (.pointer (some ⟨m, o, none⟩)) a') :
    Sim N0 w0 P σ h w (Instr.fieldAt s a' f) (.pointer (some ⟨m, o + fd.offset, none⟩)) h := by
  cases ha with
  | ptr _ _ hm =>
  refine Sim.same hI (v' := .pointer (some ⟨(σ m).blk, (σ m).base + (o + fd.offset), none⟩)) ?_ (.ptr m _ hm)
  simp only [Instr.fieldAt, Sem.run_bind, run_underlying hs, Result.andThen_ok, hf, Instr.sureAddr, Sem.run_pure, fieldPlace, run_sizeOf' hi, hz, if_false, add_mk, Nat.add_assoc, Sem.run_ite]

def aIndexArr (len es : Nat) (x : Value) (i : Int) : Option Value :=
  match x with
  | .pointer (some ⟨m, o, none⟩) => if 0 ≤ i ∧ i < len then some (.pointer (some ⟨m, o + i.toNat * es, none⟩)) else none
  | _ => none
def aIndexSl (es : Nat) (x : Value) (i : Int) : Option Value :=
  match x with
  | .slice (some ⟨m, o, none⟩) len _ => if 0 ≤ i ∧ i < len then some (.pointer (some ⟨m, o + i.toNat * es, none⟩)) else none
  | _ => none
/-- arr: the array's length. -/
def aIndexAddr (arr : Option Nat) (es : Nat) (x ix : Value) : Option Value :=
  match ix with
  | .int _ i => match arr with
    | some len => aIndexArr len es x i
    | none => aIndexSl es x i
  | _ => none
def cIndexAddr (P : Program) (t : TypeId) : Option (Option Nat × Nat) :=
  match P.underlying t with
  | some (.array len e) => (P.info? e).map fun i => (some len, i.size)
  | some (.slice e) => (P.info? e).map fun i => (none, i.size)
  | _ => none

theorem VR.slice_addr {n : Nat} {σ : Sig} {m o len cap : Nat} {r : Value} (hv : VR n σ (.slice (some ⟨m, o, none⟩) len cap) r) (hl : 0 < len) :
    ∃ cap', r = .slice (some ⟨(σ m).blk, (σ m).base + o, none⟩) len cap' ∧ Okm n σ m := by
  cases hv with
  | sl _ _ _ _ hm hr => exact ⟨_, rfl, hm⟩
  | slg _ _ _ _ cap' es ext hm hr _ _ _ => exact ⟨_, rfl, hm⟩
  | sle => omega

theorem indexAddr_run {t : TypeId} {arr : Option Nat} {es : Nat} {x x' ix ix' v : Value} (hI : Inv N0 w0 σ h w) (hc : cIndexAddr P t = some (arr, es)) (hx : VR h.next σ x x') (hix : VR h.next σ ix ix')
    (ha : aIndexAddr arr es x ix = some v) : Sim N0 w0 P σ h w (Instr.indexAt t x' ix') v h := by
  unfold aIndexAddr at ha
  split at ha
  · rename_i k i
    cases hix with
    | int =>
    unfold cIndexAddr at hc
    split at hc
    · rename_i len e hu
      cases hi : P.info? e with
      | none => rw [hi] at hc; cases hc
      | some inf =>
        rw [hi] at hc; simp only [Option.map_some, Option.some.injEq, Prod.mk.injEq] at hc
        obtain ⟨rfl, rfl⟩ := hc
        simp only [aIndexArr] at ha
        split at ha
        · rename_i m o
          cases hx with
          | ptr _ _ hm =>
          split at ha
          · rename_i hb
            injection ha with ha; subst ha
            refine Sim.same hI (v' := .pointer (some ⟨(σ m).blk, (σ m).base + (o + i.toNat * inf.size), none⟩)) ?_ (.ptr m _ hm)
            simp only [Instr.indexAt, asIntOf, Sem.run_bind, Sem.run_pure, Result.andThen_ok, run_underlying hu, Instr.sureAddr, hb, and_self, if_true, run_sizeOf' hi, add_mk, Nat.add_assoc, Sem.run_ite]
          · cases ha
        · cases ha
    · rename_i e hu
      cases hi : P.info? e with
      | none => rw [hi] at hc; cases hc
      | some inf =>
        rw [hi] at hc; simp only [Option.map_some, Option.some.injEq, Prod.mk.injEq] at hc
        obtain ⟨rfl, rfl⟩ := hc
        simp only [aIndexSl] at ha
        split at ha
        · rename_i m o len cap
          split at ha
          · rename_i hb
            injection ha with ha; subst ha
            obtain ⟨cap', rfl, hm⟩ := hx.slice_addr (by omega)
            refine Sim.same hI (v' := .pointer (some ⟨(σ m).blk, (σ m).base + (o + i.toNat * inf.size), none⟩)) ?_ (.ptr m _ hm)
            simp only [Instr.indexAt, asIntOf, Sem.run_bind, Sem.run_pure, Result.andThen_ok, run_underlying hu, Instr.sureAddr, hb, and_self, if_true, run_sizeOf' hi, add_mk, Nat.add_assoc, Sem.run_ite]
          · cases ha
        · cases ha
    · cases hc
  · cases ha
end
end
end Go.AM
