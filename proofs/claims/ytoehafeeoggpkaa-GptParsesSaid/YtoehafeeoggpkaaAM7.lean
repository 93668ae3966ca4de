import Derived.Test.YtoehafeeoggpkaaAM6
import Derived.Laws.MakeOwn
import Derived.Laws.Tables
import Derived.Deep.AppendSrc
set_option linter.unusedVariables false
set_option linter.unusedSimpArgs false
/-! Part 7: constants, zeros, making and building. -/
namespace Go.AM
noncomputable section
open Go.RowKit

/-- A value without addresses. -/
def closedV : Nat → Value → Bool
  | _, .bool _ | _, .int _ _ | _, .string _ | _, .pointer none | _, .slice none 0 0 | _, .map none | _, .nilFunc | _, .nilIface => true
  | d + 1, .iface _ v => closedV d v
  | d + 1, .agg a => a.toList.all (closedV d)
  | d + 1, .tuple a => a.toList.all (closedV d)
  | d + 1, .func (.func _) a b => a.toList.all (closedV d) && b.toList.all (closedV d)
  | _, _ => false

theorem VR.closed {n : Nat} {σ : Sig} : ∀ (d : Nat) (v : Value), closedV d v = true → VR n σ v v
  | d, v, h => by
    have key : ∀ (d' : Nat) (a : Array Value), d' < d → a.toList.all (closedV d') = true → ∀ (i : Nat) (x x' : Value), a[i]? = some x → a[i]? = some x' → VR n σ x x' := by
      intro d' a hd ha i x x' e e'
      rw [e] at e'; injection e' with e'; subst e'
      have hm : x ∈ a.toList := by
        have := Array.mem_of_getElem? e
        simpa using this
      exact VR.closed d' x (List.all_eq_true.1 ha x hm)
    unfold closedV at h
    split at h
    · exact .bool _
    · exact .int _ _
    · exact .str _
    · exact .nilp
    · exact .nils
    · exact .nilm
    · exact .nilF
    · exact .nilI
    · exact .iface _ _ _ (VR.closed _ _ h)
    · exact .agg _ _ rfl (key _ _ (by omega) h)
    · exact .tup _ _ rfl (key _ _ (by omega) h)
    · rw [Bool.and_eq_true] at h
      exact .func _ rfl _ _ _ _ rfl rfl (key _ _ (by omega) h.1) (key _ _ (by omega) h.2)
    · cases h
termination_by d => d

theorem VRL.closed {n : Nat} {σ : Sig} (d : Nat) (l : List Value) (h : l.all (closedV d) = true) : VRL n σ l l :=
  ⟨rfl, fun i v v' e e' => by
    rw [e] at e'; injection e' with e'; subst e'
    exact VR.closed d v (List.all_eq_true.1 h v (List.mem_of_getElem? e))⟩

/-! ### zeros -/
def azeros (es : Nat) (zs : List Value) (n : Nat) : List Value :=
  match zs with
  | [z] => List.replicate (n * es) z
  | _ => (List.range (n * es)).map fun i => zs.getD (i % zs.length) undef
def mkZero (pk : Bool) (es : Nat) (zs : List Value) (n : Nat) : Cells :=
  match pk, zs with
  | true, [.int .u8 (.ofNat 0)] => .bytes 0 (n * es)
  | _, _ => .vals (azeros es zs n)
theorem get_azeros (es : Nat) (zs : List Value) (n i : Nat) : (azeros es zs n)[i]? = if i < n * es then some (zs.getD (i % zs.length) undef) else none := by
  unfold azeros
  split
  · rename_i z
    rw [List.getElem?_replicate]
    split <;> simp [Nat.mod_one]
  · rw [List.getElem?_map]
    split
    · rename_i hi; rw [List.getElem?_range hi]; rfl
    · rename_i hi; rw [List.getElem?_eq_none (by simp; omega)]; rfl
theorem toList_mkZero (pk : Bool) (es : Nat) (zs : List Value) (n : Nat) : (mkZero pk es zs n).toList = azeros es zs n := by
  unfold mkZero
  split
  · apply List.ext_getElem?
    intro i
    rw [Cells.get_toList, get_azeros]
    simp only [Cells.get]
    split
    · simp [byteV, Nat.mod_one]
    · rfl
  · rfl
theorem size_mkZero (pk : Bool) (es : Nat) (zs : List Value) (n : Nat) : (mkZero pk es zs n).size = n * es := by
  rw [← Cells.length_toList, toList_mkZero]
  unfold azeros
  split <;> simp
theorem azeros_machine (zs : Array Value) (es n : Nat) (hz : zs.size = es) : madeCells zs (n * es) = (azeros es zs.toList n).toArray := by
  unfold madeCells
  apply Array.ext_getElem?
  intro i
  have e2 : (azeros es zs.toList n).toArray[i]? = (azeros es zs.toList n)[i]? := by simp
  rw [e2, get_azeros, Array.getElem?_map]
  by_cases hi : i < n * es
  · have hes : 0 < zs.size := by
      rcases Nat.eq_zero_or_pos es with e | e
      · subst e; simp at hi
      · omega
    have hm := Nat.mod_lt i hes
    rw [if_pos hi]
    have h1 : (Array.range (n * es))[i]? = some i := by simp [hi]
    rw [h1]
    simp [hm]
  · rw [if_neg hi]
    have h1 : (Array.range (n * es))[i]? = none := by simp; omega
    rw [h1]; rfl
theorem azeros_closed {d es : Nat} {zs : List Value} {n : Nat} (h : zs.all (closedV (d + 1)) = true) : (azeros es zs n).all (closedV (d + 1)) = true := by
  rw [List.all_eq_true]
  intro x hx
  obtain ⟨i, hi⟩ := List.mem_iff_getElem?.1 hx
  rw [get_azeros] at hi
  split at hi
  · injection hi with hi
    subst hi
    rcases Nat.eq_zero_or_pos zs.length with e | e
    · have : zs = [] := List.length_eq_zero_iff.1 e
      subst this
      rfl
    · have hm := Nat.mod_lt i e
      simp only [List.getD_eq_getElem?_getD, List.getElem?_eq_getElem hm, Option.getD_some]
      exact List.all_eq_true.1 h _ (List.getElem_mem hm)
  · cases hi

theorem azeros_one {es : Nat} {zs : List Value} {n : Nat} (hz : zs.length = es) (h : zs.all one = true) : (azeros es zs n).all one = true := by
  rw [List.all_eq_true]
  intro x hx
  obtain ⟨i, hi⟩ := List.mem_iff_getElem?.1 hx
  rw [get_azeros] at hi
  split at hi
  · injection hi with hi
    subst hi
    rcases Nat.eq_zero_or_pos zs.length with e | e
    · exfalso
      rename_i h0
      rw [← hz, e] at h0
      simp at h0
    · have hm := Nat.mod_lt i e
      simp only [List.getD_eq_getElem?_getD, List.getElem?_eq_getElem hm, Option.getD_some]
      exact List.all_eq_true.1 h _ (List.getElem_mem hm)
  · cases hi

/-- An element: its cells, its bytes, its zero. -/
structure ElK where
  es : Nat
  bytes : Nat
  zs : List Value
  deriving Inhabited
/-- The depth to which constants are looked through. -/
def depthC : Nat := 64
def cElem (P : Program) (e : TypeId) : Option ElK :=
  match P.info? e with
  | some i => match i.zero with
    | some z => if z.cells.size = i.size ∧ z.cells.toList.all (closedV depthC) = true ∧ z.cells.toList.all one = true then some ⟨i.size, i.bytes, z.cells.toList⟩ else none
    | none => none
  | none => none
theorem cElem_spec {P : Program} {e : TypeId} {k : ElK} (h : cElem P e = some k) : ∃ i z, P.info? e = some i ∧ i.zero = some z ∧ z.cells.size = i.size ∧ k = ⟨i.size, i.bytes, z.cells.toList⟩ ∧ k.zs.all (closedV depthC) = true ∧ k.zs.all one = true := by
  unfold cElem at h
  split at h
  · rename_i i hi
    split at h
    · rename_i z hz
      split at h
      · rename_i hc
        injection h with h
        exact ⟨i, z, hi, hz, hc.1, h.symm, by rw [← h]; exact hc.2.1, by rw [← h]; exact hc.2.2⟩
      · cases h
    · cases h
  · cases h

section
variable {N0 : Nat} {w0 : World} {P : Program} {σ : Sig} {h : AHeap} {w : World}

def aMake (pk : Bool) (k : ElK) (len cap : Value) (h : AHeap) : Option (Value × AHeap) :=
  match len, cap with
  | .int _ l, .int _ c => if 0 ≤ l ∧ l ≤ c ∧ c ≤ 1099511627776 ∧ k.bytes * c.toNat ≤ 140737488355328 then
      some (.slice (some ⟨h.next, 0, none⟩) l.toNat c.toNat, h.new (.row false 0 (mkZero pk k.es k.zs c.toNat))) else none
  | _, _ => none

theorem make_run {t e : TypeId} {pk : Bool} {k : ElK} {len len' cap cap' v : Value} {h' : AHeap} (hI : Inv N0 w0 σ h w) (ht : P.underlying t = some (.slice e)) (hk : cElem P e = some k)
    (hl : VR h.next σ len len') (hc : VR h.next σ cap cap') (ha : aMake pk k len cap h = some (v, h')) : Sim N0 w0 P σ h w (Instr.makeSlice t len' cap') v h' := by
  obtain ⟨i, z, hi, hz, hzs, hkk, hcl, hon⟩ := cElem_spec hk
  unfold aMake at ha
  split at ha
  · rename_i k1 l k2 c
    cases hl with
    | int =>
    cases hc with
    | int =>
    split at ha
    · rename_i hb
      obtain ⟨h0, h1, h2, h3⟩ := hb
      injection ha with ha; simp only [Prod.mk.injEq] at ha
      obtain ⟨rfl, rfl⟩ := ha
      have hrel : VRL h.next σ (mkZero pk k.es k.zs c.toNat).toList (azeros k.es k.zs c.toNat) := by
        rw [toList_mkZero]; exact VRL.closed depthC _ (azeros_closed hcl)
      obtain ⟨σ', g1, g2, g3⟩ := hI.newRow (mkZero pk k.es k.zs c.toNat) (azeros k.es k.zs c.toNat) e hrel (by have := hrel.ones (by rw [toList_mkZero]; exact azeros_one (by rw [hkk]; simpa using hzs) hon); exact this)
      refine ⟨σ', .slice (some ⟨w.heap.size, 0, none⟩) l.toNat c.toNat, _, ?_, ?_, g1, g2⟩
      · have hbytes : (i.bytes : Int) * c ≤ 281474976710656 := by
          have e5 : (i.bytes : Int) * c = ((k.bytes * c.toNat : Nat) : Int) := by
            rw [hkk, Int.natCast_mul, Int.toNat_of_nonneg (show 0 ≤ c by omega)]
          rw [e5]
          generalize k.bytes * c.toNat = X at h3
          omega
        have hke : k.es = i.size := by rw [hkk]
        have hkz : k.zs = z.cells.toList := by rw [hkk]
        rw [run_make w t e i z ht hi hz k1 k2 l c h0 h1 hbytes (by omega), ← hke, azeros_machine z.cells k.es c.toNat (by rw [hke]; exact hzs), hkz]
        rfl
      · have := VR.sl (n := h.next + 1) (σ := σ') h.next 0 l.toNat c.toNat ⟨by omega, by rw [g3]⟩ (by rw [g3])
        rw [g3] at this
        exact this
    · cases ha
  · cases ha
end
end
end Go.AM
