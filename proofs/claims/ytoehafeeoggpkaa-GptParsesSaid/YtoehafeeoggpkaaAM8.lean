import Derived.Test.YtoehafeeoggpkaaAM7
set_option linter.unusedVariables false
set_option linter.unusedSimpArgs false
/-! Part 8: aggregates, literals, appending, copying. -/
namespace Go.AM
noncomputable section
open Go.RowKit

theorem VRL.set {n : Nat} {σ : Sig} {a a' : Array Value} (h : VRL n σ a.toList a'.toList) {v v' : Value} (hv : VR n σ v v') (i : Nat) : VRL n σ (a.setIfInBounds i v).toList (a'.setIfInBounds i v').toList := by
  refine ⟨by simpa using h.1, fun j x x' e e' => ?_⟩
  simp only [Array.toList_setIfInBounds, List.getElem?_set] at e e'
  have hl := h.1
  by_cases hij : i = j
  · rw [if_pos hij] at e e'
    split at e
    · rw [if_pos (by omega)] at e'
      injection e with e; injection e' with e'; subst e; subst e'; exact hv
    · cases e
  · rw [if_neg hij] at e e'
    exact h.2 j x x' e e'

theorem fold_rel {n : Nat} {σ : Sig} (off : Nat) : ∀ (l l' : List Value) (k : Nat) (a a' : Array Value), VRL n σ l l' → VRL n σ a.toList a'.toList →
    VRL n σ ((l.zipIdx k).foldl (fun cs (p : Value × Nat) => cs.setIfInBounds (off + p.2) p.1) a).toList ((l'.zipIdx k).foldl (fun cs (p : Value × Nat) => cs.setIfInBounds (off + p.2) p.1) a').toList
  | [], l', k, a, a', hl, ha => by rw [hl.nil_inv]; exact ha
  | x :: l, r, k, a, a', hl, ha => by
    obtain ⟨x', l', rfl, h1, h2⟩ := hl.cons_inv
    simp only [List.zipIdx_cons, List.foldl_cons]
    exact fold_rel off l l' (k + 1) _ _ h2 (ha.set h1 _)

/-- Parts, related: the same places, related values. -/
def PR (n : Nat) (σ : Sig) (l l' : List (Nat × Value)) : Prop := l.map (·.1) = l'.map (·.1) ∧ VRL n σ (l.map (·.2)) (l'.map (·.2))
theorem PR.cons_inv {n : Nat} {σ : Sig} {x : Nat × Value} {l r : List (Nat × Value)} (h : PR n σ (x :: l) r) : ∃ v' l', r = (x.1, v') :: l' ∧ VR n σ x.2 v' ∧ PR n σ l l' := by
  obtain ⟨h1, h2⟩ := h
  cases r with
  | nil => simp at h1
  | cons y r =>
    simp only [List.map_cons, List.cons.injEq] at h1 h2
    obtain ⟨v', l', e, h3, h4⟩ := h2.cons_inv
    simp only [List.cons.injEq] at e
    obtain ⟨y1, y2⟩ := y
    simp only at h1 e
    refine ⟨v', r, by rw [h1.1, e.1], h3, h1.2, by rw [e.2]; exact h4⟩

theorem fill_rel {n : Nat} {σ : Sig} {place : Nat → Option (Nat × Nat)} : ∀ (l l' : List (Nat × Value)) (a a' r : Array Value), PR n σ l l' → VRL n σ a.toList a'.toList → Instr.fill place a l = some r →
    ∃ r', Instr.fill place a' l' = some r' ∧ VRL n σ r.toList r'.toList
  | [], l', a, a', r, hl, ha, hf => by
    have : l' = [] := by have := hl.1; simpa using this.symm
    subst this
    simp only [Instr.fill, Option.some.injEq] at hf
    subst hf
    exact ⟨a', rfl, ha⟩
  | (i, v) :: l, r0, a, a', r, hl, ha, hf => by
    obtain ⟨v', l', rfl, h1, h2⟩ := hl.cons_inv
    simp only [Instr.fill] at hf ⊢
    cases hp : place i with
    | none => rw [hp] at hf; cases hf
    | some os =>
      obtain ⟨off, size⟩ := os
      rw [hp] at hf
      simp only at hf ⊢
      have hc := h1.cells
      have hs : v'.cells.size = v.cells.size := by have := hc.1; simpa using this.symm
      have hs2 : a'.size = a.size := by have := ha.1; simpa using this.symm
      simp only at h1 hc hs
      rw [hs, hs2]
      split at hf
      · cases hf
      · rename_i hcond
        rw [if_neg hcond]
        refine fill_rel l l' _ _ r h2 ?_ hf
        rw [← Array.foldl_toList, ← Array.foldl_toList, Array.toList_zipIdx, Array.toList_zipIdx]
        exact fold_rel off _ _ 0 _ _ hc ha

inductive BuildK where
  | str (zs : List Value) (places : List (Nat × Nat))
  | arr (zs : List Value) (size : Nat)
  deriving Inhabited
def BuildK.zs : BuildK → List Value
  | .str zs _ | .arr zs _ => zs
def BuildK.place : BuildK → Nat → Option (Nat × Nat)
  | .str _ ps, i => ps[i]?
  | .arr _ size, i => some (i * size, size)
def cBuild (P : Program) (t : TypeId) : Option BuildK :=
  match P.info? t, P.underlying t with
  | some it, some (.array _ e) =>
    match it.zero, P.info? e with
    | some z, some ie => if z.cells.toList.all (closedV depthC) = true then some (.arr z.cells.toList ie.size) else none
    | _, _ => none
  | some it, some (.struct fields) =>
    match it.zero, fields.toList.mapM (fun f => (P.info? f.type).map fun i => (f.offset, i.size)) with
    | some z, some places => if z.cells.toList.all (closedV depthC) = true then some (.str z.cells.toList places) else none
    | _, _ => none
  | _, _ => none
def aBuild (k : BuildK) (parts : List (Nat × Value)) : Option Value := (Instr.fill k.place k.zs.toArray parts).map .agg

section
variable {N0 : Nat} {w0 : World} {P : Program} {σ : Sig} {h : AHeap} {w : World}

theorem cBuild_spec {t : TypeId} {k : BuildK} (hc : cBuild P t = some k) : k.zs.all (closedV depthC) = true ∧ ∀ parts, P.built t parts = Instr.fill k.place k.zs.toArray parts := by
  unfold cBuild at hc
  split at hc
  · rename_i it n e hit hu
    split at hc
    · rename_i z ie hz hie
      split at hc
      · rename_i hcl
        injection hc with hc; subst hc
        exact ⟨hcl, fun parts => by simp only [Program.built, hit, hu, hz, hie, BuildK.zs, Array.toArray_toList]; rfl⟩
      · cases hc
    · cases hc
  · rename_i it fields hit hu
    split at hc
    · rename_i z places hz hp
      split at hc
      · rename_i hcl
        injection hc with hc; subst hc
        refine ⟨hcl, fun parts => ?_⟩
        simp only [Program.built, hit, hu, hz, hp, BuildK.zs, Array.toArray_toList]
        have : (fun x => places.toArray[x]?) = (BuildK.str z.cells.toList places).place := by
          funext x; simp [BuildK.place]
        rw [this]
      · cases hc
    · cases hc
  · cases hc

theorem build_run {t : TypeId} {k : BuildK} {parts : List (Nat × Value)} {parts' : Array (Nat × Value)} {v : Value} (hI : Inv N0 w0 σ h w) (hc : cBuild P t = some k) (hp : PR h.next σ parts parts'.toList)
    (ha : aBuild k parts = some v) : Sim N0 w0 P σ h w (Instr.build t parts') v h := by
  obtain ⟨hcl, hb⟩ := cBuild_spec hc
  unfold aBuild at ha
  rw [Option.map_eq_some_iff] at ha
  obtain ⟨r, hr, rfl⟩ := ha
  obtain ⟨r', h1, h2⟩ := fill_rel parts parts'.toList _ k.zs.toArray r hp (by simpa using VRL.closed depthC _ hcl) hr
  refine Sim.same hI (v' := .agg r') ?_ (by have := VR.agg_list h2; simpa using this)
  exact run_build w t parts' r' (by rw [hb]; exact h1)

def aBuildSlice (pk : Bool) (k : ElK) (len : Nat) (parts : List (Nat × Value)) (h : AHeap) : Option (Value × AHeap) :=
  if len * k.es ≤ 16777216 ∧ 0 < len * k.es ∨ len = 0 then
    match Instr.fill (fun i => some (i * k.es, k.es)) (azeros k.es k.zs len).toArray parts with
    | some r => if r.toList.all one = true then some (.slice (some ⟨h.next, 0, none⟩) len len, h.new (.row false 0 (mkRow pk r.toList))) else none
    | none => none
  else none

theorem buildSlice_run {t e : TypeId} {pk : Bool} {k : ElK} {len : Nat} {parts : List (Nat × Value)} {parts' : Array (Nat × Value)} {v : Value} {h' : AHeap} (hI : Inv N0 w0 σ h w) (ht : P.underlying t = some (.slice e)) (hk : cElem P e = some k)
    (hp : PR h.next σ parts parts'.toList) (ha : aBuildSlice pk k len parts h = some (v, h')) : Sim N0 w0 P σ h w (Instr.buildSlice t len parts') v h' := by
  obtain ⟨i, z, hi, hz, hzs, hkk, hcl, hon⟩ := cElem_spec hk
  unfold aBuildSlice at ha
  split at ha
  · rename_i hb
    split at ha
    · rename_i r hr
      split at ha
      case isFalse => cases ha
      rename_i hone
      injection ha with ha; simp only [Prod.mk.injEq] at ha
      obtain ⟨rfl, rfl⟩ := ha
      have hke : k.es = i.size := by rw [hkk]
      have hkz : k.zs = z.cells.toList := by rw [hkk]
      obtain ⟨r', h1, h2⟩ := fill_rel parts parts'.toList _ (azeros k.es k.zs len).toArray r hp (by simpa using VRL.closed depthC _ (azeros_closed hcl)) hr
      obtain ⟨σ', g1, g2, g3⟩ := hI.newRow (mkRow pk r.toList) r'.toList e (by rw [toList_mkRow]; exact h2) (h2.ones hone)
      refine ⟨σ', .slice (some ⟨w.heap.size, 0, none⟩) len len, _, ?_, ?_, g1, g2⟩
      · have hmach : madeCells z.cells (len * i.size) = (azeros k.es k.zs len).toArray := by
          rw [← hke, hkz]; exact azeros_machine z.cells k.es len (by rw [hke]; exact hzs)
        have hle : ¬ (len * i.size > 2 ^ 24) := by
          rw [hke] at hb
          rcases hb with ⟨hb, _⟩ | hb
          · show ¬ (len * i.size > 16777216); omega
          · subst hb; simp
        simp only [Instr.buildSlice, Sem.run_bind, run_underlying ht, Result.andThen_ok, run_sizeOf' hi]
        rw [if_neg hle]
        by_cases hn : len * i.size = 0
        · have hfill : Instr.fill (fun j => some (j * i.size, i.size)) ((Array.range (len * i.size)).map fun x => (#[] : Array Value)[x % (#[] : Array Value).size]!) parts'.toList = some r' := by
            have e1 : ((Array.range (len * i.size)).map fun x => (#[] : Array Value)[x % (#[] : Array Value).size]!) = madeCells z.cells (len * i.size) := by
              rw [hn]; simp [madeCells]
            rw [e1, hmach, ← hke]; exact h1
          simp only [hn, if_true, Sem.run_bind, Sem.run_pure, Result.andThen_ok]
          rw [hn] at hfill
          simp only [hfill, newRow, Sem.run_bind, run_newObj, Result.andThen_ok, Sem.run_pure, Array.toArray_toList]
        · have hfill : Instr.fill (fun j => some (j * i.size, i.size)) ((Array.range (len * i.size)).map fun x => z.cells[x % z.cells.size]!) parts'.toList = some r' := by
            have e1 : ((Array.range (len * i.size)).map fun x => z.cells[x % z.cells.size]!) = madeCells z.cells (len * i.size) := rfl
            rw [e1, hmach, ← hke]; exact h1
          simp only [hn, if_false, Sem.run_bind, Sem.run_pure, Result.andThen_ok, run_zeroValue' hi hz, hfill, newRow, run_newObj, Array.toArray_toList]
      · have := VR.sl (n := h.next + 1) (σ := σ') h.next 0 len len ⟨by omega, by rw [g3]⟩ (by rw [g3])
        rw [g3] at this
        exact this
    · cases ha
  · cases ha
end
end
end Go.AM
