import Derived.Test.YtoehafeeoggpkaaAM11
set_option linter.unusedVariables false
set_option linter.unusedSimpArgs false
/-! Part 12: maps are written; comparisons; one operand. -/
namespace Go.AM
noncomputable section
open Go.RowKit

section
variable {N0 : Nat} {w0 : World} {P : Program} {σ : Sig} {h : AHeap} {w : World}

theorem findNow_at {d : TypeDesc} {k : Value} : ∀ (es : List MapEntry) (i j : Nat) (v : Value), Instr.findNow d k es i = some (some (j, v)) → i ≤ j ∧ ∃ e, es[j - i]? = some e ∧ Instr.sameNow d k e.key = some true
  | [], i, j, v, hf => by simp [Instr.findNow] at hf
  | e :: es, i, j, v, hf => by
    simp only [Instr.findNow] at hf
    cases hs : Instr.sameNow d k e.key with
    | none => rw [hs] at hf; cases hf
    | some b =>
      rw [hs] at hf
      cases b with
      | true =>
        simp only at hf
        injection hf with hf; injection hf with hf; simp only [Prod.mk.injEq] at hf
        obtain ⟨rfl, _⟩ := hf
        exact ⟨Nat.le_refl _, e, by simp, hs⟩
      | false =>
        simp only at hf
        obtain ⟨h1, e', h2, h3⟩ := findNow_at es (i + 1) j v hf
        refine ⟨by omega, e', ?_, h3⟩
        rw [show j - i = (j - (i + 1)) + 1 by omega, List.getElem?_cons_succ]
        exact h2
theorem sameNow_eq {d : TypeDesc} {k k' : Value} (hk : keyOk d k = true) (hs : Instr.sameNow d k k' = some true) : k' = k := by
  cases d <;> simp [keyOk] at hk <;> cases k <;> simp [keyOk] at hk <;> cases k' <;> simp_all [Instr.sameNow]
  · rename_i a b
    obtain ⟨⟨a⟩⟩ := a
    obtain ⟨⟨b⟩⟩ := b
    have hs' : ((⟨a⟩ : Array UInt8) == ⟨b⟩) = true := hs
    simp at hs'
    rw [hs']

theorem keyStays_run {k : Value} {d : TypeDesc} (hk : keyOk d k = true) : (Instr.keyThatStays k k).run P w = .ok k w := by
  have : Instr.sameBits 10000 k k = true := by
    cases d <;> simp [keyOk] at hk <;> cases k <;> simp [keyOk] at hk <;> simp [Instr.sameBits]
    · rename_i a
      obtain ⟨⟨a⟩⟩ := a
      show ((⟨a⟩ : Array UInt8) == ⟨a⟩) = true
      simp
  simp [Instr.keyThatStays, this]

def aMapPut (mk : MapK) (x k v : Value) (h : AHeap) : Option AHeap :=
  if keyOk mk.key k = true then
    match x with
    | .map (some m) =>
      match h.get m with
      | .map es cl => match Instr.findNow mk.key k es 0 with
        | some (some (i, _)) => some (h.set m (.map (es.modify i fun e => { e with key := k, val := v }) cl))
        | some none => some (h.set m (.map (es ++ [{ key := k, val := v, born := cl }]) (cl + 1)))
        | none => none
      | _ => none
    | _ => none
  else none

theorem run_setMap {r : Nat} {es es2 : Array MapEntry} {cl cl2 : Nat} (hb : w.heap[r]? = some (.map es cl)) : (setObj r (.map es2 cl2)).run P w = .ok () { w with heap := w.heap.setIfInBounds r (.map es2 cl2) } := by
  simp only [setObj, Sem.run, hb]

theorem ER.modify {n : Nat} {es es' : List MapEntry} (he : ER n σ es es') (i : Nat) {k v k' v' : Value} (hk : VR n σ k k') (hv : VR n σ v v') :
    ER n σ (es.modify i fun e => { e with key := k, val := v }) (es'.modify i fun e => { e with key := k', val := v' }) := by
  refine ⟨by simpa using he.1, fun j a b ha hb => ?_⟩
  rw [List.getElem?_modify] at ha hb
  cases ea : es[j]? with
  | none => rw [ea] at ha; simp at ha
  | some a0 =>
    cases eb : es'[j]? with
    | none => rw [eb] at hb; simp at hb
    | some b0 =>
      rw [ea] at ha; rw [eb] at hb
      simp only [Option.map_some, Option.some.injEq, Option.map_eq_map] at ha hb
      obtain ⟨h1, h2, h3⟩ := he.2 j a0 b0 ea eb
      by_cases hij : i = j
      · rw [if_pos hij] at ha hb; subst ha; subst hb; exact ⟨hk, hv, h3⟩
      · rw [if_neg hij] at ha hb; subst ha; subst hb; exact ⟨h1, h2, h3⟩
theorem ER.push {n : Nat} {es es' : List MapEntry} (he : ER n σ es es') {k v k' v' : Value} (b : Nat) (hk : VR n σ k k') (hv : VR n σ v v') :
    ER n σ (es ++ [{ key := k, val := v, born := b }]) (es' ++ [{ key := k', val := v', born := b }]) := by
  refine ⟨by simp [he.1], fun j x y hx hy => ?_⟩
  rw [List.getElem?_append] at hx hy
  split at hx
  · rename_i hj
    rw [if_pos (by rw [← he.1]; exact hj)] at hy
    exact he.2 j x y hx hy
  · rename_i hj
    rw [if_neg (by rw [← he.1]; exact hj)] at hy
    rw [← he.1] at hy
    cases hq : j - es.length with
    | zero =>
      rw [hq] at hx hy
      simp at hx hy
      subst hx; subst hy
      exact ⟨hk, hv, rfl⟩
    | succ q => rw [hq] at hx; simp at hx

theorem mapPut_run {t : TypeId} {mk : MapK} {x x' k k' v v' : Value} {h' : AHeap} (hI : Inv N0 w0 σ h w) (hc : cMap P t = some mk) (hx : VR h.next σ x x') (hk : VR h.next σ k k') (hv : VR h.next σ v v')
    (ha : aMapPut mk x k v h = some h') : SimU N0 w0 P σ h w (Instr.mapUpdate t x' k' v') h' := by
  obtain ⟨kt, e, i, hu, hku, hp, hi, hz, hcl⟩ := cMap_spec hc
  unfold aMapPut at ha
  split at ha
  · rename_i hko
    have hkk := hk.key hko
    subst hkk
    split at ha
    · rename_i m
      split at ha
      · rename_i es cl hm
        cases hx with
        | map _ hmn =>
        obtain ⟨es', e1, e2⟩ := hI.mapAt hm
        have hck : ∀ (w : World) b, (Instr.checkKey b 10000 kt k').run P w = .ok () w := fun w b => checkKey_run hku hp
        have hown : (h.get m).own = true := by rw [hm]; rfl
        have hblt := (Array.getElem?_eq_some_iff.1 e1).1
        have wr : ∀ (es2 : List MapEntry) (es2' : Array MapEntry) (cl2 : Nat), ER h.next σ es2 es2'.toList →
            Inv N0 w0 σ (h.set m (.map es2 cl2)) { w with heap := w.heap.setIfInBounds (σ m).blk (.map es2' cl2) } ∧ Go' σ h w σ (h.set m (.map es2 cl2)) { w with heap := w.heap.setIfInBounds (σ m).blk (.map es2' cl2) } := by
          intro es2 es2' cl2 hr
          refine hI.write m _ hown ⟨es2', by simp [hblt], hr⟩ rfl rfl rfl rfl (by simp) (fun b hb => ?_)
          show (w.heap.setIfInBounds _ _)[b]? = _
          rw [Array.getElem?_setIfInBounds, if_neg (fun e => hb e.symm)]
        split at ha
        · rename_i j v0 hf
          injection ha with ha; subst ha
          obtain ⟨r', f1, f2⟩ := findNow_rel (σ := σ) es es'.toList 0 _ e2 hf
          cases r' with
          | none => exact f2.elim
          | some jv =>
            obtain ⟨j', v0'⟩ := jv
            obtain ⟨rfl, _⟩ := f2
            obtain ⟨_, en, hen, hsn⟩ := findNow_at es'.toList 0 j v0' f1
            have hkey := sameNow_eq hko hsn
            have hfk : ∀ w : World, (Instr.findKey kt k' es'.toList).run P w = .ok (some (j, v0')) w := fun w => by simp [Instr.findKey, run_underlying hku, f1]
            obtain ⟨g1, g2⟩ := wr (es.modify j fun e => { e with key := k', val := v }) (es'.modify j fun e => { e with key := k', val := v' }) cl (by rw [Array.toList_modify]; exact e2.modify j hk hv)
            refine ⟨σ, _, ?_, g1, g2⟩
            have hg : ((es'[j]?).map (·.key)).getD k' = k' := by
              have : es'[j]? = some en := by simpa using hen
              rw [this]; exact hkey
            simp only [Instr.mapUpdate, Sem.run_bind, run_underlying hu, Result.andThen_ok, run_getMap e1, hck, hfk, hg, keyStays_run hko, run_setMap e1]
        · rename_i hf
          injection ha with ha; subst ha
          obtain ⟨r', f1, f2⟩ := findNow_rel (σ := σ) es es'.toList 0 _ e2 hf
          cases r' with
          | some jv => exact f2.elim
          | none =>
            have hfk : ∀ w : World, (Instr.findKey kt k' es'.toList).run P w = .ok none w := fun w => by simp [Instr.findKey, run_underlying hku, f1]
            obtain ⟨g1, g2⟩ := wr (es ++ [{ key := k', val := v, born := cl }]) (es'.push { key := k', val := v', born := cl }) (cl + 1) (by rw [Array.toList_push]; exact e2.push cl hk hv)
            refine ⟨σ, _, ?_, g1, g2⟩
            simp only [Instr.mapUpdate, Sem.run_bind, run_underlying hu, Result.andThen_ok, run_getMap e1, hck, hfk, run_setMap e1]
        · cases ha
      · cases ha
    · cases ha
  · cases ha

/-! ### comparisons of other values -/
inductive LeafK where
  | int | bool | str
  deriving Inhabited, DecidableEq
/-- Where the plain cells of an aggregate stand, of those that count in a comparison. -/
def cLeaves (P : Program) : Nat → TypeId → Option (List (Nat × LeafK))
  | 0, _ => none
  | d + 1, t =>
    match P.underlying t with
    | some (.int _) => some [(0, .int)]
    | some .bool => some [(0, .bool)]
    | some .string => some [(0, .str)]
    | some (.struct fs) =>
      if P.stoodInHeld t = true then none else
      fs.toList.foldr (fun f acc =>
        match acc, P.info? f.type, cLeaves P d f.type with
        | some l, some i, some lf => if f.name ≠ "_" then (if lf.all (fun p => decide (p.1 < i.size)) = true then some (lf.map (fun p => (f.offset + p.1, p.2)) ++ l) else none) else none
        | _, _, _ => none) (some [])
    | some (.array n e) =>
      match P.info? e, cLeaves P d e with
      | some i, some lf => if i.size = P.cellsOf e ∧ lf.all (fun p => decide (p.1 < i.size)) = true then some ((List.range n).flatMap fun j => lf.map (fun p => (j * i.size + p.1, p.2))) else none
      | _, _ => none
    | _ => none

def cellEq (k : LeafK) (a b : Value) : Option Bool :=
  match k with
  | .int => match a, b with
    | .int j x, .int k y => if j = k then some (decide (x = y)) else none
    | _, _ => none
  | .bool => match a, b with
    | .bool x, .bool y => some (x == y)
    | _, _ => none
  | .str => match a, b with
    | .string x, .string y => some (decide (x.data.toList = y.data.toList))
    | _, _ => none
def cellAt (x : Value) (i : Nat) : Value :=
  match x with
  | .agg cs => cs.getD i undef
  | v => if i = 0 then v else undef
/-- Are all these cells alike? -/
def aEqL (x y : Value) : List (Nat × LeafK) → Option Bool
  | [] => some true
  | (i, k) :: r => match cellEq k (cellAt x i) (cellAt y i), aEqL x y r with
    | some a, some b => some (a && b)
    | _, _ => none
def isAggV : Value → Bool
  | .agg _ => true
  | _ => false

end
end
end Go.AM
