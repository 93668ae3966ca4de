import Derived.Test.YtoehafeeoggpkaaAM25
set_option linter.unusedVariables false
set_option linter.unusedSimpArgs false
/-! Part 26: tables, and what a run of the executor says of a call. -/
namespace Go.AM
noncomputable section
open Go.RowKit

/-- A table out of a list. -/
def tabOf : List (FuncId × AEntry) → FuncId → Option AEntry
  | [], _ => none
  | (g, e) :: r, f => if f = g then some e else tabOf r f
def okTab (P : Program) : List (FuncId × AEntry) → Prop
  | [] => True
  | (g, e) :: r => (callOk P g = true ∧ match e with
    | .code af => compF P g = some af
    | .prim q => ∀ args h v h', q args h = some (v, h') → Runs P g args h v h') ∧ okTab P r
theorem tabOf_sound {P : Program} : ∀ {l : List (FuncId × AEntry)}, okTab P l → TabSound P (tabOf l)
  | [], _, f, e, h => by cases h
  | (g, e0) :: r, hl, f, e, h => by
    simp only [tabOf] at h
    split at h
    · rename_i hf
      injection h with h; subst h; subst hf
      exact hl.1
    · exact tabOf_sound hl.2 f e h

/-- The same, as a trie. -/
def trOf (l : List (FuncId × AEntry)) : Tr AEntry := l.foldr (fun p t => t.set p.1 p.2) .leaf
theorem trOf_get : ∀ (l : List (FuncId × AEntry)) (f : FuncId), (trOf l).get f = tabOf l f
  | [], f => rfl
  | (g, e) :: r, f => by
    show ((trOf r).set g e).get f = _
    rw [Tr.get_set, trOf_get r f]
    rfl
theorem tr_sound {P : Program} {l : List (FuncId × AEntry)} {t : Tr AEntry} (he : trOf l = t) (h : okTab P l) : TabSound P (fun f => t.get f) := by
  intro f e hf
  subst he
  simp only [trOf_get] at hf
  exact tabOf_sound h f e hf

theorem Inv.empty (w : World) : Inv w.heap.size w (fun _ => ⟨0, 0, none, false, none⟩) AHeap.empty w where
  below := Below.refl _ _
  fresh := fun m _ => AHeap.get_empty m
  obj := fun m => by rw [AHeap.get_empty]; trivial
  low := fun m hm => by rw [AHeap.get_empty] at hm; cases hm
  high := fun m hm _ => by rw [AHeap.get_empty] at hm; cases hm
  inj := fun m m' hm _ _ => by rw [AHeap.get_empty] at hm; cases hm
  base := Nat.le_refl _

/-- A call of the executor, over a sound table. -/
theorem call_runs {P : Program} {pk : Bool} {tab : FuncId → Option AEntry} (hm : P.follows .mixedOrders = true) (ht : TabSound P tab) {L D : Nat} {f : FuncId} {args : List Value} {h h' : AHeap} {r : Value}
    (hr : callF pk tab L D f args h = some (r, h')) : Runs P f args h r h' :=
  ((callF_sound ht (fun call hcs N => draw_sound hm hcs N) L D) f args h r h' hr).2

/-- A call of the executor without arguments that answers a bool. -/
theorem call_closed {P : Program} {f : FuncId} {h' : AHeap} {b : Bool} (hr : Runs P f [] AHeap.empty (.bool b) h') (w : World) :
    Calls P f #[] w fun e w' => e = .returned (.bool b) ∧ Below w.heap.size w w' := by
  refine (hr w.heap.size w _ w [] (Inv.empty w) .nil).mono ?_
  rintro e w' ⟨σ', cr, rfl, h1, h2, _⟩
  cases h1
  exact ⟨rfl, h2.below⟩

/-- What a run answers, as a bool; none: it doesn't. -/
def ansB : Option (Value × AHeap) → Option Bool
  | some (.bool b, _) => some b
  | _ => none
theorem ansB_spec {o : Option (Value × AHeap)} {b : Bool} (h : ansB o = some b) : ∃ h', o = some (.bool b, h') := by
  unfold ansB at h
  split at h
  · injection h with h; subst h; exact ⟨_, rfl⟩
  · cases h
theorem closed_tr {P : Program} {pk : Bool} {t : Tr AEntry} (hm : P.follows .mixedOrders = true) (ht : TabSound P (fun f => t.get f)) {L D : Nat} {f : FuncId} {b : Bool}
    (hr : ansB (callF pk (fun f => t.get f) L D f [] AHeap.empty) = some b) (w : World) : Calls P f #[] w fun e w' => e = .returned (.bool b) ∧ Below w.heap.size w w' := by
  obtain ⟨h', hr⟩ := ansB_spec hr
  exact call_closed (call_runs hm ht hr) w
theorem closed_bool {P : Program} {pk : Bool} {l : List (FuncId × AEntry)} (hm : P.follows .mixedOrders = true) (ht : okTab P l) {L D : Nat} {f : FuncId} {b : Bool}
    (hr : ansB (callF pk (tabOf l) L D f [] AHeap.empty) = some b) (w : World) : Calls P f #[] w fun e w' => e = .returned (.bool b) ∧ Below w.heap.size w w' := by
  obtain ⟨h', hr⟩ := ansB_spec hr
  exact call_closed (call_runs hm (tabOf_sound ht) hr) w
end
end Go.AM
