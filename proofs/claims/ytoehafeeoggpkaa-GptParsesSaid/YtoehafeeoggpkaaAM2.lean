import Derived.Test.YtoehafeeoggpkaaAM1
set_option linter.unusedVariables false
set_option linter.unusedSimpArgs false
/-! Part 2: how abstract values and heaps stand to the machine's. -/
namespace Go.AM
open Go.RowKit

/-- Where an abstract block lies: the machine's block, the cell where it begins; of one that may grow: an element's cells, and how many cells of the block are its own. -/
structure Pl where
  blk : Nat
  base : Nat
  room : Option (Nat × Nat)
  /-- is it there at all? (Of a number that is kept for a block that isn't made yet: no.) -/
  real : Bool := true
  /-- of a loop over a function: what of its record never changes -/
  lp : Option Loop := none

abbrev Sig := Nat → Pl

/-- A block that a value may name. -/
def Okm (n : Nat) (σ : Sig) (m : Nat) : Prop := m < n ∧ (σ m).real = true

/-- A function that is no round of a range. -/
def plainFn : Fn → Bool
  | .yield _ => false
  | _ => true
inductive VR (n : Nat) (σ : Sig) : Value → Value → Prop
  | bool (b : Bool) : VR n σ (.bool b) (.bool b)
  | int (k : IntKind) (i : Int) : VR n σ (.int k i) (.int k i)
  | str (s : ByteArray) : VR n σ (.string s) (.string s)
  | nilp : VR n σ (.pointer none) (.pointer none)
  | ptr (m o : Nat) (hm : Okm n σ m) : VR n σ (.pointer (some ⟨m, o, none⟩)) (.pointer (some ⟨(σ m).blk, (σ m).base + o, none⟩))
  | nils : VR n σ (.slice none 0 0) (.slice none 0 0)
  | sl (m o len cap : Nat) (hm : Okm n σ m) (hr : (σ m).room = none) :
      VR n σ (.slice (some ⟨m, o, none⟩) len cap) (.slice (some ⟨(σ m).blk, (σ m).base + o, none⟩) len cap)
  | slg (m o len cap cap' es ext : Nat) (hm : Okm n σ m) (hr : (σ m).room = some (es, ext)) (hl : len ≤ cap) (hc : cap ≤ cap') (he : o + cap' * es ≤ ext) :
      VR n σ (.slice (some ⟨m, o, none⟩) len cap) (.slice (some ⟨(σ m).blk, (σ m).base + o, none⟩) len cap')
  | sle {sp : Option Nat} (m o p es ext : Nat) (hm : Okm n σ m) (hr : (σ m).room = some (es, ext)) :
      VR n σ (.slice (some ⟨m, o, none⟩) 0 0) (.slice (some ⟨(σ m).blk, p, sp⟩) 0 0)
  | nilm : VR n σ (.map none) (.map none)
  | map (m : Nat) (hm : Okm n σ m) : VR n σ (.map (some m)) (.map (some (σ m).blk))
  | yld (m : Nat) (hm : Okm n σ m) : VR n σ (.func (.yield m) #[] #[]) (.func (.yield (σ m).blk) #[] #[])
  | func (f : Fn) (hf : plainFn f = true) (a a' b b' : Array Value) (ha : a.size = a'.size) (hb : b.size = b'.size)
      (hav : ∀ (i : Nat) (v v' : Value), a[i]? = some v → a'[i]? = some v' → VR n σ v v')
      (hbv : ∀ (i : Nat) (v v' : Value), b[i]? = some v → b'[i]? = some v' → VR n σ v v') : VR n σ (.func f a b) (.func f a' b')
  | nilF : VR n σ .nilFunc .nilFunc
  | nilI : VR n σ .nilIface .nilIface
  | iface (t : TypeId) (v v' : Value) (hv : VR n σ v v') : VR n σ (.iface t v) (.iface t v')
  | agg (a a' : Array Value) (ha : a.size = a'.size)
      (hav : ∀ (i : Nat) (v v' : Value), a[i]? = some v → a'[i]? = some v' → VR n σ v v') : VR n σ (.agg a) (.agg a')
  | tup (a a' : Array Value) (ha : a.size = a'.size)
      (hav : ∀ (i : Nat) (v v' : Value), a[i]? = some v → a'[i]? = some v' → VR n σ v v') : VR n σ (.tuple a) (.tuple a')

theorem VR.mono' {n n' : Nat} {σ σ' : Sig} (hn : n ≤ n') (hs : ∀ m, Okm n σ m → σ' m = σ m) {v v' : Value} (h : VR n σ v v') : VR n' σ' v v' := by
  have ok : ∀ m, Okm n σ m → Okm n' σ' m := fun m hm => ⟨Nat.lt_of_lt_of_le hm.1 hn, by rw [hs m hm]; exact hm.2⟩
  induction h with
  | bool b => exact .bool b
  | int k i => exact .int k i
  | str s => exact .str s
  | nilp => exact .nilp
  | ptr m o hm => have h2 := ok m hm; rw [← hs m hm]; exact .ptr m o h2
  | nils => exact .nils
  | sl m o len cap hm hr => have h2 := ok m hm; rw [← hs m hm] at *; exact .sl m o len cap h2 hr
  | slg m o len cap cap' es ext hm hr hl hc he => have h2 := ok m hm; rw [← hs m hm] at *; exact .slg m o len cap cap' es ext h2 hr hl hc he
  | sle m o p es ext hm hr => have h2 := ok m hm; rw [← hs m hm] at *; exact .sle m o p es ext h2 hr
  | nilm => exact .nilm
  | map m hm => have h2 := ok m hm; rw [← hs m hm]; exact .map m h2
  | yld m hm => have h2 := ok m hm; rw [← hs m hm]; exact .yld m h2
  | func f hf a a' b b' ha hb hav hbv iha ihb => exact .func f hf a a' b b' ha hb iha ihb
  | nilF => exact .nilF
  | nilI => exact .nilI
  | iface t v v' hv ih => exact .iface t v v' ih
  | agg a a' ha hav ih => exact .agg a a' ha ih
  | tup a a' ha hav ih => exact .tup a a' ha ih
theorem VR.mono {n n' : Nat} {σ σ' : Sig} (hn : n ≤ n') (hs : ∀ m, m < n → σ' m = σ m) {v v' : Value} (h : VR n σ v v') : VR n' σ' v v' := h.mono' hn (fun m hm => hs m hm.1)

/-- Lists of values, one by one. -/
def VRL (n : Nat) (σ : Sig) (l l' : List Value) : Prop := l.length = l'.length ∧ ∀ (i : Nat) (v v' : Value), l[i]? = some v → l'[i]? = some v' → VR n σ v v'

theorem VRL.nil {n : Nat} {σ : Sig} : VRL n σ [] [] := ⟨rfl, fun i v v' h => by simp at h⟩
theorem VRL.cons {n : Nat} {σ : Sig} {x x' : Value} {l l' : List Value} (h : VR n σ x x') (hl : VRL n σ l l') : VRL n σ (x :: l) (x' :: l') := by
  refine ⟨by simp [hl.1], fun i v v' e e' => ?_⟩
  cases i with
  | zero => simp at e e'; subst e; subst e'; exact h
  | succ i => simp at e e'; exact hl.2 i v v' e e'
theorem VRL.cons_inv {n : Nat} {σ : Sig} {x : Value} {l : List Value} {r : List Value} (h : VRL n σ (x :: l) r) : ∃ x' l', r = x' :: l' ∧ VR n σ x x' ∧ VRL n σ l l' := by
  obtain ⟨hl, hv⟩ := h
  cases r with
  | nil => simp at hl
  | cons x' l' =>
    refine ⟨x', l', rfl, hv 0 x x' rfl rfl, by simpa using hl, fun i v v' e e' => hv (i + 1) v v' ?_ ?_⟩
    · simpa using e
    · simpa using e'
theorem VRL.nil_inv {n : Nat} {σ : Sig} {r : List Value} (h : VRL n σ [] r) : r = [] := by
  have := h.1
  cases r with
  | nil => rfl
  | cons a b => simp at this
theorem VRL.append {n : Nat} {σ : Sig} : ∀ {a a' b b' : List Value}, VRL n σ a a' → VRL n σ b b' → VRL n σ (a ++ b) (a' ++ b')
  | [], a', b, b', ha, hb => by rw [ha.nil_inv]; exact hb
  | x :: a, r, b, b', ha, hb => by
    obtain ⟨x', a', rfl, h1, h2⟩ := ha.cons_inv
    exact .cons h1 (VRL.append h2 hb)
theorem VRL.mono {n n' : Nat} {σ σ' : Sig} (hn : n ≤ n') (hs : ∀ m, m < n → σ' m = σ m) {l l' : List Value} (h : VRL n σ l l') : VRL n' σ' l l' :=
  ⟨h.1, fun i v v' e e' => (h.2 i v v' e e').mono hn hs⟩
theorem VRL.mono' {n n' : Nat} {σ σ' : Sig} (hn : n ≤ n') (hs : ∀ m, Okm n σ m → σ' m = σ m) {l l' : List Value} (h : VRL n σ l l') : VRL n' σ' l l' :=
  ⟨h.1, fun i v v' e e' => (h.2 i v v' e e').mono' hn hs⟩
theorem VRL.get {n : Nat} {σ : Sig} {l l' : List Value} (h : VRL n σ l l') {i : Nat} {v : Value} (e : l[i]? = some v) : ∃ v', l'[i]? = some v' ∧ VR n σ v v' := by
  obtain ⟨hi, _⟩ := List.getElem?_eq_some_iff.1 e
  have : i < l'.length := by rw [← h.1]; exact hi
  exact ⟨_, List.getElem?_eq_getElem this, h.2 i v _ e (List.getElem?_eq_getElem this)⟩
theorem VRL.get_none {n : Nat} {σ : Sig} {l l' : List Value} (h : VRL n σ l l') {i : Nat} (e : l[i]? = none) : l'[i]? = none := by
  rw [List.getElem?_eq_none_iff] at *; rw [← h.1]; exact e
theorem VRL.extract {n : Nat} {σ : Sig} {l l' : List Value} (h : VRL n σ l l') (a b : Nat) : VRL n σ ((l.drop a).take b) ((l'.drop a).take b) := by
  refine ⟨by simp [h.1], fun i v v' e e' => ?_⟩
  rw [List.getElem?_take] at e e'
  split at e
  · rw [if_pos ‹_›] at e'; rw [List.getElem?_drop] at e e'; exact h.2 _ _ _ e e'
  · cases e

theorem VR.agg_list {n : Nat} {σ : Sig} {l l' : List Value} (h : VRL n σ l l') : VR n σ (.agg l.toArray) (.agg l'.toArray) :=
  .agg _ _ (by simp [h.1]) (fun i v v' e e' => h.2 i v v' (by simpa using e) (by simpa using e'))
theorem VR.tup_list {n : Nat} {σ : Sig} {l l' : List Value} (h : VRL n σ l l') : VR n σ (.tuple l.toArray) (.tuple l'.toArray) :=
  .tup _ _ (by simp [h.1]) (fun i v v' e e' => h.2 i v v' (by simpa using e) (by simpa using e'))
theorem VR.of_agg {n : Nat} {σ : Sig} {a : Array Value} {r : Value} (h : VR n σ (.agg a) r) : ∃ a', r = .agg a' ∧ VRL n σ a.toList a'.toList := by
  cases h with
  | agg _ a' ha hav => exact ⟨a', rfl, by simpa using ha, fun i v v' e e' => hav i v v' (by simpa using e) (by simpa using e')⟩
theorem VR.of_tup {n : Nat} {σ : Sig} {a : Array Value} {r : Value} (h : VR n σ (.tuple a) r) : ∃ a', r = .tuple a' ∧ VRL n σ a.toList a'.toList := by
  cases h with
  | tup _ a' ha hav => exact ⟨a', rfl, by simpa using ha, fun i v v' e e' => hav i v v' (by simpa using e) (by simpa using e')⟩

/-- The cells of a value, related. -/
theorem VR.cells {n : Nat} {σ : Sig} {v v' : Value} (h : VR n σ v v') : VRL n σ v.cells.toList v'.cells.toList := by
  cases h with
  | agg a a' ha hav => exact ⟨by simpa [Value.cells] using ha, fun i v v' e e' => hav i v v' (by simpa [Value.cells] using e) (by simpa [Value.cells] using e')⟩
  | bool b => exact .cons (.bool b) .nil
  | int k i => exact .cons (.int k i) .nil
  | str s => exact .cons (.str s) .nil
  | nilp => exact .cons .nilp .nil
  | ptr m o hm => exact .cons (.ptr m o hm) .nil
  | nils => exact .cons .nils .nil
  | sl m o len cap hm hr => exact .cons (.sl m o len cap hm hr) .nil
  | slg m o len cap cap' es ext hm hr hl hc he => exact .cons (.slg m o len cap cap' es ext hm hr hl hc he) .nil
  | sle m o p es ext hm hr => exact .cons (.sle m o p es ext hm hr) .nil
  | nilm => exact .cons .nilm .nil
  | map m hm => exact .cons (.map m hm) .nil
  | yld m hm => exact .cons (.yld m hm) .nil
  | func f hf a a' b b' ha hb hav hbv => exact .cons (.func f hf a a' b b' ha hb hav hbv) .nil
  | nilF => exact .cons .nilF .nil
  | nilI => exact .cons .nilI .nil
  | iface t v v' hv => exact .cons (.iface t v v' hv) .nil
  | tup a a' ha hav => exact .cons (.tup a a' ha hav) .nil

def one : Value → Bool
  | .agg _ | .tuple _ => false
  | _ => true
theorem VR.one {n : Nat} {σ : Sig} {v v' : Value} (h : VR n σ v v') (ho : one v = true) : v'.oneCell' = true := by
  cases h <;> simp_all [AM.one, Value.oneCell']

/-! ## the heap -/
/-- Where a loop over a function stands: between two rounds; in one; a round has left by a jump. -/
inductive LSt where
  | ready
  | busy
  | ret
  | exit (id : Nat)
  | over
  deriving Inhabited, DecidableEq
def LSt.st : LSt → LoopState
  | .ready => .ready
  | .busy => .busy
  | .ret => .done
  | .exit _ => .done
  | .over => .exhausted
def LSt.pend : LSt → Option Code
  | .ret => some .ret
  | .exit id => some (.exit id)
  | _ => none
inductive AObj where
  | dead
  /-- ro: never written; gr: an element's cells, of one that may have more room behind than is known; else 0 -/
  | row (ro : Bool) (gr : Nat) (c : Cells)
  | map (es : List MapEntry) (clock : Nat)
  | loop (st : LSt)
  deriving Inhabited

structure RO1 where
  (x0 x1 x2 x3 x4 x5 x6 x7 x8 x9 x10 x11 x12 x13 x14 x15 : AObj)
structure RO1.G where
  fn : RO1 → AObj
structure RO1.P where
  fn : RO1 → AObj → RO1
noncomputable def RO1.g (n : Nat) : RO1.G :=
  n.rec ⟨fun r => r.x0⟩ fun n _ =>
  n.rec ⟨fun r => r.x1⟩ fun n _ =>
  n.rec ⟨fun r => r.x2⟩ fun n _ =>
  n.rec ⟨fun r => r.x3⟩ fun n _ =>
  n.rec ⟨fun r => r.x4⟩ fun n _ =>
  n.rec ⟨fun r => r.x5⟩ fun n _ =>
  n.rec ⟨fun r => r.x6⟩ fun n _ =>
  n.rec ⟨fun r => r.x7⟩ fun n _ =>
  n.rec ⟨fun r => r.x8⟩ fun n _ =>
  n.rec ⟨fun r => r.x9⟩ fun n _ =>
  n.rec ⟨fun r => r.x10⟩ fun n _ =>
  n.rec ⟨fun r => r.x11⟩ fun n _ =>
  n.rec ⟨fun r => r.x12⟩ fun n _ =>
  n.rec ⟨fun r => r.x13⟩ fun n _ =>
  n.rec ⟨fun r => r.x14⟩ fun n _ =>
  ⟨fun r => r.x15⟩
noncomputable def RO1.p (n : Nat) : RO1.P :=
  n.rec ⟨fun r v => @RO1.rec (fun _ => AObj → RO1) (fun x0 x1 x2 x3 x4 x5 x6 x7 x8 x9 x10 x11 x12 x13 x14 x15 v => ⟨v, x1, x2, x3, x4, x5, x6, x7, x8, x9, x10, x11, x12, x13, x14, x15⟩) r v⟩ fun n _ =>
  n.rec ⟨fun r v => @RO1.rec (fun _ => AObj → RO1) (fun x0 x1 x2 x3 x4 x5 x6 x7 x8 x9 x10 x11 x12 x13 x14 x15 v => ⟨x0, v, x2, x3, x4, x5, x6, x7, x8, x9, x10, x11, x12, x13, x14, x15⟩) r v⟩ fun n _ =>
  n.rec ⟨fun r v => @RO1.rec (fun _ => AObj → RO1) (fun x0 x1 x2 x3 x4 x5 x6 x7 x8 x9 x10 x11 x12 x13 x14 x15 v => ⟨x0, x1, v, x3, x4, x5, x6, x7, x8, x9, x10, x11, x12, x13, x14, x15⟩) r v⟩ fun n _ =>
  n.rec ⟨fun r v => @RO1.rec (fun _ => AObj → RO1) (fun x0 x1 x2 x3 x4 x5 x6 x7 x8 x9 x10 x11 x12 x13 x14 x15 v => ⟨x0, x1, x2, v, x4, x5, x6, x7, x8, x9, x10, x11, x12, x13, x14, x15⟩) r v⟩ fun n _ =>
  n.rec ⟨fun r v => @RO1.rec (fun _ => AObj → RO1) (fun x0 x1 x2 x3 x4 x5 x6 x7 x8 x9 x10 x11 x12 x13 x14 x15 v => ⟨x0, x1, x2, x3, v, x5, x6, x7, x8, x9, x10, x11, x12, x13, x14, x15⟩) r v⟩ fun n _ =>
  n.rec ⟨fun r v => @RO1.rec (fun _ => AObj → RO1) (fun x0 x1 x2 x3 x4 x5 x6 x7 x8 x9 x10 x11 x12 x13 x14 x15 v => ⟨x0, x1, x2, x3, x4, v, x6, x7, x8, x9, x10, x11, x12, x13, x14, x15⟩) r v⟩ fun n _ =>
  n.rec ⟨fun r v => @RO1.rec (fun _ => AObj → RO1) (fun x0 x1 x2 x3 x4 x5 x6 x7 x8 x9 x10 x11 x12 x13 x14 x15 v => ⟨x0, x1, x2, x3, x4, x5, v, x7, x8, x9, x10, x11, x12, x13, x14, x15⟩) r v⟩ fun n _ =>
  n.rec ⟨fun r v => @RO1.rec (fun _ => AObj → RO1) (fun x0 x1 x2 x3 x4 x5 x6 x7 x8 x9 x10 x11 x12 x13 x14 x15 v => ⟨x0, x1, x2, x3, x4, x5, x6, v, x8, x9, x10, x11, x12, x13, x14, x15⟩) r v⟩ fun n _ =>
  n.rec ⟨fun r v => @RO1.rec (fun _ => AObj → RO1) (fun x0 x1 x2 x3 x4 x5 x6 x7 x8 x9 x10 x11 x12 x13 x14 x15 v => ⟨x0, x1, x2, x3, x4, x5, x6, x7, v, x9, x10, x11, x12, x13, x14, x15⟩) r v⟩ fun n _ =>
  n.rec ⟨fun r v => @RO1.rec (fun _ => AObj → RO1) (fun x0 x1 x2 x3 x4 x5 x6 x7 x8 x9 x10 x11 x12 x13 x14 x15 v => ⟨x0, x1, x2, x3, x4, x5, x6, x7, x8, v, x10, x11, x12, x13, x14, x15⟩) r v⟩ fun n _ =>
  n.rec ⟨fun r v => @RO1.rec (fun _ => AObj → RO1) (fun x0 x1 x2 x3 x4 x5 x6 x7 x8 x9 x10 x11 x12 x13 x14 x15 v => ⟨x0, x1, x2, x3, x4, x5, x6, x7, x8, x9, v, x11, x12, x13, x14, x15⟩) r v⟩ fun n _ =>
  n.rec ⟨fun r v => @RO1.rec (fun _ => AObj → RO1) (fun x0 x1 x2 x3 x4 x5 x6 x7 x8 x9 x10 x11 x12 x13 x14 x15 v => ⟨x0, x1, x2, x3, x4, x5, x6, x7, x8, x9, x10, v, x12, x13, x14, x15⟩) r v⟩ fun n _ =>
  n.rec ⟨fun r v => @RO1.rec (fun _ => AObj → RO1) (fun x0 x1 x2 x3 x4 x5 x6 x7 x8 x9 x10 x11 x12 x13 x14 x15 v => ⟨x0, x1, x2, x3, x4, x5, x6, x7, x8, x9, x10, x11, v, x13, x14, x15⟩) r v⟩ fun n _ =>
  n.rec ⟨fun r v => @RO1.rec (fun _ => AObj → RO1) (fun x0 x1 x2 x3 x4 x5 x6 x7 x8 x9 x10 x11 x12 x13 x14 x15 v => ⟨x0, x1, x2, x3, x4, x5, x6, x7, x8, x9, x10, x11, x12, v, x14, x15⟩) r v⟩ fun n _ =>
  n.rec ⟨fun r v => @RO1.rec (fun _ => AObj → RO1) (fun x0 x1 x2 x3 x4 x5 x6 x7 x8 x9 x10 x11 x12 x13 x14 x15 v => ⟨x0, x1, x2, x3, x4, x5, x6, x7, x8, x9, x10, x11, x12, x13, v, x15⟩) r v⟩ fun n _ =>
  ⟨fun r v => @RO1.rec (fun _ => AObj → RO1) (fun x0 x1 x2 x3 x4 x5 x6 x7 x8 x9 x10 x11 x12 x13 x14 x15 v => ⟨x0, x1, x2, x3, x4, x5, x6, x7, x8, x9, x10, x11, x12, x13, x14, v⟩) r v⟩
def RO1.zero : RO1 := ⟨.dead, .dead, .dead, .dead, .dead, .dead, .dead, .dead, .dead, .dead, .dead, .dead, .dead, .dead, .dead, .dead⟩
theorem RO1.gp (r : RO1) (v : AObj) : ∀ i j, i < 16 → j < 16 → (RO1.g j).fn ((RO1.p i).fn r v) = if j = i then v else (RO1.g j).fn r := by
  intro i j hi hj
  rcases r with ⟨x0, x1, x2, x3, x4, x5, x6, x7, x8, x9, x10, x11, x12, x13, x14, x15⟩
  have hi' : i = 0 ∨ i = 1 ∨ i = 2 ∨ i = 3 ∨ i = 4 ∨ i = 5 ∨ i = 6 ∨ i = 7 ∨ i = 8 ∨ i = 9 ∨ i = 10 ∨ i = 11 ∨ i = 12 ∨ i = 13 ∨ i = 14 ∨ i = 15 := by omega
  have hj' : j = 0 ∨ j = 1 ∨ j = 2 ∨ j = 3 ∨ j = 4 ∨ j = 5 ∨ j = 6 ∨ j = 7 ∨ j = 8 ∨ j = 9 ∨ j = 10 ∨ j = 11 ∨ j = 12 ∨ j = 13 ∨ j = 14 ∨ j = 15 := by omega
  rcases hi' with rfl | rfl | rfl | rfl | rfl | rfl | rfl | rfl | rfl | rfl | rfl | rfl | rfl | rfl | rfl | rfl <;> rcases hj' with rfl | rfl | rfl | rfl | rfl | rfl | rfl | rfl | rfl | rfl | rfl | rfl | rfl | rfl | rfl | rfl <;> rfl
theorem RO1.gz : ∀ j, j < 16 → (RO1.g j).fn RO1.zero = .dead := by
  intro j hj
  have hj' : j = 0 ∨ j = 1 ∨ j = 2 ∨ j = 3 ∨ j = 4 ∨ j = 5 ∨ j = 6 ∨ j = 7 ∨ j = 8 ∨ j = 9 ∨ j = 10 ∨ j = 11 ∨ j = 12 ∨ j = 13 ∨ j = 14 ∨ j = 15 := by omega
  rcases hj' with rfl | rfl | rfl | rfl | rfl | rfl | rfl | rfl | rfl | rfl | rfl | rfl | rfl | rfl | rfl | rfl <;> rfl
structure RO2 where
  (x0 x1 x2 x3 x4 x5 x6 x7 x8 x9 x10 x11 x12 x13 x14 x15 : RO1)
structure RO2.G where
  fn : RO2 → RO1
structure RO2.P where
  fn : RO2 → RO1 → RO2
noncomputable def RO2.g (n : Nat) : RO2.G :=
  n.rec ⟨fun r => r.x0⟩ fun n _ =>
  n.rec ⟨fun r => r.x1⟩ fun n _ =>
  n.rec ⟨fun r => r.x2⟩ fun n _ =>
  n.rec ⟨fun r => r.x3⟩ fun n _ =>
  n.rec ⟨fun r => r.x4⟩ fun n _ =>
  n.rec ⟨fun r => r.x5⟩ fun n _ =>
  n.rec ⟨fun r => r.x6⟩ fun n _ =>
  n.rec ⟨fun r => r.x7⟩ fun n _ =>
  n.rec ⟨fun r => r.x8⟩ fun n _ =>
  n.rec ⟨fun r => r.x9⟩ fun n _ =>
  n.rec ⟨fun r => r.x10⟩ fun n _ =>
  n.rec ⟨fun r => r.x11⟩ fun n _ =>
  n.rec ⟨fun r => r.x12⟩ fun n _ =>
  n.rec ⟨fun r => r.x13⟩ fun n _ =>
  n.rec ⟨fun r => r.x14⟩ fun n _ =>
  ⟨fun r => r.x15⟩
noncomputable def RO2.p (n : Nat) : RO2.P :=
  n.rec ⟨fun r v => @RO2.rec (fun _ => RO1 → RO2) (fun x0 x1 x2 x3 x4 x5 x6 x7 x8 x9 x10 x11 x12 x13 x14 x15 v => ⟨v, x1, x2, x3, x4, x5, x6, x7, x8, x9, x10, x11, x12, x13, x14, x15⟩) r v⟩ fun n _ =>
  n.rec ⟨fun r v => @RO2.rec (fun _ => RO1 → RO2) (fun x0 x1 x2 x3 x4 x5 x6 x7 x8 x9 x10 x11 x12 x13 x14 x15 v => ⟨x0, v, x2, x3, x4, x5, x6, x7, x8, x9, x10, x11, x12, x13, x14, x15⟩) r v⟩ fun n _ =>
  n.rec ⟨fun r v => @RO2.rec (fun _ => RO1 → RO2) (fun x0 x1 x2 x3 x4 x5 x6 x7 x8 x9 x10 x11 x12 x13 x14 x15 v => ⟨x0, x1, v, x3, x4, x5, x6, x7, x8, x9, x10, x11, x12, x13, x14, x15⟩) r v⟩ fun n _ =>
  n.rec ⟨fun r v => @RO2.rec (fun _ => RO1 → RO2) (fun x0 x1 x2 x3 x4 x5 x6 x7 x8 x9 x10 x11 x12 x13 x14 x15 v => ⟨x0, x1, x2, v, x4, x5, x6, x7, x8, x9, x10, x11, x12, x13, x14, x15⟩) r v⟩ fun n _ =>
  n.rec ⟨fun r v => @RO2.rec (fun _ => RO1 → RO2) (fun x0 x1 x2 x3 x4 x5 x6 x7 x8 x9 x10 x11 x12 x13 x14 x15 v => ⟨x0, x1, x2, x3, v, x5, x6, x7, x8, x9, x10, x11, x12, x13, x14, x15⟩) r v⟩ fun n _ =>
  n.rec ⟨fun r v => @RO2.rec (fun _ => RO1 → RO2) (fun x0 x1 x2 x3 x4 x5 x6 x7 x8 x9 x10 x11 x12 x13 x14 x15 v => ⟨x0, x1, x2, x3, x4, v, x6, x7, x8, x9, x10, x11, x12, x13, x14, x15⟩) r v⟩ fun n _ =>
  n.rec ⟨fun r v => @RO2.rec (fun _ => RO1 → RO2) (fun x0 x1 x2 x3 x4 x5 x6 x7 x8 x9 x10 x11 x12 x13 x14 x15 v => ⟨x0, x1, x2, x3, x4, x5, v, x7, x8, x9, x10, x11, x12, x13, x14, x15⟩) r v⟩ fun n _ =>
  n.rec ⟨fun r v => @RO2.rec (fun _ => RO1 → RO2) (fun x0 x1 x2 x3 x4 x5 x6 x7 x8 x9 x10 x11 x12 x13 x14 x15 v => ⟨x0, x1, x2, x3, x4, x5, x6, v, x8, x9, x10, x11, x12, x13, x14, x15⟩) r v⟩ fun n _ =>
  n.rec ⟨fun r v => @RO2.rec (fun _ => RO1 → RO2) (fun x0 x1 x2 x3 x4 x5 x6 x7 x8 x9 x10 x11 x12 x13 x14 x15 v => ⟨x0, x1, x2, x3, x4, x5, x6, x7, v, x9, x10, x11, x12, x13, x14, x15⟩) r v⟩ fun n _ =>
  n.rec ⟨fun r v => @RO2.rec (fun _ => RO1 → RO2) (fun x0 x1 x2 x3 x4 x5 x6 x7 x8 x9 x10 x11 x12 x13 x14 x15 v => ⟨x0, x1, x2, x3, x4, x5, x6, x7, x8, v, x10, x11, x12, x13, x14, x15⟩) r v⟩ fun n _ =>
  n.rec ⟨fun r v => @RO2.rec (fun _ => RO1 → RO2) (fun x0 x1 x2 x3 x4 x5 x6 x7 x8 x9 x10 x11 x12 x13 x14 x15 v => ⟨x0, x1, x2, x3, x4, x5, x6, x7, x8, x9, v, x11, x12, x13, x14, x15⟩) r v⟩ fun n _ =>
  n.rec ⟨fun r v => @RO2.rec (fun _ => RO1 → RO2) (fun x0 x1 x2 x3 x4 x5 x6 x7 x8 x9 x10 x11 x12 x13 x14 x15 v => ⟨x0, x1, x2, x3, x4, x5, x6, x7, x8, x9, x10, v, x12, x13, x14, x15⟩) r v⟩ fun n _ =>
  n.rec ⟨fun r v => @RO2.rec (fun _ => RO1 → RO2) (fun x0 x1 x2 x3 x4 x5 x6 x7 x8 x9 x10 x11 x12 x13 x14 x15 v => ⟨x0, x1, x2, x3, x4, x5, x6, x7, x8, x9, x10, x11, v, x13, x14, x15⟩) r v⟩ fun n _ =>
  n.rec ⟨fun r v => @RO2.rec (fun _ => RO1 → RO2) (fun x0 x1 x2 x3 x4 x5 x6 x7 x8 x9 x10 x11 x12 x13 x14 x15 v => ⟨x0, x1, x2, x3, x4, x5, x6, x7, x8, x9, x10, x11, x12, v, x14, x15⟩) r v⟩ fun n _ =>
  n.rec ⟨fun r v => @RO2.rec (fun _ => RO1 → RO2) (fun x0 x1 x2 x3 x4 x5 x6 x7 x8 x9 x10 x11 x12 x13 x14 x15 v => ⟨x0, x1, x2, x3, x4, x5, x6, x7, x8, x9, x10, x11, x12, x13, v, x15⟩) r v⟩ fun n _ =>
  ⟨fun r v => @RO2.rec (fun _ => RO1 → RO2) (fun x0 x1 x2 x3 x4 x5 x6 x7 x8 x9 x10 x11 x12 x13 x14 x15 v => ⟨x0, x1, x2, x3, x4, x5, x6, x7, x8, x9, x10, x11, x12, x13, x14, v⟩) r v⟩
def RO2.zero : RO2 := ⟨RO1.zero, RO1.zero, RO1.zero, RO1.zero, RO1.zero, RO1.zero, RO1.zero, RO1.zero, RO1.zero, RO1.zero, RO1.zero, RO1.zero, RO1.zero, RO1.zero, RO1.zero, RO1.zero⟩
theorem RO2.gp (r : RO2) (v : RO1) : ∀ i j, i < 16 → j < 16 → (RO2.g j).fn ((RO2.p i).fn r v) = if j = i then v else (RO2.g j).fn r := by
  intro i j hi hj
  rcases r with ⟨x0, x1, x2, x3, x4, x5, x6, x7, x8, x9, x10, x11, x12, x13, x14, x15⟩
  have hi' : i = 0 ∨ i = 1 ∨ i = 2 ∨ i = 3 ∨ i = 4 ∨ i = 5 ∨ i = 6 ∨ i = 7 ∨ i = 8 ∨ i = 9 ∨ i = 10 ∨ i = 11 ∨ i = 12 ∨ i = 13 ∨ i = 14 ∨ i = 15 := by omega
  have hj' : j = 0 ∨ j = 1 ∨ j = 2 ∨ j = 3 ∨ j = 4 ∨ j = 5 ∨ j = 6 ∨ j = 7 ∨ j = 8 ∨ j = 9 ∨ j = 10 ∨ j = 11 ∨ j = 12 ∨ j = 13 ∨ j = 14 ∨ j = 15 := by omega
  rcases hi' with rfl | rfl | rfl | rfl | rfl | rfl | rfl | rfl | rfl | rfl | rfl | rfl | rfl | rfl | rfl | rfl <;> rcases hj' with rfl | rfl | rfl | rfl | rfl | rfl | rfl | rfl | rfl | rfl | rfl | rfl | rfl | rfl | rfl | rfl <;> rfl
theorem RO2.gz : ∀ j, j < 16 → (RO2.g j).fn RO2.zero = RO1.zero := by
  intro j hj
  have hj' : j = 0 ∨ j = 1 ∨ j = 2 ∨ j = 3 ∨ j = 4 ∨ j = 5 ∨ j = 6 ∨ j = 7 ∨ j = 8 ∨ j = 9 ∨ j = 10 ∨ j = 11 ∨ j = 12 ∨ j = 13 ∨ j = 14 ∨ j = 15 := by omega
  rcases hj' with rfl | rfl | rfl | rfl | rfl | rfl | rfl | rfl | rfl | rfl | rfl | rfl | rfl | rfl | rfl | rfl <;> rfl
structure RO3 where
  (x0 x1 x2 x3 x4 x5 x6 x7 x8 x9 x10 x11 x12 x13 x14 x15 : RO2)
structure RO3.G where
  fn : RO3 → RO2
structure RO3.P where
  fn : RO3 → RO2 → RO3
noncomputable def RO3.g (n : Nat) : RO3.G :=
  n.rec ⟨fun r => r.x0⟩ fun n _ =>
  n.rec ⟨fun r => r.x1⟩ fun n _ =>
  n.rec ⟨fun r => r.x2⟩ fun n _ =>
  n.rec ⟨fun r => r.x3⟩ fun n _ =>
  n.rec ⟨fun r => r.x4⟩ fun n _ =>
  n.rec ⟨fun r => r.x5⟩ fun n _ =>
  n.rec ⟨fun r => r.x6⟩ fun n _ =>
  n.rec ⟨fun r => r.x7⟩ fun n _ =>
  n.rec ⟨fun r => r.x8⟩ fun n _ =>
  n.rec ⟨fun r => r.x9⟩ fun n _ =>
  n.rec ⟨fun r => r.x10⟩ fun n _ =>
  n.rec ⟨fun r => r.x11⟩ fun n _ =>
  n.rec ⟨fun r => r.x12⟩ fun n _ =>
  n.rec ⟨fun r => r.x13⟩ fun n _ =>
  n.rec ⟨fun r => r.x14⟩ fun n _ =>
  ⟨fun r => r.x15⟩
noncomputable def RO3.p (n : Nat) : RO3.P :=
  n.rec ⟨fun r v => @RO3.rec (fun _ => RO2 → RO3) (fun x0 x1 x2 x3 x4 x5 x6 x7 x8 x9 x10 x11 x12 x13 x14 x15 v => ⟨v, x1, x2, x3, x4, x5, x6, x7, x8, x9, x10, x11, x12, x13, x14, x15⟩) r v⟩ fun n _ =>
  n.rec ⟨fun r v => @RO3.rec (fun _ => RO2 → RO3) (fun x0 x1 x2 x3 x4 x5 x6 x7 x8 x9 x10 x11 x12 x13 x14 x15 v => ⟨x0, v, x2, x3, x4, x5, x6, x7, x8, x9, x10, x11, x12, x13, x14, x15⟩) r v⟩ fun n _ =>
  n.rec ⟨fun r v => @RO3.rec (fun _ => RO2 → RO3) (fun x0 x1 x2 x3 x4 x5 x6 x7 x8 x9 x10 x11 x12 x13 x14 x15 v => ⟨x0, x1, v, x3, x4, x5, x6, x7, x8, x9, x10, x11, x12, x13, x14, x15⟩) r v⟩ fun n _ =>
  n.rec ⟨fun r v => @RO3.rec (fun _ => RO2 → RO3) (fun x0 x1 x2 x3 x4 x5 x6 x7 x8 x9 x10 x11 x12 x13 x14 x15 v => ⟨x0, x1, x2, v, x4, x5, x6, x7, x8, x9, x10, x11, x12, x13, x14, x15⟩) r v⟩ fun n _ =>
  n.rec ⟨fun r v => @RO3.rec (fun _ => RO2 → RO3) (fun x0 x1 x2 x3 x4 x5 x6 x7 x8 x9 x10 x11 x12 x13 x14 x15 v => ⟨x0, x1, x2, x3, v, x5, x6, x7, x8, x9, x10, x11, x12, x13, x14, x15⟩) r v⟩ fun n _ =>
  n.rec ⟨fun r v => @RO3.rec (fun _ => RO2 → RO3) (fun x0 x1 x2 x3 x4 x5 x6 x7 x8 x9 x10 x11 x12 x13 x14 x15 v => ⟨x0, x1, x2, x3, x4, v, x6, x7, x8, x9, x10, x11, x12, x13, x14, x15⟩) r v⟩ fun n _ =>
  n.rec ⟨fun r v => @RO3.rec (fun _ => RO2 → RO3) (fun x0 x1 x2 x3 x4 x5 x6 x7 x8 x9 x10 x11 x12 x13 x14 x15 v => ⟨x0, x1, x2, x3, x4, x5, v, x7, x8, x9, x10, x11, x12, x13, x14, x15⟩) r v⟩ fun n _ =>
  n.rec ⟨fun r v => @RO3.rec (fun _ => RO2 → RO3) (fun x0 x1 x2 x3 x4 x5 x6 x7 x8 x9 x10 x11 x12 x13 x14 x15 v => ⟨x0, x1, x2, x3, x4, x5, x6, v, x8, x9, x10, x11, x12, x13, x14, x15⟩) r v⟩ fun n _ =>
  n.rec ⟨fun r v => @RO3.rec (fun _ => RO2 → RO3) (fun x0 x1 x2 x3 x4 x5 x6 x7 x8 x9 x10 x11 x12 x13 x14 x15 v => ⟨x0, x1, x2, x3, x4, x5, x6, x7, v, x9, x10, x11, x12, x13, x14, x15⟩) r v⟩ fun n _ =>
  n.rec ⟨fun r v => @RO3.rec (fun _ => RO2 → RO3) (fun x0 x1 x2 x3 x4 x5 x6 x7 x8 x9 x10 x11 x12 x13 x14 x15 v => ⟨x0, x1, x2, x3, x4, x5, x6, x7, x8, v, x10, x11, x12, x13, x14, x15⟩) r v⟩ fun n _ =>
  n.rec ⟨fun r v => @RO3.rec (fun _ => RO2 → RO3) (fun x0 x1 x2 x3 x4 x5 x6 x7 x8 x9 x10 x11 x12 x13 x14 x15 v => ⟨x0, x1, x2, x3, x4, x5, x6, x7, x8, x9, v, x11, x12, x13, x14, x15⟩) r v⟩ fun n _ =>
  n.rec ⟨fun r v => @RO3.rec (fun _ => RO2 → RO3) (fun x0 x1 x2 x3 x4 x5 x6 x7 x8 x9 x10 x11 x12 x13 x14 x15 v => ⟨x0, x1, x2, x3, x4, x5, x6, x7, x8, x9, x10, v, x12, x13, x14, x15⟩) r v⟩ fun n _ =>
  n.rec ⟨fun r v => @RO3.rec (fun _ => RO2 → RO3) (fun x0 x1 x2 x3 x4 x5 x6 x7 x8 x9 x10 x11 x12 x13 x14 x15 v => ⟨x0, x1, x2, x3, x4, x5, x6, x7, x8, x9, x10, x11, v, x13, x14, x15⟩) r v⟩ fun n _ =>
  n.rec ⟨fun r v => @RO3.rec (fun _ => RO2 → RO3) (fun x0 x1 x2 x3 x4 x5 x6 x7 x8 x9 x10 x11 x12 x13 x14 x15 v => ⟨x0, x1, x2, x3, x4, x5, x6, x7, x8, x9, x10, x11, x12, v, x14, x15⟩) r v⟩ fun n _ =>
  n.rec ⟨fun r v => @RO3.rec (fun _ => RO2 → RO3) (fun x0 x1 x2 x3 x4 x5 x6 x7 x8 x9 x10 x11 x12 x13 x14 x15 v => ⟨x0, x1, x2, x3, x4, x5, x6, x7, x8, x9, x10, x11, x12, x13, v, x15⟩) r v⟩ fun n _ =>
  ⟨fun r v => @RO3.rec (fun _ => RO2 → RO3) (fun x0 x1 x2 x3 x4 x5 x6 x7 x8 x9 x10 x11 x12 x13 x14 x15 v => ⟨x0, x1, x2, x3, x4, x5, x6, x7, x8, x9, x10, x11, x12, x13, x14, v⟩) r v⟩
def RO3.zero : RO3 := ⟨RO2.zero, RO2.zero, RO2.zero, RO2.zero, RO2.zero, RO2.zero, RO2.zero, RO2.zero, RO2.zero, RO2.zero, RO2.zero, RO2.zero, RO2.zero, RO2.zero, RO2.zero, RO2.zero⟩
theorem RO3.gp (r : RO3) (v : RO2) : ∀ i j, i < 16 → j < 16 → (RO3.g j).fn ((RO3.p i).fn r v) = if j = i then v else (RO3.g j).fn r := by
  intro i j hi hj
  rcases r with ⟨x0, x1, x2, x3, x4, x5, x6, x7, x8, x9, x10, x11, x12, x13, x14, x15⟩
  have hi' : i = 0 ∨ i = 1 ∨ i = 2 ∨ i = 3 ∨ i = 4 ∨ i = 5 ∨ i = 6 ∨ i = 7 ∨ i = 8 ∨ i = 9 ∨ i = 10 ∨ i = 11 ∨ i = 12 ∨ i = 13 ∨ i = 14 ∨ i = 15 := by omega
  have hj' : j = 0 ∨ j = 1 ∨ j = 2 ∨ j = 3 ∨ j = 4 ∨ j = 5 ∨ j = 6 ∨ j = 7 ∨ j = 8 ∨ j = 9 ∨ j = 10 ∨ j = 11 ∨ j = 12 ∨ j = 13 ∨ j = 14 ∨ j = 15 := by omega
  rcases hi' with rfl | rfl | rfl | rfl | rfl | rfl | rfl | rfl | rfl | rfl | rfl | rfl | rfl | rfl | rfl | rfl <;> rcases hj' with rfl | rfl | rfl | rfl | rfl | rfl | rfl | rfl | rfl | rfl | rfl | rfl | rfl | rfl | rfl | rfl <;> rfl
theorem RO3.gz : ∀ j, j < 16 → (RO3.g j).fn RO3.zero = RO2.zero := by
  intro j hj
  have hj' : j = 0 ∨ j = 1 ∨ j = 2 ∨ j = 3 ∨ j = 4 ∨ j = 5 ∨ j = 6 ∨ j = 7 ∨ j = 8 ∨ j = 9 ∨ j = 10 ∨ j = 11 ∨ j = 12 ∨ j = 13 ∨ j = 14 ∨ j = 15 := by omega
  rcases hj' with rfl | rfl | rfl | rfl | rfl | rfl | rfl | rfl | rfl | rfl | rfl | rfl | rfl | rfl | rfl | rfl <;> rfl
/-- The blocks: 4096 in rows, the others in a trie. -/
structure HT where
  x : RO3
  y : Tr AObj
instance : Inhabited HT := ⟨⟨RO3.zero, .leaf⟩⟩
def HT.leaf : HT := ⟨RO3.zero, .leaf⟩
theorem modE (a b : Nat) : Nat.mod a b = a % b := rfl
theorem divE (a b : Nat) : Nat.div a b = a / b := rfl
noncomputable def HT.getS (t : HT) (m : Nat) : AObj := (t.y.get m).getD .dead
noncomputable def HT.getF (t : HT) (m : Nat) : AObj := (RO1.g (Nat.mod m 16)).fn ((RO2.g (Nat.mod (Nat.div m 16) 16)).fn ((RO3.g (Nat.div m 256)).fn t.x))
noncomputable def HT.get (t : HT) (m : Nat) : AObj := @Bool.rec (fun _ => HT → Nat → AObj) HT.getS HT.getF (Nat.ble m 4095) t m
noncomputable def RO2.put (r : RO2) (a b : Nat) (o : AObj) : RO2 := (RO2.p a).fn r ((RO1.p b).fn ((RO2.g a).fn r) o)
noncomputable def RO3.put (r : RO3) (c a b : Nat) (o : AObj) : RO3 := (RO3.p c).fn r (((RO3.g c).fn r).put a b o)
noncomputable def HT.setS (t : HT) (m : Nat) (o : AObj) : HT := ⟨t.x, t.y.set m o⟩
noncomputable def HT.setF (t : HT) (m : Nat) (o : AObj) : HT := ⟨t.x.put (Nat.div m 256) (Nat.mod (Nat.div m 16) 16) (Nat.mod m 16) o, t.y⟩
noncomputable def HT.set (t : HT) (m : Nat) (o : AObj) : HT := @Bool.rec (fun _ => HT → Nat → AObj → HT) HT.setS HT.setF (Nat.ble m 4095) t m o
theorem RO2.put_get (r : RO2) (a b c d : Nat) (o : AObj) (ha : a < 16) (hb : b < 16) (hc : c < 16) (hd : d < 16) :
    (RO1.g d).fn ((RO2.g c).fn (r.put a b o)) = if c = a ∧ d = b then o else (RO1.g d).fn ((RO2.g c).fn r) := by
  unfold RO2.put
  rw [RO2.gp _ _ _ _ ha hc]
  by_cases h1 : c = a
  · subst h1; rw [if_pos rfl, RO1.gp _ _ _ _ hb hd]; simp
  · rw [if_neg h1, if_neg (fun h => h1 h.1)]
theorem HT.get_set (t : HT) (m j : Nat) (o : AObj) : (t.set m o).get j = if j = m then o else t.get j := by
  unfold HT.get HT.set HT.getF HT.setF
  simp only [modE, divE]
  by_cases hm : m ≤ 4095 <;> by_cases hj : j ≤ 4095
  · rw [Nat.ble_eq_true_of_le hm, Nat.ble_eq_true_of_le hj]
    simp only [RO3.put]
    rw [RO3.gp _ _ _ _ (by omega) (by omega)]
    by_cases h1 : j / 256 = m / 256
    · rw [if_pos h1, RO2.put_get _ _ _ _ _ _ (by omega) (by omega) (by omega) (by omega), h1]
      by_cases h2 : j = m
      · subst h2; simp
      · rw [if_neg h2, if_neg (by omega)]
    · rw [if_neg h1, if_neg (by omega)]
  · rw [Nat.ble_eq_true_of_le hm, show Nat.ble j 4095 = false by cases h : Nat.ble j 4095 with | false => rfl | true => exact absurd (Nat.le_of_ble_eq_true h) hj]
    rw [if_neg (by omega)]
    rfl
  · rw [Nat.ble_eq_true_of_le hj, show Nat.ble m 4095 = false by cases h : Nat.ble m 4095 with | false => rfl | true => exact absurd (Nat.le_of_ble_eq_true h) hm]
    rw [if_neg (by omega)]
    rfl
  · rw [show Nat.ble j 4095 = false by cases h : Nat.ble j 4095 with | false => rfl | true => exact absurd (Nat.le_of_ble_eq_true h) hj, show Nat.ble m 4095 = false by cases h : Nat.ble m 4095 with | false => rfl | true => exact absurd (Nat.le_of_ble_eq_true h) hm]
    show ((t.y.set m o).get j).getD .dead = _
    rw [Tr.get_set]; split <;> rfl
theorem HT.get_leaf (m : Nat) : HT.leaf.get m = .dead := by
  unfold HT.get HT.getF
  simp only [modE, divE]
  by_cases hm : m ≤ 4095
  · rw [Nat.ble_eq_true_of_le hm]
    show (RO1.g _).fn ((RO2.g _).fn ((RO3.g _).fn RO3.zero)) = _
    rw [RO3.gz _ (by omega), RO2.gz _ (by omega), RO1.gz _ (by omega)]
  · rw [show Nat.ble m 4095 = false by cases h : Nat.ble m 4095 with | false => rfl | true => exact absurd (Nat.le_of_ble_eq_true h) hm]
    rfl
structure AHeap where
  next : Nat
  t : HT
  deriving Inhabited

noncomputable def AHeap.get (h : AHeap) (m : Nat) : AObj := h.t.get m
noncomputable def AHeap.set (h : AHeap) (m : Nat) (o : AObj) : AHeap := { h with t := h.t.set m o }
noncomputable def AHeap.new (h : AHeap) (o : AObj) : AHeap := { next := h.next + 1, t := h.t.set h.next o }
def AHeap.empty : AHeap := ⟨0, .leaf⟩

theorem AHeap.get_set (h : AHeap) (m j : Nat) (o : AObj) : (h.set m o).get j = if j = m then o else h.get j := HT.get_set _ _ _ _
theorem AHeap.get_new (h : AHeap) (j : Nat) (o : AObj) : (h.new o).get j = if j = h.next then o else h.get j := HT.get_set _ _ _ _
theorem AHeap.get_bare (n m : Nat) : (⟨n, .leaf⟩ : AHeap).get m = .dead := HT.get_leaf m
@[simp] theorem AHeap.next_set (h : AHeap) (m : Nat) (o : AObj) : (h.set m o).next = h.next := rfl
@[simp] theorem AHeap.next_new (h : AHeap) (o : AObj) : (h.new o).next = h.next + 1 := rfl
theorem AHeap.get_empty (m : Nat) : AHeap.empty.get m = .dead := HT.get_leaf m

def AObj.live : AObj → Bool
  | .dead => false
  | _ => true
/-- Written blocks: those that must be alone in their block. -/
def AObj.own : AObj → Bool
  | .row ro _ _ => !ro
  | .map .. => true
  | .loop _ => true
  | .dead => false

/-- The entries of a map, related. -/
def ER (n : Nat) (σ : Sig) (es es' : List MapEntry) : Prop :=
  es.length = es'.length ∧ ∀ (i : Nat) (e e' : MapEntry), es[i]? = some e → es'[i]? = some e' → VR n σ e.key e'.key ∧ VR n σ e.val e'.val ∧ e.born = e'.born

def grOf : Option (Nat × Nat) → Nat
  | none => 0
  | some (es, _) => es

/-- One object against the world. -/
def AObj.at (n : Nat) (σ : Sig) (w : World) (p : Pl) : AObj → Prop
  | .dead => True
  | .row ro gr c => ∃ cs el fz, w.heap[p.blk]? = some (.cells cs el fz) ∧
      (∀ i v, c.get i = some v → ∃ v', cs[p.base + i]? = some v' ∧ VR n σ v v' ∧ v'.oneCell' = true) ∧
      p.base + c.size ≤ cs.size ∧
      (ro = false → fz.1 = fz.2 ∨ cs.size ≤ fz.1) ∧
      (gr = grOf p.room) ∧ (∀ es ext, p.room = some (es, ext) → 0 < es ∧ c.size ≤ ext ∧ p.base + ext ≤ cs.size)
  | .map es cl => ∃ es', w.heap[p.blk]? = some (.map es' cl) ∧ ER n σ es es'.toList
  | .loop st => ∃ L : Loop, p.lp = some L ∧ w.heap[p.blk]? = some (.loop { L with state := st.st, pending := st.pend })

structure Inv (N0 : Nat) (w0 : World) (σ : Sig) (h : AHeap) (w : World) : Prop where
  below : Below N0 w0 w
  fresh : ∀ m, h.next ≤ m → h.get m = .dead
  obj : ∀ m, (h.get m).at h.next σ w (σ m)
  low : ∀ m, (h.get m).own = true → N0 ≤ (σ m).blk
  high : ∀ m, (h.get m).live = true → (h.get m).own = false → (σ m).blk < N0
  inj : ∀ m m', (h.get m).own = true → (h.get m').live = true → m ≠ m' → (σ m).blk ≠ (σ m').blk
  base : N0 ≤ w.heap.size

/-- Which blocks of the machine are the abstract heap's own. -/
def Owned (σ : Sig) (h : AHeap) (b : Nat) : Prop := ∃ m, (h.get m).own = true ∧ (σ m).blk = b

/-- From one state to a later one. -/
structure Go' (σ : Sig) (h : AHeap) (w : World) (σ' : Sig) (h' : AHeap) (w' : World) : Prop where
  next : h.next ≤ h'.next
  sig : ∀ m, m < h.next → σ' m = σ m
  size : w.heap.size ≤ w'.heap.size
  frame : ∀ b, b < w.heap.size → ¬ Owned σ h b → w'.heap[b]? = w.heap[b]?
  own : ∀ b, Owned σ' h' b → Owned σ h b ∨ w.heap.size ≤ b

theorem Go'.refl (σ : Sig) (h : AHeap) (w : World) : Go' σ h w σ h w := ⟨Nat.le_refl _, fun _ _ => rfl, Nat.le_refl _, fun _ _ _ => rfl, fun _ h => .inl h⟩
theorem Go'.trans {σ σ' σ'' : Sig} {h h' h'' : AHeap} {w w' w'' : World} (a : Go' σ h w σ' h' w') (b : Go' σ' h' w' σ'' h'' w'') : Go' σ h w σ'' h'' w'' where
  next := Nat.le_trans a.next b.next
  sig := fun m hm => (b.sig m (Nat.lt_of_lt_of_le hm a.next)).trans (a.sig m hm)
  size := Nat.le_trans a.size b.size
  frame := fun x hx hn => by
    rw [b.frame x (Nat.lt_of_lt_of_le hx a.size) (fun ho => (a.own x ho).elim hn (fun h => by omega)), a.frame x hx hn]
  own := fun x hx => (b.own x hx).elim (fun h => a.own x h) (fun h => .inr (Nat.le_trans a.size h))

theorem AObj.at_size {n : Nat} {σ : Sig} {w : World} {p : Pl} {o : AObj} (h : o.at n σ w p) (hl : o.live = true) : p.blk < w.heap.size := by
  cases o with
  | dead => simp [AObj.live] at hl
  | row ro gr c =>
    obtain ⟨cs, el, fz, h, _⟩ := h
    exact (Array.getElem?_eq_some_iff.1 h).1
  | map es cl =>
    obtain ⟨es', h, _⟩ := h
    exact (Array.getElem?_eq_some_iff.1 h).1
  | loop st =>
    obtain ⟨L, _, h⟩ := h
    exact (Array.getElem?_eq_some_iff.1 h).1

theorem Inv.lt_size {N0 : Nat} {w0 : World} {σ : Sig} {h : AHeap} {w : World} (hI : Inv N0 w0 σ h w) {m : Nat} (hl : (h.get m).live = true) : (σ m).blk < w.heap.size :=
  AObj.at_size (hI.obj m) hl

theorem Inv.lt_next {N0 : Nat} {w0 : World} {σ : Sig} {h : AHeap} {w : World} (hI : Inv N0 w0 σ h w) {m : Nat} (hl : (h.get m).live = true) : m < h.next := by
  rcases Nat.lt_or_ge m h.next with h1 | h1
  · exact h1
  · rw [hI.fresh m h1] at hl; simp [AObj.live] at hl

theorem ER.mono' {n n' : Nat} {σ σ' : Sig} (hn : n ≤ n') (hs : ∀ m, Okm n σ m → σ' m = σ m) {l l' : List MapEntry} (h : ER n σ l l') : ER n' σ' l l' :=
  ⟨h.1, fun i e e' a b => let ⟨x, y, z⟩ := h.2 i e e' a b; ⟨x.mono' hn hs, y.mono' hn hs, z⟩⟩

theorem AObj.at_mono' {n n' : Nat} {σ σ' : Sig} {w w' : World} {p p' : Pl} {o : AObj} (h : o.at n σ w p) (hn : n ≤ n') (hs : ∀ m, Okm n σ m → σ' m = σ m) (hp : o.live = true → p' = p)
    (hw : o.live = true → w'.heap[p.blk]? = w.heap[p.blk]?) : o.at n' σ' w' p' := by
  cases o with
  | dead => trivial
  | row ro gr c =>
    have hp' := hp rfl; subst hp'
    obtain ⟨cs, el, fz, h1, h2, h3⟩ := h
    exact ⟨cs, el, fz, by rw [hw rfl]; exact h1, fun i v e => let ⟨v', a, b, o⟩ := h2 i v e; ⟨v', a, b.mono' hn hs, o⟩, h3⟩
  | map es cl =>
    have hp' := hp rfl; subst hp'
    obtain ⟨es', h1, h2⟩ := h
    exact ⟨es', by rw [hw rfl]; exact h1, h2.mono' hn hs⟩
  | loop st =>
    have hp' := hp rfl; subst hp'
    obtain ⟨L, h1, h2⟩ := h
    exact ⟨L, h1, by rw [hw rfl]; exact h2⟩
theorem AObj.at_mono {n n' : Nat} {σ σ' : Sig} {w w' : World} {p p' : Pl} {o : AObj} (h : o.at n σ w p) (hn : n ≤ n') (hs : ∀ m, m < n → σ' m = σ m) (hp : p' = p)
    (hw : o.live = true → w'.heap[p.blk]? = w.heap[p.blk]?) : o.at n' σ' w' p' := AObj.at_mono' h hn (fun m hm => hs m hm.1) (fun _ => hp) hw

/-- Blocks beyond the known ones, and blocks that are nobody's, may turn. -/
theorem Inv.world {N0 : Nat} {w0 : World} {σ : Sig} {h : AHeap} {w w' : World} (hI : Inv N0 w0 σ h w) (hb : Below N0 w w')
    (hw : ∀ m, (h.get m).live = true → w'.heap[(σ m).blk]? = w.heap[(σ m).blk]?) : Inv N0 w0 σ h w' where
  below := hI.below.trans hb
  fresh := hI.fresh
  obj := fun m => AObj.at_mono (hI.obj m) (Nat.le_refl _) (fun _ _ => rfl) rfl (hw m)
  low := hI.low
  high := hI.high
  inj := hI.inj
  base := Nat.le_trans hI.base hb.size

theorem Inv.drawn {N0 : Nat} {w0 : World} {σ : Sig} {h : AHeap} {w : World} (hI : Inv N0 w0 σ h w) (d : Nat) : Inv N0 w0 σ h { w with drawn := d } :=
  hI.world ⟨rfl, rfl, rfl, Nat.le_refl _, fun _ _ => rfl⟩ (fun _ _ => rfl)
theorem Go'.drawn (σ : Sig) (h : AHeap) (w : World) (d : Nat) : Go' σ h w σ h { w with drawn := d } :=
  ⟨Nat.le_refl _, fun _ _ => rfl, Nat.le_refl _, fun _ _ _ => rfl, fun _ h => .inl h⟩

def Sig.put (σ : Sig) (m : Nat) (p : Pl) : Sig := fun j => if j = m then p else σ j
theorem Sig.put_same (σ : Sig) (m : Nat) (p : Pl) : σ.put m p m = p := by simp [Sig.put]
theorem Sig.put_ne (σ : Sig) {m j : Nat} (p : Pl) (h : j ≠ m) : σ.put m p j = σ j := by simp [Sig.put, h]

/-- A new block. -/
theorem Inv.new {N0 : Nat} {w0 : World} {σ : Sig} {h : AHeap} {w : World} (hI : Inv N0 w0 σ h w) (o : AObj) (o' : Obj) (room : Option (Nat × Nat)) (hown0 : o.own = true) {lp : Option Loop}
    (ho : o.at (h.next + 1) (σ.put h.next ⟨w.heap.size, 0, room, true, lp⟩) { w with heap := w.heap.push o' } ⟨w.heap.size, 0, room, true, lp⟩) :
    Inv N0 w0 (σ.put h.next ⟨w.heap.size, 0, room, true, lp⟩) (h.new o) { w with heap := w.heap.push o' } ∧
      Go' σ h w (σ.put h.next ⟨w.heap.size, 0, room, true, lp⟩) (h.new o) { w with heap := w.heap.push o' } := by
  have hs : ∀ m, m < h.next → σ.put h.next ⟨w.heap.size, 0, room, true, lp⟩ m = σ m := fun m hm => Sig.put_ne _ _ (by omega)
  have hold : ∀ b, b < w.heap.size → (w.heap.push o')[b]? = w.heap[b]? := fun b hb => by rw [Array.getElem?_push, if_neg (by omega)]
  constructor
  · refine ⟨?_, ?_, ?_, ?_, ?_, ?_, ?_⟩
    · exact hI.below.trans ⟨rfl, rfl, rfl, by simp, fun k hk => hold k (by have := hI.base; omega)⟩
    · intro m hm
      rw [AHeap.next_new] at hm
      rw [AHeap.get_new, if_neg (by omega)]
      exact hI.fresh m (by omega)
    · intro m
      rw [AHeap.next_new, AHeap.get_new]
      by_cases e : m = h.next
      · rw [if_pos e]; subst e; rw [Sig.put_same]; exact ho
      · rw [if_neg e, Sig.put_ne _ _ e]
        exact AObj.at_mono (hI.obj m) (by omega) hs rfl (fun hl => hold _ (hI.lt_size hl))
    · intro m hm
      rw [AHeap.get_new] at hm
      by_cases e : m = h.next
      · subst e; rw [Sig.put_same]; exact hI.base
      · rw [if_neg e] at hm; rw [Sig.put_ne _ _ e]; exact hI.low m hm
    · intro m hm hm2
      rw [AHeap.get_new] at hm hm2
      by_cases e : m = h.next
      · rw [if_pos e, hown0] at hm2; cases hm2
      · rw [if_neg e] at hm hm2; rw [Sig.put_ne _ _ e]; exact hI.high m hm hm2
    · intro m m' hm hm' hne
      rw [AHeap.get_new] at hm hm'
      by_cases e : m = h.next
      · subst e
        rw [if_neg (fun e => hne e.symm)] at hm'
        rw [Sig.put_same, Sig.put_ne _ _ (fun e => hne e.symm)]
        have := hI.lt_size hm'
        simp; omega
      · rw [if_neg e] at hm
        have hown : (h.get m).live = true := by revert hm; cases h.get m <;> simp [AObj.own, AObj.live]
        rw [Sig.put_ne _ _ e]
        by_cases e' : m' = h.next
        · subst e'; rw [Sig.put_same]; have := hI.lt_size hown; simp; omega
        · rw [if_neg e'] at hm'; rw [Sig.put_ne _ _ e']; exact hI.inj m m' hm hm' hne
    · have := hI.base; simp; omega
  · refine ⟨by simp, hs, by simp, fun b hb _ => hold b hb, ?_⟩
    rintro b ⟨m, hm, rfl⟩
    rw [AHeap.get_new] at hm
    by_cases e : m = h.next
    · subst e; rw [Sig.put_same]; exact .inr (Nat.le_refl _)
    · rw [if_neg e] at hm; rw [Sig.put_ne _ _ e]; exact .inl ⟨m, hm, rfl⟩

/-- An own block is written. -/
theorem Inv.write {N0 : Nat} {w0 : World} {σ : Sig} {h : AHeap} {w w' : World} (hI : Inv N0 w0 σ h w) (m : Nat) (o : AObj) (hown : (h.get m).own = true)
    (ho : o.at h.next σ w' (σ m)) (hown' : o.own = true) (hos : w'.os = w.os) (htape : w'.tape = w.tape) (hout : w'.output = w.output) (hsz : w'.heap.size = w.heap.size)
    (hw : ∀ b, b ≠ (σ m).blk → w'.heap[b]? = w.heap[b]?) :
    Inv N0 w0 σ (h.set m o) w' ∧ Go' σ h w σ (h.set m o) w' := by
  have hlow := hI.low m hown
  have hlive : (h.get m).live = true := by revert hown; cases h.get m <;> simp [AObj.own, AObj.live]
  constructor
  · refine ⟨?_, ?_, ?_, ?_, ?_, ?_, ?_⟩
    · exact hI.below.trans ⟨hos, htape, hout, by omega, fun k hk => hw k (by omega)⟩
    · intro j hj
      rw [AHeap.get_set, if_neg (by have := hI.lt_next hlive; simp at hj; omega)]
      exact hI.fresh j hj
    · intro j
      rw [AHeap.get_set]
      by_cases e : j = m
      · rw [if_pos e]; subst e; exact ho
      · rw [if_neg e]
        exact AObj.at_mono (hI.obj j) (Nat.le_refl _) (fun _ _ => rfl) rfl (fun hl => hw _ (fun e2 => hI.inj m j hown hl (fun e3 => e e3.symm) e2.symm))
    · intro j hj
      rw [AHeap.get_set] at hj
      by_cases e : j = m
      · subst e; exact hlow
      · rw [if_neg e] at hj; exact hI.low j hj
    · intro j hj hj2
      rw [AHeap.get_set] at hj hj2
      by_cases e : j = m
      · rw [if_pos e, hown'] at hj2; cases hj2
      · rw [if_neg e] at hj hj2; exact hI.high j hj hj2
    · intro j j' hj hj' hne
      rw [AHeap.get_set] at hj hj'
      have h1 : (h.get j).own = true := by
        by_cases e : j = m
        · subst e; exact hown
        · rwa [if_neg e] at hj
      have h2 : (h.get j').live = true := by
        by_cases e : j' = m
        · subst e; exact hlive
        · rwa [if_neg e] at hj'
      exact hI.inj j j' h1 h2 hne
    · rw [hsz]; exact hI.base
  · refine ⟨Nat.le_refl _, fun _ _ => rfl, by omega, fun b hb hn => hw b (fun e => hn ⟨m, hown, e.symm⟩), ?_⟩
    rintro b ⟨j, hj, rfl⟩
    rw [AHeap.get_set] at hj
    by_cases e : j = m
    · subst e; exact .inl ⟨j, hown, rfl⟩
    · rw [if_neg e] at hj; exact .inl ⟨j, hj, rfl⟩

/-- A block is forgotten. -/
theorem Inv.kill {N0 : Nat} {w0 : World} {σ : Sig} {h : AHeap} {w : World} (hI : Inv N0 w0 σ h w) (m : Nat) (hm : m < h.next) :
    Inv N0 w0 σ (h.set m .dead) w ∧ Go' σ h w σ (h.set m .dead) w := by
  constructor
  · refine ⟨hI.below, ?_, ?_, ?_, ?_, ?_, hI.base⟩
    · intro j hj
      rw [AHeap.get_set]
      split
      · rfl
      · exact hI.fresh j hj
    · intro j
      rw [AHeap.get_set]
      split
      · trivial
      · exact hI.obj j
    · intro j hj
      rw [AHeap.get_set] at hj
      split at hj
      · simp [AObj.own] at hj
      · exact hI.low j hj
    · intro j hj hj2
      rw [AHeap.get_set] at hj hj2
      split at hj
      · simp [AObj.live] at hj
      · rename_i e; rw [if_neg e] at hj2; exact hI.high j hj hj2
    · intro j j' hj hj' hne
      rw [AHeap.get_set] at hj hj'
      split at hj
      · simp [AObj.own] at hj
      · split at hj'
        · simp [AObj.live] at hj'
        · exact hI.inj j j' hj hj' hne
  · refine ⟨Nat.le_refl _, fun _ _ => rfl, Nat.le_refl _, fun _ _ _ => rfl, ?_⟩
    rintro b ⟨j, hj, rfl⟩
    rw [AHeap.get_set] at hj
    split at hj
    · simp [AObj.own] at hj
    · exact .inl ⟨j, hj, rfl⟩

/-- A block that may grow has grown where it lies: it is another abstract block now. -/
theorem Inv.regrow {N0 : Nat} {w0 : World} {σ : Sig} {h : AHeap} {w w' : World} (hI : Inv N0 w0 σ h w) (m : Nat) (o : AObj) (p : Pl) (hown : (h.get m).own = true) (hown0 : o.own = true) (hp : p.blk = (σ m).blk)
    (ho : o.at (h.next + 1) (σ.put h.next p) w' p) (hos : w'.os = w.os) (htape : w'.tape = w.tape) (hout : w'.output = w.output) (hsz : w'.heap.size = w.heap.size)
    (hw : ∀ b, b ≠ (σ m).blk → w'.heap[b]? = w.heap[b]?) :
    Inv N0 w0 (σ.put h.next p) ((h.set m .dead).new o) w' ∧ Go' σ h w (σ.put h.next p) ((h.set m .dead).new o) w' := by
  have hlow := hI.low m hown
  have hlive : (h.get m).live = true := by revert hown; cases h.get m <;> simp [AObj.own, AObj.live]
  have hmn := hI.lt_next hlive
  have hs : ∀ j, j < h.next → σ.put h.next p j = σ j := fun j hj => Sig.put_ne _ _ (by omega)
  have hget : ∀ j, ((h.set m .dead).new o).get j = if j = h.next then o else if j = m then .dead else h.get j := fun j => by
    rw [AHeap.get_new, AHeap.get_set]; rfl
  constructor
  · refine ⟨?_, ?_, ?_, ?_, ?_, ?_, ?_⟩
    · exact hI.below.trans ⟨hos, htape, hout, by omega, fun k hk => hw k (by omega)⟩
    · intro j hj
      simp at hj
      rw [hget, if_neg (by omega)]
      split
      · rfl
      · exact hI.fresh j (by omega)
    · intro j
      rw [hget]
      show AObj.at (h.next + 1) _ _ _ _
      by_cases e : j = h.next
      · rw [if_pos e]; subst e; rw [Sig.put_same]; exact ho
      · rw [if_neg e, Sig.put_ne _ _ e]
        by_cases e2 : j = m
        · rw [if_pos e2]; trivial
        · rw [if_neg e2]
          exact AObj.at_mono (hI.obj j) (by omega) hs rfl (fun hl => hw _ (fun e3 => hI.inj m j hown hl (fun e4 => e2 e4.symm) e3.symm))
    · intro j hj
      rw [hget] at hj
      by_cases e : j = h.next
      · subst e; rw [Sig.put_same, hp]; exact hlow
      · rw [if_neg e] at hj
        by_cases e2 : j = m
        · rw [if_pos e2] at hj; simp [AObj.own] at hj
        · rw [if_neg e2] at hj; rw [Sig.put_ne _ _ e]; exact hI.low j hj
    · intro j hj hj2
      rw [hget] at hj hj2
      by_cases e : j = h.next
      · rw [if_pos e, hown0] at hj2; cases hj2
      · rw [if_neg e] at hj hj2
        by_cases e2 : j = m
        · rw [if_pos e2] at hj; simp [AObj.live] at hj
        · rw [if_neg e2] at hj hj2; rw [Sig.put_ne _ _ e]; exact hI.high j hj hj2
    · intro j j' hj hj' hne
      rw [hget] at hj hj'
      by_cases e : j = h.next
      · subst e
        rw [if_neg (fun e => hne e.symm)] at hj'
        by_cases e2 : j' = m
        · rw [if_pos e2] at hj'; simp [AObj.live] at hj'
        · rw [if_neg e2] at hj'
          rw [Sig.put_same, hp, Sig.put_ne _ _ (fun e => hne e.symm)]
          exact hI.inj m j' hown hj' (fun e => e2 e.symm)
      · rw [if_neg e] at hj
        by_cases e2 : j = m
        · rw [if_pos e2] at hj; simp [AObj.own] at hj
        · rw [if_neg e2] at hj
          rw [Sig.put_ne _ _ e]
          by_cases e3 : j' = h.next
          · subst e3; rw [Sig.put_same, hp]; exact hI.inj j m hj hlive e2
          · rw [if_neg e3] at hj'
            rw [Sig.put_ne _ _ e3]
            by_cases e4 : j' = m
            · rw [if_pos e4] at hj'; simp [AObj.live] at hj'
            · rw [if_neg e4] at hj'; exact hI.inj j j' hj hj' hne
    · rw [hsz]; exact hI.base
  · refine ⟨by simp, hs, by omega, fun b hb hn => hw b (fun e => hn ⟨m, hown, e.symm⟩), ?_⟩
    rintro b ⟨j, hj, rfl⟩
    rw [hget] at hj
    by_cases e : j = h.next
    · subst e; rw [Sig.put_same, hp]; exact .inl ⟨m, hown, rfl⟩
    · rw [if_neg e] at hj
      by_cases e2 : j = m
      · rw [if_pos e2] at hj; simp [AObj.own] at hj
      · rw [if_neg e2] at hj; rw [Sig.put_ne _ _ e]; exact .inl ⟨j, hj, rfl⟩

end Go.AM
