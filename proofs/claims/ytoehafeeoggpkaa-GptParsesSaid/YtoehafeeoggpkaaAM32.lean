import Derived.Test.YtoehafeeoggpkaaAM26
set_option linter.unusedVariables false
set_option linter.unusedSimpArgs false
/-! Part 32: the executor once more, as the kernel runs it quickly: rows for the temporaries, steps by recursors, continuations. -/
namespace Go.AM
noncomputable section
structure RV1 where
  (x0 x1 x2 x3 x4 x5 x6 x7 x8 x9 x10 x11 x12 x13 x14 x15 : Value)
structure RV1.G where
  fn : RV1 → Value
structure RV1.P where
  fn : RV1 → Value → RV1
noncomputable def RV1.g (n : Nat) : RV1.G :=
  n.rec ⟨fun r => r.x0⟩ fun n _ =>
  n.rec ⟨fun r => r.x1⟩ fun n _ =>
  n.rec ⟨fun r => r.x2⟩ fun n _ =>
  n.rec ⟨fun r => r.x3⟩ fun n _ =>
  n.rec ⟨fun r => r.x4⟩ fun n _ =>
  n.rec ⟨fun r => r.x5⟩ fun n _ =>
  n.rec ⟨fun r => r.x6⟩ fun n _ =>
  n.rec ⟨fun r => r.x7⟩ fun n _ =>
  n.rec ⟨fun r => r.x8⟩ fun n _ =>
  n.rec ⟨fun r => r.x9⟩ fun n _ =>
  n.rec ⟨fun r => r.x10⟩ fun n _ =>
  n.rec ⟨fun r => r.x11⟩ fun n _ =>
  n.rec ⟨fun r => r.x12⟩ fun n _ =>
  n.rec ⟨fun r => r.x13⟩ fun n _ =>
  n.rec ⟨fun r => r.x14⟩ fun n _ =>
  ⟨fun r => r.x15⟩
noncomputable def RV1.p (n : Nat) : RV1.P :=
  n.rec ⟨fun r v => @RV1.rec (fun _ => Value → RV1) (fun x0 x1 x2 x3 x4 x5 x6 x7 x8 x9 x10 x11 x12 x13 x14 x15 v => ⟨v, x1, x2, x3, x4, x5, x6, x7, x8, x9, x10, x11, x12, x13, x14, x15⟩) r v⟩ fun n _ =>
  n.rec ⟨fun r v => @RV1.rec (fun _ => Value → RV1) (fun x0 x1 x2 x3 x4 x5 x6 x7 x8 x9 x10 x11 x12 x13 x14 x15 v => ⟨x0, v, x2, x3, x4, x5, x6, x7, x8, x9, x10, x11, x12, x13, x14, x15⟩) r v⟩ fun n _ =>
  n.rec ⟨fun r v => @RV1.rec (fun _ => Value → RV1) (fun x0 x1 x2 x3 x4 x5 x6 x7 x8 x9 x10 x11 x12 x13 x14 x15 v => ⟨x0, x1, v, x3, x4, x5, x6, x7, x8, x9, x10, x11, x12, x13, x14, x15⟩) r v⟩ fun n _ =>
  n.rec ⟨fun r v => @RV1.rec (fun _ => Value → RV1) (fun x0 x1 x2 x3 x4 x5 x6 x7 x8 x9 x10 x11 x12 x13 x14 x15 v => ⟨x0, x1, x2, v, x4, x5, x6, x7, x8, x9, x10, x11, x12, x13, x14, x15⟩) r v⟩ fun n _ =>
  n.rec ⟨fun r v => @RV1.rec (fun _ => Value → RV1) (fun x0 x1 x2 x3 x4 x5 x6 x7 x8 x9 x10 x11 x12 x13 x14 x15 v => ⟨x0, x1, x2, x3, v, x5, x6, x7, x8, x9, x10, x11, x12, x13, x14, x15⟩) r v⟩ fun n _ =>
  n.rec ⟨fun r v => @RV1.rec (fun _ => Value → RV1) (fun x0 x1 x2 x3 x4 x5 x6 x7 x8 x9 x10 x11 x12 x13 x14 x15 v => ⟨x0, x1, x2, x3, x4, v, x6, x7, x8, x9, x10, x11, x12, x13, x14, x15⟩) r v⟩ fun n _ =>
  n.rec ⟨fun r v => @RV1.rec (fun _ => Value → RV1) (fun x0 x1 x2 x3 x4 x5 x6 x7 x8 x9 x10 x11 x12 x13 x14 x15 v => ⟨x0, x1, x2, x3, x4, x5, v, x7, x8, x9, x10, x11, x12, x13, x14, x15⟩) r v⟩ fun n _ =>
  n.rec ⟨fun r v => @RV1.rec (fun _ => Value → RV1) (fun x0 x1 x2 x3 x4 x5 x6 x7 x8 x9 x10 x11 x12 x13 x14 x15 v => ⟨x0, x1, x2, x3, x4, x5, x6, v, x8, x9, x10, x11, x12, x13, x14, x15⟩) r v⟩ fun n _ =>
  n.rec ⟨fun r v => @RV1.rec (fun _ => Value → RV1) (fun x0 x1 x2 x3 x4 x5 x6 x7 x8 x9 x10 x11 x12 x13 x14 x15 v => ⟨x0, x1, x2, x3, x4, x5, x6, x7, v, x9, x10, x11, x12, x13, x14, x15⟩) r v⟩ fun n _ =>
  n.rec ⟨fun r v => @RV1.rec (fun _ => Value → RV1) (fun x0 x1 x2 x3 x4 x5 x6 x7 x8 x9 x10 x11 x12 x13 x14 x15 v => ⟨x0, x1, x2, x3, x4, x5, x6, x7, x8, v, x10, x11, x12, x13, x14, x15⟩) r v⟩ fun n _ =>
  n.rec ⟨fun r v => @RV1.rec (fun _ => Value → RV1) (fun x0 x1 x2 x3 x4 x5 x6 x7 x8 x9 x10 x11 x12 x13 x14 x15 v => ⟨x0, x1, x2, x3, x4, x5, x6, x7, x8, x9, v, x11, x12, x13, x14, x15⟩) r v⟩ fun n _ =>
  n.rec ⟨fun r v => @RV1.rec (fun _ => Value → RV1) (fun x0 x1 x2 x3 x4 x5 x6 x7 x8 x9 x10 x11 x12 x13 x14 x15 v => ⟨x0, x1, x2, x3, x4, x5, x6, x7, x8, x9, x10, v, x12, x13, x14, x15⟩) r v⟩ fun n _ =>
  n.rec ⟨fun r v => @RV1.rec (fun _ => Value → RV1) (fun x0 x1 x2 x3 x4 x5 x6 x7 x8 x9 x10 x11 x12 x13 x14 x15 v => ⟨x0, x1, x2, x3, x4, x5, x6, x7, x8, x9, x10, x11, v, x13, x14, x15⟩) r v⟩ fun n _ =>
  n.rec ⟨fun r v => @RV1.rec (fun _ => Value → RV1) (fun x0 x1 x2 x3 x4 x5 x6 x7 x8 x9 x10 x11 x12 x13 x14 x15 v => ⟨x0, x1, x2, x3, x4, x5, x6, x7, x8, x9, x10, x11, x12, v, x14, x15⟩) r v⟩ fun n _ =>
  n.rec ⟨fun r v => @RV1.rec (fun _ => Value → RV1) (fun x0 x1 x2 x3 x4 x5 x6 x7 x8 x9 x10 x11 x12 x13 x14 x15 v => ⟨x0, x1, x2, x3, x4, x5, x6, x7, x8, x9, x10, x11, x12, x13, v, x15⟩) r v⟩ fun n _ =>
  ⟨fun r v => @RV1.rec (fun _ => Value → RV1) (fun x0 x1 x2 x3 x4 x5 x6 x7 x8 x9 x10 x11 x12 x13 x14 x15 v => ⟨x0, x1, x2, x3, x4, x5, x6, x7, x8, x9, x10, x11, x12, x13, x14, v⟩) r v⟩
def RV1.zero : RV1 := ⟨undef, undef, undef, undef, undef, undef, undef, undef, undef, undef, undef, undef, undef, undef, undef, undef⟩
theorem RV1.gp (r : RV1) (v : Value) : ∀ i j, i < 16 → j < 16 → (RV1.g j).fn ((RV1.p i).fn r v) = if j = i then v else (RV1.g j).fn r := by
  intro i j hi hj
  rcases r with ⟨x0, x1, x2, x3, x4, x5, x6, x7, x8, x9, x10, x11, x12, x13, x14, x15⟩
  have hi' : i = 0 ∨ i = 1 ∨ i = 2 ∨ i = 3 ∨ i = 4 ∨ i = 5 ∨ i = 6 ∨ i = 7 ∨ i = 8 ∨ i = 9 ∨ i = 10 ∨ i = 11 ∨ i = 12 ∨ i = 13 ∨ i = 14 ∨ i = 15 := by omega
  have hj' : j = 0 ∨ j = 1 ∨ j = 2 ∨ j = 3 ∨ j = 4 ∨ j = 5 ∨ j = 6 ∨ j = 7 ∨ j = 8 ∨ j = 9 ∨ j = 10 ∨ j = 11 ∨ j = 12 ∨ j = 13 ∨ j = 14 ∨ j = 15 := by omega
  rcases hi' with rfl | rfl | rfl | rfl | rfl | rfl | rfl | rfl | rfl | rfl | rfl | rfl | rfl | rfl | rfl | rfl <;> rcases hj' with rfl | rfl | rfl | rfl | rfl | rfl | rfl | rfl | rfl | rfl | rfl | rfl | rfl | rfl | rfl | rfl <;> rfl
theorem RV1.gz : ∀ j, j < 16 → (RV1.g j).fn RV1.zero = undef := by
  intro j hj
  have hj' : j = 0 ∨ j = 1 ∨ j = 2 ∨ j = 3 ∨ j = 4 ∨ j = 5 ∨ j = 6 ∨ j = 7 ∨ j = 8 ∨ j = 9 ∨ j = 10 ∨ j = 11 ∨ j = 12 ∨ j = 13 ∨ j = 14 ∨ j = 15 := by omega
  rcases hj' with rfl | rfl | rfl | rfl | rfl | rfl | rfl | rfl | rfl | rfl | rfl | rfl | rfl | rfl | rfl | rfl <;> rfl
structure RV2 where
  (x0 x1 x2 x3 x4 x5 x6 x7 x8 x9 x10 x11 x12 x13 x14 x15 : RV1)
structure RV2.G where
  fn : RV2 → RV1
structure RV2.P where
  fn : RV2 → RV1 → RV2
noncomputable def RV2.g (n : Nat) : RV2.G :=
  n.rec ⟨fun r => r.x0⟩ fun n _ =>
  n.rec ⟨fun r => r.x1⟩ fun n _ =>
  n.rec ⟨fun r => r.x2⟩ fun n _ =>
  n.rec ⟨fun r => r.x3⟩ fun n _ =>
  n.rec ⟨fun r => r.x4⟩ fun n _ =>
  n.rec ⟨fun r => r.x5⟩ fun n _ =>
  n.rec ⟨fun r => r.x6⟩ fun n _ =>
  n.rec ⟨fun r => r.x7⟩ fun n _ =>
  n.rec ⟨fun r => r.x8⟩ fun n _ =>
  n.rec ⟨fun r => r.x9⟩ fun n _ =>
  n.rec ⟨fun r => r.x10⟩ fun n _ =>
  n.rec ⟨fun r => r.x11⟩ fun n _ =>
  n.rec ⟨fun r => r.x12⟩ fun n _ =>
  n.rec ⟨fun r => r.x13⟩ fun n _ =>
  n.rec ⟨fun r => r.x14⟩ fun n _ =>
  ⟨fun r => r.x15⟩
noncomputable def RV2.p (n : Nat) : RV2.P :=
  n.rec ⟨fun r v => @RV2.rec (fun _ => RV1 → RV2) (fun x0 x1 x2 x3 x4 x5 x6 x7 x8 x9 x10 x11 x12 x13 x14 x15 v => ⟨v, x1, x2, x3, x4, x5, x6, x7, x8, x9, x10, x11, x12, x13, x14, x15⟩) r v⟩ fun n _ =>
  n.rec ⟨fun r v => @RV2.rec (fun _ => RV1 → RV2) (fun x0 x1 x2 x3 x4 x5 x6 x7 x8 x9 x10 x11 x12 x13 x14 x15 v => ⟨x0, v, x2, x3, x4, x5, x6, x7, x8, x9, x10, x11, x12, x13, x14, x15⟩) r v⟩ fun n _ =>
  n.rec ⟨fun r v => @RV2.rec (fun _ => RV1 → RV2) (fun x0 x1 x2 x3 x4 x5 x6 x7 x8 x9 x10 x11 x12 x13 x14 x15 v => ⟨x0, x1, v, x3, x4, x5, x6, x7, x8, x9, x10, x11, x12, x13, x14, x15⟩) r v⟩ fun n _ =>
  n.rec ⟨fun r v => @RV2.rec (fun _ => RV1 → RV2) (fun x0 x1 x2 x3 x4 x5 x6 x7 x8 x9 x10 x11 x12 x13 x14 x15 v => ⟨x0, x1, x2, v, x4, x5, x6, x7, x8, x9, x10, x11, x12, x13, x14, x15⟩) r v⟩ fun n _ =>
  n.rec ⟨fun r v => @RV2.rec (fun _ => RV1 → RV2) (fun x0 x1 x2 x3 x4 x5 x6 x7 x8 x9 x10 x11 x12 x13 x14 x15 v => ⟨x0, x1, x2, x3, v, x5, x6, x7, x8, x9, x10, x11, x12, x13, x14, x15⟩) r v⟩ fun n _ =>
  n.rec ⟨fun r v => @RV2.rec (fun _ => RV1 → RV2) (fun x0 x1 x2 x3 x4 x5 x6 x7 x8 x9 x10 x11 x12 x13 x14 x15 v => ⟨x0, x1, x2, x3, x4, v, x6, x7, x8, x9, x10, x11, x12, x13, x14, x15⟩) r v⟩ fun n _ =>
  n.rec ⟨fun r v => @RV2.rec (fun _ => RV1 → RV2) (fun x0 x1 x2 x3 x4 x5 x6 x7 x8 x9 x10 x11 x12 x13 x14 x15 v => ⟨x0, x1, x2, x3, x4, x5, v, x7, x8, x9, x10, x11, x12, x13, x14, x15⟩) r v⟩ fun n _ =>
  n.rec ⟨fun r v => @RV2.rec (fun _ => RV1 → RV2) (fun x0 x1 x2 x3 x4 x5 x6 x7 x8 x9 x10 x11 x12 x13 x14 x15 v => ⟨x0, x1, x2, x3, x4, x5, x6, v, x8, x9, x10, x11, x12, x13, x14, x15⟩) r v⟩ fun n _ =>
  n.rec ⟨fun r v => @RV2.rec (fun _ => RV1 → RV2) (fun x0 x1 x2 x3 x4 x5 x6 x7 x8 x9 x10 x11 x12 x13 x14 x15 v => ⟨x0, x1, x2, x3, x4, x5, x6, x7, v, x9, x10, x11, x12, x13, x14, x15⟩) r v⟩ fun n _ =>
  n.rec ⟨fun r v => @RV2.rec (fun _ => RV1 → RV2) (fun x0 x1 x2 x3 x4 x5 x6 x7 x8 x9 x10 x11 x12 x13 x14 x15 v => ⟨x0, x1, x2, x3, x4, x5, x6, x7, x8, v, x10, x11, x12, x13, x14, x15⟩) r v⟩ fun n _ =>
  n.rec ⟨fun r v => @RV2.rec (fun _ => RV1 → RV2) (fun x0 x1 x2 x3 x4 x5 x6 x7 x8 x9 x10 x11 x12 x13 x14 x15 v => ⟨x0, x1, x2, x3, x4, x5, x6, x7, x8, x9, v, x11, x12, x13, x14, x15⟩) r v⟩ fun n _ =>
  n.rec ⟨fun r v => @RV2.rec (fun _ => RV1 → RV2) (fun x0 x1 x2 x3 x4 x5 x6 x7 x8 x9 x10 x11 x12 x13 x14 x15 v => ⟨x0, x1, x2, x3, x4, x5, x6, x7, x8, x9, x10, v, x12, x13, x14, x15⟩) r v⟩ fun n _ =>
  n.rec ⟨fun r v => @RV2.rec (fun _ => RV1 → RV2) (fun x0 x1 x2 x3 x4 x5 x6 x7 x8 x9 x10 x11 x12 x13 x14 x15 v => ⟨x0, x1, x2, x3, x4, x5, x6, x7, x8, x9, x10, x11, v, x13, x14, x15⟩) r v⟩ fun n _ =>
  n.rec ⟨fun r v => @RV2.rec (fun _ => RV1 → RV2) (fun x0 x1 x2 x3 x4 x5 x6 x7 x8 x9 x10 x11 x12 x13 x14 x15 v => ⟨x0, x1, x2, x3, x4, x5, x6, x7, x8, x9, x10, x11, x12, v, x14, x15⟩) r v⟩ fun n _ =>
  n.rec ⟨fun r v => @RV2.rec (fun _ => RV1 → RV2) (fun x0 x1 x2 x3 x4 x5 x6 x7 x8 x9 x10 x11 x12 x13 x14 x15 v => ⟨x0, x1, x2, x3, x4, x5, x6, x7, x8, x9, x10, x11, x12, x13, v, x15⟩) r v⟩ fun n _ =>
  ⟨fun r v => @RV2.rec (fun _ => RV1 → RV2) (fun x0 x1 x2 x3 x4 x5 x6 x7 x8 x9 x10 x11 x12 x13 x14 x15 v => ⟨x0, x1, x2, x3, x4, x5, x6, x7, x8, x9, x10, x11, x12, x13, x14, v⟩) r v⟩
def RV2.zero : RV2 := ⟨RV1.zero, RV1.zero, RV1.zero, RV1.zero, RV1.zero, RV1.zero, RV1.zero, RV1.zero, RV1.zero, RV1.zero, RV1.zero, RV1.zero, RV1.zero, RV1.zero, RV1.zero, RV1.zero⟩
theorem RV2.gp (r : RV2) (v : RV1) : ∀ i j, i < 16 → j < 16 → (RV2.g j).fn ((RV2.p i).fn r v) = if j = i then v else (RV2.g j).fn r := by
  intro i j hi hj
  rcases r with ⟨x0, x1, x2, x3, x4, x5, x6, x7, x8, x9, x10, x11, x12, x13, x14, x15⟩
  have hi' : i = 0 ∨ i = 1 ∨ i = 2 ∨ i = 3 ∨ i = 4 ∨ i = 5 ∨ i = 6 ∨ i = 7 ∨ i = 8 ∨ i = 9 ∨ i = 10 ∨ i = 11 ∨ i = 12 ∨ i = 13 ∨ i = 14 ∨ i = 15 := by omega
  have hj' : j = 0 ∨ j = 1 ∨ j = 2 ∨ j = 3 ∨ j = 4 ∨ j = 5 ∨ j = 6 ∨ j = 7 ∨ j = 8 ∨ j = 9 ∨ j = 10 ∨ j = 11 ∨ j = 12 ∨ j = 13 ∨ j = 14 ∨ j = 15 := by omega
  rcases hi' with rfl | rfl | rfl | rfl | rfl | rfl | rfl | rfl | rfl | rfl | rfl | rfl | rfl | rfl | rfl | rfl <;> rcases hj' with rfl | rfl | rfl | rfl | rfl | rfl | rfl | rfl | rfl | rfl | rfl | rfl | rfl | rfl | rfl | rfl <;> rfl
theorem RV2.gz : ∀ j, j < 16 → (RV2.g j).fn RV2.zero = RV1.zero := by
  intro j hj
  have hj' : j = 0 ∨ j = 1 ∨ j = 2 ∨ j = 3 ∨ j = 4 ∨ j = 5 ∨ j = 6 ∨ j = 7 ∨ j = 8 ∨ j = 9 ∨ j = 10 ∨ j = 11 ∨ j = 12 ∨ j = 13 ∨ j = 14 ∨ j = 15 := by omega
  rcases hj' with rfl | rfl | rfl | rfl | rfl | rfl | rfl | rfl | rfl | rfl | rfl | rfl | rfl | rfl | rfl | rfl <;> rfl
structure Ev where
  x : RV2
  y : Tr Value
def Ev.getS (e : Ev) (k : Nat) : Value := (e.y.get k).getD undef
def Ev.getF (e : Ev) (k : Nat) : Value := (RV1.g (Nat.mod k 16)).fn ((RV2.g (Nat.div k 16)).fn e.x)
def Ev.get (e : Ev) (k : Nat) : Value := @Bool.rec (fun _ => Ev → Nat → Value) Ev.getS Ev.getF (Nat.ble k 255) e k
def Ev.setS (e : Ev) (k : Nat) (v : Value) : Ev := ⟨e.x, e.y.set k v⟩
def Ev.setF (e : Ev) (k : Nat) (v : Value) : Ev := ⟨(RV2.p (Nat.div k 16)).fn e.x ((RV1.p (Nat.mod k 16)).fn ((RV2.g (Nat.div k 16)).fn e.x) v), e.y⟩
def Ev.set (e : Ev) (k : Nat) (v : Value) : Ev := @Bool.rec (fun _ => Ev → Nat → Value → Ev) Ev.setS Ev.setF (Nat.ble k 255) e k v
def Ev.zero : Ev := ⟨RV2.zero, .leaf⟩
theorem ble_false {a b : Nat} (h : ¬ a ≤ b) : Nat.ble a b = false := by
  cases e : Nat.ble a b with
  | false => rfl
  | true => exact absurd (Nat.le_of_ble_eq_true e) h
theorem Ev.get_set (e : Ev) (m j : Nat) (v : Value) : (e.set m v).get j = if j = m then v else e.get j := by
  unfold Ev.get Ev.set Ev.getF Ev.setF
  simp only [modE, divE]
  by_cases hm : m ≤ 255 <;> by_cases hj : j ≤ 255
  · rw [Nat.ble_eq_true_of_le hm, Nat.ble_eq_true_of_le hj]
    simp only
    rw [RV2.gp _ _ _ _ (by omega) (by omega)]
    by_cases h1 : j / 16 = m / 16
    · rw [if_pos h1, RV1.gp _ _ _ _ (by omega) (by omega), h1]
      by_cases h2 : j = m
      · subst h2; simp
      · rw [if_neg h2, if_neg (by omega)]
    · rw [if_neg h1, if_neg (by omega)]
  · rw [Nat.ble_eq_true_of_le hm, ble_false hj, if_neg (by omega)]; rfl
  · rw [Nat.ble_eq_true_of_le hj, ble_false hm, if_neg (by omega)]; rfl
  · rw [ble_false hj, ble_false hm]
    show ((e.y.set m v).get j).getD undef = _
    rw [Tr.get_set]; split <;> rfl
theorem Ev.get_zero (m : Nat) : Ev.zero.get m = undef := by
  unfold Ev.get Ev.getF
  simp only [modE, divE]
  by_cases hm : m ≤ 255
  · rw [Nat.ble_eq_true_of_le hm]
    show (RV1.g _).fn ((RV2.g _).fn RV2.zero) = _
    rw [RV2.gz _ (by omega), RV1.gz _ (by omega)]
  · rw [ble_false hm]; rfl
def SimE (E : Ev) (T : Tr Value) : Prop := ∀ t, E.get t = (T.get t).getD undef
theorem SimE.set {E : Ev} {T : Tr Value} (h : SimE E T) (k : Nat) (v : Value) : SimE (E.set k v) (T.set k v) := by
  intro t
  rw [Ev.get_set, Tr.get_set]
  split
  · rfl
  · exact h t
theorem SimE.zero : SimE .zero .leaf := fun t => by rw [Ev.get_zero]; rfl
def fvalR (o : Operand) : Ev → Value := @Operand.rec (fun _ => Ev → Value) (fun t E => E.get t) (fun v _ => v) (fun _ _ => undef) (fun f _ => .func (.func f) #[] #[]) o
def fval (E : Ev) (o : Operand) : Value := fvalR o E
theorem SimE.val {E : Ev} {T : Tr Value} (h : SimE E T) : fval E = aeval T := by
  funext o
  cases o with
  | tmp t => exact h t
  | _ => rfl

/-! ## answers, and what is reckoned at once -/
abbrev R := Option (Value × AHeap)
def onR (o : R) (k : Value → AHeap → R) : R := @Option.rec (Value × AHeap) (fun _ => (Value → AHeap → R) → R) (fun _ => none) (fun p k => @Prod.rec Value AHeap (fun _ => (Value → AHeap → R) → R) (fun v h k => k v h) p k) o k
@[simp] theorem onR_some (v : Value) (h : AHeap) (k : Value → AHeap → R) : onR (some (v, h)) k = k v h := rfl
@[simp] theorem onR_none (k : Value → AHeap → R) : onR none k = none := rfl
theorem onR_spec {o : R} {k : Value → AHeap → R} {r : Value × AHeap} (h : onR o k = some r) : ∃ v h', o = some (v, h') ∧ k v h' = some r := by
  cases o with
  | none => cases h
  | some p => exact ⟨p.1, p.2, rfl, h⟩
def forceN (n : Nat) (f : Nat → R) : R := @Nat.rec (fun _ => (Nat → R) → R) (fun f => f .zero) (fun m _ f => f (.succ m)) n f
@[simp] theorem forceN_eq (n : Nat) (f : Nat → R) : forceN n f = f n := by cases n <;> rfl
def forceI (i : Int) (f : Int → R) : R := @Int.rec (fun _ => (Int → R) → R) (fun n f => forceN n fun n => f (.ofNat n)) (fun n f => forceN n fun n => f (.negSucc n)) i f
@[simp] theorem forceI_eq (n : Int) (f : Int → R) : forceI n f = f n := by cases n <;> simp [forceI]
def forceA (a : Addr) (f : Addr → R) : R := @Addr.rec (fun _ => (Addr → R) → R) (fun b o s f => forceN b fun b => forceN o fun o => f ⟨b, o, s⟩) a f
@[simp] theorem forceA_eq (n : Addr) (f : Addr → R) : forceA n f = f n := by cases n; simp [forceA]
def forceB (b : Bool) (f : Bool → R) : R := @Bool.rec (fun _ => (Bool → R) → R) (fun f => f false) (fun f => f true) b f
@[simp] theorem forceB_eq (b : Bool) (f : Bool → R) : forceB b f = f b := by cases b <;> rfl
def optA (a : Option Addr) (e : R) (f : Addr → R) : R := @Option.rec Addr (fun _ => R → (Addr → R) → R) (fun e _ => e) (fun a _ f => f a) a e f
def forceV (x : Value) (f : Value → R) : R := @Value.rec (fun _ => (Value → R) → R) (fun _ => Unit) (fun _ => Unit) (fun b f => forceB b fun b => f (.bool b)) (fun k n f => forceI n fun n => f (.int k n)) (fun k b f => f (.float k b)) (fun k a b f => f (.complex k a b)) (fun s f => f (.string s)) (fun a f => optA a (f (.pointer none)) fun a => forceA a fun a => f (.pointer (some a))) (fun a l c f => forceN l fun l => forceN c fun c => optA a (f (.slice none l c)) fun a => forceA a fun a => f (.slice (some a) l c)) (fun r f => f (.map r)) (fun r f => f (.chan r)) (fun fn a b _ _ f => f (.func fn a b)) (fun f => f .nilFunc) (fun t v _ f => f (.iface t v)) (fun f => f .nilIface) (fun a _ f => f (.agg a)) (fun a _ f => f (.tuple a)) (fun _ _ => ()) () (fun _ _ _ _ => ()) x f
@[simp] theorem forceV_eq (x : Value) (f : Value → R) : forceV x f = f x := by
  cases x with
  | bool b => simp [forceV]
  | int k n => simp [forceV]
  | pointer a => cases a <;> simp [forceV, optA]
  | slice a l c => cases a <;> simp [forceV, optA]
  | _ => rfl
def forceH (h : AHeap) (f : AHeap → R) : R := @AHeap.rec (fun _ => (AHeap → R) → R) (fun n t f => forceN n fun n => f ⟨n, t⟩) h f
@[simp] theorem forceH_eq (h : AHeap) (f : AHeap → R) : forceH h f = f h := by cases h; simp [forceH]

/-! ## looks at a value -/
def vInt (x : Value) (f : IntKind → Int → R) (e : R) : R := @Value.rec (fun _ => (IntKind → Int → R) → R → R) (fun _ => Unit) (fun _ => Unit) (fun _ f e => e) (fun k n f e => f k n) (fun _ _ f e => e) (fun _ _ _ f e => e) (fun _ f e => e) (fun _ f e => e) (fun _ _ _ f e => e) (fun _ f e => e) (fun _ f e => e) (fun _ _ _ _ _ f e => e) (fun f e => e) (fun _ _ _ f e => e) (fun f e => e) (fun _ _ f e => e) (fun _ _ f e => e) (fun _ _ => ()) () (fun _ _ _ _ => ()) x f e
def vBool (x : Value) (t f e : R) : R := @Value.rec (fun _ => R → R → R → R) (fun _ => Unit) (fun _ => Unit) (fun b t f e => @Bool.rec (fun _ => R → R → R) (fun t f => f) (fun t f => t) b t f) (fun _ _ t f e => e) (fun _ _ t f e => e) (fun _ _ _ t f e => e) (fun _ t f e => e) (fun _ t f e => e) (fun _ _ _ t f e => e) (fun _ t f e => e) (fun _ t f e => e) (fun _ _ _ _ _ t f e => e) (fun t f e => e) (fun _ _ _ t f e => e) (fun t f e => e) (fun _ _ t f e => e) (fun _ _ t f e => e) (fun _ _ => ()) () (fun _ _ _ _ => ()) x t f e
def plainS (s : Option Nat) (m o : Nat) (f : Nat → Nat → R) (e : R) : R := @Option.rec Nat (fun _ => Nat → Nat → (Nat → Nat → R) → R → R) (fun m o f e => f m o) (fun _ _ _ _ e => e) s m o f e
def plainA (a : Option Addr) (f : Nat → Nat → R) (e : R) : R := @Option.rec Addr (fun _ => (Nat → Nat → R) → R → R) (fun f e => e) (fun a f e => @Addr.rec (fun _ => (Nat → Nat → R) → R → R) (fun m o s f e => plainS s m o f e) a f e) a f e
def vPtr (x : Value) (f : Nat → Nat → R) (e : R) : R := @Value.rec (fun _ => (Nat → Nat → R) → R → R) (fun _ => Unit) (fun _ => Unit) (fun _ f e => e) (fun _ _ f e => e) (fun _ _ f e => e) (fun _ _ _ f e => e) (fun _ f e => e) (fun a f e => plainA a f e) (fun _ _ _ f e => e) (fun _ f e => e) (fun _ f e => e) (fun _ _ _ _ _ f e => e) (fun f e => e) (fun _ _ _ f e => e) (fun f e => e) (fun _ _ f e => e) (fun _ _ f e => e) (fun _ _ => ()) () (fun _ _ _ _ => ()) x f e
def vSl (x : Value) (f : Nat → Nat → Nat → Nat → R) (e : R) : R := @Value.rec (fun _ => (Nat → Nat → Nat → Nat → R) → R → R) (fun _ => Unit) (fun _ => Unit) (fun _ f e => e) (fun _ _ f e => e) (fun _ _ f e => e) (fun _ _ _ f e => e) (fun _ f e => e) (fun _ f e => e) (fun a l c f e => plainA a (fun m o => f m o l c) e) (fun _ f e => e) (fun _ f e => e) (fun _ _ _ _ _ f e => e) (fun f e => e) (fun _ _ _ f e => e) (fun f e => e) (fun _ _ f e => e) (fun _ _ f e => e) (fun _ _ => ()) () (fun _ _ _ _ => ()) x f e
def vLen (x : Value) (f : Nat → R) (e : R) : R := @Value.rec (fun _ => (Nat → R) → R → R) (fun _ => Unit) (fun _ => Unit) (fun _ f e => e) (fun _ _ f e => e) (fun _ _ f e => e) (fun _ _ _ f e => e) (fun _ f e => e) (fun _ f e => e) (fun _ l _ f e => f l) (fun _ f e => e) (fun _ f e => e) (fun _ _ _ _ _ f e => e) (fun f e => e) (fun _ _ _ f e => e) (fun f e => e) (fun _ _ f e => e) (fun _ _ f e => e) (fun _ _ => ()) () (fun _ _ _ _ => ()) x f e
def vTup (x : Value) (f : List Value → R) (e : R) : R := @Value.rec (fun _ => (List Value → R) → R → R) (fun _ => Unit) (fun _ => Unit) (fun _ f e => e) (fun _ _ f e => e) (fun _ _ f e => e) (fun _ _ _ f e => e) (fun _ f e => e) (fun _ f e => e) (fun _ _ _ f e => e) (fun _ f e => e) (fun _ f e => e) (fun _ _ _ _ _ f e => e) (fun f e => e) (fun _ _ _ f e => e) (fun f e => e) (fun _ _ f e => e) (fun a _ f e => @Array.rec Value (fun _ => (List Value → R) → R) (fun l f => f l) a f) (fun _ _ => ()) () (fun _ _ _ _ => ()) x f e
def cond2 (b : Bool) (t e : R) : R := @Bool.rec (fun _ => R → R → R) (fun t e => e) (fun t e => t) b t e
def intNat (i : Int) (f : Nat → R) (e : R) : R := @Int.rec (fun _ => (Nat → R) → R → R) (fun m f e => f m) (fun _ f e => e) i f e
theorem plainA_eq {a : Option Addr} {f : Nat → Nat → R} {e r : R} (h1 : ∀ m o, a = some ⟨m, o, none⟩ → f m o = r) (h2 : (∀ m o, a ≠ some ⟨m, o, none⟩) → e = r) : plainA a f e = r := by
  cases a with
  | none => exact h2 (fun m o => nofun)
  | some a =>
    obtain ⟨m, o, s⟩ := a
    cases s with
    | none => exact h1 m o rfl
    | some s => exact h2 (fun m o h => by cases h)
def onRow (ob : AObj) (f : Bool → Nat → Cells → R) : R := @AObj.rec (fun _ => (Bool → Nat → Cells → R) → R) (fun _ => none) (fun ro gr c f => f ro gr c) (fun _ _ _ => none) (fun _ _ => none) ob f
def lGet (l : List Value) (f : Value → R) : Nat → R := @List.rec Value (fun _ => Nat → R) (fun _ => none) (fun a _ ih i => @Nat.rec (fun _ => R) (f a) (fun j _ => ih j) i) l
theorem lGet_eq (f : Value → R) : ∀ (l : List Value) (i : Nat), lGet l f i = match l[i]? with | some v => f v | none => none
  | [], i => rfl
  | a :: l, 0 => rfl
  | a :: l, i + 1 => lGet_eq f l i
def cGetB (n len i : Nat) (f : Value → R) : R := cond2 (Nat.ble (Nat.succ i) len) (forceN (Nat.mod (Nat.shiftRight n (Nat.mul 8 i)) 256) fun b => f (.int .u8 (.ofNat b))) none
def cGet (c : Cells) (i : Nat) (f : Value → R) : R :=
  @Cells.rec (fun _ => Nat → (Value → R) → R) (fun l i f => lGet l f i) (fun n len i f => cGetB n len i f) c i f
theorem cGet_eq (c : Cells) (i : Nat) (f : Value → R) : cGet c i f = match c.get i with | some v => f v | none => none := by
  cases c with
  | vals l => exact lGet_eq f l i
  | bytes n len =>
    simp only [cGet, cGetB, cond2, Cells.get, forceN_eq]
    by_cases h : i < len
    · rw [if_pos h, show Nat.ble (Nat.succ i) len = true from Nat.ble_eq_true_of_le h]; rfl
    · rw [if_neg h, show Nat.ble (Nat.succ i) len = false from ble_false (by omega)]

/-! ## numbers -/
def fOk1 (c : Value → R) (k : IntKind) (s : Nat) : R := c (.int k (.ofNat s))
def fOk (k : IntKind) (s : Nat) (c : Value → R) (slow : R) : R := cond2 (Nat.ble (Nat.succ s) (capK k)) (forceN s (fOk1 c k)) slow
theorem fOk_eq {k : IntKind} {s : Nat} {c : Value → R} {slow : R} (h : s < capK k → c (.int k (.ofNat s)) = slow) : fOk k s c slow = slow := by
  unfold fOk cond2
  by_cases hs : s < capK k
  · rw [show Nat.ble (Nat.succ s) (capK k) = true from Nat.ble_eq_true_of_le hs]; simpa [fOk1] using h hs
  · rw [show Nat.ble (Nat.succ s) (capK k) = false from ble_false (by omega)]
def kTag (k : IntKind) : Nat := @IntKind.rec (fun _ => Nat) 0 1 2 3 4 5 6 7 k
theorem kTag_inj {a b : IntKind} (h : kTag a = kTag b) : a = b := by cases a <;> cases b <;> first | rfl | (exact absurd h (by decide))
/-- Two numbers, none of them below 0. -/
def fNN3 (f : IntKind → IntKind → Nat → Nat → R) (slow : R) (k k' : IntKind) (b : Int) (m : Nat) : R := intNat b (f k k' m) slow
def fNN2 (f : IntKind → IntKind → Nat → Nat → R) (slow : R) (k : IntKind) (a : Int) (k' : IntKind) (b : Int) : R := intNat a (fNN3 f slow k k' b) slow
def fNN1 (y : Value) (f : IntKind → IntKind → Nat → Nat → R) (slow : R) (k : IntKind) (a : Int) : R := vInt y (fNN2 f slow k a) slow
def fNN (x y : Value) (f : IntKind → IntKind → Nat → Nat → R) (slow : R) : R := vInt x (fNN1 y f slow) slow
theorem fNN_eq {x y : Value} {f : IntKind → IntKind → Nat → Nat → R} {slow : R} (h : ∀ k k' m n, x = .int k (.ofNat m) → y = .int k' (.ofNat n) → f k k' m n = slow) : fNN x y f slow = slow := by
  unfold fNN
  cases x with
  | int k a =>
    cases y with
    | int k' b =>
      cases a with
      | ofNat m =>
        cases b with
        | ofNat n => exact h k k' m n rfl rfl
        | negSucc n => rfl
      | negSucc m => rfl
    | _ => rfl
  | _ => rfl
def fKK1 (f : IntKind → Nat → Nat → R) (slow : R) (k k' : IntKind) (m n : Nat) : R := cond2 (Nat.beq (kTag k) (kTag k')) (f k m n) slow
def fKK (x y : Value) (f : IntKind → Nat → Nat → R) (slow : R) : R := fNN x y (fKK1 f slow) slow
theorem fKK_eq {x y : Value} {f : IntKind → Nat → Nat → R} {slow : R} (h : ∀ k m n, x = .int k (.ofNat m) → y = .int k (.ofNat n) → f k m n = slow) : fKK x y f slow = slow := by
  refine fNN_eq fun k k' m n hx hy => ?_
  unfold fKK1 cond2
  cases e : Nat.beq (kTag k) (kTag k') with
  | false => rfl
  | true =>
    have := kTag_inj (Nat.eq_of_beq_eq_true e)
    subst this
    exact h k m n hx hy
def fBoolR (b : Bool) (k : Value → R) : R := @Bool.rec (fun _ => (Value → R) → R) (fun k => k (.bool false)) (fun k => k (.bool true)) b k
@[simp] theorem fBoolR_eq (b : Bool) (k : Value → R) : fBoolR b k = k (.bool b) := by cases b <;> rfl
def fBits1 (g : Nat → Nat → Nat) (k : Value → R) (slow : R) (kd : IntKind) (m n : Nat) : R := cond2 (Nat.ble (Nat.succ m) (capK kd)) (cond2 (Nat.ble (Nat.succ n) (capK kd)) (forceN (g m n) (fOk1 k kd)) slow) slow
def fBits (g : Nat → Nat → Nat) (x y : Value) (k : Value → R) (slow : R) : R := fKK x y (fBits1 g k slow) slow
def fAdd1 (k : Value → R) (slow : R) (kd : IntKind) (m n : Nat) : R := fOk kd (Nat.add m n) k slow
def fSub1 (k : Value → R) (slow : R) (kd : IntKind) (m n : Nat) : R := cond2 (Nat.ble n m) (fOk kd (Nat.sub m n) k slow) slow
def fMul1 (k : Value → R) (slow : R) (kd : IntKind) (m n : Nat) : R := fOk kd (Nat.mul m n) k slow
def fQuo1 (k : Value → R) (slow : R) (kd : IntKind) (m n : Nat) : R := cond2 (Nat.ble 1 n) (fOk kd (Nat.div m n) k slow) slow
def fRem1 (k : Value → R) (slow : R) (kd : IntKind) (m n : Nat) : R := cond2 (Nat.ble 1 n) (forceN (Nat.mod m n) (fOk1 k kd)) slow
def fShl1 (k : Value → R) (slow : R) (kd _k' : IntKind) (m n : Nat) : R := cond2 (Nat.ble n (bitsN kd)) (fOk kd (Nat.shiftLeft m n) k slow) slow
def fShr1 (k : Value → R) (slow : R) (kd _k' : IntKind) (m n : Nat) : R := cond2 (Nat.ble n (bitsN kd)) (forceN (Nat.shiftRight m n) (fOk1 k kd)) slow
def fEql1 (k : Value → R) (_kd : IntKind) (m n : Nat) : R := fBoolR (Nat.beq m n) k
def fNeq1 (k : Value → R) (_kd : IntKind) (m n : Nat) : R := cond2 (Nat.beq m n) (k (.bool false)) (k (.bool true))
def fLss1 (k : Value → R) (_kd : IntKind) (m n : Nat) : R := fBoolR (Nat.ble (Nat.succ m) n) k
def fLeq1 (k : Value → R) (_kd : IntKind) (m n : Nat) : R := fBoolR (Nat.ble m n) k
def fGtr1 (k : Value → R) (_kd : IntKind) (m n : Nat) : R := fBoolR (Nat.ble (Nat.succ n) m) k
def fGeq1 (k : Value → R) (_kd : IntKind) (m n : Nat) : R := fBoolR (Nat.ble n m) k
def fBin (op : BinOp) (x y : Value) (k : Value → R) (slow : R) : R :=
  @BinOp.rec (fun _ => Value → Value → (Value → R) → R → R)
    (fun x y k slow => fKK x y (fAdd1 k slow) slow) (fun x y k slow => fKK x y (fSub1 k slow) slow) (fun x y k slow => fKK x y (fMul1 k slow) slow)
    (fun x y k slow => fKK x y (fQuo1 k slow) slow) (fun x y k slow => fKK x y (fRem1 k slow) slow)
    (fun x y k slow => fBits Nat.land x y k slow) (fun x y k slow => fBits Nat.lor x y k slow) (fun x y k slow => fBits Nat.xor x y k slow)
    (fun x y k slow => fNN x y (fShl1 k slow) slow) (fun x y k slow => fNN x y (fShr1 k slow) slow)
    (fun _ _ _ slow => slow)
    (fun x y k slow => fKK x y (fEql1 k) slow) (fun x y k slow => fKK x y (fNeq1 k) slow) (fun x y k slow => fKK x y (fLss1 k) slow)
    (fun x y k slow => fKK x y (fLeq1 k) slow) (fun x y k slow => fKK x y (fGtr1 k) slow) (fun x y k slow => fKK x y (fGeq1 k) slow) op x y k slow
end
end Go.AM
