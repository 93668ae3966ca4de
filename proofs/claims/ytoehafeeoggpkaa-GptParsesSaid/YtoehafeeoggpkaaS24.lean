import Derived.Test.YtoehafeeoggpkaaRows
import Derived.Shelf.SlSortCmp.WholeK
import Derived.Shelf.SlicesG.Cmp
import Derived.Shelf.Lay
import Derived.Ground.SlsfProg
import Derived.Ground.SlgcProg
import Derived.Test.YtoehafeeoggpkaaAM38
set_option linter.unusedVariables false
set_option linter.unusedSimpArgs false
/-! Extents are sorted: the library's function as a primitive. -/
namespace Go.Proofs.Ytoehafeeoggpkaa.L24
open Go Go.Proofs Go.Shelf Go.RowKit Go.Lib Go.Sort Go.AM
shelf_lay_g SlLaysF0.n6 Slsf 6 at Try 77 as sortExt
shelf_lay_g SlLaysC2.n5 Slgc 5 at Try 79 as cmpI64
/-- An extent's two cells. -/
def encE (x : Int × Int) : List Value := [.int .i64 x.1, .int .i64 x.2]
def cmpE (x y : Int × Int) : Int := Lib.compareInt x.1 y.1
set_option maxHeartbeats 1000000 in
/-- The closure of Norm: two blocks are laid, nothing else. -/
theorem closure78 (x y : Int × Int) (W : World) : Calls Try.prog 78 #[.agg #[.int .i64 x.1, .int .i64 x.2], .agg #[.int .i64 y.1, .int .i64 y.2]] W fun e w' => e = .returned (.int .i64 (cmpE x y)) ∧ ∃ q os', w' = grow (W.drewN q) os' := by
  have hcon := fun W' => AnyG.cmp_Compare_int cmpI64 x.1 y.1 W'
  change ∀ W', Calls Try.prog 79 _ _ _ at hcon
  unfold cmpE
  generalize Lib.compareInt x.1 y.1 = r at hcon ⊢
  go_enter Try.func78, Try.ntmps78
  go_wp2_with (go_at_call 79; refine (hcon _).mono ?_; rintro e w' ⟨rfl, rfl⟩)
  go_ret
  exact ⟨rfl, 0, _, by rw [alloc_eq_grow, alloc_eq_grow, grow_grow]; rfl⟩
theorem ltE (x y : Int × Int) : ltOf cmpE x y = decide (x.1 < y.1) := by
  unfold ltOf cmpE Lib.compareInt
  by_cases h1 : x.1 < y.1
  · simp [h1]
  · by_cases h2 : y.1 < x.1 <;> simp [h1, h2]
theorem swoE : SWO (ltOf cmpE) where
  irrefl x := by rw [ltE]; simp
  trans x y z h1 h2 := by rw [ltE] at *; simp at *; omega
  ntrans x y z h1 h2 := by rw [ltE] at *; simp at *; omega
def pdqE (d : Array (Int × Int)) : Array (Int × Int) := pdq (ltOf cmpE) d 0 d.size (Lib.bitLen d.size) true true
theorem sort_calls (blk off cap : Nat) (d : Array (Int × Int)) (w : World) (hH : HoldsK encE 2 w blk off d) (hblk : blk < w.heap.size) (hsz : d.size < 4611686018427387904) :
    Calls Try.prog 77 #[.slice (some ⟨blk, off, none⟩) d.size cap, .func (.func 78) #[] #[]] w fun e w' => e = .returned (.tuple #[]) ∧ ∃ n os, w' = sortWorldK encE 2 w blk off n (pdqE d) os := by
  have eg : ∀ args w, (callFunc 78 args).run Try.prog w = .ok (.enter 78 args) w := enters_of Try.func78 (by kernel_rfl) rfl
  exact AnyQ.slices_SortFunc_eq sortExt 2 Try.isAgg36 Try.sizeOf36 encE (fun _ => rfl) (fun x v hv => by simp [encE] at hv; rcases hv with rfl | rfl <;> rfl) cmpE swoE 78 #[] blk off cap d w eg (fun _ _ _ _ x y => closure78 x y _) hH hblk hsz
theorem pdqE_size (d : Array (Int × Int)) : (pdqE d).size = d.size :=
  (pdq_sorts (ltOf cmpE) swoE d 0 d.size (Lib.bitLen d.size) true true (Nat.zero_le _) (Nat.le_refl _) (Or.inl rfl)).1.1
def encL : List (Int × Int) → List Value
  | [] => []
  | x :: d => .int .i64 x.1 :: .int .i64 x.2 :: encL d
theorem encL_len : ∀ d, (encL d).length = 2 * d.length
  | [] => rfl
  | x :: d => by simp only [encL, List.length_cons, encL_len d]; omega
def pairsL : List Value → Option (List (Int × Int))
  | [] => some []
  | .int .i64 a :: .int .i64 b :: r => (match pairsL r with | some d => some ((a, b) :: d) | none => none)
  | _ => none
theorem pairsL_eq : ∀ (n : Nat) (l : List Value) (d : List (Int × Int)), l.length ≤ n → pairsL l = some d → l = encL d
  | _, [], d, _, h => by simp only [pairsL, Option.some.injEq] at h; subst h; rfl
  | 0, v :: l, d, hl, _ => by simp at hl
  | n + 1, v :: l, d, hl, h => by
    unfold pairsL at h
    split at h
    · rename_i e; cases e
    · rename_i a b r e
      split at h
      · rename_i d' hd
        injection h with h; subst h
        injection e with e1 e2
        subst e1; subst e2
        rw [pairsL_eq n r d' (by simp at hl; omega) hd]; rfl
      · cases h
    · cases h
theorem encL_get : ∀ (d : List (Int × Int)) (t : Nat), t < 2 * d.length → (encL d)[t]? = some ((encE d.toArray[t / 2]!)[t % 2]!)
  | [], t, h => by simp at h
  | x :: d, 0, h => by simp [encL, encE]
  | x :: d, 1, h => by simp [encL, encE]
  | x :: d, t + 2, h => by
    have ih := encL_get d t (by simp at h; omega)
    have e1 : (t + 2) / 2 = t / 2 + 1 := by omega
    have e2 : (t + 2) % 2 = t % 2 := by omega
    rw [e1, e2]
    simp only [encL, List.getElem?_cons_succ]
    rw [ih]
    have : (x :: d).toArray[t / 2 + 1]! = d.toArray[t / 2]! := by simp
    rw [this]
theorem flat_get (d : List (Int × Int)) (t : Nat) (h : t < 2 * d.length) : (encL d)[t]? = some ((flatK encE 2 d.toArray)[t]!) := by
  rw [encL_get d t h, get_flatK _ _ _ _ (by simp; omega)]
noncomputable def qSort (args : List Value) (h : AHeap) : Option (Value × AHeap) :=
  match args with
  | [.slice _ 0 _, .func (.func g) x y] => if g = 78 ∧ x.size = 0 ∧ y.size = 0 then some (.tuple #[], h) else none
  | [.slice (some a) len cap, .func (.func g) x y] => if g = 78 ∧ x.size = 0 ∧ y.size = 0 ∧ a.spot = none ∧ a.off = 0 ∧ 0 < len ∧ len < 1000000000 then (match h.get a.block with
    | .row false gr (.vals l) => match pairsL l with
      | some d => if d.length = len then some (.tuple #[], h.set a.block (.row false gr (.vals (encL (pdqE d.toArray).toList)))) else none
      | none => none
    | _ => none) else none
  | _ => none
end Go.Proofs.Ytoehafeeoggpkaa.L24
