import Derived.Test.YtoehafeeoggpkaaAM32
set_option linter.unusedVariables false
set_option linter.unusedSimpArgs false
/-! Part 33: operations, quickly. -/
namespace Go.AM
noncomputable section

theorem vPtr_p (a : Option Addr) (f : Nat → Nat → R) (e : R) : vPtr (.pointer a) f e = plainA a f e := rfl
theorem vSl_s (a : Option Addr) (l c : Nat) (f : Nat → Nat → Nat → Nat → R) (e : R) : vSl (.slice a l c) f e = plainA a (fun m o => f m o l c) e := rfl
theorem vInt_i (k : IntKind) (n : Int) (f : IntKind → Int → R) (e : R) : vInt (.int k n) f e = f k n := rfl
theorem wrapF_small {k : IntKind} {n : Nat} (h : n < capK k) : wrapF k (Int.ofNat n) = Int.ofNat n := by
  rw [wrapF_eq]; exact wrap_small k n h
/-- What two numbers come to, by the abstract machine. -/
def binV (op : BinOp) (x y : Value) (h : AHeap) : Option (Value × AHeap) :=
  match x, y with
  | .int k a, .int k' b => if isShift op then (aShift op k a b).map fun v => (v, h) else if k = k' then (aInt op k a b).map fun v => (v, h) else none
  | .string a, .string b => (aStr op a b).map fun v => (v, h)
  | _, _ => none
theorem binV_nat {op : BinOp} {k : IntKind} {a b : Int} {h : AHeap} (hs : isShift op = false) : binV op (.int k a) (.int k b) h = (aInt op k a b).map fun v => (v, h) := by
  simp [binV, hs]
theorem ofN_add (m n : Nat) : (Int.ofNat m + Int.ofNat n) = Int.ofNat (Nat.add m n) := rfl
theorem fBits_eq {op : BinOp} {g : Nat → Nat → Nat} (hg : ∀ a b, bitsNat op a b = some (g a b)) (ho : ∀ k a b, aInt op k a b = (bitsF op k a b).map (.int k)) (hs : isShift op = false) {x y : Value} {k : Value → AHeap → R} {h : AHeap} :
    fBits g x y (fun v => k v h) (onR (binV op x y h) k) = onR (binV op x y h) k := by
  refine fKK_eq fun kd m n hx hy => ?_
  unfold fBits1 cond2
  subst hx hy
  rw [binV_nat hs, ho]
  by_cases h1 : m < capK kd
  · rw [show Nat.ble (Nat.succ m) (capK kd) = true from Nat.ble_eq_true_of_le h1]
    by_cases h2 : n < capK kd
    · rw [show Nat.ble (Nat.succ n) (capK kd) = true from Nat.ble_eq_true_of_le h2]
      simp only [forceN_eq, fOk1, bitsF, h1, h2, and_self, if_true, hg, Option.map_some, onR_some]
    · rw [show Nat.ble (Nat.succ n) (capK kd) = false from ble_false (by omega)]
  · rw [show Nat.ble (Nat.succ m) (capK kd) = false from ble_false (by omega)]
theorem bits_le (k : IntKind) (m n : Nat) (h : Nat.ble m n = true) : m ≤ n := Nat.le_of_ble_eq_true h
theorem fBin_eq (op : BinOp) (x y : Value) (k : Value → AHeap → R) (h : AHeap) : fBin op x y (fun v => k v h) (onR (binV op x y h) k) = onR (binV op x y h) k := by
  cases op
  case add =>
    refine fKK_eq fun kd m n hx hy => fOk_eq fun hs => ?_
    subst hx hy
    rw [binV_nat rfl]; simp only [aInt, ofN_add, wrapF_small hs, Option.map_some, onR_some]
  case sub =>
    refine fKK_eq fun kd m n hx hy => ?_
    unfold fSub1 cond2
    cases e : Nat.ble n m with
    | false => rfl
    | true =>
      refine fOk_eq fun hs => ?_
      subst hx hy
      have e1 : (Int.ofNat m - Int.ofNat n) = Int.ofNat (Nat.sub m n) := by
        have := Nat.le_of_ble_eq_true e
        show ((m : Int) - (n : Int)) = ((m - n : Nat) : Int)
        omega
      rw [binV_nat rfl]; simp only [aInt, e1, wrapF_small hs, Option.map_some, onR_some]
  case mul =>
    refine fKK_eq fun kd m n hx hy => fOk_eq fun hs => ?_
    subst hx hy
    have e1 : (Int.ofNat m * Int.ofNat n) = Int.ofNat (Nat.mul m n) := rfl
    rw [binV_nat rfl]; simp only [aInt, e1, wrapF_small hs, Option.map_some, onR_some]
  case quo =>
    refine fKK_eq fun kd m n hx hy => ?_
    unfold fQuo1 cond2
    cases e : Nat.ble 1 n with
    | false => rfl
    | true =>
      refine fOk_eq fun hs => ?_
      subst hx hy
      have hn := Nat.le_of_ble_eq_true e
      have e1 : (Int.ofNat m).tdiv (Int.ofNat n) = Int.ofNat (Nat.div m n) := rfl
      have e2 : Int.ofNat n ≠ 0 := by show (n : Int) ≠ 0; omega
      rw [binV_nat rfl]; simp only [aInt, e1, e2, if_false, wrapF_small hs, Option.map_some, onR_some]
  case rem =>
    refine fKK_eq fun kd m n hx hy => ?_
    unfold fRem1 cond2
    cases e : Nat.ble 1 n with
    | false => rfl
    | true =>
      subst hx hy
      have hn := Nat.le_of_ble_eq_true e
      have e1 : (Int.ofNat m).tmod (Int.ofNat n) = Int.ofNat (Nat.mod m n) := rfl
      have e2 : Int.ofNat n ≠ 0 := by show (n : Int) ≠ 0; omega
      rw [binV_nat rfl]; simp only [aInt, e1, e2, if_false, Option.map_some, onR_some, forceN_eq, fOk1]
  case and => exact fBits_eq (fun _ _ => rfl) (fun _ _ _ => rfl) rfl
  case or => exact fBits_eq (fun _ _ => rfl) (fun _ _ _ => rfl) rfl
  case xor => exact fBits_eq (fun _ _ => rfl) (fun _ _ _ => rfl) rfl
  case andNot => rfl
  case shl =>
    refine fNN_eq fun kd k' m n hx hy => ?_
    unfold fShl1 cond2
    cases e : Nat.ble n (bitsN kd) with
    | false => rfl
    | true =>
      refine fOk_eq fun hs => ?_
      subst hx hy
      have hn := Nat.le_of_ble_eq_true e
      have e1 : ¬ Int.ofNat n < 0 := by show ¬ (n : Int) < 0; omega
      have e2 : (Int.ofNat n).toNat = n := rfl
      have e3 : shlF kd (Int.ofNat m) n = Int.ofNat (Nat.shiftLeft m n) := by
        show wrapF kd (Int.ofNat (m <<< n)) = _
        exact wrapF_small hs
      simp only [binV, isShift, if_true, aShift, e1, if_false, e2, hn, e3, Option.map_some, onR_some]
  case shr =>
    refine fNN_eq fun kd k' m n hx hy => ?_
    unfold fShr1 cond2
    cases e : Nat.ble n (bitsN kd) with
    | false => rfl
    | true =>
      subst hx hy
      have hn := Nat.le_of_ble_eq_true e
      have e1 : ¬ Int.ofNat n < 0 := by show ¬ (n : Int) < 0; omega
      have e2 : (Int.ofNat n).toNat = n := rfl
      have e3 : shrF (Int.ofNat m) n = Int.ofNat (Nat.shiftRight m n) := rfl
      simp only [binV, isShift, if_true, aShift, e1, if_false, e2, hn, e3, Option.map_some, onR_some, forceN_eq, fOk1]
  case eql =>
    refine fKK_eq fun kd m n hx hy => ?_
    unfold fEql1
    subst hx hy
    have e1 : Nat.beq m n = decide (Int.ofNat m = Int.ofNat n) := by
      rw [Bool.eq_iff_iff, Nat.beq_eq, decide_eq_true_iff]; exact ⟨fun h => by rw [h], fun h => Int.ofNat.inj h⟩
    rw [binV_nat rfl]; simp only [aInt, Option.map_some, onR_some, fBoolR_eq, e1]
  case neq =>
    refine fKK_eq fun kd m n hx hy => ?_
    unfold fNeq1 cond2
    subst hx hy
    have e1 : Nat.beq m n = decide (Int.ofNat m = Int.ofNat n) := by
      rw [Bool.eq_iff_iff, Nat.beq_eq, decide_eq_true_iff]; exact ⟨fun h => by rw [h], fun h => Int.ofNat.inj h⟩
    rw [binV_nat rfl]
    simp only [aInt, Option.map_some, onR_some, e1]
    cases decide (Int.ofNat m = Int.ofNat n) <;> rfl
  case lss =>
    refine fKK_eq fun kd m n hx hy => ?_
    unfold fLss1
    subst hx hy
    have e1 : Nat.ble (Nat.succ m) n = decide (Int.ofNat m < Int.ofNat n) := by
      rw [Bool.eq_iff_iff, Nat.ble_eq, decide_eq_true_iff]; show m + 1 ≤ n ↔ (m : Int) < (n : Int); omega
    rw [binV_nat rfl]; simp only [aInt, Option.map_some, onR_some, fBoolR_eq, e1]
  case leq =>
    refine fKK_eq fun kd m n hx hy => ?_
    unfold fLeq1
    subst hx hy
    have e1 : Nat.ble m n = decide (Int.ofNat m ≤ Int.ofNat n) := by
      rw [Bool.eq_iff_iff, Nat.ble_eq, decide_eq_true_iff]; show m ≤ n ↔ (m : Int) ≤ (n : Int); omega
    rw [binV_nat rfl]; simp only [aInt, Option.map_some, onR_some, fBoolR_eq, e1]
  case gtr =>
    refine fKK_eq fun kd m n hx hy => ?_
    unfold fGtr1
    subst hx hy
    have e1 : Nat.ble (Nat.succ n) m = decide (Int.ofNat m > Int.ofNat n) := by
      rw [Bool.eq_iff_iff, Nat.ble_eq, decide_eq_true_iff]; show n + 1 ≤ m ↔ (n : Int) < (m : Int); omega
    rw [binV_nat rfl]; simp only [aInt, Option.map_some, onR_some, fBoolR_eq, e1]
  case geq =>
    refine fKK_eq fun kd m n hx hy => ?_
    unfold fGeq1
    subst hx hy
    have e1 : Nat.ble n m = decide (Int.ofNat m ≥ Int.ofNat n) := by
      rw [Bool.eq_iff_iff, Nat.ble_eq, decide_eq_true_iff]; show n ≤ m ↔ (n : Int) ≤ (m : Int); omega
    rw [binV_nat rfl]; simp only [aInt, Option.map_some, onR_some, fBoolR_eq, e1]

/-! ## operations -/
def fLoad2 (k : Value → AHeap → R) (h : AHeap) (o : Nat) (_ro : Bool) (_gr : Nat) (c : Cells) : R := cGet c o fun v => k v h
def fLoad1 (k : Value → AHeap → R) (h : AHeap) (m o : Nat) : R := onRow (h.get m) (fLoad2 k h o)
def fLoad (a : Value) (h : AHeap) (k : Value → AHeap → R) : R := vPtr a (fLoad1 k h) none
theorem fLoad_eq (a : Value) (h : AHeap) (k : Value → AHeap → R) : fLoad a h k = onR ((aLoad none a h).map fun v => (v, h)) k := by
  unfold fLoad
  cases a with
  | pointer a =>
    rw [vPtr_p]
    refine plainA_eq (fun m o ha => ?_) (fun hn => ?_)
    · subst ha
      simp only [aLoad, fLoad1]
      cases h.get m with
      | row ro gr c =>
        show cGet c o _ = _
        rw [cGet_eq]
        simp only
        cases c.get o <;> rfl
      | _ => rfl
    · unfold aLoad
      split
      · rename_i m o heq; injection heq with heq; exact absurd heq (hn m o)
      · rfl
  | _ => rfl
/-! ### several cells -/
def lSet (l : List Value) (v : Value) : Nat → List Value := @List.rec Value (fun _ => Value → Nat → List Value) (fun _ _ => []) (fun a r ih v i => @Nat.rec (fun _ => Value → Value → List Value → (Value → Nat → List Value) → List Value) (fun v a r _ => v :: r) (fun j _ v a r ih => a :: ih v j) i v a r ih) l v
theorem lSet_eq (v : Value) : ∀ (l : List Value) (i : Nat), lSet l v i = l.set i v
  | [], i => rfl
  | a :: l, 0 => rfl
  | a :: l, i + 1 => congrArg (a :: ·) (lSet_eq v l i)
def lLen (l : List Value) : Nat := @List.rec Value (fun _ => Nat) 0 (fun _ _ ih => Nat.succ ih) l
theorem lLen_eq : ∀ l : List Value, lLen l = l.length
  | [] => rfl
  | a :: l => congrArg Nat.succ (lLen_eq l)
def forceL (l : List Value) (f : List Value → R) : R := @List.rec Value (fun _ => (List Value → R) → R) (fun f => f []) (fun a _ ih f => ih fun r => f (a :: r)) l f
@[simp] theorem forceL_eq : ∀ (l : List Value) (f : List Value → R), forceL l f = f l
  | [], f => rfl
  | a :: l, f => forceL_eq l fun r => f (a :: r)
def lTake (n : Nat) (l : List Value) : List Value := @Nat.rec (fun _ => List Value → List Value) (fun _ => []) (fun _ ih l => @List.rec Value (fun _ => (List Value → List Value) → List Value) (fun _ => []) (fun a r _ ih => a :: ih r) l ih) n l
theorem lTake_eq : ∀ (n : Nat) (l : List Value), lTake n l = l.take n
  | 0, l => rfl
  | n + 1, [] => rfl
  | n + 1, a :: l => congrArg (a :: ·) (lTake_eq n l)
def lDrop (n : Nat) (l : List Value) : List Value := @Nat.rec (fun _ => List Value → List Value) (fun l => l) (fun _ ih l => @List.rec Value (fun _ => (List Value → List Value) → List Value) (fun _ => []) (fun _ r _ ih => ih r) l ih) n l
theorem lDrop_eq : ∀ (n : Nat) (l : List Value), lDrop n l = l.drop n
  | 0, l => rfl
  | n + 1, [] => rfl
  | n + 1, a :: l => lDrop_eq n l
def lApp (a b : List Value) : List Value := @List.rec Value (fun _ => List Value) b (fun x _ ih => x :: ih) a
theorem lApp_eq : ∀ (a b : List Value), lApp a b = a ++ b
  | [], b => rfl
  | x :: a, b => congrArg (x :: ·) (lApp_eq a b)
def fSize (c : Cells) : Nat := @Cells.rec (fun _ => Nat) (fun l => lLen l) (fun _ len => len) c
theorem fSize_eq (c : Cells) : fSize c = c.size := by
  cases c with
  | vals l => exact lLen_eq l
  | bytes n len => rfl
theorem blit_one {l : List Value} {o : Nat} {x : Value} (h : o < l.length) : (Cells.vals l).blit o (.vals [x]) = .vals (l.set o x) := by
  simp only [Cells.blit, Cells.ext, Cells.app, Cells.size, Cells.toList, List.drop_zero, List.length_cons, List.length_nil]
  congr 1
  have e : List.take (l.length - (o + 1)) (l.drop (o + 1)) = l.drop (o + 1) := List.take_of_length_le (by simp)
  rw [Nat.zero_add, e, List.set_eq_take_append_cons_drop, if_pos h]
  simp
theorem blit_vals {l vs : List Value} {o : Nat} (h : o + vs.length ≤ l.length) : (Cells.vals l).blit o (.vals vs) = .vals (l.take o ++ (vs ++ l.drop (o + vs.length))) := by
  simp only [Cells.blit, Cells.ext, Cells.app, Cells.size, Cells.toList, List.drop_zero]
  congr 1
  have e : List.take (l.length - (o + vs.length)) (l.drop (o + vs.length)) = l.drop (o + vs.length) := List.take_of_length_le (by simp)
  rw [e, List.append_assoc]
/-- A byte put into a row of bytes. -/
def fBlit (c : Cells) (o : Nat) (x : Value) (f : Cells → R) (slow : R) : R :=
  @Cells.rec (fun _ => R) (fun l => forceL (lSet l x o) fun l => f (.vals l))
    (fun n len => vInt x (fun kd i => @IntKind.rec (fun _ => R) slow slow slow slow
      (@Int.rec (fun _ => R) (fun b => @Bool.rec (fun _ => R) slow
        (forceN (((Nat.mod (Nat.mod (Nat.shiftRight n (8 * 0)) (Nat.pow 2 (Nat.mul 8 o))) (Nat.pow 2 (Nat.mul 8 o)) + Nat.shiftLeft (b + Nat.shiftLeft 0 8) (Nat.mul 8 o)) % 2 ^ (8 * (o + 1))) + Nat.shiftLeft ((Nat.shiftRight n (8 * (o + 1))) % 2 ^ (8 * (len - (o + 1)))) (8 * (o + 1)))
          fun n => forceN ((o + 1) + (len - (o + 1))) fun len => f (.bytes n len)) (Nat.ble (Nat.succ b) 256)) (fun _ => slow) i)
      slow slow slow kd) slow) c
theorem fBlit_eq {c : Cells} {o : Nat} {x : Value} {f : Cells → R} (hx : cellsOf x = .vals [x]) (ho : o < c.size) : fBlit c o x f (f (c.blit o (cellsOf x))) = f (c.blit o (cellsOf x)) := by
  cases c with
  | vals l =>
    rw [hx, blit_one ho]
    show forceL (lSet l x o) _ = _
    rw [forceL_eq, lSet_eq]
  | bytes n len =>
    cases x with
    | int kd i =>
      cases kd
      case u8 =>
        cases i with
        | ofNat b =>
          show @Bool.rec (fun _ => R) _ _ (Nat.ble (Nat.succ b) 256) = _
          by_cases hb : b < 256
          · rw [show Nat.ble (Nat.succ b) 256 = true from Nat.ble_eq_true_of_le hb]
            simp only [forceN_eq]
            have e : cellsOf (.int .u8 (Int.ofNat b)) = .vals [.int .u8 (Int.ofNat b)] := rfl
            rw [e]
            simp only [Cells.blit, Cells.ext, Cells.app, pack, hb, if_true, Option.map_some, Cells.size, List.length_cons, List.length_nil]
            rfl
          · rw [show Nat.ble (Nat.succ b) 256 = false from ble_false (by omega)]
        | negSucc b => rfl
      all_goals rfl
    | _ => rfl
def fStore3 (k : Value → AHeap → R) (h : AHeap) (m gr : Nat) (c : Cells) : R := k undef (h.set m (.row false gr c))
def fStore2 (x : Value) (k : Value → AHeap → R) (h : AHeap) (m o : Nat) (ro : Bool) (gr : Nat) (c : Cells) : R :=
  cond2 ro none (cond2 (Nat.ble (Nat.succ o) (fSize c)) (fBlit c o x (fStore3 k h m gr) (fStore3 k h m gr (c.blit o (cellsOf x)))) none)
def fStore1 (x : Value) (k : Value → AHeap → R) (h : AHeap) (m o : Nat) : R := onRow (h.get m) (fStore2 x k h m o)
def fStore (a x : Value) (h : AHeap) (k : Value → AHeap → R) (slow : R) : R := vInt x (fun _ _ => vPtr a (fStore1 x k h) none) slow
theorem fStore_eq (a x : Value) (h : AHeap) (k : Value → AHeap → R) : fStore a x h k (onR ((aStore 1 a x h).map fun h' => (undef, h')) k) = onR ((aStore 1 a x h).map fun h' => (undef, h')) k := by
  unfold fStore
  cases x with
  | int kd i =>
    show vPtr a _ _ = _
    cases a with
    | pointer a =>
      rw [vPtr_p]
      refine plainA_eq (fun m o ha => ?_) (fun hn => ?_)
      · subst ha
        simp only [aStore, fStore1]
        cases h.get m with
        | row ro gr c =>
          cases ro with
          | true => rfl
          | false =>
            show cond2 (Nat.ble (Nat.succ o) (fSize c)) _ _ = _
            rw [fSize_eq]
            unfold cond2
            by_cases hc : o + 1 ≤ c.size
            · rw [show Nat.ble (Nat.succ o) c.size = true from Nat.ble_eq_true_of_le hc]
              have hcond : ((Value.int kd i).cells.size = 1 ∧ o + 1 ≤ c.size ∧ (Value.int kd i).cells.toList.all one = true) := ⟨rfl, hc, rfl⟩
              simp only [hcond, and_self, if_true, Option.map_some, onR_some]
              exact fBlit_eq (f := fStore3 k h m gr) rfl hc
            · rw [show Nat.ble (Nat.succ o) c.size = false from ble_false (by omega)]
              simp only [hc, false_and, and_false, if_false, Option.map_none, onR_none]
        | _ => rfl
      · unfold aStore
        split
        · rename_i m o heq; injection heq with heq; exact absurd heq (hn m o)
        · rfl
    | _ => rfl
  | _ => rfl
def fIaddr3 (es j : Nat) (h : AHeap) (k : Value → AHeap → R) (slow : R) (m o len _cap : Nat) : R := cond2 (Nat.ble (Nat.succ j) len) (forceN (Nat.add o (Nat.mul j es)) fun o => k (.pointer (some ⟨m, o, none⟩)) h) slow
def fIaddr2 (es : Nat) (x : Value) (h : AHeap) (k : Value → AHeap → R) (slow : R) (j : Nat) : R := vSl x (fIaddr3 es j h k slow) slow
def fIaddr (es : Nat) (x i : Value) (h : AHeap) (k : Value → AHeap → R) (slow : R) : R := vInt i (fun _ i => intNat i (fIaddr2 es x h k slow) slow) slow
theorem fIaddr_eq (es : Nat) (x i : Value) (h : AHeap) (k : Value → AHeap → R) : fIaddr es x i h k (onR ((aIndexAddr none es x i).map fun v => (v, h)) k) = onR ((aIndexAddr none es x i).map fun v => (v, h)) k := by
  unfold fIaddr
  cases i with
  | int kd i =>
    cases i with
    | ofNat j =>
      show vSl x (fIaddr3 es j h k _) _ = _
      cases x with
      | slice a len cap =>
        rw [vSl_s]
        refine plainA_eq (fun m o ha => ?_) (fun hn => rfl)
        subst ha
        unfold fIaddr3 cond2
        by_cases hj : j < len
        · rw [show Nat.ble (Nat.succ j) len = true from Nat.ble_eq_true_of_le hj]
          have e1 : (0 : Int) ≤ Int.ofNat j ∧ Int.ofNat j < (len : Int) := ⟨by show (0 : Int) ≤ (j : Int); omega, by show (j : Int) < (len : Int); omega⟩
          simp only [aIndexAddr, aIndexSl, e1, and_self, if_true, Option.map_some, onR_some, forceN_eq, fOk1]
          rfl
        · rw [show Nat.ble (Nat.succ j) len = false from ble_false (by omega)]
      | _ => rfl
    | negSucc j => rfl
  | _ => rfl
def fFaddr (off : Nat) (x : Value) (h : AHeap) (k : Value → AHeap → R) : R := vPtr x (fun m o => forceN (Nat.add o off) fun o => k (.pointer (some ⟨m, o, none⟩)) h) none
theorem fFaddr_eq (off : Nat) (x : Value) (h : AHeap) (k : Value → AHeap → R) :
    fFaddr off x h k = onR (match x with | .pointer (some ⟨m, o, none⟩) => some (.pointer (some ⟨m, o + off, none⟩), h) | _ => none) k := by
  unfold fFaddr
  cases x with
  | pointer a =>
    rw [vPtr_p]
    refine plainA_eq (fun m o ha => ?_) (fun hn => ?_)
    · subst ha; simp only [forceN_eq, onR_some]; rfl
    · split
      · rename_i m o heq; injection heq with heq; exact absurd heq (hn m o)
      · rfl
  | _ => rfl
def fExtract (i : Nat) (x : Value) (h : AHeap) (k : Value → AHeap → R) : R := vTup x (fun l => lGet l (fun v => forceV v fun v => k v h) i) none
theorem fExtract_eq (i : Nat) (x : Value) (h : AHeap) (k : Value → AHeap → R) : fExtract i x h k = onR ((aExtract i x).map fun v => (v, h)) k := by
  unfold fExtract
  cases x with
  | tuple vs =>
    obtain ⟨l⟩ := vs
    show lGet l _ i = _
    rw [lGet_eq]
    simp only [aExtract, List.getElem?_toArray]
    cases l[i]? <;> simp
  | _ => rfl
def fConv (kd : IntKind) (x : Value) (h : AHeap) (k : Value → AHeap → R) (slow : R) : R := vInt x (fun _ i => intNat i (fun m => fOk kd m (fun v => k v h) slow) slow) slow
theorem fConv_eq (kd : IntKind) (x : Value) (h : AHeap) (k : Value → AHeap → R) : fConv kd x h k (onR (aConv (.int kd) x h) k) = onR (aConv (.int kd) x h) k := by
  unfold fConv
  cases x with
  | int k0 i =>
    cases i with
    | ofNat m =>
      rw [vInt_i]
      refine fOk_eq fun hs => ?_
      simp only [aConv, wrapF_small hs, onR_some]
    | negSucc m => rfl
  | _ => rfl
def fNilc (x : Value) (h : AHeap) (k : Value → AHeap → R) (slow : R) : R := vPtr x (fun m o => k (.pointer (some ⟨m, o, none⟩)) h) slow

def fOne (x : Value) (t e : R) : R :=
  @Value.rec (fun _ => R → R → R) (fun _ => Unit) (fun _ => Unit) (fun _ t e => t) (fun _ _ t e => t) (fun _ _ t e => t) (fun _ _ _ t e => t) (fun _ t e => t) (fun _ t e => t) (fun _ _ _ t e => t) (fun _ t e => t) (fun _ t e => t) (fun _ _ _ _ _ t e => t) (fun t e => t) (fun _ _ _ t e => t) (fun t e => t) (fun _ _ t e => e) (fun _ _ t e => e) (fun _ _ => ()) () (fun _ _ _ _ => ()) x t e
theorem fOne_eq {x : Value} {t e : R} (h : one x = true → x.cells = #[x] → t = e) : fOne x t e = e := by
  cases x <;> first | exact h rfl rfl | rfl
def lOne (l : List Value) (t e : R) : R := @List.rec Value (fun _ => R → R → R) (fun t e => t) (fun a _ ih t e => fOne a (ih t e) e) l t e
theorem lOne_eq {t e : R} : ∀ {l : List Value}, (l.all one = true → t = e) → lOne l t e = e
  | [], h => h rfl
  | a :: l, h => fOne_eq fun h1 _ => lOne_eq (l := l) fun h2 => h (by rw [List.all_cons, h1, h2]; rfl)
def plc (k : BuildK) (i : Nat) (f : Nat → R) (e : R) : R := @Option.rec (Nat × Nat) (fun _ => (Nat → R) → R → R) (fun f e => e) (fun p f e => cond2 (Nat.beq p.2 1) (f p.1) e) (k.place i) f e
theorem plc_eq {k : BuildK} {i : Nat} {f : Nat → R} {e : R} (h : ∀ o, k.place i = some (o, 1) → f o = e) : plc k i f e = e := by
  unfold plc
  cases hp : k.place i with
  | none => rfl
  | some p =>
    obtain ⟨o, z⟩ := p
    show cond2 (Nat.beq z 1) (f o) e = e
    unfold cond2
    cases hz : Nat.beq z 1 with
    | false => rfl
    | true => exact h o (by rw [hp, Nat.eq_of_beq_eq_true hz])
def fFill (k : BuildK) (ρ : Operand → Value) (c : List Value → R) (slow : R) (ps : List (Nat × Operand)) : List Value → R :=
  @List.rec (Nat × Operand) (fun _ => List Value → R) (fun l => c l) (fun p _ ih l => plc k p.1 (fun o => cond2 (Nat.ble (Nat.succ o) (lLen l)) (fOne (ρ p.2) (ih (lSet l (ρ p.2) o)) slow) slow) slow) ps
theorem fFill_eq {k : BuildK} {ρ : Operand → Value} {c : List Value → R} {slow : R} : ∀ {ps : List (Nat × Operand)} {l : List Value},
    (∀ cs, Instr.fill k.place l.toArray (ps.map fun p => (p.1, ρ p.2)) = some cs → c cs.toList = slow) → fFill k ρ c slow ps l = slow
  | [], l, h => h l.toArray rfl
  | (i, x) :: ps, l, h => by
    show plc k i _ slow = slow
    refine plc_eq fun o ho => ?_
    simp only [cond2]
    by_cases hl : o < l.length
    · rw [show Nat.ble (Nat.succ o) (lLen l) = true from Nat.ble_eq_true_of_le (by rw [lLen_eq]; exact hl)]
      refine fOne_eq fun h1 h2 => ?_
      rw [lSet_eq]
      refine fFill_eq (ps := ps) fun cs hcs => h cs ?_
      simp only [List.map_cons, Instr.fill, ho, h2]
      rw [if_neg (by simp; omega)]
      simpa using hcs
    · rw [show Nat.ble (Nat.succ o) (lLen l) = false from ble_false (by rw [lLen_eq]; omega)]
def fBuild (k : BuildK) (ps : List (Nat × Operand)) (ρ : Operand → Value) (h : AHeap) (c : Value → AHeap → R) (slow : R) : R := fFill k ρ (fun l => c (.agg ⟨l⟩) h) slow ps k.zs
theorem fBuild_eq (k : BuildK) (ps : List (Nat × Operand)) (ρ : Operand → Value) (h : AHeap) (c : Value → AHeap → R) :
    fBuild k ps ρ h c (onR ((aBuild k (ps.map fun p => (p.1, ρ p.2))).map fun v => (v, h)) c) = onR ((aBuild k (ps.map fun p => (p.1, ρ p.2))).map fun v => (v, h)) c := by
  refine fFill_eq fun cs hcs => ?_
  simp only [aBuild, hcs, Option.map_some, onR_some]
def onVals (c : Cells) (f : List Value → R) (e : R) : R := @Cells.rec (fun _ => (List Value → R) → R → R) (fun l f e => f l) (fun _ _ f e => e) c f e
def fLoadN2 (n : Nat) (k : Value → AHeap → R) (slow : R) (h : AHeap) (o : Nat) (l : List Value) : R := cond2 (Nat.ble (Nat.add o n) (lLen l)) (forceL (lTake n (lDrop o l)) fun l => k (.agg ⟨l⟩) h) slow
def fLoadN1 (n : Nat) (k : Value → AHeap → R) (slow : R) (h : AHeap) (m o : Nat) : R := onRow (h.get m) fun _ _ c => onVals c (fLoadN2 n k slow h o) slow
def fLoadN (n : Nat) (a : Value) (h : AHeap) (k : Value → AHeap → R) (slow : R) : R := vPtr a (fLoadN1 n k slow h) slow
theorem fLoadN_eq (n : Nat) (a : Value) (h : AHeap) (k : Value → AHeap → R) : fLoadN n a h k (onR ((aLoad (some n) a h).map fun v => (v, h)) k) = onR ((aLoad (some n) a h).map fun v => (v, h)) k := by
  unfold fLoadN
  cases a with
  | pointer a =>
    rw [vPtr_p]
    refine plainA_eq (fun m o ha => ?_) (fun hn => rfl)
    subst ha
    simp only [fLoadN1, aLoad]
    cases hg : h.get m with
    | row ro gr c =>
      cases c with
      | vals l =>
        show fLoadN2 n k _ h o l = _
        unfold fLoadN2 cond2
        rw [lLen_eq]
        by_cases hl : o + n ≤ l.length
        · rw [show Nat.ble (Nat.add o n) l.length = true from Nat.ble_eq_true_of_le hl]
          simp only [forceL_eq, lTake_eq, lDrop_eq]
          rw [if_pos (show o + n ≤ (Cells.vals l).size from hl)]
          rfl
        · rw [show Nat.ble (Nat.add o n) l.length = false from ble_false hl]
      | bytes n len => rfl
    | _ => rfl
  | _ => rfl
def vAgg (x : Value) (f : List Value → R) (e : R) : R :=
  @Value.rec (fun _ => (List Value → R) → R → R) (fun _ => Unit) (fun _ => Unit) (fun _ f e => e) (fun _ _ f e => e) (fun _ _ f e => e) (fun _ _ _ f e => e) (fun _ f e => e) (fun _ f e => e) (fun _ _ _ f e => e) (fun _ f e => e) (fun _ f e => e) (fun _ _ _ _ _ f e => e) (fun f e => e) (fun _ _ _ f e => e) (fun f e => e) (fun a _ f e => @Array.rec Value (fun _ => (List Value → R) → R) (fun l f => f l) a f) (fun _ _ f e => e) (fun _ _ => ()) () (fun _ _ _ _ => ()) x f e
def fStoreN3 (sz : Nat) (vs : List Value) (k : Value → AHeap → R) (slow : R) (h : AHeap) (m o : Nat) (ro : Bool) (gr : Nat) (l : List Value) : R :=
  cond2 ro slow (cond2 (Nat.ble (Nat.add o sz) (lLen l)) (cond2 (Nat.beq sz (lLen vs)) (lOne vs (forceL (lApp (lTake o l) (lApp vs (lDrop (Nat.add o sz) l))) fun l => k undef (h.set m (.row false gr (.vals l)))) slow) slow) slow)
def fStoreN2 (sz : Nat) (k : Value → AHeap → R) (slow : R) (h : AHeap) (vs : List Value) (m o : Nat) : R := onRow (h.get m) fun ro gr c => onVals c (fStoreN3 sz vs k slow h m o ro gr) slow
def fStoreN (sz : Nat) (a x : Value) (h : AHeap) (k : Value → AHeap → R) (slow : R) : R := vAgg x (fun vs => vPtr a (fStoreN2 sz k slow h vs) slow) slow
theorem fStoreN_eq (sz : Nat) (a x : Value) (h : AHeap) (k : Value → AHeap → R) : fStoreN sz a x h k (onR ((aStore sz a x h).map fun h' => (undef, h')) k) = onR ((aStore sz a x h).map fun h' => (undef, h')) k := by
  unfold fStoreN
  cases x with
  | agg vs =>
    obtain ⟨vs⟩ := vs
    show vPtr a (fStoreN2 sz k _ h vs) _ = _
    cases a with
    | pointer a =>
      rw [vPtr_p]
      refine plainA_eq (fun m o ha => ?_) (fun hn => rfl)
      subst ha
      simp only [fStoreN2, aStore]
      cases hg : h.get m with
      | row ro gr c =>
        cases c with
        | vals l =>
          show fStoreN3 sz vs k _ h m o ro gr l = _
          unfold fStoreN3 cond2
          cases ro with
          | true => rfl
          | false =>
            simp only
            rw [lLen_eq, lLen_eq]
            by_cases h1 : o + sz ≤ l.length
            · rw [show Nat.ble (Nat.add o sz) l.length = true from Nat.ble_eq_true_of_le h1]
              cases h2 : Nat.beq sz vs.length with
              | false => rfl
              | true =>
                have e2 := Nat.eq_of_beq_eq_true h2
                refine lOne_eq fun h3 => ?_
                have hc : cellsOf (.agg ⟨vs⟩) = .vals vs := rfl
                rw [if_pos ⟨by show vs.length = sz; omega, by show o + sz ≤ l.length; omega, h3⟩, hc, blit_vals (by omega)]
                simp only [forceL_eq, lApp_eq, lTake_eq, lDrop_eq, Option.map_some, onR_some, e2]
                rfl
            · rw [show Nat.ble (Nat.add o sz) l.length = false from ble_false h1]
        | bytes n len => rfl
      | _ => rfl
    | _ => rfl
  | _ => rfl

def fSlow (pk : Bool) (ao : AOp) (ρ : Operand → Value) (h : AHeap) (k : Value → AHeap → R) : R := onR (aop pk ao ρ h) fun v h => forceV v fun v => forceH h fun h => k v h
theorem fSlow_eq (pk : Bool) (ao : AOp) (ρ : Operand → Value) (h : AHeap) (k : Value → AHeap → R) : fSlow pk ao ρ h k = onR (aop pk ao ρ h) k := by
  unfold fSlow; simp only [forceV_eq, forceH_eq]
def fDo (pk : Bool) (ao : AOp) (ρ : Operand → Value) (h : AHeap) (k : Value → AHeap → R) : R :=
  @AOp.rec (fun _ => (Operand → Value) → AHeap → (Value → AHeap → R) → Bool → AOp → R)
    (fun x ρ h k pk ao => k (ρ x) h)
    (fun c a b ρ h k pk ao => vBool (ρ c) (k (ρ a) h) (k (ρ b) h) none)
    (fun _ ρ h k pk ao => fSlow pk ao ρ h k)
    (fun _ ρ h k pk ao => fSlow pk ao ρ h k)
    (fun bk ps ρ h k pk ao => fBuild bk ps ρ h k (fSlow pk ao ρ h k))
    (fun _ _ _ ρ h k pk ao => fSlow pk ao ρ h k)
    (fun n a ρ h k pk ao => @Option.rec Nat (fun _ => Operand → (Operand → Value) → AHeap → (Value → AHeap → R) → Bool → AOp → R) (fun a ρ h k pk ao => fLoad (ρ a) h k) (fun n a ρ h k pk ao => fLoadN n (ρ a) h k (fSlow pk ao ρ h k)) n a ρ h k pk ao)
    (fun sz a x ρ h k pk ao => cond2 (Nat.beq sz 1) (fStore (ρ a) (ρ x) h k (fSlow pk ao ρ h k)) (fStoreN sz (ρ a) (ρ x) h k (fSlow pk ao ρ h k)))
    (fun x ρ h k pk ao => fNilc (ρ x) h k (fSlow pk ao ρ h k))
    (fun op x y ρ h k pk ao => fBin op (ρ x) (ρ y) (fun v => k v h) (fSlow pk ao ρ h k))
    (fun _ _ _ ρ h k pk ao => fSlow pk ao ρ h k)
    (fun _ _ _ _ ρ h k pk ao => fSlow pk ao ρ h k)
    (fun _ _ _ _ _ ρ h k pk ao => fSlow pk ao ρ h k)
    (fun _ _ ρ h k pk ao => fSlow pk ao ρ h k)
    (fun c x ρ h k pk ao => @ConvK.rec (fun _ => Operand → (Operand → Value) → AHeap → (Value → AHeap → R) → Bool → AOp → R) (fun kd x ρ h k pk ao => fConv kd (ρ x) h k (fSlow pk ao ρ h k)) (fun _ ρ h k pk ao => fSlow pk ao ρ h k) (fun _ _ ρ h k pk ao => fSlow pk ao ρ h k) (fun _ ρ h k pk ao => fSlow pk ao ρ h k) (fun _ ρ h k pk ao => fSlow pk ao ρ h k) c x ρ h k pk ao)
    (fun t x ρ h k pk ao => k (.iface t (ρ x)) h)
    (fun _ _ _ ρ h k pk ao => fSlow pk ao ρ h k)
    (fun ρ h k pk ao => fSlow pk ao ρ h k)
    (fun _ _ _ ρ h k pk ao => fSlow pk ao ρ h k)
    (fun _ _ _ _ _ ρ h k pk ao => fSlow pk ao ρ h k)
    (fun off x ρ h k pk ao => fFaddr off (ρ x) h k)
    (fun _ _ _ ρ h k pk ao => fSlow pk ao ρ h k)
    (fun arr es x i ρ h k pk ao => @Option.rec Nat (fun _ => R → R → R) (fun a b => a) (fun _ a b => b) arr (fIaddr es (ρ x) (ρ i) h k (fSlow pk ao ρ h k)) (fSlow pk ao ρ h k))
    (fun _ _ _ ρ h k pk ao => fSlow pk ao ρ h k)
    (fun _ _ _ _ ρ h k pk ao => fSlow pk ao ρ h k)
    (fun _ _ _ _ ρ h k pk ao => fSlow pk ao ρ h k)
    (fun x i ρ h k pk ao => fExtract i (ρ x) h k)
    (fun _ _ _ _ ρ h k pk ao => fSlow pk ao ρ h k)
    (fun _ _ _ ρ h k pk ao => fSlow pk ao ρ h k)
    (fun lk x ρ h k pk ao => @LenK.rec (fun _ => R → R → R) (fun a b => b) (fun a b => a) (fun a b => b) (fun _ a b => b) lk (vLen (ρ x) (fun n => k (.int .i64 (.ofNat n)) h) (fSlow pk ao ρ h k)) (fSlow pk ao ρ h k))
    (fun _ _ _ ρ h k pk ao => fSlow pk ao ρ h k) ao ρ h k pk ao
theorem fDo_eq (pk : Bool) (ao : AOp) (ρ : Operand → Value) (h : AHeap) (k : Value → AHeap → R) : fDo pk ao ρ h k = onR (aop pk ao ρ h) k := by
  have hs := fSlow_eq pk ao ρ h k
  cases ao with
  | mov x => rfl
  | pick c a b =>
    show vBool (ρ c) _ _ _ = onR (match ρ c with | .bool t => some (if t then ρ a else ρ b, h) | _ => none) k
    cases ρ c with
    | bool t => cases t <;> rfl
    | _ => rfl
  | load n a =>
    cases n with
    | none => exact fLoad_eq _ _ _
    | some n =>
      show fLoadN n (ρ a) h k (fSlow _ _ _ _ _) = _
      rw [hs]
      exact fLoadN_eq _ _ _ _
  | build bk ps =>
    show fBuild bk ps ρ h k (fSlow _ _ _ _ _) = _
    rw [hs]
    exact fBuild_eq _ _ _ _ _
  | store sz a x =>
    show cond2 (Nat.beq sz 1) (fStore _ _ _ _ (fSlow _ _ _ _ _)) (fStoreN sz (ρ a) (ρ x) h k (fSlow _ _ _ _ _)) = _
    rw [hs]
    unfold cond2
    cases e : Nat.beq sz 1 with
    | false => exact fStoreN_eq _ _ _ _ _
    | true =>
      have := Nat.eq_of_beq_eq_true e
      subst this
      exact fStore_eq _ _ _ _
  | nilCheck x =>
    show fNilc (ρ x) h k (fSlow _ _ _ _ _) = _
    rw [hs]
    unfold fNilc
    simp only [aop]
    cases ρ x with
    | pointer a =>
      rw [vPtr_p]
      exact plainA_eq (fun m o ha => by subst ha; rfl) (fun _ => rfl)
    | _ => rfl
  | bin op x y =>
    show fBin op (ρ x) (ρ y) (fun v => k v h) (fSlow _ _ _ _ _) = _
    rw [hs]
    exact fBin_eq op (ρ x) (ρ y) k h
  | conv c x =>
    cases c with
    | int kd =>
      show fConv kd (ρ x) h k (fSlow _ _ _ _ _) = _
      rw [hs]
      exact fConv_eq _ _ _ _
    | _ => exact hs
  | iface t x => rfl
  | faddr off x => exact fFaddr_eq _ _ _ _
  | iaddr arr es x i =>
    cases arr with
    | none =>
      show fIaddr es (ρ x) (ρ i) h k (fSlow _ _ _ _ _) = _
      rw [hs]
      exact fIaddr_eq _ _ _ _ _
    | some n => exact hs
  | extract x i => exact fExtract_eq _ _ _ _
  | len lk x =>
    cases lk with
    | sl =>
      show vLen (ρ x) (fun n => k (.int .i64 (.ofNat n)) h) (fSlow _ _ _ _ _) = _
      rw [hs]
      show vLen (ρ x) _ _ = onR ((aLen .sl (ρ x) h).map fun v => (v, h)) k
      cases hx : ρ x <;> first | rfl | (simp only [aop, hx]; rfl)
    | _ => exact hs
  | _ => exact hs
end
end Go.AM
