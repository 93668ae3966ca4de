import Derived.Test.YtgapfoaklgganaaAM32
set_option linter.unusedVariables false
set_option linter.unusedSimpArgs false
/-! Part 33: operations, quickly. -/
namespace Go.AM
noncomputable section

theorem vPtr_p (a : Option Addr) (f : Nat → Nat → R) (e : R) : vPtr (.pointer a) f e = plainA a f e := rfl
theorem vSl_s (a : Option Addr) (l c : Nat) (f : Nat → Nat → Nat → Nat → R) (e : R) : vSl (.slice a l c) f e = plainA a (fun m o => f m o l c) e := rfl
theorem vInt_i (k : IntKind) (n : Int) (f : IntKind → Int → R) (e : R) : vInt (.int k n) f e = f k n := rfl
theorem wrapF_small {k : IntKind} {n : Nat} (h : n < capK k) : wrapF k (Int.ofNat n) = Int.ofNat n := by
  rw [wrapF_eq]; exact wrap_small k n h
/-- What two numbers come to, by the abstract machine. -/
def binV (op : BinOp) (x y : Value) (h : AHeap) : Option (Value × AHeap) :=
  match x, y with
  | .int k a, .int k' b => if isShift op then (aShift op k a b).map fun v => (v, h) else if k = k' then (aInt op k a b).map fun v => (v, h) else none
  | .string a, .string b => (aStr op a b).map fun v => (v, h)
  | _, _ => none
theorem binV_nat {op : BinOp} {k : IntKind} {a b : Int} {h : AHeap} (hs : isShift op = false) : binV op (.int k a) (.int k b) h = (aInt op k a b).map fun v => (v, h) := by
  simp [binV, hs]
theorem ofN_add (m n : Nat) : (Int.ofNat m + Int.ofNat n) = Int.ofNat (Nat.add m n) := rfl
theorem fBits_eq {op : BinOp} {g : Nat → Nat → Nat} (hg : ∀ a b, bitsNat op a b = some (g a b)) (ho : ∀ k a b, aInt op k a b = (bitsF op k a b).map (.int k)) (hs : isShift op = false) {x y : Value} {k : Value → AHeap → R} {h : AHeap} :
    fBits g x y (fun v => k v h) (onR (binV op x y h) k) = onR (binV op x y h) k := by
  refine fKK_eq fun kd m n hx hy => ?_
  unfold fBits1 cond2
  subst hx hy
  rw [binV_nat hs, ho]
  by_cases h1 : m < capK kd
  · rw [show Nat.ble (Nat.succ m) (capK kd) = true from Nat.ble_eq_true_of_le h1]
    by_cases h2 : n < capK kd
    · rw [show Nat.ble (Nat.succ n) (capK kd) = true from Nat.ble_eq_true_of_le h2]
      simp only [forceN_eq, fOk1, bitsF, h1, h2, and_self, if_true, hg, Option.map_some, onR_some]
    · rw [show Nat.ble (Nat.succ n) (capK kd) = false from ble_false (by omega)]
  · rw [show Nat.ble (Nat.succ m) (capK kd) = false from ble_false (by omega)]
theorem bits_le (k : IntKind) (m n : Nat) (h : Nat.ble m n = true) : m ≤ n := Nat.le_of_ble_eq_true h
theorem fBin_eq (op : BinOp) (x y : Value) (k : Value → AHeap → R) (h : AHeap) : fBin op x y (fun v => k v h) (onR (binV op x y h) k) = onR (binV op x y h) k := by
  cases op
  case add =>
    refine fKK_eq fun kd m n hx hy => fOk_eq fun hs => ?_
    subst hx hy
    rw [binV_nat rfl]; simp only [aInt, ofN_add, wrapF_small hs, Option.map_some, onR_some]
  case sub =>
    refine fKK_eq fun kd m n hx hy => ?_
    unfold fSub1 cond2
    cases e : Nat.ble n m with
    | false => rfl
    | true =>
      refine fOk_eq fun hs => ?_
      subst hx hy
      have e1 : (Int.ofNat m - Int.ofNat n) = Int.ofNat (Nat.sub m n) := by
        have := Nat.le_of_ble_eq_true e
        show ((m : Int) - (n : Int)) = ((m - n : Nat) : Int)
        omega
      rw [binV_nat rfl]; simp only [aInt, e1, wrapF_small hs, Option.map_some, onR_some]
  case mul =>
    refine fKK_eq fun kd m n hx hy => fOk_eq fun hs => ?_
    subst hx hy
    have e1 : (Int.ofNat m * Int.ofNat n) = Int.ofNat (Nat.mul m n) := rfl
    rw [binV_nat rfl]; simp only [aInt, e1, wrapF_small hs, Option.map_some, onR_some]
  case quo =>
    refine fKK_eq fun kd m n hx hy => ?_
    unfold fQuo1 cond2
    cases e : Nat.ble 1 n with
    | false => rfl
    | true =>
      refine fOk_eq fun hs => ?_
      subst hx hy
      have hn := Nat.le_of_ble_eq_true e
      have e1 : (Int.ofNat m).tdiv (Int.ofNat n) = Int.ofNat (Nat.div m n) := rfl
      have e2 : Int.ofNat n ≠ 0 := by show (n : Int) ≠ 0; omega
      rw [binV_nat rfl]; simp only [aInt, e1, e2, if_false, wrapF_small hs, Option.map_some, onR_some]
  case rem =>
    refine fKK_eq fun kd m n hx hy => ?_
    unfold fRem1 cond2
    cases e : Nat.ble 1 n with
    | false => rfl
    | true =>
      subst hx hy
      have hn := Nat.le_of_ble_eq_true e
      have e1 : (Int.ofNat m).tmod (Int.ofNat n) = Int.ofNat (Nat.mod m n) := rfl
      have e2 : Int.ofNat n ≠ 0 := by show (n : Int) ≠ 0; omega
      rw [binV_nat rfl]; simp only [aInt, e1, e2, if_false, Option.map_some, onR_some, forceN_eq, fOk1]
  case and => exact fBits_eq (fun _ _ => rfl) (fun _ _ _ => rfl) rfl
  case or => exact fBits_eq (fun _ _ => rfl) (fun _ _ _ => rfl) rfl
  case xor => exact fBits_eq (fun _ _ => rfl) (fun _ _ _ => rfl) rfl
  case andNot => rfl
  case shl =>
    refine fNN_eq fun kd k' m n hx hy => ?_
    unfold fShl1 cond2
    cases e : Nat.ble n (bitsN kd) with
    | false => rfl
    | true =>
      refine fOk_eq fun hs => ?_
      subst hx hy
      have hn := Nat.le_of_ble_eq_true e
      have e1 : ¬ Int.ofNat n < 0 := by show ¬ (n : Int) < 0; omega
      have e2 : (Int.ofNat n).toNat = n := rfl
      have e3 : shlF kd (Int.ofNat m) n = Int.ofNat (Nat.shiftLeft m n) := by
        show wrapF kd (Int.ofNat (m <<< n)) = _
        exact wrapF_small hs
      simp only [binV, isShift, if_true, aShift, e1, if_false, e2, hn, e3, Option.map_some, onR_some]
  case shr =>
    refine fNN_eq fun kd k' m n hx hy => ?_
    unfold fShr1 cond2
    cases e : Nat.ble n (bitsN kd) with
    | false => rfl
    | true =>
      subst hx hy
      have hn := Nat.le_of_ble_eq_true e
      have e1 : ¬ Int.ofNat n < 0 := by show ¬ (n : Int) < 0; omega
      have e2 : (Int.ofNat n).toNat = n := rfl
      have e3 : shrF (Int.ofNat m) n = Int.ofNat (Nat.shiftRight m n) := rfl
      simp only [binV, isShift, if_true, aShift, e1, if_false, e2, hn, e3, Option.map_some, onR_some, forceN_eq, fOk1]
  case eql =>
    refine fKK_eq fun kd m n hx hy => ?_
    unfold fEql1
    subst hx hy
    have e1 : Nat.beq m n = decide (Int.ofNat m = Int.ofNat n) := by
      rw [Bool.eq_iff_iff, Nat.beq_eq, decide_eq_true_iff]; exact ⟨fun h => by rw [h], fun h => Int.ofNat.inj h⟩
    rw [binV_nat rfl]; simp only [aInt, Option.map_some, onR_some, fBoolR_eq, e1]
  case neq =>
    refine fKK_eq fun kd m n hx hy => ?_
    unfold fNeq1 cond2
    subst hx hy
    have e1 : Nat.beq m n = decide (Int.ofNat m = Int.ofNat n) := by
      rw [Bool.eq_iff_iff, Nat.beq_eq, decide_eq_true_iff]; exact ⟨fun h => by rw [h], fun h => Int.ofNat.inj h⟩
    rw [binV_nat rfl]
    simp only [aInt, Option.map_some, onR_some, e1]
    cases decide (Int.ofNat m = Int.ofNat n) <;> rfl
  case lss =>
    refine fKK_eq fun kd m n hx hy => ?_
    unfold fLss1
    subst hx hy
    have e1 : Nat.ble (Nat.succ m) n = decide (Int.ofNat m < Int.ofNat n) := by
      rw [Bool.eq_iff_iff, Nat.ble_eq, decide_eq_true_iff]; show m + 1 ≤ n ↔ (m : Int) < (n : Int); omega
    rw [binV_nat rfl]; simp only [aInt, Option.map_some, onR_some, fBoolR_eq, e1]
  case leq =>
    refine fKK_eq fun kd m n hx hy => ?_
    unfold fLeq1
    subst hx hy
    have e1 : Nat.ble m n = decide (Int.ofNat m ≤ Int.ofNat n) := by
      rw [Bool.eq_iff_iff, Nat.ble_eq, decide_eq_true_iff]; show m ≤ n ↔ (m : Int) ≤ (n : Int); omega
    rw [binV_nat rfl]; simp only [aInt, Option.map_some, onR_some, fBoolR_eq, e1]
  case gtr =>
    refine fKK_eq fun kd m n hx hy => ?_
    unfold fGtr1
    subst hx hy
    have e1 : Nat.ble (Nat.succ n) m = decide (Int.ofNat m > Int.ofNat n) := by
      rw [Bool.eq_iff_iff, Nat.ble_eq, decide_eq_true_iff]; show n + 1 ≤ m ↔ (n : Int) < (m : Int); omega
    rw [binV_nat rfl]; simp only [aInt, Option.map_some, onR_some, fBoolR_eq, e1]
  case geq =>
    refine fKK_eq fun kd m n hx hy => ?_
    unfold fGeq1
    subst hx hy
    have e1 : Nat.ble n m = decide (Int.ofNat m ≥ Int.ofNat n) := by
      rw [Bool.eq_iff_iff, Nat.ble_eq, decide_eq_true_iff]; show n ≤ m ↔ (n : Int) ≤ (m : Int); omega
    rw [binV_nat rfl]; simp only [aInt, Option.map_some, onR_some, fBoolR_eq, e1]

/-! ## operations -/
def fLoad2 (k : Value → AHeap → R) (h : AHeap) (o : Nat) (_ro : Bool) (_gr : Nat) (c : Cells) : R := cGet c o fun v => k v h
def fLoad1 (k : Value → AHeap → R) (h : AHeap) (m o : Nat) : R := onRow (h.get m) (fLoad2 k h o)
def fLoad (a : Value) (h : AHeap) (k : Value → AHeap → R) : R := vPtr a (fLoad1 k h) none
theorem fLoad_eq (a : Value) (h : AHeap) (k : Value → AHeap → R) : fLoad a h k = onR ((aLoad none a h).map fun v => (v, h)) k := by
  unfold fLoad
  cases a with
  | pointer a =>
    rw [vPtr_p]
    refine plainA_eq (fun m o ha => ?_) (fun hn => ?_)
    · subst ha
      simp only [aLoad, fLoad1]
      cases h.get m with
      | row ro gr c =>
        show cGet c o _ = _
        rw [cGet_eq]
        simp only
        cases c.get o <;> rfl
      | _ => rfl
    · unfold aLoad
      split
      · rename_i m o heq; injection heq with heq; exact absurd heq (hn m o)
      · rfl
  | _ => rfl
/-- A byte put into a row of bytes. -/
def fBlit (c : Cells) (o : Nat) (x : Value) (f : Cells → R) (slow : R) : R :=
  @Cells.rec (fun _ => R) (fun _ => slow)
    (fun n len => vInt x (fun kd i => @IntKind.rec (fun _ => R) slow slow slow slow
      (@Int.rec (fun _ => R) (fun b => @Bool.rec (fun _ => R) slow
        (forceN (((Nat.mod (Nat.mod (Nat.shiftRight n (8 * 0)) (Nat.pow 2 (Nat.mul 8 o))) (Nat.pow 2 (Nat.mul 8 o)) + Nat.shiftLeft (b + Nat.shiftLeft 0 8) (Nat.mul 8 o)) % 2 ^ (8 * (o + 1))) + Nat.shiftLeft ((Nat.shiftRight n (8 * (o + 1))) % 2 ^ (8 * (len - (o + 1)))) (8 * (o + 1)))
          fun n => forceN ((o + 1) + (len - (o + 1))) fun len => f (.bytes n len)) (Nat.ble (Nat.succ b) 256)) (fun _ => slow) i)
      slow slow slow kd) slow) c
theorem fBlit_eq {c : Cells} {o : Nat} {x : Value} {f : Cells → R} : fBlit c o x f (f (c.blit o (cellsOf x))) = f (c.blit o (cellsOf x)) := by
  cases c with
  | vals l => rfl
  | bytes n len =>
    cases x with
    | int kd i =>
      cases kd
      case u8 =>
        cases i with
        | ofNat b =>
          show @Bool.rec (fun _ => R) _ _ (Nat.ble (Nat.succ b) 256) = _
          by_cases hb : b < 256
          · rw [show Nat.ble (Nat.succ b) 256 = true from Nat.ble_eq_true_of_le hb]
            simp only [forceN_eq]
            have e : cellsOf (.int .u8 (Int.ofNat b)) = .vals [.int .u8 (Int.ofNat b)] := rfl
            rw [e]
            simp only [Cells.blit, Cells.ext, Cells.app, pack, hb, if_true, Option.map_some, Cells.size, List.length_cons, List.length_nil]
            rfl
          · rw [show Nat.ble (Nat.succ b) 256 = false from ble_false (by omega)]
        | negSucc b => rfl
      all_goals rfl
    | _ => rfl
def fStore3 (k : Value → AHeap → R) (h : AHeap) (m gr : Nat) (c : Cells) : R := k undef (h.set m (.row false gr c))
def fStore2 (x : Value) (k : Value → AHeap → R) (h : AHeap) (m o : Nat) (ro : Bool) (gr : Nat) (c : Cells) : R :=
  cond2 ro none (cond2 (Nat.ble (Nat.succ o) c.size) (fBlit c o x (fStore3 k h m gr) (fStore3 k h m gr (c.blit o (cellsOf x)))) none)
def fStore1 (x : Value) (k : Value → AHeap → R) (h : AHeap) (m o : Nat) : R := onRow (h.get m) (fStore2 x k h m o)
def fStore (a x : Value) (h : AHeap) (k : Value → AHeap → R) (slow : R) : R := vInt x (fun _ _ => vPtr a (fStore1 x k h) none) slow
theorem fStore_eq (a x : Value) (h : AHeap) (k : Value → AHeap → R) : fStore a x h k (onR ((aStore 1 a x h).map fun h' => (undef, h')) k) = onR ((aStore 1 a x h).map fun h' => (undef, h')) k := by
  unfold fStore
  cases x with
  | int kd i =>
    show vPtr a _ _ = _
    cases a with
    | pointer a =>
      rw [vPtr_p]
      refine plainA_eq (fun m o ha => ?_) (fun hn => ?_)
      · subst ha
        simp only [aStore, fStore1]
        cases h.get m with
        | row ro gr c =>
          cases ro with
          | true => rfl
          | false =>
            show cond2 (Nat.ble (Nat.succ o) c.size) _ _ = _
            unfold cond2
            by_cases hc : o + 1 ≤ c.size
            · rw [show Nat.ble (Nat.succ o) c.size = true from Nat.ble_eq_true_of_le hc]
              have hcond : ((Value.int kd i).cells.size = 1 ∧ o + 1 ≤ c.size ∧ (Value.int kd i).cells.toList.all one = true) := ⟨rfl, hc, rfl⟩
              simp only [hcond, and_self, if_true, Option.map_some, onR_some]
              exact fBlit_eq (f := fStore3 k h m gr)
            · rw [show Nat.ble (Nat.succ o) c.size = false from ble_false (by omega)]
              simp only [hc, false_and, and_false, if_false, Option.map_none, onR_none]
        | _ => rfl
      · unfold aStore
        split
        · rename_i m o heq; injection heq with heq; exact absurd heq (hn m o)
        · rfl
    | _ => rfl
  | _ => rfl
def fIaddr3 (es j : Nat) (h : AHeap) (k : Value → AHeap → R) (slow : R) (m o len _cap : Nat) : R := cond2 (Nat.ble (Nat.succ j) len) (forceN (Nat.add o (Nat.mul j es)) fun o => k (.pointer (some ⟨m, o, none⟩)) h) slow
def fIaddr2 (es : Nat) (x : Value) (h : AHeap) (k : Value → AHeap → R) (slow : R) (j : Nat) : R := vSl x (fIaddr3 es j h k slow) slow
def fIaddr (es : Nat) (x i : Value) (h : AHeap) (k : Value → AHeap → R) (slow : R) : R := vInt i (fun _ i => intNat i (fIaddr2 es x h k slow) slow) slow
theorem fIaddr_eq (es : Nat) (x i : Value) (h : AHeap) (k : Value → AHeap → R) : fIaddr es x i h k (onR ((aIndexAddr none es x i).map fun v => (v, h)) k) = onR ((aIndexAddr none es x i).map fun v => (v, h)) k := by
  unfold fIaddr
  cases i with
  | int kd i =>
    cases i with
    | ofNat j =>
      show vSl x (fIaddr3 es j h k _) _ = _
      cases x with
      | slice a len cap =>
        rw [vSl_s]
        refine plainA_eq (fun m o ha => ?_) (fun hn => rfl)
        subst ha
        unfold fIaddr3 cond2
        by_cases hj : j < len
        · rw [show Nat.ble (Nat.succ j) len = true from Nat.ble_eq_true_of_le hj]
          have e1 : (0 : Int) ≤ Int.ofNat j ∧ Int.ofNat j < (len : Int) := ⟨by show (0 : Int) ≤ (j : Int); omega, by show (j : Int) < (len : Int); omega⟩
          simp only [aIndexAddr, aIndexSl, e1, and_self, if_true, Option.map_some, onR_some, forceN_eq, fOk1]
          rfl
        · rw [show Nat.ble (Nat.succ j) len = false from ble_false (by omega)]
      | _ => rfl
    | negSucc j => rfl
  | _ => rfl
def fFaddr (off : Nat) (x : Value) (h : AHeap) (k : Value → AHeap → R) : R := vPtr x (fun m o => forceN (Nat.add o off) fun o => k (.pointer (some ⟨m, o, none⟩)) h) none
theorem fFaddr_eq (off : Nat) (x : Value) (h : AHeap) (k : Value → AHeap → R) :
    fFaddr off x h k = onR (match x with | .pointer (some ⟨m, o, none⟩) => some (.pointer (some ⟨m, o + off, none⟩), h) | _ => none) k := by
  unfold fFaddr
  cases x with
  | pointer a =>
    rw [vPtr_p]
    refine plainA_eq (fun m o ha => ?_) (fun hn => ?_)
    · subst ha; simp only [forceN_eq, onR_some]; rfl
    · split
      · rename_i m o heq; injection heq with heq; exact absurd heq (hn m o)
      · rfl
  | _ => rfl
def fExtract (i : Nat) (x : Value) (h : AHeap) (k : Value → AHeap → R) : R := vTup x (fun l => lGet l (fun v => forceV v fun v => k v h) i) none
theorem fExtract_eq (i : Nat) (x : Value) (h : AHeap) (k : Value → AHeap → R) : fExtract i x h k = onR ((aExtract i x).map fun v => (v, h)) k := by
  unfold fExtract
  cases x with
  | tuple vs =>
    obtain ⟨l⟩ := vs
    show lGet l _ i = _
    rw [lGet_eq]
    simp only [aExtract, List.getElem?_toArray]
    cases l[i]? <;> simp
  | _ => rfl
def fConv (kd : IntKind) (x : Value) (h : AHeap) (k : Value → AHeap → R) (slow : R) : R := vInt x (fun _ i => intNat i (fun m => fOk kd m (fun v => k v h) slow) slow) slow
theorem fConv_eq (kd : IntKind) (x : Value) (h : AHeap) (k : Value → AHeap → R) : fConv kd x h k (onR (aConv (.int kd) x h) k) = onR (aConv (.int kd) x h) k := by
  unfold fConv
  cases x with
  | int k0 i =>
    cases i with
    | ofNat m =>
      rw [vInt_i]
      refine fOk_eq fun hs => ?_
      simp only [aConv, wrapF_small hs, onR_some]
    | negSucc m => rfl
  | _ => rfl
def fNilc (x : Value) (h : AHeap) (k : Value → AHeap → R) (slow : R) : R := vPtr x (fun m o => k (.pointer (some ⟨m, o, none⟩)) h) slow

def fSlow (pk : Bool) (ao : AOp) (ρ : Operand → Value) (h : AHeap) (k : Value → AHeap → R) : R := onR (aop pk ao ρ h) fun v h => forceV v fun v => forceH h fun h => k v h
theorem fSlow_eq (pk : Bool) (ao : AOp) (ρ : Operand → Value) (h : AHeap) (k : Value → AHeap → R) : fSlow pk ao ρ h k = onR (aop pk ao ρ h) k := by
  unfold fSlow; simp only [forceV_eq, forceH_eq]
def fDo (pk : Bool) (ao : AOp) (ρ : Operand → Value) (h : AHeap) (k : Value → AHeap → R) : R :=
  @AOp.rec (fun _ => (Operand → Value) → AHeap → (Value → AHeap → R) → Bool → AOp → R)
    (fun x ρ h k pk ao => k (ρ x) h)
    (fun c a b ρ h k pk ao => vBool (ρ c) (k (ρ a) h) (k (ρ b) h) none)
    (fun _ ρ h k pk ao => fSlow pk ao ρ h k)
    (fun _ ρ h k pk ao => fSlow pk ao ρ h k)
    (fun _ _ ρ h k pk ao => fSlow pk ao ρ h k)
    (fun _ _ _ ρ h k pk ao => fSlow pk ao ρ h k)
    (fun n a ρ h k pk ao => @Option.rec Nat (fun _ => (Operand → Value) → AHeap → (Value → AHeap → R) → Bool → AOp → R) (fun ρ h k pk ao => fLoad (ρ a) h k) (fun _ ρ h k pk ao => fSlow pk ao ρ h k) n ρ h k pk ao)
    (fun sz a x ρ h k pk ao => cond2 (Nat.beq sz 1) (fStore (ρ a) (ρ x) h k (fSlow pk ao ρ h k)) (fSlow pk ao ρ h k))
    (fun x ρ h k pk ao => fNilc (ρ x) h k (fSlow pk ao ρ h k))
    (fun op x y ρ h k pk ao => fBin op (ρ x) (ρ y) (fun v => k v h) (fSlow pk ao ρ h k))
    (fun _ _ _ ρ h k pk ao => fSlow pk ao ρ h k)
    (fun _ _ _ _ ρ h k pk ao => fSlow pk ao ρ h k)
    (fun _ _ _ _ _ ρ h k pk ao => fSlow pk ao ρ h k)
    (fun _ _ ρ h k pk ao => fSlow pk ao ρ h k)
    (fun c x ρ h k pk ao => @ConvK.rec (fun _ => Operand → (Operand → Value) → AHeap → (Value → AHeap → R) → Bool → AOp → R) (fun kd x ρ h k pk ao => fConv kd (ρ x) h k (fSlow pk ao ρ h k)) (fun _ ρ h k pk ao => fSlow pk ao ρ h k) (fun _ _ ρ h k pk ao => fSlow pk ao ρ h k) (fun _ ρ h k pk ao => fSlow pk ao ρ h k) (fun _ ρ h k pk ao => fSlow pk ao ρ h k) c x ρ h k pk ao)
    (fun t x ρ h k pk ao => k (.iface t (ρ x)) h)
    (fun _ _ _ ρ h k pk ao => fSlow pk ao ρ h k)
    (fun ρ h k pk ao => fSlow pk ao ρ h k)
    (fun _ _ _ ρ h k pk ao => fSlow pk ao ρ h k)
    (fun _ _ _ _ _ ρ h k pk ao => fSlow pk ao ρ h k)
    (fun off x ρ h k pk ao => fFaddr off (ρ x) h k)
    (fun _ _ _ ρ h k pk ao => fSlow pk ao ρ h k)
    (fun arr es x i ρ h k pk ao => @Option.rec Nat (fun _ => R → R → R) (fun a b => a) (fun _ a b => b) arr (fIaddr es (ρ x) (ρ i) h k (fSlow pk ao ρ h k)) (fSlow pk ao ρ h k))
    (fun _ _ _ ρ h k pk ao => fSlow pk ao ρ h k)
    (fun _ _ _ _ ρ h k pk ao => fSlow pk ao ρ h k)
    (fun _ _ _ _ ρ h k pk ao => fSlow pk ao ρ h k)
    (fun x i ρ h k pk ao => fExtract i (ρ x) h k)
    (fun _ _ _ _ ρ h k pk ao => fSlow pk ao ρ h k)
    (fun _ _ _ ρ h k pk ao => fSlow pk ao ρ h k)
    (fun lk x ρ h k pk ao => @LenK.rec (fun _ => R → R → R) (fun a b => b) (fun a b => a) (fun a b => b) (fun _ a b => b) lk (vLen (ρ x) (fun n => k (.int .i64 (.ofNat n)) h) (fSlow pk ao ρ h k)) (fSlow pk ao ρ h k))
    (fun _ _ _ ρ h k pk ao => fSlow pk ao ρ h k) ao ρ h k pk ao
theorem fDo_eq (pk : Bool) (ao : AOp) (ρ : Operand → Value) (h : AHeap) (k : Value → AHeap → R) : fDo pk ao ρ h k = onR (aop pk ao ρ h) k := by
  have hs := fSlow_eq pk ao ρ h k
  cases ao with
  | mov x => rfl
  | pick c a b =>
    show vBool (ρ c) _ _ _ = onR (match ρ c with | .bool t => some (if t then ρ a else ρ b, h) | _ => none) k
    cases ρ c with
    | bool t => cases t <;> rfl
    | _ => rfl
  | load n a =>
    cases n with
    | none => exact fLoad_eq _ _ _
    | some n => exact hs
  | store sz a x =>
    show cond2 (Nat.beq sz 1) _ (fSlow _ _ _ _ _) = _
    rw [hs]
    unfold cond2
    cases e : Nat.beq sz 1 with
    | false => rfl
    | true =>
      have := Nat.eq_of_beq_eq_true e
      subst this
      exact fStore_eq _ _ _ _
  | nilCheck x =>
    show fNilc (ρ x) h k (fSlow _ _ _ _ _) = _
    rw [hs]
    unfold fNilc
    simp only [aop]
    cases ρ x with
    | pointer a =>
      rw [vPtr_p]
      exact plainA_eq (fun m o ha => by subst ha; rfl) (fun _ => rfl)
    | _ => rfl
  | bin op x y =>
    show fBin op (ρ x) (ρ y) (fun v => k v h) (fSlow _ _ _ _ _) = _
    rw [hs]
    exact fBin_eq op (ρ x) (ρ y) k h
  | conv c x =>
    cases c with
    | int kd =>
      show fConv kd (ρ x) h k (fSlow _ _ _ _ _) = _
      rw [hs]
      exact fConv_eq _ _ _ _
    | _ => exact hs
  | iface t x => rfl
  | faddr off x => exact fFaddr_eq _ _ _ _
  | iaddr arr es x i =>
    cases arr with
    | none =>
      show fIaddr es (ρ x) (ρ i) h k (fSlow _ _ _ _ _) = _
      rw [hs]
      exact fIaddr_eq _ _ _ _ _
    | some n => exact hs
  | extract x i => exact fExtract_eq _ _ _ _
  | len lk x =>
    cases lk with
    | sl =>
      show vLen (ρ x) (fun n => k (.int .i64 (.ofNat n)) h) (fSlow _ _ _ _ _) = _
      rw [hs]
      show vLen (ρ x) _ _ = onR ((aLen .sl (ρ x) h).map fun v => (v, h)) k
      cases hx : ρ x <;> first | rfl | (simp only [aop, hx]; rfl)
    | _ => exact hs
  | _ => exact hs
end
end Go.AM
