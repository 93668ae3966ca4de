import Derived.Test.YtoehafeeoggpkaaAM3
set_option linter.unusedVariables false
set_option linter.unusedSimpArgs false
/-! Part 4: operations on plain values. -/
namespace Go.AM
noncomputable section
open Go.RowKit

/-! ## numbers, with a quick way for those that fit -/
def loK : IntKind → Int
  | .i8 => -128 | .i16 => -32768 | .i32 => -2147483648 | .i64 => -9223372036854775808 | _ => 0
def hiK : IntKind → Int
  | .i8 => 127 | .i16 => 32767 | .i32 => 2147483647 | .i64 => 9223372036854775807
  | .u8 => 255 | .u16 => 65535 | .u32 => 4294967295 | .u64 => 18446744073709551615
def wrapF (k : IntKind) (n : Int) : Int := if loK k ≤ n ∧ n ≤ hiK k then n else k.wrap n
theorem wrapF_eq (k : IntKind) (n : Int) : wrapF k n = k.wrap n := by
  unfold wrapF
  split
  · rename_i h
    cases k <;> simp [loK, hiK, IntKind.wrap, IntKind.signed, IntKind.bits] at * <;> omega
  · rfl

def bitsNat (op : BinOp) (a b : Nat) : Option Nat :=
  match op with
  | .and => some (Nat.land a b)
  | .or => some (Nat.lor a b)
  | .xor => some (Nat.xor a b)
  | .andNot => some (Nat.xor a (Nat.land a b))
  | _ => none
def bitsSlow (op : BinOp) (k : IntKind) (x y : Int) : Option Int :=
  let a := BitVec.ofInt k.bits x
  let b := BitVec.ofInt k.bits y
  match op with
  | .and => some (k.wrap (a &&& b).toNat)
  | .or => some (k.wrap (a ||| b).toNat)
  | .xor => some (k.wrap (a ^^^ b).toNat)
  | .andNot => some (k.wrap (a &&& ~~~b).toNat)
  | _ => none
def topK : IntKind → Nat
  | .i8 => 7 | .i16 => 15 | .i32 => 31 | .i64 => 63 | .u8 => 8 | .u16 => 16 | .u32 => 32 | .u64 => 64
def capK : IntKind → Nat
  | .i8 => 128 | .i16 => 32768 | .i32 => 2147483648 | .i64 => 9223372036854775808 | .u8 => 256 | .u16 => 65536 | .u32 => 4294967296 | .u64 => 18446744073709551616
theorem capK_eq (k : IntKind) : capK k = 2 ^ topK k := by cases k <;> rfl
def bitsF (op : BinOp) (k : IntKind) (x y : Int) : Option Int :=
  match x, y with
  | .ofNat a, .ofNat b => if a < capK k ∧ b < capK k then (bitsNat op a b).map Int.ofNat else bitsSlow op k x y
  | _, _ => bitsSlow op k x y

theorem topK_le (k : IntKind) : topK k ≤ k.bits := by cases k <;> decide
theorem ofInt_ofNat_toNat (k : IntKind) (a : Nat) (h : a < capK k) : (BitVec.ofInt k.bits (Int.ofNat a)).toNat = a := by
  have h2 : a < 2 ^ k.bits := by
    rw [capK_eq] at h
    exact Nat.lt_of_lt_of_le h (Nat.pow_le_pow_right (by decide) (topK_le k))
  rw [BitVec.toNat_ofInt]
  have : (Int.ofNat a % (2 ^ k.bits : Nat)) = (a : Int) := by
    rw [Int.ofNat_eq_natCast]
    exact Int.emod_eq_of_lt (by omega) (by exact_mod_cast h2)
  rw [this]; rfl
theorem wrap_small (k : IntKind) (n : Nat) (h : n < capK k) : k.wrap (n : Int) = n := by
  rw [← wrapF_eq, wrapF, if_pos]
  cases k <;> simp [capK, loK, hiK] at * <;> omega
theorem nat_andNot (w a b : Nat) (ha : a < 2 ^ w) (hb : b < 2 ^ w) : (BitVec.ofNat w a &&& ~~~ BitVec.ofNat w b).toNat = a ^^^ (a &&& b) := by
  apply Nat.eq_of_testBit_eq
  intro i
  rw [BitVec.testBit_toNat, BitVec.getLsbD_and, BitVec.getLsbD_not, BitVec.getLsbD_ofNat, BitVec.getLsbD_ofNat, Nat.testBit_xor, Nat.testBit_and]
  by_cases hi : i < w
  · simp only [hi, decide_true, Bool.true_and]
    cases a.testBit i <;> cases b.testBit i <;> rfl
  · have : a.testBit i = false := Nat.testBit_lt_two_pow (Nat.lt_of_lt_of_le ha (Nat.pow_le_pow_right (by decide) (by omega)))
    simp [hi, this]

theorem bitsF_eq (op : BinOp) (k : IntKind) (x y : Int) : bitsF op k x y = bitsSlow op k x y := by
  unfold bitsF
  split
  · rename_i a b
    split
    · rename_i h
      obtain ⟨ha, hb⟩ := h
      have ea := ofInt_ofNat_toNat k a ha
      have eb := ofInt_ofNat_toNat k b hb
      have hlt : ∀ x : Nat, x < 2 ^ topK k → k.wrap (x : Int) = Int.ofNat x := fun x hx => wrap_small k x (by rw [capK_eq]; exact hx)
      have ha' : a < 2 ^ topK k := by rw [← capK_eq]; exact ha
      have hb' : b < 2 ^ topK k := by rw [← capK_eq]; exact hb
      cases op <;> simp only [bitsNat, bitsSlow, Option.map_some, Option.map_none]
      case and =>
        rw [BitVec.toNat_and, ea, eb, hlt _ (Nat.and_lt_two_pow a hb')]; rfl
      case or =>
        rw [BitVec.toNat_or, ea, eb, hlt _ (Nat.or_lt_two_pow ha' hb')]; rfl
      case xor =>
        rw [BitVec.toNat_xor, ea, eb, hlt _ (Nat.xor_lt_two_pow ha' hb')]; rfl
      case andNot =>
        have e1 : BitVec.ofInt k.bits (Int.ofNat a) = BitVec.ofNat k.bits a := BitVec.eq_of_toNat_eq (by rw [ea, BitVec.toNat_ofNat, Nat.mod_eq_of_lt (Nat.lt_of_lt_of_le ha' (Nat.pow_le_pow_right (by decide) (topK_le k)))])
        have e2 : BitVec.ofInt k.bits (Int.ofNat b) = BitVec.ofNat k.bits b := BitVec.eq_of_toNat_eq (by rw [eb, BitVec.toNat_ofNat, Nat.mod_eq_of_lt (Nat.lt_of_lt_of_le hb' (Nat.pow_le_pow_right (by decide) (topK_le k)))])
        rw [e1, e2, nat_andNot _ _ _ (Nat.lt_of_lt_of_le ha' (Nat.pow_le_pow_right (by decide) (topK_le k))) (Nat.lt_of_lt_of_le hb' (Nat.pow_le_pow_right (by decide) (topK_le k))), hlt _ (Nat.xor_lt_two_pow ha' (Nat.and_lt_two_pow a hb'))]
        rfl
    · rfl
  · rfl

/-- Shifts to the left with few bits, to the right by division. -/
def shlF (k : IntKind) (x : Int) (n : Nat) : Int := wrapF k (match x with | .ofNat a => .ofNat (a <<< n) | _ => x * 2 ^ n)
theorem shlF_eq (k : IntKind) (x : Int) (n : Nat) : shlF k x n = k.wrap (x * 2 ^ n) := by
  unfold shlF
  rw [wrapF_eq]
  congr 1
  split
  · rename_i a
    simp only [Int.ofNat_eq_natCast, Nat.shiftLeft_eq]
    norm_cast
  · rfl
def shrF (x : Int) (n : Nat) : Int := match x with | .ofNat a => .ofNat (a >>> n) | _ => x.fdiv (2 ^ n)
theorem shrF_eq (x : Int) (n : Nat) : shrF x n = x.fdiv (2 ^ n) := by
  unfold shrF
  split
  · rename_i a
    simp only [Int.ofNat_eq_natCast, Nat.shiftRight_eq_div_pow]
    rw [Int.fdiv_eq_ediv_of_nonneg]
    · norm_cast
    · exact_mod_cast Nat.zero_le _
  · rfl
def bitsN : IntKind → Nat
  | .i8 | .u8 => 8 | .i16 | .u16 => 16 | .i32 | .u32 => 32 | .i64 | .u64 => 64
theorem bitsN_eq (k : IntKind) : bitsN k = k.bits := by cases k <;> rfl

/-- Two numbers. -/
def aInt (op : BinOp) (k : IntKind) (x y : Int) : Option Value :=
  match op with
  | .add => some (.int k (wrapF k (x + y)))
  | .sub => some (.int k (wrapF k (x - y)))
  | .mul => some (.int k (wrapF k (x * y)))
  | .quo => if y = 0 then none else some (.int k (wrapF k (x.tdiv y)))
  | .rem => if y = 0 then none else some (.int k (x.tmod y))
  | .and | .or | .xor | .andNot => (bitsF op k x y).map (.int k)
  | .eql => some (.bool (decide (x = y)))
  | .neq => some (.bool (!decide (x = y)))
  | .lss => some (.bool (decide (x < y)))
  | .leq => some (.bool (decide (x ≤ y)))
  | .gtr => some (.bool (decide (x > y)))
  | .geq => some (.bool (decide (x ≥ y)))
  | _ => none
def aShift (op : BinOp) (k : IntKind) (x y : Int) : Option Value :=
  if y < 0 then none else
  let n := if y.toNat ≤ bitsN k then y.toNat else bitsN k
  match op with
  | .shl => some (.int k (shlF k x n))
  | .shr => some (.int k (shrF x n))
  | _ => none
def isShift : BinOp → Bool
  | .shl | .shr => true
  | _ => false

theorem intBits_run {P : Program} {w : World} {op : BinOp} {k : IntKind} {x y : Int} {r : Int} (h : bitsSlow op k x y = some r) : (Op.intBits op k x y).run P w = .ok (.int k r) w := by
  cases op <;> simp only [bitsSlow, Option.some.injEq] at h <;> first | (cases h; done) | (subst h; rfl)

theorem aInt_run {P : Program} {w : World} {op : BinOp} {k : IntKind} {x y : Int} {v : Value} {t : TypeId} (h : aInt op k x y = some v) (hs : isShift op = false) :
    (binOp op t (.int k x) (.int k y)).run P w = .ok v w := by
  have hb : ∀ r, bitsF op k x y = some r → (Op.intBits op k x y).run P w = .ok (.int k r) w := fun r hr => intBits_run (by rw [← bitsF_eq]; exact hr)
  cases op <;> simp only [aInt, isShift, Option.map_eq_some_iff, Option.some.injEq, Bool.true_eq_false, reduceCtorEq] at h hs
  case quo =>
    split at h
    · cases h
    · rename_i hy; cases h; simp [binOp, Op.intDiv, hy, wrapF_eq]
  case rem =>
    split at h
    · cases h
    · rename_i hy; cases h; simp [binOp, Op.intDiv, hy]
  case and => obtain ⟨r, hr, rfl⟩ := h; simpa [binOp] using hb r hr
  case or => obtain ⟨r, hr, rfl⟩ := h; simpa [binOp] using hb r hr
  case xor => obtain ⟨r, hr, rfl⟩ := h; simpa [binOp] using hb r hr
  case andNot => obtain ⟨r, hr, rfl⟩ := h; simpa [binOp] using hb r hr
  case add => subst h; simp [binOp, Op.intArith, wrapF_eq]
  case sub => subst h; simp [binOp, Op.intArith, wrapF_eq]
  case mul => subst h; simp [binOp, Op.intArith, wrapF_eq]
  case eql => subst h; simp only [binOp, Op.intCmp, ne_eq, not_true_eq_false, if_false, Sem.run_pure]; rfl
  case neq => subst h; simp only [binOp, Op.intCmp, ne_eq, not_true_eq_false, if_false, Sem.run_pure]; rfl
  all_goals (subst h; simp [binOp, Op.intCmp])

theorem aShift_run {P : Program} {w : World} {op : BinOp} {k k' : IntKind} {x y : Int} {v : Value} {t : TypeId} (h : aShift op k x y = some v) (hs : isShift op = true) :
    (binOp op t (.int k x) (.int k' y)).run P w = .ok v w := by
  unfold aShift at h
  split at h
  · cases h
  · rename_i hy
    have hn : (if y.toNat ≤ bitsN k then y.toNat else bitsN k) = min y.toNat k.bits := by rw [bitsN_eq]; split <;> omega
    simp only [hn] at h
    cases op <;> simp only [isShift, Bool.false_eq_true] at hs <;> simp only [Option.some.injEq] at h <;> subst h <;> simp [binOp, Op.shift, hy, shlF_eq, shrF_eq]

end
end Go.AM
