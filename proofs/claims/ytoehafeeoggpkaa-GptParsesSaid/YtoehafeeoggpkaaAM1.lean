import Derived.Calls
import Derived.Orders
import Derived.LoopN
import Derived.Below
import Derived.Laws.Cells
import Derived.KernelRfl
set_option linter.unusedVariables false
set_option linter.unusedSimpArgs false
/-! An abstract machine for the IR, part 1: tries, rows of cells, values, the heap, and how they stand to a world. -/
namespace Go.AM

/-! ## tries: finite maps from numbers -/
inductive Tr (α : Type) where
  | leaf
  | node (v : Option α) (l r : Tr α)
  deriving Inhabited

def Tr.get {α : Type} : Tr α → Nat → Option α
  | .leaf, _ => none
  | .node v l r, k => if k = 0 then v else if k % 2 = 1 then l.get (k / 2) else r.get (k / 2 - 1)

def Tr.setF {α : Type} : Nat → Tr α → Nat → α → Tr α
  | 0, t, _, _ => t
  | f + 1, .leaf, k, x => if k = 0 then .node (some x) .leaf .leaf else if k % 2 = 1 then .node none (setF f .leaf (k / 2) x) .leaf else .node none .leaf (setF f .leaf (k / 2 - 1) x)
  | f + 1, .node v l r, k, x => if k = 0 then .node (some x) l r else if k % 2 = 1 then .node v (setF f l (k / 2) x) r else .node v l (setF f r (k / 2 - 1) x)
def Tr.set {α : Type} (t : Tr α) (k : Nat) (x : α) : Tr α := t.setF (k + 1) k x

@[simp] theorem Tr.get_leaf {α : Type} (k : Nat) : (Tr.leaf : Tr α).get k = none := rfl

theorem Tr.get_setF {α : Type} : ∀ (f : Nat) (t : Tr α) (k j : Nat) (x : α), k < f → (t.setF f k x).get j = if j = k then some x else t.get j
  | 0, t, k, j, x, h => by omega
  | f + 1, .leaf, k, j, x, h => by
    unfold Tr.setF
    by_cases hk : k = 0
    · subst hk
      simp only [if_true, Tr.get]
      split
      · rename_i h0; simp [h0]
      · rename_i h0; simp [h0]
    · rw [if_neg hk]
      by_cases ho : k % 2 = 1
      · rw [if_pos ho]
        simp only [Tr.get]
        by_cases hj : j = 0
        · rw [if_pos hj, if_neg (by omega)]
        · rw [if_neg hj]
          by_cases hjo : j % 2 = 1
          · rw [if_pos hjo, Tr.get_setF f .leaf (k / 2) (j / 2) x (by omega)]
            by_cases e : j = k
            · rw [if_pos (by omega), if_pos e]
            · rw [if_neg (by omega), if_neg e]; rfl
          · rw [if_neg hjo, if_neg (by omega)]
      · rw [if_neg ho]
        simp only [Tr.get]
        by_cases hj : j = 0
        · rw [if_pos hj, if_neg (by omega)]
        · rw [if_neg hj]
          by_cases hjo : j % 2 = 1
          · rw [if_pos hjo, if_neg (by omega)]
          · rw [if_neg hjo, Tr.get_setF f .leaf (k / 2 - 1) (j / 2 - 1) x (by omega)]
            by_cases e : j = k
            · rw [if_pos (by omega), if_pos e]
            · rw [if_neg (by omega), if_neg e]; rfl
  | f + 1, .node v l r, k, j, x, h => by
    unfold Tr.setF
    by_cases hk : k = 0
    · subst hk
      simp only [if_true, Tr.get]
      by_cases hj : j = 0
      · simp [hj]
      · simp [hj]
    · rw [if_neg hk]
      by_cases ho : k % 2 = 1
      · rw [if_pos ho]
        simp only [Tr.get]
        by_cases hj : j = 0
        · rw [if_pos hj, if_pos hj, if_neg (by omega)]
        · rw [if_neg hj, if_neg hj]
          by_cases hjo : j % 2 = 1
          · rw [if_pos hjo, if_pos hjo, Tr.get_setF f l (k / 2) (j / 2) x (by omega)]
            by_cases e : j = k
            · rw [if_pos (by omega), if_pos e]
            · rw [if_neg (by omega), if_neg e]
          · rw [if_neg hjo, if_neg hjo, if_neg (by omega)]
      · rw [if_neg ho]
        simp only [Tr.get]
        by_cases hj : j = 0
        · rw [if_pos hj, if_pos hj, if_neg (by omega)]
        · rw [if_neg hj, if_neg hj]
          by_cases hjo : j % 2 = 1
          · rw [if_pos hjo, if_pos hjo, if_neg (by omega)]
          · rw [if_neg hjo, if_neg hjo, Tr.get_setF f r (k / 2 - 1) (j / 2 - 1) x (by omega)]
            by_cases e : j = k
            · rw [if_pos (by omega), if_pos e]
            · rw [if_neg (by omega), if_neg e]

theorem Tr.get_set {α : Type} (t : Tr α) (k j : Nat) (x : α) : (t.set k x).get j = if j = k then some x else t.get j :=
  Tr.get_setF (k + 1) t k j x (by omega)

/-! ## rows of cells: a list of values, or bytes packed into one number (the first byte lowest) -/
inductive Cells where
  | vals (l : List Value)
  | bytes (n len : Nat)
  deriving Inhabited

def byteV (n : Nat) : Value := .int .u8 (Int.ofNat n)

def Cells.size : Cells → Nat
  | .vals l => l.length
  | .bytes _ len => len

def Cells.get : Cells → Nat → Option Value
  | .vals l, i => l[i]?
  | .bytes n len, i => if i < len then some (byteV ((n >>> (8 * i)) % 256)) else none

/-- A part: at off, len long. (off + len at most the size.) -/
def Cells.ext : Cells → Nat → Nat → Cells
  | .vals l, off, len => .vals ((l.drop off).take len)
  | .bytes n _, off, len => .bytes ((n >>> (8 * off)) % 2 ^ (8 * len)) len

def pack : List Value → Option Nat
  | [] => some 0
  | .int .u8 (.ofNat x) :: r => if x < 256 then (pack r).map fun n => x + n <<< 8 else none
  | _ => none

def Cells.toList : Cells → List Value
  | .vals l => l
  | .bytes n len => (List.range len).map fun i => byteV ((n >>> (8 * i)) % 256)

def Cells.app : Cells → Cells → Cells
  | .bytes n l, .bytes n' l' => .bytes (n % 2 ^ (8 * l) + n' <<< (8 * l)) (l + l')
  | .bytes n l, .vals vs =>
    match pack vs with
    | some n' => .bytes (n % 2 ^ (8 * l) + n' <<< (8 * l)) (l + vs.length)
    | none => .vals ((Cells.bytes n l).toList ++ vs)
  | .vals a, c => .vals (a ++ c.toList)

/-- Others put over some. (off + p.size at most the size.) -/
def Cells.blit (c : Cells) (off : Nat) (p : Cells) : Cells := ((c.ext 0 off).app p).app (c.ext (off + p.size) (c.size - (off + p.size)))

theorem Cells.length_toList (c : Cells) : c.toList.length = c.size := by cases c <;> simp [Cells.toList, Cells.size]

theorem Cells.get_toList (c : Cells) (i : Nat) : c.toList[i]? = c.get i := by
  cases c with
  | vals l => rfl
  | bytes n len =>
    simp only [Cells.toList, Cells.get, List.getElem?_map]
    by_cases h : i < len
    · rw [if_pos h, List.getElem?_range h]; rfl
    · rw [if_neg h, List.getElem?_eq_none (by simp; omega)]; rfl

theorem Cells.get_some {c : Cells} {i : Nat} {v : Value} (h : c.get i = some v) : i < c.size := by
  rw [← Cells.get_toList] at h
  obtain ⟨h', _⟩ := List.getElem?_eq_some_iff.1 h
  rwa [Cells.length_toList] at h'

theorem Cells.get_lt {c : Cells} {i : Nat} (h : i < c.size) : ∃ v, c.get i = some v := by
  rw [← Cells.get_toList, ← Cells.length_toList] at *
  exact ⟨_, List.getElem?_eq_getElem h⟩

theorem Cells.get_ge {c : Cells} {i : Nat} (h : c.size ≤ i) : c.get i = none := by
  rw [← Cells.get_toList, ← Cells.length_toList] at *
  exact List.getElem?_eq_none h

theorem Cells.size_ext {c : Cells} {off len : Nat} (h : off + len ≤ c.size) : (c.ext off len).size = len := by
  cases c with
  | vals l => simp [Cells.ext, Cells.size] at *; omega
  | bytes n l => rfl

theorem mod_two_pow_div (a i l : Nat) (h : i < l) : (a % 2 ^ (8 * l)) >>> (8 * i) % 256 = a >>> (8 * i) % 256 := by
  apply Nat.eq_of_testBit_eq
  intro j
  rw [show (256 : Nat) = 2 ^ 8 from rfl, Nat.testBit_mod_two_pow, Nat.testBit_mod_two_pow, Nat.testBit_shiftRight, Nat.testBit_shiftRight, Nat.testBit_mod_two_pow]
  by_cases hj : j < 8
  · have : 8 * i + j < 8 * l := by omega
    simp [hj, this]
  · simp [hj]

theorem Cells.get_ext {c : Cells} {off len i : Nat} (h : off + len ≤ c.size) : (c.ext off len).get i = if i < len then c.get (off + i) else none := by
  cases c with
  | vals l =>
    simp only [Cells.ext, Cells.get, List.getElem?_take, List.getElem?_drop]
  | bytes n l =>
    simp only [Cells.ext, Cells.get, Cells.size] at *
    by_cases hi : i < len
    · rw [if_pos hi, if_pos hi, if_pos (by omega), mod_two_pow_div _ _ _ hi, ← Nat.shiftRight_add, ← Nat.mul_add]
    · rw [if_neg hi, if_neg hi]

theorem joined_testBit (a b l j : Nat) : (a % 2 ^ l + b <<< l).testBit j = if j < l then a.testBit j else b.testBit (j - l) := by
  rw [Nat.add_comm, Nat.shiftLeft_eq, Nat.mul_comm, Nat.testBit_two_pow_mul_add _ (Nat.mod_lt _ (Nat.two_pow_pos l))]
  split
  · rename_i h; rw [Nat.testBit_mod_two_pow]; simp [h]
  · rfl

theorem joined_byte (a b l i : Nat) : ((a % 2 ^ (8 * l) + b <<< (8 * l)) >>> (8 * i)) % 256 = if i < l then (a >>> (8 * i)) % 256 else (b >>> (8 * (i - l))) % 256 := by
  by_cases h : i < l
  · rw [if_pos h]
    apply Nat.eq_of_testBit_eq
    intro j
    rw [show (256 : Nat) = 2 ^ 8 from rfl, Nat.testBit_mod_two_pow, Nat.testBit_shiftRight, joined_testBit, Nat.testBit_mod_two_pow, Nat.testBit_shiftRight]
    by_cases hj : j < 8
    · rw [if_pos (by omega)]
    · simp [hj]
  · rw [if_neg h]
    apply Nat.eq_of_testBit_eq
    intro j
    rw [show (256 : Nat) = 2 ^ 8 from rfl, Nat.testBit_mod_two_pow, Nat.testBit_shiftRight, joined_testBit, Nat.testBit_mod_two_pow, Nat.testBit_shiftRight]
    by_cases hj : j < 8
    · rw [if_neg (by omega), show 8 * i + j - 8 * l = 8 * (i - l) + j by omega]
    · simp [hj]

theorem pack_get : ∀ (vs : List Value) (n : Nat), pack vs = some n → ∀ i, vs[i]? = if i < vs.length then some (byteV ((n >>> (8 * i)) % 256)) else none
  | [], n, h, i => by simp
  | v :: r, n, h, i => by
    unfold pack at h
    split at h
    · simp at *
    · rename_i x r' heq
      injection heq with h1 h2
      subst h1; subst h2
      split at h
      · rename_i hx
        cases hp : pack r with
        | none => rw [hp] at h; simp at h
        | some m =>
          rw [hp] at h
          simp at h
          subst h
          cases i with
          | zero =>
            simp only [List.getElem?_cons_zero, List.length_cons, Nat.zero_lt_succ, if_true, Nat.mul_zero, Nat.shiftRight_zero, byteV]
            congr 2
            have : (x + m <<< 8) % 256 = x := by rw [Nat.shiftLeft_eq]; omega
            rw [this]
          | succ i =>
            rw [List.getElem?_cons_succ, pack_get r m hp i]
            simp only [List.length_cons, Nat.succ_lt_succ_iff]
            split
            · congr 3
              rw [show 8 * (i + 1) = 8 + 8 * i by omega, Nat.shiftRight_add]
              congr 1
              rw [Nat.shiftLeft_eq, Nat.shiftRight_eq_div_pow]
              omega
            · rfl
      · cases h
    · cases h

theorem Cells.size_app (a b : Cells) : (a.app b).size = a.size + b.size := by
  cases a with
  | vals l => simp only [Cells.app, Cells.size, List.length_append, Cells.length_toList]
  | bytes n l =>
    cases b with
    | bytes n' l' => rfl
    | vals vs =>
      simp only [Cells.app]
      split
      · rfl
      · simp [Cells.size, Cells.length_toList, Cells.toList]

theorem Cells.get_app (a b : Cells) (i : Nat) : (a.app b).get i = if i < a.size then a.get i else b.get (i - a.size) := by
  cases a with
  | vals l =>
    show (l ++ b.toList)[i]? = if i < l.length then l[i]? else b.get (i - l.length)
    by_cases h : i < l.length
    · rw [if_pos h, List.getElem?_append_left h]
    · rw [if_neg h, List.getElem?_append_right (by omega), Cells.get_toList]
  | bytes n l =>
    cases b with
    | bytes n' l' =>
      show (if i < l + l' then some (byteV (((n % 2 ^ (8 * l) + n' <<< (8 * l)) >>> (8 * i)) % 256)) else none) =
        if i < l then (if i < l then some (byteV ((n >>> (8 * i)) % 256)) else none) else (if i - l < l' then some (byteV ((n' >>> (8 * (i - l))) % 256)) else none)
      rw [joined_byte]
      by_cases h : i < l
      · rw [if_pos h, if_pos h, if_pos h, if_pos (by omega)]
      · rw [if_neg h, if_neg h]
        by_cases h2 : i < l + l'
        · rw [if_pos h2, if_pos (by omega)]
        · rw [if_neg h2, if_neg (by omega)]
    | vals vs =>
      simp only [Cells.app]
      cases hp : pack vs with
      | some n' =>
        have hg := pack_get vs n' hp
        show (if i < l + vs.length then some (byteV (((n % 2 ^ (8 * l) + n' <<< (8 * l)) >>> (8 * i)) % 256)) else none) =
          if i < l then (if i < l then some (byteV ((n >>> (8 * i)) % 256)) else none) else vs[i - l]?
        rw [joined_byte]
        by_cases h : i < l
        · rw [if_pos h, if_pos h, if_pos h, if_pos (by omega)]
        · rw [if_neg h, if_neg h, hg (i - l)]
          by_cases h2 : i < l + vs.length
          · rw [if_pos h2, if_pos (by omega)]
          · rw [if_neg h2, if_neg (by omega)]
      | none =>
        show ((Cells.bytes n l).toList ++ vs)[i]? = _
        have hlen : (Cells.bytes n l).toList.length = l := Cells.length_toList _
        by_cases h : i < l
        · rw [List.getElem?_append_left (by omega), Cells.get_toList]; simp [Cells.size, h]
        · rw [List.getElem?_append_right (by omega), hlen]; simp [Cells.size, Cells.get, h]

theorem Cells.size_blit {c p : Cells} {off : Nat} (h : off + p.size ≤ c.size) : (c.blit off p).size = c.size := by
  unfold Cells.blit
  rw [Cells.size_app, Cells.size_app, Cells.size_ext (by omega), Cells.size_ext (by omega)]
  omega

theorem Cells.get_blit {c p : Cells} {off : Nat} (h : off + p.size ≤ c.size) (i : Nat) :
    (c.blit off p).get i = if off ≤ i ∧ i < off + p.size then p.get (i - off) else c.get i := by
  unfold Cells.blit
  have e0 : (c.ext 0 off).size = off := Cells.size_ext (by omega)
  rw [Cells.get_app, Cells.size_app, e0, Cells.get_app, e0]
  by_cases h1 : i < off + p.size
  · rw [if_pos h1]
    by_cases h2 : i < off
    · rw [if_pos h2, if_neg (by omega), Cells.get_ext (by omega), if_pos h2, Nat.zero_add]
    · rw [if_neg h2, if_pos (by omega)]
  · rw [if_neg h1, if_neg (by omega), Cells.get_ext (by omega)]
    by_cases h2 : i < c.size
    · rw [if_pos (by omega)]; congr 1; omega
    · rw [if_neg (by omega), Cells.get_ge (by omega)]

end Go.AM
