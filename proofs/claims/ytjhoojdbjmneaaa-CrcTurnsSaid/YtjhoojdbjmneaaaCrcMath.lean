import Derived.Test.YtjhoojdbjmneaaaPCrcOversx2
/-! The sums in plain numbers: what the printed functions of the package crc tell. -/
namespace Go.Proofs.Ytjhoojdbjmneaaa.CrcMath
open Go.RowKit Go.Proofs.Ytjhoojdbjmneaaa.PCrcOvers Go.Proofs.YtjhoojdbjmneaaaW.PrintWords Go.Proofs.YtjhoojdbjmneaaaW.PrintLast
set_option linter.unusedVariables false
set_option linter.unusedSimpArgs false

theorem xorN (a b : Nat) (ha : a < 4294967296) (hb : b < 4294967296) : Go.bits .xor .u32 (a : Int) (b : Int) = ((a ^^^ b : Nat) : Int) := by
  have ha' : a % 2 ^ IntKind.bits .u32 = a := Nat.mod_eq_of_lt ha
  have hb' : b % 2 ^ IntKind.bits .u32 = b := Nat.mod_eq_of_lt hb
  simp only [Go.bits, BitVec.ofInt_natCast, BitVec.toNat_xor, BitVec.toNat_ofNat, ha', hb']
  rw [IntKind.wrap_u32]
  have : a ^^^ b < 2 ^ 32 := Nat.xor_lt_two_pow ha hb
  omega
theorem and1N (a : Nat) (ha : a < 4294967296) : Go.bits .and .u32 (a : Int) 1 = ((a % 2 : Nat) : Int) := by
  have := bits_mask .u32 32 (by decide) (fun n h0 h1 => by rw [IntKind.wrap_u32]; omega) 1 (by decide) (a : Int) (by omega) (by exact_mod_cast ha)
  simpa using this

def T (s : Nat) : Nat := if s % 2 = 1 then (s / 2) ^^^ 3988292384 else s / 2
def iter : Nat → Nat → Nat
  | 0, s => s
  | n + 1, s => iter n (T s)
def stepN (s b : Nat) : Nat := iter 8 (s ^^^ b)
def feed (s : Nat) (l : List Int) : Nat := l.foldl (fun s x => stepN s x.toNat) s
def compl (s : Nat) : Nat := 4294967295 - s

theorem T_lt {s : Nat} (h : s < 4294967296) : T s < 4294967296 := by
  unfold T; split
  · exact Nat.xor_lt_two_pow (n := 32) (by omega) (by decide)
  · omega
theorem iter_lt : ∀ (n : Nat) {s : Nat}, s < 4294967296 → iter n s < 4294967296
  | 0, s, h => h
  | n + 1, s, h => iter_lt n (T_lt h)
theorem stepN_lt {s b : Nat} (h : s < 4294967296) (hb : b < 256) : stepN s b < 4294967296 :=
  iter_lt 8 (Nat.xor_lt_two_pow (n := 32) h (by omega))
theorem compl_lt (s : Nat) : compl s < 4294967296 := by unfold compl; omega
theorem compl_xor (s : Nat) (h : s < 4294967296) : 4294967295 ^^^ s = compl s := by
  have : compl s = 2 ^ 32 - (s + 1) := by unfold compl; omega
  rw [this]
  apply Nat.eq_of_testBit_eq; intro i
  rw [Nat.testBit_two_pow_sub_succ (by omega), Nat.testBit_xor, show 4294967295 = 2 ^ 32 - 1 from rfl, Nat.testBit_two_pow_sub_one]
  by_cases hi : i < 32
  · simp [hi]
  · simp only [hi, decide_false, Bool.false_and, Bool.false_bne]
    exact Nat.testBit_lt_two_pow (Nat.lt_of_lt_of_le (show s < 2 ^ 32 from h) (Nat.pow_le_pow_right (by decide) (by omega)))
theorem compl_compl (s : Nat) (h : s < 4294967296) : compl (compl s) = s := by unfold compl; omega

/-- Every entry of a row of bytes. -/
def Bytes (l : List Int) : Prop := ∀ x ∈ l, 0 ≤ x ∧ x < 256
theorem Bytes.of {l : List Int} (h : ∀ x ∈ l, (Lit.int .u8 x).wf = true) : Bytes l := fun x hx => by
  have := h x hx
  simp [Lit.wf, IntKind.wrap, IntKind.bits, IntKind.signed, IntKind.min, IntKind.max] at this
  omega
theorem feed_lt : ∀ (l : List Int) {s : Nat}, Bytes l → s < 4294967296 → feed s l < 4294967296
  | [], s, _, h => h
  | x :: l, s, hl, h => feed_lt l (fun y hy => hl y (by simp [hy])) (stepN_lt h (by have := hl x (by simp); omega))

theorem step_l0 : ∀ (n : Nat), n ≤ 8 → ∀ (k : Nat), n + 1 ≤ k → ∀ (x : Nat), x < 4294967296 → crc_step.l0 k (x : Int) ((8 - n : Nat) : Int) = some ((iter n x : Nat) : Int)
  | 0, _, k + 1, _, x, hx => by simp [crc_step.l0, iter]
  | n + 1, hn, k + 1, hk, x, hx => by
    have h1 : (((8 - (n + 1) : Nat) : Int) < 8) := by omega
    have hw : wrap64 (((8 - (n + 1) : Nat) : Int) + 1) = ((8 - n : Nat) : Int) := by unfold wrap64; omega
    have ih := step_l0 n (by omega) k (by omega) (T x) (T_lt hx)
    rw [crc_step.l0, if_pos h1, hw, and1N x hx]
    have hd : ((x : Int) / 2) = ((x / 2 : Nat) : Int) := by omega
    rw [hd, show (3988292384 : Int) = ((3988292384 : Nat) : Int) from rfl, xorN _ _ (by omega) (by decide)]
    show _ = some ((iter n (T x) : Nat) : Int)
    rw [← ih]; unfold T
    by_cases ho : x % 2 = 1
    · rw [if_pos (by omega), if_pos ho]
    · rw [if_neg (by omega), if_neg ho]
theorem step_f (k : Nat) (hk : 9 ≤ k) (s : Nat) (x : Int) (hs : s < 4294967296) (h0 : 0 ≤ x) (h1 : x < 256) : crc_step.f k (s : Int) x = some ((stepN s x.toNat : Nat) : Int) := by
  obtain ⟨b, rfl⟩ := Int.eq_ofNat_of_zero_le h0
  unfold crc_step.f
  rw [show ((b : Int) % 4294967296) = (b : Int) by omega, xorN s b hs (by omega)]
  exact step_l0 8 (by omega) k (by omega) _ (Nat.xor_lt_two_pow (n := 32) hs (by omega))

theorem rd_nat (l : List Int) (i : Nat) (x : Int) (r : List Int) (h : l.drop i = x :: r) : rd l (i : Int) = x := by
  have : l[i]? = some x := by rw [← List.head?_drop, h]; rfl
  simp [rd, List.getD, this]
theorem drop_succ {l : List Int} {i : Nat} {x : Int} {r : List Int} (h : l.drop i = x :: r) : l.drop (i + 1) = r := by
  rw [← List.drop_drop, h]; rfl
theorem drop_len {α : Type} {l : List α} {i : Nat} {r : List α} (h : l.drop i = r) (hi : i ≤ l.length) : l.length = i + r.length := by
  rw [← h, List.length_drop]; omega

theorem More_l0 (l : List Int) (hl : Bytes l) (hm : l.length < 9223372036854775807) : ∀ (r : List Int) (i : Nat), i ≤ l.length → l.drop i = r → ∀ (k : Nat), r.length + 10 ≤ k → ∀ (s : Nat), s < 4294967296 →
    crc_More.l0 k (s : Int) l (l.length : Int) (i : Int) = some ((compl (feed s r) : Nat) : Int)
  | [], i, hi, hd, k + 1, hk, s, hs => by
    have := drop_len hd hi; simp at this
    rw [crc_More.l0, if_neg (by omega), show (4294967295 : Int) = ((4294967295 : Nat) : Int) from rfl, xorN _ _ (by decide) hs, compl_xor s hs]; rfl
  | x :: r, i, hi, hd, k + 1, hk, s, hs => by
    have hlen := drop_len hd hi; simp at hlen hk
    have hx := hl x (by have : x ∈ l.drop i := by rw [hd]; simp
                        exact List.mem_of_mem_drop this)
    have ih := More_l0 l hl hm r (i + 1) (by omega) (drop_succ hd) k (by omega) (stepN s x.toNat) (stepN_lt hs (by omega))
    rw [crc_More.l0, if_pos (by omega), if_pos (by omega), if_pos (by omega), rd_nat l i x r hd, step_f k (by omega) s x hs hx.1 hx.2]
    show crc_More.l0 k _ l _ (wrap64 ((i : Int) + 1)) = _
    rw [show wrap64 ((i : Int) + 1) = ((i + 1 : Nat) : Int) by unfold wrap64; omega, ih]; rfl
/-- More: the sum that is gone on with. -/
theorem More_f (k : Nat) (s : Nat) (l : List Int) (hl : Bytes l) (hm : l.length < 9223372036854775807) (hk : l.length + 10 ≤ k) (hs : s < 4294967296) :
    crc_More.f k (s : Int) l = some ((compl (feed (compl s) l) : Nat) : Int) := by
  unfold crc_More.f
  rw [show (4294967295 : Int) = ((4294967295 : Nat) : Int) from rfl, xorN _ _ (by decide) hs, compl_xor s hs]
  exact More_l0 l hl hm l 0 (by omega) rfl k hk _ (compl_lt s)

theorem known_f (k : Nat) (hk : 40 ≤ k) : fettlelaw02_known.f k = some true :=
  at_rounds (g := fun k => fettlelaw02_known.f k) (fun k => fettlelaw02_known.mono k) hk (show fettlelaw02_known.f 40 = some true by decide +kernel)

mutual
theorem Fast_l1 (l : List Int) (hl : Bytes l) (hm : l.length < 1000000) (r : List Int) (i : Nat) (hi : i < l.length) (hd : l.drop (i + 1) = r) :
    ∀ (n : Nat), n ≤ 8 → ∀ (k : Nat), r.length * 10 + n + 2 ≤ k → ∀ (s : Nat), s < 4294967296 →
    fettleref02_Fast.l1 k l (s : Int) (i : Int) ((8 - n : Nat) : Int) = some ((compl (feed (iter n s) r) : Nat) : Int)
  | 0, _, k + 1, hk, s, hs => by
    rw [fettleref02_Fast.l1, if_neg (by omega), show wrap64 ((i : Int) + 1) = ((i + 1 : Nat) : Int) by unfold wrap64; omega]
    exact Fast_l0 l hl hm r (i + 1) (by omega) hd k (by omega) s hs
  | n + 1, hn, k + 1, hk, s, hs => by
    have ih := Fast_l1 l hl hm r i hi hd n (by omega) k (by omega) (T s) (T_lt hs)
    rw [fettleref02_Fast.l1, if_pos (by omega), show wrap64 (((8 - (n + 1) : Nat) : Int) + 1) = ((8 - n : Nat) : Int) by unfold wrap64; omega]
    have e1 : Int.tmod (s : Int) 2 = ((s % 2 : Nat) : Int) := by rw [Int.tmod_eq_emod_of_nonneg (by omega)]; omega
    have e2 : Int.tdiv (s : Int) 2 % 4294967296 = ((s / 2 : Nat) : Int) := by rw [Int.tdiv_eq_ediv_of_nonneg (by omega)]; omega
    rw [e1, e2, show (3988292384 : Int) = ((3988292384 : Nat) : Int) from rfl, xorN _ _ (by omega) (by decide)]
    show _ = some ((compl (feed (iter n (T s)) r) : Nat) : Int)
    rw [← ih]; unfold T
    by_cases ho : s % 2 = 1
    · rw [if_pos (by omega), if_pos ho]
    · rw [if_neg (by omega), if_neg ho]
  termination_by n => (r.length, n + 1)
theorem Fast_l0 (l : List Int) (hl : Bytes l) (hm : l.length < 1000000) : ∀ (r : List Int) (i : Nat), i ≤ l.length → l.drop i = r → ∀ (k : Nat), r.length * 10 + 1 ≤ k → ∀ (s : Nat), s < 4294967296 →
    fettleref02_Fast.l0 k l (s : Int) (i : Int) = some ((compl (feed s r) : Nat) : Int)
  | [], i, hi, hd, k + 1, hk, s, hs => by
    have := drop_len hd hi; simp at this
    rw [fettleref02_Fast.l0, if_neg (by omega)]
    show some _ = some ((compl s : Nat) : Int)
    congr 1; unfold compl; omega
  | x :: r, i, hi, hd, k + 1, hk, s, hs => by
    have hlen := drop_len hd hi; simp at hlen hk
    have hx := hl x (by have : x ∈ l.drop i := by rw [hd]; simp
                        exact List.mem_of_mem_drop this)
    rw [fettleref02_Fast.l0, if_pos (by omega), if_pos (by omega), rd_nat l i x r hd]
    obtain ⟨b, rfl⟩ := Int.eq_ofNat_of_zero_le hx.1
    rw [show ((b : Int) % 4294967296) = (b : Int) by omega, xorN s b hs (by omega)]
    exact Fast_l1 l hl hm r i (by omega) (drop_succ hd) 8 (by omega) k (by omega) (s ^^^ b) (Nat.xor_lt_two_pow (n := 32) hs (by omega))
  termination_by r => (r.length, 0)
end
/-- Fast: from all ones, turned. -/
theorem Fast_f (k : Nat) (l : List Int) (hl : Bytes l) (hm : l.length < 1000000) (hk : l.length * 10 + 1 ≤ k) :
    fettleref02_Fast.f k l = some ((compl (feed 4294967295 l) : Nat) : Int) := Fast_l0 l hl hm l 0 (by omega) rfl k hk _ (by decide)
end Go.Proofs.Ytjhoojdbjmneaaa.CrcMath
