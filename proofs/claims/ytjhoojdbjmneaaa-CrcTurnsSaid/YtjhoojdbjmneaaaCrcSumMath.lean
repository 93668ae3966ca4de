import Derived.Test.YtjhoojdbjmneaaaCrcPlain
import Derived.Test.YtjhoojdbjmneaaaPCrcRefSum
/-! The reference's sum (a division of bits), in plain numbers: it is the same. -/
namespace Go.Proofs.Ytjhoojdbjmneaaa.CrcMath
open Go.RowKit Go.Proofs.Ytjhoojdbjmneaaa.PCrcOvers Go.Proofs.YtjhoojdbjmneaaaW.PrintWords Go.Proofs.YtjhoojdbjmneaaaW.PrintLast
set_option linter.unusedVariables false
set_option linter.unusedSimpArgs false

def IB (l : List Nat) : List Int := l.map (fun (b : Nat) => (b : Int))
theorem IB_append (a b : List Nat) : IB (a ++ b) = IB a ++ IB b := by simp [IB]
theorem IB_length (a : List Nat) : (IB a).length = a.length := by simp [IB]
theorem IB_cons (x : Nat) (r : List Nat) : IB (x :: r) = (x : Int) :: IB r := rfl
theorem low_length : ∀ (n x : Nat), (low n x).length = n
  | 0, _ => rfl
  | n + 1, x => by simp [low, low_length n]
theorem low_bits : ∀ (n x : Nat), Bits (low n x)
  | 0, _ => by intro b hb; simp [low] at hb
  | n + 1, x => by
    intro b hb
    simp only [low, List.mem_cons] at hb
    rcases hb with rfl | hb
    · omega
    · exact low_bits n _ b hb
theorem bitsOf_length : ∀ (l : List Int), (bitsOf l).length = 8 * l.length
  | [] => rfl
  | x :: r => by simp [bitsOf, low_length, bitsOf_length r]; omega
theorem bitsOf_bits : ∀ (l : List Int), Bits (bitsOf l)
  | [] => by intro b hb; simp [bitsOf] at hb
  | x :: r => by
    intro b hb
    rcases List.mem_append.1 hb with h | h
    · exact low_bits _ _ b h
    · exact bitsOf_bits r b h

mutual
theorem bits_l1 (l : List Int) (hl : Bytes l) (hm : l.length < 1000000) (r : List Int) (i : Nat) (hi : i < l.length) (hd : l.drop (i + 1) = r) :
    ∀ (n : Nat), n ≤ 8 → ∀ (k : Nat), r.length * 10 + n + 2 ≤ k → ∀ (c : Nat), c < 256 → ∀ (o : List Int), o.length + n = 8 * (i + 1) →
    fettleref02_bits.l1 k l o (i : Int) (c : Int) ((8 - n : Nat) : Int) = some (o ++ IB (low n c) ++ IB (bitsOf r))
  | 0, _, k + 1, hk, c, hc, o, ho => by
    rw [fettleref02_bits.l1, if_neg (by omega), show wrap64 ((i : Int) + 1) = ((i + 1 : Nat) : Int) by unfold wrap64; omega]
    rw [bits_l0 l hl hm r (i + 1) (by omega) hd k (by omega) o (by omega)]
    simp [low, IB]
  | n + 1, hn, k + 1, hk, c, hc, o, ho => by
    have e1 : Int.tmod (c : Int) 2 = ((c % 2 : Nat) : Int) := by rw [Int.tmod_eq_emod_of_nonneg (by omega)]; omega
    have e2 : wrap64 (Int.tdiv (c : Int) 2) = ((c / 2 : Nat) : Int) := by rw [Int.tdiv_eq_ediv_of_nonneg (by omega)]; unfold wrap64; omega
    have ih := bits_l1 l hl hm r i hi hd n (by omega) k (by omega) (c / 2) (by omega) (o ++ [((c % 2 : Nat) : Int)]) (by simp; omega)
    rw [fettleref02_bits.l1, if_pos (by omega), if_pos (by omega), show wrap64 (((8 - (n + 1) : Nat) : Int) + 1) = ((8 - n : Nat) : Int) by unfold wrap64; omega, e1, e2, ih]
    simp [low, IB]
  termination_by n => (r.length, n + 1)
theorem bits_l0 (l : List Int) (hl : Bytes l) (hm : l.length < 1000000) : ∀ (r : List Int) (i : Nat), i ≤ l.length → l.drop i = r → ∀ (k : Nat), r.length * 10 + 1 ≤ k → ∀ (o : List Int), o.length = 8 * i →
    fettleref02_bits.l0 k l o (i : Int) = some (o ++ IB (bitsOf r))
  | [], i, hi, hd, k + 1, hk, o, ho => by
    have := drop_len hd hi; simp at this
    rw [fettleref02_bits.l0, if_neg (by omega)]; simp [bitsOf, IB]
  | x :: r, i, hi, hd, k + 1, hk, o, ho => by
    have hlen := drop_len hd hi; simp at hlen hk
    have hx := hl x (by have : x ∈ l.drop i := by rw [hd]; simp
                        exact List.mem_of_mem_drop this)
    obtain ⟨b, rfl⟩ := Int.eq_ofNat_of_zero_le hx.1
    rw [fettleref02_bits.l0, if_pos (by omega), if_pos (by omega), rd_nat l i _ r hd, show wrap64 ((b : Nat) : Int) = (b : Int) by unfold wrap64; omega]
    have h := bits_l1 l hl hm r i (by omega) (drop_succ hd) 8 (by omega) k (by omega) b (by omega) o (by omega)
    rw [show (0 : Int) = ((8 - 8 : Nat) : Int) from rfl, h]
    simp [bitsOf, IB]
  termination_by r => (r.length, 0)
end
theorem bits_f (k : Nat) (l : List Int) (hl : Bytes l) (hm : l.length < 1000000) (hk : l.length * 10 + 1 ≤ k) :
    fettleref02_bits.f k l = some (IB (bitsOf l)) := by
  exact bits_l0 l hl hm l 0 (by omega) rfl k hk [] rfl

/-- The divisor, without its lowest bits. -/
def pj (j : Nat) : Nat := 3988292384 / 2 ^ j
theorem pj_succ (j : Nat) : pj (j + 1) = pj j / 2 := by unfold pj; rw [Nat.div_div_eq_div_mul, ← Nat.pow_succ]
theorem pj_zero : pj 0 = 3988292384 := by decide
theorem poly_80 : ∃ p, fettleref02_poly.f 80 = some p ∧ p.length = 32 ∧ ∀ j : Nat, j < 32 → rd p ((31 - j : Nat) : Int) = ((pj j % 2 : Nat) : Int) := by
  refine ⟨(fettleref02_poly.f 80).getD [], by decide +kernel, by decide +kernel, ?_⟩
  have h : ∀ j : Nat, j < 32 → rd ((fettleref02_poly.f 80).getD []) ((31 - j : Nat) : Int) = ((3988292384 / 2 ^ j % 2 : Nat) : Int) := by decide +kernel
  unfold pj
  exact h
theorem poly_f : ∃ p : List Int, p.length = 32 ∧ (∀ j : Nat, j < 32 → rd p ((31 - j : Nat) : Int) = ((pj j % 2 : Nat) : Int)) ∧ ∀ k : Nat, 80 ≤ k → fettleref02_poly.f k = some p := by
  obtain ⟨p, h1, h2, h3⟩ := poly_80
  exact ⟨p, h2, h3, fun k hk => at_rounds (g := fun k => fettleref02_poly.f k) (fun k => fettleref02_poly.mono k) hk h1⟩

theorem wrap_id (x : Int) (h0 : -9223372036854775808 ≤ x) (h1 : x < 9223372036854775808) : wrap64 x = x := by unfold wrap64; omega
theorem wrap_step (n : Nat) (h : n + 1 ≤ 32) : wrap64 (((32 - (n + 1) : Nat) : Int) + 1) = ((32 - n : Nat) : Int) := by
  rw [wrap_id _ (by omega) (by omega)]; omega
theorem rdI (d : List Nat) (b : Nat) (r : List Nat) : rd (IB (d ++ b :: r)) (d.length : Int) = (b : Int) := by
  simp [rd, IB, List.getD]
theorem setI (d : List Nat) (b c : Nat) (r : List Nat) : (IB (d ++ b :: r)).set (d.length : Int).toNat (c : Int) = IB (d ++ c :: r) := by
  rw [Int.toNat_natCast, IB_append, IB_append, List.set_append_right _ _ (by simp [IB]), IB_length]
  simp [IB]

/-- The last loop: the window, turned. -/
theorem Sum_l4 (d : List Nat) (N : Nat) (hN : d.length + 32 ≤ 1000000) : ∀ (n : Nat) (u v : List Nat), u.length = n → n + v.length = 32 → Bits (u ++ v) → ∀ (k : Nat), n + 1 ≤ k →
    fettleref02_Sum.l4 k (IB (d ++ (u ++ v))) ((2 ^ v.length - 1 - val v : Nat) : Int) ((32 - n : Nat) : Int) = some ((4294967295 - val (u ++ v) : Nat) : Int)
  | 0, u, v, hu, hn, hb, k + 1, hk => by
    have : u = [] := List.length_eq_zero_iff.1 hu
    subst this
    have hv : v.length = 32 := by omega
    rw [fettleref02_Sum.l4, if_neg (by omega)]
    rw [hv]; rfl
  | n + 1, u, v, hu, hn, hb, k + 1, hk => by
    obtain ⟨u', b, rfl⟩ : ∃ u' b, u = u' ++ [b] := by
      rcases List.eq_nil_or_concat u with h | ⟨u', b, h⟩
      · subst h; simp at hu
      · exact ⟨u', b, by simpa using h⟩
    simp at hu
    have hb1 : b < 2 := hb b (by simp)
    have hbv : Bits v := fun x hx => hb x (by simp [hx])
    have hlt := val_lt v hbv
    have hp : 2 ^ (v.length + 1) ≤ 2 ^ 32 := Nat.pow_le_pow_right (by decide) (by omega)
    have hp2 : 2 ^ (v.length + 1) = 2 * 2 ^ v.length := by rw [Nat.pow_succ, Nat.mul_comm]
    have ih := Sum_l4 d N hN n u' (b :: v) hu (by simp; omega) (by simpa using hb) k (by omega)
    have hL : (IB (d ++ (u' ++ [b] ++ v))).length = d.length + 32 := by rw [IB_length]; simp; omega
    have hi : wrap64 (wrap64 (((IB (d ++ (u' ++ [b] ++ v))).length : Int) - 1) - ((32 - (n + 1) : Nat) : Int)) = (((d ++ u').length : Nat) : Int) := by
      rw [hL]; simp only [List.length_append]; unfold wrap64; omega
    have hl2 : d ++ (u' ++ [b] ++ v) = (d ++ u') ++ b :: v := by simp
    rw [fettleref02_Sum.l4, if_pos (by omega), hi, if_pos (by omega), if_pos (by rw [hL]; simp; omega), hl2, rdI,
      wrap_step n (by omega)]
    have hl3 : d ++ (u' ++ b :: v) = (d ++ u') ++ b :: v := by simp
    rw [hl3] at ih
    have hval : val (u' ++ [b] ++ v) = val (u' ++ b :: v) := by simp
    rw [hval, ← ih]
    simp only [List.length_cons, val]
    by_cases h0 : (b : Int) = 0
    · rw [if_pos h0]
      congr 1
      have : b = 0 := by omega
      subst this; omega
    · rw [if_neg h0]
      congr 1
      have : b = 1 := by omega
      subst this; omega

theorem Sum_l3 (p : List Int) (hp : p.length = 32) (hpj : ∀ j : Nat, j < 32 → rd p ((31 - j : Nat) : Int) = ((pj j % 2 : Nat) : Int)) (i : Nat) (rest : List Nat) (R : Int) (k0 : Nat) :
    ∀ (n : Nat) (d w : List Nat), n ≤ 32 → w.length = n → Bits w → d.length = i + 1 + (32 - n) → d.length + n + rest.length < 1000000 →
    (∀ k, k0 ≤ k → fettleref02_Sum.l2 k (IB (d ++ flips w (pj (32 - n)) ++ rest)) p ((i + 1 : Nat) : Int) = some R) →
    ∀ (k : Nat), k0 + n + 1 ≤ k → fettleref02_Sum.l3 k (IB (d ++ w ++ rest)) p (i : Int) ((32 - n : Nat) : Int) = some R
  | 0, d, w, hn, hw, hb, hd, hlim, h, k + 1, hk => by
    have : w = [] := List.length_eq_zero_iff.1 hw
    subst this
    rw [fettleref02_Sum.l3, if_neg (by omega), wrap_id ((i : Int) + 1) (by omega) (by omega)]
    exact h k (by omega)
  | n + 1, d, b :: w, hn, hw, hb, hd, hlim, h, k + 1, hk => by
    have hb1 : b < 2 := hb b (by simp)
    simp at hw
    have hlt : (d.length : Int) < ((IB (d ++ b :: (w ++ rest))).length : Int) := by rw [IB_length]; simp; omega
    have e4 : wrap64 (1 - (b : Int)) = ((1 - b : Nat) : Int) := by rw [wrap_id _ (by omega) (by omega)]; omega
    have hq : pj (32 - n) = pj (32 - (n + 1)) / 2 := by rw [← pj_succ]; congr 1; omega
    have step := fun (c : Nat) (hc : (b + pj (32 - (n + 1)) % 2) % 2 = c) =>
      Sum_l3 p hp hpj i rest R k0 n (d ++ [c]) w (by omega) hw (fun x hx => hb x (by simp [hx])) (by simp; omega) (by simp; omega)
        (fun k hk => by
          have := h k hk
          simp only [flips] at this
          rw [hc, ← hq, show d ++ c :: flips w (pj (32 - n)) ++ rest = d ++ [c] ++ flips w (pj (32 - n)) ++ rest by simp] at this
          exact this) k (by omega)
    have e1 : wrap64 (31 - ((32 - (n + 1) : Nat) : Int)) = ((31 - (32 - (n + 1)) : Nat) : Int) := by rw [wrap_id _ (by omega) (by omega)]; omega
    have e2 : wrap64 (wrap64 ((i : Int) + 1) + ((32 - (n + 1) : Nat) : Int)) = (d.length : Int) := by
      rw [wrap_id ((i : Int) + 1) (by omega) (by omega), wrap_id _ (by omega) (by omega)]; omega
    have hj := hpj (32 - (n + 1)) (by omega)
    have e3 : d ++ b :: w ++ rest = d ++ b :: (w ++ rest) := by simp
    rw [fettleref02_Sum.l3, if_pos (by omega), e1, if_pos (by omega), if_pos (by omega), hj, e2, e3,
      wrap_step n (by omega), rdI]
    by_cases h1 : ((pj (32 - (n + 1)) % 2 : Nat) : Int) = 1
    · rw [if_pos h1, if_pos (Int.natCast_nonneg _), if_pos hlt, e4, setI]
      have := step (1 - b) (by clear e1 e2 hj hlt e4 hlim hd hpj step; omega)
      rw [show d ++ [1 - b] ++ w ++ rest = d ++ (1 - b) :: (w ++ rest) by simp] at this
      exact this
    · rw [if_neg h1]
      have := step b (by clear e1 e2 hj hlt e4 hlim hd hpj step; omega)
      rw [show d ++ [b] ++ w ++ rest = d ++ b :: (w ++ rest) by simp] at this
      exact this

theorem Sum_l2 (p : List Int) (hp : p.length = 32) (hpj : ∀ j : Nat, j < 32 → rd p ((31 - j : Nat) : Int) = ((pj j % 2 : Nat) : Int)) :
    ∀ (rest d w : List Nat), w.length = 32 → Bits w → Bits rest → d.length + 32 + rest.length < 1000000 → ∀ (k : Nat), rest.length * 40 + 40 ≤ k →
    fettleref02_Sum.l2 k (IB (d ++ w ++ rest)) p (d.length : Int) = some ((4294967295 - fin (val w) rest : Nat) : Int)
  | [], d, w, hw, hb, hr, hlim, k + 1, hk => by
    have hL : (IB (d ++ w ++ [])).length = d.length + 32 := by rw [IB_length]; simp; omega
    rw [fettleref02_Sum.l2, if_neg (by rw [hL, wrap_id _ (by omega) (by omega)]; omega)]
    have := Sum_l4 d 0 (by simp at hlim; omega) 32 w [] hw rfl (by simpa using hb) k (by simp at hk; omega)
    simpa [fin] using this
  | r :: rest, d, b :: w, hw, hb, hr, hlim, k + 1, hk => by
    simp only [List.length_cons] at hw hlim hk
    have hb1 : b < 2 := hb b (by simp)
    have hr1 : r < 2 := hr r (by simp)
    have hbw : Bits w := fun x hx => hb x (by simp [hx])
    have hw1 : w.length = 31 := by omega
    have hbn : Bits (w ++ [r]) := by
      intro x hx
      rcases List.mem_append.1 hx with hx | hx
      · exact hbw x hx
      · simp at hx; subst hx; exact hr1
    have hbr : Bits rest := fun x hx => hr x (by simp [hx])
    have hvn : val (w ++ [r]) = val w + r * 2147483648 := by rw [val_append, hw1]; simp only [val]; omega
    have hvw : val (b :: w) / 2 = val w := by simp only [val]; omega
    have hvb : val (b :: w) % 2 = b := by simp only [val]; omega
    have e3 : d ++ b :: w ++ r :: rest = d ++ b :: (w ++ r :: rest) := by simp
    have e5 : d ++ b :: (w ++ r :: rest) = (d ++ [b]) ++ (w ++ [r]) ++ rest := by simp
    have hL : (IB (d ++ b :: (w ++ r :: rest))).length = d.length + 33 + rest.length := by rw [IB_length]; simp; omega
    have hw1' : wrap64 ((d.length : Int) + 1) = (((d ++ [b]).length : Nat) : Int) := by rw [wrap_id _ (by omega) (by omega)]; simp
    rw [fettleref02_Sum.l2, e3, hL, if_pos (by rw [wrap_id _ (by omega) (by omega)]; omega), if_pos (by omega), if_pos (by omega), rdI]
    show _ = some ((4294967295 - fin ((val (b :: w) / 2 + r * 2147483648) ^^^ (if val (b :: w) % 2 = 1 then 3988292384 else 0)) rest : Nat) : Int)
    rw [hvw, hvb, ← hvn]
    by_cases h1 : (b : Int) = 1
    · have hb' : b = 1 := by omega
      subst hb'
      rw [if_pos (show ((1 : Nat) : Int) = 1 from rfl), if_pos (show (1 : Nat) = 1 from rfl), e5]
      have hfl : val (flips (w ++ [r]) 3988292384) = val (w ++ [r]) ^^^ 3988292384 := val_flips _ _ hbn (by simp [hw1])
      have ih := fun k hk => Sum_l2 p hp hpj rest (d ++ [1]) (flips (w ++ [r]) 3988292384) (by rw [flips_length]; simp; omega) (flips_bits _ _) hbr (by simp; omega) k hk
      rw [hfl] at ih
      have := Sum_l3 p hp hpj d.length rest _ (rest.length * 40 + 40) 32 (d ++ [1]) (w ++ [r]) (by omega) (by simp; omega) hbn (by simp) (by simp; omega)
        (fun k hk => by
          have := ih k hk
          have e6 : ((d ++ [1] : List Nat)).length = d.length + 1 := by simp
          rw [e6] at this
          rw [Nat.sub_self, pj_zero]
          exact this) k (by omega)
      exact this
    · rw [if_neg h1, if_neg (by omega), hw1', e5, Nat.xor_zero]
      exact Sum_l2 p hp hpj rest (d ++ [b]) (w ++ [r]) (by simp; omega) hbn hbr (by simp; omega) k (by omega)

theorem Sum_l1 (R : Int) (rest : List Nat) (k0 : Nat) (p : List Int) (hpf : ∀ k : Nat, 80 ≤ k → fettleref02_poly.f k = some p) :
    ∀ (n : Nat) (d w : List Nat), n ≤ 32 → w.length = n → Bits w → d.length = 32 - n → d.length + n + rest.length < 1000000 →
    (∀ k, k0 ≤ k → fettleref02_Sum.l2 k (IB (d ++ flips w (2 ^ n - 1) ++ rest)) p 0 = some R) →
    ∀ (k : Nat), k0 + n + 100 ≤ k → fettleref02_Sum.l1 k (IB (d ++ w ++ rest)) ((32 - n : Nat) : Int) = some R
  | 0, d, w, hn, hw, hb, hd, hlim, h, k + 1, hk => by
    have : w = [] := List.length_eq_zero_iff.1 hw
    subst this
    rw [fettleref02_Sum.l1, if_neg (by omega), hpf k (by omega), Option.bind_some]
    exact h k (by omega)
  | n + 1, d, b :: w, hn, hw, hb, hd, hlim, h, k + 1, hk => by
    have hb1 : b < 2 := hb b (by simp)
    simp at hw
    have hp1 : (2 ^ (n + 1) - 1) % 2 = 1 := by rw [Nat.pow_succ]; have := Nat.two_pow_pos n; omega
    have hp2 : (2 ^ (n + 1) - 1) / 2 = 2 ^ n - 1 := by rw [Nat.pow_succ]; have := Nat.two_pow_pos n; omega
    have e3 : d ++ b :: w ++ rest = d ++ b :: (w ++ rest) := by simp
    have hL : (IB (d ++ b :: (w ++ rest))).length = d.length + (n + 1) + rest.length := by rw [IB_length]; simp; omega
    have e4 : wrap64 (1 - (b : Int)) = ((1 - b : Nat) : Int) := by rw [wrap_id _ (by omega) (by omega)]; omega
    rw [fettleref02_Sum.l1, if_pos (by omega), if_pos (by omega), e3, if_pos (by rw [hL]; omega), ← hd, rdI, e4, setI,
      show wrap64 ((d.length : Int) + 1) = ((32 - n : Nat) : Int) by rw [wrap_id _ (by omega) (by omega)]; omega]
    have := Sum_l1 R rest k0 p hpf n (d ++ [1 - b]) w (by omega) hw (fun x hx => hb x (by simp [hx])) (by simp; omega) (by simp; omega)
      (fun k hk => by
        have := h k hk
        simp only [flips, hp1, hp2] at this
        rw [show (b + 1) % 2 = 1 - b by omega, show d ++ (1 - b) :: flips w (2 ^ n - 1) ++ rest = d ++ [1 - b] ++ flips w (2 ^ n - 1) ++ rest by simp] at this
        exact this) k (by omega)
    rw [show d ++ [1 - b] ++ w ++ rest = d ++ (1 - b) :: (w ++ rest) by simp] at this
    exact this

theorem Sum_l0 : ∀ (n : Nat), n ≤ 32 → ∀ (x : List Int), x.length + n < 1000000 → ∀ (R : Int) (k0 : Nat), (∀ k, k0 ≤ k → fettleref02_Sum.l1 k (x ++ List.replicate n 0) 0 = some R) → ∀ (k : Nat), k0 + n + 1 ≤ k →
    fettleref02_Sum.l0 k x ((32 - n : Nat) : Int) = some R
  | 0, hn, x, hx, R, k0, h, k + 1, hk => by
    rw [fettleref02_Sum.l0, if_neg (by omega)]
    have := h k (by omega)
    simpa using this
  | n + 1, hn, x, hx, R, k0, h, k + 1, hk => by
    rw [fettleref02_Sum.l0, if_pos (by omega), if_pos (by omega), wrap_step n (by omega)]
    refine Sum_l0 n (by omega) (x ++ [0]) (by simp; omega) R k0 (fun k hk => ?_) k (by omega)
    have := h k hk
    rw [List.replicate_succ] at this
    simpa using this

/-- The reference's sum: the same. -/
theorem RefSum_f (k : Nat) (l : List Int) (hl : Bytes l) (hm : l.length ≤ 10000) (hk : l.length * 400 + 1000 ≤ k) :
    fettleref02_Sum.f k l = some ((compl (feed 4294967295 l) : Nat) : Int) := by
  obtain ⟨p, hp1, hp2, hpf⟩ := poly_f
  unfold fettleref02_Sum.f
  rw [bits_f k l hl (by omega) (by omega), Option.bind_some]
  have hz : IB (bitsOf l) ++ List.replicate 32 0 = IB (bitsOf l ++ List.replicate 32 0) := by simp [IB]
  have hbl := bitsOf_length l
  -- the row of bits, as its first 32 and the others
  obtain ⟨w, rest, hwr, hw⟩ : ∃ w rest, bitsOf l ++ List.replicate 32 0 = w ++ rest ∧ w.length = 32 :=
    ⟨_, _, (List.take_append_drop 32 _).symm, by simp⟩
  have hall : Bits (w ++ rest) := by
    rw [← hwr]; intro x hx
    rcases List.mem_append.1 hx with hx | hx
    · exact bitsOf_bits l x hx
    · have := List.eq_of_mem_replicate hx; omega
  have hbw : Bits w := fun x hx => hall x (by simp [hx])
  have hbr : Bits rest := fun x hx => hall x (by simp [hx])
  have hrl : rest.length = 8 * l.length := by
    have := congrArg List.length hwr
    simp at this; omega
  have hfin : fin (val (flips w (2 ^ 32 - 1))) rest = feed 4294967295 l := by
    rw [val_flips w _ hbw (by rw [hw]; decide), Nat.xor_comm, fin_feedb rest w _ hw hbw hbr (by decide), ← hwr, hrl, ← hbl, feed_bits l _ hl]
    have hz : ∀ n, val (List.replicate n 0) = 0 := fun n => by induction n with
      | zero => rfl
      | succ n ih => simp [List.replicate_succ, val, ih]
    rw [List.take_left, List.drop_left, hz, Nat.xor_zero]
  have h2 := fun k hk => Sum_l2 p hp1 hp2 rest [] (flips w (2 ^ 32 - 1)) (by rw [flips_length]; exact hw) (flips_bits _ _) hbr (by simp; omega) k hk
  rw [hfin] at h2
  have h1 := Sum_l1 _ rest (rest.length * 40 + 40) p hpf 32 [] w (by omega) hw hbw rfl (by simp; omega) h2
  refine Sum_l0 32 (by omega) _ (by rw [IB_length]; omega) _ (rest.length * 40 + 40 + 132) (fun k hk => ?_) k (by omega)
  rw [hz, hwr]
  exact h1 k (by omega)
end Go.Proofs.Ytjhoojdbjmneaaa.CrcMath
