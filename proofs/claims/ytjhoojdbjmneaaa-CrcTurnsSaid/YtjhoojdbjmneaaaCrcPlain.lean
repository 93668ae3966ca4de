import Derived.Test.YtjhoojdbjmneaaaCrcMath
/-! The sums: linear; nothing is lost; bit by bit; the division that is the same. Plain numbers. -/
namespace Go.Proofs.Ytjhoojdbjmneaaa.CrcMath
set_option linter.unusedVariables false
set_option linter.unusedSimpArgs false
theorem xmod (m n : Nat) : (m ^^^ n) % 2 = (m % 2 + n % 2) % 2 := by
  have h := Nat.xor_mod_two_pow (a := m) (b := n) (n := 1)
  rw [Nat.pow_one] at h
  rw [h]
  rcases Nat.mod_two_eq_zero_or_one m with ha | ha <;> rcases Nat.mod_two_eq_zero_or_one n with hb | hb <;> rw [ha, hb] <;> rfl
theorem xrc (a b c : Nat) : (a ^^^ b) ^^^ c = (a ^^^ c) ^^^ b := by rw [Nat.xor_assoc, Nat.xor_comm b, ← Nat.xor_assoc]
/-! ## linear -/
theorem T_xor (a b : Nat) : T (a ^^^ b) = T a ^^^ T b := by
  have hm : (a ^^^ b) % 2 = (a % 2 + b % 2) % 2 := by
    have := xmod (m := a) (n := b); omega
  have hd : (a ^^^ b) / 2 = a / 2 ^^^ b / 2 := Nat.xor_div_two
  unfold T
  rw [hm, hd]
  rcases Nat.mod_two_eq_zero_or_one a with ha | ha <;> rcases Nat.mod_two_eq_zero_or_one b with hb | hb <;> simp only [ha, hb] <;> simp
  · rw [Nat.xor_assoc]
  · rw [xrc]
  · rw [Nat.xor_assoc, Nat.xor_comm (b / 2), ← Nat.xor_assoc 3988292384, Nat.xor_self, Nat.zero_xor]
theorem iter_xor : ∀ (n a b : Nat), iter n (a ^^^ b) = iter n a ^^^ iter n b
  | 0, a, b => rfl
  | n + 1, a, b => by show iter n (T (a ^^^ b)) = _; rw [T_xor, iter_xor n]; rfl
theorem iter_zero : ∀ n, iter n 0 = 0
  | 0 => rfl
  | n + 1 => by show iter n (T 0) = 0; exact iter_zero n
/-! ## what is lost: nothing -/
theorem T_inj0 {s : Nat} (hs : s < 4294967296) (h : T s = 0) : s = 0 := by
  unfold T at h
  split at h
  · have h2 : s / 2 = 3988292384 := by
      have := congrArg (· ^^^ 3988292384) h
      simp only [Nat.xor_assoc, Nat.xor_self, Nat.xor_zero, Nat.zero_xor] at this
      exact this
    omega
  · omega
theorem iter_inj0 : ∀ (n : Nat) {s : Nat}, s < 4294967296 → iter n s = 0 → s = 0
  | 0, s, _, h => h
  | n + 1, s, hs, h => T_inj0 hs (iter_inj0 n (T_lt hs) h)

/-! ## bit by bit -/
def feedb (s : Nat) : List Nat → Nat
  | [] => s
  | b :: r => feedb (T (s ^^^ b)) r
/-- A number's lowest bits, the lowest first. -/
def low : Nat → Nat → List Nat
  | 0, _ => []
  | n + 1, x => x % 2 :: low n (x / 2)
theorem T_low (s c : Nat) : T (s ^^^ c) = T (s ^^^ c % 2) ^^^ c / 2 := by
  have h1 : (s ^^^ c) % 2 = (s ^^^ c % 2) % 2 := by
    have := xmod (m := s) (n := c); have := xmod (m := s) (n := c % 2); omega
  have h2 : (s ^^^ c) / 2 = s / 2 ^^^ c / 2 := Nat.xor_div_two
  have h3 : (s ^^^ c % 2) / 2 = s / 2 := by rw [Nat.xor_div_two, show c % 2 / 2 = 0 by omega, Nat.xor_zero]
  unfold T
  rw [h1, h2, h3]
  split
  · rw [xrc]
  · rfl
theorem iter_feedb : ∀ (n s c : Nat), c < 2 ^ n → iter n (s ^^^ c) = feedb s (low n c)
  | 0, s, c, h => by simp at h; subst h; simp [iter, low, feedb]
  | n + 1, s, c, h => by
    show iter n (T (s ^^^ c)) = feedb (T (s ^^^ c % 2)) (low n (c / 2))
    rw [T_low]
    exact iter_feedb n _ _ (by rw [Nat.pow_succ] at h; omega)
theorem feedb_append : ∀ (a b : List Nat) (s : Nat), feedb s (a ++ b) = feedb (feedb s a) b
  | [], b, s => rfl
  | x :: a, b, s => feedb_append a b _
/-- The bits of bytes. -/
def bitsOf : List Int → List Nat
  | [] => []
  | x :: r => low 8 x.toNat ++ bitsOf r
theorem feed_bits : ∀ (l : List Int) (s : Nat), (∀ x ∈ l, 0 ≤ x ∧ x < 256) → feed s l = feedb s (bitsOf l)
  | [], s, _ => rfl
  | x :: r, s, h => by
    show feed (stepN s x.toNat) r = _
    rw [feed_bits r _ (fun y hy => h y (by simp [hy]))]
    rw [bitsOf, feedb_append, ← iter_feedb 8 s x.toNat (by have := h x (by simp); omega)]
    rfl

/-! ## the division -/
def val : List Nat → Nat
  | [] => 0
  | b :: r => b + 2 * val r
def Bits (l : List Nat) : Prop := ∀ b ∈ l, b < 2
theorem val_lt : ∀ (l : List Nat), Bits l → val l < 2 ^ l.length
  | [], _ => by simp [val]
  | b :: r, h => by
    have := val_lt r (fun x hx => h x (by simp [hx])); have := h b (by simp)
    simp only [val, List.length_cons, Nat.pow_succ]; omega
theorem val_append : ∀ (a b : List Nat), val (a ++ b) = val a + 2 ^ a.length * val b
  | [], b => by simp [val]
  | x :: a, b => by
    simp only [List.cons_append, val, val_append a b, List.length_cons, Nat.pow_succ, Nat.mul_add]
    rw [Nat.add_assoc, Nat.mul_comm (2 ^ a.length) 2, Nat.mul_assoc]
theorem cons_xor (a c : Nat) (b d : Nat) (ha : a < 2) (hc : c < 2) : (a + 2 * b) ^^^ (c + 2 * d) = (a + c) % 2 + 2 * (b ^^^ d) := by
  have h1 := xmod (m := a + 2 * b) (n := c + 2 * d)
  have h2 := Nat.xor_div_two (a := a + 2 * b) (b := c + 2 * d)
  have e1 : (a + 2 * b) / 2 = b := by omega
  have e2 : (c + 2 * d) / 2 = d := by omega
  rw [e1, e2] at h2
  omega
/-- Bits that are turned where a number's bits are set. -/
def flips : List Nat → Nat → List Nat
  | [], _ => []
  | b :: r, p => (b + p % 2) % 2 :: flips r (p / 2)
theorem flips_length : ∀ (l : List Nat) (p : Nat), (flips l p).length = l.length
  | [], _ => rfl
  | b :: r, p => by simp [flips, flips_length r]
theorem flips_bits : ∀ (l : List Nat) (p : Nat), Bits (flips l p)
  | [], _ => by intro x hx; simp [flips] at hx
  | b :: r, p => by
    intro x hx
    simp only [flips, List.mem_cons] at hx
    rcases hx with rfl | hx
    · omega
    · exact flips_bits r _ x hx
theorem val_flips : ∀ (l : List Nat) (p : Nat), Bits l → p < 2 ^ l.length → val (flips l p) = val l ^^^ p
  | [], p, _, h => by simp at h; subst h; simp [flips, val]
  | b :: r, p, hb, h => by
    have ih := val_flips r (p / 2) (fun x hx => hb x (by simp [hx])) (by simp only [List.length_cons, Nat.pow_succ] at h; omega)
    have hp : p = p % 2 + 2 * (p / 2) := by omega
    simp only [flips, val, ih]
    conv => rhs; rw [hp]
    rw [cons_xor b (p % 2) _ _ (hb b (by simp)) (by omega)]
/-- The rest: a window of 32 bits that goes on over the others. -/
def fin (W : Nat) : List Nat → Nat
  | [] => W
  | r :: rest => fin ((W / 2 + r * 2147483648) ^^^ (if W % 2 = 1 then 3988292384 else 0)) rest
theorem add_top (a r : Nat) (ha : a < 2147483648) : a + r * 2147483648 = a ^^^ (r * 2147483648) := by
  have := Nat.two_pow_add_eq_or_of_lt (i := 31) (show a < 2 ^ 31 from ha) r
  have h2 : 2 ^ 31 * r ^^^ a = 2 ^ 31 * r ||| a := by
    apply Nat.eq_of_testBit_eq; intro i
    rw [Nat.testBit_xor, Nat.testBit_or, Nat.testBit_two_pow_mul]
    by_cases hi : i < 31
    · simp [Nat.not_le.2 hi]
    · have : a.testBit i = false := Nat.testBit_lt_two_pow (Nat.lt_of_lt_of_le (show a < 2 ^ 31 from ha) (Nat.pow_le_pow_right (by decide) (by omega)))
      simp [this]
  have e : r * 2147483648 = 2 ^ 31 * r := by rw [Nat.mul_comm]
  rw [e, Nat.add_comm, this, ← h2, Nat.xor_comm]
/-- The window is what is fed, the bits to come taken in ahead. -/
theorem fin_feedb : ∀ (rest : List Nat) (w : List Nat) (s : Nat), w.length = 32 → Bits w → Bits rest → s < 4294967296 →
    fin (s ^^^ val w) rest = feedb s ((w ++ rest).take rest.length) ^^^ val ((w ++ rest).drop rest.length)
  | [], w, s, hw, hb, hr, hs => by simp [fin, feedb]
  | r :: rest, b :: w, s, hw, hb, hr, hs => by
    simp only [List.length_cons] at hw
    have hw' : Bits w := fun x hx => hb x (by simp [hx])
    have hb1 := hb b (by simp)
    have hr1 := hr r (by simp)
    have hbw : Bits (w ++ [r]) := by
      intro x hx
      rcases List.mem_append.1 hx with hx | hx
      · exact hw' x hx
      · simp at hx; subst hx; exact hr1
    have ih := fin_feedb rest (w ++ [r]) (T (s ^^^ b)) (by simp; omega) hbw (fun x hx => hr x (by simp [hx]))
      (T_lt (Nat.xor_lt_two_pow (n := 32) hs (by omega)))
    have hlt := val_lt w hw'
    have hlen : w.length = 31 := by omega
    rw [hlen] at hlt
    have e1 : (s ^^^ val (b :: w)) / 2 = s / 2 ^^^ val w := by rw [Nat.xor_div_two]; congr 1; simp only [val]; omega
    have e2 : (s ^^^ val (b :: w)) % 2 = (s ^^^ b) % 2 := by
      have := xmod (m := s) (n := val (b :: w)); have := xmod (m := s) (n := b)
      simp only [val] at *; omega
    have e3 : (s ^^^ b) / 2 = s / 2 := by rw [Nat.xor_div_two, show b / 2 = 0 by omega, Nat.xor_zero]
    have e4 : s / 2 ^^^ val w < 2147483648 := Nat.xor_lt_two_pow (n := 31) (by omega) (by omega)
    have e5 : val (w ++ [r]) = val w ^^^ r * 2147483648 := by
      rw [val_append, hlen]; simp only [val]; rw [← add_top _ _ hlt]; omega
    have key : (s / 2 ^^^ val w) + r * 2147483648 = s / 2 ^^^ val (w ++ [r]) := by rw [add_top _ _ e4, e5, Nat.xor_assoc]
    show fin (((s ^^^ val (b :: w)) / 2 + r * 2147483648) ^^^ (if (s ^^^ val (b :: w)) % 2 = 1 then 3988292384 else 0)) rest = _
    rw [e1, e2, key]
    have hT : (s / 2 ^^^ val (w ++ [r])) ^^^ (if (s ^^^ b) % 2 = 1 then 3988292384 else 0) = T (s ^^^ b) ^^^ val (w ++ [r]) := by
      unfold T; rw [e3]
      split
      · rw [xrc]
      · rw [Nat.xor_zero]
    rw [hT, ih]
    simp [feedb]
end Go.Proofs.Ytjhoojdbjmneaaa.CrcMath
