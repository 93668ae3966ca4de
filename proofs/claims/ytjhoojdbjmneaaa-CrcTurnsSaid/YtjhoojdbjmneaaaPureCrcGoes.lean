import Derived.Test.YtjhoojdbjmneaaaPureCrcParts
import Derived.Test.YtjhoojdbjmneaaaVAll
/-! The sums of three texts and of the three changed by one another, in plain numbers. -/
namespace Go.Proofs.Ytjhoojdbjmneaaa.CrcMath
open Go.RowKit Go.Proofs.Ytjhoojdbjmneaaa.PCrcOvers Go.Proofs.YtjhoojdbjmneaaaW.PrintWords Go.Proofs.YtjhoojdbjmneaaaW.PrintLast
set_option linter.unusedVariables false
set_option linter.unusedSimpArgs false
theorem xor8 (a b : Nat) (ha : a < 256) (hb : b < 256) : Go.bits .xor .u8 (a : Int) (b : Int) = ((a ^^^ b : Nat) : Int) := by
  have ha' : a % 2 ^ IntKind.bits .u8 = a := Nat.mod_eq_of_lt ha
  have hb' : b % 2 ^ IntKind.bits .u8 = b := Nat.mod_eq_of_lt hb
  simp only [Go.bits, BitVec.ofInt_natCast, BitVec.toNat_xor, BitVec.toNat_ofNat, ha', hb']
  rw [IntKind.wrap_u8]
  have : a ^^^ b < 2 ^ 8 := Nat.xor_lt_two_pow ha hb
  omega
def x3 (a b c : Int) : Int := ((a.toNat ^^^ b.toNat ^^^ c.toNat : Nat) : Int)
def z3 : List Int → List Int → List Int → List Int
  | a :: r, b :: s, c :: t => x3 a b c :: z3 r s t
  | _, _, _ => []
theorem x3_byte (a b c : Int) (ha : 0 ≤ a ∧ a < 256) (hb : 0 ≤ b ∧ b < 256) (hc : 0 ≤ c ∧ c < 256) : 0 ≤ x3 a b c ∧ x3 a b c < 256 := by
  have : a.toNat ^^^ b.toNat ^^^ c.toNat < 2 ^ 8 := Nat.xor_lt_two_pow (Nat.xor_lt_two_pow (by omega) (by omega)) (by omega)
  unfold x3; omega
theorem x3_bits (a b c : Int) (ha : 0 ≤ a ∧ a < 256) (hb : 0 ≤ b ∧ b < 256) (hc : 0 ≤ c ∧ c < 256) : Go.bits .xor .u8 (Go.bits .xor .u8 a b) c = x3 a b c := by
  obtain ⟨a, rfl⟩ := Int.eq_ofNat_of_zero_le ha.1
  obtain ⟨b, rfl⟩ := Int.eq_ofNat_of_zero_le hb.1
  obtain ⟨c, rfl⟩ := Int.eq_ofNat_of_zero_le hc.1
  rw [xor8 a b (by omega) (by omega), xor8 _ c (Nat.xor_lt_two_pow (n := 8) (by omega) (by omega)) (by omega)]
  rfl
theorem feed3 : ∀ (a b c : List Int) (s t u : Nat), a.length = b.length → a.length = c.length → feed (s ^^^ t ^^^ u) (z3 a b c) = feed s a ^^^ feed t b ^^^ feed u c
  | [], b, c, s, t, u, h1, h2 => by
    have hb : b = [] := List.length_eq_zero_iff.1 h1.symm
    have hc : c = [] := List.length_eq_zero_iff.1 h2.symm
    subst hb; subst hc; rfl
  | x :: a, y :: b, z :: c, s, t, u, h1, h2 => by
    show feed (stepN (s ^^^ t ^^^ u) (x3 x y z).toNat) (z3 a b c) = feed (stepN s x.toNat) a ^^^ feed (stepN t y.toNat) b ^^^ feed (stepN u z.toNat) c
    have : stepN (s ^^^ t ^^^ u) (x3 x y z).toNat = stepN s x.toNat ^^^ stepN t y.toNat ^^^ stepN u z.toNat := by
      unfold stepN x3
      rw [Int.toNat_natCast, ← iter_xor, ← iter_xor]
      congr 1
      ac_rfl
    rw [this]
    exact feed3 a b c _ _ _ (by simpa using h1) (by simpa using h2)
theorem csum3 (a b c : List Int) (ha : Bytes a) (hb : Bytes b) (hc : Bytes c) (hz : Bytes (z3 a b c)) (h1 : a.length = b.length) (h2 : a.length = c.length) :
    csum a ^^^ csum b ^^^ csum c = csum (z3 a b c) := by
  unfold csum
  rw [← compl_xor _ (feed_lt a ha (by decide)), ← compl_xor _ (feed_lt b hb (by decide)), ← compl_xor _ (feed_lt c hc (by decide)), ← compl_xor _ (feed_lt _ hz (by decide))]
  have hf := feed3 a b c 4294967295 4294967295 4294967295 h1 h2
  rw [show 4294967295 ^^^ 4294967295 ^^^ 4294967295 = 4294967295 by decide] at hf
  rw [hf]
  have : (4294967295 ^^^ feed 4294967295 a) ^^^ (4294967295 ^^^ feed 4294967295 b) ^^^ (4294967295 ^^^ feed 4294967295 c) =
      (4294967295 ^^^ 4294967295) ^^^ (4294967295 ^^^ (feed 4294967295 a ^^^ feed 4294967295 b ^^^ feed 4294967295 c)) := by ac_rfl
  rw [this, Nat.xor_self, Nat.zero_xor]
theorem z3_bytes : ∀ (a b c : List Int), Bytes a → Bytes b → Bytes c → Bytes (z3 a b c)
  | [], _, _, _, _, _ => by intro x hx; simp [z3] at hx
  | x :: a, [], _, _, _, _ => by intro x hx; simp [z3] at hx
  | x :: a, y :: b, [], _, _, _ => by intro x hx; simp [z3] at hx
  | x :: a, y :: b, z :: c, ha, hb, hc => by
    intro w hw
    simp only [z3, List.mem_cons] at hw
    rcases hw with rfl | hw
    · exact x3_byte x y z (ha x (by simp)) (hb y (by simp)) (hc z (by simp))
    · exact z3_bytes a b c (fun q hq => ha q (by simp [hq])) (fun q hq => hb q (by simp [hq])) (fun q hq => hc q (by simp [hq])) w hw

theorem goes_l0 (a b c : List Int) (ha : Bytes a) (hb : Bytes b) (hc : Bytes c) (h1 : a.length = b.length) (h2 : a.length = c.length) (hm : a.length ≤ 400) :
    ∀ (ra rb rc : List Int) (i : Nat), a.drop i = ra → b.drop i = rb → c.drop i = rc → i ≤ a.length → ∀ (o : List Int), o.length = i → o ++ z3 ra rb rc = z3 a b c → ∀ (k : Nat), ra.length + 1000 ≤ k →
    fettlelaw02_CrcGoes.l0 k a b c o (i : Int) = some true
  | [], rb, rc, i, ea, eb, ec, hi, o, ho, he, k + 1, hk => by
    have hlen := drop_len ea hi; simp at hlen
    have ho' : o = z3 a b c := by rw [← he]; simp [z3]
    have hzb := z3_bytes a b c ha hb hc
    have S := fun (x : List Int) (hx : Bytes x) (hl : x.length ≤ 400) => Sum_f k [x] 400 (by omega) (by simp) (fun y hy => by
      simp at hy; subst hy; exact ⟨hx, hl⟩) (by simp at hk ⊢; omega)
    rw [fettlelaw02_CrcGoes.l0, if_neg (by omega), S a ha hm, S b hb (by omega), S c hc (by omega), S o (by rw [ho']; exact hzb) (by omega)]
    simp only [Option.bind_some, List.flatten_cons, List.flatten_nil, List.append_nil]
    rw [xorN _ _ (csum_lt a) (csum_lt b), xorN _ _ (Nat.xor_lt_two_pow (n := 32) (csum_lt a) (csum_lt b)) (csum_lt c), csum3 a b c ha hb hc hzb h1 h2, ho']
    simp
  | x :: ra, rb, rc, i, ea, eb, ec, hi, o, ho, he, k + 1, hk => by
    have hlen := drop_len ea hi
    have hlb := drop_len eb (by omega)
    have hlc := drop_len ec (by omega)
    simp only [List.length_cons] at hlen hk
    obtain ⟨y, rb, rfl⟩ : ∃ y r, rb = y :: r := by cases rb with
      | nil => simp at hlb; omega
      | cons y r => exact ⟨y, r, rfl⟩
    obtain ⟨z, rc, rfl⟩ : ∃ y r, rc = y :: r := by cases rc with
      | nil => simp at hlc; omega
      | cons y r => exact ⟨y, r, rfl⟩
    have hx := ha x (List.mem_of_mem_drop (i := i) (by rw [ea]; simp))
    have hy := hb y (List.mem_of_mem_drop (i := i) (by rw [eb]; simp))
    have hz := hc z (List.mem_of_mem_drop (i := i) (by rw [ec]; simp))
    rw [fettlelaw02_CrcGoes.l0, if_pos (by omega), if_pos (by omega), if_pos (by omega), if_pos (by omega), if_pos (by omega), rd_nat a i x ra ea, rd_nat b i y rb eb, rd_nat c i z rc ec,
      x3_bits x y z hx hy hz, show wrap64 ((i : Int) + 1) = ((i + 1 : Nat) : Int) by unfold wrap64; omega]
    exact goes_l0 a b c ha hb hc h1 h2 hm ra rb rc (i + 1) (drop_succ ea) (drop_succ eb) (drop_succ ec) (by omega) (o ++ [x3 x y z]) (by simp; omega) (by rw [← he]; simp [z3]) k (by omega)
/-- CrcGoes, plainly. -/
theorem goes_f (a b c : List Int) (ha : Bytes a) (hb : Bytes b) (hc : Bytes c) : ∃ k, fettlelaw02_CrcGoes.f k a b c = some true := by
  obtain ⟨k, hk⟩ : ∃ k : Nat, 100000 ≤ k := ⟨100000, Nat.le_refl _⟩
  refine ⟨k, ?_⟩
  have hK := known_f k (by omega)
  have jt : fettlelaw02_CrcGoes.j0 k a b c true = some true := by
    obtain ⟨k, rfl⟩ : ∃ k', k = k' + 1 := ⟨k - 1, by omega⟩
    rw [fettlelaw02_CrcGoes.j0, if_pos rfl, known_f k (by omega), Option.bind_some]
  unfold fettlelaw02_CrcGoes.f
  rw [hK, Option.bind_some, if_pos rfl]
  by_cases c1 : (a.length : Int) > 400
  · rw [if_pos c1]; exact jt
  rw [if_neg c1]
  by_cases c2 : (b.length : Int) < (a.length : Int)
  · rw [if_pos c2]; exact jt
  rw [if_neg c2]
  by_cases c3 : (c.length : Int) < (a.length : Int)
  · rw [decide_eq_true c3]; exact jt
  rw [decide_eq_false c3]
  obtain ⟨k, rfl⟩ : ∃ k', k = k' + 1 := ⟨k - 1, by omega⟩
  rw [fettlelaw02_CrcGoes.j0, if_neg (by decide), if_pos (by omega), if_pos (by omega), if_pos (by omega), Int.toNat_natCast]
  exact goes_l0 a _ _ ha (fun x hx => hb x (List.mem_of_mem_take hx)) (fun x hx => hc x (List.mem_of_mem_take hx)) (by simp; omega) (by simp; omega) (by omega) _ _ _ 0 rfl rfl rfl (by omega) [] rfl rfl k (by simp; omega)
end Go.Proofs.Ytjhoojdbjmneaaa.CrcMath
