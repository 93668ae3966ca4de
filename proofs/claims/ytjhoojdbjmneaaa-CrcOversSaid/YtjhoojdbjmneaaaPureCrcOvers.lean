import Derived.Test.YtjhoojdbjmneaaaCrcMath
/-! The sum with four bytes counting as 0, in plain numbers. -/
namespace Go.Proofs.Ytjhoojdbjmneaaa.Pure
open Go.RowKit Go.Proofs.Ytjhoojdbjmneaaa.PCrcOvers Go.Proofs.YtjhoojdbjmneaaaW.PrintWords Go.Proofs.YtjhoojdbjmneaaaW.PrintLast Go.Proofs.Ytjhoojdbjmneaaa.CrcMath
set_option linter.unusedVariables false

/-- Bytes from number i on, those within four of a place made 0. -/
def ov (a : Int) : Nat → List Int → List Int
  | _, [] => []
  | i, x :: r => (if a ≤ i ∧ i - a < 4 then 0 else x) :: ov a (i + 1) r
theorem ov_bytes (a : Int) : ∀ (l : List Int) (i : Nat), Bytes l → Bytes (ov a i l)
  | [], i, h => by intro x hx; simp [ov] at hx
  | y :: r, i, h => by
    intro x hx
    simp only [ov, List.mem_cons] at hx
    rcases hx with rfl | hx
    · split
      · exact ⟨by decide, by decide⟩
      · exact h y (by simp)
    · exact ov_bytes a r (i + 1) (fun z hz => h z (by simp [hz])) x hx
theorem ov_length (a : Int) : ∀ (l : List Int) (i : Nat), (ov a i l).length = l.length
  | [], i => rfl
  | y :: r, i => by simp [ov, ov_length a r (i + 1)]

theorem wrapU (n : Int) : IntKind.u64.wrap n = n % 18446744073709551616 := by simp [IntKind.wrap, IntKind.bits, IntKind.signed]

theorem Over_l0 (a : Int) (ha0 : -9223372036854775808 ≤ a) (ha1 : a < 9223372036854775808) (l : List Int) (hl : Bytes l) (hm : l.length < 1000000) :
    ∀ (r : List Int) (i : Nat), i ≤ l.length → l.drop i = r → ∀ (k : Nat), r.length + 10 ≤ k → ∀ (s : Nat), s < 4294967296 →
    crc_Over.l0 k a (s : Int) l (l.length : Int) (i : Int) = some ((compl (feed s (ov a i r)) : Nat) : Int)
  | [], i, hi, hd, k + 1, hk, s, hs => by
    have := drop_len hd hi; simp at this
    rw [crc_Over.l0, if_neg (by omega), show (4294967295 : Int) = ((4294967295 : Nat) : Int) from rfl, xorN _ _ (by decide) hs, compl_xor s hs]; rfl
  | x :: r, i, hi, hd, k + 1, hk, s, hs => by
    have hlen := drop_len hd hi; simp at hlen hk
    have hx := hl x (by have : x ∈ l.drop i := by rw [hd]; simp
                        exact List.mem_of_mem_drop this)
    have hw : wrap64 ((i : Int) + 1) = ((i + 1 : Nat) : Int) := by unfold wrap64; omega
    have ih := fun (y : Int) (h0 : 0 ≤ y) (h1 : y < 256) => Over_l0 a ha0 ha1 l hl hm r (i + 1) (by omega) (drop_succ hd) k (by omega) (stepN s y.toNat) (stepN_lt hs (by omega))
    rw [crc_Over.l0, if_pos (by omega), if_pos (by omega), if_pos (by omega), rd_nat l i x r hd, hw, step_f k (by omega) s x hs hx.1 hx.2,
      step_f k (by omega) s 0 hs (by decide) (by decide)]
    simp only [Option.bind_some, ov]
    rw [ih x hx.1 hx.2, ih 0 (by decide) (by decide), wrapU, wrapU, wrapU]
    by_cases c1 : a ≤ i
    · rw [if_pos c1]
      by_cases c2 : (i : Int) - a < 4
      · rw [if_pos (by omega), if_pos ⟨c1, c2⟩]; rfl
      · rw [if_neg (by omega), if_neg (by omega)]; rfl
    · rw [if_neg (by omega), if_neg (by omega)]; rfl

theorem law_l0 (a : Int) (ha0 : -9223372036854775808 ≤ a) (ha1 : a < 9223372036854775808) (l : List Int) (hl : Bytes l) (hm : l.length ≤ 400) :
    ∀ (r : List Int) (p : List Int), (p ++ r).length = l.length → ∀ (k : Nat), r.length + 5000 ≤ k → p ++ ov a p.length r = ov a 0 l →
    fettlelaw02_CrcOvers.l0 k l a (p ++ r) (p.length : Int) = some true
  | [], p, hp, k + 1, hk, he => by
    simp [ov] at he
    rw [fettlelaw02_CrcOvers.l0, if_neg (by simp)]
    have h1 := known_f (k + 1 - 1) (by simp at hk; omega)
    have h2 := Over_l0 a ha0 ha1 l hl (by omega) l 0 (by omega) rfl (k + 1 - 1) (by simp at hk; omega) 4294967295 (by decide)
    have h3 := Fast_f (k + 1 - 1) (ov a 0 l) (ov_bytes a l 0 hl) (by rw [ov_length]; omega) (by rw [ov_length]; simp at hk; omega)
    simp only [Nat.add_sub_cancel] at h1 h2 h3
    rw [h1]
    simp only [Option.bind_some, if_true, List.append_nil, he]
    rw [show crc_Over.f k l a = some ((compl (feed 4294967295 (ov a 0 l)) : Nat) : Int) from h2, h3]
    simp
  | x :: r, p, hp, k + 1, hk, he => by
    have hw : wrap64 ((p.length : Int) + 1) = ((p.length + 1 : Nat) : Int) := by
      simp at hp; unfold wrap64; omega
    have hw2 : ∀ (q : Int), (p ++ [q]).length = p.length + 1 := fun q => by simp
    have ih := fun (y : Int) (hy : (if a ≤ p.length ∧ p.length - a < 4 then 0 else x) = y) =>
      law_l0 a ha0 ha1 l hl hm r (p ++ [y]) (by simp at hp ⊢; omega) k (by simp at hk; omega) (by rw [hw2, List.append_assoc]; rw [← he]; simp only [ov, hy]; rfl)
    have hs : (p ++ x :: r).set (p.length : Int).toNat 0 = (p ++ [0]) ++ r := by
      rw [Int.toNat_natCast, List.set_append_right _ _ (Nat.le_refl _)]; simp
    have hn : p ++ x :: r = (p ++ [x]) ++ r := by simp
    simp at hp
    rw [fettlelaw02_CrcOvers.l0, if_pos (by simp; omega), hw, hs]
    simp only [hw2] at ih
    by_cases c1 : a ≤ p.length
    · rw [if_pos c1]
      by_cases c2 : (p.length : Int) - a < 4
      · have h0 := ih 0 (if_pos ⟨c1, c2⟩)
        rw [if_pos (by unfold wrap64; omega)]
        by_cases c3 : a ≥ 0
        · rw [if_pos c3, if_pos (by omega)]; exact h0
        · rw [if_neg c3, if_pos (by omega), if_pos (by omega), if_pos (by omega)]; exact h0
      · have h0 := ih x (if_neg (by omega))
        rw [← hn] at h0
        by_cases c4 : wrap64 ((p.length : Int) - a) < 4
        · rw [if_pos c4, if_neg (by unfold wrap64 at c4; omega)]
          by_cases c5 : (p.length : Int) < 4
          · rw [if_pos c5, if_neg (by unfold wrap64 at c4; omega)]; exact h0
          · rw [if_neg c5]; exact h0
        · rw [if_neg c4]; exact h0
    · have h0 := ih x (if_neg (by omega))
      rw [if_neg c1, ← hn] at *; exact h0

theorem CrcOvers : fettlelaw02_CrcOvers.Pure := by
  intro l a _ _ hl ha
  have hb := Bytes.of hl
  have ha' : -9223372036854775808 ≤ a ∧ a < 9223372036854775808 := by
    simp [Lit.wf, IntKind.wrap, IntKind.bits, IntKind.signed, IntKind.min, IntKind.max] at ha; omega
  obtain ⟨k, hk⟩ : ∃ k : Nat, 10000 ≤ k := ⟨10000, Nat.le_refl _⟩
  refine ⟨k, ?_⟩
  unfold fettlelaw02_CrcOvers.f
  by_cases c : (l.length : Int) > 400
  · rw [if_pos c, known_f k (by omega), Option.bind_some]
  · rw [if_neg c]
    have hp : fettleref01_Part.f l 0 (l.length : Int) = some l := by
      unfold fettleref01_Part.f
      have : wrap64 (0 + (l.length : Int)) = l.length := by unfold wrap64; omega
      rw [this, if_pos (by omega), if_pos (by omega), if_pos (by omega)]
      simp
      omega
    rw [hp]
    exact law_l0 a ha'.1 ha'.2 l hb (by omega) l [] rfl k (by omega) rfl
end Go.Proofs.Ytjhoojdbjmneaaa.Pure
