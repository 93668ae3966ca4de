import Derived.Test.YtjhoojdbjmneaaaCrcMath
import Derived.Test.YtjhoojdbjmneaaaPCrcPartsy
/-! The sum of parts, in plain numbers. -/
namespace Go.Proofs.Ytjhoojdbjmneaaa.CrcMath
open Go.RowKit Go.Proofs.Ytjhoojdbjmneaaa.PCrcOvers Go.Proofs.YtjhoojdbjmneaaaW.PrintWords Go.Proofs.YtjhoojdbjmneaaaW.PrintLast
set_option linter.unusedVariables false
set_option linter.unusedSimpArgs false

theorem feed_append (a b : List Int) (s : Nat) : feed s (a ++ b) = feed (feed s a) b := by simp [feed, List.foldl_append]
/-- The sum of bytes. -/
def csum (l : List Int) : Nat := compl (feed 4294967295 l)
theorem csum_lt (l : List Int) : csum l < 4294967296 := compl_lt _
theorem More_csum (k : Nat) (a b : List Int) (ha : Bytes a) (hb : Bytes b) (hm : b.length < 9223372036854775807) (hk : b.length + 10 ≤ k) :
    crc_More.f k (csum a : Int) b = some (csum (a ++ b) : Int) := by
  rw [More_f k (csum a) b hb hm hk (csum_lt a)]
  unfold csum
  rw [compl_compl _ (feed_lt a ha (by decide)), feed_append]
theorem More_zero (k : Nat) (b : List Int) (hb : Bytes b) (hm : b.length < 9223372036854775807) (hk : b.length + 10 ≤ k) :
    crc_More.f k 0 b = some (csum b : Int) := More_csum k [] b (fun x hx => by simp at hx) hb hm hk

theorem rdL1 {l : List (List Int)} {i : Nat} {x : List Int} {r : List (List Int)} (h : l.drop i = x :: r) : rd_L1 l (i : Int) = x := by
  have : l[i]? = some x := by rw [← List.head?_drop, h]; rfl
  simp [rd_L1, List.getD, this]
theorem dropS {l : List (List Int)} {i : Nat} {x : List Int} {r : List (List Int)} (h : l.drop i = x :: r) : l.drop (i + 1) = r := by
  rw [← List.drop_drop, h]; rfl
theorem Sum_parts (l : List (List Int)) (B : Nat) (hB : B ≤ 100000) (hm : l.length < 1000000) (hl : ∀ x ∈ l, Bytes x ∧ x.length ≤ B) : ∀ (r : List (List Int)) (i : Nat), i ≤ l.length → l.drop i = r →
    ∀ (k : Nat), r.length + B + 12 ≤ k → ∀ (d : List Int), Bytes d → crc_Sum.l0 k (csum d : Int) l (l.length : Int) (i : Int) = some (csum (d ++ r.flatten) : Int)
  | [], i, hi, hd, k + 1, hk, d, hbd => by
    have := drop_len hd hi; simp at this
    rw [crc_Sum.l0, if_neg (by omega)]; simp
  | x :: r, i, hi, hd, k + 1, hk, d, hbd => by
    have hlen := drop_len hd hi; simp at hlen hk
    have hx := hl x (by have : x ∈ l.drop i := by rw [hd]; simp
                        exact List.mem_of_mem_drop this)
    rw [crc_Sum.l0, if_pos (by omega), if_pos (by omega), if_pos (by omega), rdL1 hd, More_csum k d x hbd hx.1 (by omega) (by omega), Option.bind_some,
      show wrap64 ((i : Int) + 1) = ((i + 1 : Nat) : Int) by unfold wrap64; omega]
    rw [Sum_parts l B hB hm hl r (i + 1) (by omega) (dropS hd) k (by omega) (d ++ x) (by
      intro y hy
      rcases List.mem_append.1 hy with hy | hy
      · exact hbd y hy
      · exact hx.1 y hy)]
    simp
theorem Sum_f (k : Nat) (l : List (List Int)) (B : Nat) (hB : B ≤ 100000) (hm : l.length < 1000000) (hl : ∀ x ∈ l, Bytes x ∧ x.length ≤ B) (hk : l.length + B + 12 ≤ k) :
    crc_Sum.f k l = some (csum l.flatten : Int) :=
  Sum_parts l B hB hm hl l 0 (by omega) rfl k hk [] (fun x hx => by simp at hx)

theorem wrapU' (n : Int) : IntKind.u64.wrap n = n % 18446744073709551616 := by simp [IntKind.wrap, IntKind.bits, IntKind.signed]

theorem parts_l0 (a : Int) (l : List (List Int)) (hl : ∀ x ∈ l, Bytes x) (hm : l.length ≤ 20) :
    ∀ (r d : List (List Int)), l = d ++ r → (∀ x ∈ d, x.length ≤ 400) → d.flatten.length ≤ d.length * 400 → ∀ (k : Nat), r.length + 100000 ≤ k →
    fettlelaw02_CrcParts.l0 k l a d.flatten (d.length : Int) = some true
  | [], d, he, hd, hfl, k + 1, hk => by
    have he : l = d := by simpa using he
    subst he
    have hbf : Bytes l.flatten := by
      intro y hy
      obtain ⟨x, hx, hy⟩ := List.mem_flatten.1 hy
      exact hl x hx y hy
    have hL : l.flatten.length ≤ 8000 := by omega
    obtain ⟨all, hall⟩ : ∃ all, l.flatten = all := ⟨_, rfl⟩
    rw [hall] at hbf hL ⊢
    have h1 : fettleref02_Fast.f k all = some (csum all : Int) := Fast_f k all hbf (by omega) (by omega)
    have h2 := known_f k (by omega)
    have h3 := Sum_f k l 400 (by omega) (by omega) (fun x hx => ⟨hl x hx, hd x hx⟩) (by omega)
    rw [hall] at h3
    have hw : wrap64 ((all.length : Int) + 1) = (all.length : Int) + 1 := by unfold wrap64; omega
    have hu : IntKind.u64.wrap ((all.length : Int) + 1) = (all.length : Int) + 1 := by rw [wrapU']; omega
    obtain ⟨j, hj1, hj2⟩ : ∃ j : Nat, wrap64 (Int.tmod (IntKind.u64.wrap a) ((all.length : Int) + 1)) = (j : Int) ∧ j ≤ all.length := by
      have h0 : 0 ≤ IntKind.u64.wrap a := by rw [wrapU']; omega
      have hp := Int.emod_nonneg (IntKind.u64.wrap a) (show (all.length : Int) + 1 ≠ 0 by omega)
      have hq := Int.emod_lt_of_pos (IntKind.u64.wrap a) (show (0 : Int) < (all.length : Int) + 1 by omega)
      refine ⟨(IntKind.u64.wrap a % ((all.length : Int) + 1)).toNat, ?_, by omega⟩
      rw [Int.tmod_eq_emod_of_nonneg h0]
      unfold wrap64; omega
    have hbt : Bytes (all.take j) := fun y hy => hbf y (List.mem_of_mem_take hy)
    have hbd : Bytes (all.drop j) := fun y hy => hbf y (List.mem_of_mem_drop hy)
    have h4 := Sum_f k [all.take j] 8000 (by omega) (by simp) (fun x hx => by
      simp at hx; subst hx
      exact ⟨hbt, by simp; omega⟩) (by simp; omega)
    have h5 := More_csum k (all.take j) (all.drop j) hbt hbd (by simp; omega) (by simp; omega)
    rw [List.take_append_drop] at h5
    have h6 := More_zero k all hbf (by omega) (by omega)
    simp only [List.flatten_cons, List.flatten_nil, List.append_nil] at h4
    rw [fettlelaw02_CrcParts.l0, if_neg (by omega), hw, hu, if_neg (by omega), h1, hj1]
    simp only [Option.bind_some, h2, if_true, h3]
    rw [if_pos (Int.natCast_nonneg j), if_pos (by omega), Int.toNat_natCast, h4]
    simp only [Option.bind_some, h5, if_true, h6]
    simp
  | x :: r, d, he, hd, hfl, k + 1, hk => by
    have hlen : l.length = d.length + (r.length + 1) := by rw [he]; simp
    have hx : rd_L1 l (d.length : Int) = x := rdL1 (i := d.length) (r := r) (by rw [he]; simp)
    simp only [List.length_cons] at hk
    rw [fettlelaw02_CrcParts.l0, if_pos (by omega), if_pos (by omega), hx]
    by_cases c : (x.length : Int) > 400
    · rw [if_pos c, known_f k (by omega), Option.bind_some]
    · rw [if_neg c, if_pos (by omega), show wrap64 ((d.length : Int) + 1) = (((d ++ [x]).length : Nat) : Int) by simp; unfold wrap64; omega,
        show d.flatten ++ x = (d ++ [x]).flatten by simp]
      exact parts_l0 a l hl hm r (d ++ [x]) (by simp [he]) (by
        intro y hy
        rcases List.mem_append.1 hy with hy | hy
        · exact hd y hy
        · simp at hy; subst hy; omega) (by
          have e : (d ++ [x]).flatten = d.flatten ++ x := by simp
          rw [e, List.length_append, List.length_append]; simp only [List.length_cons, List.length_nil]; omega) k (by omega)
/-- CrcParts, plainly. -/
theorem parts_f (a : Int) (l : List (List Int)) (hl : ∀ x ∈ l, Bytes x) : ∃ k, fettlelaw02_CrcParts.f k l a = some true := by
  obtain ⟨k, hk⟩ : ∃ k : Nat, 1000000 ≤ k := ⟨1000000, Nat.le_refl _⟩
  refine ⟨k, ?_⟩
  unfold fettlelaw02_CrcParts.f
  by_cases c : (l.length : Int) > 20
  · rw [if_pos c, known_f k (by omega), Option.bind_some]
  · rw [if_neg c]
    exact parts_l0 a l hl (by omega) l [] rfl (fun x hx => by simp at hx) (by simp) k (by omega)
end Go.Proofs.Ytjhoojdbjmneaaa.CrcMath
