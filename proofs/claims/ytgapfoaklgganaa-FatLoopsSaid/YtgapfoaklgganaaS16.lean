import Derived.Test.YtgapfoaklgganaaP16
set_option linter.unusedVariables false
set_option linter.unusedSimpArgs false
set_option linter.unnecessarySimpa false
/-! The check of a boot: the program's and the document's say the same. -/
namespace Go.Proofs.Ytgapfoaklgganaa.L16
open Go Go.AM Go.Proofs.Ytgapfoaklgganaa.AMC
set_option maxRecDepth 10000
abbrev btV (e a t s l r i c : Int) : Value := .agg #[.int .i64 e, .int .i64 a, .int .i64 t, .int .i64 s, .int .i64 l, .int .i64 r, .int .i64 i, .int .i64 c]
abbrev btL (e a t s l r i c : Int) : List Value := [.int .i64 e, .int .i64 a, .int .i64 t, .int .i64 s, .int .i64 l, .int .i64 r, .int .i64 i, .int .i64 c]
def box8 (e a t s l r i c : Int) : AObj := .row false 0 (.vals (btL e a t s l r i c))
theorem box8_new (e a t s l r i c : Int) (h : AHeap) : aNew true (btV e a t s l r i c).cells.toList h = some (.pointer (some ⟨h.next, 0, none⟩), h.new (box8 e a t s l r i c)) := by
  simp [aNew, btV, Value.cells, box8, one]
theorem box8_get (e a t s l r i c : Int) (h : AHeap) : (h.new (box8 e a t s l r i c)).get h.next = .row false 0 (.vals (btL e a t s l r i c)) := by rw [AHeap.get_new, if_pos rfl]; rfl
def datF (a t l : Int) : Int := a + t * l
def cluF (e a t s l : Int) : Int := max 0 ((s - datF a t l).tdiv (max 1 e))
theorem data60 (L d : Nat) (e a t s l r i c : Int) (h : AHeap) (h1 : 0 ≤ t) (h2 : t ≤ 2) (h3 : 0 ≤ l) (h4 : l ≤ 40000) (h5 : 0 ≤ a) (h6 : a ≤ 100) :
    (En L (d + 1)).go 60 [btV e a t s l r i c] h = some (.int .i64 (datF a t l), h.new (box8 e a t s l r i c)) := by
  refine go_of (show tabF 60 = some (.code a60) by rfl) rfl ?_
  unfold a60
  have g := box8_get e a t s l r i c h
  have c1 := ld_cell g (i := 1) rfl
  have c2 := ld_cell g (i := 2) rfl
  have c4 := ld_cell g (i := 4) rfl
  have b1 : 0 ≤ t * l := Int.mul_nonneg h1 h3
  have b2 : t * l ≤ 80000 := by
    have : t * l ≤ 2 * l := Int.mul_le_mul_of_nonneg_right h2 h3
    omega
  simp (disch := omega) [box8_new, c1, c2, c4, wrapF_i64]
  rfl
theorem data65 (L d : Nat) (e a t s l r i c : Int) (h : AHeap) (h1 : 0 ≤ t) (h2 : t ≤ 2) (h3 : 0 ≤ l) (h4 : l ≤ 40000) (h5 : 0 ≤ a) (h6 : a ≤ 100) :
    (En L (d + 1)).go 65 [btV e a t s l r i c] h = some (.int .i64 (datF a t l), h.new (box8 e a t s l r i c)) := by
  refine go_of (show tabF 65 = some (.code a65) by rfl) rfl ?_
  unfold a65
  have g := box8_get e a t s l r i c h
  have c1 := ld_cell g (i := 1) rfl
  have c2 := ld_cell g (i := 2) rfl
  have c4 := ld_cell g (i := 4) rfl
  have b1 : 0 ≤ t * l := Int.mul_nonneg h1 h3
  have b2 : t * l ≤ 80000 := by
    have : t * l ≤ 2 * l := Int.mul_le_mul_of_nonneg_right h2 h3
    omega
  simp (disch := omega) [box8_new, c1, c2, c4, wrapF_i64]
  rfl
theorem clus44 (L d : Nat) (e a t s l r i c : Int) (h : AHeap) (h1 : 0 ≤ t) (h2 : t ≤ 2) (h3 : 0 ≤ l) (h4 : l ≤ 40000) (h5 : 0 ≤ a) (h6 : a ≤ 100) (h7 : 0 ≤ s) (h8 : s ≤ 40000) (h9 : 1 ≤ e) (h10 : e ≤ 8) :
    ∃ r' h', (En L (d + 2)).go 44 [btV e a t s l r i c] h = some (r', h') ∧ r' = .int .i64 (cluF e a t s l) ∧ Keep h.next h h' := by
  refine go_ex (R := fun r' h' => r' = .int .i64 (cluF e a t s l) ∧ Keep h.next h h') (show tabF 44 = some (.code a44) by rfl) rfl ?_
  unfold a44
  have g := box8_get e a t s l r i c h
  have c0 := ld_cell g (i := 0) rfl
  have c3 := ld_cell g (i := 3) rfl
  have cg := ld_agg g (n := 8) rfl
  have b1 : 0 ≤ t * l := Int.mul_nonneg h1 h3
  have b2 : t * l ≤ 80000 := by
    have : t * l ≤ 2 * l := Int.mul_le_mul_of_nonneg_right h2 h3
    omega
  have hd : 0 ≤ datF a t l ∧ datF a t l ≤ 80100 := by unfold datF; omega
  have q1 : -80100 ≤ (s - datF a t l).tdiv e ∧ (s - datF a t l).tdiv e ≤ 80100 := by
    have := Int.natAbs_tdiv_le_natAbs (s - datF a t l) e
    omega
  have q2 : max 1 e = e := by omega
  obtain ⟨G, ed, hG, kG, gG⟩ : ∃ G, (En L (d + 1)).go 60 [btV e a t s l r i c] (h.new (box8 e a t s l r i c)) = some (.int .i64 (datF a t l), G) ∧ G = (h.new (box8 e a t s l r i c)).new (box8 e a t s l r i c) ∧ Keep h.next h G ∧ G.get h.next = .row false 0 (.vals (btL e a t s l r i c)) :=
    ⟨_, data60 L d e a t s l r i c _ h1 h2 h3 h4 h5 h6, rfl, ((Keep.refl _ _).new (Nat.le_refl _) _).new (Nat.le_refl _) _, by rw [AHeap.get_new, if_neg (by simp)]; exact g⟩
  have c0' := ld_cell gG (i := 0) rfl
  have c3' := ld_cell gG (i := 3) rfl
  have n0 : ¬ e = 0 := by omega
  have m1 : (if 1 < e then e else 1) = e := by split <;> omega
  simp (disch := omega) [box8_new, c0, c3, cg, c0', c3', ed, wrapF_i64, mmL, mm2, q2, recheck, beqV, skip0, n0, m1]
  refine ⟨?_, kG⟩
  unfold cluF; rw [q2]; split <;> omega
theorem clus66 (L d : Nat) (e a t s l r i c : Int) (h : AHeap) (h1 : 0 ≤ t) (h2 : t ≤ 2) (h3 : 0 ≤ l) (h4 : l ≤ 40000) (h5 : 0 ≤ a) (h6 : a ≤ 100) (h7 : 0 ≤ s) (h8 : s ≤ 40000) (h9 : 1 ≤ e) (h10 : e ≤ 8) :
    ∃ r' h', (En L (d + 2)).go 66 [btV e a t s l r i c] h = some (r', h') ∧ r' = .int .i64 (cluF e a t s l) ∧ Keep h.next h h' := by
  refine go_ex (R := fun r' h' => r' = .int .i64 (cluF e a t s l) ∧ Keep h.next h h') (show tabF 66 = some (.code a66) by rfl) rfl ?_
  unfold a66
  have g := box8_get e a t s l r i c h
  have c0 := ld_cell g (i := 0) rfl
  have c3 := ld_cell g (i := 3) rfl
  have cg := ld_agg g (n := 8) rfl
  have b1 : 0 ≤ t * l := Int.mul_nonneg h1 h3
  have b2 : t * l ≤ 80000 := by
    have : t * l ≤ 2 * l := Int.mul_le_mul_of_nonneg_right h2 h3
    omega
  have hd : 0 ≤ datF a t l ∧ datF a t l ≤ 80100 := by unfold datF; omega
  have q1 : -80100 ≤ (s - datF a t l).tdiv e ∧ (s - datF a t l).tdiv e ≤ 80100 := by
    have := Int.natAbs_tdiv_le_natAbs (s - datF a t l) e
    omega
  have q2 : max 1 e = e := by omega
  obtain ⟨G, ed, hG, kG, gG⟩ : ∃ G, (En L (d + 1)).go 65 [btV e a t s l r i c] (h.new (box8 e a t s l r i c)) = some (.int .i64 (datF a t l), G) ∧ G = (h.new (box8 e a t s l r i c)).new (box8 e a t s l r i c) ∧ Keep h.next h G ∧ G.get h.next = .row false 0 (.vals (btL e a t s l r i c)) :=
    ⟨_, data65 L d e a t s l r i c _ h1 h2 h3 h4 h5 h6, rfl, ((Keep.refl _ _).new (Nat.le_refl _) _).new (Nat.le_refl _) _, by rw [AHeap.get_new, if_neg (by simp)]; exact g⟩
  have c0' := ld_cell gG (i := 0) rfl
  have c3' := ld_cell gG (i := 3) rfl
  have n1 : ¬ e < 1 := by omega
  have n0 : ¬ e = 0 := by omega
  by_cases hq : (s - datF a t l).tdiv e < 0
  · simp (disch := omega) [box8_new, c0, c3, cg, c0', c3', ed, wrapF_i64, recheck, beqV, skip0, n1, n0, hq]
    refine ⟨?_, kG⟩
    unfold cluF; rw [q2]; omega
  · simp (disch := omega) [box8_new, c0, c3, cg, c0', c3', ed, wrapF_i64, recheck, beqV, skip0, n1, n0, hq]
    refine ⟨?_, kG⟩
    unfold cluF; rw [q2]; omega
end Go.Proofs.Ytgapfoaklgganaa.L16
