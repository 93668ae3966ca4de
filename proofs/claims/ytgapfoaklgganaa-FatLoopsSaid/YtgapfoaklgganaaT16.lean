import Derived.Test.YtgapfoaklgganaaS16
set_option linter.unusedVariables false
set_option linter.unusedSimpArgs false
set_option linter.unnecessarySimpa false
/-! The check of a boot: the program's and the document's say the same. -/
namespace Go.Proofs.Ytgapfoaklgganaa.L16
open Go Go.AM Go.Proofs.Ytgapfoaklgganaa.AMC
set_option maxRecDepth 10000
def chk (e a t s l r i c : Int) : Int :=
  if ¬ (e = 1 ∨ e = 2 ∨ e = 4 ∨ e = 8) ∨ t < 1 ∨ 2 < t ∨ s < 1 ∨ 32768 < s ∨ l < 1 ∨ s < l ∨ a < 2 ∨ 64 < a ∨ i < 1 ∨ a ≤ i ∨ c < 0 ∨ a ≤ c ∨ c = i then 11
  else if s ≤ datF a t l ∨ cluF e a t s l < 1 then 4
  else if l * 128 - 2 < cluF e a t s l then 20
  else if r < 2 ∨ cluF e a t s l + 1 < r then 4 else 0
set_option maxHeartbeats 8000000 in
theorem chk61 (L d : Nat) (e a t s l r i c : Int) (h : AHeap) :
    ∃ r' h', (En L (d + 3)).go 61 [btV e a t s l r i c] h = some (r', h') ∧ r' = .int .i64 (chk e a t s l r i c) ∧ Keep h.next h h' := by
  refine go_ex (R := fun r' h' => r' = .int .i64 (chk e a t s l r i c) ∧ Keep h.next h h') (show tabF 61 = some (.code a61) by rfl) rfl ?_
  unfold a61
  have g := box8_get e a t s l r i c h
  have c0 := ld_cell g (i := 0) rfl
  have c1 := ld_cell g (i := 1) rfl
  have c2 := ld_cell g (i := 2) rfl
  have c3 := ld_cell g (i := 3) rfl
  have c4 := ld_cell g (i := 4) rfl
  have c5 := ld_cell g (i := 5) rfl
  have c6 := ld_cell g (i := 6) rfl
  have c7 := ld_cell g (i := 7) rfl
  have cg := ld_agg g (n := 8) rfl
  have kb : Keep h.next h (h.new (box8 e a t s l r i c)) := (Keep.refl _ _).new (Nat.le_refl _) _
  by_cases he : ¬ (e = 1 ∨ e = 2 ∨ e = 4 ∨ e = 8)
  · have hc : chk e a t s l r i c = 11 := by unfold chk; rw [if_pos (.inl he)]
    rw [hc]
    by_cases e1 : e < 1
    · simp (disch := omega) [box8_new, c0, c1, c2, c3, c4, c5, c6, c7, wrapF_i64, e1]
      exact kb
    · by_cases e2 : 8 < e
      · simp (disch := omega) [box8_new, c0, c1, c2, c3, c4, c5, c6, c7, wrapF_i64, e1, e2]
        exact kb
      · have h4 : e = 3 ∨ e = 5 ∨ e = 6 ∨ e = 7 := by omega
        rcases h4 with rfl | rfl | rfl | rfl <;> simp (disch := omega) [box8_new, c0, c1, c2, c3, c4, c5, c6, c7, wrapF_i64, show bitsF .and .i64 3 2 = some 2 from rfl, show bitsF .and .i64 5 4 = some 4 from rfl, show bitsF .and .i64 6 5 = some 4 from rfl, show bitsF .and .i64 7 6 = some 6 from rfl] <;> exact kb
  have he := Classical.not_not.1 he
  have e1 : ¬ e < 1 := by omega
  have e2 : ¬ 8 < e := by omega
  have hand : bitsF .and .i64 e (e - 1) = some 0 := by rcases he with rfl | rfl | rfl | rfl <;> rfl
  by_cases t1 : t < 1
  · have hc : chk e a t s l r i c = 11 := by unfold chk; rw [if_pos (by omega)]
    rw [hc]
    simp (disch := omega) [box8_new, c0, c1, c2, c3, c4, c5, c6, c7, wrapF_i64, e1, e2, hand, t1] <;> exact kb
  by_cases t2 : 2 < t
  · have hc : chk e a t s l r i c = 11 := by unfold chk; rw [if_pos (by omega)]
    rw [hc]
    simp (disch := omega) [box8_new, c0, c1, c2, c3, c4, c5, c6, c7, wrapF_i64, e1, e2, hand, t1, t2] <;> exact kb
  by_cases s1 : s < 1
  · have hc : chk e a t s l r i c = 11 := by unfold chk; rw [if_pos (by omega)]
    rw [hc]
    simp (disch := omega) [box8_new, c0, c1, c2, c3, c4, c5, c6, c7, wrapF_i64, e1, e2, hand, t1, t2, s1] <;> exact kb
  by_cases s2 : 32768 < s
  · have hc : chk e a t s l r i c = 11 := by unfold chk; rw [if_pos (by omega)]
    rw [hc]
    simp (disch := omega) [box8_new, c0, c1, c2, c3, c4, c5, c6, c7, wrapF_i64, e1, e2, hand, t1, t2, s1, s2] <;> exact kb
  by_cases l1 : l < 1
  · have hc : chk e a t s l r i c = 11 := by unfold chk; rw [if_pos (by omega)]
    rw [hc]
    simp (disch := omega) [box8_new, c0, c1, c2, c3, c4, c5, c6, c7, wrapF_i64, e1, e2, hand, t1, t2, s1, s2, l1] <;> exact kb
  by_cases l2 : s < l
  · have hc : chk e a t s l r i c = 11 := by unfold chk; rw [if_pos (by omega)]
    rw [hc]
    simp (disch := omega) [box8_new, c0, c1, c2, c3, c4, c5, c6, c7, wrapF_i64, e1, e2, hand, t1, t2, s1, s2, l1, l2] <;> exact kb
  by_cases a1 : a < 2
  · have hc : chk e a t s l r i c = 11 := by unfold chk; rw [if_pos (by omega)]
    rw [hc]
    simp (disch := omega) [box8_new, c0, c1, c2, c3, c4, c5, c6, c7, wrapF_i64, e1, e2, hand, t1, t2, s1, s2, l1, l2, a1] <;> exact kb
  by_cases a2 : 64 < a
  · have hc : chk e a t s l r i c = 11 := by unfold chk; rw [if_pos (by omega)]
    rw [hc]
    simp (disch := omega) [box8_new, c0, c1, c2, c3, c4, c5, c6, c7, wrapF_i64, e1, e2, hand, t1, t2, s1, s2, l1, l2, a1, a2] <;> exact kb
  by_cases i1 : i < 1
  · have hc : chk e a t s l r i c = 11 := by unfold chk; rw [if_pos (by omega)]
    rw [hc]
    simp (disch := omega) [box8_new, c0, c1, c2, c3, c4, c5, c6, c7, wrapF_i64, e1, e2, hand, t1, t2, s1, s2, l1, l2, a1, a2, i1] <;> exact kb
  by_cases i2 : a ≤ i
  · have hc : chk e a t s l r i c = 11 := by unfold chk; rw [if_pos (by omega)]
    rw [hc]
    simp (disch := omega) [box8_new, c0, c1, c2, c3, c4, c5, c6, c7, wrapF_i64, e1, e2, hand, t1, t2, s1, s2, l1, l2, a1, a2, i1, i2] <;> exact kb
  by_cases x1 : c < 0
  · have hc : chk e a t s l r i c = 11 := by unfold chk; rw [if_pos (by omega)]
    rw [hc]
    simp (disch := omega) [box8_new, c0, c1, c2, c3, c4, c5, c6, c7, wrapF_i64, e1, e2, hand, t1, t2, s1, s2, l1, l2, a1, a2, i1, i2, x1] <;> exact kb
  by_cases x2 : a ≤ c
  · have hc : chk e a t s l r i c = 11 := by unfold chk; rw [if_pos (by omega)]
    rw [hc]
    simp (disch := omega) [box8_new, c0, c1, c2, c3, c4, c5, c6, c7, wrapF_i64, e1, e2, hand, t1, t2, s1, s2, l1, l2, a1, a2, i1, i2, x1, x2] <;> exact kb
  by_cases x3 : c = i
  · have hc : chk e a t s l r i c = 11 := by unfold chk; rw [if_pos (by omega)]
    rw [hc]
    subst x3
    simp (disch := omega) [box8_new, c0, c1, c2, c3, c4, c5, c6, c7, wrapF_i64, e1, e2, hand, t1, t2, s1, s2, l1, l2, a1, a2, i1, i2, x1, x2] <;> exact kb
  have hk : chk e a t s l r i c = if s ≤ datF a t l ∨ cluF e a t s l < 1 then 4 else if l * 128 - 2 < cluF e a t s l then 20 else if r < 2 ∨ cluF e a t s l + 1 < r then 4 else 0 := by unfold chk; rw [if_neg (by omega)]
  rw [hk]
  have hb : 0 ≤ cluF e a t s l ∧ cluF e a t s l ≤ 200000 := by
    have b1 : 0 ≤ t * l := Int.mul_nonneg (by omega) (by omega)
    have b2 : t * l ≤ 80000 := by
      have : t * l ≤ 2 * l := Int.mul_le_mul_of_nonneg_right (by omega) (by omega)
      omega
    have := Int.natAbs_tdiv_le_natAbs (s - datF a t l) (max 1 e)
    have hd : datF a t l = a + t * l := rfl
    unfold cluF
    omega
  obtain ⟨G1, ed, hG, k1⟩ : ∃ G1, (En L (d + 2)).go 60 [btV e a t s l r i c] (h.new (box8 e a t s l r i c)) = some (.int .i64 (datF a t l), G1) ∧ G1 = (h.new (box8 e a t s l r i c)).new (box8 e a t s l r i c) ∧ Keep (h.new (box8 e a t s l r i c)).next (h.new (box8 e a t s l r i c)) G1 :=
    ⟨_, data60 L (d + 1) e a t s l r i c _ (by omega) (by omega) (by omega) (by omega) (by omega) (by omega), rfl, (Keep.refl _ _).new (Nat.le_refl _) _⟩
  obtain ⟨_, G2, ec2, rfl, k2⟩ := clus44 L d e a t s l r i c G1 (by omega) (by omega) (by omega) (by omega) (by omega) (by omega) (by omega) (by omega) (by omega) (by omega)
  obtain ⟨_, G3, ec3, rfl, k3⟩ := clus44 L d e a t s l r i c G2 (by omega) (by omega) (by omega) (by omega) (by omega) (by omega) (by omega) (by omega) (by omega) (by omega)
  obtain ⟨_, G4, ec4, rfl, k4⟩ := clus44 L d e a t s l r i c G3 (by omega) (by omega) (by omega) (by omega) (by omega) (by omega) (by omega) (by omega) (by omega) (by omega)
  have x1' := k1.next
  have x2' := k2.next
  have x3' := k3.next
  have x4' := k4.next
  simp only [AHeap.next_new] at x1'
  have g1 := (k1.get h.next (by simp)).trans g
  have g2 := (k2.get h.next (by omega)).trans g1
  have g3 := (k3.get h.next (by omega)).trans g2
  have g4 := (k4.get h.next (by omega)).trans g3
  have c31 := ld_cell g1 (i := 3) rfl
  have cg1 := ld_agg g1 (n := 8) rfl
  have c42 := ld_cell g2 (i := 4) rfl
  have cg2 := ld_agg g2 (n := 8) rfl
  have c43 := ld_cell g3 (i := 4) rfl
  have c53 := ld_cell g3 (i := 5) rfl
  have cg3 := ld_agg g3 (n := 8) rfl
  have c54 := ld_cell g4 (i := 5) rfl
  have kk1 : Keep h.next h G1 := kb.trans (k1.less (by simp))
  have kk2 : Keep h.next h G2 := kk1.trans (k2.less (by omega))
  have kk3 : Keep h.next h G3 := kk2.trans (k3.less (by omega))
  have kk4 : Keep h.next h G4 := kk3.trans (k4.less (by omega))
  clear hG
  by_cases p1 : s ≤ datF a t l
  · rw [if_pos (by omega)]
    simp (disch := omega) [box8_new, c0, c1, c2, c3, c4, c5, c6, c7, wrapF_i64, e1, e2, hand, t1, t2, s1, s2, l1, l2, a1, a2, i1, i2, x1, x2, x3, ed, ec2, ec3, ec4, cg, cg1, cg2, cg3, c31, c42, c43, c53, c54, recheck, beqV, skip0, p1] <;> exact kk1
  by_cases p2 : cluF e a t s l < 1
  · rw [if_pos (by omega)]
    simp (disch := omega) [box8_new, c0, c1, c2, c3, c4, c5, c6, c7, wrapF_i64, e1, e2, hand, t1, t2, s1, s2, l1, l2, a1, a2, i1, i2, x1, x2, x3, p1, ed, ec2, ec3, ec4, cg, cg1, cg2, cg3, c31, c42, c43, c53, c54, recheck, beqV, skip0, p2] <;> exact kk2
  by_cases p3 : l * 128 - 2 < cluF e a t s l
  · rw [if_neg (by omega), if_pos p3]
    simp (disch := omega) [box8_new, c0, c1, c2, c3, c4, c5, c6, c7, wrapF_i64, e1, e2, hand, t1, t2, s1, s2, l1, l2, a1, a2, i1, i2, x1, x2, x3, p1, p2, ed, ec2, ec3, ec4, cg, cg1, cg2, cg3, c31, c42, c43, c53, c54, recheck, beqV, skip0, p3] <;> exact kk3
  by_cases p4 : r < 2
  · rw [if_neg (by omega), if_neg p3, if_pos (by omega)]
    simp (disch := omega) [box8_new, c0, c1, c2, c3, c4, c5, c6, c7, wrapF_i64, e1, e2, hand, t1, t2, s1, s2, l1, l2, a1, a2, i1, i2, x1, x2, x3, p1, p2, p3, ed, ec2, ec3, ec4, cg, cg1, cg2, cg3, c31, c42, c43, c53, c54, recheck, beqV, skip0, p4] <;> exact kk3
  by_cases p5 : cluF e a t s l + 1 < r
  · rw [if_neg (by omega), if_neg p3, if_pos (by omega)]
    simp (disch := omega) [box8_new, c0, c1, c2, c3, c4, c5, c6, c7, wrapF_i64, e1, e2, hand, t1, t2, s1, s2, l1, l2, a1, a2, i1, i2, x1, x2, x3, p1, p2, p3, p4, ed, ec2, ec3, ec4, cg, cg1, cg2, cg3, c31, c42, c43, c53, c54, recheck, beqV, skip0, p5] <;> exact kk4
  rw [if_neg (by omega), if_neg p3, if_neg (by omega)]
  simp (disch := omega) [box8_new, c0, c1, c2, c3, c4, c5, c6, c7, wrapF_i64, e1, e2, hand, t1, t2, s1, s2, l1, l2, a1, a2, i1, i2, x1, x2, x3, p1, p2, p3, p4, p5, ed, ec2, ec3, ec4, cg, cg1, cg2, cg3, c31, c42, c43, c53, c54, recheck, beqV, skip0] <;> exact kk4
set_option maxHeartbeats 8000000 in
theorem chk26 (L d : Nat) (e a t s l r i c : Int) (h : AHeap) :
    ∃ r' h', (En L (d + 3)).go 26 [btV e a t s l r i c] h = some (r', h') ∧ r' = .int .i64 (chk e a t s l r i c) ∧ Keep h.next h h' := by
  refine go_ex (R := fun r' h' => r' = .int .i64 (chk e a t s l r i c) ∧ Keep h.next h h') (show tabF 26 = some (.code a26) by rfl) rfl ?_
  unfold a26
  have g := box8_get e a t s l r i c h
  have c0 := ld_cell g (i := 0) rfl
  have c1 := ld_cell g (i := 1) rfl
  have c2 := ld_cell g (i := 2) rfl
  have c3 := ld_cell g (i := 3) rfl
  have c4 := ld_cell g (i := 4) rfl
  have c5 := ld_cell g (i := 5) rfl
  have c6 := ld_cell g (i := 6) rfl
  have c7 := ld_cell g (i := 7) rfl
  have cg := ld_agg g (n := 8) rfl
  have kb : Keep h.next h (h.new (box8 e a t s l r i c)) := (Keep.refl _ _).new (Nat.le_refl _) _
  by_cases he : ¬ (e = 1 ∨ e = 2 ∨ e = 4 ∨ e = 8)
  · have hc : chk e a t s l r i c = 11 := by unfold chk; rw [if_pos (.inl he)]
    rw [hc]
    have n1 : ¬ e = 1 := by omega
    have n2 : ¬ e = 2 := by omega
    have n4 : ¬ e = 4 := by omega
    have n8 : ¬ e = 8 := by omega
    simp (disch := omega) [box8_new, c0, c1, c2, c3, c4, c5, c6, c7, wrapF_i64, n1, n2, n4, n8]
    exact kb
  have he := Classical.not_not.1 he
  have hq : ∃ q1 q2 q4 q8 : Bool, decide (e = 1) = q1 ∧ decide (e = 2) = q2 ∧ decide (e = 4) = q4 ∧ decide (e = 8) = q8 ∧ ((q1 = true) ∨ (q1 = false ∧ q2 = true) ∨ (q1 = false ∧ q2 = false ∧ q4 = true) ∨ (q1 = false ∧ q2 = false ∧ q4 = false ∧ q8 = true)) := by
    rcases he with rfl | rfl | rfl | rfl
    · exact ⟨_, _, _, _, rfl, rfl, rfl, rfl, .inl rfl⟩
    · exact ⟨_, _, _, _, rfl, rfl, rfl, rfl, .inr (.inl ⟨rfl, rfl⟩)⟩
    · exact ⟨_, _, _, _, rfl, rfl, rfl, rfl, .inr (.inr (.inl ⟨rfl, rfl, rfl⟩))⟩
    · exact ⟨_, _, _, _, rfl, rfl, rfl, rfl, .inr (.inr (.inr ⟨rfl, rfl, rfl, rfl⟩))⟩
  obtain ⟨q1, q2, q4, q8, d1, d2, d4, d8, hq⟩ := hq
  by_cases t1 : t < 1
  · have hc : chk e a t s l r i c = 11 := by unfold chk; rw [if_pos (by omega)]
    rw [hc]
    rcases hq with rfl | ⟨rfl, rfl⟩ | ⟨rfl, rfl, rfl⟩ | ⟨rfl, rfl, rfl, rfl⟩ <;> simp (disch := omega) [box8_new, c0, c1, c2, c3, c4, c5, c6, c7, wrapF_i64, d1, d2, d4, d8, t1] <;> exact kb
  by_cases t2 : 2 < t
  · have hc : chk e a t s l r i c = 11 := by unfold chk; rw [if_pos (by omega)]
    rw [hc]
    rcases hq with rfl | ⟨rfl, rfl⟩ | ⟨rfl, rfl, rfl⟩ | ⟨rfl, rfl, rfl, rfl⟩ <;> simp (disch := omega) [box8_new, c0, c1, c2, c3, c4, c5, c6, c7, wrapF_i64, d1, d2, d4, d8, t1, t2] <;> exact kb
  by_cases s1 : s < 1
  · have hc : chk e a t s l r i c = 11 := by unfold chk; rw [if_pos (by omega)]
    rw [hc]
    rcases hq with rfl | ⟨rfl, rfl⟩ | ⟨rfl, rfl, rfl⟩ | ⟨rfl, rfl, rfl, rfl⟩ <;> simp (disch := omega) [box8_new, c0, c1, c2, c3, c4, c5, c6, c7, wrapF_i64, d1, d2, d4, d8, t1, t2, s1] <;> exact kb
  by_cases s2 : 32768 < s
  · have hc : chk e a t s l r i c = 11 := by unfold chk; rw [if_pos (by omega)]
    rw [hc]
    rcases hq with rfl | ⟨rfl, rfl⟩ | ⟨rfl, rfl, rfl⟩ | ⟨rfl, rfl, rfl, rfl⟩ <;> simp (disch := omega) [box8_new, c0, c1, c2, c3, c4, c5, c6, c7, wrapF_i64, d1, d2, d4, d8, t1, t2, s1, s2] <;> exact kb
  by_cases l1 : l < 1
  · have hc : chk e a t s l r i c = 11 := by unfold chk; rw [if_pos (by omega)]
    rw [hc]
    rcases hq with rfl | ⟨rfl, rfl⟩ | ⟨rfl, rfl, rfl⟩ | ⟨rfl, rfl, rfl, rfl⟩ <;> simp (disch := omega) [box8_new, c0, c1, c2, c3, c4, c5, c6, c7, wrapF_i64, d1, d2, d4, d8, t1, t2, s1, s2, l1] <;> exact kb
  by_cases l2 : s < l
  · have hc : chk e a t s l r i c = 11 := by unfold chk; rw [if_pos (by omega)]
    rw [hc]
    rcases hq with rfl | ⟨rfl, rfl⟩ | ⟨rfl, rfl, rfl⟩ | ⟨rfl, rfl, rfl, rfl⟩ <;> simp (disch := omega) [box8_new, c0, c1, c2, c3, c4, c5, c6, c7, wrapF_i64, d1, d2, d4, d8, t1, t2, s1, s2, l1, l2] <;> exact kb
  by_cases a1 : a < 2
  · have hc : chk e a t s l r i c = 11 := by unfold chk; rw [if_pos (by omega)]
    rw [hc]
    rcases hq with rfl | ⟨rfl, rfl⟩ | ⟨rfl, rfl, rfl⟩ | ⟨rfl, rfl, rfl, rfl⟩ <;> simp (disch := omega) [box8_new, c0, c1, c2, c3, c4, c5, c6, c7, wrapF_i64, d1, d2, d4, d8, t1, t2, s1, s2, l1, l2, a1] <;> exact kb
  by_cases a2 : 64 < a
  · have hc : chk e a t s l r i c = 11 := by unfold chk; rw [if_pos (by omega)]
    rw [hc]
    rcases hq with rfl | ⟨rfl, rfl⟩ | ⟨rfl, rfl, rfl⟩ | ⟨rfl, rfl, rfl, rfl⟩ <;> simp (disch := omega) [box8_new, c0, c1, c2, c3, c4, c5, c6, c7, wrapF_i64, d1, d2, d4, d8, t1, t2, s1, s2, l1, l2, a1, a2] <;> exact kb
  by_cases i1 : i < 1
  · have hc : chk e a t s l r i c = 11 := by unfold chk; rw [if_pos (by omega)]
    rw [hc]
    rcases hq with rfl | ⟨rfl, rfl⟩ | ⟨rfl, rfl, rfl⟩ | ⟨rfl, rfl, rfl, rfl⟩ <;> simp (disch := omega) [box8_new, c0, c1, c2, c3, c4, c5, c6, c7, wrapF_i64, d1, d2, d4, d8, t1, t2, s1, s2, l1, l2, a1, a2, i1] <;> exact kb
  by_cases i2 : a ≤ i
  · have hc : chk e a t s l r i c = 11 := by unfold chk; rw [if_pos (by omega)]
    rw [hc]
    rcases hq with rfl | ⟨rfl, rfl⟩ | ⟨rfl, rfl, rfl⟩ | ⟨rfl, rfl, rfl, rfl⟩ <;> simp (disch := omega) [box8_new, c0, c1, c2, c3, c4, c5, c6, c7, wrapF_i64, d1, d2, d4, d8, t1, t2, s1, s2, l1, l2, a1, a2, i1, i2] <;> exact kb
  by_cases x1 : c < 0
  · have hc : chk e a t s l r i c = 11 := by unfold chk; rw [if_pos (by omega)]
    rw [hc]
    rcases hq with rfl | ⟨rfl, rfl⟩ | ⟨rfl, rfl, rfl⟩ | ⟨rfl, rfl, rfl, rfl⟩ <;> simp (disch := omega) [box8_new, c0, c1, c2, c3, c4, c5, c6, c7, wrapF_i64, d1, d2, d4, d8, t1, t2, s1, s2, l1, l2, a1, a2, i1, i2, x1] <;> exact kb
  by_cases x2 : a ≤ c
  · have hc : chk e a t s l r i c = 11 := by unfold chk; rw [if_pos (by omega)]
    rw [hc]
    rcases hq with rfl | ⟨rfl, rfl⟩ | ⟨rfl, rfl, rfl⟩ | ⟨rfl, rfl, rfl, rfl⟩ <;> simp (disch := omega) [box8_new, c0, c1, c2, c3, c4, c5, c6, c7, wrapF_i64, d1, d2, d4, d8, t1, t2, s1, s2, l1, l2, a1, a2, i1, i2, x1, x2] <;> exact kb
  by_cases x3 : c = i
  · have hc : chk e a t s l r i c = 11 := by unfold chk; rw [if_pos (by omega)]
    rw [hc]
    subst x3
    rcases hq with rfl | ⟨rfl, rfl⟩ | ⟨rfl, rfl, rfl⟩ | ⟨rfl, rfl, rfl, rfl⟩ <;> simp (disch := omega) [box8_new, c0, c1, c2, c3, c4, c5, c6, c7, wrapF_i64, d1, d2, d4, d8, t1, t2, s1, s2, l1, l2, a1, a2, i1, i2, x1, x2] <;> exact kb
  have hk : chk e a t s l r i c = if s ≤ datF a t l ∨ cluF e a t s l < 1 then 4 else if l * 128 - 2 < cluF e a t s l then 20 else if r < 2 ∨ cluF e a t s l + 1 < r then 4 else 0 := by unfold chk; rw [if_neg (by omega)]
  rw [hk]
  have hb : 0 ≤ cluF e a t s l ∧ cluF e a t s l ≤ 200000 := by
    have b1 : 0 ≤ t * l := Int.mul_nonneg (by omega) (by omega)
    have b2 : t * l ≤ 80000 := by
      have : t * l ≤ 2 * l := Int.mul_le_mul_of_nonneg_right (by omega) (by omega)
      omega
    have := Int.natAbs_tdiv_le_natAbs (s - datF a t l) (max 1 e)
    have hd : datF a t l = a + t * l := rfl
    unfold cluF
    omega
  obtain ⟨G1, ed, hG, k1⟩ : ∃ G1, (En L (d + 2)).go 65 [btV e a t s l r i c] (h.new (box8 e a t s l r i c)) = some (.int .i64 (datF a t l), G1) ∧ G1 = (h.new (box8 e a t s l r i c)).new (box8 e a t s l r i c) ∧ Keep (h.new (box8 e a t s l r i c)).next (h.new (box8 e a t s l r i c)) G1 :=
    ⟨_, data65 L (d + 1) e a t s l r i c _ (by omega) (by omega) (by omega) (by omega) (by omega) (by omega), rfl, (Keep.refl _ _).new (Nat.le_refl _) _⟩
  obtain ⟨_, G2, ec2, rfl, k2⟩ := clus66 L d e a t s l r i c G1 (by omega) (by omega) (by omega) (by omega) (by omega) (by omega) (by omega) (by omega) (by omega) (by omega)
  obtain ⟨_, G3, ec3, rfl, k3⟩ := clus66 L d e a t s l r i c G2 (by omega) (by omega) (by omega) (by omega) (by omega) (by omega) (by omega) (by omega) (by omega) (by omega)
  obtain ⟨_, G4, ec4, rfl, k4⟩ := clus66 L d e a t s l r i c G3 (by omega) (by omega) (by omega) (by omega) (by omega) (by omega) (by omega) (by omega) (by omega) (by omega)
  have x1' := k1.next
  have x2' := k2.next
  have x3' := k3.next
  have x4' := k4.next
  simp only [AHeap.next_new] at x1'
  have g1 := (k1.get h.next (by simp)).trans g
  have g2 := (k2.get h.next (by omega)).trans g1
  have g3 := (k3.get h.next (by omega)).trans g2
  have g4 := (k4.get h.next (by omega)).trans g3
  have c31 := ld_cell g1 (i := 3) rfl
  have cg1 := ld_agg g1 (n := 8) rfl
  have c42 := ld_cell g2 (i := 4) rfl
  have cg2 := ld_agg g2 (n := 8) rfl
  have c43 := ld_cell g3 (i := 4) rfl
  have c53 := ld_cell g3 (i := 5) rfl
  have cg3 := ld_agg g3 (n := 8) rfl
  have c54 := ld_cell g4 (i := 5) rfl
  have kk1 : Keep h.next h G1 := kb.trans (k1.less (by simp))
  have kk2 : Keep h.next h G2 := kk1.trans (k2.less (by omega))
  have kk3 : Keep h.next h G3 := kk2.trans (k3.less (by omega))
  have kk4 : Keep h.next h G4 := kk3.trans (k4.less (by omega))
  clear hG
  by_cases p1 : s ≤ datF a t l
  · rw [if_pos (by omega)]
    rcases hq with rfl | ⟨rfl, rfl⟩ | ⟨rfl, rfl, rfl⟩ | ⟨rfl, rfl, rfl, rfl⟩ <;> simp (disch := omega) [box8_new, c0, c1, c2, c3, c4, c5, c6, c7, wrapF_i64, d1, d2, d4, d8, t1, t2, s1, s2, l1, l2, a1, a2, i1, i2, x1, x2, x3, ed, ec2, ec3, ec4, cg, cg1, cg2, cg3, c31, c42, c43, c53, c54, recheck, beqV, skip0, p1] <;> exact kk1
  by_cases p2 : cluF e a t s l < 1
  · rw [if_pos (by omega)]
    rcases hq with rfl | ⟨rfl, rfl⟩ | ⟨rfl, rfl, rfl⟩ | ⟨rfl, rfl, rfl, rfl⟩ <;> simp (disch := omega) [box8_new, c0, c1, c2, c3, c4, c5, c6, c7, wrapF_i64, d1, d2, d4, d8, t1, t2, s1, s2, l1, l2, a1, a2, i1, i2, x1, x2, x3, p1, ed, ec2, ec3, ec4, cg, cg1, cg2, cg3, c31, c42, c43, c53, c54, recheck, beqV, skip0, p2] <;> exact kk2
  by_cases p3 : l * 128 - 2 < cluF e a t s l
  · rw [if_neg (by omega), if_pos p3]
    have p3q : 128 * l - 2 < cluF e a t s l := by omega
    rcases hq with rfl | ⟨rfl, rfl⟩ | ⟨rfl, rfl, rfl⟩ | ⟨rfl, rfl, rfl, rfl⟩ <;> simp (disch := omega) [box8_new, c0, c1, c2, c3, c4, c5, c6, c7, wrapF_i64, d1, d2, d4, d8, t1, t2, s1, s2, l1, l2, a1, a2, i1, i2, x1, x2, x3, p1, p2, ed, ec2, ec3, ec4, cg, cg1, cg2, cg3, c31, c42, c43, c53, c54, recheck, beqV, skip0, p3q] <;> exact kk3
  have p3q : ¬ 128 * l - 2 < cluF e a t s l := by omega
  by_cases p4 : r < 2
  · rw [if_neg (by omega), if_neg p3, if_pos (by omega)]
    rcases hq with rfl | ⟨rfl, rfl⟩ | ⟨rfl, rfl, rfl⟩ | ⟨rfl, rfl, rfl, rfl⟩ <;> simp (disch := omega) [box8_new, c0, c1, c2, c3, c4, c5, c6, c7, wrapF_i64, d1, d2, d4, d8, t1, t2, s1, s2, l1, l2, a1, a2, i1, i2, x1, x2, x3, p1, p2, p3q, ed, ec2, ec3, ec4, cg, cg1, cg2, cg3, c31, c42, c43, c53, c54, recheck, beqV, skip0, p4] <;> exact kk3
  by_cases p5 : cluF e a t s l + 1 < r
  · rw [if_neg (by omega), if_neg p3, if_pos (by omega)]
    rcases hq with rfl | ⟨rfl, rfl⟩ | ⟨rfl, rfl, rfl⟩ | ⟨rfl, rfl, rfl, rfl⟩ <;> simp (disch := omega) [box8_new, c0, c1, c2, c3, c4, c5, c6, c7, wrapF_i64, d1, d2, d4, d8, t1, t2, s1, s2, l1, l2, a1, a2, i1, i2, x1, x2, x3, p1, p2, p3q, p4, ed, ec2, ec3, ec4, cg, cg1, cg2, cg3, c31, c42, c43, c53, c54, recheck, beqV, skip0, p5] <;> exact kk4
  rw [if_neg (by omega), if_neg p3, if_neg (by omega)]
  rcases hq with rfl | ⟨rfl, rfl⟩ | ⟨rfl, rfl, rfl⟩ | ⟨rfl, rfl, rfl, rfl⟩ <;> simp (disch := omega) [box8_new, c0, c1, c2, c3, c4, c5, c6, c7, wrapF_i64, d1, d2, d4, d8, t1, t2, s1, s2, l1, l2, a1, a2, i1, i2, x1, x2, x3, p1, p2, p3q, p4, p5, ed, ec2, ec3, ec4, cg, cg1, cg2, cg3, c31, c42, c43, c53, c54, recheck, beqV, skip0] <;> exact kk4
end Go.Proofs.Ytgapfoaklgganaa.L16
