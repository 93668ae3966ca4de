import Derived.Test.YtgapfoaklgganaaG16
set_option linter.unusedVariables false
set_option linter.unusedSimpArgs false
set_option linter.unnecessarySimpa false
/-! FatCounts over the executor. -/
namespace Go.Proofs.Ytgapfoaklgganaa.L16
open Go Go.AM Go.Proofs.Ytgapfoaklgganaa.AMC
set_option maxRecDepth 10000
theorem csec (L d : Nat) (f n : Int) (h : AHeap) (hf : okC f n) :
    ∃ r h', (En (L + 10) (d + 4)).go 31 [.int .i64 f, .int .i64 n] h = some (r, h') ∧ OwnB h.next h' r (cntL f n) ∧ Keep h.next h h' := by
  refine go_ex (R := fun r h' => OwnB h.next h' r (cntL f n) ∧ Keep h.next h h') (show tabF 31 = some (.code a31) by rfl) rfl ?_
  unfold a31
  unfold okC at hf
  obtain ⟨v0, h0, e0, o0, k0⟩ := zeros_spec (L + 10) (d + 2) 512 h (by omega)
  have e0 : (En (L + 10) (d + 3)).go 34 [.int .i64 512] h = some (v0, h0) := e0
  have o0 : OwnB h.next h0 v0 z512 := o0
  obtain ⟨b1, g1, c1, p1, q1⟩ := bytes4 L (d + 2) 1096897106 h0 (by omega) (by omega)
  obtain ⟨v1, h1, e1, o1, k1⟩ := with_spec (L + 10) (d + 2) v0 b1 _ _ 0 g1 (o0.keep q1 (Nat.le_refl _)).sl p1.sl (by simp) (by simp [by4])
  have e1 : (En (L + 10) (d + 3)).go 36 [v0, .int .i64 0, b1] g1 = some (v1, h1) := e1
  have l1 : (wth z512 0 (by4 1096897106)).length = 512 := by rw [wth4_len _ (by simp)]; simp
  obtain ⟨b2, g2, c2, p2, q2⟩ := bytes4 L (d + 2) 1631679090 h1 (by omega) (by omega)
  obtain ⟨v2, h2, e2, o2, k2⟩ := with_spec (L + 10) (d + 2) v1 b2 _ _ 484 g2 (o1.keep q2 (Nat.le_refl _)).sl p2.sl (by omega) (by rw [by4_len]; omega)
  have e2 : (En (L + 10) (d + 3)).go 36 [v1, .int .i64 484, b2] g2 = some (v2, h2) := e2
  have l2 : (wth (wth z512 0 (by4 1096897106)) 484 (by4 1631679090)).length = 512 := by rw [wth4_len _ (by omega)]; exact l1
  obtain ⟨b3, g3, c3, p3, q3⟩ := bytes4 L (d + 2) f h2 (by omega) (by omega)
  obtain ⟨v3, h3, e3, o3, k3⟩ := with_spec (L + 10) (d + 2) v2 b3 _ _ 488 g3 (o2.keep q3 (Nat.le_refl _)).sl p3.sl (by omega) (by rw [by4_len]; omega)
  have e3 : (En (L + 10) (d + 3)).go 36 [v2, .int .i64 488, b3] g3 = some (v3, h3) := e3
  have l3 : (wth (wth (wth z512 0 (by4 1096897106)) 484 (by4 1631679090)) 488 (by4 f)).length = 512 := by rw [wth4_len _ (by omega)]; exact l2
  obtain ⟨b4, g4, c4, p4, q4⟩ := bytes4 L (d + 2) n h3 (by omega) (by omega)
  obtain ⟨v4, h4, e4, o4, k4⟩ := with_spec (L + 10) (d + 2) v3 b4 _ _ 492 g4 (o3.keep q4 (Nat.le_refl _)).sl p4.sl (by omega) (by rw [by4_len]; omega)
  have e4 : (En (L + 10) (d + 3)).go 36 [v3, .int .i64 492, b4] g4 = some (v4, h4) := e4
  have l4 : (wth (wth (wth (wth z512 0 (by4 1096897106)) 484 (by4 1631679090)) 488 (by4 f)) 492 (by4 n)).length = 512 := by rw [wth4_len _ (by omega)]; exact l3
  obtain ⟨b5, g5, c5, p5, q5⟩ := bytes4 L (d + 2) 2857697280 h4 (by omega) (by omega)
  obtain ⟨v5, h5, e5, o5, k5⟩ := with_spec (L + 10) (d + 2) v4 b5 _ _ 508 g5 (o4.keep q5 (Nat.le_refl _)).sl p5.sl (by omega) (by rw [by4_len]; omega)
  have e5 : (En (L + 10) (d + 3)).go 36 [v4, .int .i64 508, b5] g5 = some (v5, h5) := e5
  have kk := k0.trans ((q1.trans (k1.less q1.next)).less k0.next)
  have kk2 := kk.trans ((q2.trans (k2.less q2.next)).less kk.next)
  have kk3 := kk2.trans ((q3.trans (k3.less q3.next)).less kk2.next)
  have kk4 := kk3.trans ((q4.trans (k4.less q4.next)).less kk3.next)
  have kk5 := kk4.trans ((q5.trans (k5.less q5.next)).less kk4.next)
  simp (disch := omega) [e0, c1, e1, c2, e2, wrapF_u64, c3, e3, c4, e4, c5, e5]
  exact ⟨OwnS.less o5 (Nat.le_trans kk4.next q5.next), kk5⟩
theorem law_counts (L d : Nat) (f n : Int) (h : AHeap) : ∃ r h', (En (L + 10) (d + 5)).go 5 [.int .i64 f, .int .i64 n] h = some (r, h') ∧ r = .bool true := by
  refine go_ex (R := fun r _ => r = .bool true) (show tabF 5 = some (.code a5) by rfl) rfl ?_
  unfold a5
  have bd : aBuild (.str [.int .i64 0, .int .i64 0] [(0, 1), (1, 1)]) [(0, .int .i64 f), (1, .int .i64 n)] = some (cntV f n) := rfl
  have g21 := fun h => go21 (L + 10) (d + 3) h
  by_cases hf : okC f n
  · obtain ⟨r1, h1, e1, ⟨v1, rfl, o1⟩, k1⟩ := putc_ok L d f n h hf
    obtain ⟨m0, m1, m2, m3, m4⟩ := cnt_le f n ⟨hf.1, hf.2.1⟩ ⟨hf.2.2.1, hf.2.2.2⟩
    obtain ⟨r2, h2, e2, rfl, k2⟩ := parsec L d v1 (cntL f n) f n h1 o1.sl (cntL_byt f n) (cntL_len f n) m0 m1 m2 m3 m4
    obtain ⟨H, s1, s2, s3, s4⟩ := store_new h2 [.int .i64 0, .int .i64 0] #[.int .i64 f, .int .i64 n] 2 rfl rfl rfl
    have hal : aNew true [.int .i64 0, .int .i64 0] h2 = some (.pointer (some ⟨h2.next, 0, none⟩), h2.new (box2 0 0)) := by simp [aNew, one, box2]
    have s1 : aStore 2 (.pointer (some ⟨h2.next, 0, none⟩)) (cntV f n) (h2.new (box2 0 0)) = some H := s1
    obtain ⟨r3, h3, e3, o3, k3⟩ := csec L d f n H hf
    have o1' := ((o1.keep k2 (Nat.le_refl _)).keep s3 (Nat.le_refl _)).keep k3 (Nat.le_refl _)
    have es := same_spec (L + 10) (d + 3) v1 r3 _ _ h3 o1'.sl o3.sl (cntL_byt f n) (cntL_byt f n)
    have lg : aLoad (some 2) (.pointer (some ⟨h2.next, 0, none⟩)) h3 = some (cntV f n) := ld_agg ((k3.get h2.next (by omega)).trans s2) (n := 2) rfl
    have eq : aEqL (cntV f n) (cntV f n) [(0, .int), (1, .int)] = some true := by simp [aEqL, cellEq, cellAt]
    unfold okC at hf
    have j1 : ¬ f < 0 := by omega
    have j2 : ¬ 4294967295 < f := by omega
    have j3 : ¬ n < 0 := by omega
    have j4 : ¬ 4294967295 < n := by omega
    simp (disch := omega) [bd, e1, j1, j2, j3, j4, e2, hal, s1, g21, e3, es, lg, eq, show isAggV (cntV f n) = true from rfl]
  · have e1 := putc_bad (L + 10) (d + 3) f n h hf
    unfold okC at hf
    by_cases j1 : f < 0
    · simp (disch := omega) [bd, e1, j1, g21]
    · by_cases j2 : 4294967295 < f
      · simp (disch := omega) [bd, e1, j1, j2, g21]
      · by_cases j3 : n < 0
        · simp (disch := omega) [bd, e1, j1, j2, j3, g21]
        · have j4 : 4294967295 < n := by omega
          simp (disch := omega) [bd, e1, j1, j2, j3, j4, g21]
end Go.Proofs.Ytgapfoaklgganaa.L16
