import Derived.Test.YtphnlkdoeecbgaaR13
set_option linter.unusedVariables false
set_option linter.unusedSimpArgs false
namespace Go.Proofs.Ytphnlkdoeecbgaa.L13
open Go Go.AM Go.Proofs.Ytphnlkdoeecbgaa.AMC
set_option maxRecDepth 10000
def eFlat (l : List Int) (n : Nat) : List Int := (List.range n).flatMap fun i : Nat => [rdI l (446 + 16 * i + 4), le4 l (446 + 16 * i + 8), le4 l (446 + 16 * i + 12)]
theorem eCells_flat (l : List Int) (n : Nat) : eCells l n = (eFlat l n).map (Value.int .i64) := by
  simp only [eCells, eFlat, List.map_flatMap]
  rfl
theorem eFlat_length (l : List Int) : (eFlat l 4).length = 12 := rfl
theorem law_entries (L d : Nat) (a : Option Addr) (cap : Nat) (l : List Int) (h : AHeap) (hw : Wf h) (hb : Byt l) (hrow : 0 < l.length → ∃ m off, a = some ⟨m, off, none⟩ ∧ m < h.next ∧ RowI h .u8 m off l) :
    ∃ r h', (En (L + 10) (d + 5)).go 6 [.slice a l.length cap] h = some (r, h') ∧ r = .bool true := by
  refine go_ex (show tabF 6 = some (.code a6) by rfl) rfl ?_
  unfold a6
  have g35 := fun h => go35 (L + 10) (d + 3) h
  by_cases h1 : (l.length : Int) > 2000
  · simp (disch := omega) [h1, g35]
  · have hl : l.length < 4611686018427387904 := by omega
    obtain ⟨r1, H1, e1, v1, rfl, k1, o1⟩ := ents L d a cap l h hw hb hrow hl
    obtain ⟨r2, H2, e2, v2, rfl, k2, o2⟩ := rents L d a cap l H1 (k1.wf hw) hb (fun h0 => by
      obtain ⟨m, off, q1, q2, q3⟩ := hrow h0
      exact ⟨m, off, q1, Nat.lt_of_lt_of_le q2 k1.next, q3.keep k1 q2⟩) hl
    by_cases h2 : eErr l = 0
    · rw [if_pos h2] at o1 o2
      rw [eCells_flat] at o1 o2
      obtain ⟨m1, rfl, q1, q2, q3⟩ := o1.rowI (by omega)
      obtain ⟨m2, rfl, q4, q5, q6⟩ := o2.rowI (by omega)
      have q7 := q3.keep k2 q2
      have hF := eFlat_length l
      simp (disch := omega) [h1, g35, e1, e2, decide_eq_false]
      refine W_loop (fun j T h' => ∃ i : Nat, j = 4 - i ∧ i ≤ 4 ∧ h' = H2 ∧ T.get 3 = some (.slice (some ⟨m1, 0, none⟩) 4 4) ∧ T.get 5 = some (.slice (some ⟨m2, 0, none⟩) 4 4) ∧ T.get 7 = some (.int .i64 i)) 4 (by simp) ⟨0, by simp, by omega, rfl, by simp, by simp, by simp⟩ ?_
      rintro j T h' ⟨i, rfl, hi4, rfl, t3, t5, t7⟩
      by_cases hi : i < 4
      · have a0 := q7.load (i := i * 3) (by omega)
        have a1 := q7.load (i := i * 3 + 1) (by omega)
        have a2 := q7.load (i := i * 3 + 2) (by omega)
        have b0 := q6.load (i := i * 3) (by omega)
        have b1 := q6.load (i := i * 3 + 1) (by omega)
        have b2 := q6.load (i := i * 3 + 2) (by omega)
        simp only [Nat.zero_add] at a0 a1 a2 b0 b1 b2
        simp (disch := omega) [t3, t5, t7, decide_eq_true, aIndexSl_ok, a0, a1, a2, b0, b1, b2, wrapF_i64]
        exact ⟨4 - (i + 1), by omega, i + 1, rfl, by omega, by simp⟩
      · have : i = 4 := by omega
        subst this
        simp (disch := omega) [t3, t5, t7, g35]
    · rw [if_neg h2] at o1 o2
      subst o1; subst o2
      simp (disch := omega) [h1, g35, e1, e2, decide_eq_false, W_loop_all, WL_succ]
end Go.Proofs.Ytphnlkdoeecbgaa.L13
