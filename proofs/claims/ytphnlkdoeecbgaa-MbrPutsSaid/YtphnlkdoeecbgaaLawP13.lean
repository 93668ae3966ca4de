import Derived.Test.YtphnlkdoeecbgaaQ13
set_option linter.unusedVariables false
set_option linter.unusedSimpArgs false
set_option linter.unnecessarySimpa false
namespace Go.Proofs.Ytphnlkdoeecbgaa.L13
open Go Go.AM Go.Proofs.Ytphnlkdoeecbgaa.AMC
set_option maxRecDepth 10000
theorem law_puts (L d : Nat) (v : Value) (l : List Int) (i t f c : Int) (h : AHeap) (hb : Byt l) (hs : SlB h v l) :
    ∃ r h', (En (L + 10) (d + 5)).go 9 [v, .int .i64 i, entV t f c] h = some (r, h') ∧ r = .bool true := by
  refine go_ex (R := fun r _ => r = .bool true) (show tabF 9 = some (.code a9) by rfl) rfl ?_
  unfold a9
  have g35 := fun h => go35 (L + 10) (d + 3) h
  obtain ⟨xv, qv, rfl⟩ := hs.val
  have g0 := box3_get t f c h
  have kb : Keep h.next h (h.new (box3 t f c)) := (Keep.refl _ _).new (Nat.le_refl _) _
  by_cases h1 : (l.length : Int) > 1000
  · simp (disch := omega) [box3_new, h1, g35]
  · have s0 := hs.keep kb (Nat.le_refl _)
    obtain ⟨r1, H1, e1, o1, k1⟩ := part_spec (L + 10) (d + 3) _ l 0 l.length (h.new (box3 t f c)) s0 (by omega) (by omega)
    rw [List.drop_zero, List.take_of_length_le (Nat.le_refl _)] at o1
    have s1 := s0.keep k1 (Nat.le_refl _)
    have G1 := (k1.get h.next (by simp)).trans g0
    have x0 := ld_cell G1 (i := 0) rfl
    have xa := ld_agg G1 (n := 3) rfl
    have e1' : (En (L + 10) (d + 4)).go 16 [.slice xv l.length qv, .int .i64 0, .int .i64 l.length] (h.new (box3 t f c)) = some (r1, H1) := e1
    by_cases h2 : l.length = 512 ∧ 0 ≤ i ∧ i ≤ 3
    · have hj : (l.length : Int) = 512 := by omega
      have z2 : ¬ i < 0 := by omega
      have z3 : ¬ 3 < i := by omega
      rw [hj] at e1'
      by_cases h3 : fitsP t f c
      · obtain ⟨n, rfl⟩ : ∃ n : Nat, i = n := ⟨i.toNat, by omega⟩
        have hf := h3
        unfold fitsP at hf
        obtain ⟨r2, H2, p1, rfl, o2, k2⟩ := put_ok L d r1 l n t f c (h.new (box3 t f c)).next H1 k1.next o1 h2.1 (by omega) h3
        have G2 := (k2.get h.next (by simp)).trans G1
        have xb := ld_agg G2 (n := 3) rfl
        have f1 := fits_spec (L + 10) (d + 3) t f c H2
        rw [decide_eq_true h3] at f1
        have K3 := (Keep.refl H2.next H2).new (Nat.le_refl _) (box3 t f c)
        have G3 := (K3.get h.next (by have := k1.next; have := k2.next; simp at *; omega)).trans G2
        have y0 := ld_cell G3 (i := 0) rfl
        have s2 := s0.keep (k1.trans k2) (Nat.le_refl _)
        have K4 : Keep H2.next H2 ((H2.new (box3 t f c)).new (row1 t)) := K3.new (Nat.le_refl _) (row1 t)
        have G4 := (K4.get h.next (by have := k1.next; have := k2.next; simp at *; omega)).trans G2
        obtain ⟨r5, H5, e5, o5, k5⟩ := with_spec (L + 10) (d + 3) (.slice xv l.length qv) _ l [t] (450 + 16 * n) _ (s2.keep K4 (Nat.le_refl _)) (one_sl (H2.new (box3 t f c)) t) (by omega) (by simp; omega)
        have K5 : Keep H2.next H2 H5 := K4.trans (k5.less K4.next)
        have G5 := (K5.get h.next (by have := k1.next; have := k2.next; simp at *; omega)).trans G2
        have y1 := ld_cell G5 (i := 1) rfl
        have y2 := ld_cell G5 (i := 2) rfl
        obtain ⟨r6, H6, e6, o6, k6⟩ := bytes4 L (d + 3) f H5 (by omega) (by omega)
        have K6 := K5.trans (k6.less K5.next)
        have G6 := (K6.get h.next (by have := k1.next; have := k2.next; simp at *; omega)).trans G2
        have w2 := ld_cell G6 (i := 2) rfl
        obtain ⟨r7, H7, e7, o7, k7⟩ := bytes4 L (d + 3) c H6 (by omega) (by omega)
        have K7 := K6.trans (k7.less K6.next)
        obtain ⟨x7, q7, rfl⟩ := o7.sl.val
        obtain ⟨x6, q6, rfl⟩ := o6.sl.val
        obtain ⟨v8, H8, c8, o8, k8⟩ := OwnB.append (k := EK1) (o6.keep k7 (Nat.le_refl _)) o7.sl rfl rfl (Nat.le_trans k6.next k7.next) (by simp [by4])
        have K8 : Keep H5.next H5 H8 := k6.trans ((k7.less k6.next).trans k8)
        have lw := wth_len (l := l) (a := 450 + 16 * n) (p := [t]) (by simp; omega)
        obtain ⟨r9, H9, e9, o9, k9⟩ := with_spec (L + 10) (d + 3) r5 v8 _ _ (454 + 16 * n) H8 (o5.sl.keep K8 (Nat.le_refl _)) o8.sl (by omega) (by simp [by4]; omega)
        have K9 : Keep H2.next H2 H9 := (K5.trans (K8.less K5.next)).trans (k9.less (Nat.le_trans K5.next K8.next))
        have lw2 := wth_len (l := wth l (450 + 16 * n) [t]) (a := 454 + 16 * n) (p := by4 f) (by simp [by4]; omega)
        have join := wth_wth (l := wth l (450 + 16 * n) [t]) (a := 454 + 16 * n) (p := by4 f) (q := by4 c) (by simp [by4]; omega)
        have h4 : 454 + 16 * n + (by4 f).length = 458 + 16 * n := by simp [by4]; omega
        rw [h4] at join
        rw [join] at o2
        have bt : Byt [t] := by intro x hx; simp at hx; omega
        have bb : Byt (wth (wth l (450 + 16 * n) [t]) (454 + 16 * n) (by4 f ++ by4 c)) := wth_byt (wth_byt hb bt) (by
          intro x hx
          rcases List.mem_append.1 hx with hx | hx
          · exact by4_byt f x hx
          · exact by4_byt c x hx)
        have sm := same_spec (L + 10) (d + 3) r1 r9 _ _ H9 (o2.sl.keep K9 (Nat.le_refl _)) o9.sl bb bb
        have q5 : ((450 + 16 * n : Nat) : Int) = 446 + 16 * (n : Int) + 4 := by omega
        have q9 : ((454 + 16 * n : Nat) : Int) = 446 + 16 * (n : Int) + 8 := by omega
        rw [q5] at e5
        simp only [AHeap.next_new] at e5
        rw [q9] at e9
        simp (disch := omega) [box3_new, h1, g35, e1', xa, p1, hj, z2, z3, xb, f1, decide_eq_false, y0, wrapF_u8, wrapF_u64, wrapF_i64, lit1, e5, skip0, y1, y2, e6, w2, e7, c8, e9, sm]
      · have p1 := put_limit (L + 10) (d + 3) r1 l i t f c H1 o1.sl h2 h3
        have K := (Keep.refl H1.next H1).new (Nat.le_refl _) (box3 t f c)
        have G2 := (K.get h.next (by have := k1.next; simp at this; omega)).trans G1
        have xb := ld_agg G2 (n := 3) rfl
        have f1 := fits_spec (L + 10) (d + 3) t f c (H1.new (box3 t f c))
        rw [decide_eq_false h3] at f1
        have K2 := K.new (Nat.le_refl _) (box3 t f c)
        have sm := same_spec (L + 10) (d + 3) r1 _ l l _ (o1.sl.keep K2 (Nat.le_refl _)) (s1.keep K2 (Nat.le_refl _)) hb hb
        simp (disch := omega) [box3_new, h1, g35, e1', xa, p1, hj, z2, z3, xb, f1, sm, decide_eq_false]
    · have p1 := put_range (L + 10) (d + 3) r1 l i t f c H1 o1.sl h2
      have K := (Keep.refl H1.next H1).new (Nat.le_refl _) (box3 t f c)
      have sm := same_spec (L + 10) (d + 3) r1 _ l l _ (o1.sl.keep K (Nat.le_refl _)) (s1.keep K (Nat.le_refl _)) hb hb
      by_cases j1 : (l.length : Int) = 512
      · rw [j1] at e1'
        by_cases j2 : i < 0
        · simp (disch := omega) [box3_new, h1, g35, e1', xa, p1, sm, decide_eq_false, j1, j2]
        · have j3 : 3 < i := by omega
          simp (disch := omega) [box3_new, h1, g35, e1', xa, p1, sm, decide_eq_false, j1, j2, j3]
      · simp (disch := omega) [box3_new, h1, g35, e1', xa, p1, sm, decide_eq_false, j1]
end Go.Proofs.Ytphnlkdoeecbgaa.L13
