import Derived.Test.YtgapfoaklgganaaW16
set_option linter.unusedVariables false
set_option linter.unusedSimpArgs false
set_option linter.unnecessarySimpa false
/-! A boot is put into a sector by the document. -/
namespace Go.Proofs.Ytgapfoaklgganaa.L16
open Go Go.AM Go.Proofs.Ytgapfoaklgganaa.AMC
set_option maxRecDepth 10000
theorem with_i (L d : Nat) (v w : Value) (l p : List Int) (at_ : Nat) (ai : Int) (ha : ai = at_) (h : AHeap) (hv : SlB h v l) (hw : SlB h w p) (hl : l.length < 1099511627776) (hn : at_ + p.length ≤ l.length) :
    ∃ r h', (En L (d + 1)).go 36 [v, .int .i64 ai, w] h = some (r, h') ∧ OwnB h.next h' r (wth l at_ p) ∧ Keep h.next h h' := by
  subst ha; exact with_spec L d v w l p at_ h hv hw hl hn
theorem lit2 (h : AHeap) : aBuildSlice true ⟨1, 1, [.int .u8 0]⟩ 2 [(0, .int .u8 85), (1, .int .u8 170)] h = some (.slice (some ⟨h.next, 0, none⟩) 2 2, h.new (.row false 0 (mkRow true (byV [85, 170])))) := rfl
theorem mark_sl (G : AHeap) (l : List Int) : SlB ((G.new (.row false 0 (mkRow true (byV l)))).set G.next (.row false 0 (mkRow true (byV l)))) (.slice (some ⟨G.next, 0, none⟩) l.length l.length) l :=
  ⟨by simp, .inr ⟨G.next, 0, l.length, false, 0, mkRow true (byV l), rfl, by simp, by simp, by rw [AHeap.get_set, if_pos rfl], .inl rfl, by rw [← Cells.length_toList, toList_mkRow]; simp, by rw [toList_mkRow, List.drop_zero, List.take_of_length_le (by simp)]⟩⟩
set_option maxHeartbeats 4000000 in
theorem refb (L d : Nat) (b : List Int) (e a t s g r i c : Int) (v : Value) (h : AHeap) (hv : SlB h v b) (hl : b.length = 512) (hk : chk e a t s g r i c = 0) :
    ∃ r' h', (En (L + 10) (d + 4)).go 28 [btV e a t s g r i c, v] h = some (r', h') ∧ OwnB h.next h' r' (bootL b e a t s g r i c) ∧ Keep h.next h h' := by
  refine go_ex (R := fun r' h' => OwnB h.next h' r' (bootL b e a t s g r i c) ∧ Keep h.next h h') (show tabF 28 = some (.code a28) by rfl) rfl ?_
  unfold a28
  obtain ⟨e0, e1, t0, t1, s0, s1, g0, g1, a0, a1, i0, i1, c0, c1, r0, r1⟩ := chk_rng hk
  have gb0 := box8_get e a t s g r i c h
  have k0 : Keep h.next h (h.new (box8 e a t s g r i c)) := (Keep.refl _ _).new (Nat.le_refl _) _
  have x0 : h.next < (h.new (box8 e a t s g r i c)).next := by simp
  have w0 := hv.keep k0 (Nat.le_refl _)
  have bn := box8_new e a t s g r i c h
  generalize hG0 : h.new (box8 e a t s g r i c) = G0 at gb0 k0 x0 w0 bn
  have q0 := hl
  obtain ⟨b0, F0, cc0, p0, y0⟩ := bytes2 L (d + 2) 512 G0 (by omega) (by omega)
  obtain ⟨v1, G1, ee0, w1, kz0⟩ := with_i (L + 10) (d + 2) v b0 b (by2 512) 11 11 rfl F0 (w0.keep y0 (Nat.le_refl _)) p0.sl (by omega) (by rw [q0]; simp [by2, by4])
  have gb1 := (kz0.get h.next (by have := y0.next; omega)).trans ((y0.get h.next (by omega)).trans gb0)
  have x1 : h.next < G1.next := by have h1 := y0.next; have h2 := kz0.next; omega
  have k1 := (k0.trans (y0.less (by omega))).trans (kz0.less (by have := y0.next; omega))
  have q1 : (wth b 11 (by2 512)).length = 512 := by rw [wth_len (by simp only [q0, by2_len, by4_len, List.length_cons, List.length_nil]; omega)]; exact q0
  have ca1 := ld_cell gb1 (i := 0) rfl
  obtain ⟨b1, F1, cc1, p1, y1⟩ := bytes1 L (d + 2) e G1 (by omega) (by omega)
  obtain ⟨v2, G2, ee1, w2, kz1⟩ := with_i (L + 10) (d + 2) v1 b1 (wth b 11 (by2 512)) [e] 13 13 rfl F1 (w1.keep y1 (Nat.le_refl _)).sl p1.sl (by omega) (by rw [q1]; simp [by2, by4])
  have gb2 := (kz1.get h.next (by have := y1.next; omega)).trans ((y1.get h.next (by omega)).trans gb1)
  have x2 : h.next < G2.next := by have h1 := y1.next; have h2 := kz1.next; omega
  have k2 := (k1.trans (y1.less (by omega))).trans (kz1.less (by have := y1.next; omega))
  have q2 : (wth (wth b 11 (by2 512)) 13 [e]).length = 512 := by rw [wth_len (by simp only [q1, by2_len, by4_len, List.length_cons, List.length_nil]; omega)]; exact q1
  have ca2 := ld_cell gb2 (i := 1) rfl
  obtain ⟨b2, F2, cc2, p2, y2⟩ := bytes2 L (d + 2) a G2 (by omega) (by omega)
  obtain ⟨v3, G3, ee2, w3, kz2⟩ := with_i (L + 10) (d + 2) v2 b2 (wth (wth b 11 (by2 512)) 13 [e]) (by2 a) 14 14 rfl F2 (w2.keep y2 (Nat.le_refl _)).sl p2.sl (by omega) (by rw [q2]; simp [by2, by4])
  have gb3 := (kz2.get h.next (by have := y2.next; omega)).trans ((y2.get h.next (by omega)).trans gb2)
  have x3 : h.next < G3.next := by have h1 := y2.next; have h2 := kz2.next; omega
  have k3 := (k2.trans (y2.less (by omega))).trans (kz2.less (by have := y2.next; omega))
  have q3 : (wth (wth (wth b 11 (by2 512)) 13 [e]) 14 (by2 a)).length = 512 := by rw [wth_len (by simp only [q2, by2_len, by4_len, List.length_cons, List.length_nil]; omega)]; exact q2
  have ca3 := ld_cell gb3 (i := 2) rfl
  obtain ⟨b3, F3, cc3, p3, y3⟩ := bytes1 L (d + 2) t G3 (by omega) (by omega)
  obtain ⟨v4, G4, ee3, w4, kz3⟩ := with_i (L + 10) (d + 2) v3 b3 (wth (wth (wth b 11 (by2 512)) 13 [e]) 14 (by2 a)) [t] 16 16 rfl F3 (w3.keep y3 (Nat.le_refl _)).sl p3.sl (by omega) (by rw [q3]; simp [by2, by4])
  have gb4 := (kz3.get h.next (by have := y3.next; omega)).trans ((y3.get h.next (by omega)).trans gb3)
  have x4 : h.next < G4.next := by have h1 := y3.next; have h2 := kz3.next; omega
  have k4 := (k3.trans (y3.less (by omega))).trans (kz3.less (by have := y3.next; omega))
  have q4 : (wth (wth (wth (wth b 11 (by2 512)) 13 [e]) 14 (by2 a)) 16 [t]).length = 512 := by rw [wth_len (by simp only [q3, by2_len, by4_len, List.length_cons, List.length_nil]; omega)]; exact q3
  obtain ⟨b4, F4, cc4, p4, y4⟩ := zeros_spec (L + 10) (d + 2) 4 G4 (by omega)
  have cc4 : (En (L + 10) (d + 3)).go 34 [.int .i64 4] G4 = some (b4, F4) := cc4
  have p4 : OwnB G4.next F4 b4 z4 := p4
  obtain ⟨v5, G5, ee4, w5, kz4⟩ := with_i (L + 10) (d + 2) v4 b4 (wth (wth (wth (wth b 11 (by2 512)) 13 [e]) 14 (by2 a)) 16 [t]) z4 17 17 rfl F4 (w4.keep y4 (Nat.le_refl _)).sl p4.sl (by omega) (by rw [q4]; simp [by2, by4])
  have gb5 := (kz4.get h.next (by have := y4.next; omega)).trans ((y4.get h.next (by omega)).trans gb4)
  have x5 : h.next < G5.next := by have h1 := y4.next; have h2 := kz4.next; omega
  have k5 := (k4.trans (y4.less (by omega))).trans (kz4.less (by have := y4.next; omega))
  have q5 : (wth (wth (wth (wth (wth b 11 (by2 512)) 13 [e]) 14 (by2 a)) 16 [t]) 17 z4).length = 512 := by rw [wth_len (by simp only [q4, by2_len, by4_len, List.length_cons, List.length_nil]; omega)]; exact q4
  obtain ⟨b5, F5, cc5, p5, y5⟩ := zeros_spec (L + 10) (d + 2) 2 G5 (by omega)
  have cc5 : (En (L + 10) (d + 3)).go 34 [.int .i64 2] G5 = some (b5, F5) := cc5
  have p5 : OwnB G5.next F5 b5 z2 := p5
  obtain ⟨v6, G6, ee5, w6, kz5⟩ := with_i (L + 10) (d + 2) v5 b5 (wth (wth (wth (wth (wth b 11 (by2 512)) 13 [e]) 14 (by2 a)) 16 [t]) 17 z4) z2 22 22 rfl F5 (w5.keep y5 (Nat.le_refl _)).sl p5.sl (by omega) (by rw [q5]; simp [by2, by4])
  have gb6 := (kz5.get h.next (by have := y5.next; omega)).trans ((y5.get h.next (by omega)).trans gb5)
  have x6 : h.next < G6.next := by have h1 := y5.next; have h2 := kz5.next; omega
  have k6 := (k5.trans (y5.less (by omega))).trans (kz5.less (by have := y5.next; omega))
  have q6 : (wth (wth (wth (wth (wth (wth b 11 (by2 512)) 13 [e]) 14 (by2 a)) 16 [t]) 17 z4) 22 z2).length = 512 := by rw [wth_len (by simp only [q5, by2_len, by4_len, List.length_cons, List.length_nil]; omega)]; exact q5
  have ca6 := ld_cell gb6 (i := 3) rfl
  obtain ⟨b6, F6, cc6, p6, y6⟩ := bytes4 L (d + 2) s G6 (by omega) (by omega)
  obtain ⟨v7, G7, ee6, w7, kz6⟩ := with_i (L + 10) (d + 2) v6 b6 (wth (wth (wth (wth (wth (wth b 11 (by2 512)) 13 [e]) 14 (by2 a)) 16 [t]) 17 z4) 22 z2) (by4 s) 32 32 rfl F6 (w6.keep y6 (Nat.le_refl _)).sl p6.sl (by omega) (by rw [q6]; simp [by2, by4])
  have gb7 := (kz6.get h.next (by have := y6.next; omega)).trans ((y6.get h.next (by omega)).trans gb6)
  have x7 : h.next < G7.next := by have h1 := y6.next; have h2 := kz6.next; omega
  have k7 := (k6.trans (y6.less (by omega))).trans (kz6.less (by have := y6.next; omega))
  have q7 : (wth (wth (wth (wth (wth (wth (wth b 11 (by2 512)) 13 [e]) 14 (by2 a)) 16 [t]) 17 z4) 22 z2) 32 (by4 s)).length = 512 := by rw [wth_len (by simp only [q6, by2_len, by4_len, List.length_cons, List.length_nil]; omega)]; exact q6
  have ca7 := ld_cell gb7 (i := 4) rfl
  obtain ⟨b7, F7, cc7, p7, y7⟩ := bytes4 L (d + 2) g G7 (by omega) (by omega)
  obtain ⟨v8, G8, ee7, w8, kz7⟩ := with_i (L + 10) (d + 2) v7 b7 (wth (wth (wth (wth (wth (wth (wth b 11 (by2 512)) 13 [e]) 14 (by2 a)) 16 [t]) 17 z4) 22 z2) 32 (by4 s)) (by4 g) 36 36 rfl F7 (w7.keep y7 (Nat.le_refl _)).sl p7.sl (by omega) (by rw [q7]; simp [by2, by4])
  have gb8 := (kz7.get h.next (by have := y7.next; omega)).trans ((y7.get h.next (by omega)).trans gb7)
  have x8 : h.next < G8.next := by have h1 := y7.next; have h2 := kz7.next; omega
  have k8 := (k7.trans (y7.less (by omega))).trans (kz7.less (by have := y7.next; omega))
  have q8 : (wth (wth (wth (wth (wth (wth (wth (wth b 11 (by2 512)) 13 [e]) 14 (by2 a)) 16 [t]) 17 z4) 22 z2) 32 (by4 s)) 36 (by4 g)).length = 512 := by rw [wth_len (by simp only [q7, by2_len, by4_len, List.length_cons, List.length_nil]; omega)]; exact q7
  obtain ⟨b8, F8, cc8, p8, y8⟩ := zeros_spec (L + 10) (d + 2) 4 G8 (by omega)
  have cc8 : (En (L + 10) (d + 3)).go 34 [.int .i64 4] G8 = some (b8, F8) := cc8
  have p8 : OwnB G8.next F8 b8 z4 := p8
  obtain ⟨v9, G9, ee8, w9, kz8⟩ := with_i (L + 10) (d + 2) v8 b8 (wth (wth (wth (wth (wth (wth (wth (wth b 11 (by2 512)) 13 [e]) 14 (by2 a)) 16 [t]) 17 z4) 22 z2) 32 (by4 s)) 36 (by4 g)) z4 40 40 rfl F8 (w8.keep y8 (Nat.le_refl _)).sl p8.sl (by omega) (by rw [q8]; simp [by2, by4])
  have gb9 := (kz8.get h.next (by have := y8.next; omega)).trans ((y8.get h.next (by omega)).trans gb8)
  have x9 : h.next < G9.next := by have h1 := y8.next; have h2 := kz8.next; omega
  have k9 := (k8.trans (y8.less (by omega))).trans (kz8.less (by have := y8.next; omega))
  have q9 : (wth (wth (wth (wth (wth (wth (wth (wth (wth b 11 (by2 512)) 13 [e]) 14 (by2 a)) 16 [t]) 17 z4) 22 z2) 32 (by4 s)) 36 (by4 g)) 40 z4).length = 512 := by rw [wth_len (by simp only [q8, by2_len, by4_len, List.length_cons, List.length_nil]; omega)]; exact q8
  have ca9 := ld_cell gb9 (i := 5) rfl
  obtain ⟨b9, F9, cc9, p9, y9⟩ := bytes4 L (d + 2) r G9 (by omega) (by omega)
  obtain ⟨v10, G10, ee9, w10, kz9⟩ := with_i (L + 10) (d + 2) v9 b9 (wth (wth (wth (wth (wth (wth (wth (wth (wth b 11 (by2 512)) 13 [e]) 14 (by2 a)) 16 [t]) 17 z4) 22 z2) 32 (by4 s)) 36 (by4 g)) 40 z4) (by4 r) 44 44 rfl F9 (w9.keep y9 (Nat.le_refl _)).sl p9.sl (by omega) (by rw [q9]; simp [by2, by4])
  have gb10 := (kz9.get h.next (by have := y9.next; omega)).trans ((y9.get h.next (by omega)).trans gb9)
  have x10 : h.next < G10.next := by have h1 := y9.next; have h2 := kz9.next; omega
  have k10 := (k9.trans (y9.less (by omega))).trans (kz9.less (by have := y9.next; omega))
  have q10 : (wth (wth (wth (wth (wth (wth (wth (wth (wth (wth b 11 (by2 512)) 13 [e]) 14 (by2 a)) 16 [t]) 17 z4) 22 z2) 32 (by4 s)) 36 (by4 g)) 40 z4) 44 (by4 r)).length = 512 := by rw [wth_len (by simp only [q9, by2_len, by4_len, List.length_cons, List.length_nil]; omega)]; exact q9
  have ca10 := ld_cell gb10 (i := 6) rfl
  obtain ⟨b10, F10, cc10, p10, y10⟩ := bytes2 L (d + 2) i G10 (by omega) (by omega)
  obtain ⟨v11, G11, ee10, w11, kz10⟩ := with_i (L + 10) (d + 2) v10 b10 (wth (wth (wth (wth (wth (wth (wth (wth (wth (wth b 11 (by2 512)) 13 [e]) 14 (by2 a)) 16 [t]) 17 z4) 22 z2) 32 (by4 s)) 36 (by4 g)) 40 z4) 44 (by4 r)) (by2 i) 48 48 rfl F10 (w10.keep y10 (Nat.le_refl _)).sl p10.sl (by omega) (by rw [q10]; simp [by2, by4])
  have gb11 := (kz10.get h.next (by have := y10.next; omega)).trans ((y10.get h.next (by omega)).trans gb10)
  have x11 : h.next < G11.next := by have h1 := y10.next; have h2 := kz10.next; omega
  have k11 := (k10.trans (y10.less (by omega))).trans (kz10.less (by have := y10.next; omega))
  have q11 : (wth (wth (wth (wth (wth (wth (wth (wth (wth (wth (wth b 11 (by2 512)) 13 [e]) 14 (by2 a)) 16 [t]) 17 z4) 22 z2) 32 (by4 s)) 36 (by4 g)) 40 z4) 44 (by4 r)) 48 (by2 i)).length = 512 := by rw [wth_len (by simp only [q10, by2_len, by4_len, List.length_cons, List.length_nil]; omega)]; exact q10
  have ca11 := ld_cell gb11 (i := 7) rfl
  obtain ⟨b11, F11, cc11, p11, y11⟩ := bytes2 L (d + 2) c G11 (by omega) (by omega)
  obtain ⟨v12, G12, ee11, w12, kz11⟩ := with_i (L + 10) (d + 2) v11 b11 (wth (wth (wth (wth (wth (wth (wth (wth (wth (wth (wth b 11 (by2 512)) 13 [e]) 14 (by2 a)) 16 [t]) 17 z4) 22 z2) 32 (by4 s)) 36 (by4 g)) 40 z4) 44 (by4 r)) 48 (by2 i)) (by2 c) 50 50 rfl F11 (w11.keep y11 (Nat.le_refl _)).sl p11.sl (by omega) (by rw [q11]; simp [by2, by4])
  have gb12 := (kz11.get h.next (by have := y11.next; omega)).trans ((y11.get h.next (by omega)).trans gb11)
  have x12 : h.next < G12.next := by have h1 := y11.next; have h2 := kz11.next; omega
  have k12 := (k11.trans (y11.less (by omega))).trans (kz11.less (by have := y11.next; omega))
  have q12 : (wth (wth (wth (wth (wth (wth (wth (wth (wth (wth (wth (wth b 11 (by2 512)) 13 [e]) 14 (by2 a)) 16 [t]) 17 z4) 22 z2) 32 (by4 s)) 36 (by4 g)) 40 z4) 44 (by4 r)) 48 (by2 i)) 50 (by2 c)).length = 512 := by rw [wth_len (by simp only [q11, by2_len, by4_len, List.length_cons, List.length_nil]; omega)]; exact q11
  have lt12 := lit8 G12
  have gm12 : (G12.new (.row false 0 (mkRow true (byV sig)))).get G12.next = .row false 0 (mkRow true (byV sig)) := by rw [AHeap.get_new, if_pos rfl]
  have y12 : Keep G12.next G12 ((G12.new (.row false 0 (mkRow true (byV sig)))).set G12.next (.row false 0 (mkRow true (byV sig)))) := ((Keep.refl _ _).new (Nat.le_refl _) _).set (Nat.le_refl _) (by simp) _
  have p12 : SlB ((G12.new (.row false 0 (mkRow true (byV sig)))).set G12.next (.row false 0 (mkRow true (byV sig)))) (.slice (some ⟨G12.next, 0, none⟩) 8 8) sig := mark_sl G12 sig
  generalize hF12 : (G12.new (.row false 0 (mkRow true (byV sig)))).set G12.next (.row false 0 (mkRow true (byV sig))) = F12 at y12 p12
  obtain ⟨v13, G13, ee12, w13, kz12⟩ := with_i (L + 10) (d + 2) v12 (.slice (some ⟨G12.next, 0, none⟩) 8 8) (wth (wth (wth (wth (wth (wth (wth (wth (wth (wth (wth (wth b 11 (by2 512)) 13 [e]) 14 (by2 a)) 16 [t]) 17 z4) 22 z2) 32 (by4 s)) 36 (by4 g)) 40 z4) 44 (by4 r)) 48 (by2 i)) 50 (by2 c)) sig 82 82 rfl F12 (w12.keep y12 (Nat.le_refl _)).sl p12 (by omega) (by rw [q12]; simp [by2, by4])
  have gb13 := (kz12.get h.next (by have := y12.next; omega)).trans ((y12.get h.next (by omega)).trans gb12)
  have x13 : h.next < G13.next := by have h1 := y12.next; have h2 := kz12.next; omega
  have k13 := (k12.trans (y12.less (by omega))).trans (kz12.less (by have := y12.next; omega))
  have q13 : (wth (wth (wth (wth (wth (wth (wth (wth (wth (wth (wth (wth (wth b 11 (by2 512)) 13 [e]) 14 (by2 a)) 16 [t]) 17 z4) 22 z2) 32 (by4 s)) 36 (by4 g)) 40 z4) 44 (by4 r)) 48 (by2 i)) 50 (by2 c)) 82 sig).length = 512 := by rw [wth_len (by simp only [q12, by2_len, by4_len, List.length_cons, List.length_nil]; omega)]; exact q12
  have lt13 := lit2 G13
  have p13 := row_sl G13 [85, 170] (by simp)
  have y13 : Keep G13.next G13 (G13.new (.row false 0 (mkRow true (byV [85, 170])))) := (Keep.refl _ _).new (Nat.le_refl _) _
  generalize hF13 : G13.new (.row false 0 (mkRow true (byV [85, 170]))) = F13 at y13 p13 lt13
  obtain ⟨v14, G14, ee13, w14, kz13⟩ := with_i (L + 10) (d + 2) v13 (.slice (some ⟨G13.next, 0, none⟩) 2 2) (wth (wth (wth (wth (wth (wth (wth (wth (wth (wth (wth (wth (wth b 11 (by2 512)) 13 [e]) 14 (by2 a)) 16 [t]) 17 z4) 22 z2) 32 (by4 s)) 36 (by4 g)) 40 z4) 44 (by4 r)) 48 (by2 i)) 50 (by2 c)) 82 sig) [85, 170] 510 510 rfl F13 (w13.keep y13 (Nat.le_refl _)).sl p13 (by omega) (by rw [q13]; simp [by2, by4])
  have gb14 := (kz13.get h.next (by have := y13.next; omega)).trans ((y13.get h.next (by omega)).trans gb13)
  have x14 : h.next < G14.next := by have h1 := y13.next; have h2 := kz13.next; omega
  have k14 := (k13.trans (y13.less (by omega))).trans (kz13.less (by have := y13.next; omega))
  have q14 : (wth (wth (wth (wth (wth (wth (wth (wth (wth (wth (wth (wth (wth (wth b 11 (by2 512)) 13 [e]) 14 (by2 a)) 16 [t]) 17 z4) 22 z2) 32 (by4 s)) 36 (by4 g)) 40 z4) 44 (by4 r)) 48 (by2 i)) 50 (by2 c)) 82 sig) 510 [85, 170]).length = 512 := by rw [wth_len (by simp only [q13, by2_len, by4_len, List.length_cons, List.length_nil]; omega)]; exact q13
  simp (disch := omega) [bn, wrapF_u64, skip0, cc0, ee0, ca1, cc1, ee1, ca2, cc2, ee2, ca3, cc3, ee3, cc4, ee4, cc5, ee5, ca6, cc6, ee6, ca7, cc7, ee7, cc8, ee8, ca9, cc9, ee9, ca10, cc10, ee10, ca11, cc11, ee11, lt12, gm12, hF12, ee12, lt13, ee13]
  refine ⟨OwnS.less w14 ?_, k14⟩
  have := y13.next; omega
end Go.Proofs.Ytgapfoaklgganaa.L16
