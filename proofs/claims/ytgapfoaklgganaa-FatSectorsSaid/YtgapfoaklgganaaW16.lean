import Derived.Test.YtgapfoaklgganaaV16
set_option linter.unusedVariables false
set_option linter.unusedSimpArgs false
set_option linter.unnecessarySimpa false
/-! A boot is put into a sector by the program. -/
namespace Go.Proofs.Ytgapfoaklgganaa.L16
open Go Go.AM Go.Proofs.Ytgapfoaklgganaa.AMC
set_option maxRecDepth 10000
theorem blk_inj {m n : Nat} (h : some (⟨m, 0, none⟩ : Addr) = some ⟨n, 0, none⟩) : m = n := by injection h with h; injection h
theorem putb_len (L d : Nat) (b : List Int) (e a t s g r i c : Int) (v : Value) (h : AHeap) (hv : SlB h v b) (hl : b.length ≠ 512) :
    (En L (d + 1)).go 23 [btV e a t s g r i c, v] h = some (.int .i64 4, h.new (box8 e a t s g r i c)) := by
  refine go_of (show tabF 23 = some (.code a23) by rfl) rfl ?_
  unfold a23
  obtain ⟨xv, qv, rfl⟩ := hv.val
  have hl' : ¬ (b.length : Int) = 512 := by omega
  simp (disch := omega) [box8_new, hl']
theorem putb_bad (L d : Nat) (b : List Int) (e a t s g r i c : Int) (v : Value) (h : AHeap) (hv : SlB h v b) (hl : b.length = 512) (hk : chk e a t s g r i c ≠ 0) :
    ∃ r' h', (En L (d + 4)).go 23 [btV e a t s g r i c, v] h = some (r', h') ∧ r' = .int .i64 (chk e a t s g r i c) ∧ Keep h.next h h' := by
  refine go_ex (R := fun r' h' => r' = .int .i64 (chk e a t s g r i c) ∧ Keep h.next h h') (show tabF 23 = some (.code a23) by rfl) rfl ?_
  unfold a23
  obtain ⟨xv, qv, rfl⟩ := hv.val
  have gg := box8_get e a t s g r i c h
  have cg := ld_agg gg (n := 8) rfl
  obtain ⟨_, G, ec, rfl, kG⟩ := chk61 L d e a t s g r i c (h.new (box8 e a t s g r i c))
  have hk2 : ¬ chk e a t s g r i c = 0 := hk
  rw [hl] at *
  simp (disch := omega) [box8_new, cg, ec, hk2]
  exact ((Keep.refl _ _).new (Nat.le_refl _) _).trans (kG.less (by simp))
set_option maxHeartbeats 400000 in
theorem putb_ok (L d : Nat) (b : List Int) (e a t s g r i c : Int) (v : Value) (N : Nat) (h : AHeap) (hN : N ≤ h.next) (hv : OwnB N h v b) (hl : b.length = 512) (hk : chk e a t s g r i c = 0) :
    ∃ r' h', (En (L + 10) (d + 4)).go 23 [btV e a t s g r i c, v] h = some (r', h') ∧ r' = .int .i64 0 ∧ OwnB N h' v (bootL b e a t s g r i c) ∧ Keep N h h' := by
  refine go_ex (R := fun r' h' => r' = .int .i64 0 ∧ OwnB N h' v (bootL b e a t s g r i c) ∧ Keep N h h') (show tabF 23 = some (.code a23) by rfl) rfl ?_
  unfold a23
  rw [← progL_eq b e a t s g r i c hl]
  obtain ⟨e0, e1, t0, t1, s0, s1, g0, g1, a0, a1, i0, i1, c0, c1, r0, r1⟩ := chk_rng hk
  have gg := box8_get e a t s g r i c h
  have cg := ld_agg gg (n := 8) rfl
  have kb : Keep N h (h.new (box8 e a t s g r i c)) := (Keep.refl _ _).new hN _
  obtain ⟨_, G0, ec, rfl, kG⟩ := chk61 (L + 10) d e a t s g r i c (h.new (box8 e a t s g r i c))
  rw [hk] at ec
  have k0 : Keep N h G0 := kb.trans (kG.less (by simp; omega))
  have kb' : Keep h.next h (h.new (box8 e a t s g r i c)) := (Keep.refl _ _).new (Nat.le_refl _) _
  have w0 := (hv.keep kb' (Nat.le_refl _)).keep kG (Nat.le_refl _)
  have x0 : h.next < G0.next := by have := kG.next; simp only [AHeap.next_new] at this; omega
  obtain ⟨m, ev, hm⟩ : ∃ m, v = .slice (some ⟨m, 0, none⟩) 512 512 ∧ m < h.next := by
    rcases hv.2 with ⟨q, _⟩ | ⟨m', c', gr', q1, q2, q3, _⟩
    · omega
    · rw [hl] at q1; exact ⟨m', q1, q3⟩
  have hne : ∀ m' o n c, v = .slice (some ⟨m', o, none⟩) n c → h.next ≠ m' := by
    intro m' o n c q; rw [ev] at q; injection q with q; injection q with q; injection q with q; omega
  have gb0 := (kG.get h.next (by simp)).trans gg
  have q0 := hl
  obtain ⟨r0', G1, pe0, rfl, w1, kk0, u0⟩ := put16i L d v b 11 11 rfl 512 N G0 w0 (by omega) (by rw [q0]; omega) (by omega) (by omega)
  have gb1 := (u0.2 h.next hne).trans gb0
  have x1 : h.next < G1.next := by have := u0.1; omega
  have k1 := k0.trans kk0
  have q1 : (wth b 11 (by2 512)).length = 512 := by rw [wth_len (by simp only [q0, by2_len, by4_len, List.length_cons, List.length_nil]; omega)]; exact q0
  have ca1 := ld_cell gb1 (i := 0) rfl
  obtain ⟨m1, G2, ev1, st1, w2, kk1, nx1, gt1⟩ := w1.store 13 (by rw [q1]; omega) e
  have em1 : m1 = m := by have z := ev.symm.trans ev1; rw [Value.slice.injEq] at z; exact (blk_inj z.1).symm
  rw [em1] at st1
  have ws1 := wth_set (l := (wth b 11 (by2 512))) (a := 13) (p := []) (e) (by rw [q1]; simp)
  simp only [wth_nil, List.length_nil, Nat.add_zero, List.nil_append] at ws1
  rw [ws1] at w2
  have gb2 := (gt1 h.next (by omega)).trans gb1
  have x2 : h.next < G2.next := by omega
  have k2 := k1.trans kk1
  have q2 : (wth (wth b 11 (by2 512)) 13 [e]).length = 512 := by rw [wth_len (by simp only [q1, by2_len, by4_len, List.length_cons, List.length_nil]; omega)]; exact q1
  have ca2 := ld_cell gb2 (i := 2) rfl
  obtain ⟨m2, G3, ev2, st2, w3, kk2, nx2, gt2⟩ := w2.store 16 (by rw [q2]; omega) t
  have em2 : m2 = m := by have z := ev.symm.trans ev2; rw [Value.slice.injEq] at z; exact (blk_inj z.1).symm
  rw [em2] at st2
  have ws2 := wth_set (l := (wth (wth b 11 (by2 512)) 13 [e])) (a := 16) (p := []) (t) (by rw [q2]; simp)
  simp only [wth_nil, List.length_nil, Nat.add_zero, List.nil_append] at ws2
  rw [ws2] at w3
  have gb3 := (gt2 h.next (by omega)).trans gb2
  have x3 : h.next < G3.next := by omega
  have k3 := k2.trans kk2
  have q3 : (wth (wth (wth b 11 (by2 512)) 13 [e]) 16 [t]).length = 512 := by rw [wth_len (by simp only [q2, by2_len, by4_len, List.length_cons, List.length_nil]; omega)]; exact q2
  have ca3 := ld_cell gb3 (i := 1) rfl
  obtain ⟨r3', G4, pe3, rfl, w4, kk3, u3⟩ := put16i L d v (wth (wth (wth b 11 (by2 512)) 13 [e]) 16 [t]) 14 14 rfl a N G3 w3 (by omega) (by rw [q3]; omega) (by omega) (by omega)
  have gb4 := (u3.2 h.next hne).trans gb3
  have x4 : h.next < G4.next := by have := u3.1; omega
  have k4 := k3.trans kk3
  have q4 : (wth (wth (wth (wth b 11 (by2 512)) 13 [e]) 16 [t]) 14 (by2 a)).length = 512 := by rw [wth_len (by simp only [q3, by2_len, by4_len, List.length_cons, List.length_nil]; omega)]; exact q3
  obtain ⟨r4', G5, pe4, rfl, w5, kk4, u4⟩ := put16i L d v (wth (wth (wth (wth b 11 (by2 512)) 13 [e]) 16 [t]) 14 (by2 a)) 17 17 rfl 0 N G4 w4 (by omega) (by rw [q4]; omega) (by omega) (by omega)
  have gb5 := (u4.2 h.next hne).trans gb4
  have x5 : h.next < G5.next := by have := u4.1; omega
  have k5 := k4.trans kk4
  have q5 : (wth (wth (wth (wth (wth b 11 (by2 512)) 13 [e]) 16 [t]) 14 (by2 a)) 17 (by2 0)).length = 512 := by rw [wth_len (by simp only [q4, by2_len, by4_len, List.length_cons, List.length_nil]; omega)]; exact q4
  obtain ⟨r5', G6, pe5, rfl, w6, kk5, u5⟩ := put16i L d v (wth (wth (wth (wth (wth b 11 (by2 512)) 13 [e]) 16 [t]) 14 (by2 a)) 17 (by2 0)) 19 19 rfl 0 N G5 w5 (by omega) (by rw [q5]; omega) (by omega) (by omega)
  have gb6 := (u5.2 h.next hne).trans gb5
  have x6 : h.next < G6.next := by have := u5.1; omega
  have k6 := k5.trans kk5
  have q6 : (wth (wth (wth (wth (wth (wth b 11 (by2 512)) 13 [e]) 16 [t]) 14 (by2 a)) 17 (by2 0)) 19 (by2 0)).length = 512 := by rw [wth_len (by simp only [q5, by2_len, by4_len, List.length_cons, List.length_nil]; omega)]; exact q5
  obtain ⟨r6', G7, pe6, rfl, w7, kk6, u6⟩ := put16i L d v (wth (wth (wth (wth (wth (wth b 11 (by2 512)) 13 [e]) 16 [t]) 14 (by2 a)) 17 (by2 0)) 19 (by2 0)) 22 22 rfl 0 N G6 w6 (by omega) (by rw [q6]; omega) (by omega) (by omega)
  have gb7 := (u6.2 h.next hne).trans gb6
  have x7 : h.next < G7.next := by have := u6.1; omega
  have k7 := k6.trans kk6
  have q7 : (wth (wth (wth (wth (wth (wth (wth b 11 (by2 512)) 13 [e]) 16 [t]) 14 (by2 a)) 17 (by2 0)) 19 (by2 0)) 22 (by2 0)).length = 512 := by rw [wth_len (by simp only [q6, by2_len, by4_len, List.length_cons, List.length_nil]; omega)]; exact q6
  have ca7 := ld_cell gb7 (i := 3) rfl
  obtain ⟨r7', G8, pe7, rfl, w8, kk7, u7⟩ := put32i' L d v (wth (wth (wth (wth (wth (wth (wth b 11 (by2 512)) 13 [e]) 16 [t]) 14 (by2 a)) 17 (by2 0)) 19 (by2 0)) 22 (by2 0)) 32 32 rfl s N G7 w7 (by omega) (by rw [q7]; omega) (by omega) (by omega)
  have gb8 := (u7.2 h.next hne).trans gb7
  have x8 : h.next < G8.next := by have := u7.1; omega
  have k8 := k7.trans kk7
  have q8 : (wth (wth (wth (wth (wth (wth (wth (wth b 11 (by2 512)) 13 [e]) 16 [t]) 14 (by2 a)) 17 (by2 0)) 19 (by2 0)) 22 (by2 0)) 32 (by4 s)).length = 512 := by rw [wth_len (by simp only [q7, by2_len, by4_len, List.length_cons, List.length_nil]; omega)]; exact q7
  have ca8 := ld_cell gb8 (i := 4) rfl
  obtain ⟨r8', G9, pe8, rfl, w9, kk8, u8⟩ := put32i' L d v (wth (wth (wth (wth (wth (wth (wth (wth b 11 (by2 512)) 13 [e]) 16 [t]) 14 (by2 a)) 17 (by2 0)) 19 (by2 0)) 22 (by2 0)) 32 (by4 s)) 36 36 rfl g N G8 w8 (by omega) (by rw [q8]; omega) (by omega) (by omega)
  have gb9 := (u8.2 h.next hne).trans gb8
  have x9 : h.next < G9.next := by have := u8.1; omega
  have k9 := k8.trans kk8
  have q9 : (wth (wth (wth (wth (wth (wth (wth (wth (wth b 11 (by2 512)) 13 [e]) 16 [t]) 14 (by2 a)) 17 (by2 0)) 19 (by2 0)) 22 (by2 0)) 32 (by4 s)) 36 (by4 g)).length = 512 := by rw [wth_len (by simp only [q8, by2_len, by4_len, List.length_cons, List.length_nil]; omega)]; exact q8
  obtain ⟨r9', G10, pe9, rfl, w10, kk9, u9⟩ := put32i' L d v (wth (wth (wth (wth (wth (wth (wth (wth (wth b 11 (by2 512)) 13 [e]) 16 [t]) 14 (by2 a)) 17 (by2 0)) 19 (by2 0)) 22 (by2 0)) 32 (by4 s)) 36 (by4 g)) 40 40 rfl 0 N G9 w9 (by omega) (by rw [q9]; omega) (by omega) (by omega)
  have gb10 := (u9.2 h.next hne).trans gb9
  have x10 : h.next < G10.next := by have := u9.1; omega
  have k10 := k9.trans kk9
  have q10 : (wth (wth (wth (wth (wth (wth (wth (wth (wth (wth b 11 (by2 512)) 13 [e]) 16 [t]) 14 (by2 a)) 17 (by2 0)) 19 (by2 0)) 22 (by2 0)) 32 (by4 s)) 36 (by4 g)) 40 (by4 0)).length = 512 := by rw [wth_len (by simp only [q9, by2_len, by4_len, List.length_cons, List.length_nil]; omega)]; exact q9
  have ca10 := ld_cell gb10 (i := 5) rfl
  obtain ⟨r10', G11, pe10, rfl, w11, kk10, u10⟩ := put32i' L d v (wth (wth (wth (wth (wth (wth (wth (wth (wth (wth b 11 (by2 512)) 13 [e]) 16 [t]) 14 (by2 a)) 17 (by2 0)) 19 (by2 0)) 22 (by2 0)) 32 (by4 s)) 36 (by4 g)) 40 (by4 0)) 44 44 rfl r N G10 w10 (by omega) (by rw [q10]; omega) (by omega) (by omega)
  have gb11 := (u10.2 h.next hne).trans gb10
  have x11 : h.next < G11.next := by have := u10.1; omega
  have k11 := k10.trans kk10
  have q11 : (wth (wth (wth (wth (wth (wth (wth (wth (wth (wth (wth b 11 (by2 512)) 13 [e]) 16 [t]) 14 (by2 a)) 17 (by2 0)) 19 (by2 0)) 22 (by2 0)) 32 (by4 s)) 36 (by4 g)) 40 (by4 0)) 44 (by4 r)).length = 512 := by rw [wth_len (by simp only [q10, by2_len, by4_len, List.length_cons, List.length_nil]; omega)]; exact q10
  have ca11 := ld_cell gb11 (i := 6) rfl
  obtain ⟨r11', G12, pe11, rfl, w12, kk11, u11⟩ := put16i L d v (wth (wth (wth (wth (wth (wth (wth (wth (wth (wth (wth b 11 (by2 512)) 13 [e]) 16 [t]) 14 (by2 a)) 17 (by2 0)) 19 (by2 0)) 22 (by2 0)) 32 (by4 s)) 36 (by4 g)) 40 (by4 0)) 44 (by4 r)) 48 48 rfl i N G11 w11 (by omega) (by rw [q11]; omega) (by omega) (by omega)
  have gb12 := (u11.2 h.next hne).trans gb11
  have x12 : h.next < G12.next := by have := u11.1; omega
  have k12 := k11.trans kk11
  have q12 : (wth (wth (wth (wth (wth (wth (wth (wth (wth (wth (wth (wth b 11 (by2 512)) 13 [e]) 16 [t]) 14 (by2 a)) 17 (by2 0)) 19 (by2 0)) 22 (by2 0)) 32 (by4 s)) 36 (by4 g)) 40 (by4 0)) 44 (by4 r)) 48 (by2 i)).length = 512 := by rw [wth_len (by simp only [q11, by2_len, by4_len, List.length_cons, List.length_nil]; omega)]; exact q11
  have ca12 := ld_cell gb12 (i := 7) rfl
  obtain ⟨r12', G13, pe12, rfl, w13, kk12, u12⟩ := put16i L d v (wth (wth (wth (wth (wth (wth (wth (wth (wth (wth (wth (wth b 11 (by2 512)) 13 [e]) 16 [t]) 14 (by2 a)) 17 (by2 0)) 19 (by2 0)) 22 (by2 0)) 32 (by4 s)) 36 (by4 g)) 40 (by4 0)) 44 (by4 r)) 48 (by2 i)) 50 50 rfl c N G12 w12 (by omega) (by rw [q12]; omega) (by omega) (by omega)
  have gb13 := (u12.2 h.next hne).trans gb12
  have x13 : h.next < G13.next := by have := u12.1; omega
  have k13 := k12.trans kk12
  have q13 : (wth (wth (wth (wth (wth (wth (wth (wth (wth (wth (wth (wth (wth b 11 (by2 512)) 13 [e]) 16 [t]) 14 (by2 a)) 17 (by2 0)) 19 (by2 0)) 22 (by2 0)) 32 (by4 s)) 36 (by4 g)) 40 (by4 0)) 44 (by4 r)) 48 (by2 i)) 50 (by2 c)).length = 512 := by rw [wth_len (by simp only [q12, by2_len, by4_len, List.length_cons, List.length_nil]; omega)]; exact q12
  have lt := lit8 G13
  have rs := row_sl G13 sig (by simp)
  have hx : aConv .mark (.slice (some ⟨G13.next, 0, none⟩) 8 8) (G13.new (.row false 0 (mkRow true (byV sig)))) = some (.slice (some ⟨G13.next, 0, none⟩) 8 8, (G13.new (.row false 0 (mkRow true (byV sig)))).set G13.next (.row false 0 (mkRow true (byV sig)))) := by simp only [aConv]; rw [AHeap.get_new, if_pos rfl]
  have kn : Keep G13.next G13 ((G13.new (.row false 0 (mkRow true (byV sig)))).set G13.next (.row false 0 (mkRow true (byV sig)))) := ((Keep.refl _ _).new (Nat.le_refl _) _).set (Nat.le_refl _) (by simp) _
  have rs2 : SlB ((G13.new (.row false 0 (mkRow true (byV sig)))).set G13.next (.row false 0 (mkRow true (byV sig)))) (.slice (some ⟨G13.next, 0, none⟩) 8 8) sig :=
    ⟨by simp, .inr ⟨G13.next, 0, 8, false, 0, mkRow true (byV sig), rfl, by simp, by simp, by rw [AHeap.get_set, if_pos rfl], .inl rfl, by rw [← Cells.length_toList, toList_mkRow]; simp, by rw [toList_mkRow, List.drop_zero, List.take_of_length_le (by simp)]⟩⟩
  have gm : (G13.new (.row false 0 (mkRow true (byV sig)))).get G13.next = .row false 0 (mkRow true (byV sig)) := by rw [AHeap.get_new, if_pos rfl]
  generalize hF : (G13.new (.row false 0 (mkRow true (byV sig)))).set G13.next (.row false 0 (mkRow true (byV sig))) = F at hx kn rs2
  have nxk : h.next < G13.next := by omega
  have wF := w13.keep kn (Nat.le_refl _)
  have gF := (kn.get h.next (by omega)).trans gb13
  have wF' := wF
  rw [ev, ← q13] at wF'
  obtain ⟨r13, G14, pe13, rfl, w14', kk13, u13⟩ := patch (L + 10) (d + 1) _ sig m 82 82 rfl _ N F wF' rs2 (by simp) (by omega) (by rw [q13]; simp)
  rw [q13, ← ev] at pe13 w14' u13
  have w14 : OwnB N G14 v (wth (wth (wth (wth (wth (wth (wth (wth (wth (wth (wth (wth (wth (wth b 11 (by2 512)) 13 [e]) 16 [t]) 14 (by2 a)) 17 (by2 0)) 19 (by2 0)) 22 (by2 0)) 32 (by4 s)) 36 (by4 g)) 40 (by4 0)) 44 (by4 r)) 48 (by2 i)) 50 (by2 c)) 82 sig) := w14'
  have gb14 := (u13.2 h.next hne).trans gF
  have x14 : h.next < G14.next := by have h1 := u13.1; have h2 := kn.next; omega
  have k14 := (k13.trans (kn.less (by omega))).trans kk13
  have q14 : (wth (wth (wth (wth (wth (wth (wth (wth (wth (wth (wth (wth (wth (wth b 11 (by2 512)) 13 [e]) 16 [t]) 14 (by2 a)) 17 (by2 0)) 19 (by2 0)) 22 (by2 0)) 32 (by4 s)) 36 (by4 g)) 40 (by4 0)) 44 (by4 r)) 48 (by2 i)) 50 (by2 c)) 82 sig).length = 512 := by rw [wth_len (by simp only [q13, by2_len, by4_len, List.length_cons, List.length_nil]; omega)]; exact q13
  obtain ⟨m14, G15, ev14, st14, w15, kk14, nx14, gt14⟩ := w14.store 510 (by rw [q14]; omega) (85)
  have em14 : m14 = m := by have z := ev.symm.trans ev14; rw [Value.slice.injEq] at z; exact (blk_inj z.1).symm
  rw [em14] at st14
  have ws14 := wth_set (l := (wth (wth (wth (wth (wth (wth (wth (wth (wth (wth (wth (wth (wth (wth b 11 (by2 512)) 13 [e]) 16 [t]) 14 (by2 a)) 17 (by2 0)) 19 (by2 0)) 22 (by2 0)) 32 (by4 s)) 36 (by4 g)) 40 (by4 0)) 44 (by4 r)) 48 (by2 i)) 50 (by2 c)) 82 sig)) (a := 510) (p := []) (85) (by rw [q14]; simp)
  simp only [wth_nil, List.length_nil, Nat.add_zero, List.nil_append] at ws14
  rw [ws14] at w15
  have gb15 := (gt14 h.next (by omega)).trans gb14
  have x15 : h.next < G15.next := by omega
  have k15 := k14.trans kk14
  have q15 : (wth (wth (wth (wth (wth (wth (wth (wth (wth (wth (wth (wth (wth (wth (wth b 11 (by2 512)) 13 [e]) 16 [t]) 14 (by2 a)) 17 (by2 0)) 19 (by2 0)) 22 (by2 0)) 32 (by4 s)) 36 (by4 g)) 40 (by4 0)) 44 (by4 r)) 48 (by2 i)) 50 (by2 c)) 82 sig) 510 [85]).length = 512 := by rw [wth_len (by simp only [q14, by2_len, by4_len, List.length_cons, List.length_nil]; omega)]; exact q14
  obtain ⟨m15, G16, ev15, st15, w16, kk15, nx15, gt15⟩ := w15.store 511 (by rw [q15]; omega) (170)
  have em15 : m15 = m := by have z := ev.symm.trans ev15; rw [Value.slice.injEq] at z; exact (blk_inj z.1).symm
  rw [em15] at st15
  have ws15 := wth_set (l := (wth (wth (wth (wth (wth (wth (wth (wth (wth (wth (wth (wth (wth (wth (wth b 11 (by2 512)) 13 [e]) 16 [t]) 14 (by2 a)) 17 (by2 0)) 19 (by2 0)) 22 (by2 0)) 32 (by4 s)) 36 (by4 g)) 40 (by4 0)) 44 (by4 r)) 48 (by2 i)) 50 (by2 c)) 82 sig) 510 [85])) (a := 511) (p := []) (170) (by rw [q15]; simp)
  simp only [wth_nil, List.length_nil, Nat.add_zero, List.nil_append] at ws15
  rw [ws15] at w16
  have gb16 := (gt15 h.next (by omega)).trans gb15
  have x16 : h.next < G16.next := by omega
  have k16 := k15.trans kk15
  have q16 : (wth (wth (wth (wth (wth (wth (wth (wth (wth (wth (wth (wth (wth (wth (wth (wth b 11 (by2 512)) 13 [e]) 16 [t]) 14 (by2 a)) 17 (by2 0)) 19 (by2 0)) 22 (by2 0)) 32 (by4 s)) 36 (by4 g)) 40 (by4 0)) 44 (by4 r)) 48 (by2 i)) 50 (by2 c)) 82 sig) 510 [85]) 511 [170]).length = 512 := by rw [wth_len (by simp only [q15, by2_len, by4_len, List.length_cons, List.length_nil]; omega)]; exact q15
  have ct2 := ld_cell gb2 (i := 2) rfl
  have ce1 := ld_cell gb1 (i := 0) rfl
  have ct1 := ld_cell gb1 (i := 2) rfl
  subst ev
  simp (disch := omega) [box8_new, cg, ec, skip0, recheck, beqV, wrapF_u8, wrapF_u16, wrapF_u32, aIndexSl_ok, pe0, ca1, st1, ca2, st2, ca3, pe3, pe4, pe5, pe6, ca7, pe7, ca8, pe8, pe9, ca10, pe10, ca11, pe11, ca12, pe12, lt, gm, hF, pe13, st14, st15, ct2, ce1, ct1]
  exact ⟨w16, k16⟩
end Go.Proofs.Ytgapfoaklgganaa.L16
