import Derived.Test.YtgapfoaklgganaaF16
set_option linter.unusedVariables false
set_option linter.unusedSimpArgs false
set_option linter.unnecessarySimpa false
/-! The sector with the counts, written and read. -/
namespace Go.Proofs.Ytgapfoaklgganaa.L16
open Go Go.AM Go.Proofs.Ytgapfoaklgganaa.AMC
set_option maxRecDepth 10000
theorem put32i (L d : Nat) (v : Value) (l : List Int) (at_ : Nat) (ai : Int) (ha : ai = at_) (x0 : Int) (N : Nat) (h : AHeap) (hv : OwnB N h v l) (hl : l.length < 1099511627776) (hn : at_ + 4 ≤ l.length) (hx0 : 0 ≤ x0) (hx1 : x0 < 4294967296) :
    ∃ r h', (En (L + 10) (d + 3)).go 63 [v, .int .i64 ai, .int .u32 x0] h = some (r, h') ∧ r = .bool true ∧ OwnB N h' v (wth l at_ (by4 x0)) ∧ Keep N h h' ∧ Only v h h' := by
  subst ha; exact put32 L d v l at_ x0 N h hv hl hn hx0 hx1
theorem putc_ok (L d : Nat) (f n : Int) (h : AHeap) (hf : okC f n) :
    ∃ r h', (En (L + 10) (d + 4)).go 29 [cntV f n] h = some (r, h') ∧ (∃ v, r = .tuple #[v, .int .i64 0] ∧ OwnB h.next h' v (cntL f n)) ∧ Keep h.next h h' := by
  refine go_ex (R := fun r h' => (∃ v, r = .tuple #[v, .int .i64 0] ∧ OwnB h.next h' v (cntL f n)) ∧ Keep h.next h h') (show tabF 29 = some (.code a29) by rfl) rfl ?_
  unfold a29
  have g := box2_get f n h
  have c0 := ld_cell g (i := 0) rfl
  have c1 := ld_cell g (i := 1) rfl
  unfold okC at hf
  have k1 : ¬ f < 0 := by omega
  have k2 : ¬ 4294967295 < f := by omega
  have k3 : ¬ n < 0 := by omega
  have k4 : ¬ 4294967295 < n := by omega
  have kb : Keep h.next h (h.new (box2 f n)) := (Keep.refl _ _).new (Nat.le_refl _) _
  have zo := zeros_own 512 (h.new (box2 f n)) (N := h.next) (by simp)
  have kz : Keep h.next h ((h.new (box2 f n)).new (.row false 0 (mkZero true 1 [.int .u8 0] 512))) := kb.new (Nat.le_refl _) _
  generalize hG : (h.new (box2 f n)).new (.row false 0 (mkZero true 1 [.int .u8 0] 512)) = G at zo kz
  generalize hv : Value.slice (some ⟨(h.new (box2 f n)).next, 0, none⟩) 512 512 = v at zo
  have gG : G.get h.next = .row false 0 (.vals [.int .i64 f, .int .i64 n]) := by
    rw [← hG, AHeap.get_new, if_neg (by simp)]; exact g
  have hne : ∀ m o n c, v = .slice (some ⟨m, o, none⟩) n c → h.next ≠ m := by
    intro m o n c q; rw [← hv] at q; injection q with q; injection q with q; injection q with q; simp at q; omega
  have l0 := z512_len
  obtain ⟨r1, G1, e1, rfl, o1, kk1, u1⟩ := put32i L d v z512 0 0 rfl 1096897106 h.next G zo (by omega) (by omega) (by omega) (by omega)
  have l1 : (wth z512 0 (by4 1096897106)).length = 512 := by rw [wth4_len _ (by omega)]; exact l0
  obtain ⟨r2, G2, e2, rfl, o2, kk2, u2⟩ := put32i L d v _ 484 484 rfl 1631679090 h.next G1 o1 (by omega) (by omega) (by omega) (by omega)
  have l2 : (wth (wth z512 0 (by4 1096897106)) 484 (by4 1631679090)).length = 512 := by rw [wth4_len _ (by omega)]; exact l1
  have g2 := ((u1.trans u2).2 h.next hne).trans gG
  have c20 := ld_cell g2 (i := 0) rfl
  obtain ⟨r3, G3, e3, rfl, o3, kk3, u3⟩ := put32i L d v _ 488 488 rfl f h.next G2 o2 (by omega) (by omega) (by omega) (by omega)
  have l3 : (wth (wth (wth z512 0 (by4 1096897106)) 484 (by4 1631679090)) 488 (by4 f)).length = 512 := by rw [wth4_len _ (by omega)]; exact l2
  have g3 := (u3.2 h.next hne).trans g2
  have c31 := ld_cell g3 (i := 1) rfl
  obtain ⟨r4, G4, e4, rfl, o4, kk4, u4⟩ := put32i L d v _ 492 492 rfl n h.next G3 o3 (by omega) (by omega) (by omega) (by omega)
  have l4 : (wth (wth (wth (wth z512 0 (by4 1096897106)) 484 (by4 1631679090)) 488 (by4 f)) 492 (by4 n)).length = 512 := by rw [wth4_len _ (by omega)]; exact l3
  obtain ⟨r5, G5, e5, rfl, o5, kk5, u5⟩ := put32i L d v _ 508 508 rfl 2857697280 h.next G4 o4 (by omega) (by omega) (by omega) (by omega)
  have zm : aMake true EK1 (.int .i64 512) (.int .i64 512) (h.new (box2 f n)) = some (v, G) := by rw [← hv, ← hG]; exact zeros_make 512 (h.new (box2 f n)) (by omega)
  simp (disch := omega) [box2_new, c0, c1, k1, k2, k3, k4, zm, e1, e2, c20, e3, c31, e4, e5, wrapF_u32, skip0]
  exact ⟨o5, kz.trans (kk1.trans (kk2.trans (kk3.trans (kk4.trans kk5))))⟩
theorem parsec (L d : Nat) (v : Value) (l : List Int) (f n : Int) (h : AHeap) (hv : SlB h v l) (hb : Byt l) (hl : l.length = 512) (h0 : le4 l 0 = 1096897106) (h1 : le4 l 484 = 1631679090) (h2 : le4 l 488 = f) (h3 : le4 l 492 = n) (h4 : le4 l 508 = 2857697280) :
    ∃ r h', (En (L + 10) (d + 4)).go 30 [v] h = some (r, h') ∧ r = .tuple #[cntV f n, .int .i64 0] ∧ Keep h.next h h' := by
  refine go_ex (R := fun r h' => r = .tuple #[cntV f n, .int .i64 0] ∧ Keep h.next h h') (show tabF 30 = some (.code a30) by rfl) rfl ?_
  unfold a30
  obtain ⟨m, off, cap, rfl, hm, hr⟩ := hv.row (by omega)
  have hal : aNew true [.int .i64 0, .int .i64 0] h = some (.pointer (some ⟨h.next, 0, none⟩), h.new (box2 0 0)) := by simp [aNew, one, box2]
  have kb : Keep h.next h (h.new (box2 0 0)) := (Keep.refl _ _).new (Nat.le_refl _) _
  have hr1 := hr.keep kb hm
  have u := fun (a : Int) (a0 : 0 ≤ a) (a1 : a + 4 ≤ l.length) => u32_yes L d m off cap a l l.length rfl (h.new (box2 0 0)) (by omega) hr1 hb a0 a1
  have e0 := u 0 (by omega) (by omega)
  have e1 := u 484 (by omega) (by omega)
  have e2 := u 488 (by omega) (by omega)
  have e3 := u 492 (by omega) (by omega)
  have e4 := u 508 (by omega) (by omega)
  rw [h0] at e0; rw [h1] at e1; rw [h2] at e2; rw [h3] at e3; rw [h4] at e4
  have b2 := le4_bd hb 488
  have b3 := le4_bd hb 492
  rw [h2] at b2; rw [h3] at b3
  rw [hl] at e0 e1 e2 e3 e4 ⊢
  obtain ⟨H, s1, s2, s3, s4⟩ := store_new h [.int .i64 0, .int .i64 0] #[.int .i64 f, .int .i64 n] 2 rfl rfl rfl
  have s1 : aStore 2 (.pointer (some ⟨h.next, 0, none⟩)) (cntV f n) (h.new (box2 0 0)) = some H := s1
  have bd : aBuild (.str [.int .i64 0, .int .i64 0] [(0, 1), (1, 1)]) [(0, .int .i64 f), (1, .int .i64 n)] = some (cntV f n) := rfl
  have lg : aLoad (some 2) (.pointer (some ⟨h.next, 0, none⟩)) H = some (cntV f n) := ld_agg s2 (n := 2) rfl
  simp (disch := omega) [hal, e0, e1, e2, e3, e4, wrapF_i64, bd, s1, lg]
  exact s3
end Go.Proofs.Ytgapfoaklgganaa.L16
