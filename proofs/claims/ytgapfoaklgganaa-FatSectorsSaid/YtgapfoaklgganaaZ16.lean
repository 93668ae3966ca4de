import Derived.Test.YtgapfoaklgganaaY16
import Derived.KernelRfl
set_option linter.unusedVariables false
set_option linter.unusedSimpArgs false
set_option linter.unnecessarySimpa false
/-! A boot is parsed as it was written. -/
namespace Go.Proofs.Ytgapfoaklgganaa.L16
open Go Go.AM Go.Proofs.Ytgapfoaklgganaa.AMC
set_option maxRecDepth 10000
theorem build8 (e a t s g r i c : Int) : aBuild (.str [.int .i64 0, .int .i64 0, .int .i64 0, .int .i64 0, .int .i64 0, .int .i64 0, .int .i64 0, .int .i64 0] [(0, 1), (1, 1), (2, 1), (3, 1), (4, 1), (5, 1), (6, 1), (7, 1)]) [(0, .int .i64 e), (1, .int .i64 a), (2, .int .i64 t), (3, .int .i64 s), (4, .int .i64 g), (5, .int .i64 r), (6, .int .i64 i), (7, .int .i64 c)] = some (btV e a t s g r i c) := by
  kernel_rfl
theorem store_at {H : AHeap} {m : Nat} {gr : Nat} {old : List Value} (hg : H.get m = .row false gr (.vals old)) (vs : Array Value) (sz : Nat) (h1 : vs.size = sz) (h2 : old.length = sz) (h3 : vs.toList.all one = true) :
    aStore sz (.pointer (some ⟨m, 0, none⟩)) (.agg vs) H = some (H.set m (.row false gr (.vals vs.toList))) := by
  have hc : (Value.agg vs).cells = vs := rfl
  simp only [aStore, hg, hc]
  rw [if_pos ⟨h1, by simp only [Cells.size]; omega, h3⟩]
  have hl : vs.toList.length = sz := by simpa using h1
  simp only [cellsOf, hc, Cells.blit, Cells.ext, Cells.app, Cells.size, Cells.toList]
  simp [h1, h2]
set_option maxHeartbeats 1000000 in
theorem parseb (L d : Nat) (B : List Int) (e a t s g r i c : Int) (v : Value) (h : AHeap) (hw : Wf h) (hv : SlB h v B) (hb : Byt B) (hl : B.length = 512) (hR : Rd B e a t s g r i c) (hk : chk e a t s g r i c = 0) :
    ∃ r' h', (En (L + 10) (d + 4)).go 27 [v] h = some (r', h') ∧ r' = .tuple #[btV e a t s g r i c, .int .i64 0] ∧ Keep h.next h h' := by
  refine go_ex (R := fun r' h' => r' = .tuple #[btV e a t s g r i c, .int .i64 0] ∧ Keep h.next h h') (show tabF 27 = some (.code a27) by rfl) rfl ?_
  unfold a27
  obtain ⟨e0, e1, t0, t1, s0, s1, g0, g1, a0, a1, i0, i1, c0, c1, r0, r1⟩ := chk_rng hk
  obtain ⟨m, off, cap, ev, hm, hr⟩ := hv.row (by omega)
  have hal : aNew true [.int .i64 0, .int .i64 0, .int .i64 0, .int .i64 0, .int .i64 0, .int .i64 0, .int .i64 0, .int .i64 0] h = some (.pointer (some ⟨h.next, 0, none⟩), h.new (box8 0 0 0 0 0 0 0 0)) := by simp [aNew, one, box8]
  have kb : Keep h.next h (h.new (box8 0 0 0 0 0 0 0 0)) := (Keep.refl _ _).new (Nat.le_refl _) _
  have hr1 := hr.keep kb hm
  have hv1 := hv.keep kb (Nat.le_refl _)
  have gz : (h.new (box8 0 0 0 0 0 0 0 0)).get h.next = .row false 0 (.vals (btL 0 0 0 0 0 0 0 0)) := by rw [AHeap.get_new, if_pos rfl]; rfl
  have hn1 : (h.new (box8 0 0 0 0 0 0 0 0)).next = h.next + 1 := rfl
  generalize hH1 : h.new (box8 0 0 0 0 0 0 0 0) = H1 at hal kb hr1 hv1 gz hn1
  have u4 := fun (x : Int) (x0 : 0 ≤ x) (x1 : x + 4 ≤ B.length) => u32_yes L d m off cap x B B.length rfl H1 (by omega) hr1 hb x0 x1
  have u2 := fun (x : Int) (x0 : 0 ≤ x) (x1 : x + 2 ≤ B.length) => u16_yes L d m off cap x B B.length rfl H1 (by omega) hr1 hb x0 x1
  have p11 := u2 11 (by omega) (by omega); rw [hR.x11] at p11
  have p14 := u2 14 (by omega) (by omega); rw [hR.x14] at p14
  have p17 := u2 17 (by omega) (by omega); rw [hR.x17] at p17
  have p19 := u2 19 (by omega) (by omega); rw [hR.x19] at p19
  have p22 := u2 22 (by omega) (by omega); rw [hR.x22] at p22
  have p32 := u4 32 (by omega) (by omega); rw [hR.x32] at p32
  have p36 := u4 36 (by omega) (by omega); rw [hR.x36] at p36
  have p40 := u4 40 (by omega) (by omega); rw [hR.x40] at p40
  have p44 := u4 44 (by omega) (by omega); rw [hR.x44] at p44
  have p48 := u2 48 (by omega) (by omega); rw [hR.x48] at p48
  have p50 := u2 50 (by omega) (by omega); rw [hR.x50] at p50
  clear u4 u2
  obtain ⟨vs, c1s, s1s⟩ := cutB hv1 (lo := some (.int .i64 82)) (hi := some (.int .i64 90)) 82 90 (.inr ⟨_, rfl⟩) (.inr ⟨_, rfl⟩) (by omega) (by omega)
  have s2s : SlB H1 vs sig := by have := s1s; rw [show 90 - 82 = 8 from rfl, hR.sg] at this; exact this
  have str := s2s.str
  have d510 := hr1.rd (i := 510) (by omega) (by omega); rw [hR.x510] at d510
  have d511 := hr1.rd (i := 511) (by omega) (by omega); rw [hR.x511] at d511
  have d13 := hr1.rd (i := 13) (by omega) (by omega); rw [hR.x13] at d13
  have d16 := hr1.rd (i := 16) (by omega) (by omega); rw [hR.x16] at d16
  have d13s := (hr1.skip 1).rd (i := 13) (by omega) (by omega); rw [hR.x13] at d13s
  have d16s := (hr1.skip 1).rd (i := 16) (by omega) (by omega); rw [hR.x16] at d16s
  have hso : (strOf sig).data.toList = [70, 65, 84, 51, 50, 32, 32, 32] := by decide
  rw [hl] at *
  subst ev
  have n510 : (510 : Int).toNat = 510 := rfl
  have n511 : (511 : Int).toNat = 511 := rfl
  have n13 : (13 : Int).toNat = 13 := rfl
  have n16 : (16 : Int).toNat = 16 := rfl
  rw [n510] at d510; rw [n511] at d511; rw [n13] at d13 d13s; rw [n16] at d16 d16s
  have hH1u : h.new (.row false 0 (.vals [.int .i64 0, .int .i64 0, .int .i64 0, .int .i64 0, .int .i64 0, .int .i64 0, .int .i64 0, .int .i64 0])) = H1 := hH1
  have hd := (kb.wf hw) H1.next (Nat.le_refl _)
  obtain ⟨H2, st1, g1, n1, kk⟩ := store_set (H1.skip 1) H1.next (btL 0 0 0 0 0 0 0 0) #[.int .i64 e, .int .i64 a, .int .i64 t, .int .i64 s, .int .i64 g, .int .i64 r, .int .i64 i, .int .i64 c] 8 rfl rfl rfl
  have k12 := kk H1.next H1 ((Keep.refl _ _).skip 1) (Nat.le_refl _) (by rw [AHeap.next_skip]; omega)
  have lg2 : aLoad (some 8) (.pointer (some ⟨H1.next, 0, none⟩)) H2 = some (btV e a t s g r i c) := ld_agg g1 (n := 8) rfl
  have nH2 : H2.next = H1.next + 1 := by rw [n1, AHeap.next_skip]
  obtain ⟨_, H3, ec, rfl, k23⟩ := chk61 (L + 10) d e a t s g r i c H2
  rw [hk] at ec
  have g3 := (k23.get H1.next (by omega)).trans g1
  have lg3 : aLoad (some 8) (.pointer (some ⟨H1.next, 0, none⟩)) H3 = some (btV e a t s g r i c) := ld_agg g3 (n := 8) rfl
  have gz3 := (k23.get h.next (by omega)).trans ((k12.get h.next (by omega)).trans gz)
  have st3 := store_at gz3 #[.int .i64 e, .int .i64 a, .int .i64 t, .int .i64 s, .int .i64 g, .int .i64 r, .int .i64 i, .int .i64 c] 8 rfl rfl rfl
  have lg4 : aLoad (some 8) (.pointer (some ⟨h.next, 0, none⟩)) (H3.set h.next (.row false 0 (.vals #[.int .i64 e, .int .i64 a, .int .i64 t, .int .i64 s, .int .i64 g, .int .i64 r, .int .i64 i, .int .i64 c].toList))) = some (btV e a t s g r i c) := ld_agg (l := btL e a t s g r i c) (by rw [AHeap.get_set, if_pos rfl]) (n := 8) rfl
  have kfin : Keep h.next h (H3.set h.next (.row false 0 (.vals #[.int .i64 e, .int .i64 a, .int .i64 t, .int .i64 s, .int .i64 g, .int .i64 r, .int .i64 i, .int .i64 c].toList))) := by
    have k03 : Keep h.next h H3 := (kb.trans (k12.less (by omega))).trans (k23.less (by omega))
    exact k03.set (Nat.le_refl _) (by have := k23.next; omega) _
  generalize hF : H3.set h.next (.row false 0 (.vals #[.int .i64 e, .int .i64 a, .int .i64 t, .int .i64 s, .int .i64 g, .int .i64 r, .int .i64 i, .int .i64 c].toList)) = F at st3 lg4 kfin
  have bd : aBuild (.str [.int .i64 0, .int .i64 0, .int .i64 0, .int .i64 0, .int .i64 0, .int .i64 0, .int .i64 0, .int .i64 0] [(0, 1), (1, 1), (2, 1), (3, 1), (4, 1), (5, 1), (6, 1), (7, 1)]) [(0, .int .i64 e), (1, .int .i64 a), (2, .int .i64 t), (3, .int .i64 s), (4, .int .i64 g), (5, .int .i64 r), (6, .int .i64 i), (7, .int .i64 c)] = some (btV e a t s g r i c) := build8 e a t s g r i c
  simp (disch := omega) [hH1u, d13s, d16s, bd, one, aNew, AHeap.get_skip, hd, AObj.live, st1, lg2, ec, lg3, st3, lg4, d510, d511, aIndexSl_ok, c1s, str, aStr, hso, p11, p14, p17, p19, p22, p32, p36, p40, p44, p48, p50, wrapF_i64, d13, d16, skip0]
  exact kfin
end Go.Proofs.Ytgapfoaklgganaa.L16
