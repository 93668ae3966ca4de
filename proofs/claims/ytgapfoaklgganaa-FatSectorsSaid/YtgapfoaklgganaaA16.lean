import Derived.Test.YtgapfoaklgganaaZ16
set_option linter.unusedVariables false
set_option linter.unusedSimpArgs false
set_option linter.unnecessarySimpa false
/-! FatSectors over the executor. -/
namespace Go.Proofs.Ytgapfoaklgganaa.L16
open Go Go.AM Go.Proofs.Ytgapfoaklgganaa.AMC
set_option maxRecDepth 10000
theorem ofb (L d : Nat) (e a t s g r i c : Int) (h : AHeap) :
    ∃ r' h', (En L (d + 1)).go 25 [btV e a t s g r i c] h = some (r', h') ∧ r' = btV e a t s g r i c ∧ Keep h.next h h' := by
  refine go_ex (R := fun r' h' => r' = btV e a t s g r i c ∧ Keep h.next h h') (show tabF 25 = some (.code a25) by rfl) rfl ?_
  unfold a25
  have gg := box8_get e a t s g r i c h
  have kb : Keep h.next h (h.new (box8 e a t s g r i c)) := (Keep.refl _ _).new (Nat.le_refl _) _
  have bn := box8_new e a t s g r i c h
  have x1 : (h.new (box8 e a t s g r i c)).next = h.next + 1 := rfl
  generalize h.new (box8 e a t s g r i c) = H1 at gg kb bn x1
  have hal : aNew true [.int .i64 0, .int .i64 0, .int .i64 0, .int .i64 0, .int .i64 0, .int .i64 0, .int .i64 0, .int .i64 0] H1 = some (.pointer (some ⟨H1.next, 0, none⟩), H1.new (box8 0 0 0 0 0 0 0 0)) := by simp [aNew, one, box8]
  have k2 : Keep H1.next H1 (H1.new (box8 0 0 0 0 0 0 0 0)) := (Keep.refl _ _).new (Nat.le_refl _) _
  have gz : (H1.new (box8 0 0 0 0 0 0 0 0)).get H1.next = .row false 0 (.vals (btL 0 0 0 0 0 0 0 0)) := by rw [AHeap.get_new, if_pos rfl]; rfl
  have x2 : (H1.new (box8 0 0 0 0 0 0 0 0)).next = H1.next + 1 := rfl
  generalize H1.new (box8 0 0 0 0 0 0 0 0) = H2 at hal k2 gz x2
  have g2 := (k2.get h.next (by omega)).trans gg
  have c0 := ld_cell g2 (i := 0) rfl
  have c1 := ld_cell g2 (i := 1) rfl
  have c2 := ld_cell g2 (i := 2) rfl
  have c3 := ld_cell g2 (i := 3) rfl
  have c4 := ld_cell g2 (i := 4) rfl
  have c5 := ld_cell g2 (i := 5) rfl
  have c6 := ld_cell g2 (i := 6) rfl
  have c7 := ld_cell g2 (i := 7) rfl
  have st := store_at gz #[.int .i64 e, .int .i64 a, .int .i64 t, .int .i64 s, .int .i64 g, .int .i64 r, .int .i64 i, .int .i64 c] 8 rfl rfl rfl
  have lg : aLoad (some 8) (.pointer (some ⟨H1.next, 0, none⟩)) (H2.set H1.next (.row false 0 (.vals #[.int .i64 e, .int .i64 a, .int .i64 t, .int .i64 s, .int .i64 g, .int .i64 r, .int .i64 i, .int .i64 c].toList))) = some (btV e a t s g r i c) := ld_agg (l := btL e a t s g r i c) (by rw [AHeap.get_set, if_pos rfl]) (n := 8) rfl
  have kf : Keep h.next h (H2.set H1.next (.row false 0 (.vals #[.int .i64 e, .int .i64 a, .int .i64 t, .int .i64 s, .int .i64 g, .int .i64 r, .int .i64 i, .int .i64 c].toList))) := (kb.trans (k2.less (by omega))).set (by omega) (by omega) _
  generalize H2.set H1.next (.row false 0 (.vals #[.int .i64 e, .int .i64 a, .int .i64 t, .int .i64 s, .int .i64 g, .int .i64 r, .int .i64 i, .int .i64 c].toList)) = F at st lg kf
  simp (disch := omega) [bn, hal, c0, c1, c2, c3, c4, c5, c6, c7, build8, st, lg]
  exact kf
set_option maxHeartbeats 2000000 in
theorem law_sectors (L d : Nat) (e a t s g r i c : Int) (v : Value) (l : List Int) (h : AHeap) (hw : Wf h) (hb : Byt l) (hs : SlB h v l) :
    ∃ r' h', (En (L + 10) (d + 5)).go 4 [btV e a t s g r i c, v] h = some (r', h') ∧ r' = .bool true := by
  refine go_ex (R := fun r' _ => r' = .bool true) (show tabF 4 = some (.code a4) by rfl) rfl ?_
  unfold a4
  have g21 := fun h => go21 (L + 10) (d + 3) h
  have gg := box8_get e a t s g r i c h
  have kb : Keep h.next h (h.new (box8 e a t s g r i c)) := (Keep.refl _ _).new (Nat.le_refl _) _
  have bn := box8_new e a t s g r i c h
  have x1 : (h.new (box8 e a t s g r i c)).next = h.next + 1 := rfl
  have wf1 := kb.wf hw
  generalize h.new (box8 e a t s g r i c) = H1 at gg kb bn x1 wf1
  have s1 := hs.keep kb (Nat.le_refl _)
  obtain ⟨xv, qv, rfl⟩ := hs.val
  by_cases h1 : 600 < (l.length : Int)
  · simp (disch := omega) [bn, h1, g21]
  · obtain ⟨v2, H2, e2, o2, k2⟩ := part_spec (L + 10) (d + 3) _ l 0 l.length H1 s1 (by omega) (by omega)
    have e2 : (En (L + 10) (d + 4)).go 22 [.slice xv l.length qv, .int .i64 0, .int .i64 l.length] H1 = some (v2, H2) := e2
    rw [List.drop_zero, List.take_of_length_le (Nat.le_refl _)] at o2
    have g2 := (k2.get h.next (by omega)).trans gg
    have cg2 := ld_agg g2 (n := 8) rfl
    have s2 := s1.keep k2 (Nat.le_refl _)
    have x2 := k2.next
    by_cases h2 : l.length = 512
    · have h2' : (l.length : Int) = 512 := by omega
      by_cases hk : chk e a t s g r i c = 0
      · obtain ⟨_, H3, e3, rfl, o3, k3⟩ := putb_ok L d l e a t s g r i c v2 H1.next H2 (by omega) o2 h2 hk
        have K3 : Keep H1.next H1 H3 := k2.trans k3
        have x3 := k3.next
        have g3 := (k3.get h.next (by omega)).trans g2
        have cg3 := ld_agg g3 (n := 8) rfl
        obtain ⟨_, H4, e4, rfl, k4⟩ := ofb (L + 10) (d + 3) e a t s g r i c H3
        have x4 := k4.next
        obtain ⟨_, H5, e5, rfl, k5⟩ := chk26 (L + 10) (d + 1) e a t s g r i c H4
        rw [hk] at e5
        have x5 := k5.next
        have o5 := (o3.keep k4 (Nat.le_refl _)).keep k5 (Nat.le_refl _)
        have K5 : Keep H1.next H1 H5 := (K3.trans (k4.less (by omega))).trans (k5.less (by omega))
        have bl := bootL_len e a t s g r i c h2
        have rg := chk_rng hk
        have bb := bootL_byt (b := l) e a t s g r i c hb ⟨by have := rg.e0; omega, by have := rg.e1; omega⟩ ⟨by have := rg.t0; omega, by have := rg.t1; omega⟩
        obtain ⟨_, H6, e6, rfl, k6⟩ := parseb L d (bootL l e a t s g r i c) e a t s g r i c v2 H5 (K5.wf wf1) o5.sl bb bl (bootL_rd h2 rg) hk
        have x6 := k6.next
        have hal : aNew true [.int .i64 0, .int .i64 0, .int .i64 0, .int .i64 0, .int .i64 0, .int .i64 0, .int .i64 0, .int .i64 0] H6 = some (.pointer (some ⟨H6.next, 0, none⟩), H6.new (box8 0 0 0 0 0 0 0 0)) := by simp [aNew, one, box8]
        obtain ⟨H7, st, g7, k7, x7⟩ := store_new H6 (btL 0 0 0 0 0 0 0 0) #[.int .i64 e, .int .i64 a, .int .i64 t, .int .i64 s, .int .i64 g, .int .i64 r, .int .i64 i, .int .i64 c] 8 rfl rfl rfl
        have st : aStore 8 (.pointer (some ⟨H6.next, 0, none⟩)) (btV e a t s g r i c) (H6.new (box8 0 0 0 0 0 0 0 0)) = some H7 := st
        have o7 := (o5.keep k6 (Nat.le_refl _)).keep k7 (Nat.le_refl _)
        have K7 : Keep H1.next H1 H7 := (K5.trans (k6.less (by omega))).trans (k7.less (by omega))
        have gb7 := (K7.get h.next (by omega)).trans gg
        have cg7 := ld_agg gb7 (n := 8) rfl
        obtain ⟨_, H8, e8, rfl, k8⟩ := ofb (L + 10) (d + 3) e a t s g r i c H7
        have x8 := k8.next
        have K8 : Keep H1.next H1 H8 := K7.trans (k8.less (by omega))
        obtain ⟨v9, H9, e9, o9, k9⟩ := refb L d l e a t s g r i c (.slice xv l.length qv) H8 (s1.keep K8 (Nat.le_refl _)) h2 hk
        have x9 := k9.next
        have K9 : Keep H1.next H1 H9 := K8.trans (k9.less (by omega))
        have o9' := (o7.keep k8 (Nat.le_refl _)).keep k9 (Nat.le_refl _)
        have es := same_spec (L + 10) (d + 3) v2 v9 _ _ H9 o9'.sl o9.sl bb bb
        have gb9 := (K9.get h.next (by omega)).trans gg
        have cg9 := ld_agg gb9 (n := 8) rfl
        have gs9 := (k9.get H6.next (by omega)).trans ((k8.get H6.next (by omega)).trans g7)
        have ls9 : aLoad (some 8) (.pointer (some ⟨H6.next, 0, none⟩)) H9 = some (btV e a t s g r i c) := ld_agg gs9 (n := 8) rfl
        have eq : aEqL (btV e a t s g r i c) (btV e a t s g r i c) [(0, .int), (1, .int), (2, .int), (3, .int), (4, .int), (5, .int), (6, .int), (7, .int)] = some true := by simp [aEqL, cellEq, cellAt]
        rw [h2', h2] at e2
        rw [h2] at e9
        rw [h2]
        simp (disch := omega) [bn, e2, cg2, e3, cg3, e4, e5, e6, hal, st, g21, cg7, e8, e9, es, ls9, cg9, eq, isAggV]
      · obtain ⟨_, H3, e3, rfl, k3⟩ := putb_bad (L + 10) d l e a t s g r i c v2 H2 o2.sl h2 hk
        have x3 := k3.next
        have K3 : Keep H1.next H1 H3 := k2.trans (k3.less (by omega))
        have g3 := (k3.get h.next (by omega)).trans g2
        have cg3 := ld_agg g3 (n := 8) rfl
        obtain ⟨_, H4, e4, rfl, k4⟩ := ofb (L + 10) (d + 3) e a t s g r i c H3
        have x4 := k4.next
        obtain ⟨_, H5, e5, rfl, k5⟩ := chk26 (L + 10) (d + 1) e a t s g r i c H4
        have o5 := ((o2.keep k3 (Nat.le_refl _)).keep k4 (Nat.le_refl _)).keep k5 (Nat.le_refl _)
        have K5 : Keep H1.next H1 H5 := (K3.trans (k4.less (by omega))).trans (k5.less (by omega))
        have es := same_spec (L + 10) (d + 3) v2 (.slice xv l.length qv) l l H5 o5.sl (s1.keep K5 (Nat.le_refl _)) hb hb
        have hk' : ¬ chk e a t s g r i c = 0 := hk
        rw [h2', h2] at e2
        rw [h2] at es
        rw [h2]
        simp (disch := omega) [bn, e2, cg2, e3, cg3, e4, e5, hk', g21, es]
    · have e3 := putb_len (L + 10) (d + 3) l e a t s g r i c v2 H2 o2.sl h2
      have k3 : Keep H2.next H2 (H2.new (box8 e a t s g r i c)) := (Keep.refl _ _).new (Nat.le_refl _) _
      have h2' : ¬ (l.length : Int) = 512 := by omega
      have es := same_spec (L + 10) (d + 3) v2 (.slice xv l.length qv) l l _ (o2.sl.keep k3 (Nat.le_refl _)) (s2.keep k3 (Nat.le_refl _)) hb hb
      simp (disch := omega) [bn, h1, e2, cg2, e3, h2', g21, es]
end Go.Proofs.Ytgapfoaklgganaa.L16
