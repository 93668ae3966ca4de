import Derived.Test.YtoehafeeoggpkaaT24
import Derived.Test.YtoehafeeoggpkaaR24
import Derived.Test.YtoehafeeoggpkaaQ24
set_option linter.unusedVariables false
set_option linter.unusedSimpArgs false
set_option linter.unnecessarySimpa false
/-! Parse, by the program. -/
namespace Go.Proofs.Ytoehafeeoggpkaa.L24
open Go Go.Proofs Go.Shelf Go.RowKit Go.Lib Go.Sort Go.AM Go.Proofs.Ytoehafeeoggpkaa.AMC
set_option maxRecDepth 10000
noncomputable section
theorem ex6_0 (a b c d e f : Value) : aExtract 0 (.tuple #[a, b, c, d, e, f]) = some a := rfl
theorem ex6_1 (a b c d e f : Value) : aExtract 1 (.tuple #[a, b, c, d, e, f]) = some b := rfl
theorem ex6_2 (a b c d e f : Value) : aExtract 2 (.tuple #[a, b, c, d, e, f]) = some c := rfl
theorem ex6_3 (a b c d e f : Value) : aExtract 3 (.tuple #[a, b, c, d, e, f]) = some d := rfl
theorem ex6_4 (a b c d e f : Value) : aExtract 4 (.tuple #[a, b, c, d, e, f]) = some e := rfl
theorem ex6_5 (a b c d e f : Value) : aExtract 5 (.tuple #[a, b, c, d, e, f]) = some f := rfl
theorem ex3_0 (a b c : Value) : aExtract 0 (.tuple #[a, b, c]) = some a := rfl
theorem ex3_1 (a b c : Value) : aExtract 1 (.tuple #[a, b, c]) = some b := rfl
theorem ex3_2 (a b c : Value) : aExtract 2 (.tuple #[a, b, c]) = some c := rfl
def ProR (l : List Int) (r : Value) (h' : AHeap) : Prop :=
  (pErr l ≠ 0 ∧ r = .tuple #[.agg zeroT.cells.toArray, .int .i64 (pErr l)]) ∨ (pErr l = 0 ∧ ∃ w, r = .tuple #[.agg (pTb l w).cells.toArray, .int .i64 0] ∧ SlC Ent.cells 114 h' w (pL l))
theorem ProR.bad {l : List Int} {h' : AHeap} {c : Int} (e : pErr l = c) (hc : c ≠ 0) : ProR l (.tuple #[.agg zeroT.cells.toArray, .int .i64 c]) h' := .inl ⟨by rw [e]; exact hc, by rw [e]⟩
theorem zero_out {H : AHeap} {m : Nat} (g : H.get m = .row false 0 (.vals zeroT.cells)) : aStore 22 (.pointer (some ⟨m, 0, none⟩)) (.agg zeroT.cells.toArray) H = some (H.set m (.row false 0 (.vals zeroT.cells))) ∧ aLoad (some 22) (.pointer (some ⟨m, 0, none⟩)) (H.set m (.row false 0 (.vals zeroT.cells))) = some (.agg zeroT.cells.toArray) :=
  ⟨store_at g zeroT.cells.toArray 22 rfl rfl rfl, ld_agg (by rw [AHeap.get_set, if_pos rfl]) rfl⟩
theorem ld16 {H : AHeap} {m : Nat} {t : Tb} (g : H.get m = .row false 0 (.vals t.cells)) (o : t.id.length = 16) : aLoad (some 16) (.pointer (some ⟨m, 3, none⟩)) H = some (.agg (byV t.id).toArray) := by
  have hl : t.cells.length = 22 := by simp [Tb.cells, o]
  have hsz : 3 + 16 ≤ (Cells.vals t.cells).size := by show _ ≤ t.cells.length; omega
  simp only [aLoad, g]
  rw [if_pos hsz]
  simp only [Cells.ext, Cells.toList]
  have e : t.cells.drop 3 = byV t.id ++ [t.sl, .int .i64 t.at_, .int .i64 t.be] := rfl
  rw [e, List.take_left' (by rw [byV_length, o])]
theorem ext_rd {a b : List Int} (hl : a.length = b.length) (h : ∀ i, i < a.length → rdI a (i : Int) = rdI b (i : Int)) : a = b := by
  apply List.ext_getElem hl
  intro i h1 h2
  have := h i h1
  simpa [rdI, h1, h2] using this
theorem eq16 {a b : List Int} (ha : a.length = 16) (hb : b.length = 16) : aEqL (.agg (byV a).toArray) (.agg (byV b).toArray) [(0, .int), (1, .int), (2, .int), (3, .int), (4, .int), (5, .int), (6, .int), (7, .int), (8, .int), (9, .int), (10, .int), (11, .int), (12, .int), (13, .int), (14, .int), (15, .int)] = some (decide (a = b)) := by
  have e : ([(0, .int), (1, .int), (2, .int), (3, .int), (4, .int), (5, .int), (6, .int), (7, .int), (8, .int), (9, .int), (10, .int), (11, .int), (12, .int), (13, .int), (14, .int), (15, .int)] : List (Nat × LeafK)) = (List.range 16).map fun i => (i, LeafK.int) := rfl
  rw [e, aEqL_int (f := fun i => rdI a i) (g := fun i => rdI b i) (kk := fun _ => .u8)]
  · congr 1
    rw [Bool.eq_iff_iff, List.all_eq_true, decide_eq_true_eq]
    constructor
    · intro h
      refine ext_rd (by omega) fun i hi => ?_
      have := h i (List.mem_range.2 (by omega))
      simpa using this
    · intro h i _
      rw [h]; simp
  · intro i hi
    have hi := List.mem_range.1 hi
    constructor
    · simp only [cellAt, Array.getD_eq_getD_getElem?, List.getElem?_toArray, byV_at (show i < a.length by omega), Option.getD_some]
    · simp only [cellAt, Array.getD_eq_getD_getElem?, List.getElem?_toArray, byV_at (show i < b.length by omega), Option.getD_some]
theorem rowE_cases {l : List Int} {a n : Nat} {S : Int} {N : Nat} {r : Value} {h' : AHeap} (hr : RowR l a n S N r h') : (rowE l a n S ≠ 0 ∧ r = .tuple #[.slice none 0 0, .int .i64 (rowE l a n S)]) ∨ (rowE l a n S = 0 ∧ ∃ w, r = .tuple #[w, .int .i64 0] ∧ Own N h' 114 w n (flatC Ent.cells (entsO (sec l (a * 512) (n * 128)) n)) ∧ a * 512 + n * 128 ≤ l.length) := by
  rcases hr with ⟨h1, rfl⟩ | ⟨h1, h2, rfl⟩ | ⟨h1, h2, w, rfl, ow⟩
  · have e : rowE l a n S = 4 := by unfold rowE; rw [if_pos h1]
    exact .inl ⟨by rw [e]; decide, by rw [e]⟩
  · have e : rowE l a n S = 12 := by unfold rowE; rw [if_neg (by omega), if_neg h2]
    exact .inl ⟨by rw [e]; decide, by rw [e]⟩
  · have e : rowE l a n S = 0 := by unfold rowE; rw [if_neg (by omega), if_pos h2]
    exact .inr ⟨e, w, rfl, ow, h1⟩
set_option maxHeartbeats 16000000 in
theorem parse_spec (L d : Nat) (v : Value) (l : List Int) (h : AHeap) (hw : Wf h) (hv : SlB h v l) (hb : Byt l) (hl : l.length < 1000000) (hL : 1000000000 < L) :
    ∃ r h', (En L (d + 7)).go 21 [.iface 42 v] h = some (r, h') ∧ ProR l r h' ∧ Keep h.next h h' := by
  refine go_ex (R := fun r h' => ProR l r h' ∧ Keep h.next h h') (show tabF 21 = some (.code a21) by rfl) rfl ?_
  unfold a21
  obtain ⟨x, c, ev⟩ := hv.val
  have al := new22 h
  obtain ⟨h1, hh1⟩ : ∃ h1, h.new (.row false 0 (.vals zeroT.cells)) = h1 := ⟨_, rfl⟩
  rw [hh1] at al
  have k1 : Keep h.next h h1 := by rw [← hh1]; exact (Keep.refl _ _).new (Nat.le_refl _) _
  have n1 : h1.next = h.next + 1 := by rw [← hh1]; simp
  have g1 : h1.get h.next = .row false 0 (.vals zeroT.cells) := by rw [← hh1, AHeap.get_new, if_pos rfl]
  have hv1 := hv.keep k1 (Nat.le_refl _)
  have iS : ∀ H, invO (En L (d + 6)) (.iface 42 v) mtS [] H = some (.int .i64 l.length, H) := fun H => by rw [invS, ev]; exact msize L (d + 5) x l.length c H
  have t1 : (l.length : Int).tdiv 512 = (secN l : Int) := by rw [Int.tdiv_eq_ediv_of_nonneg (by omega)]; unfold secN; omega
  have t2 : (l.length : Int).tmod 512 = ((l.length % 512 : Nat) : Int) := by rw [Int.tmod_eq_emod_of_nonneg (by omega)]; omega
  have hN : secN l < 2000 := by unfold secN; omega
  obtain ⟨zs1, zl1⟩ := zero_out g1
  have kz1 : Keep h.next h (h1.set h.next (.row false 0 (.vals zeroT.cells))) := k1.set (Nat.le_refl _) (by omega) _
  by_cases c1 : secN l < 6
  · have e : pErr l = 4 := by unfold pErr; rw [if_pos (.inl c1)]
    have c1' : (secN l : Int) < 6 := by omega
    simp (disch := omega) [al, WS_inv, iS, t1, t2, c1', b22z, zs1, zl1, wrapF_i64, undef, ex6_0, ex6_1, ex6_2, ex6_3, ex6_4, ex6_5]
    exact ⟨ProR.bad e (by decide), kz1⟩
  by_cases c2 : l.length % 512 ≠ 0
  · have e : pErr l = 4 := by unfold pErr; rw [if_pos (.inr c2)]
    have c1' : ¬ (secN l : Int) < 6 := by omega
    have c2' : ¬ ((l.length % 512 : Nat) : Int) = 0 := by omega
    rw [← t2] at c2'
    simp (disch := omega) [al, WS_inv, iS, t1, c2', c1', b22z, zs1, zl1, wrapF_i64, undef, ex6_0, ex6_1, ex6_2, ex6_3, ex6_4, ex6_5]
    exact ⟨ProR.bad e (by decide), kz1⟩
  have c12 : ¬ (secN l < 6 ∨ l.length % 512 ≠ 0) := fun a => a.elim c1 c2
  have c1' : ¬ (secN l : Int) < 6 := by omega
  have c2' : (l.length : Int).tmod 512 = 0 := by rw [t2]; omega
  have lb1 := b1_len c12
  have lb2 := b2_len c12
  have hp : pErr l = (if hdE (b1 l) ≠ 0 then hdE (b1 l) else if hdE (b2 l) ≠ 0 then hdE (b2 l) else if crossP l then 11 else if rowE l (atN l) (nN l) (le4 (b1 l) 88) ≠ 0 then rowE l (atN l) (nN l) (le4 (b1 l) 88) else if rowE l (beN l) (nN l) (le4 (b1 l) 88) ≠ 0 then rowE l (beN l) (nN l) (le4 (b1 l) 88) else chkV (pTb l (.slice none 0 0)) (pL l)) := by
    unfold pErr; rw [if_neg c12]
  have hl512 : 512 + 512 ≤ l.length := by unfold secN at c1; omega
  have hl2 : (secN l - 1) * 512 + 512 ≤ l.length := by unfold secN at c1 ⊢; omega
  obtain ⟨v1, h2, e2, o2, k2⟩ := mreadi L (d + 4) v l 512 512 512 512 rfl rfl h1 hv1 (by omega) hl512
  have iR1 : invO (En L (d + 6)) (.iface 42 v) mtR [.int .i64 512, .int .i64 512] h1 = some (.tuple #[v1, .int .i64 0], h2) := by rw [invR]; exact e2
  have s2 : SlB h2 v1 (b1 l) := o2.sl
  obtain ⟨r3, h3, e3, q3, k3⟩ := header_spec L (d + 1) v1 (b1 l) h2 s2 (b1_byt hb) lb1 hL
  have e3' : (En L (d + 6)).go 49 [v1] h2 = some (r3, h3) := e3
  have kk2 : Keep h.next h h2 := k1.trans (k2.less k1.next)
  have kk3 : Keep h.next h h3 := kk2.trans (k3.less kk2.next)
  have m3 : h.next < h3.next := by have := k2.next; have := k3.next; omega
  have g3 : h3.get h.next = .row false 0 (.vals zeroT.cells) := (k3.get _ (by have := k2.next; omega)).trans ((k2.get _ (by omega)).trans g1)
  have al3 := new22 h3
  by_cases he1 : hdE (b1 l) ≠ 0
  · have e : pErr l = hdE (b1 l) := by rw [hp, if_pos he1]
    have q : HdR (b1 l) = .tuple #[.agg zeroT.cells.toArray, .int .i64 0, .int .u32 0, .int .i64 0, .int .i64 0, .int .i64 (hdE (b1 l))] := by unfold HdR; rw [if_neg he1]
    rw [q] at q3
    subst q3
    obtain ⟨h4, e4, g4, k4, n4⟩ := store_new h3 zeroT.cells zeroT.cells.toArray 22 rfl rfl rfl
    obtain ⟨zs, zl⟩ := zero_out ((k4.get _ m3).trans g3)
    simp (disch := omega) [al, WS_inv, iS, t1, c2', c1', iR1, e3', al3, e4, he1, b22z, zs, zl, wrapF_i64, undef, ex6_0, ex6_1, ex6_2, ex6_3, ex6_4, ex6_5]
    exact ⟨ProR.bad e he1, (kk3.trans (k4.less kk3.next)).set (Nat.le_refl _) (by omega) _⟩
  have he1' := Decidable.not_not.1 he1
  rw [if_neg he1] at hp
  have q : HdR (b1 l) = .tuple #[.agg (hdT (b1 l)).cells.toArray, .int .i64 (le4 (b1 l) 80), .int .u32 (le4 (b1 l) 88), .int .i64 (sm (le8 (b1 l) 24)), .int .i64 (sm (le8 (b1 l) 32)), .int .i64 0] := by unfold HdR; rw [if_pos he1']
  rw [q] at q3
  subst q3
  have ok1 := hdT_ok (b1_byt hb) lb1
  have ok2 := hdT_ok (b2_byt hb) lb2
  obtain ⟨h4, e4, g4, k4, n4⟩ := store_new h3 zeroT.cells (hdT (b1 l)).cells.toArray 22 ok1.len rfl ok1.one
  have g4 : h4.get h3.next = .row false 0 (.vals (hdT (b1 l)).cells) := g4
  have kk4 : Keep h.next h h4 := kk3.trans (k4.less kk3.next)
  have hv4 := hv.keep kk4 (Nat.le_refl _)
  obtain ⟨v5, h5, e5, o5, k5⟩ := mreadi L (d + 4) v l ((secN l - 1) * 512) 512 (((secN l : Int) - 1) * 512) 512 (by omega) rfl h4 hv4 (by omega) hl2
  have iR2 : invO (En L (d + 6)) (.iface 42 v) mtR [.int .i64 (((secN l : Int) - 1) * 512), .int .i64 512] h4 = some (.tuple #[v5, .int .i64 0], h5) := by rw [invR]; exact e5
  have s5 : SlB h5 v5 (b2 l) := o5.sl
  obtain ⟨r6, h6, e6, q6, k6⟩ := header_spec L (d + 1) v5 (b2 l) h5 s5 (b2_byt hb) lb2 hL
  have e6' : (En L (d + 6)).go 49 [v5] h5 = some (r6, h6) := e6
  have kk5 : Keep h.next h h5 := kk4.trans (k5.less kk4.next)
  have kk6 : Keep h.next h h6 := kk5.trans (k6.less kk5.next)
  have n56 : h5.next ≤ h6.next := k6.next
  have n45 : h4.next ≤ h5.next := k5.next
  have g6 : h6.get h.next = .row false 0 (.vals zeroT.cells) := (k6.get _ (by omega)).trans ((k5.get _ (by omega)).trans ((k4.get _ m3).trans g3))
  have g6b : h6.get h3.next = .row false 0 (.vals (hdT (b1 l)).cells) := (k6.get _ (by omega)).trans ((k5.get _ (by omega)).trans g4)
  have al6 := new22 h6
  simp (disch := omega) [al, WS_inv, iS, t1, c2', c1', iR1, e3', al3, e4, iR2, wrapF_i64, undef, ex6_0, ex6_1, ex6_2, ex6_3, ex6_4, ex6_5]
  by_cases he2 : hdE (b2 l) ≠ 0
  · have e : pErr l = hdE (b2 l) := by rw [hp, if_pos he2]
    have q : HdR (b2 l) = .tuple #[.agg zeroT.cells.toArray, .int .i64 0, .int .u32 0, .int .i64 0, .int .i64 0, .int .i64 (hdE (b2 l))] := by unfold HdR; rw [if_neg he2]
    rw [q] at q6
    subst q6
    obtain ⟨h7, e7, g7, k7, n7⟩ := store_new h6 zeroT.cells zeroT.cells.toArray 22 rfl rfl rfl
    obtain ⟨zs, zl⟩ := zero_out ((k7.get _ (by omega)).trans g6)
    simp (disch := omega) [e6', al6, e7, he2, b22z, zs, zl, wrapF_i64, undef, ex6_0, ex6_1, ex6_2, ex6_3, ex6_4, ex6_5]
    exact ⟨ProR.bad e he2, (kk6.trans (k7.less kk6.next)).set (Nat.le_refl _) (by omega) _⟩
  have he2' := Decidable.not_not.1 he2
  rw [if_neg he2] at hp
  have q : HdR (b2 l) = .tuple #[.agg (hdT (b2 l)).cells.toArray, .int .i64 (le4 (b2 l) 80), .int .u32 (le4 (b2 l) 88), .int .i64 (sm (le8 (b2 l) 24)), .int .i64 (sm (le8 (b2 l) 32)), .int .i64 0] := by unfold HdR; rw [if_pos he2']
  rw [q] at q6
  subst q6
  obtain ⟨h7, e7, g7, k7, n7⟩ := store_new h6 zeroT.cells (hdT (b2 l)).cells.toArray 22 ok2.len rfl ok2.one
  have g7 : h7.get h6.next = .row false 0 (.vals (hdT (b2 l)).cells) := g7
  have kk7 : Keep h.next h h7 := kk6.trans (k7.less kk6.next)
  have g7b : h7.get h3.next = .row false 0 (.vals (hdT (b1 l)).cells) := (k7.get _ (by omega)).trans g6b
  have g7a : h7.get h.next = .row false 0 (.vals zeroT.cells) := (k7.get _ (by omega)).trans g6
  have la1 : aLoad none (.pointer (some ⟨h3.next, 1, none⟩)) h7 = some (.int .i64 (sm (le8 (b1 l) 40))) := ld_cell g7b rfl
  have la2 : aLoad none (.pointer (some ⟨h3.next, 2, none⟩)) h7 = some (.int .i64 (sm (le8 (b1 l) 48))) := ld_cell g7b rfl
  have la3 := ld16 g7b ok1.i
  have lb1' : aLoad none (.pointer (some ⟨h6.next, 1, none⟩)) h7 = some (.int .i64 (sm (le8 (b2 l) 40))) := ld_cell g7 rfl
  have lb2' : aLoad none (.pointer (some ⟨h6.next, 2, none⟩)) h7 = some (.int .i64 (sm (le8 (b2 l) 48))) := ld_cell g7 rfl
  have lb3 := ld16 g7 ok2.i
  have eqi := eq16 ok1.i ok2.i
  obtain ⟨zs7, zl7⟩ := zero_out g7a
  have kz7 : Keep h.next h (h7.set h.next (.row false 0 (.vals zeroT.cells))) := kk7.set (Nat.le_refl _) (by omega) _
  by_cases x1 : ¬ (sm (le8 (b1 l) 24) = 1)
  · have e : pErr l = 11 := by rw [hp, if_pos (show crossP l from .inl x1)]
    simp (disch := omega) [e6', al6, e7, la1, la2, la3, lb1', lb2', lb3, eqi, isAggV, x1, b22z, zs7, zl7, wrapF_i64, undef, ex6_0, ex6_1, ex6_2, ex6_3, ex6_4, ex6_5]
    exact ⟨ProR.bad e (by decide), kz7⟩
  have x1 := Decidable.not_not.1 x1
  by_cases x2 : ¬ (sm (le8 (b1 l) 32) = (secN l : Int) - 1)
  · have e : pErr l = 11 := by rw [hp, if_pos (show crossP l from .inr (.inl x2))]
    simp (disch := omega) [e6', al6, e7, la1, la2, la3, lb1', lb2', lb3, eqi, isAggV, x1, x2, b22z, zs7, zl7, wrapF_i64, undef, ex6_0, ex6_1, ex6_2, ex6_3, ex6_4, ex6_5]
    exact ⟨ProR.bad e (by decide), kz7⟩
  have x2 := Decidable.not_not.1 x2
  by_cases x3 : ¬ (sm (le8 (b2 l) 24) = (secN l : Int) - 1)
  · have e : pErr l = 11 := by rw [hp, if_pos (show crossP l from .inr (.inr (.inl x3)))]
    simp (disch := omega) [e6', al6, e7, la1, la2, la3, lb1', lb2', lb3, eqi, isAggV, x1, x2, x3, b22z, zs7, zl7, wrapF_i64, undef, ex6_0, ex6_1, ex6_2, ex6_3, ex6_4, ex6_5]
    exact ⟨ProR.bad e (by decide), kz7⟩
  have x3 := Decidable.not_not.1 x3
  by_cases x4 : ¬ (sm (le8 (b2 l) 32) = 1)
  · have e : pErr l = 11 := by rw [hp, if_pos (show crossP l from .inr (.inr (.inr (.inl x4))))]
    simp (disch := omega) [e6', al6, e7, la1, la2, la3, lb1', lb2', lb3, eqi, isAggV, x1, x2, x3, x4, b22z, zs7, zl7, wrapF_i64, undef, ex6_0, ex6_1, ex6_2, ex6_3, ex6_4, ex6_5]
    exact ⟨ProR.bad e (by decide), kz7⟩
  have x4 := Decidable.not_not.1 x4
  by_cases x5 : ¬ (le4 (b1 l) 80 = le4 (b2 l) 80)
  · have e : pErr l = 11 := by rw [hp, if_pos (show crossP l from .inr (.inr (.inr (.inr (.inl x5)))))]
    simp (disch := omega) [e6', al6, e7, la1, la2, la3, lb1', lb2', lb3, eqi, isAggV, x1, x2, x3, x4, x5, b22z, zs7, zl7, wrapF_i64, undef, ex6_0, ex6_1, ex6_2, ex6_3, ex6_4, ex6_5]
    exact ⟨ProR.bad e (by decide), kz7⟩
  have x5 := Decidable.not_not.1 x5
  by_cases x6 : ¬ (le4 (b1 l) 88 = le4 (b2 l) 88)
  · have e : pErr l = 11 := by rw [hp, if_pos (show crossP l from .inr (.inr (.inr (.inr (.inr (.inl x6))))))]
    simp (disch := omega) [e6', al6, e7, la1, la2, la3, lb1', lb2', lb3, eqi, isAggV, x1, x2, x3, x4, x5, x6, b22z, zs7, zl7, wrapF_i64, undef, ex6_0, ex6_1, ex6_2, ex6_3, ex6_4, ex6_5]
    exact ⟨ProR.bad e (by decide), kz7⟩
  have x6 := Decidable.not_not.1 x6
  by_cases x7 : ¬ (sm (le8 (b1 l) 40) = sm (le8 (b2 l) 40))
  · have e : pErr l = 11 := by rw [hp, if_pos (show crossP l from .inr (.inr (.inr (.inr (.inr (.inr (.inl x7)))))))]
    simp (disch := omega) [e6', al6, e7, la1, la2, la3, lb1', lb2', lb3, eqi, isAggV, x1, x2, x3, x4, x5, x6, x7, b22z, zs7, zl7, wrapF_i64, undef, ex6_0, ex6_1, ex6_2, ex6_3, ex6_4, ex6_5]
    exact ⟨ProR.bad e (by decide), kz7⟩
  have x7 := Decidable.not_not.1 x7
  by_cases x8 : ¬ (sm (le8 (b1 l) 48) = sm (le8 (b2 l) 48))
  · have e : pErr l = 11 := by rw [hp, if_pos (show crossP l from .inr (.inr (.inr (.inr (.inr (.inr (.inr (.inl x8))))))))]
    simp (disch := omega) [e6', al6, e7, la1, la2, la3, lb1', lb2', lb3, eqi, isAggV, x1, x2, x3, x4, x5, x6, x7, x8, b22z, zs7, zl7, wrapF_i64, undef, ex6_0, ex6_1, ex6_2, ex6_3, ex6_4, ex6_5]
    exact ⟨ProR.bad e (by decide), kz7⟩
  have x8 := Decidable.not_not.1 x8
  by_cases x9 : ¬ (sec (b1 l) 56 16 = sec (b2 l) 56 16)
  · have e : pErr l = 11 := by rw [hp, if_pos (show crossP l from .inr (.inr (.inr (.inr (.inr (.inr (.inr (.inr (x9)))))))))]
    have w9 : decide ((hdT (b1 l)).id = (hdT (b2 l)).id) = false := decide_eq_false x9
    rw [w9] at eqi
    simp (disch := omega) [e6', al6, e7, la1, la2, la3, lb1', lb2', lb3, eqi, isAggV, x1, x2, x3, x4, x5, x6, x7, x8, x9, b22z, zs7, zl7, wrapF_i64, undef, ex6_0, ex6_1, ex6_2, ex6_3, ex6_4, ex6_5]
    exact ⟨ProR.bad e (by decide), kz7⟩
  have x9 := Decidable.not_not.1 x9
  have nx : ¬ crossP l := by
    unfold crossP
    intro a
    rcases a with a | a | a | a | a | a | a | a | a
    · exact a x1
    · exact a x2
    · exact a x3
    · exact a x4
    · exact a x5
    · exact a x6
    · exact a x7
    · exact a x8
    · exact a x9
  rw [if_neg nx] at hp
  have x9' : (hdT (b1 l)).id = (hdT (b2 l)).id := x9
  have w9 : decide ((hdT (b1 l)).id = (hdT (b2 l)).id) = true := decide_eq_true x9'
  rw [w9] at eqi
  have y5 := x5.symm
  have y6 := x6.symm
  have y7 := x7.symm
  have y8 := x8.symm
  have b80 := hd_n he1'
  have hat : ((atN l : Nat) : Int) = sm (le8 (b1 l) 72) := by unfold atN; have := sm_bd (le8_bd (b1_byt hb) 72).1; omega
  have hbe : ((beN l : Nat) : Int) = sm (le8 (b2 l) 72) := by unfold beN; have := sm_bd (le8_bd (b2_byt hb) 72).1; omega
  have hnn : ((nN l : Nat) : Int) = le4 (b1 l) 80 := by unfold nN; omega
  have hat2 : atN l ≤ 8388608 := by have := sm_bd (le8_bd (b1_byt hb) 72).1; omega
  have hbe2 : beN l ≤ 8388608 := by have := sm_bd (le8_bd (b2_byt hb) 72).1; omega
  have hnn2 : 1 ≤ nN l ∧ nN l ≤ 128 := by omega
  have lbe7 := ok2.l20 (show TBox h7 h6.next (hdT (b2 l)) from g7)
  have st0 := st_cell g7b (i := 0) (v := .int .i64 (secN l)) (by rw [ok1.len]; omega) (.inl ⟨_, _, rfl⟩)
  rw [tb_set0] at st0
  obtain ⟨h8, hh8⟩ : ∃ h8, h7.set h3.next (.row false 0 (.vals (⟨(secN l : Int), (hdT (b1 l)).a, (hdT (b1 l)).b, (hdT (b1 l)).id, (hdT (b1 l)).sl, (hdT (b1 l)).at_, (hdT (b1 l)).be⟩ : Tb).cells)) = h8 := ⟨_, rfl⟩
  rw [hh8] at st0
  have g8 : h8.get h3.next = .row false 0 (.vals (⟨(secN l : Int), (hdT (b1 l)).a, (hdT (b1 l)).b, (hdT (b1 l)).id, (hdT (b1 l)).sl, (hdT (b1 l)).at_, (hdT (b1 l)).be⟩ : Tb).cells) := by rw [← hh8, AHeap.get_set, if_pos rfl]
  have g8u : h8.get h6.next = .row false 0 (.vals (hdT (b2 l)).cells) := by rw [← hh8, AHeap.get_set, if_neg (by omega)]; exact g7
  have lbe8 := ok2.l20 (show TBox h8 h6.next (hdT (b2 l)) from g8u)
  have nx8 : h8.next = h7.next := by rw [← hh8, AHeap.next_set]
  have kk8 : Keep h.next h h8 := by rw [← hh8]; exact kk7.set (by omega) (by omega) _
  have st21 := st_cell g8 (i := 21) (v := .int .i64 (hdT (b2 l)).at_) (by simp [Tb.cells, ok1.i]) (.inl ⟨_, _, rfl⟩)
  rw [tb_set21 (show (⟨(secN l : Int), (hdT (b1 l)).a, (hdT (b1 l)).b, (hdT (b1 l)).id, (hdT (b1 l)).sl, (hdT (b1 l)).at_, (hdT (b1 l)).be⟩ : Tb).id.length = 16 from ok1.i)] at st21
  obtain ⟨h9, hh9⟩ : ∃ h9, h8.set h3.next (.row false 0 (.vals (pTb l (.slice none 0 0)).cells)) = h9 := ⟨_, rfl⟩
  have st21 : aStore 1 (.pointer (some ⟨h3.next, 21, none⟩)) (.int .i64 (hdT (b2 l)).at_) h8 = some h9 := by rw [← hh9]; exact st21
  have g9 : h9.get h3.next = .row false 0 (.vals (pTb l (.slice none 0 0)).cells) := by rw [← hh9, AHeap.get_set, if_pos rfl]
  have nx9 : h9.next = h7.next := by rw [← hh9, AHeap.next_set, nx8]
  have kk9 : Keep h.next h h9 := by rw [← hh9]; exact kk8.set (by omega) (by omega) _
  have g9a : h9.get h.next = .row false 0 (.vals zeroT.cells) := by rw [← hh9, AHeap.get_set, if_neg (by omega), ← hh8, AHeap.get_set, if_neg (by omega)]; exact g7a
  have okP : ∀ w, (∃ x n c, w = .slice x n c) → (pTb l w).Ok := fun w hw => ⟨ok1.i, ok1.b, hw⟩
  have l20 := (okP _ ⟨_, _, _, rfl⟩).l20 (show TBox h9 h3.next (pTb l (.slice none 0 0)) from g9)
  have hv9 := hv.keep kk9 (Nat.le_refl _)
  obtain ⟨r10, h10, e10, q10, k10⟩ := rows50_spec L (d + 1) v l (atN l) (nN l) (le4 (b1 l) 88) h9 (kk9.wf hw) hv9 hb hl hat2 hnn2 hL
  rw [hat, hnn] at e10
  have e10' : (En L (d + 6)).go 50 [.iface 42 v, .int .i64 (sm (le8 (b1 l) 72)), .int .i64 (le4 (b1 l) 80), .int .u32 (le4 (b1 l) 88)] h9 = some (r10, h10) := e10
  have l20' : aLoad none (.pointer (some ⟨h3.next, 20, none⟩)) h9 = some (.int .i64 (sm (le8 (b1 l) 72))) := l20
  have lbe7' : aLoad none (.pointer (some ⟨h6.next, 20, none⟩)) h7 = some (.int .i64 (sm (le8 (b2 l) 72))) := lbe7
  have lbe8' : aLoad none (.pointer (some ⟨h6.next, 20, none⟩)) h8 = some (.int .i64 (sm (le8 (b2 l) 72))) := lbe8
  have st21' : aStore 1 (.pointer (some ⟨h3.next, 21, none⟩)) (.int .i64 (sm (le8 (b2 l) 72))) h8 = some h9 := st21
  have kk10 : Keep h.next h h10 := kk9.trans (k10.less kk9.next)
  have n910 : h9.next ≤ h10.next := k10.next
  have g10 : h10.get h3.next = .row false 0 (.vals (pTb l (.slice none 0 0)).cells) := (k10.get _ (by omega)).trans g9
  have g10a : h10.get h.next = .row false 0 (.vals zeroT.cells) := (k10.get _ (by omega)).trans g9a
  have pl22 : ∀ w, (pTb l w).cells.length = 22 := fun w => by simp [Tb.cells, pTb, show (sec (b1 l) 56 16).length = 16 from ok1.i]
  simp (disch := omega) [e6', al6, e7, la1, la2, la3, lb1', lb2', lb3, eqi, isAggV, x1, x2, x3, x4, y5, y6, y7, y8, lbe7', st0, lbe8', st21', l20', skip0', wrapF_i64, undef, ex6_0, ex6_1, ex6_2, ex6_3, ex6_4, ex6_5]
  rcases rowE_cases q10 with ⟨r0, rfl⟩ | ⟨r0, w, rfl, ow, hle⟩
  · have e : pErr l = rowE l (atN l) (nN l) (le4 (b1 l) 88) := by rw [hp, if_pos r0]
    have st19 := st_cell g10 (i := 19) (v := .slice none 0 0) (by rw [pl22]; omega) (.inr ⟨_, _, _, rfl⟩)
    have gz := zero_out (H := h10.set h3.next (.row false 0 (.vals ((pTb l (.slice none 0 0)).cells.set 19 (.slice none 0 0))))) (m := h.next) (by rw [AHeap.get_set, if_neg (by omega)]; exact g10a)
    simp (disch := omega) [e10', st19, r0, b22z, gz.1, gz.2, wrapF_i64, undef]
    exact ⟨ProR.bad e r0, (kk10.set (by omega) (by omega) _).set (Nat.le_refl _) (by rw [AHeap.next_set]; omega) _⟩
  rw [if_neg (not_not_intro r0)] at hp
  obtain ⟨xw, cw, evw⟩ := ownSl ow
  have hws : ∃ x n c, w = .slice x n c := ⟨_, _, _, evw⟩
  have st19 := st_cell g10 (i := 19) (v := w) (by rw [pl22]; omega) (.inr hws)
  rw [tb_set19 (show (pTb l (.slice none 0 0)).id.length = 16 from ok1.i)] at st19
  obtain ⟨h11, hh11⟩ : ∃ h11, h10.set h3.next (.row false 0 (.vals (pTb l w).cells)) = h11 := ⟨_, rfl⟩
  have st19 : aStore 1 (.pointer (some ⟨h3.next, 19, none⟩)) w h10 = some h11 := by rw [← hh11]; exact st19
  have g11 : h11.get h3.next = .row false 0 (.vals (pTb l w).cells) := by rw [← hh11, AHeap.get_set, if_pos rfl]
  have g11a : h11.get h.next = .row false 0 (.vals zeroT.cells) := by rw [← hh11, AHeap.get_set, if_neg (by omega)]; exact g10a
  have nx11 : h11.next = h10.next := by rw [← hh11, AHeap.next_set]
  have kk11 : Keep h.next h h11 := by rw [← hh11]; exact kk10.set (by omega) (by omega) _
  have hv11 := hv.keep kk11 (Nat.le_refl _)
  have ow11 : Own h9.next h11 114 w (nN l) (flatC Ent.cells (pL l)) := ownK ow (by omega) (fun m a b => by rw [← hh11, AHeap.get_set, if_neg (by omega)])
  have l21' : aLoad none (.pointer (some ⟨h3.next, 21, none⟩)) h11 = some (.int .i64 (sm (le8 (b2 l) 72))) := (okP w hws).l21 (show TBox h11 h3.next (pTb l w) from g11)
  obtain ⟨r12, h12, e12, q12, k12⟩ := rows50_spec L (d + 1) v l (beN l) (nN l) (le4 (b1 l) 88) h11 (kk11.wf hw) hv11 hb hl hbe2 hnn2 hL
  rw [hbe, hnn] at e12
  have e12' : (En L (d + 6)).go 50 [.iface 42 v, .int .i64 (sm (le8 (b2 l) 72)), .int .i64 (le4 (b1 l) 80), .int .u32 (le4 (b1 l) 88)] h11 = some (r12, h12) := e12
  have kk12 : Keep h.next h h12 := kk11.trans (k12.less kk11.next)
  have n1112 : h11.next ≤ h12.next := k12.next
  have g12 : h12.get h3.next = .row false 0 (.vals (pTb l w).cells) := (k12.get _ (by omega)).trans g11
  have g12a : h12.get h.next = .row false 0 (.vals zeroT.cells) := (k12.get _ (by omega)).trans g11a
  rcases rowE_cases q12 with ⟨r2, rfl⟩ | ⟨r2, w2, rfl, _, _⟩
  · have e : pErr l = rowE l (beN l) (nN l) (le4 (b1 l) 88) := by rw [hp, if_pos r2]
    have gz := zero_out g12a
    simp (disch := omega) [e10', st19, l21', e12', r2, b22z, gz.1, gz.2, wrapF_i64, undef]
    exact ⟨ProR.bad e r2, kk12.set (Nat.le_refl _) (by omega) _⟩
  rw [if_neg (not_not_intro r2)] at hp
  have lall := (okP w hws).lall (show TBox h12 h3.next (pTb l w) from g12)
  have bB : Byt (sec l (atN l * 512) (nN l * 128)) := sec_byt hb
  have okl : ∀ e ∈ pL l, e.Ok := entsO_ok bB _ (by rw [sec_len hle]; exact Nat.le_refl _)
  have pll : (pL l).length = nN l := entsO_len _ _
  have ow12 : Own h9.next h12 114 w (nN l) (flatC Ent.cells (pL l)) := ow11.keep k12 (Nat.le_refl _)
  have sc12 : SlC Ent.cells 114 h12 w (pL l) := ownC (by rw [pll]; exact ow12)
  obtain ⟨r13, h13, e13, rfl, k13⟩ := check_val L d (pTb l w) (okP w hws) (pL l) okl h12 (show SlZ h12 w (pL l) from ⟨sc12.val, fun _ => sc12⟩) (by omega) hL
  rw [chkV_sl l w (.slice none 0 0)] at e13
  have kk13 : Keep h.next h h13 := kk12.trans (k13.less kk12.next)
  have n1213 : h12.next ≤ h13.next := k13.next
  have g13 : h13.get h3.next = .row false 0 (.vals (pTb l w).cells) := (k13.get _ (by omega)).trans g12
  have g13a : h13.get h.next = .row false 0 (.vals zeroT.cells) := (k13.get _ (by omega)).trans g12a
  have lall13 := (okP w hws).lall (show TBox h13 h3.next (pTb l w) from g13)
  by_cases cz : chkV (pTb l (.slice none 0 0)) (pL l) = 0
  · rw [cz] at e13 hp
    have stf := store_at g13a (pTb l w).cells.toArray 22 (pl22 w) rfl (okP w hws).one
    obtain ⟨h14, hh14⟩ : ∃ h14, h13.set h.next (.row false 0 (.vals (pTb l w).cells)) = h14 := ⟨_, rfl⟩
    have stf : aStore 22 (.pointer (some ⟨h.next, 0, none⟩)) (.agg (pTb l w).cells.toArray) h13 = some h14 := by rw [← hh14]; exact stf
    have lf := (okP w hws).lall (show TBox h14 h.next (pTb l w) from (by unfold TBox; rw [← hh14, AHeap.get_set, if_pos rfl]))
    have ow14 : Own h9.next h14 114 w (nN l) (flatC Ent.cells (pL l)) := ownK (ow12.keep k13 (Nat.le_refl _)) (by rw [← hh14, AHeap.next_set]; omega) (fun m a b => by rw [← hh14, AHeap.get_set, if_neg (by omega)])
    simp (disch := omega) [e10', st19, l21', e12', lall, e13, lall13, stf, lf, wrapF_i64, undef]
    refine ⟨.inr ⟨hp, w, rfl, ownC (by rw [pll]; exact ow14)⟩, ?_⟩
    rw [← hh14]
    exact kk13.set (Nat.le_refl _) (by omega) _
  · have gz := zero_out g13a
    simp (disch := omega) [e10', st19, l21', e12', lall, e13, cz, b22z, gz.1, gz.2, wrapF_i64, undef]
    exact ⟨ProR.bad hp cz, kk13.set (Nat.le_refl _) (by omega) _⟩
end
end Go.Proofs.Ytoehafeeoggpkaa.L24

set_option linter.unusedVariables false
set_option linter.unusedSimpArgs false
set_option linter.unnecessarySimpa false
/-! Parse, by the document. -/
namespace Go.Proofs.Ytoehafeeoggpkaa.L24
open Go Go.Proofs Go.Shelf Go.RowKit Go.Lib Go.Sort Go.AM Go.Proofs.Ytoehafeeoggpkaa.AMC
set_option maxRecDepth 10000
noncomputable section
def dT (b : List Int) (vi : Value) : List Value := r7 0 (sm (le8 b 40)) (sm (le8 b 48)) vi (.slice none 0 0) (sm (le8 b 72)) 0
def dP (l : List Int) (vi w : Value) : List Value := r7 (secN l) (sm (le8 (b1 l) 40)) (sm (le8 (b1 l) 48)) vi w (sm (le8 (b1 l) 72)) (sm (le8 (b2 l) 72))
def DocR (l : List Int) (r : Value) (h' : AHeap) : Prop :=
  (pErr l ≠ 0 ∧ r = .tuple #[.agg (r7 0 0 0 (.slice none 0 0) (.slice none 0 0) 0 0).toArray, .int .i64 (pErr l)]) ∨ (pErr l = 0 ∧ ∃ vi w rl, r = .tuple #[.agg (dP l vi w).toArray, .int .i64 0] ∧ SlB h' vi (sec (b1 l) 56 16) ∧ SlC rEnc 4 h' w rl ∧ RL h' rl (pL l))
theorem DocR.bad {l : List Int} {h' : AHeap} {c : Int} (e : pErr l = c) (hc : c ≠ 0) : DocR l (.tuple #[.agg (r7 0 0 0 (.slice none 0 0) (.slice none 0 0) 0 0).toArray, .int .i64 c]) h' := .inl ⟨by rw [e]; exact hc, by rw [e]⟩
theorem zero_out7 {H : AHeap} {m : Nat} (g : H.get m = .row false 0 (.vals (r7 0 0 0 (.slice none 0 0) (.slice none 0 0) 0 0))) : aStore 7 (.pointer (some ⟨m, 0, none⟩)) (.agg (r7 0 0 0 (.slice none 0 0) (.slice none 0 0) 0 0).toArray) H = some (H.set m (.row false 0 (.vals (r7 0 0 0 (.slice none 0 0) (.slice none 0 0) 0 0)))) ∧ aLoad (some 7) (.pointer (some ⟨m, 0, none⟩)) (H.set m (.row false 0 (.vals (r7 0 0 0 (.slice none 0 0) (.slice none 0 0) 0 0)))) = some (.agg (r7 0 0 0 (.slice none 0 0) (.slice none 0 0) 0 0).toArray) :=
  ⟨store_at g (r7 0 0 0 (.slice none 0 0) (.slice none 0 0) 0 0).toArray 7 rfl rfl rfl, ld_agg (by rw [AHeap.get_set, if_pos rfl]) rfl⟩
theorem lstE_cases {l : List Int} {a n : Nat} {S : Int} {N : Nat} {r : Value} {h' : AHeap} (hr : LstR l a n S N r h') : (rowE l a n S ≠ 0 ∧ r = .tuple #[.slice none 0 0, .int .i64 (rowE l a n S)]) ∨ (rowE l a n S = 0 ∧ ∃ w rl, r = .tuple #[w, .int .i64 0] ∧ Own N h' 4 w rl.length (flatC rEnc rl) ∧ RS rl ∧ RL h' rl (entsO (sec l (a * 512) (n * 128)) n) ∧ a * 512 + n * 128 ≤ l.length) := by
  rcases hr with ⟨h1, rfl⟩ | ⟨h1, h2, rfl⟩ | ⟨h1, h2, w, rl, rfl, ow, rs, hl⟩
  · have e : rowE l a n S = 4 := by unfold rowE; rw [if_pos h1]
    exact .inl ⟨by rw [e]; decide, by rw [e]⟩
  · have e : rowE l a n S = 12 := by unfold rowE; rw [if_neg (by omega), if_neg h2]
    exact .inl ⟨by rw [e]; decide, by rw [e]⟩
  · have e : rowE l a n S = 0 := by unfold rowE; rw [if_neg (by omega), if_pos h2]
    exact .inr ⟨e, w, rl, rfl, ow, rs, hl, h1⟩
theorem r7_no' {s a b : Int} {vi vl : Value} {at_ be : Int} (h1 : ∃ x n c, vi = .slice x n c) (h2 : ∃ x n c, vl = .slice x n c) : ∀ v ∈ r7 s a b vi vl at_ be, ∀ z, v ≠ .int .u8 z := by
  obtain ⟨x, n, c, rfl⟩ := h1
  obtain ⟨y, n2, c2, rfl⟩ := h2
  exact r7_no
theorem slB_box {h : AHeap} {v : Value} {l : List Int} (a : SlB h v l) (h0 : 0 < l.length) {m : Nat} {cs : List Value} (g : h.get m = .row false 0 (.vals cs)) (hc : ∀ x ∈ cs, ∀ y, x ≠ .int .u8 y) (o : AObj) : SlB (h.set m o) v l := by
  refine slB_move a (by rw [AHeap.next_set]; exact Nat.le_refl _) ?_
  intro m' o' n' c' ev' hlt'
  rw [AHeap.get_set, if_neg (fun e => sb_ne a h0 g hc _ _ _ _ ev' e)]
theorem rl_box {h : AHeap} {rl : List REnt} {l : List Ent} (a : RL h rl l) (ok : ∀ e ∈ l, e.Ok) {m : Nat} {cs : List Value} (g : h.get m = .row false 0 (.vals cs)) (hc : ∀ x ∈ cs, ∀ y, x ≠ .int .u8 y) (o : AObj) : RL (h.set m o) rl l := by
  refine ⟨a.1, fun k q1 q2 => ?_⟩
  obtain ⟨a1, a2, a3, a4⟩ := a.2 k q1 q2
  have oo := ok _ (List.getElem_mem q2)
  exact ⟨a1, a2, slB_box a3 (by rw [oo.i]; omega) g hc o, slB_box a4 (by rw [oo.r]; omega) g hc o⟩
set_option maxHeartbeats 16000000 in
theorem parseD_spec (L d : Nat) (v : Value) (l : List Int) (h : AHeap) (hw : Wf h) (hv : SlB h v l) (hb : Byt l) (hl : l.length < 1000000) (hL : 1000000000 < L) :
    ∃ r h', (En L (d + 6)).go 22 [v] h = some (r, h') ∧ DocR l r h' ∧ Keep h.next h h' := by
  refine go_ex (R := fun r h' => DocR l r h' ∧ Keep h.next h h') (show tabF 22 = some (.code a22) by rfl) rfl ?_
  unfold a22
  obtain ⟨x, c, ev⟩ := hv.val
  have al := new7 h
  obtain ⟨h1, hh1⟩ : ∃ h1, h.new (.row false 0 (.vals (r7 0 0 0 (.slice none 0 0) (.slice none 0 0) 0 0))) = h1 := ⟨_, rfl⟩
  rw [hh1] at al
  have k1 : Keep h.next h h1 := by rw [← hh1]; exact (Keep.refl _ _).new (Nat.le_refl _) _
  have n1 : h1.next = h.next + 1 := by rw [← hh1]; simp
  have g1 : h1.get h.next = .row false 0 (.vals (r7 0 0 0 (.slice none 0 0) (.slice none 0 0) 0 0)) := by rw [← hh1, AHeap.get_new, if_pos rfl]
  have hv1 := hv.keep k1 (Nat.le_refl _)
  have lv : ∀ H, aLen .sl v H = some (.int .i64 l.length) := fun H => by rw [ev]; rfl
  have t1 : (l.length : Int).tdiv 512 = (secN l : Int) := by rw [Int.tdiv_eq_ediv_of_nonneg (by omega)]; unfold secN; omega
  have t2 : (l.length : Int).tmod 512 = ((l.length % 512 : Nat) : Int) := by rw [Int.tmod_eq_emod_of_nonneg (by omega)]; omega
  have hN : secN l < 2000 := by unfold secN; omega
  obtain ⟨zs1, zl1⟩ := zero_out7 g1
  have kz1 : Keep h.next h (h1.set h.next (.row false 0 (.vals (r7 0 0 0 (.slice none 0 0) (.slice none 0 0) 0 0)))) := k1.set (Nat.le_refl _) (by omega) _
  by_cases c1 : secN l < 6
  · have e : pErr l = 4 := by unfold pErr; rw [if_pos (.inl c1)]
    have c1' : (secN l : Int) < 6 := by omega
    simp (disch := omega) [-aLen, al, lv, t1, t2, c1', b7z, zs1, zl1, wrapF_i64, undef]
    exact ⟨DocR.bad e (by decide), kz1⟩
  by_cases c2 : l.length % 512 ≠ 0
  · have e : pErr l = 4 := by unfold pErr; rw [if_pos (.inr c2)]
    have c1' : ¬ (secN l : Int) < 6 := by omega
    have c2' : ¬ ((l.length % 512 : Nat) : Int) = 0 := by omega
    rw [← t2] at c2'
    simp (disch := omega) [-aLen, al, lv, t1, c2', c1', b7z, zs1, zl1, wrapF_i64, undef]
    exact ⟨DocR.bad e (by decide), kz1⟩
  have c12 : ¬ (secN l < 6 ∨ l.length % 512 ≠ 0) := fun a => a.elim c1 c2
  have c1' : ¬ (secN l : Int) < 6 := by omega
  have c2' : (l.length : Int).tmod 512 = 0 := by rw [t2]; omega
  have lb1 := b1_len c12
  have lb2 := b2_len c12
  have hp : pErr l = (if hdE (b1 l) ≠ 0 then hdE (b1 l) else if hdE (b2 l) ≠ 0 then hdE (b2 l) else if crossP l then 11 else if rowE l (atN l) (nN l) (le4 (b1 l) 88) ≠ 0 then rowE l (atN l) (nN l) (le4 (b1 l) 88) else if rowE l (beN l) (nN l) (le4 (b1 l) 88) ≠ 0 then rowE l (beN l) (nN l) (le4 (b1 l) 88) else chkV (pTb l (.slice none 0 0)) (pL l)) := by
    unfold pErr; rw [if_neg c12]
  have hl512 : 512 + 512 ≤ l.length := by unfold secN at c1; omega
  have hl2 : (secN l - 1) * 512 + 512 = l.length := by unfold secN at c1 ⊢; omega
  obtain ⟨v1, q1, s1⟩ := cutB hv1 (lo := some (.int .i64 ((512 : Nat) : Int))) (hi := some (.int .i64 ((1024 : Nat) : Int))) 512 1024 (.inr ⟨_, rfl⟩) (.inr ⟨_, rfl⟩) (by omega) (by omega)
  have s2 : SlB h1 v1 (b1 l) := s1
  have q1' : aCut (.sl 1) v (some (.int .i64 512)) (some (.int .i64 1024)) none h1 = some v1 := q1
  obtain ⟨r3, h3, e3, q3, k3⟩ := headerD_spec L (d + 1) v1 (b1 l) h1 (k1.wf hw) s2 (b1_byt hb) lb1 hL
  have e3' : (En L (d + 5)).go 51 [v1] h1 = some (r3, h3) := e3
  have kk3 : Keep h.next h h3 := k1.trans (k3.less k1.next)
  have n13 : h1.next ≤ h3.next := k3.next
  have g3 : h3.get h.next = .row false 0 (.vals (r7 0 0 0 (.slice none 0 0) (.slice none 0 0) 0 0)) := (k3.get _ (by omega)).trans g1
  have al3 := new7 h3
  rcases q3.symm with ⟨he1, rfl⟩ | ⟨he1', vi, mv, rfl, svi, hmv1, hmv2, gmv⟩
  · have e : pErr l = hdE (b1 l) := by rw [hp, if_pos he1]
    obtain ⟨h4, e4, g4, k4, n4⟩ := store_new h3 (r7 0 0 0 (.slice none 0 0) (.slice none 0 0) 0 0) (r7 0 0 0 (.slice none 0 0) (.slice none 0 0) 0 0).toArray 7 rfl rfl rfl
    obtain ⟨zs, zl⟩ := zero_out7 ((k4.get _ (by omega)).trans g3)
    simp (disch := omega) [-aLen, al, lv, t1, c2', c1', q1', e3', al3, e4, he1, b7z, zs, zl, wrapF_i64, undef, ex3_0, ex3_1, ex3_2]
    exact ⟨DocR.bad e he1, (kk3.trans (k4.less kk3.next)).set (Nat.le_refl _) (by omega) _⟩
  have he1 : ¬ (hdE (b1 l) ≠ 0) := not_not_intro he1'
  rw [if_neg he1] at hp
  obtain ⟨xi, ci, evi⟩ := svi.val
  have hvi : ∃ x n c, vi = .slice x n c := ⟨_, _, _, evi⟩
  obtain ⟨h4, e4, g4, k4, n4⟩ := store_new h3 (r7 0 0 0 (.slice none 0 0) (.slice none 0 0) 0 0) (dT (b1 l) vi).toArray 7 rfl rfl (by rw [evi]; rfl)
  have e4 : aStore 7 (.pointer (some ⟨h3.next, 0, none⟩)) (.agg (r7 0 (sm (le8 (b1 l) 40)) (sm (le8 (b1 l) 48)) vi (.slice none 0 0) (sm (le8 (b1 l) 72)) 0).toArray) (h3.new (.row false 0 (.vals (r7 0 0 0 (.slice none 0 0) (.slice none 0 0) 0 0)))) = some h4 := e4
  have g4 : h4.get h3.next = .row false 0 (.vals (dT (b1 l) vi)) := g4
  have kk4 : Keep h.next h h4 := kk3.trans (k4.less kk3.next)
  have hv4 := hv.keep kk4 (Nat.le_refl _)
  obtain ⟨v5, q5, s5⟩ := cutB hv4 (lo := some (.int .i64 (((secN l - 1) * 512 : Nat) : Int))) (hi := none) ((secN l - 1) * 512) l.length (.inr ⟨_, rfl⟩) (.inl ⟨rfl, rfl⟩) (by omega) (by omega)
  have s5' : SlB h4 v5 (b2 l) := by
    have e : l.length - (secN l - 1) * 512 = 512 := by omega
    rw [e] at s5; exact s5
  have q5' : aCut (.sl 1) v (some (.int .i64 (((secN l : Int) - 1) * 512))) none none h4 = some v5 := by
    rw [← q5]; congr 3; omega
  obtain ⟨r6, h6, e6, q6, k6⟩ := headerD_spec L (d + 1) v5 (b2 l) h4 (kk4.wf hw) s5' (b2_byt hb) lb2 hL
  have e6' : (En L (d + 5)).go 51 [v5] h4 = some (r6, h6) := e6
  have kk6 : Keep h.next h h6 := kk4.trans (k6.less kk4.next)
  have n46 : h4.next ≤ h6.next := k6.next
  have g6 : h6.get h.next = .row false 0 (.vals (r7 0 0 0 (.slice none 0 0) (.slice none 0 0) 0 0)) := (k6.get _ (by omega)).trans ((k4.get _ (by omega)).trans g3)
  have g6b : h6.get h3.next = .row false 0 (.vals (dT (b1 l) vi)) := (k6.get _ (by omega)).trans g4
  have gmv6 := (k6.get mv (by omega)).trans ((k4.get mv hmv2).trans gmv)
  have svi6 := (svi.keep k4 (Nat.le_refl _)).keep k6 (Nat.le_refl _)
  have al6 := new7 h6
  simp (disch := omega) [-aLen, al, lv, t1, c2', c1', q1', e3', al3, e4, q5', wrapF_i64, undef, ex3_0, ex3_1, ex3_2]
  rcases q6.symm with ⟨he2, rfl⟩ | ⟨he2', vj, mu, rfl, svj, hmu1, hmu2, gmu⟩
  · have e : pErr l = hdE (b2 l) := by rw [hp, if_pos he2]
    obtain ⟨h7, e7, g7, k7, n7⟩ := store_new h6 (r7 0 0 0 (.slice none 0 0) (.slice none 0 0) 0 0) (r7 0 0 0 (.slice none 0 0) (.slice none 0 0) 0 0).toArray 7 rfl rfl rfl
    obtain ⟨zs, zl⟩ := zero_out7 ((k7.get _ (by omega)).trans g6)
    simp (disch := omega) [e6', al6, e7, he2, b7z, zs, zl, wrapF_i64, undef, ex3_0, ex3_1, ex3_2]
    exact ⟨DocR.bad e he2, (kk6.trans (k7.less kk6.next)).set (Nat.le_refl _) (by omega) _⟩
  have he2 : ¬ (hdE (b2 l) ≠ 0) := not_not_intro he2'
  rw [if_neg he2] at hp
  obtain ⟨xj, cj, evj⟩ := svj.val
  obtain ⟨h7, e7, g7, k7, n7⟩ := store_new h6 (r7 0 0 0 (.slice none 0 0) (.slice none 0 0) 0 0) (dT (b2 l) vj).toArray 7 rfl rfl (by rw [evj]; rfl)
  have e7 : aStore 7 (.pointer (some ⟨h6.next, 0, none⟩)) (.agg (r7 0 (sm (le8 (b2 l) 40)) (sm (le8 (b2 l) 48)) vj (.slice none 0 0) (sm (le8 (b2 l) 72)) 0).toArray) (h6.new (.row false 0 (.vals (r7 0 0 0 (.slice none 0 0) (.slice none 0 0) 0 0)))) = some h7 := e7
  have g7 : h7.get h6.next = .row false 0 (.vals (dT (b2 l) vj)) := g7
  have kk7 : Keep h.next h h7 := kk6.trans (k7.less kk6.next)
  have g7b : h7.get h3.next = .row false 0 (.vals (dT (b1 l) vi)) := (k7.get _ (by omega)).trans g6b
  have g7a : h7.get h.next = .row false 0 (.vals (r7 0 0 0 (.slice none 0 0) (.slice none 0 0) 0 0)) := (k7.get _ (by omega)).trans g6
  have gmv7 := (k7.get mv (by omega)).trans gmv6
  have gmu7 := (k7.get mu (by omega)).trans gmu
  have svi7 := svi6.keep k7 (Nat.le_refl _)
  have svj7 := svj.keep k7 (Nat.le_refl _)
  have la1 : aLoad none (.pointer (some ⟨h3.next, 1, none⟩)) h7 = some (.int .i64 (sm (le8 (b1 l) 40))) := ld_cell g7b rfl
  have la2 : aLoad none (.pointer (some ⟨h3.next, 2, none⟩)) h7 = some (.int .i64 (sm (le8 (b1 l) 48))) := ld_cell g7b rfl
  have la3 : aLoad none (.pointer (some ⟨h3.next, 3, none⟩)) h7 = some vi := ld_cell g7b rfl
  have lc1 : aLoad none (.pointer (some ⟨h6.next, 1, none⟩)) h7 = some (.int .i64 (sm (le8 (b2 l) 40))) := ld_cell g7 rfl
  have lc2 : aLoad none (.pointer (some ⟨h6.next, 2, none⟩)) h7 = some (.int .i64 (sm (le8 (b2 l) 48))) := ld_cell g7 rfl
  have lc3 : aLoad none (.pointer (some ⟨h6.next, 3, none⟩)) h7 = some vj := ld_cell g7 rfl
  have m0 : aLoad none (.pointer (some ⟨mv, 0, none⟩)) h7 = some (.int .i64 (le4 (b1 l) 80)) := ld_cell gmv7 rfl
  have m1 : aLoad none (.pointer (some ⟨mv, 1, none⟩)) h7 = some (.int .i64 (le4 (b1 l) 88)) := ld_cell gmv7 rfl
  have m2 : aLoad none (.pointer (some ⟨mv, 2, none⟩)) h7 = some (.int .i64 (sm (le8 (b1 l) 24))) := ld_cell gmv7 rfl
  have m3 : aLoad none (.pointer (some ⟨mv, 3, none⟩)) h7 = some (.int .i64 (sm (le8 (b1 l) 32))) := ld_cell gmv7 rfl
  have u0 : aLoad none (.pointer (some ⟨mu, 0, none⟩)) h7 = some (.int .i64 (le4 (b2 l) 80)) := ld_cell gmu7 rfl
  have u1 : aLoad none (.pointer (some ⟨mu, 1, none⟩)) h7 = some (.int .i64 (le4 (b2 l) 88)) := ld_cell gmu7 rfl
  have u2 : aLoad none (.pointer (some ⟨mu, 2, none⟩)) h7 = some (.int .i64 (sm (le8 (b2 l) 24))) := ld_cell gmu7 rfl
  have u3 : aLoad none (.pointer (some ⟨mu, 3, none⟩)) h7 = some (.int .i64 (sm (le8 (b2 l) 32))) := ld_cell gmu7 rfl
  have e28 := same_spec L (d + 4) vi vj _ _ h7 svi7 svj7 (sec_byt (b1_byt hb)) (sec_byt (b2_byt hb))
  obtain ⟨zs7, zl7⟩ := zero_out7 g7a
  have kz7 : Keep h.next h (h7.set h.next (.row false 0 (.vals (r7 0 0 0 (.slice none 0 0) (.slice none 0 0) 0 0)))) := kk7.set (Nat.le_refl _) (by omega) _
  by_cases x1 : ¬ (sm (le8 (b1 l) 24) = 1)
  · have e : pErr l = 11 := by rw [hp, if_pos (show crossP l from .inl x1)]
    simp (disch := omega) [e6', al6, e7, la1, la2, la3, lc1, lc2, lc3, m0, m1, m2, m3, u0, u1, u2, u3, aIndexSl_ok, e28, x1, b7z, zs7, zl7, skip0', wrapF_i64, undef, ex3_0, ex3_1, ex3_2]
    exact ⟨DocR.bad e (by decide), kz7⟩
  have x1 := Decidable.not_not.1 x1
  by_cases x2 : ¬ (sm (le8 (b1 l) 32) = (secN l : Int) - 1)
  · have e : pErr l = 11 := by rw [hp, if_pos (show crossP l from .inr (.inl x2))]
    simp (disch := omega) [e6', al6, e7, la1, la2, la3, lc1, lc2, lc3, m0, m1, m2, m3, u0, u1, u2, u3, aIndexSl_ok, e28, x1, x2, b7z, zs7, zl7, skip0', wrapF_i64, undef, ex3_0, ex3_1, ex3_2]
    exact ⟨DocR.bad e (by decide), kz7⟩
  have x2 := Decidable.not_not.1 x2
  by_cases x3 : ¬ (sm (le8 (b2 l) 24) = (secN l : Int) - 1)
  · have e : pErr l = 11 := by rw [hp, if_pos (show crossP l from .inr (.inr (.inl x3)))]
    simp (disch := omega) [e6', al6, e7, la1, la2, la3, lc1, lc2, lc3, m0, m1, m2, m3, u0, u1, u2, u3, aIndexSl_ok, e28, x1, x2, x3, b7z, zs7, zl7, skip0', wrapF_i64, undef, ex3_0, ex3_1, ex3_2]
    exact ⟨DocR.bad e (by decide), kz7⟩
  have x3 := Decidable.not_not.1 x3
  by_cases x4 : ¬ (sm (le8 (b2 l) 32) = 1)
  · have e : pErr l = 11 := by rw [hp, if_pos (show crossP l from .inr (.inr (.inr (.inl x4))))]
    simp (disch := omega) [e6', al6, e7, la1, la2, la3, lc1, lc2, lc3, m0, m1, m2, m3, u0, u1, u2, u3, aIndexSl_ok, e28, x1, x2, x3, x4, b7z, zs7, zl7, skip0', wrapF_i64, undef, ex3_0, ex3_1, ex3_2]
    exact ⟨DocR.bad e (by decide), kz7⟩
  have x4 := Decidable.not_not.1 x4
  by_cases x5 : ¬ (le4 (b1 l) 80 = le4 (b2 l) 80)
  · have e : pErr l = 11 := by rw [hp, if_pos (show crossP l from .inr (.inr (.inr (.inr (.inl x5)))))]
    simp (disch := omega) [e6', al6, e7, la1, la2, la3, lc1, lc2, lc3, m0, m1, m2, m3, u0, u1, u2, u3, aIndexSl_ok, e28, x1, x2, x3, x4, x5, b7z, zs7, zl7, skip0', wrapF_i64, undef, ex3_0, ex3_1, ex3_2]
    exact ⟨DocR.bad e (by decide), kz7⟩
  have x5 := Decidable.not_not.1 x5
  by_cases x6 : ¬ (le4 (b1 l) 88 = le4 (b2 l) 88)
  · have e : pErr l = 11 := by rw [hp, if_pos (show crossP l from .inr (.inr (.inr (.inr (.inr (.inl x6))))))]
    simp (disch := omega) [e6', al6, e7, la1, la2, la3, lc1, lc2, lc3, m0, m1, m2, m3, u0, u1, u2, u3, aIndexSl_ok, e28, x1, x2, x3, x4, x5, x6, b7z, zs7, zl7, skip0', wrapF_i64, undef, ex3_0, ex3_1, ex3_2]
    exact ⟨DocR.bad e (by decide), kz7⟩
  have x6 := Decidable.not_not.1 x6
  by_cases x7 : ¬ (sm (le8 (b1 l) 40) = sm (le8 (b2 l) 40))
  · have e : pErr l = 11 := by rw [hp, if_pos (show crossP l from .inr (.inr (.inr (.inr (.inr (.inr (.inl x7)))))))]
    simp (disch := omega) [e6', al6, e7, la1, la2, la3, lc1, lc2, lc3, m0, m1, m2, m3, u0, u1, u2, u3, aIndexSl_ok, e28, x1, x2, x3, x4, x5, x6, x7, b7z, zs7, zl7, skip0', wrapF_i64, undef, ex3_0, ex3_1, ex3_2]
    exact ⟨DocR.bad e (by decide), kz7⟩
  have x7 := Decidable.not_not.1 x7
  by_cases x8 : ¬ (sm (le8 (b1 l) 48) = sm (le8 (b2 l) 48))
  · have e : pErr l = 11 := by rw [hp, if_pos (show crossP l from .inr (.inr (.inr (.inr (.inr (.inr (.inr (.inl x8))))))))]
    simp (disch := omega) [e6', al6, e7, la1, la2, la3, lc1, lc2, lc3, m0, m1, m2, m3, u0, u1, u2, u3, aIndexSl_ok, e28, x1, x2, x3, x4, x5, x6, x7, x8, b7z, zs7, zl7, skip0', wrapF_i64, undef, ex3_0, ex3_1, ex3_2]
    exact ⟨DocR.bad e (by decide), kz7⟩
  have x8 := Decidable.not_not.1 x8
  by_cases x9 : ¬ (sec (b1 l) 56 16 = sec (b2 l) 56 16)
  · have e : pErr l = 11 := by rw [hp, if_pos (show crossP l from .inr (.inr (.inr (.inr (.inr (.inr (.inr (.inr (x9)))))))))]
    simp (disch := omega) [e6', al6, e7, la1, la2, la3, lc1, lc2, lc3, m0, m1, m2, m3, u0, u1, u2, u3, aIndexSl_ok, e28, x1, x2, x3, x4, x5, x6, x7, x8, x9, b7z, zs7, zl7, skip0', wrapF_i64, undef, ex3_0, ex3_1, ex3_2]
    exact ⟨DocR.bad e (by decide), kz7⟩
  have x9 := Decidable.not_not.1 x9
  have nx : ¬ crossP l := by
    unfold crossP
    intro a
    rcases a with a | a | a | a | a | a | a | a | a
    · exact a x1
    · exact a x2
    · exact a x3
    · exact a x4
    · exact a x5
    · exact a x6
    · exact a x7
    · exact a x8
    · exact a x9
  rw [if_neg nx] at hp
  rw [decide_eq_true x9] at e28
  have y5 := x5.symm
  have y6 := x6.symm
  have y7 := x7.symm
  have y8 := x8.symm
  have e7y := e7
  rw [y7, y8] at e7y
  have b80 := hd_n he1'
  have hat : ((atN l : Nat) : Int) = sm (le8 (b1 l) 72) := by unfold atN; have := sm_bd (le8_bd (b1_byt hb) 72).1; omega
  have hbe : ((beN l : Nat) : Int) = sm (le8 (b2 l) 72) := by unfold beN; have := sm_bd (le8_bd (b2_byt hb) 72).1; omega
  have hnn : ((nN l : Nat) : Int) = le4 (b1 l) 80 := by unfold nN; omega
  have hat2 : atN l ≤ 8388608 := by have := sm_bd (le8_bd (b1_byt hb) 72).1; omega
  have hbe2 : beN l ≤ 8388608 := by have := sm_bd (le8_bd (b2_byt hb) 72).1; omega
  have hnn2 : 1 ≤ nN l ∧ nN l ≤ 128 := by omega
  have nil : ∃ x n c, (Value.slice none 0 0) = .slice x n c := ⟨_, _, _, rfl⟩
  have st0 := st_cell g7b (i := 0) (v := .int .i64 (secN l)) (by show 0 < 7; omega) (.inl ⟨_, _, rfl⟩)
  obtain ⟨h8, hh8⟩ : ∃ h8, h7.set h3.next (.row false 0 (.vals (r7 (secN l) (sm (le8 (b1 l) 40)) (sm (le8 (b1 l) 48)) vi (.slice none 0 0) (sm (le8 (b1 l) 72)) 0))) = h8 := ⟨_, rfl⟩
  have st0 : aStore 1 (.pointer (some ⟨h3.next, 0, none⟩)) (.int .i64 (secN l)) h7 = some h8 := by rw [← hh8]; exact st0
  have g8 : h8.get h3.next = .row false 0 (.vals (r7 (secN l) (sm (le8 (b1 l) 40)) (sm (le8 (b1 l) 48)) vi (.slice none 0 0) (sm (le8 (b1 l) 72)) 0)) := by rw [← hh8, AHeap.get_set, if_pos rfl]
  have g8u : h8.get h6.next = .row false 0 (.vals (dT (b2 l) vj)) := by rw [← hh8, AHeap.get_set, if_neg (by omega)]; exact g7
  have lbe8 : aLoad none (.pointer (some ⟨h6.next, 5, none⟩)) h8 = some (.int .i64 (sm (le8 (b2 l) 72))) := ld_cell g8u rfl
  have nx8 : h8.next = h7.next := by rw [← hh8, AHeap.next_set]
  have kk8 : Keep h.next h h8 := by rw [← hh8]; exact kk7.set (by omega) (by omega) _
  have st6 := st_cell g8 (i := 6) (v := .int .i64 (sm (le8 (b2 l) 72))) (by show 6 < 7; omega) (.inl ⟨_, _, rfl⟩)
  obtain ⟨h9, hh9⟩ : ∃ h9, h8.set h3.next (.row false 0 (.vals (dP l vi (.slice none 0 0)))) = h9 := ⟨_, rfl⟩
  have st6 : aStore 1 (.pointer (some ⟨h3.next, 6, none⟩)) (.int .i64 (sm (le8 (b2 l) 72))) h8 = some h9 := by rw [← hh9]; exact st6
  have g9 : h9.get h3.next = .row false 0 (.vals (dP l vi (.slice none 0 0))) := by rw [← hh9, AHeap.get_set, if_pos rfl]
  have nx9 : h9.next = h7.next := by rw [← hh9, AHeap.next_set, nx8]
  have kk9 : Keep h.next h h9 := by rw [← hh9]; exact kk8.set (by omega) (by omega) _
  have g9a : h9.get h.next = .row false 0 (.vals (r7 0 0 0 (.slice none 0 0) (.slice none 0 0) 0 0)) := by rw [← hh9, AHeap.get_set, if_neg (by omega), ← hh8, AHeap.get_set, if_neg (by omega)]; exact g7a
  have gmv9 := (show h9.get mv = h7.get mv from by rw [← hh9, AHeap.get_set, if_neg (by omega), ← hh8, AHeap.get_set, if_neg (by omega)]).trans gmv7
  have i16 : 0 < (sec (b1 l) 56 16).length := by rw [sec_len (by omega)]; omega
  have svi8 : SlB h8 vi (sec (b1 l) 56 16) := by rw [← hh8]; exact slB_box svi7 i16 g7b (r7_no' hvi nil) _
  have svi9 : SlB h9 vi (sec (b1 l) 56 16) := by rw [← hh9]; exact slB_box svi8 i16 g8 (r7_no' hvi nil) _
  have l5 : aLoad none (.pointer (some ⟨h3.next, 5, none⟩)) h9 = some (.int .i64 (sm (le8 (b1 l) 72))) := ld_cell g9 rfl
  have p0 : aLoad none (.pointer (some ⟨mv, 0, none⟩)) h9 = some (.int .i64 (le4 (b1 l) 80)) := ld_cell gmv9 rfl
  have p1 : aLoad none (.pointer (some ⟨mv, 1, none⟩)) h9 = some (.int .i64 (le4 (b1 l) 88)) := ld_cell gmv9 rfl
  have hv9 := hv.keep kk9 (Nat.le_refl _)
  obtain ⟨r10, h10, e10, q10, k10⟩ := list52_spec L (d + 1) v l (atN l) (nN l) (le4 (b1 l) 88) h9 (kk9.wf hw) hv9 hb hl hat2 hnn2 hL
  rw [hat, hnn] at e10
  have e10' : (En L (d + 5)).go 52 [v, .int .i64 (sm (le8 (b1 l) 72)), .int .i64 (le4 (b1 l) 80), .int .i64 (le4 (b1 l) 88)] h9 = some (r10, h10) := e10
  have kk10 : Keep h.next h h10 := kk9.trans (k10.less kk9.next)
  have n910 : h9.next ≤ h10.next := k10.next
  have g10 : h10.get h3.next = .row false 0 (.vals (dP l vi (.slice none 0 0))) := (k10.get _ (by omega)).trans g9
  have g10a : h10.get h.next = .row false 0 (.vals (r7 0 0 0 (.slice none 0 0) (.slice none 0 0) 0 0)) := (k10.get _ (by omega)).trans g9a
  have gmv10 := (k10.get mv (by omega)).trans gmv9
  have svi10 := svi9.keep k10 (Nat.le_refl _)
  simp (disch := omega) [e6', al6, e7y, la1, la2, la3, lc1, lc2, lc3, m0, m1, m2, m3, u0, u1, u2, u3, aIndexSl_ok, e28, x1, x2, x3, x4, y5, y6, y7, y8, st0, lbe8, st6, l5, p0, p1, skip0', wrapF_i64, undef, ex3_0, ex3_1, ex3_2]
  rcases lstE_cases q10 with ⟨r0, rfl⟩ | ⟨r0, w, rl, rfl, ow, rs, hrl, hle⟩
  · have e : pErr l = rowE l (atN l) (nN l) (le4 (b1 l) 88) := by rw [hp, if_pos r0]
    have st4 := st_cell g10 (i := 4) (v := .slice none 0 0) (by show 4 < 7; omega) (.inr nil)
    have gz := zero_out7 (H := h10.set h3.next (.row false 0 (.vals ((dP l vi (.slice none 0 0)).set 4 (.slice none 0 0))))) (m := h.next) (by rw [AHeap.get_set, if_neg (by omega)]; exact g10a)
    simp (disch := omega) [e10', st4, r0, b7z, gz.1, gz.2, skip0', wrapF_i64, undef]
    exact ⟨DocR.bad e r0, (kk10.set (by omega) (by omega) _).set (Nat.le_refl _) (by rw [AHeap.next_set]; omega) _⟩
  rw [if_neg (not_not_intro r0)] at hp
  obtain ⟨xw, cw, evw⟩ := ownSl ow
  have hws : ∃ x n c, w = .slice x n c := ⟨_, _, _, evw⟩
  have st4 := st_cell g10 (i := 4) (v := w) (by show 4 < 7; omega) (.inr hws)
  obtain ⟨h11, hh11⟩ : ∃ h11, h10.set h3.next (.row false 0 (.vals (dP l vi w))) = h11 := ⟨_, rfl⟩
  have st4 : aStore 1 (.pointer (some ⟨h3.next, 4, none⟩)) w h10 = some h11 := by rw [← hh11]; exact st4
  have g11 : h11.get h3.next = .row false 0 (.vals (dP l vi w)) := by rw [← hh11, AHeap.get_set, if_pos rfl]
  have g11a : h11.get h.next = .row false 0 (.vals (r7 0 0 0 (.slice none 0 0) (.slice none 0 0) 0 0)) := by rw [← hh11, AHeap.get_set, if_neg (by omega)]; exact g10a
  have gmv11 := (show h11.get mv = h10.get mv from by rw [← hh11, AHeap.get_set, if_neg (by omega)]).trans gmv10
  have nx11 : h11.next = h10.next := by rw [← hh11, AHeap.next_set]
  have kk11 : Keep h.next h h11 := by rw [← hh11]; exact kk10.set (by omega) (by omega) _
  have hv11 := hv.keep kk11 (Nat.le_refl _)
  have bB : Byt (sec l (atN l * 512) (nN l * 128)) := sec_byt hb
  have okl : ∀ e ∈ pL l, e.Ok := entsO_ok bB _ (by rw [sec_len hle]; exact Nat.le_refl _)
  have pll : (pL l).length = nN l := entsO_len _ _
  have svi11 : SlB h11 vi (sec (b1 l) 56 16) := by rw [← hh11]; exact slB_box svi10 i16 g10 (r7_no' hvi nil) _
  have rl11 : RL h11 rl (pL l) := by rw [← hh11]; exact rl_box hrl okl g10 (r7_no' hvi nil) _
  have ow11 : Own h9.next h11 4 w rl.length (flatC rEnc rl) := ownK ow (by omega) (fun m a b => by rw [← hh11, AHeap.get_set, if_neg (by omega)])
  have l6 : aLoad none (.pointer (some ⟨h3.next, 6, none⟩)) h11 = some (.int .i64 (sm (le8 (b2 l) 72))) := ld_cell g11 rfl
  have z0 : aLoad none (.pointer (some ⟨mv, 0, none⟩)) h11 = some (.int .i64 (le4 (b1 l) 80)) := ld_cell gmv11 rfl
  have z1 : aLoad none (.pointer (some ⟨mv, 1, none⟩)) h11 = some (.int .i64 (le4 (b1 l) 88)) := ld_cell gmv11 rfl
  obtain ⟨r12, h12, e12, q12, k12⟩ := list52_spec L (d + 1) v l (beN l) (nN l) (le4 (b1 l) 88) h11 (kk11.wf hw) hv11 hb hl hbe2 hnn2 hL
  rw [hbe, hnn] at e12
  have e12' : (En L (d + 5)).go 52 [v, .int .i64 (sm (le8 (b2 l) 72)), .int .i64 (le4 (b1 l) 80), .int .i64 (le4 (b1 l) 88)] h11 = some (r12, h12) := e12
  have kk12 : Keep h.next h h12 := kk11.trans (k12.less kk11.next)
  have n1112 : h11.next ≤ h12.next := k12.next
  have g12 : h12.get h3.next = .row false 0 (.vals (dP l vi w)) := (k12.get _ (by omega)).trans g11
  have g12a : h12.get h.next = .row false 0 (.vals (r7 0 0 0 (.slice none 0 0) (.slice none 0 0) 0 0)) := (k12.get _ (by omega)).trans g11a
  rcases lstE_cases q12 with ⟨r2, rfl⟩ | ⟨r2, w2, rl2, rfl, _, _, _, _⟩
  · have e : pErr l = rowE l (beN l) (nN l) (le4 (b1 l) 88) := by rw [hp, if_pos r2]
    have gz := zero_out7 g12a
    simp (disch := omega) [e10', st4, l6, z0, z1, aIndexSl_ok, e12', r2, b7z, gz.1, gz.2, skip0', wrapF_i64, undef]
    exact ⟨DocR.bad e r2, kk12.set (Nat.le_refl _) (by omega) _⟩
  rw [if_neg (not_not_intro r2)] at hp
  have lall : aLoad (some 7) (.pointer (some ⟨h3.next, 0, none⟩)) h12 = some (.agg (dP l vi w).toArray) := ld_agg g12 rfl
  have ow12 := ow11.keep k12 (Nat.le_refl _)
  have sc12 : SlC rEnc 4 h12 w rl := ownC ow12
  have rl12 := rl11.keep k12 (Nat.le_refl _)
  have svi12 := svi11.keep k12 (Nat.le_refl _)
  obtain ⟨r13, h13, e13, rfl, k13⟩ := checkD_spec L d (pTb l (.slice none 0 0)) (pL l) okl vi w rl hvi h12 (kk12.wf hw) sc12 rl12 (by omega) hL
  have e13' : (En L (d + 5)).go 18 [.agg (dP l vi w).toArray] h12 = some (.int .i64 (chkV (pTb l (.slice none 0 0)) (pL l)), h13) := e13
  have kk13 : Keep h.next h h13 := kk12.trans (k13.less kk12.next)
  have n1213 : h12.next ≤ h13.next := k13.next
  have g13 : h13.get h3.next = .row false 0 (.vals (dP l vi w)) := (k13.get _ (by omega)).trans g12
  have g13a : h13.get h.next = .row false 0 (.vals (r7 0 0 0 (.slice none 0 0) (.slice none 0 0) 0 0)) := (k13.get _ (by omega)).trans g12a
  have lall13 : aLoad (some 7) (.pointer (some ⟨h3.next, 0, none⟩)) h13 = some (.agg (dP l vi w).toArray) := ld_agg g13 rfl
  by_cases cz : chkV (pTb l (.slice none 0 0)) (pL l) = 0
  · rw [cz] at e13' hp
    have stf := store_at g13a (dP l vi w).toArray 7 rfl rfl (by rw [evi, evw]; rfl)
    obtain ⟨h14, hh14⟩ : ∃ h14, h13.set h.next (.row false 0 (.vals (dP l vi w))) = h14 := ⟨_, rfl⟩
    have stf : aStore 7 (.pointer (some ⟨h.next, 0, none⟩)) (.agg (dP l vi w).toArray) h13 = some h14 := by rw [← hh14]; exact stf
    have lf : aLoad (some 7) (.pointer (some ⟨h.next, 0, none⟩)) h14 = some (.agg (dP l vi w).toArray) := ld_agg (by rw [← hh14, AHeap.get_set, if_pos rfl]) rfl
    have ow14 : Own h9.next h14 4 w rl.length (flatC rEnc rl) := ownK (ow12.keep k13 (Nat.le_refl _)) (by rw [← hh14, AHeap.next_set]; omega) (fun m a b => by rw [← hh14, AHeap.get_set, if_neg (by omega)])
    have svi14 : SlB h14 vi (sec (b1 l) 56 16) := by rw [← hh14]; exact slB_box (svi12.keep k13 (Nat.le_refl _)) i16 g13a (r7_no' nil nil) _
    have rl14 : RL h14 rl (pL l) := by rw [← hh14]; exact rl_box (rl12.keep k13 (Nat.le_refl _)) okl g13a (r7_no' nil nil) _
    simp (disch := omega) [e10', st4, l6, z0, z1, aIndexSl_ok, e12', lall, e13', lall13, stf, lf, skip0', wrapF_i64, undef]
    refine ⟨.inr ⟨hp, vi, w, rl, rfl, svi14, ownC ow14, rl14⟩, ?_⟩
    rw [← hh14]
    exact kk13.set (Nat.le_refl _) (by omega) _
  · have gz := zero_out7 g13a
    simp (disch := omega) [e10', st4, l6, z0, z1, aIndexSl_ok, e12', lall, e13', cz, b7z, gz.1, gz.2, skip0', wrapF_i64, undef]
    exact ⟨DocR.bad hp cz, kk13.set (Nat.le_refl _) (by omega) _⟩
end
end Go.Proofs.Ytoehafeeoggpkaa.L24

set_option linter.unusedVariables false
set_option linter.unusedSimpArgs false
set_option linter.unnecessarySimpa false
/-! The same tables. -/
namespace Go.Proofs.Ytoehafeeoggpkaa.L24
open Go Go.Proofs Go.Shelf Go.RowKit Go.Lib Go.Sort Go.AM Go.Proofs.Ytoehafeeoggpkaa.AMC
set_option maxRecDepth 10000
noncomputable section
theorem rEnc_beq {p : REnt} (h1 : ∃ x n c, p.1 = .slice x n c) (h2 : ∃ x n c, p.2.2.2 = .slice x n c) : beqV 10000 (.agg (rEnc p).toArray) (.agg (rEnc p).toArray) = true := by
  refine beqV_agg (n := 9999) (beqL_all _ _ (by show 4 ≤ 9999; omega) ?_)
  intro v hv
  have hv : v ∈ rEnc p := hv
  simp only [rEnc, List.mem_cons, List.not_mem_nil, or_false] at hv
  rcases hv with rfl | rfl | rfl | rfl
  · exact .inr h1
  · exact .inl ⟨_, _, rfl⟩
  · exact .inl ⟨_, _, rfl⟩
  · exact .inr h2
def SaI (m2 m3 n : Nat) (hs : AHeap) (j : Nat) (T : Tr Value) (h' : AHeap) : Prop :=
  ∃ i : Nat, j = n - i ∧ i ≤ n ∧ T.get 2 = some (.pointer (some ⟨m2, 0, none⟩)) ∧ T.get 3 = some (.pointer (some ⟨m3, 0, none⟩)) ∧ T.get 5 = some (.int .i64 i) ∧ Keep hs.next hs h'
set_option maxHeartbeats 8000000 in
theorem sameT (L d : Nat) (s a b at_ be : Int) (va wa vb wb : Value) (ida idb : List Int) (ra rb : List REnt) (es : List Ent) (ok : ∀ e ∈ es, e.Ok) (h : AHeap) (hw : Wf h)
    (hva : SlB h va ida) (hvb : SlB h vb idb) (bya : Byt ida) (byb : Byt idb) (hid : ida = idb ∨ es.length = 0) (hsa : SlC rEnc 4 h wa ra) (hsb : SlC rEnc 4 h wb rb) (hra : RL h ra es) (hrb : RL h rb es) (hn : es.length < 100000) (hL : 1000000000 < L) :
    ∃ r h', (En L (d + 3)).go 23 [.agg (r7 s a b va wa at_ be).toArray, .agg (r7 s a b vb wb at_ be).toArray] h = some (r, h') ∧ r = .bool true ∧ Keep h.next h h' := by
  refine go_ex (R := fun r h' => r = .bool true ∧ Keep h.next h h') (show tabF 23 = some (.code a23) by rfl) rfl ?_
  unfold a23
  obtain ⟨h1, e1, g1, k1, n1⟩ := r7_box (s := s) (a := a) (b := b) (vi := va) (vl := wa) (at_ := at_) (be := be) (slB_one hva) (slC_one hsa) h
  obtain ⟨h2, e2, g2, k2, n2⟩ := r7_box (s := s) (a := a) (b := b) (vi := vb) (vl := wb) (at_ := at_) (be := be) (slB_one hvb) (slC_one hsb) h1
  have kk2 : Keep h.next h h2 := k1.trans (k2.less k1.next)
  have g12 : h2.get h.next = .row false 0 (.vals (r7 s a b va wa at_ be)) := (k2.get _ (by omega)).trans g1
  obtain ⟨xa, ca, ewa⟩ := hsa.val
  obtain ⟨xb, cb, ewb⟩ := hsb.val
  rw [hra.1] at ewa
  rw [hrb.1] at ewb
  have a0 : aLoad none (.pointer (some ⟨h.next, 0, none⟩)) h2 = some (.int .i64 s) := ld_cell g12 rfl
  have a1 : aLoad none (.pointer (some ⟨h.next, 1, none⟩)) h2 = some (.int .i64 a) := ld_cell g12 rfl
  have a2 : aLoad none (.pointer (some ⟨h.next, 2, none⟩)) h2 = some (.int .i64 b) := ld_cell g12 rfl
  have a3 : aLoad none (.pointer (some ⟨h.next, 3, none⟩)) h2 = some va := ld_cell g12 rfl
  have a4 : aLoad none (.pointer (some ⟨h.next, 4, none⟩)) h2 = some wa := ld_cell g12 rfl
  have a5 : aLoad none (.pointer (some ⟨h.next, 5, none⟩)) h2 = some (.int .i64 at_) := ld_cell g12 rfl
  have a6 : aLoad none (.pointer (some ⟨h.next, 6, none⟩)) h2 = some (.int .i64 be) := ld_cell g12 rfl
  have b0 : aLoad none (.pointer (some ⟨h1.next, 0, none⟩)) h2 = some (.int .i64 s) := ld_cell g2 rfl
  have b1_ : aLoad none (.pointer (some ⟨h1.next, 1, none⟩)) h2 = some (.int .i64 a) := ld_cell g2 rfl
  have b2_ : aLoad none (.pointer (some ⟨h1.next, 2, none⟩)) h2 = some (.int .i64 b) := ld_cell g2 rfl
  have b3 : aLoad none (.pointer (some ⟨h1.next, 3, none⟩)) h2 = some vb := ld_cell g2 rfl
  have b4 : aLoad none (.pointer (some ⟨h1.next, 4, none⟩)) h2 = some wb := ld_cell g2 rfl
  have b5 : aLoad none (.pointer (some ⟨h1.next, 5, none⟩)) h2 = some (.int .i64 at_) := ld_cell g2 rfl
  have b6 : aLoad none (.pointer (some ⟨h1.next, 6, none⟩)) h2 = some (.int .i64 be) := ld_cell g2 rfl
  rw [ewa] at a4
  rw [ewb] at b4
  have sa := (hva.keep kk2 (Nat.le_refl _)).str
  have sb := (hvb.keep kk2 (Nat.le_refl _)).str
  have loop : ∀ T : Tr Value, T.get 2 = some (.pointer (some ⟨h.next, 0, none⟩)) → T.get 3 = some (.pointer (some ⟨h1.next, 0, none⟩)) → T.get 5 = some (.int .i64 0) → SaI h.next h1.next es.length h2 es.length T h2 := fun T t2 t3 t5 => ⟨0, rfl, by omega, t2, t3, t5, Keep.refl _ _⟩
  have fin : ∀ (j : Nat) (T : Tr Value) (h' : AHeap), SaI h.next h1.next es.length h2 j T h' → True := fun _ _ _ _ => trivial
  by_cases hne : (strOf ida).data.toList = (strOf idb).data.toList
  case neg =>
    have hes : es.length = 0 := by
      rcases hid with rfl | h0
      · exact absurd rfl hne
      · exact h0
    rw [hes] at a4 b4
    simp (disch := omega) [e1, e2, a0, a1, a2, a3, a4, a5, a6, b0, b1_, b2_, b3, b4, b5, b6, sa, sb, aStr, hne, undef, wrapF_i64]
    refine W_loop (SaI h.next h1.next es.length h2) es.length (by show _ < L; omega) (loop _ (by simp) (by simp) (by simp)) ?_
    rintro j T h' ⟨i, rfl, hi, t2, t3, t5, kk⟩
    have g5 := (kk.get h.next (by omega)).trans g12
    have x4 : aLoad none (.pointer (some ⟨h.next, 4, none⟩)) h' = some wa := ld_cell g5 rfl
    rw [ewa, hes] at x4
    have i0 : i = 0 := by omega
    subst i0
    simp (disch := omega) [t2, t3, t5, x4]
    exact kk2.trans (kk.less kk2.next)
  case pos =>
    simp (disch := omega) [e1, e2, a0, a1, a2, a3, a4, a5, a6, b0, b1_, b2_, b3, b4, b5, b6, sa, sb, aStr, hne, undef, wrapF_i64]
    refine W_loop (SaI h.next h1.next es.length h2) es.length (by show _ < L; omega) (loop _ (by simp) (by simp) (by simp)) ?_
    rintro j T h' ⟨i, rfl, hi, t2, t3, t5, kk⟩
    have kk5 : Keep h.next h h' := kk2.trans (kk.less kk2.next)
    have n5 : h2.next ≤ h'.next := kk.next
    have g5 := (kk.get h.next (by omega)).trans g12
    have g5b := (kk.get h1.next (by omega)).trans g2
    have x4 : aLoad none (.pointer (some ⟨h.next, 4, none⟩)) h' = some wa := ld_cell g5 rfl
    by_cases hlt : i < es.length
    · have hlt' : (i : Int) < es.length := by omega
      have hla : i < ra.length := by rw [hra.1]; exact hlt
      have hlb : i < rb.length := by rw [hrb.1]; exact hlt
      have oe := ok _ (List.getElem_mem hlt)
      obtain ⟨ma, offa, capa, ema, hma, lda, _⟩ := hsa.at (enc := rEnc) (es := 4) (fun e he => rfl) (by omega)
      obtain ⟨mb, offb, capb, emb, hmb, ldb, _⟩ := hsb.at (enc := rEnc) (es := 4) (fun e he => rfl) (by omega)
      rw [hra.1] at ema
      rw [hrb.1] at emb
      obtain ⟨pa1, pa2, pa3, pa4⟩ := (hra.keep kk5 (Nat.le_refl _)).2 i hla hlt
      obtain ⟨pb1, pb2, pb3, pb4⟩ := (hrb.keep kk5 (Nat.le_refl _)).2 i hlb hlt
      have lxa : ∀ H : AHeap, H.get ma = h'.get ma → aLoad (some 4) (.pointer (some ⟨ma, offa + i * 4, none⟩)) H = some (.agg (rEnc ra[i]).toArray) := fun H g => lda H i hla (g.trans (kk5.get ma hma))
      have lxb : ∀ H : AHeap, H.get mb = h'.get mb → aLoad (some 4) (.pointer (some ⟨mb, offb + i * 4, none⟩)) H = some (.agg (rEnc rb[i]).toArray) := fun H g => ldb H i hlb (g.trans (kk5.get mb hmb))
      generalize es[i] = e at oe pa1 pa2 pa3 pa4 pb1 pb2 pb3 pb4
      generalize ra[i] = p at pa1 pa2 pa3 pa4 lxa
      generalize rb[i] = q at pb1 pb2 pb3 pb4 lxb
      obtain ⟨p0, p1, p2, p3⟩ := p
      obtain ⟨q0, q1, q2, q3⟩ := q
      simp only at pa1 pa2 pa3 pa4 pb1 pb2 pb3 pb4
      subst pa1 pa2 pb1 pb2
      obtain ⟨xp, cp, ep0⟩ := pa3.val
      obtain ⟨xp3, cp3, ep3⟩ := pa4.val
      obtain ⟨xq, cq, eq0⟩ := pb3.val
      obtain ⟨xq3, cq3, eq3⟩ := pb4.val
      have bqp : beqV 10000 (.agg (rEnc (p0, e.a, e.b, p3)).toArray) (.agg (rEnc (p0, e.a, e.b, p3)).toArray) = true := rEnc_beq ⟨_, _, _, ep0⟩ ⟨_, _, _, ep3⟩
      have bqq : beqV 10000 (.agg (rEnc (q0, e.a, e.b, q3)).toArray) (.agg (rEnc (q0, e.a, e.b, q3)).toArray) = true := rEnc_beq ⟨_, _, _, eq0⟩ ⟨_, _, _, eq3⟩
      have hd0 := (kk5.wf hw) h'.next (Nat.le_refl _)
      have hd1 := (kk5.wf hw) (h'.next + 1) (by omega)
      have x4s : aLoad none (.pointer (some ⟨h.next, 4, none⟩)) (h'.skip 2) = some wa := x4
      have y4s : aLoad none (.pointer (some ⟨h1.next, 4, none⟩)) (h'.skip 2) = some wb := ld_cell (H := h'.skip 2) (show (h'.skip 2).get h1.next = _ from g5b) rfl
      rw [ema] at x4 x4s
      rw [emb] at y4s
      have la := lxa (h'.skip 2) rfl
      have lb := lxb (h'.skip 2) rfl
      obtain ⟨H2, hH2⟩ : ∃ H2, ((h'.skip 2).set h'.next (.row false 0 (.vals [.slice none 0 0, .int .i64 0, .int .i64 0, .slice none 0 0]))).set (h'.next + 1) (.row false 0 (.vals [.slice none 0 0, .int .i64 0, .int .i64 0, .slice none 0 0])) = H2 := ⟨_, rfl⟩
      have G2 : ∀ j, H2.get j = if j = h'.next + 1 then .row false 0 (.vals [.slice none 0 0, .int .i64 0, .int .i64 0, .slice none 0 0]) else if j = h'.next then .row false 0 (.vals [.slice none 0 0, .int .i64 0, .int .i64 0, .slice none 0 0]) else h'.get j := fun j => by
        rw [← hH2, AHeap.get_set, AHeap.get_set, AHeap.get_skip]
      have N2 : H2.next = h'.next + 2 := by rw [← hH2, AHeap.next_set, AHeap.next_set, AHeap.next_skip]
      have s6 := store_at (h := H2) (m := h'.next) (old := [.slice none 0 0, .int .i64 0, .int .i64 0, .slice none 0 0]) (by rw [G2, if_neg (by omega), if_pos rfl]) (rEnc (p0, e.a, e.b, p3)).toArray 4 rfl rfl (by rw [ep0, ep3]; rfl)
      obtain ⟨H3, hH3⟩ : ∃ H3, H2.set h'.next (.row false 0 (.vals (rEnc (p0, e.a, e.b, p3)))) = H3 := ⟨_, rfl⟩
      have s6 : aStore 4 (.pointer (some ⟨h'.next, 0, none⟩)) (.agg (rEnc (p0, e.a, e.b, p3)).toArray) H2 = some H3 := by rw [← hH3]; exact s6
      have G3 : ∀ j, j < h'.next → H3.get j = h'.get j := fun j hj => by rw [← hH3, AHeap.get_set, if_neg (by omega), G2, if_neg (by omega), if_neg (by omega)]
      have G3a : H3.get h'.next = .row false 0 (.vals (rEnc (p0, e.a, e.b, p3))) := by rw [← hH3, AHeap.get_set, if_pos rfl]
      have G3b : H3.get (h'.next + 1) = .row false 0 (.vals [.slice none 0 0, .int .i64 0, .int .i64 0, .slice none 0 0]) := by rw [← hH3, AHeap.get_set, if_neg (by omega), G2, if_pos rfl]
      have N3 : H3.next = h'.next + 2 := by rw [← hH3, AHeap.next_set, N2]
      have lb3 := lxb H3 (G3 mb (by have := kk5.next; omega))
      have y43 : aLoad none (.pointer (some ⟨h1.next, 4, none⟩)) H3 = some wb := ld_cell ((G3 _ (by omega)).trans g5b) rfl
      rw [emb] at y43
      have s7 := store_at G3b (rEnc (q0, e.a, e.b, q3)).toArray 4 rfl rfl (by rw [eq0, eq3]; rfl)
      obtain ⟨H4, hH4⟩ : ∃ H4, H3.set (h'.next + 1) (.row false 0 (.vals (rEnc (q0, e.a, e.b, q3)))) = H4 := ⟨_, rfl⟩
      have s7 : aStore 4 (.pointer (some ⟨h'.next + 1, 0, none⟩)) (.agg (rEnc (q0, e.a, e.b, q3)).toArray) H3 = some H4 := by rw [← hH4]; exact s7
      have G4a : H4.get h'.next = .row false 0 (.vals (rEnc (p0, e.a, e.b, p3))) := by rw [← hH4, AHeap.get_set, if_neg (by omega)]; exact G3a
      have G4b : H4.get (h'.next + 1) = .row false 0 (.vals (rEnc (q0, e.a, e.b, q3))) := by rw [← hH4, AHeap.get_set, if_pos rfl]
      have N4 : H4.next = h'.next + 2 := by rw [← hH4, AHeap.next_set, N3]
      have kH : Keep h'.next h' H4 := by
        rw [← hH4, ← hH3, ← hH2]
        exact (((((Keep.refl _ _).skip 2).set (Nat.le_refl _) (by rw [AHeap.next_skip]; omega) _).set (by omega) (by rw [AHeap.next_set, AHeap.next_skip]; omega) _).set (Nat.le_refl _) (by rw [AHeap.next_set, AHeap.next_set, AHeap.next_skip]; omega) _).set (by omega) (by rw [AHeap.next_set, AHeap.next_set, AHeap.next_set, AHeap.next_skip]; omega) _
      have f0 : aLoad none (.pointer (some ⟨h'.next, 0, none⟩)) H4 = some p0 := ld_cell G4a rfl
      have f1 : aLoad none (.pointer (some ⟨h'.next, 1, none⟩)) H4 = some (.int .i64 e.a) := ld_cell G4a rfl
      have f2 : aLoad none (.pointer (some ⟨h'.next, 2, none⟩)) H4 = some (.int .i64 e.b) := ld_cell G4a rfl
      have f3 : aLoad none (.pointer (some ⟨h'.next, 3, none⟩)) H4 = some p3 := ld_cell G4a rfl
      have u0 : aLoad none (.pointer (some ⟨h'.next + 1, 0, none⟩)) H4 = some q0 := ld_cell G4b rfl
      have u1 : aLoad none (.pointer (some ⟨h'.next + 1, 1, none⟩)) H4 = some (.int .i64 e.a) := ld_cell G4b rfl
      have u2 : aLoad none (.pointer (some ⟨h'.next + 1, 2, none⟩)) H4 = some (.int .i64 e.b) := ld_cell G4b rfl
      have u3 : aLoad none (.pointer (some ⟨h'.next + 1, 3, none⟩)) H4 = some q3 := ld_cell G4b rfl
      have w1 := same_spec L (d + 1) p0 q0 e.ids e.ids H4 (pa3.keep kH (Nat.le_refl _)) (pb3.keep kH (Nat.le_refl _)) oe.bi oe.bi
      have w2 := same_spec L (d + 1) p3 q3 e.rest e.rest H4 (pa4.keep kH (Nat.le_refl _)) (pb4.keep kH (Nat.le_refl _)) oe.br oe.br
      rw [decide_eq_true rfl] at w1 w2
      simp (disch := omega) [t2, t3, t5, x4, hlt', x4s, y4s, aIndexSl_ok, la, lb, hd0, hd1, AObj.live, AHeap.get_skip, AHeap.get_set, new4, hH2, s6, lb3, y43, bqp, bqq, s7, f0, f1, f2, f3, u0, u1, u2, u3, w1, w2, undef, skip0', wrapF_i64]
      exact ⟨es.length - (i + 1), by omega, i + 1, rfl, by omega, by simp [t2], by simp [t3], by simp, kk.trans (kH.less n5)⟩
    · have hie : i = es.length := by omega
      subst hie
      rw [ewa] at x4
      simp (disch := omega) [t2, t3, t5, x4]
      exact kk5
end
end Go.Proofs.Ytoehafeeoggpkaa.L24

set_option linter.unusedVariables false
set_option linter.unusedSimpArgs false
set_option linter.unnecessarySimpa false
/-! GptBytes over the executor. -/
namespace Go.Proofs.Ytoehafeeoggpkaa.L24
open Go Go.Proofs Go.Shelf Go.RowKit Go.Lib Go.Sort Go.AM Go.Proofs.Ytoehafeeoggpkaa.AMC
set_option maxRecDepth 10000
noncomputable section
/-- What the two parsers find is the same. -/
theorem of_same (L d : Nat) (l : List Int) (rp rd : Value) (e f : Int) (h : AHeap) (hb : Byt l) (hw : Wf h) (tx : Tb) (okx : tx.Ok) (lx : List Ent) (okl : ∀ e ∈ lx, e.Ok) (hlx : lx.length < 100000) (hs : SlZ h tx.sl lx)
    (vi w : Value) (idw : List Int) (byw : Byt idw) (rl : List REnt) (hid : tx.id = idw ∨ lx.length = 0) (svi : SlB h vi idw) (sw : SlC rEnc 4 h w rl) (hrl : RL h rl lx) (hL : 1000000000 < L) :
    ∃ r h1 h2, (En L (d + 7)).go 19 [.agg tx.cells.toArray] h = some (r, h1) ∧ (En L (d + 7)).go 23 [r, .agg (r7 tx.s tx.a tx.b vi w tx.at_ tx.be).toArray] h1 = some (.bool true, h2) ∧ Keep h.next h h1 := by
  obtain ⟨r, h1, e1, ⟨va, wa, ra, rfl, sva, swa, hra⟩, k1⟩ := of_spec L (d + 5) tx okx lx okl h hw hs (by omega) hL
  obtain ⟨r2, h2, e2, rfl, k2⟩ := sameT L (d + 4) tx.s tx.a tx.b tx.at_ tx.be va wa vi w tx.id idw ra rl lx okl h1 (k1.wf hw) sva (svi.keep k1 (Nat.le_refl _)) okx.b byw hid swa (sw.keep k1 (Nat.le_refl _)) hra (hrl.keep k1 (Nat.le_refl _)) hlx hL
  exact ⟨_, h1, h2, e1, e2, k1⟩
end
end Go.Proofs.Ytoehafeeoggpkaa.L24

