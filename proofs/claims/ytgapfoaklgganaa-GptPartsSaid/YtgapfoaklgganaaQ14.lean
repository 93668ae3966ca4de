import Derived.Test.YtgapfoaklgganaaP14
import Derived.Deep.Slices
import Derived.OpenShut
set_option linter.unusedVariables false
set_option linter.unusedSimpArgs false
set_option linter.unnecessarySimpa false
/-! Parts, by the document. -/
namespace Go.Proofs.Ytgapfoaklgganaa.L14
open Go Go.Proofs Go.Shelf Go.RowKit Go.Lib Go.Sort Go.AM Go.Proofs.Ytgapfoaklgganaa.AMC
set_option maxRecDepth 10000
noncomputable section
/-- The document's entries, tables. -/
abbrev REnt := Value × Int × Int × Value
def rEnc (p : REnt) : List Value := [p.1, .int .i64 p.2.1, .int .i64 p.2.2.1, p.2.2.2]
def RL (h : AHeap) (rl : List REnt) (l : List Ent) : Prop :=
  rl.length = l.length ∧ ∀ i (h1 : i < rl.length) (h2 : i < l.length), rl[i].2.1 = l[i].a ∧ rl[i].2.2.1 = l[i].b ∧ SlB h rl[i].1 l[i].ids
theorem RL.keep {N : Nat} {h h' : AHeap} {rl : List REnt} {l : List Ent} (a : RL h rl l) (k : Keep N h h') (hN : h.next ≤ N) : RL h' rl l :=
  ⟨a.1, fun i h1 h2 => ⟨(a.2 i h1 h2).1, (a.2 i h1 h2).2.1, (a.2 i h1 h2).2.2.keep k hN⟩⟩
def r7 (s a b : Int) (vi vl : Value) (at_ be : Int) : List Value := [.int .i64 s, .int .i64 a, .int .i64 b, vi, vl, .int .i64 at_, .int .i64 be]
theorem r7_box {s a b : Int} {vi vl : Value} {at_ be : Int} (h1 : AM.one vi = true) (h2 : AM.one vl = true) (h : AHeap) : ∃ H, aNew true (Value.agg (r7 s a b vi vl at_ be).toArray).cells.toList h = some (.pointer (some ⟨h.next, 0, none⟩), H) ∧ H.get h.next = .row false 0 (.vals (r7 s a b vi vl at_ be)) ∧ Keep h.next h H ∧ H.next = h.next + 1 := by
  have e1 : (Value.agg (r7 s a b vi vl at_ be).toArray).cells.toList = r7 s a b vi vl at_ be := rfl
  have e2 : (r7 s a b vi vl at_ be).all AM.one = true := by simp only [r7, List.all_cons, h1, h2]; rfl
  have e3 : mkRow true (r7 s a b vi vl at_ be) = .vals (r7 s a b vi vl at_ be) := rfl
  rw [e1]
  unfold aNew
  rw [if_pos e2, e3]
  exact ⟨_, rfl, by rw [AHeap.get_new, if_pos rfl], (Keep.refl _ _).new (Nat.le_refl _) _, by simp⟩
theorem slC_one {α : Type} {enc : α → List Value} {es : Nat} {h : AHeap} {v : Value} {l : List α} (a : SlC enc es h v l) : AM.one v = true := by
  obtain ⟨x, c, e⟩ := a.val
  rw [e]; rfl
theorem slB_one {h : AHeap} {v : Value} {l : List Int} (a : SlB h v l) : AM.one v = true := by
  obtain ⟨x, c, e⟩ := a.val
  rw [e]; rfl
theorem part_same (b : Int) : wrapF .i64 (wrapF .i64 (b + 1) * 512) = wrapF .i64 (wrapF .i64 (b * 512) + 512) := by
  simp only [wrapF_eq, IntKind.wrap, IntKind.bits, IntKind.signed]
  simp
  omega
def RpI (vl : Value) (rl : List REnt) (l : List Ent) (m : Nat) (hs : AHeap) (j : Nat) (T : Tr Value) (h' : AHeap) : Prop :=
  ∃ (i : Nat) (w : Value), j = l.length - i ∧ i ≤ l.length ∧ T.get 1 = some (.pointer (some ⟨m, 0, none⟩)) ∧ T.get 4 = some (.int .i64 i) ∧ T.get 3 = some w ∧ Own hs.next h' 4 w (partsTo l i).length (flatC pEnc (partsTo l i)) ∧ Keep hs.next hs h'
set_option maxHeartbeats 2000000 in
theorem rparts_spec (L d : Nat) (s a b at_ be : Int) (vi vl : Value) (rl : List REnt) (l : List Ent) (hl : ∀ e ∈ l, e.Ok) (h : AHeap) (hw : Wf h) (hvi : AM.one vi = true) (hs : SlC rEnc 4 h vl rl) (hr : RL h rl l) (hn : l.length < 1000000) (hL : 1000000000 < L) :
    ∃ r h', (En L (d + 3)).go 17 [.agg (r7 s a b vi vl at_ be).toArray] h = some (r, h') ∧ Own h.next h' 4 r (partsTo l l.length).length (flatC pEnc (partsTo l l.length)) ∧ Keep h.next h h' := by
  refine go_ex (R := fun r h' => Own h.next h' 4 r (partsTo l l.length).length (flatC pEnc (partsTo l l.length)) ∧ Keep h.next h h') (show tabF 17 = some (.code a17) by rfl) rfl ?_
  unfold a17
  obtain ⟨h1, e1, g1, k1, n1⟩ := r7_box (s := s) (a := a) (b := b) (at_ := at_) (be := be) hvi (slC_one hs) h
  obtain ⟨x, c, ev⟩ := hs.val
  rw [hr.1] at ev
  have hs1 := hs.keep k1 (Nat.le_refl _)
  have hr1 := hr.keep k1 (Nat.le_refl _)
  simp (disch := omega) [e1]
  refine W_loop (RpI vl rl l h.next h1) l.length (by show _ < L; omega) ⟨0, .slice none 0 0, rfl, by omega, by simp, by simp, by simp, Own.nil _ _ _, Keep.refl _ _⟩ ?_
  rintro j T h' ⟨i, w, rfl, hi, t1, t4, t3, ow, kk⟩
  have kk5 : Keep h.next h h' := k1.trans (kk.less k1.next)
  have g5 := (kk.get h.next (by omega)).trans g1
  have l4 : aLoad none (.pointer (some ⟨h.next, 4, none⟩)) h' = some vl := ld_cell g5 rfl
  by_cases hlt : i < l.length
  · have hlt' : (i : Int) < l.length := by omega
    have hlr : i < rl.length := by rw [hr.1]; exact hlt
    have oe : (l[i]).Ok := hl _ (List.getElem_mem hlt)
    obtain ⟨m, off, cap, em, hm, _, ld⟩ := (hs1.keep kk (Nat.le_refl _)).at (enc := rEnc) (es := 4) (fun e he => rfl) (by omega)
    obtain ⟨ra, rb, rs⟩ := (hr1.keep kk (Nat.le_refl _)).2 i hlr hlt
    have d0 := ld h' i 0 rl[i].1 hlr rfl (by omega) rfl
    have d1 := ld h' i 1 (.int .i64 rl[i].2.1) hlr rfl (by omega) rfl
    have d2 := ld h' i 2 (.int .i64 rl[i].2.2.1) hlr rfl (by omega) rfl
    rw [hr.1] at em
    rw [ra] at d1
    rw [rb] at d2
    have st := partsTo_succ hlt
    have pl := partsTo_len l i hi
    have step : ∀ (T6 : Tr Value) (h6 : AHeap) (w6 : Value), T6.get 1 = some (.pointer (some ⟨h.next, 0, none⟩)) → T6.get 4 = some (.int .i64 (i + 1)) → T6.get 3 = some w6 → Own h1.next h6 4 w6 (partsTo l i ++ partF l[i] i).length (flatC pEnc (partsTo l i ++ partF l[i] i)) → Keep h1.next h1 h6 → ∃ j', j' < l.length - i ∧ RpI vl rl l h.next h1 j' T6 h6 := fun T6 h6 w6 a1 a4 a3 o6 k6 =>
      ⟨l.length - (i + 1), by omega, i + 1, w6, rfl, by omega, a1, by rw [a4]; simp, a3, by rw [st]; exact o6, k6⟩
    generalize l[i] = e at oe rs d1 d2 step
    generalize rl[i].1 = vb at rs d0
    obtain ⟨v1, c1, s1⟩ := cutB rs (lo := none) (hi := some (.int .i64 ((16 : Nat) : Int))) 0 16 (.inl ⟨rfl, rfl⟩) (.inr ⟨_, rfl⟩) (by omega) (by rw [oe.i]; omega)
    have s1' : SlB h' v1 (e.ids.take 16) := by simpa using s1
    have c1' : aCut (.sl 1) vb none (some (.int .i64 16)) none h' = some v1 := c1
    have z1 := isZero_spec L (d + 1) v1 (e.ids.take 16) h' s1' (by simp; omega) hL
    rw [em] at l4
    rw [Nat.add_zero] at d0
    by_cases hz : zeroB (e.ids.take 16) = true
    · have p0 : partF e i = [] := by unfold partF; rw [if_pos hz]
      rw [p0, List.append_nil] at step
      rw [hz] at z1
      simp (disch := omega) [t1, t4, t3, l4, hlt', aIndexSl_ok, d0, c1', z1, wrapF_i64]
      exact step _ _ w (by simp [t1]) (by simp) (by simp [t3]) ow kk
    · have p0 : partF e i = [(wrapF .i64 (e.a * 512), wrapF .i64 (wrapF .i64 (e.b + 1) * 512), (i : Int))] := by unfold partF; rw [if_neg hz]
      rw [Bool.not_eq_true] at hz
      rw [hz] at z1
      rw [p0, part_same] at step
      have hd := (kk5.wf hw) h'.next (Nat.le_refl _)
      have k8 : Keep h'.next h' ((h'.skip 1).set h'.next (.row false 0 (.vals [.int .i64 (wrapF .i64 (e.a * 512)), .int .i64 (wrapF .i64 (wrapF .i64 (e.b * 512) + 512)), .int .i64 0, .int .i64 i]))) := ((Keep.refl _ _).skip 1).set (Nat.le_refl _) (by rw [AHeap.next_skip]; omega) _
      have g8 : ((h'.skip 1).set h'.next (.row false 0 (.vals [.int .i64 (wrapF .i64 (e.a * 512)), .int .i64 (wrapF .i64 (wrapF .i64 (e.b * 512) + 512)), .int .i64 0, .int .i64 i]))).get h'.next = .row false 0 (.vals [.int .i64 (wrapF .i64 (e.a * 512)), .int .i64 (wrapF .i64 (wrapF .i64 (e.b * 512) + 512)), .int .i64 0, .int .i64 i]) := by rw [AHeap.get_set, if_pos rfl]
      obtain ⟨w9, h9, e9, o9, k9⟩ := push_one (k := EK4) (ow.keep k8 (Nat.le_refl _)) g8 rfl (by decide) (by have := kk.next; have := k8.next; omega) (by show ((partsTo l i).length + 1) * 32 ≤ _; omega) (by omega)
      have kk9 : Keep h1.next h1 h9 := kk.trans ((k8.less kk.next).trans k9)
      have ds : ∀ n, aLoad none (.pointer (some ⟨m, off + i * 4 + n, none⟩)) (h'.skip 1) = aLoad none (.pointer (some ⟨m, off + i * 4 + n, none⟩)) h' := fun n => rfl
      have d1s := (ds 1).trans d1
      have d2s := (ds 2).trans d2
      have l4s : aLoad none (.pointer (some ⟨h.next, 4, none⟩)) (h'.skip 1) = some (.slice (some ⟨m, off, none⟩) l.length cap) := l4
      simp (disch := omega) [t1, t4, t3, l4, l4s, hlt', aIndexSl_ok, d0, d1, d2, d1s, d2s, c1', z1, b2E, b4E, lit4E, hd, AObj.live, AHeap.get_skip, e9, skip0', wrapF_i64 (n := (i : Int) + 1) (by omega) (by omega)]
      exact step _ _ w9 (by simp [t1]) (by simp) (by simp) (by simpa [flatC_app, flatC, pEnc] using o9) kk9
  · have hie : i = l.length := by omega
    subst hie
    rw [ev] at l4
    simp [t1, t4, t3, l4]
    exact ⟨ownN ow k1.next, kk5⟩
end
end Go.Proofs.Ytgapfoaklgganaa.L14

set_option linter.unusedVariables false
set_option linter.unusedSimpArgs false
set_option linter.unnecessarySimpa false
/-! The same lists; what a table holds. -/
namespace Go.Proofs.Ytgapfoaklgganaa.L14
open Go Go.Proofs Go.Shelf Go.RowKit Go.Lib Go.Sort Go.AM Go.Proofs.Ytgapfoaklgganaa.AMC
set_option maxRecDepth 10000
noncomputable section
theorem eq4 (p : Int × Int × Int) : aEqL (.agg (pEnc p).toArray) (.agg (pEnc p).toArray) [(0, .int), (1, .int), (2, .int), (3, .int)] = some true := by
  simp [aEqL, cellAt, cellEq, pEnc]
def eEnc (p : Int × Int) : List Value := [.int .i64 p.1, .int .i64 p.2]
theorem eq2 (p : Int × Int) : aEqL (.agg (eEnc p).toArray) (.agg (eEnc p).toArray) [(0, .int), (1, .int)] = some true := by
  simp [aEqL, cellAt, cellEq, eEnc]
theorem sameParts_spec (L d : Nat) (v w : Value) (q : List (Int × Int × Int)) (h : AHeap) (hv : SlC pEnc 4 h v q) (hw : SlC pEnc 4 h w q) (hn : q.length < 1000000) (hL : 1000000000 < L) :
    (En L (d + 1)).go 15 [v, w] h = some (.bool true, h) := by
  have ex : ∃ r h', (En L (d + 1)).go 15 [v, w] h = some (r, h') ∧ r = .bool true ∧ h' = h := by
    refine go_ex (R := fun r h' => r = .bool true ∧ h' = h) (show tabF 15 = some (.code a15) by rfl) rfl ?_
    unfold a15
    obtain ⟨x, c, ev⟩ := hv.val
    obtain ⟨y, c2, ew⟩ := hw.val
    simp [ev, ew]
    refine W_loop (fun j T h' => ∃ i : Nat, j = q.length - i ∧ i ≤ q.length ∧ T.get 0 = some v ∧ T.get 1 = some w ∧ T.get 5 = some (.int .i64 i) ∧ h' = h) q.length (by show _ < L; omega) ⟨0, rfl, by omega, by simp [ev], by simp [ew], by simp, rfl⟩ ?_
    rintro j T h' ⟨i, rfl, hi, t0, t1, t5, rfl⟩
    by_cases hlt : i < q.length
    · have hlt' : (i : Int) < q.length := by omega
      obtain ⟨m, off, cap, em, hm, ld, _⟩ := hv.at (fun p _ => rfl) (by omega)
      obtain ⟨m2, off2, cap2, em2, hm2, ld2, _⟩ := hw.at (fun p _ => rfl) (by omega)
      have lx := ld h' i hlt rfl
      have ly := ld2 h' i hlt rfl
      have e4 := eq4 q[i]
      generalize q[i] = p at lx ly e4
      have t0o := t0
      have t1o := t1
      rw [em] at t0
      rw [em2] at t1
      simp (disch := omega) [t0, t1, t5, hlt', aIndexSl_ok, lx, ly, e4, isAggV, wrapF_i64 (n := (i : Int) + 1) (by omega) (by omega)]
      exact ⟨q.length - (i + 1), by omega, i + 1, rfl, by omega, em.symm, em2.symm, by simp⟩
    · have hie : i = q.length := by omega
      subst hie
      rw [ev] at t0
      simp [t0, t1, t5]
  obtain ⟨r, h', e, rfl, rfl⟩ := ex
  exact e
theorem same_spec (L d : Nat) (v w : Value) (q : List (Int × Int)) (h : AHeap) (hv : SlC eEnc 2 h v q) (hw : SlC eEnc 2 h w q) (hn : q.length < 1000000) (hL : 1000000000 < L) :
    (En L (d + 1)).go 18 [v, w] h = some (.bool true, h) := by
  have ex : ∃ r h', (En L (d + 1)).go 18 [v, w] h = some (r, h') ∧ r = .bool true ∧ h' = h := by
    refine go_ex (R := fun r h' => r = .bool true ∧ h' = h) (show tabF 18 = some (.code a18) by rfl) rfl ?_
    unfold a18
    obtain ⟨x, c, ev⟩ := hv.val
    obtain ⟨y, c2, ew⟩ := hw.val
    simp [ev, ew]
    refine W_loop (fun j T h' => ∃ i : Nat, j = q.length - i ∧ i ≤ q.length ∧ T.get 0 = some v ∧ T.get 1 = some w ∧ T.get 5 = some (.int .i64 i) ∧ h' = h) q.length (by show _ < L; omega) ⟨0, rfl, by omega, by simp [ev], by simp [ew], by simp, rfl⟩ ?_
    rintro j T h' ⟨i, rfl, hi, t0, t1, t5, rfl⟩
    by_cases hlt : i < q.length
    · have hlt' : (i : Int) < q.length := by omega
      obtain ⟨m, off, cap, em, hm, ld, _⟩ := hv.at (fun p _ => rfl) (by omega)
      obtain ⟨m2, off2, cap2, em2, hm2, ld2, _⟩ := hw.at (fun p _ => rfl) (by omega)
      have lx := ld h' i hlt rfl
      have ly := ld2 h' i hlt rfl
      have e4 := eq2 q[i]
      generalize q[i] = p at lx ly e4
      have t0o := t0
      have t1o := t1
      rw [em] at t0
      rw [em2] at t1
      simp (disch := omega) [t0, t1, t5, hlt', aIndexSl_ok, lx, ly, e4, isAggV, wrapF_i64 (n := (i : Int) + 1) (by omega) (by omega)]
      exact ⟨q.length - (i + 1), by omega, i + 1, rfl, by omega, em.symm, em2.symm, by simp⟩
    · have hie : i = q.length := by omega
      subst hie
      rw [ev] at t0
      simp [t0, t1, t5]
  obtain ⟨r, h', e, rfl, rfl⟩ := ex
  exact e
def heldL (s at_ be : Int) (n : Nat) : List (Int × Int) :=
  [(512, 1024), (wrapF .i64 (at_ * 512), wrapF .i64 (wrapF .i64 (at_ * 512) + rowsN n * 512)), (wrapF .i64 (be * 512), wrapF .i64 (wrapF .i64 (be * 512) + rowsN n * 512)), (wrapF .i64 (wrapF .i64 (s - 1) * 512), wrapF .i64 (s * 512))]
theorem held_same (s : Int) : wrapF .i64 (wrapF .i64 (s - 1) * 512) = wrapF .i64 (wrapF .i64 (s * 512) - 512) := by
  simp only [wrapF_eq, IntKind.wrap, IntKind.bits, IntKind.signed]
  simp
  omega
theorem held4 (a b c d e f g k : Int) (h : AHeap) : aBuildSlice true EK2 4 [(0, .agg #[.int .i64 a, .int .i64 b]), (1, .agg #[.int .i64 c, .int .i64 d]), (2, .agg #[.int .i64 e, .int .i64 f]), (3, .agg #[.int .i64 g, .int .i64 k])] h = some (.slice (some ⟨h.next, 0, none⟩) 4 4, h.new (.row false 0 (.vals [.int .i64 a, .int .i64 b, .int .i64 c, .int .i64 d, .int .i64 e, .int .i64 f, .int .i64 g, .int .i64 k]))) := by kernel_rfl
theorem held_sl {h : AHeap} {m : Nat} (hm : m < h.next) {q : List (Int × Int)} (h4 : q.length = 4) (g : h.get m = .row false 0 (.vals (flatC eEnc q))) : SlC eEnc 2 h (.slice (some ⟨m, 0, none⟩) 4 4) q := by
  have e : (flatC eEnc q).length = q.length * 2 := flatC_len (fun p _ => rfl)
  refine ⟨e, .inr ⟨m, 0, 4, false, 0, _, by rw [h4], by omega, hm, g, .inl rfl, ?_, ?_⟩⟩
  · show 0 + q.length * 2 ≤ (flatC eEnc q).length; omega
  · show ((flatC eEnc q).drop 0).take (q.length * 2) = _
    rw [List.drop_zero, List.take_of_length_le (by omega)]
theorem held_spec (L d : Nat) (t : Tb) (o : t.Ok) (l : List Ent) (h : AHeap) (hs : SlC Ent.cells 114 h t.sl l) (hn : l.length < 1000000) :
    ∃ r h', (En L (d + 2)).go 19 [.agg t.cells.toArray] h = some (r, h') ∧ SlC eEnc 2 h' r (heldL t.s t.at_ t.be l.length) ∧ Keep h.next h h' := by
  refine go_ex (R := fun r h' => SlC eEnc 2 h' r (heldL t.s t.at_ t.be l.length) ∧ Keep h.next h h') (show tabF 19 = some (.code a19) by rfl) rfl ?_
  unfold a19
  obtain ⟨h1, e1, g1, k1, n1⟩ := o.nbox h
  have lall := o.lall g1
  have hs1 := hs.keep k1 (Nat.le_refl _)
  obtain ⟨h2, e2, k2⟩ := rows_spec L d t o l h1 hs1 hn
  have g2 := g1.keep k2 (by omega)
  have l0 := g2.l0
  have l20 := o.l20 g2
  have l21 := o.l21 g2
  have hR : 0 ≤ rowsN l.length ∧ rowsN l.length ≤ 1000000000 := by unfold rowsN; omega
  have hR1 : wrapF .i64 (rowsN l.length * 512) = rowsN l.length * 512 := wrapF_i64 (by omega) (by omega)
  simp [e1, lall, e2, l0, l20, l21, b2E, held4, hR1]
  refine ⟨held_sl (by simp) rfl (by rw [AHeap.get_new, if_pos rfl]; rfl), (k1.trans (k2.less k1.next)).new (by have := k1.next; have := k2.next; omega) _⟩
theorem rrows_spec (L d : Nat) (n : Nat) (h : AHeap) (hn : n < 1000000) :
    (En L (d + 1)).go 59 [.int .i64 n] h = some (.int .i64 (rowsN n), h) := by
  refine go_of (show tabF 59 = some (.code a59) by rfl) rfl ?_
  unfold a59
  by_cases hz : (n : Int) * 128 % 512 = 0
  · simp (disch := omega) [hz, wrapF_i64, Int.tdiv_eq_ediv_of_nonneg, Int.tmod_eq_emod_of_nonneg]
    unfold rowsN; omega
  · simp (disch := omega) [hz, wrapF_i64, Int.tdiv_eq_ediv_of_nonneg, Int.tmod_eq_emod_of_nonneg]
    unfold rowsN; omega
theorem rheld_spec (L d : Nat) (s a b at_ be : Int) (vi vl : Value) (n : Nat) (h : AHeap) (hvi : AM.one vi = true) (hs : ∃ x c, vl = .slice x n c) (hn : n < 1000000) :
    ∃ r h', (En L (d + 2)).go 20 [.agg (r7 s a b vi vl at_ be).toArray] h = some (r, h') ∧ SlC eEnc 2 h' r (heldL s at_ be n) ∧ Keep h.next h h' := by
  refine go_ex (R := fun r h' => SlC eEnc 2 h' r (heldL s at_ be n) ∧ Keep h.next h h') (show tabF 20 = some (.code a20) by rfl) rfl ?_
  unfold a20
  obtain ⟨x, c, rfl⟩ := hs
  obtain ⟨h1, e1, g1, k1, n1⟩ := r7_box (s := s) (a := a) (b := b) (at_ := at_) (be := be) (vl := .slice x n c) hvi rfl h
  have l0 : aLoad none (.pointer (some ⟨h.next, 0, none⟩)) h1 = some (.int .i64 s) := ld_cell g1 rfl
  have l4 : aLoad none (.pointer (some ⟨h.next, 4, none⟩)) h1 = some (.slice x n c) := ld_cell g1 rfl
  have l5 : aLoad none (.pointer (some ⟨h.next, 5, none⟩)) h1 = some (.int .i64 at_) := ld_cell g1 rfl
  have l6 : aLoad none (.pointer (some ⟨h.next, 6, none⟩)) h1 = some (.int .i64 be) := ld_cell g1 rfl
  have e2 := rrows_spec L d n h1 hn
  have hR : 0 ≤ rowsN n ∧ rowsN n ≤ 1000000000 := by unfold rowsN; omega
  have hR1 : wrapF .i64 (rowsN n * 512) = rowsN n * 512 := wrapF_i64 (by omega) (by omega)
  simp [e1, e2, l0, l4, l5, l6, b2E, held4, hR1]
  refine ⟨held_sl (by simp) rfl (by rw [AHeap.get_new, if_pos rfl, heldL, held_same]; rfl), k1.new (by omega) _⟩
end
end Go.Proofs.Ytgapfoaklgganaa.L14

set_option linter.unusedVariables false
set_option linter.unusedSimpArgs false
set_option linter.unnecessarySimpa false
/-! The document's table of a table. -/
namespace Go.Proofs.Ytgapfoaklgganaa.L14
open Go Go.Proofs Go.Shelf Go.RowKit Go.Lib Go.Sort Go.AM Go.Proofs.Ytgapfoaklgganaa.AMC
set_option maxRecDepth 10000
noncomputable section
/-- An element behind a slice of the function's own: nothing but that slice's row is touched. -/
theorem push_two {k : ElK} {h : AHeap} {N : Nat} {v : Value} {n : Nat} {l vs : List Value} {m : Nat} (ho : Own N h k.es v n l) (hm : h.get m = .row false 0 (.vals vs)) (hvs : vs.length = k.es) (hes : 0 < k.es) (hN : N ≤ h.next)
    (hb : (n + 1) * k.bytes ≤ 140737488355328) (hn : n + 1 ≤ 1099511627776) :
    ∃ v' h', aAppend k v (.slice (some ⟨m, 0, none⟩) 1 1) h = some (v', h') ∧ Own N h' k.es v' (n + 1) (l ++ vs) ∧ Keep N h h' ∧ (∀ j, j < h.next → (∀ m0 o n c, v = .slice (some ⟨m0, o, none⟩) n c → j ≠ m0) → h'.get j = h.get j) := by
  have hsrc : aSrc k.es (.slice (some ⟨m, 0, none⟩) 1 1) h = some (.vals vs, 1) := by
    simp only [aSrc, hm]
    rw [if_pos (by simp [Cells.size, hvs])]
    simp only [ext_vals, List.drop_zero, Nat.one_mul]
    rw [List.take_of_length_le (by omega)]
  rcases ho.2 with ⟨rfl, rfl⟩ | ⟨h0, m0, rfl, h1, h2, h3⟩
  · have hl : l = [] := by have := ho.1; simp at this; exact this
    subst hl
    refine ⟨.slice (some ⟨h.next, 0, none⟩) 1 1, h.new (.row false k.es (.vals vs)), ?_, ⟨by simp [hvs], .inr ⟨by omega, h.next, rfl, hN, by simp, ?_⟩⟩, (Keep.refl N h).new hN _, ?_⟩
    · simp only [aAppend, hsrc]
      rw [if_neg (by omega), if_pos ⟨by omega, by omega, hes⟩]
    · rw [AHeap.get_new, if_pos rfl]; simp
    · intro j hj _
      rw [AHeap.get_new, if_neg (by omega)]
  · have hll := ho.1
    refine ⟨.slice (some ⟨h.next, 0, none⟩) (n + 1) (n + 1), (h.set m0 .dead).new (.row false k.es (.vals (l ++ vs))), ?_, ⟨by simp [hvs, hll, Nat.add_mul], .inr ⟨by omega, h.next, rfl, hN, by simp, ?_⟩⟩, ((Keep.refl N h).set h1 h2 _).new hN _, ?_⟩
    · simp only [aAppend, hsrc, h3]
      rw [if_pos ⟨Nat.le_refl _, by simp [Cells.size, hll], hb, hn, hes⟩, if_neg (by omega), if_neg (by omega), if_pos ⟨trivial, trivial⟩]
      simp only [ext_vals, List.drop_zero, app_vals]
      rw [List.take_of_length_le (by omega)]
    · rw [AHeap.get_new, if_pos (AHeap.next_set _ _ _).symm]
    · intro j hj hne
      rw [AHeap.get_new, if_neg (by rw [AHeap.next_set]; omega), AHeap.get_set, if_neg (hne _ _ _ _ rfl)]
theorem slB_move {h h' : AHeap} {v : Value} {l : List Int} (a : SlB h v l) (hn : h.next ≤ h'.next) (hg : ∀ m o n c, v = .slice (some ⟨m, o, none⟩) n c → m < h.next → h'.get m = h.get m) : SlB h' v l := by
  refine ⟨a.1, ?_⟩
  rcases a.2 with h1 | ⟨m, off, cap, ro, gr, c, h1, h2, h3, h4, h5⟩
  · exact .inl h1
  · exact .inr ⟨m, off, cap, ro, gr, c, h1, h2, Nat.lt_of_lt_of_le h3 hn, (hg m _ _ _ h1 h3).trans h4, h5⟩
theorem sb_ne {h : AHeap} {v : Value} {l : List Int} (a : SlB h v l) (h0 : 0 < l.length) {m gr : Nat} {ro : Bool} {c : List Value} (g : h.get m = .row ro gr (.vals c)) (hc : ∀ x ∈ c, ∀ y, x ≠ .int .u8 y) : ∀ m' o n k, v = .slice (some ⟨m', o, none⟩) n k → m' ≠ m := by
  intro m' o n k e em
  obtain ⟨m2, off, cap, e2, _, ro2, gr2, c2, g2, hr⟩ := a.row h0
  rw [e] at e2
  simp only [Value.slice.injEq, Option.some.injEq, Addr.mk.injEq] at e2
  obtain ⟨⟨rfl, _, _⟩, _⟩ := e2
  subst em
  rw [g] at g2
  simp only [AObj.row.injEq] at g2
  obtain ⟨_, _, rfl⟩ := g2
  have := hr 0 h0
  simp only [Cells.get] at this
  exact hc _ (List.mem_of_getElem? this) _ rfl
theorem slB_set {h : AHeap} {v : Value} {l : List Int} (a : SlB h v l) {s : Nat} (hd : h.get s = .dead) (o : AObj) : SlB (h.set s o) v l := by
  refine ⟨a.1, ?_⟩
  rcases a.2 with h1 | ⟨m, off, cap, ro, gr, c, h1, h2, h3, h4, h5⟩
  · exact .inl h1
  · refine .inr ⟨m, off, cap, ro, gr, c, h1, h2, h3, ?_, h5⟩
    rw [AHeap.get_set, if_neg (by intro e; rw [e, hd] at h4; cases h4)]
    exact h4
theorem store_at {h : AHeap} {m : Nat} {old : List Value} (g : h.get m = .row false 0 (.vals old)) (vs : Array Value) (sz : Nat) (h1 : vs.size = sz) (h2 : old.length = sz) (h3 : vs.toList.all AM.one = true) :
    aStore sz (.pointer (some ⟨m, 0, none⟩)) (.agg vs) h = some (h.set m (.row false 0 (.vals vs.toList))) := by
  have hc : (Value.agg vs).cells = vs := rfl
  simp only [aStore, g, hc]
  rw [if_pos ⟨h1, by simp only [Cells.size]; omega, h3⟩]
  have hl : vs.toList.length = sz := by simpa using h1
  simp only [cellsOf, hc, Cells.blit, Cells.ext, Cells.app, Cells.size, Cells.toList]
  simp [h1, h2]
theorem new7 (h : AHeap) : aNew true [.int .i64 0, .int .i64 0, .int .i64 0, .slice none 0 0, .slice none 0 0, .int .i64 0, .int .i64 0] h = some (.pointer (some ⟨h.next, 0, none⟩), h.new (.row false 0 (.vals (r7 0 0 0 (.slice none 0 0) (.slice none 0 0) 0 0)))) := rfl
theorem b7E (s a b : Int) (x : Option Addr) (n c : Nat) (at_ be : Int) : aBuild (.str [.int .i64 0, .int .i64 0, .int .i64 0, .slice none 0 0, .slice none 0 0, .int .i64 0, .int .i64 0] [(0, 1), (1, 1), (2, 1), (3, 1), (4, 1), (5, 1), (6, 1)]) [(0, .int .i64 s), (1, .int .i64 a), (2, .int .i64 b), (3, .slice x n c), (5, .int .i64 at_), (6, .int .i64 be)] = some (.agg (r7 s a b (.slice x n c) (.slice none 0 0) at_ be).toArray) := by kernel_rfl
theorem b4R (a b : Int) (x y : Option Addr) (n c n2 c2 : Nat) : aBuild (.str [.slice none 0 0, .int .i64 0, .int .i64 0, .slice none 0 0] [(0, 1), (1, 1), (2, 1), (3, 1)]) [(0, .slice x n c), (1, .int .i64 a), (2, .int .i64 b), (3, .slice y n2 c2)] = some (.agg #[.slice x n c, .int .i64 a, .int .i64 b, .slice y n2 c2]) := by kernel_rfl
abbrev EKR : ElK := ⟨4, 64, [.slice none 0 0, .int .i64 0, .int .i64 0, .slice none 0 0]⟩
theorem lit4R (a b : Int) (x y : Option Addr) (n c n2 c2 : Nat) (h : AHeap) : aBuildSlice true EKR 1 [(0, .agg #[.slice x n c, .int .i64 a, .int .i64 b, .slice y n2 c2])] h = some (.slice (some ⟨h.next, 0, none⟩) 1 1, h.new (.row false 0 (.vals [.slice x n c, .int .i64 a, .int .i64 b, .slice y n2 c2]))) := by kernel_rfl
theorem st7 {h : AHeap} {m : Nat} {s a b : Int} {vi vl : Value} {at_ be : Int} (g : h.get m = .row false 0 (.vals (r7 s a b vi vl at_ be))) (x : Option Addr) (n c : Nat) : aStore 1 (.pointer (some ⟨m, 4, none⟩)) (.slice x n c) h = some (h.set m (.row false 0 (.vals (r7 s a b vi (.slice x n c) at_ be)))) := by
  have hc : (Value.slice x n c).cells = #[.slice x n c] := rfl
  simp only [aStore, g, hc]
  rw [if_pos ⟨rfl, by show 4 + 1 ≤ 7; omega, rfl⟩]
  rfl
def RS (rl : List REnt) : Prop := ∀ p ∈ rl, (∃ x n c, p.1 = .slice x n c) ∧ (∃ x n c, p.2.2.2 = .slice x n c)
theorem RS.no : ∀ {rl : List REnt}, RS rl → ∀ x ∈ flatC rEnc rl, ∀ y, x ≠ .int .u8 y
  | [], _, x, hx, y => by cases hx
  | p :: rl, h, x, hx, y => by
    rcases List.mem_append.1 hx with hx | hx
    · obtain ⟨⟨_, _, _, e1⟩, ⟨_, _, _, e2⟩⟩ := h p (List.mem_cons_self ..)
      simp only [rEnc, e1, e2, List.mem_cons, List.not_mem_nil, or_false] at hx
      rcases hx with rfl | rfl | rfl | rfl <;> intro e <;> cases e
    · exact RS.no (fun q hq => h q (List.mem_cons_of_mem _ hq)) x hx y
theorem r7_no {s a b : Int} {x y : Option Addr} {n c n2 c2 : Nat} {at_ be : Int} : ∀ v ∈ r7 s a b (.slice x n c) (.slice y n2 c2) at_ be, ∀ z, v ≠ .int .u8 z := by
  intro v hv z
  simp only [r7, List.mem_cons, List.not_mem_nil, or_false] at hv
  rcases hv with rfl | rfl | rfl | rfl | rfl | rfl | rfl <;> intro e <;> cases e
theorem ownSl {N es : Nat} {h : AHeap} {v : Value} {n : Nat} {l : List Value} (a : Own N h es v n l) : ∃ x c, v = .slice x n c := by
  rcases a.2 with ⟨h1, h2⟩ | ⟨_, m, h1, _⟩
  · exact ⟨none, 0, by rw [h1]; exact h2⟩
  · exact ⟨_, _, h1⟩
/-- A box's bytes, all of them, as a slice. -/
theorem cut_arr {h : AHeap} {m o k : Nat} {c : Cells} (g : h.get m = .row false 0 c) : aCut (.arr k 1) (.pointer (some ⟨m, o, none⟩)) none none none h = some (.slice (some ⟨m, if k = 0 then o else o + 0 * 1, none⟩) (k - 0) (k - 0)) := by
  simp only [aCut, aCutArr, g]; rfl
theorem ent_ids {e : Ent} (o : e.Ok) {h : AHeap} {m : Nat} (g : EBox h m e) (hm : m < h.next) : SlB h (.slice (some ⟨m, 0, none⟩) 32 32) e.ids :=
  box_sl g hm _ o.i (by rw [List.drop_zero, Ent.cells, List.take_append_of_le_length (by simp [o.i]), byV_take, List.take_of_length_le (by rw [o.i]; omega)]) (by rw [o.len]; omega) 32 (by omega)
theorem ent_rest {e : Ent} (o : e.Ok) {h : AHeap} {m : Nat} (g : EBox h m e) (hm : m < h.next) : SlB h (.slice (some ⟨m, 34, none⟩) 80 80) e.rest := by
  refine box_sl g hm _ o.r ?_ (by rw [o.len]; omega) 80 (by omega)
  have e1 : e.cells.drop 34 = byV e.rest := by
    rw [Ent.cells, List.drop_append, List.drop_of_length_le (by simp [o.i]), byV_length, o.i]; rfl
  rw [e1, List.take_of_length_le (by simp [o.r])]
theorem tb_id {t : Tb} (o : t.Ok) {h : AHeap} {m : Nat} (g : TBox h m t) (hm : m < h.next) : SlB h (.slice (some ⟨m, 3, none⟩) 16 16) t.id := by
  refine box_sl g hm _ o.i ?_ (by rw [o.len]; omega) 16 (by omega)
  have e1 : t.cells.drop 3 = byV t.id ++ [t.sl, .int .i64 t.at_, .int .i64 t.be] := rfl
  rw [e1, List.take_append_of_le_length (by simp [o.i]), List.take_of_length_le (by simp [o.i])]
end
end Go.Proofs.Ytgapfoaklgganaa.L14

set_option linter.unusedVariables false
set_option linter.unusedSimpArgs false
set_option linter.unnecessarySimpa false
/-! The document's table of a table. -/
namespace Go.Proofs.Ytgapfoaklgganaa.L14
open Go Go.Proofs Go.Shelf Go.RowKit Go.Lib Go.Sort Go.AM Go.Proofs.Ytgapfoaklgganaa.AMC
set_option maxRecDepth 10000
noncomputable section
def OfI (t : Tb) (l : List Ent) (vi : Value) (m1 m2 m3 : Nat) (hs : AHeap) (j : Nat) (T : Tr Value) (h' : AHeap) : Prop :=
  ∃ (i : Nat) (w : Value) (rl : List REnt), j = l.length - i ∧ i ≤ l.length ∧ T.get 1 = some (.pointer (some ⟨m1, 0, none⟩)) ∧ T.get 2 = some (.pointer (some ⟨m2, 0, none⟩)) ∧ T.get 3 = some (.pointer (some ⟨m3, 0, none⟩)) ∧ T.get 4 = some (.int .i64 i) ∧ Own (m3 + 1) h' 4 w rl.length (flatC rEnc rl) ∧ RS rl ∧ rl.length = i ∧ RL h' rl (l.take i) ∧ h'.get m3 = .row false 0 (.vals (r7 t.s t.a t.b vi w t.at_ t.be)) ∧ m3 < h'.next ∧ Keep m3 hs h'
set_option maxHeartbeats 4000000 in
theorem of_spec (L d : Nat) (t : Tb) (o : t.Ok) (l : List Ent) (hl : ∀ e ∈ l, e.Ok) (h : AHeap) (hw : Wf h) (hs : SlC Ent.cells 114 h t.sl l) (hn : l.length < 1000000) (hL : 1000000000 < L) :
    ∃ r h', (En L (d + 2)).go 14 [.agg t.cells.toArray] h = some (r, h') ∧ (∃ vi vl rl, r = .agg (r7 t.s t.a t.b vi vl t.at_ t.be).toArray ∧ (∃ x n c, vi = .slice x n c) ∧ SlC rEnc 4 h' vl rl ∧ RL h' rl l) ∧ Keep h.next h h' := by
  refine go_ex (R := fun r h' => (∃ vi vl rl, r = .agg (r7 t.s t.a t.b vi vl t.at_ t.be).toArray ∧ (∃ x n c, vi = .slice x n c) ∧ SlC rEnc 4 h' vl rl ∧ RL h' rl l) ∧ Keep h.next h h') (show tabF 14 = some (.code a14) by rfl) rfl ?_
  unfold a14
  obtain ⟨h1, e1, g1, k1, n1⟩ := o.nbox h
  have a2 := new7 h1
  obtain ⟨h2, hh2⟩ : ∃ h2, h1.new (.row false 0 (.vals (r7 0 0 0 (.slice none 0 0) (.slice none 0 0) 0 0))) = h2 := ⟨_, rfl⟩
  rw [hh2] at a2
  have k2 : Keep h1.next h1 h2 := by rw [← hh2]; exact (Keep.refl _ _).new (Nat.le_refl _) _
  have n2 : h2.next = h1.next + 1 := by rw [← hh2]; simp
  have gz : h2.get h1.next = .row false 0 (.vals (r7 0 0 0 (.slice none 0 0) (.slice none 0 0) 0 0)) := by rw [← hh2, AHeap.get_new, if_pos rfl]
  have g2 : TBox h2 h.next t := g1.keep k2 (by omega)
  have kk2 : Keep h.next h h2 := k1.trans (k2.less k1.next)
  have hw2 : Wf h2 := kk2.wf hw
  have hd2 : h2.get h2.next = .dead := hw2 _ (Nat.le_refl _)
  have g2s : TBox (h2.skip 1) h.next t := g2
  have q0 := g2s.l0
  have q1 := g2s.l1
  have q2 := g2s.l2
  have q20 := o.l20 g2s
  have q21 := o.l21 g2s
  have ct := cut_arr (k := 16) (o := 3) g2s
  simp only [Nat.zero_mul, Nat.add_zero, ite_self, Nat.sub_zero] at ct
  have sid : SlB (h2.skip 1) (.slice (some ⟨h.next, 3, none⟩) 16 16) t.id := tb_id o g2s (by rw [AHeap.next_skip]; omega)
  obtain ⟨vi, h3, e3, o3, k3⟩ := part_spec L d _ _ 0 16 (h2.skip 1) sid (by rw [o.i]; omega) (by rw [o.i]; omega)
  obtain ⟨xi, ci, rfl⟩ := o3.sl.val
  generalize ((t.id.drop 0).take 16).length = ni at e3 o3
  have g3 : TBox h3 h.next t := g2s.keep k3 (by rw [AHeap.next_skip]; omega)
  have p0 := g3.l0
  have p1 := g3.l1
  have p2 := g3.l2
  have p20 := o.l20 g3
  have p21 := o.l21 g3
  have n3 : h2.next < h3.next := by have := k3.next; rw [AHeap.next_skip] at this; omega
  have hd3 : h3.get h2.next = .dead := (k3.get h2.next (by rw [AHeap.next_skip]; omega)).trans hd2
  have k03 : Keep h2.next h2 h3 := ((Keep.refl _ _).skip 1).trans (k3.less (by rw [AHeap.next_skip]; omega))
  obtain ⟨h4, e4, g4, n4, k4⟩ := store_set h3 h2.next (r7 0 0 0 (.slice none 0 0) (.slice none 0 0) 0 0) (r7 t.s t.a t.b (.slice xi ni ci) (.slice none 0 0) t.at_ t.be).toArray 7 rfl rfl rfl
  have kk4 : Keep h2.next h2 h4 := k4 h2.next h2 k03 (Nat.le_refl _) n3
  have e3' : (En L (d + 1)).go 22 [.slice (some ⟨h.next, 3, none⟩) 16 16, .int .i64 0, .int .i64 16] (h2.skip 1) = some (.slice xi ni ci, h3) := e3
  obtain ⟨x, c, ev⟩ := hs.val
  simp (disch := omega) [e1, a2, q0, q1, q2, q20, q21, ct, e3', p0, p1, p2, p20, p21, hd3, AObj.live, AHeap.get_skip, b7E, new7, e4, skip0']
  refine W_loop (OfI t l (.slice xi ni ci) h.next h1.next h2.next h2) l.length (by show _ < L; omega) ⟨0, .slice none 0 0, [], rfl, by omega, by simp, by simp, by simp, by simp, Own.nil _ _ _, (by intro p hp; cases hp), rfl, ⟨by simp, by intro i a b; simp at a⟩, g4, by omega, kk4⟩ ?_
  rintro j T h' ⟨i, w, rl, rfl, hi, t1, t2, t3, t4, ow, rs, hri, hrl, gm, hm3, kk⟩
  have kk5 : Keep h.next h h' := kk2.trans (kk.less kk2.next)
  have g5 : TBox h' h.next t := g2.keep kk (by omega)
  have l19 := o.l19 g5
  obtain ⟨xw, cw, rfl⟩ := ownSl ow
  have lw : aLoad none (.pointer (some ⟨h2.next, 4, none⟩)) h' = some (.slice xw rl.length cw) := ld_cell gm rfl
  by_cases hlt : i < l.length
  · have hlt' : (i : Int) < l.length := by omega
    have oe : (l[i]).Ok := hl _ (List.getElem_mem hlt)
    obtain ⟨m, off, cap, em, hm, ld, _⟩ := (hs.keep kk5 (Nat.le_refl _)).at (fun e he => (hl e he).len) (by omega)
    have lx := ld h' i hlt rfl
    obtain ⟨h6, e6, b6, k6, n6⟩ := oe.store h'
    have n114 := new114 h'
    have tk : l.take (i + 1) = l.take i ++ [l[i]] := by rw [List.take_add_one, List.getElem?_eq_getElem hlt]; rfl
    generalize l[i] = e at lx oe e6 b6 tk
    have b6s : EBox (h6.skip 1) h'.next e := b6
    have x32 := oe.l32 b6s
    have x33 := oe.l33 b6s
    have c32 := cut_arr (k := 32) (o := 0) b6s
    have c80 := cut_arr (k := 80) (o := 34) b6s
    simp only [Nat.zero_mul, Nat.add_zero, ite_self, Nat.sub_zero] at c32 c80
    have hd6 : h6.get h6.next = .dead := ((kk5.trans (k6.less kk5.next)).wf hw) _ (Nat.le_refl _)
    have lw6 : aLoad none (.pointer (some ⟨h2.next, 4, none⟩)) (h6.skip 1) = some (.slice xw rl.length cw) := ld_cell (H := h6.skip 1) (show (h6.skip 1).get h2.next = _ from (k6.get _ hm3).trans gm) rfl
    obtain ⟨r1, h7, e7, o7, k7⟩ := part_spec L d _ _ 0 32 (h6.skip 1) (ent_ids oe b6s (by rw [AHeap.next_skip]; omega)) (by rw [oe.i]; omega) (by rw [oe.i]; omega)
    have b7 : EBox h7 h'.next e := (k7.get _ (by rw [AHeap.next_skip]; omega)).trans b6s
    have y32 := oe.l32 b7
    have y33 := oe.l33 b7
    have d80 := cut_arr (k := 80) (o := 34) b7
    simp only [Nat.zero_mul, Nat.add_zero, ite_self, Nat.sub_zero] at d80
    have hd7 : h7.get h6.next = .dead := (k7.get _ (by rw [AHeap.next_skip]; omega)).trans hd6
    have gm7 : h7.get h2.next = .row false 0 (.vals (r7 t.s t.a t.b (.slice xi ni ci) (.slice xw rl.length cw) t.at_ t.be)) := (k7.get _ (by rw [AHeap.next_skip]; omega)).trans ((k6.get _ hm3).trans gm)
    have lw7 : aLoad none (.pointer (some ⟨h2.next, 4, none⟩)) h7 = some (.slice xw rl.length cw) := ld_cell gm7 rfl
    have n7 : h6.next < h7.next := by have := k7.next; rw [AHeap.next_skip] at this; omega
    obtain ⟨r2, h8, e8, o8, k8⟩ := part_spec L d _ _ 0 80 h7 (ent_rest oe b7 (by omega)) (by rw [oe.r]; omega) (by rw [oe.r]; omega)
    have b8 : EBox h8 h'.next e := (k8.get _ (by omega)).trans b7
    have z32 := oe.l32 b8
    have z33 := oe.l33 b8
    have hd8 : h8.get h6.next = .dead := (k8.get _ n7).trans hd7
    have gm8 := (k8.get h2.next (by omega)).trans gm7
    have lw8 : aLoad none (.pointer (some ⟨h2.next, 4, none⟩)) h8 = some (.slice xw rl.length cw) := ld_cell gm8 rfl
    have i0 : (e.ids.drop 0).take 32 = e.ids := by rw [List.drop_zero, List.take_of_length_le (by rw [oe.i]; omega)]
    rw [i0] at o7
    have s7 := o7.sl
    obtain ⟨x1, c1, rfl⟩ := s7.val
    obtain ⟨x2, c2, rfl⟩ := o8.sl.val
    generalize ((e.rest.drop 0).take 80).length = nr at e8 o8
    have s8 := s7.keep k8 (Nat.le_refl _)
    have s9 := slB_set s8 hd8 (.row false 0 (.vals [.slice x1 e.ids.length c1, .int .i64 e.a, .int .i64 e.b, .slice x2 nr c2]))
    have n8 : h7.next ≤ h8.next := k8.next
    have k68 : Keep h6.next h6 h8 := ((Keep.refl h6.next h6).skip 1).trans ((k7.less (by rw [AHeap.next_skip]; omega)).trans (k8.less (by omega)))
    have k58 : Keep h'.next h' h8 := k6.trans (k68.less (by omega))
    have k9 : Keep h'.next h' (h8.set h6.next (.row false 0 (.vals [.slice x1 e.ids.length c1, .int .i64 e.a, .int .i64 e.b, .slice x2 nr c2]))) := k58.set (by omega) (by omega) _
    have n9 : (h8.set h6.next (.row false 0 (.vals [.slice x1 e.ids.length c1, .int .i64 e.a, .int .i64 e.b, .slice x2 nr c2]))).next = h8.next := AHeap.next_set _ _ _
    have g9 : (h8.set h6.next (.row false 0 (.vals [.slice x1 e.ids.length c1, .int .i64 e.a, .int .i64 e.b, .slice x2 nr c2]))).get h6.next = .row false 0 (.vals [.slice x1 e.ids.length c1, .int .i64 e.a, .int .i64 e.b, .slice x2 nr c2]) := by rw [AHeap.get_set, if_pos rfl]
    have gm9 := (k9.get h2.next hm3).trans gm
    have ow9 := ow.keep k9 (Nat.le_refl _)
    have rl9 := hrl.keep k9 (Nat.le_refl _)
    obtain ⟨w10, h10, e10, o10, k10, f10⟩ := push_two (k := EKR) ow9 g9 rfl (by decide) (by rw [n9]; omega) (by show (rl.length + 1) * 64 ≤ _; omega) (by omega)
    obtain ⟨G, hG⟩ : ∃ G, h8.set h6.next (.row false 0 (.vals [.slice x1 e.ids.length c1, .int .i64 e.a, .int .i64 e.b, .slice x2 nr c2])) = G := ⟨_, rfl⟩
    rw [hG] at s9 k9 n9 g9 gm9 ow9 rl9 e10 f10 k10
    have gm10 : h10.get h2.next = .row false 0 (.vals (r7 t.s t.a t.b (.slice xi ni ci) (.slice xw rl.length cw) t.at_ t.be)) := by
      refine (f10 _ (by omega) ?_).trans gm9
      intro m0 o0 n0 c0 ew
      rcases ow9.2 with ⟨h0, ew2⟩ | ⟨h0, m9, ew2, a1, _⟩
      · rw [ew] at ew2; cases ew2
      · rw [ew] at ew2
        simp only [Value.slice.injEq, Option.some.injEq, Addr.mk.injEq] at ew2
        omega
    obtain ⟨x10, c10, rfl⟩ := ownSl o10
    have st10 := st7 gm10 x10 (rl.length + 1) c10
    have n10 : G.next ≤ h10.next := k10.next
    have mv : ∀ v ids, 0 < ids.length → SlB G v ids → SlB (h10.set h2.next (.row false 0 (.vals (r7 t.s t.a t.b (.slice xi ni ci) (.slice x10 (rl.length + 1) c10) t.at_ t.be)))) v ids := by
      intro v ids h0 sv
      refine slB_move sv (by rw [AHeap.next_set]; exact n10) ?_
      intro m' o' n' c' ev' hlt'
      rw [AHeap.get_set, if_neg (fun e => sb_ne sv h0 gm9 r7_no _ _ _ _ ev' e)]
      refine f10 _ hlt' ?_
      intro m0 o0 n0 c0 ew
      rcases ow9.2 with ⟨hz, ew2⟩ | ⟨hz, m9, ew2, _, _, gw⟩
      · rw [ew] at ew2; cases ew2
      · rw [ew] at ew2
        simp only [Value.slice.injEq, Option.some.injEq, Addr.mk.injEq] at ew2
        rw [ew2.1.1]
        exact sb_ne sv h0 gw rs.no _ _ _ _ ev'
    have k11 : Keep h2.next h2 (h10.set h2.next (.row false 0 (.vals (r7 t.s t.a t.b (.slice xi ni ci) (.slice x10 (rl.length + 1) c10) t.at_ t.be)))) :=
      ((kk.trans (k9.less (by omega))).trans (k10.less (by omega))).set (Nat.le_refl _) (by omega) _
    have rl11 : RL (h10.set h2.next (.row false 0 (.vals (r7 t.s t.a t.b (.slice xi ni ci) (.slice x10 (rl.length + 1) c10) t.at_ t.be)))) (rl ++ [(.slice x1 e.ids.length c1, e.a, e.b, .slice x2 nr c2)]) (l.take (i + 1)) := by
      rw [tk]
      refine ⟨by rw [List.length_append, List.length_append, rl9.1]; rfl, ?_⟩
      intro k h1 h2
      by_cases hk : k < rl.length
      · have hk2 : k < (l.take i).length := by rw [← rl9.1]; exact hk
        obtain ⟨a1, a2, a3⟩ := rl9.2 k hk hk2
        rw [List.getElem_append_left hk, List.getElem_append_left hk2]
        exact ⟨a1, a2, mv _ _ (by rw [(hl _ (List.mem_of_mem_take (List.getElem_mem hk2))).i]; omega) a3⟩
      · have hk3 : k = rl.length := by rw [List.length_append] at h1; simp at h1; omega
        have hk4 : ¬ k < (l.take i).length := by rw [← rl9.1]; exact hk
        rw [List.getElem_append_right (by omega), List.getElem_append_right (by omega)]
        simp only [List.getElem_singleton]
        exact ⟨trivial, trivial, mv _ _ (by rw [oe.i]; omega) s9⟩
    have o11 : Own (h2.next + 1) (h10.set h2.next (.row false 0 (.vals (r7 t.s t.a t.b (.slice xi ni ci) (.slice x10 (rl.length + 1) c10) t.at_ t.be)))) 4 (.slice x10 (rl.length + 1) c10) (rl.length + 1) (flatC rEnc (rl ++ [(.slice x1 e.ids.length c1, e.a, e.b, .slice x2 nr c2)])) := by
      have := ownK (h' := h10.set h2.next (.row false 0 (.vals (r7 t.s t.a t.b (.slice xi ni ci) (.slice x10 (rl.length + 1) c10) t.at_ t.be)))) o10 (by rw [AHeap.next_set]; omega) (fun m hm _ => by rw [AHeap.get_set, if_neg (by omega)])
      simpa [flatC_app, flatC, rEnc] using this
    have rs11 : RS (rl ++ [(.slice x1 e.ids.length c1, e.a, e.b, .slice x2 nr c2)]) := by
      intro p hp
      rcases List.mem_append.1 hp with hp | hp
      · exact rs p hp
      · rw [List.mem_singleton] at hp; subst hp; exact ⟨⟨_, _, _, rfl⟩, ⟨_, _, _, rfl⟩⟩
    have g11 : (h10.set h2.next (.row false 0 (.vals (r7 t.s t.a t.b (.slice xi ni ci) (.slice x10 (rl.length + 1) c10) t.at_ t.be)))).get h2.next = .row false 0 (.vals (r7 t.s t.a t.b (.slice xi ni ci) (.slice x10 (rl.length + 1) c10) t.at_ t.be)) := by rw [AHeap.get_set, if_pos rfl]
    have e7' : (En L (d + 1)).go 22 [.slice (some ⟨h'.next, 0, none⟩) 32 32, .int .i64 0, .int .i64 32] (h6.skip 1) = some (.slice x1 e.ids.length c1, h7) := e7
    have e8' : (En L (d + 1)).go 22 [.slice (some ⟨h'.next, 34, none⟩) 80 80, .int .i64 0, .int .i64 80] h7 = some (.slice x2 nr c2, h8) := e8
    have rl11l : (rl ++ [((.slice x1 e.ids.length c1 : Value), e.a, e.b, (.slice x2 nr c2 : Value))]).length = rl.length + 1 := by simp
    rw [em] at l19
    simp (disch := omega) [t1, t2, t3, t4, l19, hlt', aIndexSl_ok, lx, n114, e6, lw6, c32, x32, x33, c80, e7', d80, y33, y32, lw7, hd7, AObj.live, e8', z33, z32, lw8, hd8, AHeap.get_skip, b4R, lit4R, hG, e10, st10, skip0', wrapF_i64 (n := (i : Int) + 1) (by omega) (by omega)]
    exact ⟨l.length - (i + 1), by omega, i + 1, .slice x10 (rl.length + 1) c10, _, rfl, by omega, by simp [t1], by simp [t2], by simp [t3], by simp, by rw [rl11l]; exact o11, rs11, by rw [rl11l]; omega, rl11, g11, by rw [AHeap.next_set]; omega, k11⟩
  · have hie : i = l.length := by omega
    subst hie
    have gz5 := (kk.get h1.next (by omega)).trans gz
    have lm := ld_agg gm (n := 7) rfl
    have sf := store_at gz5 (r7 t.s t.a t.b (.slice xi ni ci) (.slice xw rl.length cw) t.at_ t.be).toArray 7 rfl rfl rfl
    rw [ev] at l19
    have kf : Keep h.next h (h'.set h1.next (.row false 0 (.vals (r7 t.s t.a t.b (.slice xi ni ci) (.slice xw rl.length cw) t.at_ t.be)))) := kk5.set (by omega) (by omega) _
    have lf : aLoad (some 7) (.pointer (some ⟨h1.next, 0, none⟩)) (h'.set h1.next (.row false 0 (.vals (r7 t.s t.a t.b (.slice xi ni ci) (.slice xw rl.length cw) t.at_ t.be)))) = some (.agg (r7 t.s t.a t.b (.slice xi ni ci) (.slice xw rl.length cw) t.at_ t.be).toArray) := ld_agg (by rw [AHeap.get_set, if_pos rfl]) rfl
    rw [List.take_length] at hrl
    have hrl2 : RL (h'.set h1.next (.row false 0 (.vals (r7 t.s t.a t.b (.slice xi ni ci) (.slice xw rl.length cw) t.at_ t.be)))) rl l := by
      refine ⟨hrl.1, fun k a1 a2 => ?_⟩
      obtain ⟨b1, b2, b3⟩ := hrl.2 k a1 a2
      refine ⟨b1, b2, slB_move b3 (by rw [AHeap.next_set]; omega) ?_⟩
      intro m' o' n' c' ev' hlt'
      rw [AHeap.get_set, if_neg (fun e => sb_ne b3 (by rw [(hl _ (List.getElem_mem a2)).i]; omega) gz5 r7_no _ _ _ _ ev' e)]
    have sl2 : SlC rEnc 4 (h'.set h1.next (.row false 0 (.vals (r7 t.s t.a t.b (.slice xi ni ci) (.slice xw rl.length cw) t.at_ t.be)))) (.slice xw rl.length cw) rl := by
      have o2 := ownK (h' := h'.set h1.next (.row false 0 (.vals (r7 t.s t.a t.b (.slice xi ni ci) (.slice xw rl.length cw) t.at_ t.be)))) ow (by rw [AHeap.next_set]; omega) (fun m hm _ => by rw [AHeap.get_set, if_neg (by omega)])
      refine ⟨o2.1, ?_⟩
      rcases o2.2 with ⟨a1, a2⟩ | ⟨a0, m, a1, a2, a3, a4⟩
      · exact .inl ⟨a2, a1⟩
      · refine .inr ⟨m, 0, rl.length, false, 4, _, a1, Nat.le_refl _, a3, a4, .inr rfl, ?_, ?_⟩
        · show 0 + rl.length * 4 ≤ (flatC rEnc rl).length; rw [o2.1]; omega
        · show ((flatC rEnc rl).drop 0).take (rl.length * 4) = _
          rw [List.drop_zero, List.take_of_length_le (by rw [o2.1]; omega)]
    simp [t1, t2, t3, t4, l19, lm, sf, lf]
    exact ⟨⟨_, _, rfl, ⟨_, _, _, rfl⟩, rl, sl2, hrl2⟩, kf⟩
end
end Go.Proofs.Ytgapfoaklgganaa.L14

set_option linter.unusedVariables false
set_option linter.unusedSimpArgs false
set_option linter.unnecessarySimpa false
/-! GptParts over the executor. -/
namespace Go.Proofs.Ytgapfoaklgganaa.L14
open Go Go.Proofs Go.Shelf Go.RowKit Go.Lib Go.Sort Go.AM Go.Proofs.Ytgapfoaklgganaa.AMC
set_option maxRecDepth 10000
noncomputable section
theorem beq7 {s a b : Int} {x y : Option Addr} {n c n2 c2 : Nat} {at_ be : Int} : beqV 10000 (.agg (r7 s a b (.slice x n c) (.slice y n2 c2) at_ be).toArray) (.agg (r7 s a b (.slice x n c) (.slice y n2 c2) at_ be).toArray) = true := by
  refine beqV_agg (n := 9999) ?_
  show beqL 9999 (r7 s a b (.slice x n c) (.slice y n2 c2) at_ be) (r7 s a b (.slice x n c) (.slice y n2 c2) at_ be) = true
  refine beqL_cons (n := 9998) beqV_int (beqL_cons (n := 9997) beqV_int (beqL_cons (n := 9996) beqV_int (beqL_cons (n := 9995) beqV_slice (beqL_cons (n := 9994) beqV_slice (beqL_cons (n := 9993) beqV_int (beqL_cons (n := 9992) beqV_int ?_))))))
  rfl
theorem ownSlC {α : Type} {enc : α → List Value} {N es : Nat} {h : AHeap} {v : Value} {l : List α} (o : Own N h es v l.length (flatC enc l)) : SlC enc es h v l := by
  refine ⟨o.1, ?_⟩
  rcases o.2 with ⟨a1, a2⟩ | ⟨a0, m, a1, a2, a3, a4⟩
  · exact .inl ⟨a2, a1⟩
  · refine .inr ⟨m, 0, l.length, false, es, _, a1, Nat.le_refl _, a3, a4, .inr rfl, ?_, ?_⟩
    · show 0 + l.length * es ≤ (flatC enc l).length; rw [o.1]; omega
    · show ((flatC enc l).drop 0).take (l.length * es) = _
      rw [List.drop_zero, List.take_of_length_le (by rw [o.1]; omega)]
set_option maxHeartbeats 4000000 in
theorem law_parts (L d : Nat) (t : Tb) (o : t.Ok) (l : List Ent) (hl : ∀ e ∈ l, e.Ok) (h : AHeap) (hw : Wf h) (hs : SlC Ent.cells 114 h t.sl l) (hL : 1000000000 < L) :
    ∃ r h', (En L (d + 7)).go 3 [.agg t.cells.toArray] h = some (r, h') ∧ r = .bool true := by
  refine go_ex (R := fun r h' => r = .bool true) (show tabF 3 = some (.code a3) by rfl) rfl ?_
  unfold a3
  obtain ⟨h1, e1, g1, k1, n1⟩ := o.nbox h
  have l1 := o.lall g1
  have hs1 := hs.keep k1 (Nat.le_refl _)
  obtain ⟨h2, e2, k2⟩ := light_spec L (d + 5) t o l.length h1 hs1.val
  have kk2 := k1.trans (k2.less k1.next)
  have g2 := g1.keep k2 (by omega)
  have l2 := o.lall g2
  have hs2 := hs.keep kk2 (Nat.le_refl _)
  by_cases hlt : (l.length : Int) ≤ 140
  · obtain ⟨c, h3, e3, ⟨ci, rfl⟩, k3⟩ := check_ends L d t o l hl h2 hs2 (by omega) hL
    have kk3 := kk2.trans (k3.less kk2.next)
    have hh2 : h.next < h2.next := by have := k2.next; omega
    have g3 := g2.keep k3 hh2
    have l3 := o.lall g3
    have hs3 := hs.keep kk3 (Nat.le_refl _)
    have hh3 : h.next < h3.next := by have := k3.next; omega
    by_cases hc : ci = 0
    · subst hc
      obtain ⟨r, h4, e4, ⟨vi, vl, rl, rfl, ⟨xi, ni, cci, rfl⟩, sr, hr⟩, k4⟩ := of_spec L (d + 4) t o l hl h3 (kk3.wf hw) hs3 (by omega) hL
      obtain ⟨xl, cl, rfl⟩ := sr.val
      have kk4 := kk3.trans (k4.less kk3.next)
      have g4 := g3.keep k4 hh3
      have hh4 : h.next < h4.next := by have := k4.next; omega
      have al := new7 h4
      obtain ⟨h5, e5, g5, k5, n5⟩ := store_new h4 (r7 0 0 0 (.slice none 0 0) (.slice none 0 0) 0 0) (r7 t.s t.a t.b (.slice xi ni cci) (.slice xl rl.length cl) t.at_ t.be).toArray 7 rfl rfl rfl
      have kk5 := kk4.trans (k5.less kk4.next)
      have t5 := g4.keep k5 hh4
      have hh5 : h.next < h5.next := by omega
      have l5 := o.lall t5
      have w5 : aLoad (some 7) (.pointer (some ⟨h4.next, 0, none⟩)) h5 = some (.agg (r7 t.s t.a t.b (.slice xi ni cci) (.slice xl rl.length cl) t.at_ t.be).toArray) := ld_agg g5 rfl
      have hs5 := hs.keep kk5 (Nat.le_refl _)
      obtain ⟨v6, h6, e6, o6, k6⟩ := parts_spec L (d + 3) t o l hl h5 hs5 (by omega) hL
      have kk6 := kk5.trans (k6.less kk5.next)
      have w6 : aLoad (some 7) (.pointer (some ⟨h4.next, 0, none⟩)) h6 = some (.agg (r7 t.s t.a t.b (.slice xi ni cci) (.slice xl rl.length cl) t.at_ t.be).toArray) := ld_agg ((k6.get _ (by omega)).trans g5) rfl
      have sr6 := (sr.keep k5 (Nat.le_refl _)).keep k6 (Nat.le_refl _)
      have hr6 := (hr.keep k5 (Nat.le_refl _)).keep k6 (Nat.le_refl _)
      obtain ⟨v7, h7, e7, o7, k7⟩ := rparts_spec L (d + 3) t.s t.a t.b t.at_ t.be (.slice xi ni cci) (.slice xl rl.length cl) rl l hl h6 (kk6.wf hw) rfl sr6 hr6 (by omega) hL
      have kk7 := kk6.trans (k7.less kk6.next)
      have e8 := sameParts_spec L (d + 5) v6 v7 _ h7 ((ownSlC o6).keep k7 (Nat.le_refl _)) (ownSlC o7) (by have := partsTo_len l l.length (Nat.le_refl _); omega) hL
      have t7 := (t5.keep k6 hh5).keep k7 (by have := k6.next; omega)
      have l7 := o.lall t7
      have g7 := (k7.get _ (by have := k6.next; omega)).trans ((k6.get h4.next (by omega)).trans g5)
      have w7 : aLoad (some 7) (.pointer (some ⟨h4.next, 0, none⟩)) h7 = some (.agg (r7 t.s t.a t.b (.slice xi ni cci) (.slice xl rl.length cl) t.at_ t.be).toArray) := ld_agg g7 rfl
      have hs7 := hs.keep kk7 (Nat.le_refl _)
      obtain ⟨v8, h8, e9, s8, k8⟩ := held_spec L (d + 4) t o l h7 hs7 (by omega)
      have w8 : aLoad (some 7) (.pointer (some ⟨h4.next, 0, none⟩)) h8 = some (.agg (r7 t.s t.a t.b (.slice xi ni cci) (.slice xl rl.length cl) t.at_ t.be).toArray) := ld_agg ((k8.get _ (by have := k6.next; have := k7.next; omega)).trans g7) rfl
      obtain ⟨v9, h9, e10, s9, k9⟩ := rheld_spec L (d + 4) t.s t.a t.b t.at_ t.be (.slice xi ni cci) (.slice xl rl.length cl) rl.length h8 rfl ⟨_, _, rfl⟩ (by rw [hr.1]; omega)
      have hll := hr.1
      rw [hll] at s9
      have e11 := same_spec L (d + 5) v8 v9 _ h9 (s8.keep k9 (Nat.le_refl _)) s9 (by simp [heldL]) hL
      have g13 := go13 L (d + 5)
      simp (disch := omega) [e1, l1, e2, hlt, l2, e3, l3, e4, al, e5, g13, l5, w5, e6, w6, beq7, e7, e8, l7, w7, e9, w8, e10, e11, skip0']
    · have g13 := go13 L (d + 5)
      simp (disch := omega) [e1, l1, e2, hlt, l2, e3, hc, g13]
  · have g13 := go13 L (d + 5)
    simp (disch := omega) [e1, l1, e2, hlt, l2, g13]
end
end Go.Proofs.Ytgapfoaklgganaa.L14

set_option linter.unusedVariables false
set_option linter.unusedSimpArgs false
set_option linter.unnecessarySimpa false
/-! A table as an argument. -/
namespace Go.Proofs.Ytgapfoaklgganaa.L14
open Go Go.AM Go.RowKit Go.ChangeShapes Go.WideShapes Go.Proofs.Ytgapfoaklgganaa.AMC
noncomputable section
/-! ### opening -/
theorem open_bytes {H : Type} {enc : TypeId × Value → H} {P : Program} {w : World} {base fuel n : Nat} {spare : Nat → Bool} {held : Bool} {t e : TypeId} {cs : List Value} {x : DataW H × List MemPlace} (ht : P.underlying t = some (.array n e)) (he : P.underlying e = some (.int .u8)) (ce : P.cellsOf e = 1) (ct : P.cellsOf t = n)
    (h : DataW.trod enc P w base spare held fuel t cs = some x) : ∃ zs : List Int, zs.length = n ∧ cs = byV zs ∧ Byt zs := by
  obtain ⟨xs, m, _, _, hl, hx, hf⟩ := DataW.trod_array ht h
  rw [ct] at hl
  rw [ce] at hf
  have e0 : ∀ i, i < n → ∃ z : Int, cs[i]? = some (.int .u8 z) ∧ 0 ≤ z ∧ z < 256 := by
    intro i hi
    have h1 := hf i hi
    rw [Nat.mul_one, List.getElem?_eq_getElem (by omega)] at h1
    obtain ⟨z, hz, _, hw⟩ := DataW.trod_int he h1
    have hi2 : i < cs.length := by omega
    rw [List.drop_eq_getElem_cons hi2] at hz
    simp only [List.take_succ_cons, List.take_zero, List.cons.injEq, and_true] at hz
    simp [Lit.wf] at hw
    have m1 : IntKind.u8.min = 0 := by decide
    have m2 : IntKind.u8.max = 255 := by decide
    exact ⟨z, by rw [List.getElem?_eq_getElem hi2, hz], by omega, by omega⟩
  obtain ⟨f, hff⟩ := Go.Deep.choose_lt e0
  refine ⟨(List.range n).map f, by simp, ?_, ?_⟩
  · apply List.ext_getElem?
    intro i
    by_cases hi : i < n
    · rw [(hff i hi).1]; simp [byV, hi]
    · rw [List.getElem?_eq_none (by omega), List.getElem?_eq_none (by simp; omega)]
  · intro y hy
    obtain ⟨i, hi, rfl⟩ := List.mem_map.1 hy
    exact (hff i (List.mem_range.1 hi)).2
theorem one_of {cs : List Value} {i : Nat} {k : IntKind} {z : Int} (h : (cs.drop i).take 1 = [.int k z]) : cs[i]? = some (.int k z) := by
  have h1 : i < cs.length := by
    apply Classical.byContradiction
    intro hn
    rw [List.drop_of_length_le (by omega)] at h
    simp at h
  rw [List.drop_eq_getElem_cons h1] at h
  simp only [List.take_succ_cons, List.take_zero, List.cons.injEq, and_true] at h
  rw [List.getElem?_eq_getElem h1, h]
theorem split4 {α : Type} (cs : List α) (h : cs.length = 114) : cs = (cs.drop 0).take 32 ++ ((cs.drop 32).take 1 ++ ((cs.drop 33).take 1 ++ (cs.drop 34).take 80)) := by
  have e1 : cs = cs.take 32 ++ cs.drop 32 := (List.take_append_drop 32 cs).symm
  have e2 : cs.drop 32 = (cs.drop 32).take 1 ++ cs.drop 33 := by
    have := (List.take_append_drop 1 (cs.drop 32)).symm
    rwa [List.drop_drop] at this
  have e3 : cs.drop 33 = (cs.drop 33).take 1 ++ cs.drop 34 := by
    have := (List.take_append_drop 1 (cs.drop 33)).symm
    rwa [List.drop_drop] at this
  have e4 : (cs.drop 34).take 80 = cs.drop 34 := List.take_of_length_le (by rw [List.length_drop]; omega)
  rw [e4, ← e3, ← e2, List.drop_zero, ← e1]
theorem split7 {α : Type} (cs : List α) (h : cs.length = 22) : cs = (cs.drop 0).take 1 ++ ((cs.drop 1).take 1 ++ ((cs.drop 2).take 1 ++ ((cs.drop 3).take 16 ++ ((cs.drop 19).take 1 ++ ((cs.drop 20).take 1 ++ (cs.drop 21).take 1))))) := by
  have d : ∀ a b, cs.drop a = (cs.drop a).take b ++ cs.drop (a + b) := by
    intro a b
    have := (List.take_append_drop b (cs.drop a)).symm
    rwa [List.drop_drop] at this
  have e7 : (cs.drop 21).take 1 = cs.drop 21 := List.take_of_length_le (by rw [List.length_drop]; omega)
  rw [e7, ← d 20 1, ← d 19 1, ← d 3 16, ← d 2 1, ← d 1 1, ← d 0 1, List.drop_zero]
/-- An entry, in the machine's heap. -/
def EntC (w : World) (x : Addr) (i : Nat) : Prop := ∃ e : Ent, e.Ok ∧ ∀ j, j < 114 → w.cell? (x.add (i * 114 + j)) = e.cells[j]?
instance : Inhabited Ent := ⟨zeroE⟩
theorem flatC_get {α : Type} {enc : α → List Value} {es : Nat} {l : List α} (h : ∀ x ∈ l, (enc x).length = es) {k : Nat} {u : Value} (hk : (flatC enc l)[k]? = some u) : ∃ i j, ∃ hi : i < l.length, j < es ∧ k = i * es + j ∧ (enc l[i])[j]? = some u := by
  have hlen := flatC_len h
  have hk1 : k < l.length * es := by rw [← hlen]; exact (List.getElem?_eq_some_iff.1 hk).1
  have hes : 0 < es := by
    rcases Nat.eq_zero_or_pos es with h0 | h0
    · rw [h0, Nat.mul_zero] at hk1; omega
    · exact h0
  have hi : k / es < l.length := by rw [Nat.div_lt_iff_lt_mul hes]; exact hk1
  have hj : k % es < es := Nat.mod_lt _ hes
  have hke : k = k / es * es + k % es := by rw [Nat.mul_comm]; exact (Nat.div_add_mod k es).symm
  refine ⟨k / es, k % es, hi, hj, hke, ?_⟩
  have hd := flatC_drop h hi
  have : ((flatC enc l).drop (k / es * es))[k % es]? = some u := by rw [List.getElem?_drop, ← hke]; exact hk
  rw [hd, List.getElem?_append_left (by rw [h _ (List.getElem_mem hi)]; exact hj)] at this
  exact this
theorem Ent.isInt (e : Ent) : ∀ u ∈ e.cells, ∃ k z, u = .int k z := by
  intro u hu
  simp only [Ent.cells, byV, List.mem_append, List.mem_map, List.mem_cons] at hu
  rcases hu with ⟨z, _, rfl⟩ | rfl | rfl | ⟨z, _, rfl⟩ <;> exact ⟨_, _, rfl⟩
/-- A row of the machine, where a cell is read. -/
theorem row_of {w : World} {a : Addr} {v : Value} (h : w.cell? a = some v) : a.spot = none ∧ ∃ cs el fz, w.heap[a.block]? = some (.cells cs el fz) ∧ cs[a.off]? = some v := by
  unfold World.cell? at h
  split at h
  · rename_i c el fz hc
    split at h
    · cases h
    · rename_i hs; exact ⟨by simpa using hs, c, el, fz, hc, h⟩
  · cases h
section
variable {N0 : Nat} {w0 : World} {σ : Sig} {h : AHeap} {w : World}
theorem addsT {σ1 σ2 : Sig} {h1 h2 : AHeap} (a : Adds N0 w0 σ h w σ1 h1) (b : Adds N0 w0 σ1 h1 w σ2 h2) : Adds N0 w0 σ h w σ2 h2 :=
  ⟨b.inv, a.keep.trans (b.keep.less a.keep.next), fun m hm => by rw [b.sig m (Nat.lt_of_lt_of_le hm a.keep.next), a.sig m hm]⟩
/-- A number that is kept: nothing lies there. -/
theorem Inv.skip1 (hI : Inv N0 w0 σ h w) (p : Pl) : Inv N0 w0 (σ.put h.next p) (h.skip 1) w ∧ ∀ m, m < h.next → σ.put h.next p m = σ m := by
  have hs : ∀ m, m < h.next → σ.put h.next p m = σ m := fun m hm => Sig.put_ne _ _ (by omega)
  have hd : ∀ m, h.next ≤ m → h.get m = .dead := hI.fresh
  have dl : (AObj.dead).live = false := rfl
  have dow : (AObj.dead).own = false := rfl
  refine ⟨⟨hI.below, ?_, ?_, ?_, ?_, ?_, hI.base⟩, hs⟩
  · intro m hm
    rw [AHeap.next_skip] at hm
    rw [AHeap.get_skip]; exact hd m (by omega)
  · intro m
    rw [AHeap.next_skip, AHeap.get_skip]
    by_cases e : m = h.next
    · rw [hd m (by omega)]; trivial
    · rw [Sig.put_ne _ _ e]
      exact AObj.at_mono (hI.obj m) (by omega) hs rfl (fun _ => rfl)
  · intro m hm
    rw [AHeap.get_skip] at hm
    by_cases e : m = h.next
    · rw [hd m (by omega)] at hm; cases hm
    · rw [Sig.put_ne _ _ e]; exact hI.low m hm
  · intro m hm hm2
    rw [AHeap.get_skip] at hm hm2
    by_cases e : m = h.next
    · rw [hd m (by omega)] at hm; cases hm
    · rw [Sig.put_ne _ _ e]; exact hI.high m hm hm2
  · intro m m' hm hm' hne
    rw [AHeap.get_skip] at hm hm'
    by_cases e : m = h.next
    · rw [hd m (by omega)] at hm; cases hm
    · by_cases e' : m' = h.next
      · rw [hd m' (by omega)] at hm'; cases hm'
      · rw [Sig.put_ne _ _ e, Sig.put_ne _ _ e']; exact hI.inj m m' hm hm' hne
/-- A list of entries is added. -/
theorem addEnts (hI : Inv N0 w0 σ h w) (hN : N0 = w.heap.size) (a : Option Addr) (len cap : Nat) (hl : len ≤ cap) (hn : a = none → len = 0 ∧ cap = 0)
    (hp : ∀ x, a = some x → ∀ i, i < cap → EntC w x i) :
    ∃ σ' h' a' l, Adds N0 w0 σ h w σ' h' ∧ l.length = len ∧ (∀ e ∈ l, e.Ok) ∧ VR h'.next σ' (.slice a' len cap) (.slice a len cap) ∧ (len = 0 ∨ SlC Ent.cells 114 h' (.slice a' len cap) l) := by
  cases a with
  | none =>
    obtain ⟨rfl, rfl⟩ := hn rfl
    exact ⟨σ, h, none, [], Adds.refl hI, rfl, (by intro p hp; cases hp), .nils, .inl rfl⟩
  | some x =>
    by_cases hc0 : cap = 0
    · subst hc0
      have hl0 : len = 0 := by omega
      subst hl0
      obtain ⟨b, off, spot⟩ := x
      obtain ⟨i1, i2⟩ := Inv.skip1 hI ⟨b, 0, some (1, 0), true, none⟩
      have A2 : Adds N0 w0 σ h w (σ.put h.next ⟨b, 0, some (1, 0), true, none⟩) (h.skip 1) := ⟨i1, (Keep.refl _ _).skip 1, i2⟩
      refine ⟨_, _, some ⟨h.next, 0, none⟩, [], A2, rfl, (by intro p hp; cases hp), ?_, .inl rfl⟩
      have := VR.sle (sp := spot) (n := (h.skip 1).next) (σ := σ.put h.next ⟨b, 0, some (1, 0), true, none⟩) h.next 0 off 1 0 ⟨by rw [AHeap.next_skip]; omega, by rw [Sig.put_same]⟩ (by rw [Sig.put_same])
      rw [Sig.put_same] at this
      exact this
    · obtain ⟨f, hf⟩ := Go.Deep.choose_lt (n := cap) (fun i hi => hp x rfl i hi)
      obtain ⟨e0, he0⟩ := hf 0 (by omega)
      have hc00 := he0 0 (by omega)
      have h00 : 0 < (f 0).cells.length := by rw [e0.len]; omega
      rw [List.getElem?_eq_getElem h00] at hc00
      obtain ⟨hspot, cs, el, fz, hh, _⟩ := row_of hc00
      have hspot : x.spot = none := hspot
      have hh : w.heap[x.block]? = some (.cells cs el fz) := hh
      obtain ⟨b, off, spot⟩ := x
      simp only at hspot
      subst hspot
      have hh : w.heap[b]? = some (.cells cs el fz) := hh
      have hb : b < N0 := by rw [hN]; exact (Array.getElem?_eq_some_iff.1 hh).1
      have hlok : ∀ e ∈ (List.range len).map f, e.Ok := by
        intro e he
        obtain ⟨i, hi, rfl⟩ := List.mem_map.1 he
        exact (hf i (by have := List.mem_range.1 hi; omega)).1
      have hlen : ((List.range len).map f).length = len := by simp
      have hlc : ∀ e ∈ (List.range len).map f, e.cells.length = 114 := fun e he => (hlok e he).len
      have hrl := flatC_len hlc
      have cellAt : ∀ i u, (flatC Ent.cells ((List.range len).map f))[i]? = some u → ∃ v', cs[off + i]? = some v' ∧ VR h.next σ u v' ∧ v'.oneCell' = true := by
        intro k u e
        obtain ⟨i, j, hi, hj, rfl, hu⟩ := flatC_get hlc e
        rw [hlen] at hi
        simp only [List.getElem_map, List.getElem_range] at hu
        have hc := (hf i (by omega)).2 j hj
        rw [add_mk, cell_of hh, hu] at hc
        obtain ⟨k, z, rfl⟩ := Ent.isInt _ u (List.mem_of_getElem? hu)
        exact ⟨_, hc, .int _ _, rfl⟩
      have hsz : off + (flatC Ent.cells ((List.range len).map f)).length ≤ cs.size := by
        have hc := (hf (cap - 1) (by omega)).2 113 (by omega)
        have ok := (hf (cap - 1) (by omega)).1
        rw [add_mk, cell_of hh, List.getElem?_eq_getElem (by rw [ok.len]; omega)] at hc
        have := (Array.getElem?_eq_some_iff.1 hc).1
        rw [hrl, hlen]
        have : len * 114 ≤ cap * 114 := Nat.mul_le_mul_right _ hl
        have : (cap - 1) * 114 + 114 = cap * 114 := by rw [← Nat.succ_mul]; congr 1; omega
        omega
      obtain ⟨i1, i2⟩ := hI.addRo (base := off) hb hh (flatC Ent.cells ((List.range len).map f)) none cellAt hsz (by intro es ext e; cases e)
      have A2 : Adds N0 w0 σ h w _ _ := ⟨i1, (Keep.refl _ _).new (Nat.le_refl _) _, i2⟩
      have hv : VR (h.new (.row true (grOf none) (.vals (flatC Ent.cells ((List.range len).map f))))).next (σ.put h.next ⟨b, off, none, true, none⟩) (.slice (some ⟨h.next, 0, none⟩) len cap) (.slice (some ⟨b, off, none⟩) len cap) := by
        have := VR.sl (n := (h.new (.row true (grOf none) (.vals (flatC Ent.cells ((List.range len).map f))))).next) (σ := σ.put h.next ⟨b, off, none, true, none⟩) h.next 0 len cap ⟨by simp, by rw [Sig.put_same]⟩ (by rw [Sig.put_same])
        rw [Sig.put_same] at this
        exact this
      refine ⟨_, _, some ⟨h.next, 0, none⟩, (List.range len).map f, A2, hlen, hlok, hv, .inr ⟨hrl, .inr ⟨h.next, 0, cap, true, grOf none, _, by rw [hlen], by rw [hlen]; exact hl, by simp, by rw [AHeap.get_new, if_pos rfl], .inl rfl, ?_, ?_⟩⟩⟩
      · show 0 + _ ≤ (flatC Ent.cells ((List.range len).map f)).length
        rw [hrl]; omega
      · show ((flatC Ent.cells ((List.range len).map f)).drop 0).take _ = _
        rw [List.drop_zero, List.take_of_length_le (by rw [hrl]; omega)]
end
/-! ### a table -/
theorem Tb.Ok.cell_int {t : Tb} (hi16 : t.id.length = 16) {i : Nat} (hi : i ≠ 19) {v : Value} (h : t.cells[i]? = some v) (sl' : Value) : (∃ k z, v = .int k z) ∧ (⟨t.s, t.a, t.b, t.id, sl', t.at_, t.be⟩ : Tb).cells[i]? = some v := by
  unfold Tb.cells at h ⊢
  match i, hi with
  | 0, _ => exact ⟨⟨_, _, (Option.some.inj h).symm⟩, h⟩
  | 1, _ => exact ⟨⟨_, _, (Option.some.inj h).symm⟩, h⟩
  | 2, _ => exact ⟨⟨_, _, (Option.some.inj h).symm⟩, h⟩
  | j + 3, hj =>
    simp only [List.getElem?_cons_succ] at h ⊢
    by_cases hj2 : j < 16
    · have hb : j < (byV t.id).length := by rw [byV_length, hi16]; exact hj2
      rw [List.getElem?_append_left hb] at h ⊢
      refine ⟨?_, h⟩
      have := List.mem_of_getElem? h
      simp only [byV, List.mem_map] at this
      obtain ⟨z, _, rfl⟩ := this
      exact ⟨_, _, rfl⟩
    · rw [List.getElem?_append_right (by rw [byV_length, hi16]; omega), byV_length, hi16] at h ⊢
      obtain ⟨k, rfl⟩ : ∃ k, j = k + 16 := ⟨j - 16, by omega⟩
      rw [Nat.add_sub_cancel] at h ⊢
      match k, hj with
      | 0, hj => exact absurd rfl hj
      | 1, _ => exact ⟨⟨_, _, (Option.some.inj h).symm⟩, h⟩
      | 2, _ => exact ⟨⟨_, _, (Option.some.inj h).symm⟩, h⟩
      | k + 3, _ => simp at h
theorem tb_vr {n : Nat} {σ : Sig} {t : Tb} (hi16 : t.id.length = 16) {sl' : Value} (h : VR n σ t.sl sl') : VR n σ (.agg t.cells.toArray) (.agg (⟨t.s, t.a, t.b, t.id, sl', t.at_, t.be⟩ : Tb).cells.toArray) := by
  refine .agg _ _ (by simp [Tb.cells]) ?_
  intro i v v' h1 h2
  rw [List.getElem?_toArray] at h1 h2
  by_cases hi : i = 19
  · subst hi
    have e1 : t.cells[19]? = some t.sl := by
      simp only [Tb.cells, List.getElem?_cons_succ]; rw [List.getElem?_append_right (by simp [hi16])]; simp [hi16]
    have e2 : (⟨t.s, t.a, t.b, t.id, sl', t.at_, t.be⟩ : Tb).cells[19]? = some sl' := by
      simp only [Tb.cells, List.getElem?_cons_succ]; rw [List.getElem?_append_right (by simp [hi16])]; simp [hi16]
    rw [e1] at h1; rw [e2] at h2
    cases h1; cases h2
    exact h
  · obtain ⟨⟨k, z, rfl⟩, e⟩ := Tb.Ok.cell_int hi16 hi h1 sl'
    rw [e] at h2
    cases h2
    exact .int _ _
/-- A table without entries: Check says no at once. -/
theorem law_zero (L d : Nat) (t : Tb) (o : t.Ok) (h : AHeap) (hs : ∃ x c, t.sl = .slice x 0 c) (hL : 1000000000 < L) :
    ∃ r h', (En L (d + 7)).go 3 [.agg t.cells.toArray] h = some (r, h') ∧ r = .bool true := by
  refine go_ex (R := fun r h' => r = .bool true) (show tabF 3 = some (.code a3) by rfl) rfl ?_
  unfold a3
  obtain ⟨h1, e1, g1, k1, n1⟩ := o.nbox h
  have l1 := o.lall g1
  obtain ⟨h2, e2, k2⟩ := light_spec L (d + 5) t o 0 h1 hs
  have g2 := g1.keep k2 (by omega)
  have l2 := o.lall g2
  obtain ⟨c, h3, e3, hc⟩ : ∃ c h3, (En L (d + 6)).go 12 [.agg t.cells.toArray] h2 = some (.int .i64 c, h3) ∧ c ≠ 0 := by
    have ex : ∃ r h', (En L (d + 6)).go 12 [.agg t.cells.toArray] h2 = some (r, h') ∧ r = .int .i64 11 := by
      refine go_ex (R := fun r h' => r = .int .i64 11) (show tabF 12 = some (.code a12) by rfl) rfl ?_
      unfold a12
      obtain ⟨h5, e5, g5, k5, n5⟩ := o.nbox h2
      obtain ⟨x, c, ev⟩ := hs
      have l0 := g5.l0
      have l19 := o.l19 g5
      rw [ev] at l19
      by_cases c1 : t.s < 6
      · simp (disch := omega) [e5, l19, l0, c1, wrapF_i64]
      by_cases c2 : 32768 < t.s
      · simp (disch := omega) [e5, l19, l0, c1, c2, wrapF_i64]
      simp (disch := omega) [e5, l19, l0, c1, c2, wrapF_i64]
    obtain ⟨r, h', q1, rfl⟩ := ex
    exact ⟨_, _, q1, by decide⟩
  have g13 := go13 L (d + 5)
  simp (disch := omega) [e1, l1, e2, l2, e3, hc, g13]
end
end Go.Proofs.Ytgapfoaklgganaa.L14

