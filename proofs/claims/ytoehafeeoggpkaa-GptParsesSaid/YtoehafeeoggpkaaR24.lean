import Derived.Test.YtoehafeeoggpkaaQ24
import Derived.Test.YtoehafeeoggpkaaP24
set_option linter.unusedVariables false
set_option linter.unusedSimpArgs false
set_option linter.unnecessarySimpa false
/-! The document's sets: what two extents have in common; apart. -/
namespace Go.Proofs.Ytoehafeeoggpkaa.L24
open Go Go.Proofs Go.Shelf Go.RowKit Go.Lib Go.Sort Go.AM Go.Proofs.Ytoehafeeoggpkaa.AMC
set_option maxRecDepth 10000
noncomputable section
abbrev EKV : ElK := ⟨1, 24, [.slice none 0 0]⟩
theorem lit2V (x y : Option Addr) (n c n2 c2 : Nat) (h : AHeap) : aBuildSlice true EKV 2 [(0, .slice x n c), (1, .slice y n2 c2)] h = some (.slice (some ⟨h.next, 0, none⟩) 2 2, h.new (.row false 0 (.vals [.slice x n c, .slice y n2 c2]))) := by kernel_rfl
def bothP (sa sb : List (Int × Int)) (m : List Int) (i : Nat) : List (Int × Int) := if hasB sa (m.getD i 0) = true ∧ hasB sb (m.getD i 0) = true then [(m.getD i 0, m.getD (i + 1) 0)] else []
def bothTo (sa sb : List (Int × Int)) (m : List Int) : Nat → List (Int × Int)
  | 0 => []
  | i + 1 => bothTo sa sb m i ++ bothP sa sb m i
theorem bothTo_len (sa sb : List (Int × Int)) (m : List Int) : ∀ i, (bothTo sa sb m i).length ≤ i
  | 0 => by simp [bothTo]
  | i + 1 => by
    have := bothTo_len sa sb m i
    simp only [bothTo, List.length_append, bothP]
    split <;> simp <;> omega
theorem bothTo_pos (sa sb : List (Int × Int)) (m : List Int) : ∀ i, 0 < (bothTo sa sb m i).length ↔ ∃ k, k < i ∧ hasB sa (m.getD k 0) = true ∧ hasB sb (m.getD k 0) = true
  | 0 => by simp [bothTo]
  | i + 1 => by
    have ih := bothTo_pos sa sb m i
    simp only [bothTo, List.length_append, bothP]
    constructor
    · intro h
      by_cases c : 0 < (bothTo sa sb m i).length
      · obtain ⟨k, hk, h1⟩ := ih.1 c
        exact ⟨k, by omega, h1⟩
      · split at h
        · rename_i c2
          exact ⟨i, by omega, c2⟩
        · simp at h; omega
    · rintro ⟨k, hk, h1⟩
      by_cases e : k = i
      · subst e
        rw [if_pos h1]; simp
      · have := ih.2 ⟨k, by omega, h1⟩
        omega
def Cmn (sa sb : List (Int × Int)) (m : List Int) : Prop := ∃ i, ∃ hi : i + 1 < m.length, hasB sa m[i] = true ∧ hasB sb m[i] = true
def BoR (sa sb : List (Int × Int)) (N : Nat) (r : Value) (h' : AHeap) : Prop := ∃ q : List (Int × Int), Own N h' 2 r q.length (encL q) ∧ (0 < q.length ↔ Cmn sa sb (marksF [sa, sb]))
def BoI (va vb vm : Value) (sa sb : List (Int × Int)) (m : List Int) (hs : AHeap) (j : Nat) (T : Tr Value) (h' : AHeap) : Prop :=
  ∃ (i : Nat) (w : Value), j = m.length - i ∧ (i = 0 ∨ i + 1 ≤ m.length) ∧ T.get 0 = some va ∧ T.get 1 = some vb ∧ T.get 2 = some (.int .i64 0) ∧ T.get 7 = some vm ∧ T.get 9 = some (.int .i64 i) ∧ T.get 8 = some w ∧ Own hs.next h' 2 w (bothTo sa sb m i).length (encL (bothTo sa sb m i)) ∧ Keep hs.next hs h'
set_option maxHeartbeats 4000000 in
theorem both_spec (L d : Nat) (va vb : Value) (sa sb : List (Int × Int)) (h : AHeap) (hw : Wf h) (ha : ExS h va sa) (hb : ExS h vb sb) (B : Nat) (hBa : sa.length ≤ B) (hBb : sb.length ≤ B) (hB : B < 40000) (hL : 1000000000 < L) :
    ∃ r h', (En L (d + 3)).go 66 [va, vb, .int .i64 0] h = some (r, h') ∧ BoR sa sb h.next r h' ∧ Keep h.next h h' := by
  refine go_ex (R := fun r h' => BoR sa sb h.next r h' ∧ Keep h.next h h') (show tabF 66 = some (.code a66) by rfl) rfl ?_
  unfold a66
  obtain ⟨xa, ca, eva⟩ := ha.val
  obtain ⟨xb, cb, evb⟩ := hb.val
  have li := lit2V xa xb sa.length ca sb.length cb h
  rw [← eva, ← evb] at li
  obtain ⟨h1, hh1⟩ : ∃ h1, h.new (.row false 0 (.vals [va, vb])) = h1 := ⟨_, rfl⟩
  rw [hh1] at li
  have k1 : Keep h.next h h1 := by rw [← hh1]; exact (Keep.refl _ _).new (Nat.le_refl _) _
  have hn1 : h1.next = h.next + 1 := by rw [← hh1]; simp
  have g1 : h1.get h.next = .row false 0 (.vals [va, vb]) := by rw [← hh1, AHeap.get_new, if_pos rfl]
  have s1 : SlC encV 1 h1 (.slice (some ⟨h.next, 0, none⟩) 2 2) [va, vb] := ⟨rfl, .inr ⟨h.next, 0, 2, false, 0, _, rfl, Nat.le_refl _, by omega, g1, .inl rfl, by show 0 + 2 * 1 ≤ 2; omega, rfl⟩⟩
  have ha1 := ExS.keep ha k1 (Nat.le_refl _)
  have hb1 := ExS.keep hb k1 (Nat.le_refl _)
  obtain ⟨vm, h2, e2, o2, k2⟩ := marks_spec L d _ [va, vb] [sa, sb] h1 s1 rfl (by simp) (by
    intro i q1 q2
    match i, q1 with
    | 0, _ => exact ha1
    | 1, _ => exact hb1) B (by
    intro s hs
    simp only [List.mem_cons, List.not_mem_nil, or_false] at hs
    rcases hs with rfl | rfl <;> assumption) (by simp; omega) hL
  have ml := marksF_len [sa, sb] B (by
    intro s hs
    simp only [List.mem_cons, List.not_mem_nil, or_false] at hs
    rcases hs with rfl | rfl <;> assumption) 2 (Nat.le_refl _)
  rw [show List.take 2 [sa, sb] = [sa, sb] from rfl] at ml
  unfold BoR
  generalize marksF [sa, sb] = m at e2 o2 ml ⊢
  have kk2 : Keep h.next h h2 := k1.trans (k2.less k1.next)
  have sm := ownC o2
  obtain ⟨xm, cm, evm⟩ := sm.val
  simp (disch := omega) [li, e2]
  refine W_loop (BoI va vb vm sa sb m h2) m.length (by show _ < L; omega) ⟨0, .slice none 0 0, rfl, by omega, by simp, by simp, by simp, by simp, by simp, by simp, Own.nil _ _ _, Keep.refl _ _⟩ ?_
  rintro j T h' ⟨i, w, rfl, hi, t0, t1, t2, t7, t9, t8, ow, kk⟩
  have kk5 : Keep h.next h h' := kk2.trans (kk.less kk2.next)
  have bl := bothTo_len sa sb m i
  by_cases hlt : i + 1 < m.length
  · have hlt' : (i : Int) + 1 < m.length := by omega
    obtain ⟨mm, off, cap, em, hm, _, ld⟩ := sm.at (enc := encI) (es := 1) (fun e he => rfl) (by omega)
    rw [em] at t7
    have ldx : ∀ (H : AHeap), H.get mm = h2.get mm → aLoad none (.pointer (some ⟨mm, off + i, none⟩)) H = some (.int .i64 (m.getD i 0)) := fun H g => by
      have := ld H i 0 (.int .i64 m[i]) (by omega) g (by omega) rfl
      rw [List.getD_eq_getElem?_getD, List.getElem?_eq_getElem (by omega : i < m.length)]
      simpa using this
    have ldy : ∀ (H : AHeap), H.get mm = h2.get mm → aLoad none (.pointer (some ⟨mm, off + (i + 1), none⟩)) H = some (.int .i64 (m.getD (i + 1) 0)) := fun H g => by
      have := ld H (i + 1) 0 (.int .i64 m[i + 1]) (by omega) g (by omega) rfl
      rw [List.getD_eq_getElem?_getD, List.getElem?_eq_getElem (by omega : i + 1 < m.length)]
      simpa using this
    have d0 := ldx h' (kk.get mm hm)
    have d0s := ldx (h'.skip 1) (kk.get mm hm)
    have d1 := ldy h' (kk.get mm hm)
    have d1s := ldy (h'.skip 1) (kk.get mm hm)
    have f1 := has_spec L (d + 1) va sa (m.getD i 0) h' (ExS.keep ha kk5 (Nat.le_refl _)) (by omega) hL
    have f2 := has_spec L (d + 1) vb sb (m.getD i 0) h' (ExS.keep hb kk5 (Nat.le_refl _)) (by omega) hL
    have bs : bothTo sa sb m (i + 1) = bothTo sa sb m i ++ bothP sa sb m i := rfl
    have step : ∀ (T6 : Tr Value) (h6 : AHeap) (w6 : Value), T6.get 0 = some va → T6.get 1 = some vb → T6.get 2 = some (.int .i64 0) → T6.get 7 = some (.slice (some ⟨mm, off, none⟩) m.length cap) → T6.get 9 = some (.int .i64 (i + 1)) → T6.get 8 = some w6 → Own h2.next h6 2 w6 (bothTo sa sb m i ++ bothP sa sb m i).length (encL (bothTo sa sb m i ++ bothP sa sb m i)) → Keep h2.next h2 h6 → ∃ j', j' < m.length - i ∧ BoI va vb vm sa sb m h2 j' T6 h6 := fun T6 h6 w6 a0 a1 a2 a7 a9 a8 o6 k6 =>
      ⟨m.length - (i + 1), by omega, i + 1, w6, rfl, by omega, a0, a1, a2, by rw [a7, em], by rw [a9]; simp, a8, by rw [bs]; exact o6, k6⟩
    unfold bothP at step
    generalize m.getD i 0 = z0 at d0 d0s f1 f2 step
    generalize m.getD (i + 1) 0 = z1 at d1 d1s step
    by_cases c1 : hasB sa z0 = true
    · by_cases c2 : hasB sb z0 = true
      · rw [if_pos ⟨c1, c2⟩] at step
        rw [c1] at f1
        rw [c2] at f2
        have hd := (kk5.wf hw) h'.next (Nat.le_refl _)
        have k8 : Keep h'.next h' ((h'.skip 1).set h'.next (.row false 0 (.vals [.int .i64 z0, .int .i64 z1]))) := ((Keep.refl _ _).skip 1).set (Nat.le_refl _) (by rw [AHeap.next_skip]; omega) _
        have g8 : ((h'.skip 1).set h'.next (.row false 0 (.vals [.int .i64 z0, .int .i64 z1]))).get h'.next = .row false 0 (.vals [.int .i64 z0, .int .i64 z1]) := by rw [AHeap.get_set, if_pos rfl]
        obtain ⟨w9, h9, e9, o9, k9⟩ := push_one (k := EK2) (ow.keep k8 (Nat.le_refl _)) g8 rfl (by decide) (by have := kk.next; have := k8.next; omega) (by show (_ + 1) * 16 ≤ _; omega) (by omega)
        have kk9 : Keep h2.next h2 h9 := kk.trans ((k8.less kk.next).trans k9)
        simp (disch := omega) [t0, t1, t2, t7, t9, t8, hlt', aIndexSl_ok, d0, d0s, d1, d1s, f1, f2, undef, b2E, lit2E, hd, AObj.live, AHeap.get_skip, e9, skip0', wrapF_i64]
        exact step _ _ w9 (by simp [t0]) (by simp [t1]) (by simp [t2]) (by simp [t7]) (by simp) (by simp) (by simpa [encL_app, encL] using o9) kk9
      · rw [if_neg (fun a => c2 a.2), List.append_nil] at step
        rw [Bool.not_eq_true] at c2
        rw [c1] at f1
        rw [c2] at f2
        simp (disch := omega) [t0, t1, t2, t7, t9, t8, hlt', aIndexSl_ok, d0, f1, f2, wrapF_i64, undef]
        trace_state
        exact step _ _ w (by simp [t0]) (by simp [t1]) (by simp [t2]) (by simp [t7]) (by simp) (by simp [t8]) ow kk
    · rw [if_neg (fun a => c1 a.1), List.append_nil] at step
      rw [Bool.not_eq_true] at c1
      rw [c1] at f1
      cases c2 : hasB sb z0 with
      | true =>
        rw [c2] at f2
        simp (disch := omega) [t0, t1, t2, t7, t9, t8, hlt', aIndexSl_ok, d0, f1, f2, wrapF_i64, undef]
        exact step _ _ w (by simp [t0]) (by simp [t1]) (by simp [t2]) (by simp [t7]) (by simp) (by simp [t8]) ow kk
      | false =>
        rw [c2] at f2
        simp (disch := omega) [t0, t1, t2, t7, t9, t8, hlt', aIndexSl_ok, d0, f1, f2, wrapF_i64, undef]
        exact step _ _ w (by simp [t0]) (by simp [t1]) (by simp [t2]) (by simp [t7]) (by simp) (by simp [t8]) ow kk
  · obtain ⟨r, h6, e6, o6, k6⟩ := joined_spec L (d + 1) w _ h' (ownEx ow) (by omega) hL
    rw [evm] at t7
    have nlt : ¬ ((i : Int) + 1 < m.length) := by omega
    simp (disch := omega) [t0, t1, t2, t7, t9, t8, nlt, wrapF_i64, e6]
    refine ⟨⟨joinL (bothTo sa sb m i), ownM o6 (kk5.next), ?_⟩, kk5.trans (k6.less kk5.next)⟩
    rw [joinL_pos, bothTo_pos]
    unfold Cmn
    constructor
    · rintro ⟨k, hk, q1, q2⟩
      by_cases hkm : k + 1 < m.length
      · rw [List.getD_eq_getElem?_getD, List.getElem?_eq_getElem (by omega)] at q1 q2
        exact ⟨k, hkm, q1, q2⟩
      · omega
    · rintro ⟨k, hk, q1, q2⟩
      refine ⟨k, by omega, ?_⟩
      rw [List.getD_eq_getElem?_getD, List.getElem?_eq_getElem (by omega)]
      exact ⟨q1, q2⟩
end
end Go.Proofs.Ytoehafeeoggpkaa.L24

set_option linter.unusedVariables false
set_option linter.unusedSimpArgs false
set_option linter.unnecessarySimpa false
/-! The document's Apart: it says what the program's says. -/
namespace Go.Proofs.Ytoehafeeoggpkaa.L24
open Go Go.Proofs Go.Shelf Go.RowKit Go.Lib Go.Sort Go.AM Go.Proofs.Ytoehafeeoggpkaa.AMC
set_option maxRecDepth 10000
noncomputable section
theorem cmn_iff {x y : Int × Int} (hx : x.1 < x.2) (hy : y.1 < y.2) : Cmn [x] [y] (marksF [[x], [y]]) ↔ ¬ Dis x y := by
  rw [← both_iff hx hy, marksF_two]
  unfold Cmn hasB
  simp only [List.any_cons, List.any_nil, Bool.or_false]
def gE (s : List (Int × Int)) (i : Nat) : Int × Int := s.getD i (0, 0)
theorem gE_eq {s : List (Int × Int)} {i : Nat} (h : i < s.length) : s[i] = gE s i := by
  unfold gE; rw [List.getD_eq_getElem?_getD, List.getElem?_eq_getElem h]; rfl
theorem pair_iff {s : List (Int × Int)} : s.Pairwise Dis ↔ ∀ a b, a < b → b < s.length → Dis (gE s a) (gE s b) := by
  rw [List.pairwise_iff_getElem]
  constructor
  · intro h a b hab hb
    have := h a b (by omega) hb hab
    rwa [gE_eq, gE_eq] at this
  · intro h a b ha hb hab
    rw [gE_eq, gE_eq]
    exact h a b hab hb
def AoI (v : Value) (s : List (Int × Int)) (h : AHeap) (j : Nat) (T : Tr Value) (h' : AHeap) : Prop :=
  ∃ i : Nat, j = s.length - i ∧ i ≤ s.length ∧ T.get 0 = some v ∧ T.get 3 = some (.int .i64 i) ∧ (∀ a b, a < b → b < i → Dis (gE s a) (gE s b)) ∧ Keep h.next h h'
def AiI (v : Value) (s : List (Int × Int)) (i : Nat) (h : AHeap) (j : Nat) (T : Tr Value) (h' : AHeap) : Prop :=
  ∃ k : Nat, j = i - k ∧ k ≤ i ∧ T.get 0 = some v ∧ T.get 3 = some (.int .i64 i) ∧ T.get 4 = some (.int .i64 k) ∧ (∀ a, a < k → Dis (gE s a) (gE s i)) ∧ Keep h.next h h'
set_option maxHeartbeats 4000000 in
theorem apartD_spec (L d : Nat) (v : Value) (s : List (Int × Int)) (h : AHeap) (hw : Wf h) (hv : ExS h v s) (hm : Sml s) (hl : s.length < 100000) (hL : 1000000000 < L) :
    ∃ r h', (En L (d + 4)).go 46 [v] h = some (r, h') ∧ r = .bool (apartB s) ∧ Keep h.next h h' := by
  refine go_ex (R := fun r h' => r = .bool (apartB s) ∧ Keep h.next h h') (show tabF 46 = some (.code a46) by rfl) rfl ?_
  unfold a46
  have key := apartB_iff s hm (by omega)
  rw [pair_iff] at key
  obtain ⟨x, c, ev⟩ := hv.val
  simp
  refine W_loop (AoI v s h) s.length (by show _ < L; omega) ⟨0, rfl, by omega, by simp, by simp, by omega, Keep.refl _ _⟩ ?_
  rintro j T h' ⟨i, rfl, hi, t0, t3, hp, kk⟩
  by_cases hlt : i < s.length
  · have hlt' : (i : Int) < s.length := by omega
    have step : ∀ (T6 : Tr Value) (h6 : AHeap), T6.get 0 = some v → T6.get 3 = some (.int .i64 (i + 1)) → (∀ a, a < i → Dis (gE s a) (gE s i)) → Keep h.next h h6 → ∃ j', j' < s.length - i ∧ AoI v s h j' T6 h6 := fun T6 h6 a0 a3 ad k6 =>
      ⟨s.length - (i + 1), by omega, i + 1, rfl, by omega, a0, by rw [a3]; simp, fun a b hab hb => by
        by_cases e : b = i
        · rw [e]; exact ad a (by omega)
        · exact hp a b hab (by omega), k6⟩
    have t0' := t0
    rw [ev] at t0'
    simp (disch := omega) [t0', t3, hlt']
    refine W_loop (AiI v s i h) i (by show _ < L; omega) ⟨0, rfl, by omega, by simp [t0', ev], by simp [t3], by simp, by omega, kk⟩ ?_
    rintro j T h' ⟨k, rfl, hk, t0, t3, t4, hq, kk⟩
    by_cases hlt2 : k < i
    · have hlt2' : (k : Int) < i := by omega
      have hks : (k : Int) < s.length := by omega
      obtain ⟨m, off, cap, em, hmn, x0, _, _⟩ := hv.at (by omega)
      rw [em] at t0
      have y1 := x0 (h'.skip 2) i hlt (kk.get m hmn)
      have y2 := x0 (h'.skip 2) k (by omega) (kk.get m hmn)
      have z1 := hm _ (List.getElem_mem hlt)
      have z2 := hm _ (List.getElem_mem (l := s) (n := k) (by omega))
      have step2 : ∀ (T6 : Tr Value) (h6 : AHeap), T6.get 0 = some (.slice (some ⟨m, off, none⟩) s.length cap) → T6.get 3 = some (.int .i64 i) → T6.get 4 = some (.int .i64 (k + 1)) → Dis s[k] s[i] → Keep h.next h h6 → ∃ j', j' < i - k ∧ AiI v s i h j' T6 h6 := fun T6 h6 a0 a3 a4 ad k6 =>
        ⟨i - (k + 1), by omega, k + 1, rfl, by omega, by rw [a0, em], a3, by rw [a4]; simp, fun a ha => by
          by_cases e : a = k
          · rw [e, ← gE_eq (show k < s.length by omega), ← gE_eq hlt]; exact ad
          · exact hq a (by omega), k6⟩
      have bad : ¬ Dis s[k] s[i] → apartB s = false := fun nd => by
        rw [← Bool.not_eq_true, key]
        intro a
        have := a k i hlt2 hlt
        rw [← gE_eq (show k < s.length by omega), ← gE_eq hlt] at this
        exact nd this
      generalize s[i] = a at y1 z1 step2 bad
      generalize s[k] = b at y2 z2 step2 bad
      have hd0 := (kk.wf hw) h'.next (Nat.le_refl _)
      have hd1 := (kk.wf hw) (h'.next + 1) (by omega)
      obtain ⟨H, hH⟩ : ∃ H, ((h'.skip 2).set h'.next (.row false 0 (.vals [.int .i64 a.1, .int .i64 a.2]))).set (h'.next + 1) (.row false 0 (.vals [.int .i64 b.1, .int .i64 b.2])) = H := ⟨_, rfl⟩
      have kH : Keep h'.next h' H := by
        rw [← hH]
        exact (((Keep.refl _ _).skip 2).set (Nat.le_refl _) (by rw [AHeap.next_skip]; omega) _).set (by omega) (by rw [AHeap.next_set, AHeap.next_skip]; omega) _
      have nH : H.next = h'.next + 2 := by rw [← hH, AHeap.next_set, AHeap.next_set, AHeap.next_skip]
      have gA : H.get h'.next = .row false 0 (.vals [.int .i64 a.1, .int .i64 a.2]) := by rw [← hH, AHeap.get_set, if_neg (by omega), AHeap.get_set, if_pos rfl]
      have gB : H.get (h'.next + 1) = .row false 0 (.vals [.int .i64 b.1, .int .i64 b.2]) := by rw [← hH, AHeap.get_set, if_pos rfl]
      have sA : ExS H (.slice (some ⟨h'.next, 0, none⟩) 1 1) [a] := ⟨rfl, .inr ⟨h'.next, 0, 1, false, 0, _, rfl, Nat.le_refl _, by omega, gA, .inl rfl, by show 0 + 1 * 2 ≤ 2; omega, rfl⟩⟩
      have sB : ExS H (.slice (some ⟨h'.next + 1, 0, none⟩) 1 1) [b] := ⟨rfl, .inr ⟨h'.next + 1, 0, 1, false, 0, _, rfl, Nat.le_refl _, by omega, gB, .inl rfl, by show 0 + 1 * 2 ≤ 2; omega, rfl⟩⟩
      obtain ⟨r, h6, e6, ⟨q, oq, hqq⟩, k6⟩ := both_spec L d _ _ [a] [b] H ((kk.trans (kH.less kk.next)).wf hw) sA sB 1 (by simp) (by simp) (by omega) hL
      rw [cmn_iff z1.1 z2.1] at hqq
      obtain ⟨xq, cq, rfl⟩ := ownSl oq
      have kk6 : Keep h.next h h6 := kk.trans ((kH.trans (k6.less kH.next)).less kk.next)
      by_cases hc : Dis a b
      · have hq0 : ¬ (0 < q.length) := fun a => hqq.1 a hc
        simp (disch := omega) [t0, t3, t4, hlt', hlt2', hks, aIndexSl_ok, y1, y2, lit2E, hd0, hd1, AObj.live, AHeap.get_skip, AHeap.get_set, hH, e6, hq0, skip0', wrapF_i64]
        exact step2 _ _ (by simp [t0]) (by simp [t3]) (by simp) hc.symm kk6
      · have hq0 : 0 < q.length := hqq.2 hc
        simp (disch := omega) [t0, t3, t4, hlt', hlt2', hks, aIndexSl_ok, y1, y2, lit2E, hd0, hd1, AObj.live, AHeap.get_skip, AHeap.get_set, hH, e6, hq0, skip0', wrapF_i64]
        exact ⟨(bad fun x => hc x.symm), kk6⟩
    · have hke : k = i := by omega
      subst hke
      simp (disch := omega) [t0, t3, t4, hlt', wrapF_i64]
      exact step _ _ (by simp [t0]) (by simp) hq kk
  · have hie : i = s.length := by omega
    subst hie
    rw [ev] at t0
    simp (disch := omega) [t0, t3]
    exact ⟨key.2 hp, kk⟩
theorem rowsD_spec (L d n : Nat) (h : AHeap) (hn : n < 1000000) : (En L (d + 1)).go 44 [.int .i64 n] h = some (.int .i64 (rowsN n), h) := by
  refine go_of (show tabF 44 = some (.code a44) by rfl) rfl ?_
  unfold a44
  have e1 : ((n : Int) * 128).tdiv 512 = (n : Int) * 128 / 512 := Int.tdiv_eq_ediv_of_nonneg (by omega)
  have e2 : ((n : Int) * 128).tmod 512 = (n : Int) * 128 % 512 := Int.tmod_eq_emod_of_nonneg (by omega)
  by_cases c : (n : Int) * 128 % 512 = 0
  · simp (disch := omega) [wrapF_i64, e1, e2, c]
    unfold rowsN; first | omega | (congr 1; omega)
  · simp (disch := omega) [wrapF_i64, e1, e2, c]
    unfold rowsN; first | omega | (congr 1; omega)
end
end Go.Proofs.Ytoehafeeoggpkaa.L24

set_option linter.unusedVariables false
set_option linter.unusedSimpArgs false
set_option linter.unnecessarySimpa false
/-! The document's Check, with its value. -/
namespace Go.Proofs.Ytoehafeeoggpkaa.L24
open Go Go.Proofs Go.Shelf Go.RowKit Go.Lib Go.Sort Go.AM Go.Proofs.Ytoehafeeoggpkaa.AMC
set_option maxRecDepth 10000
noncomputable section
def CdI (t : Tb) (m : Nat) (l : List Ent) (hs : AHeap) (j : Nat) (T : Tr Value) (h' : AHeap) : Prop :=
  ∃ (i : Nat) (w : Value) (q : List (Int × Int)), j = l.length - i ∧ i ≤ l.length ∧ chkV t l = chkE t (l.drop i) q ∧ q.length ≤ i ∧ Sml q ∧ T.get 1 = some (.pointer (some ⟨m, 0, none⟩)) ∧ T.get 5 = some (.int .i64 i) ∧ T.get 4 = some w ∧ Own hs.next h' 2 w q.length (encL q) ∧ Keep hs.next hs h'
theorem Sml.snoc {q : List (Int × Int)} (h : Sml q) {x : Int × Int} (hx : x.1 < x.2 ∧ 0 ≤ x.1 ∧ x.2 ≤ 1099511627776) : Sml (q ++ [x]) := by
  intro y hy
  rcases List.mem_append.1 hy with hy | hy
  · exact h y hy
  · rw [List.mem_singleton.1 hy]; exact hx
theorem new4 (h : AHeap) : aNew true [.slice none 0 0, .int .i64 0, .int .i64 0, .slice none 0 0] h = some (.pointer (some ⟨h.next, 0, none⟩), h.new (.row false 0 (.vals [.slice none 0 0, .int .i64 0, .int .i64 0, .slice none 0 0]))) := rfl
set_option maxHeartbeats 8000000 in
theorem checkD_spec (L d : Nat) (t : Tb) (l : List Ent) (hl : ∀ e ∈ l, e.Ok) (vi vl : Value) (rl : List REnt) (hvi : ∃ x n c, vi = .slice x n c) (h : AHeap) (hw : Wf h) (hs : SlC rEnc 4 h vl rl) (hr : RL h rl l) (hn : l.length < 100000) (hL : 1000000000 < L) :
    ∃ r h', (En L (d + 5)).go 18 [.agg (r7 t.s t.a t.b vi vl t.at_ t.be).toArray] h = some (r, h') ∧ r = .int .i64 (chkV t l) ∧ Keep h.next h h' := by
  refine go_ex (R := fun r h' => r = .int .i64 (chkV t l) ∧ Keep h.next h h') (show tabF 18 = some (.code a18) by rfl) rfl ?_
  unfold a18
  obtain ⟨xi, ni, ci, rfl⟩ := hvi
  obtain ⟨h1, e1, g1, k1, n1⟩ := r7_box (s := t.s) (a := t.a) (b := t.b) (vi := .slice xi ni ci) (vl := vl) (at_ := t.at_) (be := t.be) rfl (slC_one hs) h
  obtain ⟨x, c, ev⟩ := hs.val
  rw [hr.1] at ev
  have hs1 := hs.keep k1 (Nat.le_refl _)
  have hr1 := hr.keep k1 (Nat.le_refl _)
  have rw_ := rowsD_spec L (d + 3) l.length h1 (by omega)
  have hR : 0 ≤ rowsN l.length ∧ rowsN l.length ≤ 1000000000 := by unfold rowsN; omega
  have hcv := chkV_def t l
  generalize rowsN l.length = R at rw_ hR hcv
  generalize hV : chkV t l = V at hcv ⊢
  have l0 : aLoad none (.pointer (some ⟨h.next, 0, none⟩)) h1 = some (.int .i64 t.s) := ld_cell g1 rfl
  have l1 : aLoad none (.pointer (some ⟨h.next, 1, none⟩)) h1 = some (.int .i64 t.a) := ld_cell g1 rfl
  have l2 : aLoad none (.pointer (some ⟨h.next, 2, none⟩)) h1 = some (.int .i64 t.b) := ld_cell g1 rfl
  have l4 : aLoad none (.pointer (some ⟨h.next, 4, none⟩)) h1 = some vl := ld_cell g1 rfl
  have l5 : aLoad none (.pointer (some ⟨h.next, 5, none⟩)) h1 = some (.int .i64 t.at_) := ld_cell g1 rfl
  have l6 : aLoad none (.pointer (some ⟨h.next, 6, none⟩)) h1 = some (.int .i64 t.be) := ld_cell g1 rfl
  rw [ev] at l4
  by_cases c1 : t.s < 6
  · simp (disch := omega) [e1, l0, l1, l2, l4, l5, l6, rw_, c1, wrapF_i64, skip0']
    exact ⟨by rw [hcv, if_pos (by omega)], k1⟩
  by_cases c2 : 32768 < t.s
  · simp (disch := omega) [e1, l0, l1, l2, l4, l5, l6, rw_, c1, c2, wrapF_i64, skip0']
    exact ⟨by rw [hcv, if_pos (by omega)], k1⟩
  by_cases c3 : (l.length : Int) < 1
  · simp (disch := omega) [e1, l0, l1, l2, l4, l5, l6, rw_, c1, c2, c3, wrapF_i64, skip0']
    exact ⟨by rw [hcv, if_pos (by omega)], k1⟩
  by_cases c4 : 128 < (l.length : Int)
  · simp (disch := omega) [e1, l0, l1, l2, l4, l5, l6, rw_, c1, c2, c3, c4, wrapF_i64, skip0']
    exact ⟨by rw [hcv, if_pos (by omega)], k1⟩
  by_cases c5 : t.at_ < 2
  · simp (disch := omega) [e1, l0, l1, l2, l4, l5, l6, rw_, c1, c2, c3, c4, c5, wrapF_i64, skip0']
    exact ⟨by rw [hcv, if_neg (by omega), if_pos (by omega)], k1⟩
  by_cases c6 : t.s - 1 - R < t.at_
  · simp (disch := omega) [e1, l0, l1, l2, l4, l5, l6, rw_, c1, c2, c3, c4, c5, c6, wrapF_i64, skip0']
    exact ⟨by rw [hcv, if_neg (by omega), if_pos (by omega)], k1⟩
  by_cases c7 : t.a < t.at_ + R
  · simp (disch := omega) [e1, l0, l1, l2, l4, l5, l6, rw_, c1, c2, c3, c4, c5, c6, c7, wrapF_i64, skip0']
    exact ⟨by rw [hcv, if_neg (by omega), if_pos (by omega)], k1⟩
  by_cases c8 : t.s - 1 < t.a
  · simp (disch := omega) [e1, l0, l1, l2, l4, l5, l6, rw_, c1, c2, c3, c4, c5, c6, c7, c8, wrapF_i64, skip0']
    exact ⟨by rw [hcv, if_neg (by omega), if_pos (by omega)], k1⟩
  by_cases c9 : t.b < t.a - 1
  · simp (disch := omega) [e1, l0, l1, l2, l4, l5, l6, rw_, c1, c2, c3, c4, c5, c6, c7, c8, c9, wrapF_i64, skip0']
    exact ⟨by rw [hcv, if_neg (by omega), if_pos (by omega)], k1⟩
  by_cases c10 : t.be ≤ t.b
  · simp (disch := omega) [e1, l0, l1, l2, l4, l5, l6, rw_, c1, c2, c3, c4, c5, c6, c7, c8, c9, c10, wrapF_i64, skip0']
    exact ⟨by rw [hcv, if_neg (by omega), if_pos (by omega)], k1⟩
  by_cases c11 : t.s - 1 - R < t.be
  · simp (disch := omega) [e1, l0, l1, l2, l4, l5, l6, rw_, c1, c2, c3, c4, c5, c6, c7, c8, c9, c10, c11, wrapF_i64, skip0']
    exact ⟨by rw [hcv, if_neg (by omega), if_pos (by omega)], k1⟩
  rw [if_neg (by omega), if_neg (by omega)] at hcv
  simp (disch := omega) [e1, l0, l1, l2, l4, l5, l6, rw_, c1, c2, c3, c4, c5, c6, c7, c8, c9, c10, c11, wrapF_i64, skip0']
  refine W_loop (CdI t h.next l h1) l.length (by show _ < L; omega) ⟨0, .slice none 0 0, [], rfl, by omega, by rw [hV, hcv]; rfl, by simp, (by intro y hy; cases hy), by simp, by simp, by simp, Own.nil _ _ _, Keep.refl _ _⟩ ?_
  rintro j T h' ⟨i, w, q, rfl, hi, hcq, hq, hsm, t1, t5, t4, ow, kk⟩
  rw [hV] at hcq
  have kk5 : Keep h.next h h' := k1.trans (kk.less k1.next)
  have g5 := (kk.get h.next (by omega)).trans g1
  have m4 : aLoad none (.pointer (some ⟨h.next, 4, none⟩)) h' = some vl := ld_cell g5 rfl
  by_cases hlt : i < l.length
  · rw [List.drop_eq_getElem_cons hlt] at hcq
    have hlt' : (i : Int) < l.length := by omega
    have hlr : i < rl.length := by rw [hr.1]; exact hlt
    have oe : (l[i]).Ok := hl _ (List.getElem_mem hlt)
    obtain ⟨m, off, cap, em, hm, ld, _⟩ := (hs1.keep kk (Nat.le_refl _)).at (enc := rEnc) (es := 4) (fun e he => rfl) (by omega)
    obtain ⟨ra, rb, rs, rr⟩ := (hr1.keep kk (Nat.le_refl _)).2 i hlr hlt
    have lx := ld h' i hlr rfl
    rw [hr.1] at em
    have em1 := em
    rw [em] at m4
    generalize l[i] = e at oe ra rb rs rr hcq
    generalize rl[i] = p at ra rb rs rr lx
    obtain ⟨va, pa, pb, vr⟩ := p
    simp only at ra rb rs rr
    subst ra rb
    obtain ⟨xa, ca, eva⟩ := rs.val
    obtain ⟨xr, cr, evr⟩ := rr.val
    subst eva evr
    rw [oe.i] at lx
    rw [oe.r] at lx
    obtain ⟨h6, e6, g6, k6, n6⟩ := store_new h' [.slice none 0 0, .int .i64 0, .int .i64 0, .slice none 0 0] (rEnc (.slice xa 32 ca, e.a, e.b, .slice xr 80 cr)).toArray 4 rfl rfl rfl
    have n4 := new4 h'
    have f0 : aLoad none (.pointer (some ⟨h'.next, 0, none⟩)) h6 = some (.slice xa 32 ca) := ld_cell g6 rfl
    have f1 : aLoad none (.pointer (some ⟨h'.next, 1, none⟩)) h6 = some (.int .i64 e.a) := ld_cell g6 rfl
    have f2 : aLoad none (.pointer (some ⟨h'.next, 2, none⟩)) h6 = some (.int .i64 e.b) := ld_cell g6 rfl
    have f3 : aLoad none (.pointer (some ⟨h'.next, 3, none⟩)) h6 = some (.slice xr 80 cr) := ld_cell g6 rfl
    have g7 := (k6.get h.next (by have := kk5.next; have := kk.next; omega)).trans g5
    have q1 : aLoad none (.pointer (some ⟨h.next, 1, none⟩)) h6 = some (.int .i64 t.a) := ld_cell g7 rfl
    have q2 : aLoad none (.pointer (some ⟨h.next, 2, none⟩)) h6 = some (.int .i64 t.b) := ld_cell g7 rfl
    have rs6 := rs.keep k6 (Nat.le_refl _)
    have rr6 := rr.keep k6 (Nat.le_refl _)
    rw [oe.i] at rs6
    rw [oe.r] at rr6
    obtain ⟨v1, c1_, s1⟩ := cutB rs6 (lo := none) (hi := some (.int .i64 ((16 : Nat) : Int))) 0 16 (.inl ⟨rfl, rfl⟩) (.inr ⟨_, rfl⟩) (by omega) (by rw [oe.i]; omega)
    have s1' : SlB h6 v1 (e.ids.take 16) := by simpa using s1
    have c1' : aCut (.sl 1) (.slice xa 32 ca) none (some (.int .i64 16)) none h6 = some v1 := c1_
    have z1 := isZero_spec L (d + 3) v1 (e.ids.take 16) h6 s1' (by simp; omega) hL
    have z2 := isZero_spec L (d + 3) _ e.ids h6 rs6 (by rw [oe.i]; omega) hL
    have z3 := isZero_spec L (d + 3) _ e.rest h6 rr6 (by rw [oe.r]; omega) hL
    have kk7 : Keep h1.next h1 h6 := kk.trans (k6.less kk.next)
    have kkh : Keep h.next h h6 := k1.trans (kk7.less k1.next)
    have ow7 : Own h1.next h6 2 w q.length (encL q) := ow.keep k6 (Nat.le_refl _)
    unfold chkE at hcq
    have step : ∀ (T6 : Tr Value) (h6 : AHeap) (w6 : Value) (q6 : List (Int × Int)), V = chkE t (l.drop (i + 1)) q6 → q6.length ≤ i + 1 → Sml q6 → T6.get 1 = some (.pointer (some ⟨h.next, 0, none⟩)) → T6.get 5 = some (.int .i64 (i + 1)) → T6.get 4 = some w6 → Own h1.next h6 2 w6 q6.length (encL q6) → Keep h1.next h1 h6 → ∃ j', j' < l.length - i ∧ CdI t h.next l h1 j' T6 h6 := fun T6 h6 w6 q6 av a0 asm a1 a5 a4 o6 k6 =>
      ⟨l.length - (i + 1), by omega, i + 1, w6, q6, rfl, by omega, hV.trans av, a0, asm, a1, by rw [a5]; simp, a4, o6, k6⟩
    by_cases hz : zeroB (e.ids.take 16) = true
    · rw [if_pos hz] at hcq
      rw [hz] at z1
      unfold isZ at hcq
      cases y2 : zeroB e.ids with
      | false =>
        rw [y2] at z2 hcq
        simp (disch := omega) [t1, t5, t4, m4, hlt', aIndexSl_ok, lx, n4, e6, f0, f1, f2, f3, c1', z1, z2, z3, q1, q2, undef, y2, wrapF_i64 (n := (i : Int) + 1) (by omega) (by omega)]
        exact ⟨by simpa [y2] using hcq.symm, kkh⟩
      | true =>
        rw [y2] at z2 hcq
        by_cases y3 : e.a = 0
        · rw [y3] at f1
          by_cases y4 : e.b = 0
          · rw [y4] at f2
            cases y5 : zeroB e.rest with
            | false =>
              rw [y5] at z3 hcq
              simp (disch := omega) [t1, t5, t4, m4, hlt', aIndexSl_ok, lx, n4, e6, f0, f1, f2, f3, c1', z1, z2, z3, q1, q2, undef, y5, wrapF_i64 (n := (i : Int) + 1) (by omega) (by omega)]
              exact ⟨by simpa [y3, y4] using hcq.symm, kkh⟩
            | true =>
              rw [y5] at z3 hcq
              simp (disch := omega) [t1, t5, t4, m4, hlt', aIndexSl_ok, lx, n4, e6, f0, f1, f2, f3, c1', z1, z2, z3, q1, q2, undef, y5, wrapF_i64 (n := (i : Int) + 1) (by omega) (by omega)]
              exact step _ _ w q (by simpa [y3, y4] using hcq) (by omega) hsm (by simp [t1]) (by simp) (by simp [t4]) ow7 kk7
          · simp (disch := omega) [t1, t5, t4, m4, hlt', aIndexSl_ok, lx, n4, e6, f0, f1, f2, f3, c1', z1, z2, z3, q1, q2, undef, y4, wrapF_i64 (n := (i : Int) + 1) (by omega) (by omega)]
            exact ⟨by simpa [y3, y4] using hcq.symm, kkh⟩
        · simp (disch := omega) [t1, t5, t4, m4, hlt', aIndexSl_ok, lx, n4, e6, f0, f1, f2, f3, c1', z1, z2, z3, q1, q2, undef, y3, wrapF_i64 (n := (i : Int) + 1) (by omega) (by omega)]
          exact ⟨by simpa [y3] using hcq.symm, kkh⟩
    · rw [if_neg hz] at hcq
      rw [Bool.not_eq_true] at hz
      rw [hz] at z1
      by_cases d1 : e.a < t.a
      · simp (disch := omega) [t1, t5, t4, m4, hlt', aIndexSl_ok, lx, n4, e6, f0, f1, f2, f3, c1', z1, z2, z3, q1, q2, undef, d1, wrapF_i64 (n := (i : Int) + 1) (by omega) (by omega)]
        exact ⟨by rw [hcq, if_pos (by omega)], kkh⟩
      by_cases d2 : t.b < e.b
      · simp (disch := omega) [t1, t5, t4, m4, hlt', aIndexSl_ok, lx, n4, e6, f0, f1, f2, f3, c1', z1, z2, z3, q1, q2, undef, d1, d2, wrapF_i64 (n := (i : Int) + 1) (by omega) (by omega)]
        exact ⟨by rw [hcq, if_pos (by omega)], kkh⟩
      by_cases d3 : e.b < e.a
      · simp (disch := omega) [t1, t5, t4, m4, hlt', aIndexSl_ok, lx, n4, e6, f0, f1, f2, f3, c1', z1, z2, z3, q1, q2, undef, d1, d2, d3, wrapF_i64 (n := (i : Int) + 1) (by omega) (by omega)]
        exact ⟨by rw [hcq, if_pos (by omega)], kkh⟩
      rw [if_neg (by omega)] at hcq
      have hew : wrapF .i64 (e.b + 1) = e.b + 1 := wrapF_i64 (by omega) (by omega)
      obtain ⟨w9, h9, e9, o9, k9⟩ := pushX ow7 (by have := kk7.next; omega) (by omega) e.a (e.b + 1)
      simp (disch := omega) [t1, t5, t4, m4, hlt', aIndexSl_ok, lx, n4, e6, f0, f1, f2, f3, c1', z1, z2, z3, q1, q2, undef, d1, d2, d3, b2E, hew, lit2E, e9, wrapF_i64 (n := (i : Int) + 1) (by omega) (by omega)]
      exact step _ _ w9 _ hcq (by simp; omega) (hsm.snoc ⟨by simp only; omega, by simp only; omega, by simp only; omega⟩) (by simp [t1]) (by simp) (by simp) o9 (kk7.trans k9)
  · have hie : i = l.length := by omega
    subst hie
    rw [List.drop_length] at hcq
    unfold chkE at hcq
    rw [ev] at m4
    obtain ⟨r1, h6, e6, rfl, k6⟩ := apartD_spec L d w q h' (kk5.wf hw) (ownEx ow) hsm (by omega) hL
    obtain ⟨xw, cw, rfl⟩ := Own.val ow
    by_cases d1 : (32 : Int) < q.length
    · simp [t1, t5, t4, m4, d1]
      exact ⟨by rw [hcq, if_pos d1], kk5⟩
    · rw [if_neg d1] at hcq
      cases hb : apartB q with
      | true =>
        rw [hb] at e6 hcq
        simp [t1, t5, t4, m4, d1, e6]
        exact ⟨by rw [hcq]; rfl, kk5.trans (k6.less kk5.next)⟩
      | false =>
        rw [hb] at e6 hcq
        simp [t1, t5, t4, m4, d1, e6]
        exact ⟨by rw [hcq]; rfl, kk5.trans (k6.less kk5.next)⟩
end
end Go.Proofs.Ytoehafeeoggpkaa.L24

