import Derived.Test.YtoehafeeoggpkaaQ24
import Derived.Test.YtoehafeeoggpkaaP24
import Derived.Deep.Slices
import Derived.OpenShut
set_option linter.unusedVariables false
set_option linter.unusedSimpArgs false
set_option linter.unnecessarySimpa false
/-! The document's sets: what two extents have in common; apart. -/
namespace Go.Proofs.Ytoehafeeoggpkaa.L24
open Go Go.Proofs Go.Shelf Go.RowKit Go.Lib Go.Sort Go.AM Go.Proofs.Ytoehafeeoggpkaa.AMC
set_option maxRecDepth 10000
noncomputable section
abbrev EKV : ElK := ⟨1, 24, [.slice none 0 0]⟩
theorem lit2V (x y : Option Addr) (n c n2 c2 : Nat) (h : AHeap) : aBuildSlice true EKV 2 [(0, .slice x n c), (1, .slice y n2 c2)] h = some (.slice (some ⟨h.next, 0, none⟩) 2 2, h.new (.row false 0 (.vals [.slice x n c, .slice y n2 c2]))) := by kernel_rfl
def bothP (sa sb : List (Int × Int)) (m : List Int) (i : Nat) : List (Int × Int) := if hasB sa (m.getD i 0) = true ∧ hasB sb (m.getD i 0) = true then [(m.getD i 0, m.getD (i + 1) 0)] else []
def bothTo (sa sb : List (Int × Int)) (m : List Int) : Nat → List (Int × Int)
  | 0 => []
  | i + 1 => bothTo sa sb m i ++ bothP sa sb m i
theorem bothTo_len (sa sb : List (Int × Int)) (m : List Int) : ∀ i, (bothTo sa sb m i).length ≤ i
  | 0 => by simp [bothTo]
  | i + 1 => by
    have := bothTo_len sa sb m i
    simp only [bothTo, List.length_append, bothP]
    split <;> simp <;> omega
theorem bothTo_pos (sa sb : List (Int × Int)) (m : List Int) : ∀ i, 0 < (bothTo sa sb m i).length ↔ ∃ k, k < i ∧ hasB sa (m.getD k 0) = true ∧ hasB sb (m.getD k 0) = true
  | 0 => by simp [bothTo]
  | i + 1 => by
    have ih := bothTo_pos sa sb m i
    simp only [bothTo, List.length_append, bothP]
    constructor
    · intro h
      by_cases c : 0 < (bothTo sa sb m i).length
      · obtain ⟨k, hk, h1⟩ := ih.1 c
        exact ⟨k, by omega, h1⟩
      · split at h
        · rename_i c2
          exact ⟨i, by omega, c2⟩
        · simp at h; omega
    · rintro ⟨k, hk, h1⟩
      by_cases e : k = i
      · subst e
        rw [if_pos h1]; simp
      · have := ih.2 ⟨k, by omega, h1⟩
        omega
def Cmn (sa sb : List (Int × Int)) (m : List Int) : Prop := ∃ i, ∃ hi : i + 1 < m.length, hasB sa m[i] = true ∧ hasB sb m[i] = true
def BoR (sa sb : List (Int × Int)) (N : Nat) (r : Value) (h' : AHeap) : Prop := ∃ q : List (Int × Int), Own N h' 2 r q.length (encL q) ∧ (0 < q.length ↔ Cmn sa sb (marksF [sa, sb]))
def BoI (va vb vm : Value) (sa sb : List (Int × Int)) (m : List Int) (hs : AHeap) (j : Nat) (T : Tr Value) (h' : AHeap) : Prop :=
  ∃ (i : Nat) (w : Value), j = m.length - i ∧ (i = 0 ∨ i + 1 ≤ m.length) ∧ T.get 0 = some va ∧ T.get 1 = some vb ∧ T.get 2 = some (.int .i64 0) ∧ T.get 7 = some vm ∧ T.get 9 = some (.int .i64 i) ∧ T.get 8 = some w ∧ Own hs.next h' 2 w (bothTo sa sb m i).length (encL (bothTo sa sb m i)) ∧ Keep hs.next hs h'
set_option maxHeartbeats 4000000 in
theorem both_spec (L d : Nat) (va vb : Value) (sa sb : List (Int × Int)) (h : AHeap) (hw : Wf h) (ha : ExS h va sa) (hb : ExS h vb sb) (B : Nat) (hBa : sa.length ≤ B) (hBb : sb.length ≤ B) (hB : B < 40000) (hL : 1000000000 < L) :
    ∃ r h', (En L (d + 3)).go 66 [va, vb, .int .i64 0] h = some (r, h') ∧ BoR sa sb h.next r h' ∧ Keep h.next h h' := by
  refine go_ex (R := fun r h' => BoR sa sb h.next r h' ∧ Keep h.next h h') (show tabF 66 = some (.code a66) by rfl) rfl ?_
  unfold a66
  obtain ⟨xa, ca, eva⟩ := ha.val
  obtain ⟨xb, cb, evb⟩ := hb.val
  have li := lit2V xa xb sa.length ca sb.length cb h
  rw [← eva, ← evb] at li
  obtain ⟨h1, hh1⟩ : ∃ h1, h.new (.row false 0 (.vals [va, vb])) = h1 := ⟨_, rfl⟩
  rw [hh1] at li
  have k1 : Keep h.next h h1 := by rw [← hh1]; exact (Keep.refl _ _).new (Nat.le_refl _) _
  have hn1 : h1.next = h.next + 1 := by rw [← hh1]; simp
  have g1 : h1.get h.next = .row false 0 (.vals [va, vb]) := by rw [← hh1, AHeap.get_new, if_pos rfl]
  have s1 : SlC encV 1 h1 (.slice (some ⟨h.next, 0, none⟩) 2 2) [va, vb] := ⟨rfl, .inr ⟨h.next, 0, 2, false, 0, _, rfl, Nat.le_refl _, by omega, g1, .inl rfl, by show 0 + 2 * 1 ≤ 2; omega, rfl⟩⟩
  have ha1 := ExS.keep ha k1 (Nat.le_refl _)
  have hb1 := ExS.keep hb k1 (Nat.le_refl _)
  obtain ⟨vm, h2, e2, o2, k2⟩ := marks_spec L d _ [va, vb] [sa, sb] h1 s1 rfl (by simp) (by
    intro i q1 q2
    match i, q1 with
    | 0, _ => exact ha1
    | 1, _ => exact hb1) B (by
    intro s hs
    simp only [List.mem_cons, List.not_mem_nil, or_false] at hs
    rcases hs with rfl | rfl <;> assumption) (by simp; omega) hL
  have ml := marksF_len [sa, sb] B (by
    intro s hs
    simp only [List.mem_cons, List.not_mem_nil, or_false] at hs
    rcases hs with rfl | rfl <;> assumption) 2 (Nat.le_refl _)
  rw [show List.take 2 [sa, sb] = [sa, sb] from rfl] at ml
  unfold BoR
  generalize marksF [sa, sb] = m at e2 o2 ml ⊢
  have kk2 : Keep h.next h h2 := k1.trans (k2.less k1.next)
  have sm := ownC o2
  obtain ⟨xm, cm, evm⟩ := sm.val
  simp (disch := omega) [li, e2]
  refine W_loop (BoI va vb vm sa sb m h2) m.length (by show _ < L; omega) ⟨0, .slice none 0 0, rfl, by omega, by simp, by simp, by simp, by simp, by simp, by simp, Own.nil _ _ _, Keep.refl _ _⟩ ?_
  rintro j T h' ⟨i, w, rfl, hi, t0, t1, t2, t7, t9, t8, ow, kk⟩
  have kk5 : Keep h.next h h' := kk2.trans (kk.less kk2.next)
  have bl := bothTo_len sa sb m i
  by_cases hlt : i + 1 < m.length
  · have hlt' : (i : Int) + 1 < m.length := by omega
    obtain ⟨mm, off, cap, em, hm, _, ld⟩ := sm.at (enc := encI) (es := 1) (fun e he => rfl) (by omega)
    rw [em] at t7
    have ldx : ∀ (H : AHeap), H.get mm = h2.get mm → aLoad none (.pointer (some ⟨mm, off + i, none⟩)) H = some (.int .i64 (m.getD i 0)) := fun H g => by
      have := ld H i 0 (.int .i64 m[i]) (by omega) g (by omega) rfl
      rw [List.getD_eq_getElem?_getD, List.getElem?_eq_getElem (by omega : i < m.length)]
      simpa using this
    have ldy : ∀ (H : AHeap), H.get mm = h2.get mm → aLoad none (.pointer (some ⟨mm, off + (i + 1), none⟩)) H = some (.int .i64 (m.getD (i + 1) 0)) := fun H g => by
      have := ld H (i + 1) 0 (.int .i64 m[i + 1]) (by omega) g (by omega) rfl
      rw [List.getD_eq_getElem?_getD, List.getElem?_eq_getElem (by omega : i + 1 < m.length)]
      simpa using this
    have d0 := ldx h' (kk.get mm hm)
    have d0s := ldx (h'.skip 1) (kk.get mm hm)
    have d1 := ldy h' (kk.get mm hm)
    have d1s := ldy (h'.skip 1) (kk.get mm hm)
    have f1 := has_spec L (d + 1) va sa (m.getD i 0) h' (ExS.keep ha kk5 (Nat.le_refl _)) (by omega) hL
    have f2 := has_spec L (d + 1) vb sb (m.getD i 0) h' (ExS.keep hb kk5 (Nat.le_refl _)) (by omega) hL
    have bs : bothTo sa sb m (i + 1) = bothTo sa sb m i ++ bothP sa sb m i := rfl
    have step : ∀ (T6 : Tr Value) (h6 : AHeap) (w6 : Value), T6.get 0 = some va → T6.get 1 = some vb → T6.get 2 = some (.int .i64 0) → T6.get 7 = some (.slice (some ⟨mm, off, none⟩) m.length cap) → T6.get 9 = some (.int .i64 (i + 1)) → T6.get 8 = some w6 → Own h2.next h6 2 w6 (bothTo sa sb m i ++ bothP sa sb m i).length (encL (bothTo sa sb m i ++ bothP sa sb m i)) → Keep h2.next h2 h6 → ∃ j', j' < m.length - i ∧ BoI va vb vm sa sb m h2 j' T6 h6 := fun T6 h6 w6 a0 a1 a2 a7 a9 a8 o6 k6 =>
      ⟨m.length - (i + 1), by omega, i + 1, w6, rfl, by omega, a0, a1, a2, by rw [a7, em], by rw [a9]; simp, a8, by rw [bs]; exact o6, k6⟩
    unfold bothP at step
    generalize m.getD i 0 = z0 at d0 d0s f1 f2 step
    generalize m.getD (i + 1) 0 = z1 at d1 d1s step
    by_cases c1 : hasB sa z0 = true
    · by_cases c2 : hasB sb z0 = true
      · rw [if_pos ⟨c1, c2⟩] at step
        rw [c1] at f1
        rw [c2] at f2
        have hd := (kk5.wf hw) h'.next (Nat.le_refl _)
        have k8 : Keep h'.next h' ((h'.skip 1).set h'.next (.row false 0 (.vals [.int .i64 z0, .int .i64 z1]))) := ((Keep.refl _ _).skip 1).set (Nat.le_refl _) (by rw [AHeap.next_skip]; omega) _
        have g8 : ((h'.skip 1).set h'.next (.row false 0 (.vals [.int .i64 z0, .int .i64 z1]))).get h'.next = .row false 0 (.vals [.int .i64 z0, .int .i64 z1]) := by rw [AHeap.get_set, if_pos rfl]
        obtain ⟨w9, h9, e9, o9, k9⟩ := push_one (k := EK2) (ow.keep k8 (Nat.le_refl _)) g8 rfl (by decide) (by have := kk.next; have := k8.next; omega) (by show (_ + 1) * 16 ≤ _; omega) (by omega)
        have kk9 : Keep h2.next h2 h9 := kk.trans ((k8.less kk.next).trans k9)
        simp (disch := omega) [t0, t1, t2, t7, t9, t8, hlt', aIndexSl_ok, d0, d0s, d1, d1s, f1, f2, undef, b2E, lit2E, hd, AObj.live, AHeap.get_skip, e9, skip0', wrapF_i64]
        exact step _ _ w9 (by simp [t0]) (by simp [t1]) (by simp [t2]) (by simp [t7]) (by simp) (by simp) (by simpa [encL_app, encL] using o9) kk9
      · rw [if_neg (fun a => c2 a.2), List.append_nil] at step
        rw [Bool.not_eq_true] at c2
        rw [c1] at f1
        rw [c2] at f2
        simp (disch := omega) [t0, t1, t2, t7, t9, t8, hlt', aIndexSl_ok, d0, f1, f2, wrapF_i64, undef]
        trace_state
        exact step _ _ w (by simp [t0]) (by simp [t1]) (by simp [t2]) (by simp [t7]) (by simp) (by simp [t8]) ow kk
    · rw [if_neg (fun a => c1 a.1), List.append_nil] at step
      rw [Bool.not_eq_true] at c1
      rw [c1] at f1
      cases c2 : hasB sb z0 with
      | true =>
        rw [c2] at f2
        simp (disch := omega) [t0, t1, t2, t7, t9, t8, hlt', aIndexSl_ok, d0, f1, f2, wrapF_i64, undef]
        exact step _ _ w (by simp [t0]) (by simp [t1]) (by simp [t2]) (by simp [t7]) (by simp) (by simp [t8]) ow kk
      | false =>
        rw [c2] at f2
        simp (disch := omega) [t0, t1, t2, t7, t9, t8, hlt', aIndexSl_ok, d0, f1, f2, wrapF_i64, undef]
        exact step _ _ w (by simp [t0]) (by simp [t1]) (by simp [t2]) (by simp [t7]) (by simp) (by simp [t8]) ow kk
  · obtain ⟨r, h6, e6, o6, k6⟩ := joined_spec L (d + 1) w _ h' (ownEx ow) (by omega) hL
    rw [evm] at t7
    have nlt : ¬ ((i : Int) + 1 < m.length) := by omega
    simp (disch := omega) [t0, t1, t2, t7, t9, t8, nlt, wrapF_i64, e6]
    refine ⟨⟨joinL (bothTo sa sb m i), ownM o6 (kk5.next), ?_⟩, kk5.trans (k6.less kk5.next)⟩
    rw [joinL_pos, bothTo_pos]
    unfold Cmn
    constructor
    · rintro ⟨k, hk, q1, q2⟩
      by_cases hkm : k + 1 < m.length
      · rw [List.getD_eq_getElem?_getD, List.getElem?_eq_getElem (by omega)] at q1 q2
        exact ⟨k, hkm, q1, q2⟩
      · omega
    · rintro ⟨k, hk, q1, q2⟩
      refine ⟨k, by omega, ?_⟩
      rw [List.getD_eq_getElem?_getD, List.getElem?_eq_getElem (by omega)]
      exact ⟨q1, q2⟩
end
end Go.Proofs.Ytoehafeeoggpkaa.L24

set_option linter.unusedVariables false
set_option linter.unusedSimpArgs false
set_option linter.unnecessarySimpa false
/-! The document's Apart: it says what the program's says. -/
namespace Go.Proofs.Ytoehafeeoggpkaa.L24
open Go Go.Proofs Go.Shelf Go.RowKit Go.Lib Go.Sort Go.AM Go.Proofs.Ytoehafeeoggpkaa.AMC
set_option maxRecDepth 10000
noncomputable section
theorem cmn_iff {x y : Int × Int} (hx : x.1 < x.2) (hy : y.1 < y.2) : Cmn [x] [y] (marksF [[x], [y]]) ↔ ¬ Dis x y := by
  rw [← both_iff hx hy, marksF_two]
  unfold Cmn hasB
  simp only [List.any_cons, List.any_nil, Bool.or_false]
def gE (s : List (Int × Int)) (i : Nat) : Int × Int := s.getD i (0, 0)
theorem gE_eq {s : List (Int × Int)} {i : Nat} (h : i < s.length) : s[i] = gE s i := by
  unfold gE; rw [List.getD_eq_getElem?_getD, List.getElem?_eq_getElem h]; rfl
theorem pair_iff {s : List (Int × Int)} : s.Pairwise Dis ↔ ∀ a b, a < b → b < s.length → Dis (gE s a) (gE s b) := by
  rw [List.pairwise_iff_getElem]
  constructor
  · intro h a b hab hb
    have := h a b (by omega) hb hab
    rwa [gE_eq, gE_eq] at this
  · intro h a b ha hb hab
    rw [gE_eq, gE_eq]
    exact h a b hab hb
def AoI (v : Value) (s : List (Int × Int)) (h : AHeap) (j : Nat) (T : Tr Value) (h' : AHeap) : Prop :=
  ∃ i : Nat, j = s.length - i ∧ i ≤ s.length ∧ T.get 0 = some v ∧ T.get 3 = some (.int .i64 i) ∧ (∀ a b, a < b → b < i → Dis (gE s a) (gE s b)) ∧ Keep h.next h h'
def AiI (v : Value) (s : List (Int × Int)) (i : Nat) (h : AHeap) (j : Nat) (T : Tr Value) (h' : AHeap) : Prop :=
  ∃ k : Nat, j = i - k ∧ k ≤ i ∧ T.get 0 = some v ∧ T.get 3 = some (.int .i64 i) ∧ T.get 4 = some (.int .i64 k) ∧ (∀ a, a < k → Dis (gE s a) (gE s i)) ∧ Keep h.next h h'
set_option maxHeartbeats 4000000 in
theorem apartD_spec (L d : Nat) (v : Value) (s : List (Int × Int)) (h : AHeap) (hw : Wf h) (hv : ExS h v s) (hm : Sml s) (hl : s.length < 100000) (hL : 1000000000 < L) :
    ∃ r h', (En L (d + 4)).go 46 [v] h = some (r, h') ∧ r = .bool (apartB s) ∧ Keep h.next h h' := by
  refine go_ex (R := fun r h' => r = .bool (apartB s) ∧ Keep h.next h h') (show tabF 46 = some (.code a46) by rfl) rfl ?_
  unfold a46
  have key := apartB_iff s hm (by omega)
  rw [pair_iff] at key
  obtain ⟨x, c, ev⟩ := hv.val
  simp
  refine W_loop (AoI v s h) s.length (by show _ < L; omega) ⟨0, rfl, by omega, by simp, by simp, by omega, Keep.refl _ _⟩ ?_
  rintro j T h' ⟨i, rfl, hi, t0, t3, hp, kk⟩
  by_cases hlt : i < s.length
  · have hlt' : (i : Int) < s.length := by omega
    have step : ∀ (T6 : Tr Value) (h6 : AHeap), T6.get 0 = some v → T6.get 3 = some (.int .i64 (i + 1)) → (∀ a, a < i → Dis (gE s a) (gE s i)) → Keep h.next h h6 → ∃ j', j' < s.length - i ∧ AoI v s h j' T6 h6 := fun T6 h6 a0 a3 ad k6 =>
      ⟨s.length - (i + 1), by omega, i + 1, rfl, by omega, a0, by rw [a3]; simp, fun a b hab hb => by
        by_cases e : b = i
        · rw [e]; exact ad a (by omega)
        · exact hp a b hab (by omega), k6⟩
    have t0' := t0
    rw [ev] at t0'
    simp (disch := omega) [t0', t3, hlt']
    refine W_loop (AiI v s i h) i (by show _ < L; omega) ⟨0, rfl, by omega, by simp [t0', ev], by simp [t3], by simp, by omega, kk⟩ ?_
    rintro j T h' ⟨k, rfl, hk, t0, t3, t4, hq, kk⟩
    by_cases hlt2 : k < i
    · have hlt2' : (k : Int) < i := by omega
      have hks : (k : Int) < s.length := by omega
      obtain ⟨m, off, cap, em, hmn, x0, _, _⟩ := hv.at (by omega)
      rw [em] at t0
      have y1 := x0 (h'.skip 2) i hlt (kk.get m hmn)
      have y2 := x0 (h'.skip 2) k (by omega) (kk.get m hmn)
      have z1 := hm _ (List.getElem_mem hlt)
      have z2 := hm _ (List.getElem_mem (l := s) (n := k) (by omega))
      have step2 : ∀ (T6 : Tr Value) (h6 : AHeap), T6.get 0 = some (.slice (some ⟨m, off, none⟩) s.length cap) → T6.get 3 = some (.int .i64 i) → T6.get 4 = some (.int .i64 (k + 1)) → Dis s[k] s[i] → Keep h.next h h6 → ∃ j', j' < i - k ∧ AiI v s i h j' T6 h6 := fun T6 h6 a0 a3 a4 ad k6 =>
        ⟨i - (k + 1), by omega, k + 1, rfl, by omega, by rw [a0, em], a3, by rw [a4]; simp, fun a ha => by
          by_cases e : a = k
          · rw [e, ← gE_eq (show k < s.length by omega), ← gE_eq hlt]; exact ad
          · exact hq a (by omega), k6⟩
      have bad : ¬ Dis s[k] s[i] → apartB s = false := fun nd => by
        rw [← Bool.not_eq_true, key]
        intro a
        have := a k i hlt2 hlt
        rw [← gE_eq (show k < s.length by omega), ← gE_eq hlt] at this
        exact nd this
      generalize s[i] = a at y1 z1 step2 bad
      generalize s[k] = b at y2 z2 step2 bad
      have hd0 := (kk.wf hw) h'.next (Nat.le_refl _)
      have hd1 := (kk.wf hw) (h'.next + 1) (by omega)
      obtain ⟨H, hH⟩ : ∃ H, ((h'.skip 2).set h'.next (.row false 0 (.vals [.int .i64 a.1, .int .i64 a.2]))).set (h'.next + 1) (.row false 0 (.vals [.int .i64 b.1, .int .i64 b.2])) = H := ⟨_, rfl⟩
      have kH : Keep h'.next h' H := by
        rw [← hH]
        exact (((Keep.refl _ _).skip 2).set (Nat.le_refl _) (by rw [AHeap.next_skip]; omega) _).set (by omega) (by rw [AHeap.next_set, AHeap.next_skip]; omega) _
      have nH : H.next = h'.next + 2 := by rw [← hH, AHeap.next_set, AHeap.next_set, AHeap.next_skip]
      have gA : H.get h'.next = .row false 0 (.vals [.int .i64 a.1, .int .i64 a.2]) := by rw [← hH, AHeap.get_set, if_neg (by omega), AHeap.get_set, if_pos rfl]
      have gB : H.get (h'.next + 1) = .row false 0 (.vals [.int .i64 b.1, .int .i64 b.2]) := by rw [← hH, AHeap.get_set, if_pos rfl]
      have sA : ExS H (.slice (some ⟨h'.next, 0, none⟩) 1 1) [a] := ⟨rfl, .inr ⟨h'.next, 0, 1, false, 0, _, rfl, Nat.le_refl _, by omega, gA, .inl rfl, by show 0 + 1 * 2 ≤ 2; omega, rfl⟩⟩
      have sB : ExS H (.slice (some ⟨h'.next + 1, 0, none⟩) 1 1) [b] := ⟨rfl, .inr ⟨h'.next + 1, 0, 1, false, 0, _, rfl, Nat.le_refl _, by omega, gB, .inl rfl, by show 0 + 1 * 2 ≤ 2; omega, rfl⟩⟩
      obtain ⟨r, h6, e6, ⟨q, oq, hqq⟩, k6⟩ := both_spec L d _ _ [a] [b] H ((kk.trans (kH.less kk.next)).wf hw) sA sB 1 (by simp) (by simp) (by omega) hL
      rw [cmn_iff z1.1 z2.1] at hqq
      obtain ⟨xq, cq, rfl⟩ := ownSl oq
      have kk6 : Keep h.next h h6 := kk.trans ((kH.trans (k6.less kH.next)).less kk.next)
      by_cases hc : Dis a b
      · have hq0 : ¬ (0 < q.length) := fun a => hqq.1 a hc
        simp (disch := omega) [t0, t3, t4, hlt', hlt2', hks, aIndexSl_ok, y1, y2, lit2E, hd0, hd1, AObj.live, AHeap.get_skip, AHeap.get_set, hH, e6, hq0, skip0', wrapF_i64]
        exact step2 _ _ (by simp [t0]) (by simp [t3]) (by simp) hc.symm kk6
      · have hq0 : 0 < q.length := hqq.2 hc
        simp (disch := omega) [t0, t3, t4, hlt', hlt2', hks, aIndexSl_ok, y1, y2, lit2E, hd0, hd1, AObj.live, AHeap.get_skip, AHeap.get_set, hH, e6, hq0, skip0', wrapF_i64]
        exact ⟨(bad fun x => hc x.symm), kk6⟩
    · have hke : k = i := by omega
      subst hke
      simp (disch := omega) [t0, t3, t4, hlt', wrapF_i64]
      exact step _ _ (by simp [t0]) (by simp) hq kk
  · have hie : i = s.length := by omega
    subst hie
    rw [ev] at t0
    simp (disch := omega) [t0, t3]
    exact ⟨key.2 hp, kk⟩
theorem rowsD_spec (L d n : Nat) (h : AHeap) (hn : n < 1000000) : (En L (d + 1)).go 44 [.int .i64 n] h = some (.int .i64 (rowsN n), h) := by
  refine go_of (show tabF 44 = some (.code a44) by rfl) rfl ?_
  unfold a44
  have e1 : ((n : Int) * 128).tdiv 512 = (n : Int) * 128 / 512 := Int.tdiv_eq_ediv_of_nonneg (by omega)
  have e2 : ((n : Int) * 128).tmod 512 = (n : Int) * 128 % 512 := Int.tmod_eq_emod_of_nonneg (by omega)
  by_cases c : (n : Int) * 128 % 512 = 0
  · simp (disch := omega) [wrapF_i64, e1, e2, c]
    unfold rowsN; first | omega | (congr 1; omega)
  · simp (disch := omega) [wrapF_i64, e1, e2, c]
    unfold rowsN; first | omega | (congr 1; omega)
end
end Go.Proofs.Ytoehafeeoggpkaa.L24

set_option linter.unusedVariables false
set_option linter.unusedSimpArgs false
set_option linter.unnecessarySimpa false
/-! The document's Check, with its value. -/
namespace Go.Proofs.Ytoehafeeoggpkaa.L24
open Go Go.Proofs Go.Shelf Go.RowKit Go.Lib Go.Sort Go.AM Go.Proofs.Ytoehafeeoggpkaa.AMC
set_option maxRecDepth 10000
noncomputable section
def CdI (t : Tb) (m : Nat) (l : List Ent) (hs : AHeap) (j : Nat) (T : Tr Value) (h' : AHeap) : Prop :=
  ∃ (i : Nat) (w : Value) (q : List (Int × Int)), j = l.length - i ∧ i ≤ l.length ∧ chkV t l = chkE t (l.drop i) q ∧ q.length ≤ i ∧ Sml q ∧ T.get 1 = some (.pointer (some ⟨m, 0, none⟩)) ∧ T.get 5 = some (.int .i64 i) ∧ T.get 4 = some w ∧ Own hs.next h' 2 w q.length (encL q) ∧ Keep hs.next hs h'
theorem Sml.snoc {q : List (Int × Int)} (h : Sml q) {x : Int × Int} (hx : x.1 < x.2 ∧ 0 ≤ x.1 ∧ x.2 ≤ 1099511627776) : Sml (q ++ [x]) := by
  intro y hy
  rcases List.mem_append.1 hy with hy | hy
  · exact h y hy
  · rw [List.mem_singleton.1 hy]; exact hx
theorem new4 (h : AHeap) : aNew true [.slice none 0 0, .int .i64 0, .int .i64 0, .slice none 0 0] h = some (.pointer (some ⟨h.next, 0, none⟩), h.new (.row false 0 (.vals [.slice none 0 0, .int .i64 0, .int .i64 0, .slice none 0 0]))) := rfl
set_option maxHeartbeats 8000000 in
theorem checkD_spec (L d : Nat) (t : Tb) (l : List Ent) (hl : ∀ e ∈ l, e.Ok) (vi vl : Value) (rl : List REnt) (hvi : ∃ x n c, vi = .slice x n c) (h : AHeap) (hw : Wf h) (hs : SlC rEnc 4 h vl rl) (hr : RL h rl l) (hn : l.length < 100000) (hL : 1000000000 < L) :
    ∃ r h', (En L (d + 5)).go 18 [.agg (r7 t.s t.a t.b vi vl t.at_ t.be).toArray] h = some (r, h') ∧ r = .int .i64 (chkV t l) ∧ Keep h.next h h' := by
  refine go_ex (R := fun r h' => r = .int .i64 (chkV t l) ∧ Keep h.next h h') (show tabF 18 = some (.code a18) by rfl) rfl ?_
  unfold a18
  obtain ⟨xi, ni, ci, rfl⟩ := hvi
  obtain ⟨h1, e1, g1, k1, n1⟩ := r7_box (s := t.s) (a := t.a) (b := t.b) (vi := .slice xi ni ci) (vl := vl) (at_ := t.at_) (be := t.be) rfl (slC_one hs) h
  obtain ⟨x, c, ev⟩ := hs.val
  rw [hr.1] at ev
  have hs1 := hs.keep k1 (Nat.le_refl _)
  have hr1 := hr.keep k1 (Nat.le_refl _)
  have rw_ := rowsD_spec L (d + 3) l.length h1 (by omega)
  have hR : 0 ≤ rowsN l.length ∧ rowsN l.length ≤ 1000000000 := by unfold rowsN; omega
  have hcv := chkV_def t l
  generalize rowsN l.length = R at rw_ hR hcv
  generalize hV : chkV t l = V at hcv ⊢
  have l0 : aLoad none (.pointer (some ⟨h.next, 0, none⟩)) h1 = some (.int .i64 t.s) := ld_cell g1 rfl
  have l1 : aLoad none (.pointer (some ⟨h.next, 1, none⟩)) h1 = some (.int .i64 t.a) := ld_cell g1 rfl
  have l2 : aLoad none (.pointer (some ⟨h.next, 2, none⟩)) h1 = some (.int .i64 t.b) := ld_cell g1 rfl
  have l4 : aLoad none (.pointer (some ⟨h.next, 4, none⟩)) h1 = some vl := ld_cell g1 rfl
  have l5 : aLoad none (.pointer (some ⟨h.next, 5, none⟩)) h1 = some (.int .i64 t.at_) := ld_cell g1 rfl
  have l6 : aLoad none (.pointer (some ⟨h.next, 6, none⟩)) h1 = some (.int .i64 t.be) := ld_cell g1 rfl
  rw [ev] at l4
  by_cases c1 : t.s < 6
  · simp (disch := omega) [e1, l0, l1, l2, l4, l5, l6, rw_, c1, wrapF_i64, skip0']
    exact ⟨by rw [hcv, if_pos (by omega)], k1⟩
  by_cases c2 : 32768 < t.s
  · simp (disch := omega) [e1, l0, l1, l2, l4, l5, l6, rw_, c1, c2, wrapF_i64, skip0']
    exact ⟨by rw [hcv, if_pos (by omega)], k1⟩
  by_cases c3 : (l.length : Int) < 1
  · simp (disch := omega) [e1, l0, l1, l2, l4, l5, l6, rw_, c1, c2, c3, wrapF_i64, skip0']
    exact ⟨by rw [hcv, if_pos (by omega)], k1⟩
  by_cases c4 : 128 < (l.length : Int)
  · simp (disch := omega) [e1, l0, l1, l2, l4, l5, l6, rw_, c1, c2, c3, c4, wrapF_i64, skip0']
    exact ⟨by rw [hcv, if_pos (by omega)], k1⟩
  by_cases c5 : t.at_ < 2
  · simp (disch := omega) [e1, l0, l1, l2, l4, l5, l6, rw_, c1, c2, c3, c4, c5, wrapF_i64, skip0']
    exact ⟨by rw [hcv, if_neg (by omega), if_pos (by omega)], k1⟩
  by_cases c6 : t.s - 1 - R < t.at_
  · simp (disch := omega) [e1, l0, l1, l2, l4, l5, l6, rw_, c1, c2, c3, c4, c5, c6, wrapF_i64, skip0']
    exact ⟨by rw [hcv, if_neg (by omega), if_pos (by omega)], k1⟩
  by_cases c7 : t.a < t.at_ + R
  · simp (disch := omega) [e1, l0, l1, l2, l4, l5, l6, rw_, c1, c2, c3, c4, c5, c6, c7, wrapF_i64, skip0']
    exact ⟨by rw [hcv, if_neg (by omega), if_pos (by omega)], k1⟩
  by_cases c8 : t.s - 1 < t.a
  · simp (disch := omega) [e1, l0, l1, l2, l4, l5, l6, rw_, c1, c2, c3, c4, c5, c6, c7, c8, wrapF_i64, skip0']
    exact ⟨by rw [hcv, if_neg (by omega), if_pos (by omega)], k1⟩
  by_cases c9 : t.b < t.a - 1
  · simp (disch := omega) [e1, l0, l1, l2, l4, l5, l6, rw_, c1, c2, c3, c4, c5, c6, c7, c8, c9, wrapF_i64, skip0']
    exact ⟨by rw [hcv, if_neg (by omega), if_pos (by omega)], k1⟩
  by_cases c10 : t.be ≤ t.b
  · simp (disch := omega) [e1, l0, l1, l2, l4, l5, l6, rw_, c1, c2, c3, c4, c5, c6, c7, c8, c9, c10, wrapF_i64, skip0']
    exact ⟨by rw [hcv, if_neg (by omega), if_pos (by omega)], k1⟩
  by_cases c11 : t.s - 1 - R < t.be
  · simp (disch := omega) [e1, l0, l1, l2, l4, l5, l6, rw_, c1, c2, c3, c4, c5, c6, c7, c8, c9, c10, c11, wrapF_i64, skip0']
    exact ⟨by rw [hcv, if_neg (by omega), if_pos (by omega)], k1⟩
  rw [if_neg (by omega), if_neg (by omega)] at hcv
  simp (disch := omega) [e1, l0, l1, l2, l4, l5, l6, rw_, c1, c2, c3, c4, c5, c6, c7, c8, c9, c10, c11, wrapF_i64, skip0']
  refine W_loop (CdI t h.next l h1) l.length (by show _ < L; omega) ⟨0, .slice none 0 0, [], rfl, by omega, by rw [hV, hcv]; rfl, by simp, (by intro y hy; cases hy), by simp, by simp, by simp, Own.nil _ _ _, Keep.refl _ _⟩ ?_
  rintro j T h' ⟨i, w, q, rfl, hi, hcq, hq, hsm, t1, t5, t4, ow, kk⟩
  rw [hV] at hcq
  have kk5 : Keep h.next h h' := k1.trans (kk.less k1.next)
  have g5 := (kk.get h.next (by omega)).trans g1
  have m4 : aLoad none (.pointer (some ⟨h.next, 4, none⟩)) h' = some vl := ld_cell g5 rfl
  by_cases hlt : i < l.length
  · rw [List.drop_eq_getElem_cons hlt] at hcq
    have hlt' : (i : Int) < l.length := by omega
    have hlr : i < rl.length := by rw [hr.1]; exact hlt
    have oe : (l[i]).Ok := hl _ (List.getElem_mem hlt)
    obtain ⟨m, off, cap, em, hm, ld, _⟩ := (hs1.keep kk (Nat.le_refl _)).at (enc := rEnc) (es := 4) (fun e he => rfl) (by omega)
    obtain ⟨ra, rb, rs, rr⟩ := (hr1.keep kk (Nat.le_refl _)).2 i hlr hlt
    have lx := ld h' i hlr rfl
    rw [hr.1] at em
    have em1 := em
    rw [em] at m4
    generalize l[i] = e at oe ra rb rs rr hcq
    generalize rl[i] = p at ra rb rs rr lx
    obtain ⟨va, pa, pb, vr⟩ := p
    simp only at ra rb rs rr
    subst ra rb
    obtain ⟨xa, ca, eva⟩ := rs.val
    obtain ⟨xr, cr, evr⟩ := rr.val
    subst eva evr
    rw [oe.i] at lx
    rw [oe.r] at lx
    obtain ⟨h6, e6, g6, k6, n6⟩ := store_new h' [.slice none 0 0, .int .i64 0, .int .i64 0, .slice none 0 0] (rEnc (.slice xa 32 ca, e.a, e.b, .slice xr 80 cr)).toArray 4 rfl rfl rfl
    have n4 := new4 h'
    have f0 : aLoad none (.pointer (some ⟨h'.next, 0, none⟩)) h6 = some (.slice xa 32 ca) := ld_cell g6 rfl
    have f1 : aLoad none (.pointer (some ⟨h'.next, 1, none⟩)) h6 = some (.int .i64 e.a) := ld_cell g6 rfl
    have f2 : aLoad none (.pointer (some ⟨h'.next, 2, none⟩)) h6 = some (.int .i64 e.b) := ld_cell g6 rfl
    have f3 : aLoad none (.pointer (some ⟨h'.next, 3, none⟩)) h6 = some (.slice xr 80 cr) := ld_cell g6 rfl
    have g7 := (k6.get h.next (by have := kk5.next; have := kk.next; omega)).trans g5
    have q1 : aLoad none (.pointer (some ⟨h.next, 1, none⟩)) h6 = some (.int .i64 t.a) := ld_cell g7 rfl
    have q2 : aLoad none (.pointer (some ⟨h.next, 2, none⟩)) h6 = some (.int .i64 t.b) := ld_cell g7 rfl
    have rs6 := rs.keep k6 (Nat.le_refl _)
    have rr6 := rr.keep k6 (Nat.le_refl _)
    rw [oe.i] at rs6
    rw [oe.r] at rr6
    obtain ⟨v1, c1_, s1⟩ := cutB rs6 (lo := none) (hi := some (.int .i64 ((16 : Nat) : Int))) 0 16 (.inl ⟨rfl, rfl⟩) (.inr ⟨_, rfl⟩) (by omega) (by rw [oe.i]; omega)
    have s1' : SlB h6 v1 (e.ids.take 16) := by simpa using s1
    have c1' : aCut (.sl 1) (.slice xa 32 ca) none (some (.int .i64 16)) none h6 = some v1 := c1_
    have z1 := isZero_spec L (d + 3) v1 (e.ids.take 16) h6 s1' (by simp; omega) hL
    have z2 := isZero_spec L (d + 3) _ e.ids h6 rs6 (by rw [oe.i]; omega) hL
    have z3 := isZero_spec L (d + 3) _ e.rest h6 rr6 (by rw [oe.r]; omega) hL
    have kk7 : Keep h1.next h1 h6 := kk.trans (k6.less kk.next)
    have kkh : Keep h.next h h6 := k1.trans (kk7.less k1.next)
    have ow7 : Own h1.next h6 2 w q.length (encL q) := ow.keep k6 (Nat.le_refl _)
    unfold chkE at hcq
    have step : ∀ (T6 : Tr Value) (h6 : AHeap) (w6 : Value) (q6 : List (Int × Int)), V = chkE t (l.drop (i + 1)) q6 → q6.length ≤ i + 1 → Sml q6 → T6.get 1 = some (.pointer (some ⟨h.next, 0, none⟩)) → T6.get 5 = some (.int .i64 (i + 1)) → T6.get 4 = some w6 → Own h1.next h6 2 w6 q6.length (encL q6) → Keep h1.next h1 h6 → ∃ j', j' < l.length - i ∧ CdI t h.next l h1 j' T6 h6 := fun T6 h6 w6 q6 av a0 asm a1 a5 a4 o6 k6 =>
      ⟨l.length - (i + 1), by omega, i + 1, w6, q6, rfl, by omega, hV.trans av, a0, asm, a1, by rw [a5]; simp, a4, o6, k6⟩
    by_cases hz : zeroB (e.ids.take 16) = true
    · rw [if_pos hz] at hcq
      rw [hz] at z1
      unfold isZ at hcq
      cases y2 : zeroB e.ids with
      | false =>
        rw [y2] at z2 hcq
        simp (disch := omega) [t1, t5, t4, m4, hlt', aIndexSl_ok, lx, n4, e6, f0, f1, f2, f3, c1', z1, z2, z3, q1, q2, undef, y2, wrapF_i64 (n := (i : Int) + 1) (by omega) (by omega)]
        exact ⟨by simpa [y2] using hcq.symm, kkh⟩
      | true =>
        rw [y2] at z2 hcq
        by_cases y3 : e.a = 0
        · rw [y3] at f1
          by_cases y4 : e.b = 0
          · rw [y4] at f2
            cases y5 : zeroB e.rest with
            | false =>
              rw [y5] at z3 hcq
              simp (disch := omega) [t1, t5, t4, m4, hlt', aIndexSl_ok, lx, n4, e6, f0, f1, f2, f3, c1', z1, z2, z3, q1, q2, undef, y5, wrapF_i64 (n := (i : Int) + 1) (by omega) (by omega)]
              exact ⟨by simpa [y3, y4] using hcq.symm, kkh⟩
            | true =>
              rw [y5] at z3 hcq
              simp (disch := omega) [t1, t5, t4, m4, hlt', aIndexSl_ok, lx, n4, e6, f0, f1, f2, f3, c1', z1, z2, z3, q1, q2, undef, y5, wrapF_i64 (n := (i : Int) + 1) (by omega) (by omega)]
              exact step _ _ w q (by simpa [y3, y4] using hcq) (by omega) hsm (by simp [t1]) (by simp) (by simp [t4]) ow7 kk7
          · simp (disch := omega) [t1, t5, t4, m4, hlt', aIndexSl_ok, lx, n4, e6, f0, f1, f2, f3, c1', z1, z2, z3, q1, q2, undef, y4, wrapF_i64 (n := (i : Int) + 1) (by omega) (by omega)]
            exact ⟨by simpa [y3, y4] using hcq.symm, kkh⟩
        · simp (disch := omega) [t1, t5, t4, m4, hlt', aIndexSl_ok, lx, n4, e6, f0, f1, f2, f3, c1', z1, z2, z3, q1, q2, undef, y3, wrapF_i64 (n := (i : Int) + 1) (by omega) (by omega)]
          exact ⟨by simpa [y3] using hcq.symm, kkh⟩
    · rw [if_neg hz] at hcq
      rw [Bool.not_eq_true] at hz
      rw [hz] at z1
      by_cases d1 : e.a < t.a
      · simp (disch := omega) [t1, t5, t4, m4, hlt', aIndexSl_ok, lx, n4, e6, f0, f1, f2, f3, c1', z1, z2, z3, q1, q2, undef, d1, wrapF_i64 (n := (i : Int) + 1) (by omega) (by omega)]
        exact ⟨by rw [hcq, if_pos (by omega)], kkh⟩
      by_cases d2 : t.b < e.b
      · simp (disch := omega) [t1, t5, t4, m4, hlt', aIndexSl_ok, lx, n4, e6, f0, f1, f2, f3, c1', z1, z2, z3, q1, q2, undef, d1, d2, wrapF_i64 (n := (i : Int) + 1) (by omega) (by omega)]
        exact ⟨by rw [hcq, if_pos (by omega)], kkh⟩
      by_cases d3 : e.b < e.a
      · simp (disch := omega) [t1, t5, t4, m4, hlt', aIndexSl_ok, lx, n4, e6, f0, f1, f2, f3, c1', z1, z2, z3, q1, q2, undef, d1, d2, d3, wrapF_i64 (n := (i : Int) + 1) (by omega) (by omega)]
        exact ⟨by rw [hcq, if_pos (by omega)], kkh⟩
      rw [if_neg (by omega)] at hcq
      have hew : wrapF .i64 (e.b + 1) = e.b + 1 := wrapF_i64 (by omega) (by omega)
      obtain ⟨w9, h9, e9, o9, k9⟩ := pushX ow7 (by have := kk7.next; omega) (by omega) e.a (e.b + 1)
      simp (disch := omega) [t1, t5, t4, m4, hlt', aIndexSl_ok, lx, n4, e6, f0, f1, f2, f3, c1', z1, z2, z3, q1, q2, undef, d1, d2, d3, b2E, hew, lit2E, e9, wrapF_i64 (n := (i : Int) + 1) (by omega) (by omega)]
      exact step _ _ w9 _ hcq (by simp; omega) (hsm.snoc ⟨by simp only; omega, by simp only; omega, by simp only; omega⟩) (by simp [t1]) (by simp) (by simp) o9 (kk7.trans k9)
  · have hie : i = l.length := by omega
    subst hie
    rw [List.drop_length] at hcq
    unfold chkE at hcq
    rw [ev] at m4
    obtain ⟨r1, h6, e6, rfl, k6⟩ := apartD_spec L d w q h' (kk5.wf hw) (ownEx ow) hsm (by omega) hL
    obtain ⟨xw, cw, rfl⟩ := Own.val ow
    by_cases d1 : (32 : Int) < q.length
    · simp [t1, t5, t4, m4, d1]
      exact ⟨by rw [hcq, if_pos d1], kk5⟩
    · rw [if_neg d1] at hcq
      cases hb : apartB q with
      | true =>
        rw [hb] at e6 hcq
        simp [t1, t5, t4, m4, d1, e6]
        exact ⟨by rw [hcq]; rfl, kk5.trans (k6.less kk5.next)⟩
      | false =>
        rw [hb] at e6 hcq
        simp [t1, t5, t4, m4, d1, e6]
        exact ⟨by rw [hcq]; rfl, kk5.trans (k6.less kk5.next)⟩
end
end Go.Proofs.Ytoehafeeoggpkaa.L24

set_option linter.unusedVariables false
set_option linter.unusedSimpArgs false
set_option linter.unnecessarySimpa false
/-! GptChecks over the executor. -/
namespace Go.Proofs.Ytoehafeeoggpkaa.L24
open Go Go.Proofs Go.Shelf Go.RowKit Go.Lib Go.Sort Go.AM Go.Proofs.Ytoehafeeoggpkaa.AMC
set_option maxRecDepth 10000
noncomputable section
set_option maxHeartbeats 4000000 in
theorem law_checks (L d : Nat) (t : Tb) (o : t.Ok) (l : List Ent) (hl : ∀ e ∈ l, e.Ok) (h : AHeap) (hw : Wf h) (hs : SlZ h t.sl l) (hL : 1000000000 < L) :
    ∃ r h', (En L (d + 7)).go 5 [.agg t.cells.toArray] h = some (r, h') ∧ r = .bool true := by
  refine go_ex (R := fun r h' => r = .bool true) (show tabF 5 = some (.code a5) by rfl) rfl ?_
  unfold a5
  obtain ⟨h1, e1, g1, k1, n1⟩ := o.nbox h
  have l1 := o.lall g1
  obtain ⟨h2, e2, k2⟩ := light_spec L (d + 5) t o l.length h1 hs.val
  have kk2 := k1.trans (k2.less k1.next)
  have g2 := g1.keep k2 (by omega)
  have l2 := o.lall g2
  have hs2 := hs.keep kk2 (Nat.le_refl _)
  have g16 := go16 L (d + 5)
  have hbq := Tb.beq o (by obtain ⟨x, c, e⟩ := hs.val; exact ⟨_, _, _, e⟩)
  by_cases hlt : (l.length : Int) ≤ 140
  · obtain ⟨r3, h3, e3, rfl, k3⟩ := check_val L d t o l hl h2 hs2 (by omega) hL
    have kk3 := kk2.trans (k3.less kk2.next)
    have hh2 : h.next < h2.next := by have := k2.next; omega
    have g3 := g2.keep k3 hh2
    have l3 := o.lall g3
    have hs3 := hs.keep kk3 (Nat.le_refl _)
    obtain ⟨r, h4, e4, ⟨vi, vl, rl, rfl, hvi, sr, hr⟩, k4⟩ := of_spec L (d + 4) t o l hl h3 (kk3.wf hw) hs3 (by omega) hL
    have kk4 := kk3.trans (k4.less kk3.next)
    obtain ⟨r5, h5, e5, rfl, k5⟩ := checkD_spec L (d + 1) t l hl vi vl rl hvi h4 (kk4.wf hw) sr hr (by omega) hL
    simp (disch := omega) [e1, l1, e2, hlt, g16, l2, e3, l3, e4, e5, skip0', hbq]
  · simp (disch := omega) [e1, l1, e2, hlt, g16]
end
end Go.Proofs.Ytoehafeeoggpkaa.L24

set_option linter.unusedVariables false
set_option linter.unusedSimpArgs false
set_option linter.unnecessarySimpa false
/-! A table as an argument. -/
namespace Go.Proofs.Ytoehafeeoggpkaa.L24
open Go Go.AM Go.RowKit Go.ChangeShapes Go.WideShapes Go.Proofs.Ytoehafeeoggpkaa.AMC
noncomputable section
/-! ### opening -/
theorem open_bytes {H : Type} {enc : TypeId × Value → H} {P : Program} {w : World} {base fuel n : Nat} {spare : Nat → Bool} {held : Bool} {t e : TypeId} {cs : List Value} {x : DataW H × List MemPlace} (ht : P.underlying t = some (.array n e)) (he : P.underlying e = some (.int .u8)) (ce : P.cellsOf e = 1) (ct : P.cellsOf t = n)
    (h : DataW.trod enc P w base spare held fuel t cs = some x) : ∃ zs : List Int, zs.length = n ∧ cs = byV zs ∧ Byt zs := by
  obtain ⟨xs, m, _, _, hl, hx, hf⟩ := DataW.trod_array ht h
  rw [ct] at hl
  rw [ce] at hf
  have e0 : ∀ i, i < n → ∃ z : Int, cs[i]? = some (.int .u8 z) ∧ 0 ≤ z ∧ z < 256 := by
    intro i hi
    have h1 := hf i hi
    rw [Nat.mul_one, List.getElem?_eq_getElem (by omega)] at h1
    obtain ⟨z, hz, _, hw⟩ := DataW.trod_int he h1
    have hi2 : i < cs.length := by omega
    rw [List.drop_eq_getElem_cons hi2] at hz
    simp only [List.take_succ_cons, List.take_zero, List.cons.injEq, and_true] at hz
    simp [Lit.wf] at hw
    have m1 : IntKind.u8.min = 0 := by decide
    have m2 : IntKind.u8.max = 255 := by decide
    exact ⟨z, by rw [List.getElem?_eq_getElem hi2, hz], by omega, by omega⟩
  obtain ⟨f, hff⟩ := Go.Deep.choose_lt e0
  refine ⟨(List.range n).map f, by simp, ?_, ?_⟩
  · apply List.ext_getElem?
    intro i
    by_cases hi : i < n
    · rw [(hff i hi).1]; simp [byV, hi]
    · rw [List.getElem?_eq_none (by omega), List.getElem?_eq_none (by simp; omega)]
  · intro y hy
    obtain ⟨i, hi, rfl⟩ := List.mem_map.1 hy
    exact (hff i (List.mem_range.1 hi)).2
theorem one_of {cs : List Value} {i : Nat} {k : IntKind} {z : Int} (h : (cs.drop i).take 1 = [.int k z]) : cs[i]? = some (.int k z) := by
  have h1 : i < cs.length := by
    apply Classical.byContradiction
    intro hn
    rw [List.drop_of_length_le (by omega)] at h
    simp at h
  rw [List.drop_eq_getElem_cons h1] at h
  simp only [List.take_succ_cons, List.take_zero, List.cons.injEq, and_true] at h
  rw [List.getElem?_eq_getElem h1, h]
theorem split4 {α : Type} (cs : List α) (h : cs.length = 114) : cs = (cs.drop 0).take 32 ++ ((cs.drop 32).take 1 ++ ((cs.drop 33).take 1 ++ (cs.drop 34).take 80)) := by
  have e1 : cs = cs.take 32 ++ cs.drop 32 := (List.take_append_drop 32 cs).symm
  have e2 : cs.drop 32 = (cs.drop 32).take 1 ++ cs.drop 33 := by
    have := (List.take_append_drop 1 (cs.drop 32)).symm
    rwa [List.drop_drop] at this
  have e3 : cs.drop 33 = (cs.drop 33).take 1 ++ cs.drop 34 := by
    have := (List.take_append_drop 1 (cs.drop 33)).symm
    rwa [List.drop_drop] at this
  have e4 : (cs.drop 34).take 80 = cs.drop 34 := List.take_of_length_le (by rw [List.length_drop]; omega)
  rw [e4, ← e3, ← e2, List.drop_zero, ← e1]
theorem split7 {α : Type} (cs : List α) (h : cs.length = 22) : cs = (cs.drop 0).take 1 ++ ((cs.drop 1).take 1 ++ ((cs.drop 2).take 1 ++ ((cs.drop 3).take 16 ++ ((cs.drop 19).take 1 ++ ((cs.drop 20).take 1 ++ (cs.drop 21).take 1))))) := by
  have d : ∀ a b, cs.drop a = (cs.drop a).take b ++ cs.drop (a + b) := by
    intro a b
    have := (List.take_append_drop b (cs.drop a)).symm
    rwa [List.drop_drop] at this
  have e7 : (cs.drop 21).take 1 = cs.drop 21 := List.take_of_length_le (by rw [List.length_drop]; omega)
  rw [e7, ← d 20 1, ← d 19 1, ← d 3 16, ← d 2 1, ← d 1 1, ← d 0 1, List.drop_zero]
/-- An entry, in the machine's heap. -/
def EntC (w : World) (x : Addr) (i : Nat) : Prop := ∃ e : Ent, e.Ok ∧ ∀ j, j < 114 → w.cell? (x.add (i * 114 + j)) = e.cells[j]?
instance : Inhabited Ent := ⟨zeroE⟩
theorem flatC_get {α : Type} {enc : α → List Value} {es : Nat} {l : List α} (h : ∀ x ∈ l, (enc x).length = es) {k : Nat} {u : Value} (hk : (flatC enc l)[k]? = some u) : ∃ i j, ∃ hi : i < l.length, j < es ∧ k = i * es + j ∧ (enc l[i])[j]? = some u := by
  have hlen := flatC_len h
  have hk1 : k < l.length * es := by rw [← hlen]; exact (List.getElem?_eq_some_iff.1 hk).1
  have hes : 0 < es := by
    rcases Nat.eq_zero_or_pos es with h0 | h0
    · rw [h0, Nat.mul_zero] at hk1; omega
    · exact h0
  have hi : k / es < l.length := by rw [Nat.div_lt_iff_lt_mul hes]; exact hk1
  have hj : k % es < es := Nat.mod_lt _ hes
  have hke : k = k / es * es + k % es := by rw [Nat.mul_comm]; exact (Nat.div_add_mod k es).symm
  refine ⟨k / es, k % es, hi, hj, hke, ?_⟩
  have hd := flatC_drop h hi
  have : ((flatC enc l).drop (k / es * es))[k % es]? = some u := by rw [List.getElem?_drop, ← hke]; exact hk
  rw [hd, List.getElem?_append_left (by rw [h _ (List.getElem_mem hi)]; exact hj)] at this
  exact this
theorem Ent.isInt (e : Ent) : ∀ u ∈ e.cells, ∃ k z, u = .int k z := by
  intro u hu
  simp only [Ent.cells, byV, List.mem_append, List.mem_map, List.mem_cons] at hu
  rcases hu with ⟨z, _, rfl⟩ | rfl | rfl | ⟨z, _, rfl⟩ <;> exact ⟨_, _, rfl⟩
/-- A row of the machine, where a cell is read. -/
theorem row_of {w : World} {a : Addr} {v : Value} (h : w.cell? a = some v) : a.spot = none ∧ ∃ cs el fz, w.heap[a.block]? = some (.cells cs el fz) ∧ cs[a.off]? = some v := by
  unfold World.cell? at h
  split at h
  · rename_i c el fz hc
    split at h
    · cases h
    · rename_i hs; exact ⟨by simpa using hs, c, el, fz, hc, h⟩
  · cases h
section
variable {N0 : Nat} {w0 : World} {σ : Sig} {h : AHeap} {w : World}
theorem addsT {σ1 σ2 : Sig} {h1 h2 : AHeap} (a : Adds N0 w0 σ h w σ1 h1) (b : Adds N0 w0 σ1 h1 w σ2 h2) : Adds N0 w0 σ h w σ2 h2 :=
  ⟨b.inv, a.keep.trans (b.keep.less a.keep.next), fun m hm => by rw [b.sig m (Nat.lt_of_lt_of_le hm a.keep.next), a.sig m hm]⟩
/-- A number that is kept: nothing lies there. -/
theorem Inv.skip1 (hI : Inv N0 w0 σ h w) (p : Pl) : Inv N0 w0 (σ.put h.next p) (h.skip 1) w ∧ ∀ m, m < h.next → σ.put h.next p m = σ m := by
  have hs : ∀ m, m < h.next → σ.put h.next p m = σ m := fun m hm => Sig.put_ne _ _ (by omega)
  have hd : ∀ m, h.next ≤ m → h.get m = .dead := hI.fresh
  have dl : (AObj.dead).live = false := rfl
  have dow : (AObj.dead).own = false := rfl
  refine ⟨⟨hI.below, ?_, ?_, ?_, ?_, ?_, hI.base⟩, hs⟩
  · intro m hm
    rw [AHeap.next_skip] at hm
    rw [AHeap.get_skip]; exact hd m (by omega)
  · intro m
    rw [AHeap.next_skip, AHeap.get_skip]
    by_cases e : m = h.next
    · rw [hd m (by omega)]; trivial
    · rw [Sig.put_ne _ _ e]
      exact AObj.at_mono (hI.obj m) (by omega) hs rfl (fun _ => rfl)
  · intro m hm
    rw [AHeap.get_skip] at hm
    by_cases e : m = h.next
    · rw [hd m (by omega)] at hm; cases hm
    · rw [Sig.put_ne _ _ e]; exact hI.low m hm
  · intro m hm hm2
    rw [AHeap.get_skip] at hm hm2
    by_cases e : m = h.next
    · rw [hd m (by omega)] at hm; cases hm
    · rw [Sig.put_ne _ _ e]; exact hI.high m hm hm2
  · intro m m' hm hm' hne
    rw [AHeap.get_skip] at hm hm'
    by_cases e : m = h.next
    · rw [hd m (by omega)] at hm; cases hm
    · by_cases e' : m' = h.next
      · rw [hd m' (by omega)] at hm'; cases hm'
      · rw [Sig.put_ne _ _ e, Sig.put_ne _ _ e']; exact hI.inj m m' hm hm' hne
/-- A list of entries is added. -/
theorem addEnts (hI : Inv N0 w0 σ h w) (hN : N0 = w.heap.size) (a : Option Addr) (len cap : Nat) (hl : len ≤ cap) (hn : a = none → len = 0 ∧ cap = 0)
    (hp : ∀ x, a = some x → ∀ i, i < cap → EntC w x i) :
    ∃ σ' h' a' l, Adds N0 w0 σ h w σ' h' ∧ l.length = len ∧ (∀ e ∈ l, e.Ok) ∧ VR h'.next σ' (.slice a' len cap) (.slice a len cap) ∧ (len = 0 ∨ SlC Ent.cells 114 h' (.slice a' len cap) l) := by
  cases a with
  | none =>
    obtain ⟨rfl, rfl⟩ := hn rfl
    exact ⟨σ, h, none, [], Adds.refl hI, rfl, (by intro p hp; cases hp), .nils, .inl rfl⟩
  | some x =>
    by_cases hc0 : cap = 0
    · subst hc0
      have hl0 : len = 0 := by omega
      subst hl0
      obtain ⟨b, off, spot⟩ := x
      obtain ⟨i1, i2⟩ := Inv.skip1 hI ⟨b, 0, some (1, 0), true, none⟩
      have A2 : Adds N0 w0 σ h w (σ.put h.next ⟨b, 0, some (1, 0), true, none⟩) (h.skip 1) := ⟨i1, (Keep.refl _ _).skip 1, i2⟩
      refine ⟨_, _, some ⟨h.next, 0, none⟩, [], A2, rfl, (by intro p hp; cases hp), ?_, .inl rfl⟩
      have := VR.sle (sp := spot) (n := (h.skip 1).next) (σ := σ.put h.next ⟨b, 0, some (1, 0), true, none⟩) h.next 0 off 1 0 ⟨by rw [AHeap.next_skip]; omega, by rw [Sig.put_same]⟩ (by rw [Sig.put_same])
      rw [Sig.put_same] at this
      exact this
    · obtain ⟨f, hf⟩ := Go.Deep.choose_lt (n := cap) (fun i hi => hp x rfl i hi)
      obtain ⟨e0, he0⟩ := hf 0 (by omega)
      have hc00 := he0 0 (by omega)
      have h00 : 0 < (f 0).cells.length := by rw [e0.len]; omega
      rw [List.getElem?_eq_getElem h00] at hc00
      obtain ⟨hspot, cs, el, fz, hh, _⟩ := row_of hc00
      have hspot : x.spot = none := hspot
      have hh : w.heap[x.block]? = some (.cells cs el fz) := hh
      obtain ⟨b, off, spot⟩ := x
      simp only at hspot
      subst hspot
      have hh : w.heap[b]? = some (.cells cs el fz) := hh
      have hb : b < N0 := by rw [hN]; exact (Array.getElem?_eq_some_iff.1 hh).1
      have hlok : ∀ e ∈ (List.range len).map f, e.Ok := by
        intro e he
        obtain ⟨i, hi, rfl⟩ := List.mem_map.1 he
        exact (hf i (by have := List.mem_range.1 hi; omega)).1
      have hlen : ((List.range len).map f).length = len := by simp
      have hlc : ∀ e ∈ (List.range len).map f, e.cells.length = 114 := fun e he => (hlok e he).len
      have hrl := flatC_len hlc
      have cellAt : ∀ i u, (flatC Ent.cells ((List.range len).map f))[i]? = some u → ∃ v', cs[off + i]? = some v' ∧ VR h.next σ u v' ∧ v'.oneCell' = true := by
        intro k u e
        obtain ⟨i, j, hi, hj, rfl, hu⟩ := flatC_get hlc e
        rw [hlen] at hi
        simp only [List.getElem_map, List.getElem_range] at hu
        have hc := (hf i (by omega)).2 j hj
        rw [add_mk, cell_of hh, hu] at hc
        obtain ⟨k, z, rfl⟩ := Ent.isInt _ u (List.mem_of_getElem? hu)
        exact ⟨_, hc, .int _ _, rfl⟩
      have hsz : off + (flatC Ent.cells ((List.range len).map f)).length ≤ cs.size := by
        have hc := (hf (cap - 1) (by omega)).2 113 (by omega)
        have ok := (hf (cap - 1) (by omega)).1
        rw [add_mk, cell_of hh, List.getElem?_eq_getElem (by rw [ok.len]; omega)] at hc
        have := (Array.getElem?_eq_some_iff.1 hc).1
        rw [hrl, hlen]
        have : len * 114 ≤ cap * 114 := Nat.mul_le_mul_right _ hl
        have : (cap - 1) * 114 + 114 = cap * 114 := by rw [← Nat.succ_mul]; congr 1; omega
        omega
      obtain ⟨i1, i2⟩ := hI.addRo (base := off) hb hh (flatC Ent.cells ((List.range len).map f)) none cellAt hsz (by intro es ext e; cases e)
      have A2 : Adds N0 w0 σ h w _ _ := ⟨i1, (Keep.refl _ _).new (Nat.le_refl _) _, i2⟩
      have hv : VR (h.new (.row true (grOf none) (.vals (flatC Ent.cells ((List.range len).map f))))).next (σ.put h.next ⟨b, off, none, true, none⟩) (.slice (some ⟨h.next, 0, none⟩) len cap) (.slice (some ⟨b, off, none⟩) len cap) := by
        have := VR.sl (n := (h.new (.row true (grOf none) (.vals (flatC Ent.cells ((List.range len).map f))))).next) (σ := σ.put h.next ⟨b, off, none, true, none⟩) h.next 0 len cap ⟨by simp, by rw [Sig.put_same]⟩ (by rw [Sig.put_same])
        rw [Sig.put_same] at this
        exact this
      refine ⟨_, _, some ⟨h.next, 0, none⟩, (List.range len).map f, A2, hlen, hlok, hv, .inr ⟨hrl, .inr ⟨h.next, 0, cap, true, grOf none, _, by rw [hlen], by rw [hlen]; exact hl, by simp, by rw [AHeap.get_new, if_pos rfl], .inl rfl, ?_, ?_⟩⟩⟩
      · show 0 + _ ≤ (flatC Ent.cells ((List.range len).map f)).length
        rw [hrl]; omega
      · show ((flatC Ent.cells ((List.range len).map f)).drop 0).take _ = _
        rw [List.drop_zero, List.take_of_length_le (by rw [hrl]; omega)]
end
/-! ### a table -/
theorem Tb.Ok.cell_int {t : Tb} (hi16 : t.id.length = 16) {i : Nat} (hi : i ≠ 19) {v : Value} (h : t.cells[i]? = some v) (sl' : Value) : (∃ k z, v = .int k z) ∧ (⟨t.s, t.a, t.b, t.id, sl', t.at_, t.be⟩ : Tb).cells[i]? = some v := by
  unfold Tb.cells at h ⊢
  match i, hi with
  | 0, _ => exact ⟨⟨_, _, (Option.some.inj h).symm⟩, h⟩
  | 1, _ => exact ⟨⟨_, _, (Option.some.inj h).symm⟩, h⟩
  | 2, _ => exact ⟨⟨_, _, (Option.some.inj h).symm⟩, h⟩
  | j + 3, hj =>
    simp only [List.getElem?_cons_succ] at h ⊢
    by_cases hj2 : j < 16
    · have hb : j < (byV t.id).length := by rw [byV_length, hi16]; exact hj2
      rw [List.getElem?_append_left hb] at h ⊢
      refine ⟨?_, h⟩
      have := List.mem_of_getElem? h
      simp only [byV, List.mem_map] at this
      obtain ⟨z, _, rfl⟩ := this
      exact ⟨_, _, rfl⟩
    · rw [List.getElem?_append_right (by rw [byV_length, hi16]; omega), byV_length, hi16] at h ⊢
      obtain ⟨k, rfl⟩ : ∃ k, j = k + 16 := ⟨j - 16, by omega⟩
      rw [Nat.add_sub_cancel] at h ⊢
      match k, hj with
      | 0, hj => exact absurd rfl hj
      | 1, _ => exact ⟨⟨_, _, (Option.some.inj h).symm⟩, h⟩
      | 2, _ => exact ⟨⟨_, _, (Option.some.inj h).symm⟩, h⟩
      | k + 3, _ => simp at h
theorem tb_vr {n : Nat} {σ : Sig} {t : Tb} (hi16 : t.id.length = 16) {sl' : Value} (h : VR n σ t.sl sl') : VR n σ (.agg t.cells.toArray) (.agg (⟨t.s, t.a, t.b, t.id, sl', t.at_, t.be⟩ : Tb).cells.toArray) := by
  refine .agg _ _ (by simp [Tb.cells]) ?_
  intro i v v' h1 h2
  rw [List.getElem?_toArray] at h1 h2
  by_cases hi : i = 19
  · subst hi
    have e1 : t.cells[19]? = some t.sl := by
      simp only [Tb.cells, List.getElem?_cons_succ]; rw [List.getElem?_append_right (by simp [hi16])]; simp [hi16]
    have e2 : (⟨t.s, t.a, t.b, t.id, sl', t.at_, t.be⟩ : Tb).cells[19]? = some sl' := by
      simp only [Tb.cells, List.getElem?_cons_succ]; rw [List.getElem?_append_right (by simp [hi16])]; simp [hi16]
    rw [e1] at h1; rw [e2] at h2
    cases h1; cases h2
    exact h
  · obtain ⟨⟨k, z, rfl⟩, e⟩ := Tb.Ok.cell_int hi16 hi h1 sl'
    rw [e] at h2
    cases h2
    exact .int _ _
end
end Go.Proofs.Ytoehafeeoggpkaa.L24

