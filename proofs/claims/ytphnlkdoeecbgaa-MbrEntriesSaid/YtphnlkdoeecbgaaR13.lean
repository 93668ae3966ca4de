import Derived.Test.YtphnlkdoeecbgaaE13
set_option linter.unusedVariables false
set_option linter.unusedSimpArgs false
namespace Go.Proofs.Ytphnlkdoeecbgaa.L13
open Go Go.AM Go.Proofs.Ytphnlkdoeecbgaa.AMC
set_option maxRecDepth 10000
theorem rents (L d : Nat) (a : Option Addr) (cap : Nat) (l : List Int) (h : AHeap) (hw : Wf h) (hb : Byt l) (hrow : 0 < l.length → ∃ m off, a = some ⟨m, off, none⟩ ∧ m < h.next ∧ RowI h .u8 m off l) (hl : l.length < 4611686018427387904) :
    ∃ r h', (En (L + 10) (d + 4)).go 37 [.slice a l.length cap] h = some (r, h') ∧ ∃ v, r = .tuple #[v, .int .i64 (eErr l)] ∧ Keep h.next h h' ∧ (if eErr l = 0 then Own h.next h' 3 v 4 (eCells l 4) else v = .slice none 0 0) := by
  refine go_ex (show tabF 37 = some (.code a37) by rfl) rfl ?_
  unfold a37
  by_cases h1 : l.length = 512
  · obtain ⟨m, off, rfl, hm, hr⟩ := hrow (by omega)
    by_cases h2 : rdI l 510 = 85
    · by_cases h3 : rdI l 511 = 170
      · simp (disch := omega) [h1, h2, h3, aIndexSl_ok, hr.rd, hr.rdn]
        have bad : (∃ i, i < 4 ∧ ¬ eOk l i) → eErr l = 11 := by
          rintro ⟨i, hi, hn⟩
          simp only [eErr, h1, h2, h3]
          simp
          exact ⟨i, hi, hn⟩
        have good : (∀ i, i < 4 → eOk l i) → eErr l = 0 := by
          intro hg
          simp only [eErr, h1, h2, h3]
          simp
          exact hg
        refine W_loop (fun j T h' => ∃ i : Nat, j = 4 - i ∧ i ≤ 4 ∧ T.get 0 = some (.slice (some ⟨m, off, none⟩) 512 cap) ∧ T.get 5 = some (.int .i64 i) ∧ (∃ v, T.get 4 = some v ∧ Own h.next h' 3 v i (eCells l i)) ∧ Keep h.next h h' ∧ ∀ k, k < i → eOk l k) 4 (by simp) ⟨0, by simp, by omega, by simp, by simp, ⟨_, by simp, Own.nil _ _ _⟩, Keep.refl _ _, by omega⟩ ?_
        rintro j T h' ⟨i, rfl, hi4, t0, t5, ⟨v, t4, hv⟩, hk, hok⟩
        have hr' := hr.keep hk hm
        by_cases hi : i < 4
        · have i0 : (0 : Int) ≤ i := by omega
          have i4 : (i : Int) < 4 := by omega
          have b0 := hb.rd (446 + 16 * i)
          have b1 := hb.rd (446 + 16 * i + 4)
          have u1 := int4 L d m off cap (446 + 16 * i + 8) l 512 h1 (h'.skip 1) hl (hr'.skip 1) hb (by omega) (by omega)
          have u2 := int4 L d m off cap (446 + 16 * i + 12) l 512 h1 (h'.skip 1) hl (hr'.skip 1) hb (by omega) (by omega)
          have u3 := le4_bd hb (446 + 16 * i + 8)
          have u4 := le4_bd hb (446 + 16 * i + 12)
          have hs := hr'.skip 1
          have hd := (hk.wf hw) h'.next (Nat.le_refl _)
          obtain ⟨H, e1, g1, n1, kk⟩ := store_set (h'.skip 1) h'.next [.int .i64 0, .int .i64 0, .int .i64 0] #[.int .i64 (rdI l (446 + 16 * i + 4)), .int .i64 (le4 l (446 + 16 * i + 8)), .int .i64 (le4 l (446 + 16 * i + 12))] 3 rfl rfl rfl
          have k1 := kk h'.next h' ((Keep.refl _ _).skip 1) (Nat.le_refl _) (by rw [AHeap.next_skip]; omega)
          have hH := hs.of_get (h' := H) ((k1.get m (by have := hk.next; omega)).trans rfl)
          have c0 := ld_cell g1 (i := 0) rfl
          have c2 := ld_cell g1 (i := 2) rfl
          have c3 := ld_agg g1 (n := 3) rfl
          by_cases p1 : rdI l (446 + 16 * i) = 0 ∨ rdI l (446 + 16 * i) = 128
          · by_cases p2 : rdI l (446 + 16 * i + 4) = 0 ↔ le4 l (446 + 16 * i + 12) = 0
            · have kH : Keep h'.next h' (H.new (.row false 0 (.vals (eCell l i)))) := k1.new (Nat.le_refl _) _
              obtain ⟨v', H2, e2, o2, k2⟩ := push_one (k := ⟨3, 24, [.int .i64 0, .int .i64 0, .int .i64 0]⟩) (h := H.new (.row false 0 (.vals (eCell l i)))) (N := h.next) (v := v) (n := i) (l := eCells l i) (vs := eCell l i) (m := H.next)
                (hv.keep kH (Nat.le_refl _)) (by rw [AHeap.get_new, if_pos rfl]) rfl (by decide) (by have := hk.next; have := kH.next; omega) (by simp only; omega) (by omega)
              simp only [eCell] at e2
              have fin : ∃ j', j' < 4 - i ∧ ∃ i_1, j' = 4 - i_1 ∧ i_1 ≤ 4 ∧ (i : Int) + 1 = i_1 ∧ Own h.next H2 3 v' i_1 (eCells l i_1) ∧ Keep h.next h H2 ∧ ∀ k, k < i_1 → eOk l k := by
                refine ⟨4 - (i + 1), by omega, i + 1, rfl, by omega, by simp, by rw [eCells_succ]; exact o2, (hk.trans (kH.less hk.next)).trans k2, fun k hk2 => ?_⟩
                by_cases hki : k = i
                · subst hki; exact ⟨p1, p2⟩
                · exact hok k (by omega)
              rcases p1 with p3 | p3
              · simp (disch := omega) [t0, t5, t4, decide_eq_true, aIndexSl_ok, hs.rd, hH.rd, wrapF_i64, u1, u2, p3, build3, aNew, one, AHeap.get_skip, hd, AObj.live, e1, c0, c2, c3, p2, lit3, e2]
                exact fin
              · simp (disch := omega) [t0, t5, t4, decide_eq_true, aIndexSl_ok, hs.rd, hH.rd, wrapF_i64, u1, u2, p3, build3, aNew, one, AHeap.get_skip, hd, AObj.live, e1, c0, c2, c3, p2, lit3, e2]
                exact fin
            · have p2' : (decide (rdI l (446 + 16 * i + 4) = 0) == decide (le4 l (446 + 16 * i + 12) = 0)) = false := by
                rw [beq_eq_false_iff_ne]; intro x; rw [decide_eq_decide] at x; exact p2 x
              rcases p1 with p3 | p3
              · simp (disch := omega) [t0, t5, t4, decide_eq_true, aIndexSl_ok, hs.rd, hH.rd, wrapF_i64, u1, u2, p3, build3, aNew, one, AHeap.get_skip, hd, AObj.live, e1, c0, c2, p2', lit3]
                exact ⟨_, ⟨rfl, (bad ⟨i, hi, fun x => p2 x.2⟩).symm⟩, hk.trans (k1.less hk.next), by rw [bad ⟨i, hi, fun x => p2 x.2⟩]; simp⟩
              · simp (disch := omega) [t0, t5, t4, decide_eq_true, aIndexSl_ok, hs.rd, hH.rd, wrapF_i64, u1, u2, p3, build3, aNew, one, AHeap.get_skip, hd, AObj.live, e1, c0, c2, p2', lit3]
                exact ⟨_, ⟨rfl, (bad ⟨i, hi, fun x => p2 x.2⟩).symm⟩, hk.trans (k1.less hk.next), by rw [bad ⟨i, hi, fun x => p2 x.2⟩]; simp⟩
          · have q1 : rdI l (446 + 16 * i) ≠ 0 := fun x => p1 (.inl x)
            have q2 : rdI l (446 + 16 * i) ≠ 128 := fun x => p1 (.inr x)
            simp (disch := omega) [t0, t5, t4, decide_eq_true, aIndexSl_ok, hs.rd, hH.rd, wrapF_i64, u1, u2, build3, aNew, one, AHeap.get_skip, hd, AObj.live, e1, c0, c2, q1, q2]
            exact ⟨_, ⟨rfl, (bad ⟨i, hi, fun x => p1 x.1⟩).symm⟩, hk.trans (k1.less hk.next), by rw [bad ⟨i, hi, fun x => p1 x.1⟩]; simp⟩
        · have : i = 4 := by omega
          subst this
          simp (disch := omega) [t0, t5, t4]
          exact ⟨_, ⟨rfl, (good hok).symm⟩, hk, by rw [if_pos (good hok)]; exact hv⟩
      · simp (disch := omega) [h1, h2, h3, aIndexSl_ok, hr.rd, hr.rdn]
        have e : eErr l = 10 := by simp [eErr, h1, h3]
        exact ⟨_, ⟨rfl, e.symm⟩, Keep.refl _ _, by rw [e]; simp⟩
    · simp (disch := omega) [h1, h2, aIndexSl_ok, hr.rd, hr.rdn]
      have e : eErr l = 10 := by simp [eErr, h1, h2]
      exact ⟨_, ⟨rfl, e.symm⟩, Keep.refl _ _, by rw [e]; simp⟩
  · have h1' : (l.length : Int) ≠ 512 := by omega
    simp (disch := omega) [h1']
    have e : eErr l = 4 := by simp [eErr, h1]
    exact ⟨_, ⟨rfl, e.symm⟩, Keep.refl _ _, by rw [e]; simp⟩
end Go.Proofs.Ytphnlkdoeecbgaa.L13
