import Derived.Test.YtejlmlfncbcbbaaN21
set_option linter.unusedVariables false
set_option linter.unusedSimpArgs false
set_option linter.unnecessarySimpa false
/-! PartsFinds: the law over the executor. -/
namespace Go.Proofs.Ytejlmlfncbcbbaa.L21
open Go Go.AM Go.Proofs.Ytejlmlfncbcbbaa.AMC
set_option maxRecDepth 10000
/-- Runs: rows of two numbers. -/
def RunsOk (h : AHeap) (a : Option Addr) (n : Nat) : Prop :=
  n = 0 ∨ ∃ (m : Nat) (ro : Bool) (gr : Nat) (zs : List Int), a = some ⟨m, 0, none⟩ ∧ m < h.next ∧ n < 9223372036854775808 ∧ 2 * n ≤ zs.length ∧ h.get m = .row ro gr (.vals (zs.map (Value.int .i64)))
theorem RunsOk.keep {h h' : AHeap} {a : Option Addr} {n N : Nat} (r : RunsOk h a n) (k : Keep N h h') (hN : h.next ≤ N) : RunsOk h' a n := by
  rcases r with r | ⟨m, ro, gr, zs, h1, h2, h3, h4, h5⟩
  · exact .inl r
  · exact .inr ⟨m, ro, gr, zs, h1, Nat.lt_of_lt_of_le h2 k.next, h3, h4, by rw [k.get m (by omega)]; exact h5⟩
theorem ld2 {h : AHeap} {m : Nat} {ro : Bool} {gr n : Nat} {zs : List Int} (g : h.get m = .row ro gr (.vals (zs.map (Value.int .i64)))) (hz : 2 * n ≤ zs.length) {i : Nat} (hi : i < n) :
    ∃ x y, aLoad (some 2) (.pointer (some ⟨m, i * 2, none⟩)) h = some (.agg #[.int .i64 x, .int .i64 y]) := by
  have h1 : i * 2 < zs.length := by omega
  have h2 : i * 2 + 1 < zs.length := by omega
  refine ⟨zs[i * 2], zs[i * 2 + 1], ?_⟩
  have hsz : i * 2 + 2 ≤ (Cells.vals (zs.map (Value.int .i64))).size := by show _ ≤ (zs.map (Value.int .i64)).length; simp; omega
  simp only [aLoad, g]
  rw [if_pos hsz]
  simp only [Cells.ext, Cells.toList]
  rw [← List.map_drop, List.drop_eq_getElem_cons h1, List.drop_eq_getElem_cons h2]
  rfl
theorem same_self (x y : Int) : aEqL (.agg #[.int .i64 x, .int .i64 y]) (.agg #[.int .i64 x, .int .i64 y]) [(0, .int), (1, .int)] = some true := by
  simp [aEqL, cellAt, cellEq]
theorem same_spec (L d : Nat) (a : Option Addr) (n c : Nat) (h : AHeap) (hr : RunsOk h a n) (hL : 9223372036854775808 < L) :
    (En L (d + 1)).go 9 [.slice a n c, .slice a n c] h = some (.bool true, h) := by
  refine go_of (show tabF 9 = some (.code a9) by rfl) rfl ?_
  unfold a9
  have hn : n < 9223372036854775808 := by rcases hr with h1 | ⟨_, _, _, _, _, _, h1, _⟩ <;> omega
  simp
  refine W_loop (fun j T h' => ∃ i : Nat, j = n - i ∧ i ≤ n ∧ T.get 0 = some (.slice a n c) ∧ T.get 1 = some (.slice a n c) ∧ T.get 5 = some (.int .i64 i) ∧ h' = h) n (by show n < L; omega) ⟨0, by simp, by omega, by simp, by simp, by simp, rfl⟩ ?_
  rintro j T h' ⟨i, rfl, hi, t0, t1, t5, rfl⟩
  by_cases hlt : i < n
  · rcases hr with h1 | ⟨m, ro, gr, zs, rfl, _, _, hz, hg⟩
    · omega
    obtain ⟨x, y, e⟩ := ld2 hg hz hlt
    simp (disch := omega) [t0, t1, t5, hlt, aIndexSl_ok, e, isAggV, same_self, wrapF_i64]
    exact ⟨n - (i + 1), by omega, i + 1, rfl, by omega, rfl⟩
  · simp [t0, t1, t5, hlt]
/-- All runs of a list. -/
def RunsAll (h : AHeap) (l : List PathA) : Prop := ∀ p ∈ l, RunsOk h p.a p.n
theorem findP_mem (nm : ByteArray) : ∀ (l : List PathA) (p : PathA), findP nm l = some p → p ∈ l ∧ p.s.data.toList = nm.data.toList
  | [], p, h => by cases h
  | q :: l, p, h => by
    simp only [findP] at h
    split at h
    · rename_i e; injection h with h; subst h; exact ⟨by simp, e⟩
    · obtain ⟨h1, h2⟩ := findP_mem nm l p h; exact ⟨by simp [h1], h2⟩
theorem findP_none (nm : ByteArray) : ∀ (l : List PathA), findP nm l = none → ∀ p ∈ l, p.s.data.toList ≠ nm.data.toList
  | [], h, p, hp => by cases hp
  | q :: l, h, p, hp => by
    simp only [findP] at h
    split at h
    · cases h
    · rename_i e
      rcases List.mem_cons.1 hp with rfl | hp
      · exact e
      · exact findP_none nm l h p hp
/-- The cells of what is found. -/
def ansC : Option PathA → List Value
  | some p => p.cells
  | none => z4
def ansK : Option PathA → Bool
  | some _ => true
  | none => false
theorem ansP_eq (o : Option PathA) : ansP o = .tuple #[.agg (ansC o).toArray, .bool (ansK o)] := by cases o <;> rfl
theorem skip0 (h : AHeap) : h.skip 0 = h := rfl
theorem findP_at (nm : ByteArray) (l : List PathA) : ∀ i (hi : i < l.length), (∀ j, j < i → ∀ hj : j < l.length, l[j].s.data.toList ≠ nm.data.toList) → l[i].s.data.toList = nm.data.toList → findP nm l = some l[i] := by
  induction l with
  | nil => intro i hi; simp at hi
  | cons p l ih =>
    intro i hi hne he
    cases i with
    | zero => simp only [findP]; exact (if_pos (show p.s.data.toList = nm.data.toList from he)).trans rfl
    | succ i =>
      simp only [findP]
      rw [if_neg (show ¬ p.s.data.toList = nm.data.toList from hne 0 (by omega) (by simp))]
      exact ih i (by simpa using hi) (fun j hj hjl => hne (j + 1) (by omega) (by simpa using hjl)) he
theorem law_finds (L d m cap : Nat) (ro : Bool) (gr : Nat) (a : Option Addr) (l : List PathA) (nm : ByteArray) (h : AHeap) (hw : Wf h) (hL : 9223372036854775808 < L) (hr : RunsAll h l)
    (ha : l.length = 0 ∨ a = some ⟨m, 0, none⟩ ∧ m < h.next ∧ h.get m = .row ro gr (.vals (rowP l))) :
    ∃ r h', (En L (d + 4)).go 3 [.slice a l.length cap, .string nm] h = some (r, h') ∧ r = .bool true := by
  refine go_ex (R := fun r _ => r = .bool true) (show tabF 3 = some (.code a3) by rfl) rfl ?_
  unfold a3
  by_cases h50 : (50 : Int) < l.length
  · simp [h50, go4]
  obtain ⟨r1, h1, f1, rfl, k1⟩ := find_spec L (d + 2) m cap ro gr a l nm h (by omega) (by omega) ha
  rw [ansP_eq] at f1
  have hc1 : (ansC (findP nm l)).toArray.size = 4 := by cases findP nm l <;> rfl
  have hc2 : (ansC (findP nm l)).toArray.toList.all one = true := by cases findP nm l <;> rfl
  obtain ⟨h2, e1, e2, k2, n2⟩ := store_new h1 z4 (ansC (findP nm l)).toArray 4 hc1 rfl hc2
  obtain ⟨r3, h3, f3, rfl, k3⟩ := parse_nil L (d + 2) h2
  obtain ⟨h4, e4, e5, k4, n4⟩ := store_new h3 z31 z31.toArray 31 rfl rfl rfl
  obtain ⟨r5, h5, f5, rfl, k5⟩ := window_nil L (d + 2) h4
  obtain ⟨r6, h6, f6, rfl, k6⟩ := content_nil L (d + 2) h5
  have k26 : Keep h2.next h2 h6 := k3.trans ((k4.less k3.next).trans ((k5.less (Nat.le_trans k3.next k4.next)).trans (k6.less (Nat.le_trans k3.next (Nat.le_trans k4.next k5.next)))))
  have hb : h6.get h1.next = .row false 0 (.vals (ansC (findP nm l))) := by rw [k26.get _ (by omega)]; exact e2
  have hk : Keep h.next h h6 := k1.trans ((k2.less k1.next).trans (k26.less (by have := k1.next; omega)))
  have hr6 : RunsAll h6 l := fun p hp => (hr p hp).keep hk (Nat.le_refl _)
  simp [h50, f1, new4, e1, f3, new31, e4, bld2, f5, bld4, f6, go4]
  refine W_loop (fun j T h' => ∃ i : Nat, j = l.length - i ∧ i ≤ l.length ∧ T.get 0 = some (.slice a l.length cap) ∧ T.get 1 = some (.string nm) ∧ T.get 5 = some (.pointer (some ⟨h1.next, 0, none⟩)) ∧ T.get 6 = some (.bool (ansK (findP nm l))) ∧ T.get 13 = some (.int .i64 i) ∧ h' = h6 ∧ ∀ j, j < i → ∀ hj : j < l.length, l[j].s.data.toList ≠ nm.data.toList) l.length (by show l.length < L; omega) ⟨0, by simp, by omega, by simp, by simp, by simp, by simp, by simp, rfl, fun j hj => by omega⟩ ?_
  rintro j T h' ⟨i, rfl, hi, t0, t1, t5, t6, t13, hh, hne⟩
  have hh' := hh.symm
  subst hh'
  by_cases hlt : i < l.length
  · rcases ha with h0 | ⟨rfl, hm, hg⟩
    · omega
    have hg6 : h6.get m = .row ro gr (.vals (rowP l)) := by rw [hk.get m hm]; exact hg
    have g0 := ldPj hg6 hlt (j := 0) (by omega)
    have g1 := ldPj hg6 hlt (j := 1) (by omega)
    have g2 := ldPj hg6 hlt (j := 2) (by omega)
    have g3 := ldPj hg6 hlt (j := 3) (by omega)
    simp only [PathA.cells, List.getElem?_cons_zero, List.getElem?_cons_succ, Nat.add_zero] at g0 g1 g2 g3
    by_cases hs : l[i].s.data.toList = nm.data.toList
    · have hf := findP_at nm l i hlt hne hs
      rw [hf] at hb t6
      have b0 := ld_cell hb (i := 0) (v := .string l[i].s) rfl
      have b1 := ld_cell hb (i := 1) (v := .int .i64 l[i].k) rfl
      have b2 := ld_cell hb (i := 2) (v := .int .i64 l[i].z) rfl
      have b3 := ld_cell hb (i := 3) (v := .slice l[i].a l[i].n l[i].c) rfl
      have sm := same_spec L (d + 2) l[i].a l[i].n l[i].c h6 (hr6 _ (List.getElem_mem hlt)) hL
      simp (disch := omega) [t0, t1, t5, t6, t13, hlt, aIndexSl_ok, g0, g1, g2, g3, b0, b1, b2, b3, aStr, hs, ansK, skip0, sm]
    · simp (disch := omega) [t0, t1, t5, t6, t13, hlt, aIndexSl_ok, g0, aStr, hs, wrapF_i64]
      refine ⟨l.length - (i + 1), by omega, i + 1, rfl, by omega, rfl, fun j hj hjl => ?_⟩
      rw [← Array.toList_inj]
      by_cases hji : j < i
      · exact hne j hji hjl
      · have : j = i := by omega
        subst this; exact hs
  · have hf : findP nm l = none := by
      cases hq : findP nm l with
      | none => rfl
      | some p =>
        obtain ⟨q1, q2⟩ := findP_mem nm l p hq
        obtain ⟨j, hj, rfl⟩ := List.mem_iff_getElem.1 q1
        exact absurd q2 (hne j (by omega) hj)
    rw [hf] at hb t6
    have b0 := ld_cell hb (i := 0) (v := .string ⟨#[]⟩) rfl
    have b2 := ld_cell hb (i := 2) (v := .int .i64 0) rfl
    simp [t0, t1, t5, t6, t13, hlt, ansK, b0, b2, aStr]
end Go.Proofs.Ytejlmlfncbcbbaa.L21
