import Derived.Test.YtphnlkdoeecbgaaP13
set_option linter.unusedVariables false
set_option linter.unusedSimpArgs false
set_option linter.unnecessarySimpa false
namespace Go.Proofs.Ytphnlkdoeecbgaa.L13
open Go Go.AM Go.Proofs.Ytphnlkdoeecbgaa.AMC
set_option maxRecDepth 10000
def fitsP (t f c : Int) : Prop := 0 ≤ t ∧ t ≤ 255 ∧ 0 ≤ f ∧ f ≤ 4294967295 ∧ 0 ≤ c ∧ c ≤ 4294967295
instance (t f c : Int) : Decidable (fitsP t f c) := by unfold fitsP; infer_instance
abbrev entV (t f c : Int) : Value := .agg #[.int .i64 t, .int .i64 f, .int .i64 c]
def box3 (t f c : Int) : AObj := .row false 0 (.vals [.int .i64 t, .int .i64 f, .int .i64 c])
theorem box3_new (t f c : Int) (h : AHeap) : aNew true (entV t f c).cells.toList h = some (.pointer (some ⟨h.next, 0, none⟩), h.new (box3 t f c)) := by
  simp [aNew, entV, Value.cells, box3, one]
theorem fits_spec (L d : Nat) (t f c : Int) (h : AHeap) :
    (En L (d + 1)).go 42 [entV t f c] h = some (.bool (decide (fitsP t f c)), h.new (box3 t f c)) := by
  refine go_of (show tabF 42 = some (.code a42) by rfl) rfl ?_
  unfold a42
  have g : (h.new (box3 t f c)).get h.next = .row false 0 (.vals [.int .i64 t, .int .i64 f, .int .i64 c]) := by rw [AHeap.get_new, if_pos rfl]; rfl
  have c0 := ld_cell g (i := 0) rfl
  have c1 := ld_cell g (i := 1) rfl
  have c2 := ld_cell g (i := 2) rfl
  have key : decide (fitsP t f c) = (decide (0 ≤ t) && decide (t ≤ 255) && decide (0 ≤ f) && decide (f ≤ 4294967295) && decide (0 ≤ c) && decide (c ≤ 4294967295)) := by
    rw [Bool.eq_iff_iff, decide_eq_true_iff]; simp [fitsP, and_assoc]
  rw [key]
  by_cases h1 : 0 ≤ t <;> by_cases h2 : t ≤ 255 <;> by_cases h3 : 0 ≤ f <;> by_cases h4 : f ≤ 4294967295 <;> by_cases h5 : 0 ≤ c <;> simp [box3_new, c0, c1, c2, h1, h2, h3, h4, h5]
theorem put32 (L d : Nat) (v : Value) (l : List Int) (at_ : Nat) (x0 : Int) (N : Nat) (h : AHeap) (hv : OwnB N h v l) (hl : l.length < 1099511627776) (hn : at_ + 4 ≤ l.length) (hx0 : 0 ≤ x0) (hx1 : x0 < 4294967296) :
    ∃ r h', (En (L + 10) (d + 3)).go 59 [v, .int .i64 at_, .int .u32 x0] h = some (r, h') ∧ r = .bool true ∧ OwnB N h' v (wth l at_ (by4 x0)) ∧ Keep N h h' ∧ Only v h h' := by
  refine go_ex (R := fun r h' => r = .bool true ∧ OwnB N h' v (wth l at_ (by4 x0)) ∧ Keep N h h' ∧ Only v h h') (show tabF 59 = some (.code a59) by rfl) rfl ?_
  unfold a59
  obtain ⟨r, h', e, rfl, o, k, u⟩ := put4 L d v l at_ x0 N h hv hl hn hx0 hx1
  simp [e]
  exact ⟨o, k, u⟩
theorem put_range (L d : Nat) (v : Value) (l : List Int) (i t f c : Int) (h : AHeap) (hv : SlB h v l) (hr : ¬ (l.length = 512 ∧ 0 ≤ i ∧ i ≤ 3)) :
    (En L (d + 1)).go 41 [v, .int .i64 i, entV t f c] h = some (.int .i64 4, h.new (box3 t f c)) := by
  refine go_of (show tabF 41 = some (.code a41) by rfl) rfl ?_
  unfold a41
  obtain ⟨xv, qv, rfl⟩ := hv.val
  by_cases h1 : (l.length : Int) = 512
  · by_cases h2 : i < 0
    · simp (disch := omega) [box3_new, h1, h2]
    · have h3 : 3 < i := by omega
      simp (disch := omega) [box3_new, h1, h2, h3]
  · simp (disch := omega) [box3_new, h1]
theorem box3_get (t f c : Int) (h : AHeap) : (h.new (box3 t f c)).get h.next = .row false 0 (.vals [.int .i64 t, .int .i64 f, .int .i64 c]) := by rw [AHeap.get_new, if_pos rfl]; rfl
theorem put_limit (L d : Nat) (v : Value) (l : List Int) (i t f c : Int) (h : AHeap) (hv : SlB h v l) (hr : l.length = 512 ∧ 0 ≤ i ∧ i ≤ 3) (hf : ¬ fitsP t f c) :
    (En L (d + 1)).go 41 [v, .int .i64 i, entV t f c] h = some (.int .i64 20, h.new (box3 t f c)) := by
  refine go_of (show tabF 41 = some (.code a41) by rfl) rfl ?_
  unfold a41
  obtain ⟨xv, qv, rfl⟩ := hv.val
  have g := box3_get t f c h
  have c0 := ld_cell g (i := 0) rfl
  have c1 := ld_cell g (i := 1) rfl
  have c2 := ld_cell g (i := 2) rfl
  obtain ⟨h1, h2, h3⟩ := hr
  have h2' : ¬ i < 0 := by omega
  have h3' : ¬ 3 < i := by omega
  unfold fitsP at hf
  by_cases k1 : t < 0
  · simp (disch := omega) [box3_new, h1, h2', h3', c0, c1, c2, k1]
  · by_cases k2 : 255 < t
    · simp (disch := omega) [box3_new, h1, h2', h3', c0, c1, c2, k1, k2]
    · by_cases k3 : f < 0
      · simp (disch := omega) [box3_new, h1, h2', h3', c0, c1, c2, k1, k2, k3]
      · by_cases k4 : 4294967295 < f
        · simp (disch := omega) [box3_new, h1, h2', h3', c0, c1, c2, k1, k2, k3, k4]
        · by_cases k5 : c < 0
          · simp (disch := omega) [box3_new, h1, h2', h3', c0, c1, c2, k1, k2, k3, k4, k5]
          · have k6 : 4294967295 < c := by omega
            simp (disch := omega) [box3_new, h1, h2', h3', c0, c1, c2, k1, k2, k3, k4, k5, k6]
theorem put_ok (L d : Nat) (v : Value) (l : List Int) (i : Nat) (t f c : Int) (N : Nat) (h : AHeap) (hN : N ≤ h.next) (hv : OwnB N h v l) (h1 : l.length = 512) (h3 : i ≤ 3) (hf : fitsP t f c) :
    ∃ r h', (En (L + 10) (d + 4)).go 41 [v, .int .i64 i, entV t f c] h = some (r, h') ∧ r = .int .i64 0 ∧ OwnB N h' v (wth (wth (wth l (450 + 16 * i) [t]) (454 + 16 * i) (by4 f)) (458 + 16 * i) (by4 c)) ∧ Keep N h h' := by
  refine go_ex (R := fun r h' => r = .int .i64 0 ∧ OwnB N h' v (wth (wth (wth l (450 + 16 * i) [t]) (454 + 16 * i) (by4 f)) (458 + 16 * i) (by4 c)) ∧ Keep N h h') (show tabF 41 = some (.code a41) by rfl) rfl ?_
  unfold a41
  have g := box3_get t f c h
  have c0 := ld_cell g (i := 0) rfl
  have c1 := ld_cell g (i := 1) rfl
  have c2 := ld_cell g (i := 2) rfl
  have h2' : ¬ (i : Int) < 0 := by omega
  have h3' : ¬ 3 < (i : Int) := by omega
  unfold fitsP at hf
  have k1 : ¬ t < 0 := by omega
  have k2 : ¬ 255 < t := by omega
  have k3 : ¬ f < 0 := by omega
  have k4 : ¬ 4294967295 < f := by omega
  have k5 : ¬ c < 0 := by omega
  have k6 : ¬ 4294967295 < c := by omega
  have kb : Keep h.next h (h.new (box3 t f c)) := (Keep.refl _ _).new (Nat.le_refl _) _
  have o1 := hv.keep kb (Nat.le_refl _)
  obtain ⟨m, G1, ev, st, o2, kk2, nx2, gt2⟩ := o1.store (450 + 16 * i) (by omega) t
  have hm : m < h.next := by
    rcases hv.2 with ⟨q, _⟩ | ⟨m', c', gr', q1, q2, q3, _⟩
    · omega
    · rw [q1] at ev; injection ev with ev; injection ev with ev; injection ev with ev; omega
  have hm' : ∀ m' o n c, v = .slice (some ⟨m', o, none⟩) n c → h.next ≠ m' := by
    intro m' o n c q; rw [q] at ev; injection ev with ev; injection ev with ev; injection ev with ev; omega
  have hw0 := wth_set (l := l) (a := 450 + 16 * i) (p := []) t (by simp; omega)
  simp only [wth_nil, List.length_nil, Nat.add_zero, List.nil_append] at hw0
  rw [hw0] at o2
  have l2 : (wth l (450 + 16 * i) [t]).length = l.length := wth_len (by simp; omega)
  have g1 := (gt2 h.next (by omega)).trans g
  have c1' := ld_cell g1 (i := 1) rfl
  obtain ⟨r3, G3, e3, rfl, o3, kk3, u3⟩ := put32 L d v _ (454 + 16 * i) f N G1 o2 (by omega) (by omega) (by omega) (by omega)
  have g3 := (u3.2 h.next hm').trans g1
  have c2' := ld_cell g3 (i := 2) rfl
  have l3 : (wth (wth l (450 + 16 * i) [t]) (454 + 16 * i) (by4 f)).length = l.length := by rw [wth_len (by simp [by4, l2]; omega)]; exact l2
  obtain ⟨r4, G4, e4, rfl, o4, kk4, u4⟩ := put32 L d v _ (458 + 16 * i) c N G3 o3 (by omega) (by omega) (by omega) (by omega)
  have et1 : (450 + 16 * (i : Int)).toNat = 450 + 16 * i := by omega
  have et2 : (446 + 16 * (i : Int) + 4).toNat = 450 + 16 * i := by omega
  have er := fun h => row_spec (L + 10) (d + 2) i h (by omega) (by omega)
  have q3 : ((454 + 16 * i : Nat) : Int) = 446 + 16 * (i : Int) + 8 := by omega
  have q4 : ((458 + 16 * i : Nat) : Int) = 446 + 16 * (i : Int) + 12 := by omega
  rw [q3] at e3
  rw [q4] at e4
  rw [h1] at ev
  subst ev
  simp (disch := omega) [box3_new, h1, h2', h3', c0, c1, c2, k1, k2, k3, k4, k5, k6, er, skip0, wrapF_u8, wrapF_u32, wrapF_i64, aIndexSl_ok, et1, et2, st, c1', c2', e3, e4]
  exact ⟨o4, (kb.less hN).trans (kk2.trans (kk3.trans kk4))⟩
end Go.Proofs.Ytphnlkdoeecbgaa.L13
