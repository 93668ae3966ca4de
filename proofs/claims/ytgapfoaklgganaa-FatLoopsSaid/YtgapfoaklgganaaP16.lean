import Derived.Test.YtgapfoaklgganaaN16
set_option linter.unusedVariables false
set_option linter.unusedSimpArgs false
set_option linter.unnecessarySimpa false
/-! Layer 1's functions on slices of bytes, in this seat. -/
namespace Go.Proofs.Ytgapfoaklgganaa.L16
open Go Go.AM Go.Proofs.Ytgapfoaklgganaa.AMC
set_option maxRecDepth 10000
theorem in_spec (L d : Nat) (a : Option Addr) (len cap : Nat) (at_ n : Int) (h : AHeap) (hl : (len : Int) ≤ 9223372036854775807) :
    (En L (d + 1)).go 90 [.slice a len cap, .int .i64 at_, .int .i64 n] h = some (.bool (decide (at_ ≥ 0 ∧ n ≥ 0 ∧ at_ ≤ len ∧ n ≤ len - at_)), h) := by
  refine go_of (show tabF 90 = some (.code a90) by rfl) rfl ?_
  unfold a90
  by_cases h1 : 0 ≤ at_
  · by_cases h2 : 0 ≤ n
    · by_cases h3 : at_ ≤ len
      · simp (disch := omega) [h1, h2, h3, wrapF_i64]
      · simp [h1, h2, h3]
    · simp [h1, h2]
  · simp [h1]
/-- Four bytes, the lowest first. -/
def le4 (l : List Int) (i : Int) : Int := rdI l i + 256 * rdI l (i + 1) + 65536 * rdI l (i + 2) + 16777216 * rdI l (i + 3)
theorem le4_bd {l : List Int} (hb : Byt l) (i : Int) : 0 ≤ le4 l i ∧ le4 l i < 4294967296 := by
  have b0 := hb.rd i
  have b1 := hb.rd (i + 1)
  have b2 := hb.rd (i + 2)
  have b3 := hb.rd (i + 3)
  unfold le4; omega
theorem little_yes (L d : Nat) (m off cap : Nat) (at_ : Int) (l : List Int) (len : Nat) (hlen : l.length = len) (h : AHeap) (hl : l.length < 4611686018427387904) (hr : RowI h .u8 m off l) (hb : Byt l) (ha0 : 0 ≤ at_) (ha : at_ + 4 ≤ l.length) :
    (En (L + 10) (d + 2)).go 92 [.slice (some ⟨m, off, none⟩) len cap, .int .i64 at_, .int .i64 4] h = some (.tuple #[.int .u32 (le4 l at_), .bool true], h) := by
  refine go_of (show tabF 92 = some (.code a92) by rfl) rfl ?_
  unfold a92
  have hin := in_spec (L + 10) d (some ⟨m, off, none⟩) len cap at_ 4 h (by omega)
  rw [decide_eq_true (by omega)] at hin
  have b0 := hb.rd at_
  have b1 := hb.rd (at_ + 1)
  have b2 := hb.rd (at_ + 2)
  have b3 := hb.rd (at_ + 3)
  simp (disch := omega) [hin, W_loop_all, WL_succ, wrapF_i64, wrapF_u32, aIndexSl_ok, shlF_wrap, or8_u32, or0_u32, hr.rd]
  unfold le4; omega
theorem u32_yes (L d : Nat) (m off cap : Nat) (at_ : Int) (l : List Int) (len : Nat) (hlen : l.length = len) (h : AHeap) (hl : l.length < 4611686018427387904) (hr : RowI h .u8 m off l) (hb : Byt l) (ha0 : 0 ≤ at_) (ha : at_ + 4 ≤ l.length) :
    (En (L + 10) (d + 3)).go 68 [.slice (some ⟨m, off, none⟩) len cap, .int .i64 at_] h = some (.tuple #[.int .u32 (le4 l at_), .bool true], h) := by
  refine go_of (show tabF 68 = some (.code a68) by rfl) rfl ?_
  unfold a68
  simp (disch := omega) [little_yes L d m off cap at_ l len hlen h hl hr hb ha0 ha]
abbrev EK1 : ElK := ⟨1, 1, [.int .u8 0]⟩
theorem OwnB.nil (N : Nat) (h : AHeap) : OwnB N h (.slice none 0 0) [] := OwnS.nil N h 1
theorem cutB {h : AHeap} {v : Value} {l : List Int} (a : SlB h v l) {lo hi : Option Value} (i j : Nat) (hlo : (lo = none ∧ i = 0) ∨ ∃ k, lo = some (.int k i)) (hhi : (hi = none ∧ j = l.length) ∨ ∃ k, hi = some (.int k j)) (hij : i ≤ j) (hj : j ≤ l.length) :
    ∃ v', aCut (.sl 1) v lo hi none h = some v' ∧ SlB h v' ((l.drop i).take (j - i)) := SlB.cut a hlo hhi hij hj
/-- Part. -/
theorem part_spec (L d : Nat) (v : Value) (l : List Int) (at_ n : Nat) (h : AHeap) (hs : SlB h v l) (hl : l.length < 1099511627776) (hn : at_ + n ≤ l.length) :
    ∃ r h', (En L (d + 1)).go 22 [v, .int .i64 at_, .int .i64 n] h = some (r, h') ∧ OwnB h.next h' r ((l.drop at_).take n) ∧ Keep h.next h h' := by
  refine go_ex (R := fun r h' => OwnB h.next h' r ((l.drop at_).take n) ∧ Keep h.next h h') (show tabF 22 = some (.code a22) by rfl) rfl ?_
  unfold a22
  obtain ⟨v1, c1, s1⟩ := cutB hs (lo := some (.int .i64 at_)) (hi := some (.int .i64 (at_ + n))) at_ (at_ + n) (.inr ⟨_, rfl⟩) (.inr ⟨_, by rw [Int.natCast_add]⟩) (by omega) (by omega)
  rw [Nat.add_sub_cancel_left] at s1
  obtain ⟨x1, q1, rfl⟩ := s1.val
  have e1 : ((l.drop at_).take n).length = n := by rw [List.length_take, List.length_drop]; omega
  rw [e1] at c1 s1
  obtain ⟨v2, h2, c2, o2, k2⟩ := OwnB.append (k := EK1) (OwnB.nil h.next h) s1 rfl rfl (Nat.le_refl _) (by simp; omega)
  simp (disch := omega) [wrapF_i64, c1, c2]
  exact ⟨by simpa using o2, k2⟩
theorem same_spec (L d : Nat) (v w : Value) (l m : List Int) (h : AHeap) (hv : SlB h v l) (hw : SlB h w m) (hl : Byt l) (hm : Byt m) :
    (En L (d + 1)).go 24 [v, w] h = some (.bool (decide (l = m)), h) := by
  refine go_of (show tabF 24 = some (.code a24) by rfl) rfl ?_
  unfold a24
  simp [hv.str, hw.str, aStr, strOf_inj hl hm]
theorem byt_set {l : List Int} (hb : Byt l) (i : Nat) (x : Int) (h0 : 0 ≤ x) (h1 : x < 256) : Byt (l.set i x) := by
  intro y hy
  rcases List.mem_or_eq_of_mem_set hy with h | h
  · exact hb y h
  · omega
/-- The four bytes of a number. -/
def by4 (v : Int) : List Int := [v % 256, v / 256 % 256, v / 256 / 256 % 256, v / 256 / 256 / 256 % 256]
theorem by4_byt (v : Int) : Byt (by4 v) := by
  intro x hx
  simp [by4] at hx
  omega
def row1 (x : Int) : AObj := .row false 0 (mkRow true [.int .u8 x])
theorem lit1 (x : Int) (h : AHeap) : aBuildSlice true ⟨1, 1, [.int .u8 0]⟩ 1 [(0, .int .u8 x)] h = some (.slice (some ⟨h.next, 0, none⟩) 1 1, h.new (row1 x)) := rfl
theorem one_sl (h : AHeap) (x : Int) : SlB (h.new (row1 x)) (.slice (some ⟨h.next, 0, none⟩) 1 1) [x] :=
  ⟨rfl, .inr ⟨h.next, 0, 1, false, 0, mkRow true [.int .u8 x], rfl, by simp, by simp, by rw [AHeap.get_new, if_pos rfl]; rfl, .inl rfl, by rw [← Cells.length_toList, toList_mkRow]; simp, by rw [toList_mkRow]; rfl⟩⟩
theorem bytes4 (L d : Nat) (v : Int) (h : AHeap) (h0 : 0 ≤ v) (h1 : v ≤ 18446744073709551615) :
    ∃ r h', (En (L + 10) (d + 1)).go 46 [.int .u64 v, .int .i64 4] h = some (r, h') ∧ OwnB h.next h' r (by4 v) ∧ Keep h.next h h' := by
  refine go_ex (R := fun r h' => OwnB h.next h' r (by4 v) ∧ Keep h.next h h') (show tabF 46 = some (.code a46) by rfl) rfl ?_
  unfold a46
  simp (disch := omega)
  refine W_loop (fun j T h' => ∃ (i : Nat) (x : Int) (w : Value), j = 4 - i ∧ i ≤ 4 ∧ T.get 0 = some (.int .u64 x) ∧ 0 ≤ x ∧ x ≤ 18446744073709551615 ∧ T.get 1 = some (.int .i64 4) ∧ T.get 5 = some w ∧ T.get 6 = some (.int .i64 i) ∧ OwnB h.next h' w ((by4 v).take i) ∧ Keep h.next h h' ∧ x = (if i = 0 then v else if i = 1 then v / 256 else if i = 2 then v / 256 / 256 else if i = 3 then v / 256 / 256 / 256 else x)) 4 (by simp) ⟨0, v, .slice none 0 0, by simp, by omega, by simp, h0, h1, by simp, by simp, by simp, OwnB.nil _ _, Keep.refl _ _, rfl⟩ ?_
  rintro j T h' ⟨i, x, w, rfl, hi4, t0, x0, x1, t1, t5, t6, ow, hk, hx⟩
  by_cases hi : i < 4
  · have hx2 : (by4 v).take i ++ [x % 256] = (by4 v).take (i + 1) := by
      have : i = 0 ∨ i = 1 ∨ i = 2 ∨ i = 3 := by omega
      rcases this with rfl | rfl | rfl | rfl <;> simp [by4] at hx ⊢ <;> omega
    have hlen : ((by4 v).take i).length ≤ 4 := by rw [List.length_take]; simp [by4]; omega
    have os := one_sl h' (x % 256)
    obtain ⟨v2, h2, c2, o2, k2⟩ := OwnB.append (k := EK1) (h := h'.new (row1 (x % 256))) (ow.keep ((Keep.refl h'.next h').new (Nat.le_refl _) _) (Nat.le_refl _)) os rfl rfl (by have := hk.next; simp; omega) (by simp; omega)
    rw [hx2] at o2
    simp (disch := omega) [t0, t1, t5, t6, decide_eq_true, wrapF_i64, wrapF_u8, wrapF_u64, wrapF_mod_u8, Int.tmod_eq_emod_of_nonneg x0, Int.tdiv_eq_ediv_of_nonneg x0, lit1, c2]
    refine ⟨4 - (i + 1), by omega, i + 1, rfl, by omega, by omega, by omega, by simp, o2, (hk.new (Nat.le_refl _) _).trans k2, ?_⟩
    have : i = 0 ∨ i = 1 ∨ i = 2 ∨ i = 3 := by omega
    rcases this with rfl | rfl | rfl | rfl <;> simp at hx ⊢ <;> rw [hx]
  · have : i = 4 := by omega
    subst this
    simp (disch := omega) [t0, t1, t5, t6]
    exact ⟨by simpa [by4] using ow, hk⟩
/-- Bytes, others in the place of some. -/
def wth (l : List Int) (a : Nat) (p : List Int) : List Int := l.take a ++ p ++ l.drop (a + p.length)
theorem wth_nil (l : List Int) (a : Nat) : wth l a [] = l := by simp [wth]
theorem wth_len {l : List Int} {a : Nat} {p : List Int} (h : a + p.length ≤ l.length) : (wth l a p).length = l.length := by
  simp [wth]; omega
theorem wth_set {l : List Int} {a : Nat} {p : List Int} (x : Int) (h : a + p.length < l.length) : (wth l a p).set (a + p.length) x = wth l a (p ++ [x]) := by
  have h1 : (l.take a ++ p).length = a + p.length := by simp; omega
  have h2 : l.drop (a + p.length) = l[a + p.length] :: l.drop (a + p.length + 1) := List.drop_eq_getElem_cons h
  unfold wth
  rw [List.set_append_right _ _ (by omega), h1, Nat.sub_self, h2, List.set_cons_zero]
  simp [Nat.add_assoc]
theorem wth_wth {l : List Int} {a : Nat} {p q : List Int} (h : a + p.length + q.length ≤ l.length) : wth (wth l a p) (a + p.length) q = wth l a (p ++ q) := by
  have h1 : (l.take a ++ p).length = a + p.length := by simp; omega
  unfold wth
  rw [List.take_left' h1, List.drop_append, h1, List.drop_of_length_le (by omega), List.nil_append, List.drop_drop, Nat.add_sub_cancel_left, List.length_append, ← Nat.add_assoc, List.append_assoc (l.take a) p q]
theorem wth_byt {l p : List Int} {a : Nat} (hl : Byt l) (hp : Byt p) : Byt (wth l a p) := by
  intro x hx
  simp only [wth, List.mem_append] at hx
  rcases hx with (hx | hx) | hx
  · exact hl x (List.mem_of_mem_take hx)
  · exact hp x hx
  · exact hl x (List.mem_of_mem_drop hx)
theorem with_spec (L d : Nat) (v w : Value) (l p : List Int) (at_ : Nat) (h : AHeap) (hv : SlB h v l) (hw : SlB h w p) (hl : l.length < 1099511627776) (hn : at_ + p.length ≤ l.length) :
    ∃ r h', (En L (d + 1)).go 36 [v, .int .i64 at_, w] h = some (r, h') ∧ OwnB h.next h' r (wth l at_ p) ∧ Keep h.next h h' := by
  refine go_ex (R := fun r h' => OwnB h.next h' r (wth l at_ p) ∧ Keep h.next h h') (show tabF 36 = some (.code a36) by rfl) rfl ?_
  unfold a36
  obtain ⟨v1, c1, s1⟩ := cutB hv (lo := none) (hi := some (.int .i64 at_)) 0 at_ (.inl ⟨rfl, rfl⟩) (.inr ⟨_, rfl⟩) (by omega) (by omega)
  obtain ⟨x1, q1, rfl⟩ := s1.val
  have e1 : ((l.drop 0).take (at_ - 0)).length = at_ := by rw [List.length_take, List.length_drop]; omega
  have f1 : (l.drop 0).take (at_ - 0) = l.take at_ := by simp
  rw [e1] at c1 s1
  rw [f1] at s1 e1
  obtain ⟨v2, h2, c2, o2, k2⟩ := OwnB.append (k := EK1) (OwnB.nil h.next h) s1 rfl rfl (Nat.le_refl _) (by simp; omega)
  obtain ⟨v3, h3, c3, o3, k3⟩ := OwnB.append (k := EK1) o2 (hw.keep k2 (Nat.le_refl _)) rfl rfl k2.next (by simp at e1 ⊢; omega)
  have k4 := k2.trans k3
  obtain ⟨v5, c5, s5⟩ := cutB (hv.keep k4 (Nat.le_refl _)) (lo := some (.int .i64 ((at_ + p.length : Nat) : Int))) (hi := none) (at_ + p.length) l.length (.inr ⟨_, rfl⟩) (.inl ⟨rfl, rfl⟩) (by omega) (by omega)
  have e5 : ((l.drop (at_ + p.length)).take (l.length - (at_ + p.length))) = l.drop (at_ + p.length) := List.take_of_length_le (by simp)
  rw [e5] at s5
  obtain ⟨x5, q5, rfl⟩ := s5.val
  obtain ⟨v6, h6, c6, o6, k6⟩ := OwnB.append (k := EK1) o3 s5 rfl rfl k4.next (by simp at e1 ⊢; omega)
  obtain ⟨xw, qw, rfl⟩ := hw.val
  rw [Int.natCast_add] at c5
  simp only [List.length_drop] at c5 c6
  simp (disch := omega) [wrapF_i64, c1, c2, c3, c5, c6]
  exact ⟨by simpa [wth] using o6, k4.trans k6⟩
/-- Nothing but what a slice leads to is changed. -/
def Only (v : Value) (h h' : AHeap) : Prop := h'.next = h.next ∧ ∀ k, (∀ m o n c, v = .slice (some ⟨m, o, none⟩) n c → k ≠ m) → h'.get k = h.get k
theorem Only.refl (v : Value) (h : AHeap) : Only v h h := ⟨rfl, fun _ _ => rfl⟩
theorem Only.trans {v : Value} {h h1 h2 : AHeap} (a : Only v h h1) (b : Only v h1 h2) : Only v h h2 := ⟨b.1.trans a.1, fun k hk => (b.2 k hk).trans (a.2 k hk)⟩
theorem skip0 (h : AHeap) : h.skip 0 = h := rfl
theorem put4 (L d : Nat) (v : Value) (l : List Int) (at_ : Nat) (x0 : Int) (N : Nat) (h : AHeap) (hv : OwnB N h v l) (hl : l.length < 1099511627776) (hn : at_ + 4 ≤ l.length) (hx0 : 0 ≤ x0) (hx1 : x0 < 4294967296) :
    ∃ r h', (En (L + 10) (d + 2)).go 89 [v, .int .i64 at_, .int .i64 4, .int .u32 x0] h = some (r, h') ∧ r = .bool true ∧ OwnB N h' v (wth l at_ (by4 x0)) ∧ Keep N h h' ∧ Only v h h' := by
  refine go_ex (R := fun r h' => r = .bool true ∧ OwnB N h' v (wth l at_ (by4 x0)) ∧ Keep N h h' ∧ Only v h h') (show tabF 89 = some (.code a89) by rfl) rfl ?_
  unfold a89
  obtain ⟨xv, qv, ev⟩ := hv.sl.val
  have hin := in_spec (L + 10) d xv l.length qv at_ 4 h (by omega)
  rw [decide_eq_true (by omega), ← ev] at hin
  simp (disch := omega) [hin]
  refine W_loop (fun j T h' => ∃ (i : Nat) (x : Int), j = 4 - i ∧ i ≤ 4 ∧ T.get 0 = some v ∧ T.get 1 = some (.int .i64 at_) ∧ T.get 3 = some (.int .u32 x) ∧ 0 ≤ x ∧ x < 4294967296 ∧ T.get 15 = some (.int .i64 4) ∧ T.get 16 = some (.int .i64 i) ∧ OwnB N h' v (wth l at_ ((by4 x0).take i)) ∧ Keep N h h' ∧ Only v h h' ∧ x = (if i = 0 then x0 else if i = 1 then x0 / 256 else if i = 2 then x0 / 256 / 256 else if i = 3 then x0 / 256 / 256 / 256 else x)) 4 (by simp) ⟨0, x0, by simp, by omega, by simp, by simp, by simp, hx0, hx1, by simp, by simp, by rw [List.take_zero, wth_nil]; exact hv, Keep.refl _ _, Only.refl _ _, rfl⟩ ?_
  rintro j T h' ⟨i, x, rfl, hi4, t0, t1, t3, b0, b1, t15, t16, ow, hk, hon, hx⟩
  by_cases hi : i < 4
  · have hx2 : (by4 x0).take i ++ [x % 256] = (by4 x0).take (i + 1) := by
      have : i = 0 ∨ i = 1 ∨ i = 2 ∨ i = 3 := by omega
      rcases this with rfl | rfl | rfl | rfl <;> simp [by4] at hx ⊢ <;> omega
    have hlen : ((by4 x0).take i).length = i := by rw [List.length_take]; simp [by4]; omega
    have hwl : (wth l at_ ((by4 x0).take i)).length = l.length := wth_len (by omega)
    obtain ⟨m, h2, ev2, st, o2, k2, nx2, gt2⟩ := ow.store (at_ + i) (by omega) (x % 256)
    rw [hwl] at ev2
    have ws := wth_set (l := l) (a := at_) (p := (by4 x0).take i) (x % 256) (by omega)
    rw [hlen, hx2] at ws
    rw [ws] at o2
    rw [ev2] at t0
    have et : ((at_ : Int) + i).toNat = at_ + i := by omega
    simp (disch := omega) [t0, t1, t3, t15, t16, decide_eq_true, wrapF_i64, wrapF_mod_u8, aIndexSl_ok, et, st, shrF_div, wrapF_u32]
    refine ⟨4 - (i + 1), by omega, i + 1, rfl, by omega, ev2.symm, by omega, by omega, by simp, o2, hk.trans k2, hon.trans ⟨nx2, fun k hk => gt2 k (hk m 0 _ _ ev2)⟩, ?_⟩
    have : i = 0 ∨ i = 1 ∨ i = 2 ∨ i = 3 := by omega
    rcases this with rfl | rfl | rfl | rfl <;> simp at hx ⊢ <;> rw [hx]
  · have : i = 4 := by omega
    subst this
    simp (disch := omega) [t0, t1, t15, t16]
    exact ⟨by simpa [by4] using ow, hk, hon⟩
theorem put32 (L d : Nat) (v : Value) (l : List Int) (at_ : Nat) (x0 : Int) (N : Nat) (h : AHeap) (hv : OwnB N h v l) (hl : l.length < 1099511627776) (hn : at_ + 4 ≤ l.length) (hx0 : 0 ≤ x0) (hx1 : x0 < 4294967296) :
    ∃ r h', (En (L + 10) (d + 3)).go 63 [v, .int .i64 at_, .int .u32 x0] h = some (r, h') ∧ r = .bool true ∧ OwnB N h' v (wth l at_ (by4 x0)) ∧ Keep N h h' ∧ Only v h h' := by
  refine go_ex (R := fun r h' => r = .bool true ∧ OwnB N h' v (wth l at_ (by4 x0)) ∧ Keep N h h' ∧ Only v h h') (show tabF 63 = some (.code a63) by rfl) rfl ?_
  unfold a63
  obtain ⟨r, h', e, rfl, o, k, u⟩ := put4 L d v l at_ x0 N h hv hl hn hx0 hx1
  simp [e]
  exact ⟨o, k, u⟩

theorem zeros_make (n : Nat) (h : AHeap) (hn : n ≤ 1099511627776) : aMake true EK1 (.int .i64 n) (.int .i64 n) h = some (.slice (some ⟨h.next, 0, none⟩) n n, h.new (.row false 0 (mkZero true 1 [.int .u8 0] n))) := by
  simp only [aMake]
  rw [if_pos (by simp; omega)]
  simp
theorem azeros1 (n : Nat) : azeros 1 [.int .u8 0] n = byV (List.replicate n 0) := by
  apply List.ext_getElem?
  intro i
  rw [get_azeros]
  simp only [byV, List.getElem?_map, List.getElem?_replicate, Nat.mul_one]
  split <;> simp [Nat.mod_one]
theorem zeros_own (n : Nat) (h : AHeap) {N : Nat} (hN : N ≤ h.next) : OwnB N (h.new (.row false 0 (mkZero true 1 [.int .u8 0] n))) (.slice (some ⟨h.next, 0, none⟩) n n) (List.replicate n 0) := by
  refine ⟨by simp, .inr ⟨h.next, mkZero true 1 [.int .u8 0] n, 0, ?_, hN, by simp, by rw [AHeap.get_new, if_pos rfl], .inr rfl, ?_⟩⟩
  · simp
  · rw [toList_mkZero, azeros1]
theorem zeros_spec (L d : Nat) (n : Nat) (h : AHeap) (hn : n ≤ 1099511627776) :
    ∃ r h', (En L (d + 1)).go 34 [.int .i64 n] h = some (r, h') ∧ OwnB h.next h' r (List.replicate n 0) ∧ Keep h.next h h' := by
  refine go_ex (R := fun r h' => OwnB h.next h' r (List.replicate n 0) ∧ Keep h.next h h') (show tabF 34 = some (.code a34) by rfl) rfl ?_
  unfold a34
  simp (disch := omega) [zeros_make]
  exact ⟨zeros_own n h (Nat.le_refl _), (Keep.refl _ _).new (Nat.le_refl _) _⟩
end Go.Proofs.Ytgapfoaklgganaa.L16
