import Derived.Test.YtoehafeeoggpkaaP24
import Derived.Test.YtoehafeeoggpkaaQ24
import Derived.Test.YtoehafeeoggpkaaAM37
import Derived.Test.YtoehafeeoggpkaaR24
set_option linter.unusedVariables false
set_option linter.unusedSimpArgs false
set_option linter.unnecessarySimpa false
/-! Layers 1 and 2 on slices of bytes: numbers, sums. -/
namespace Go.Proofs.Ytoehafeeoggpkaa.L24
open Go Go.Proofs Go.Shelf Go.RowKit Go.Lib Go.Sort Go.AM Go.Proofs.Ytoehafeeoggpkaa.AMC
set_option maxRecDepth 10000
noncomputable section
theorem in_spec (L d : Nat) (a : Option Addr) (len cap : Nat) (at_ n : Int) (h : AHeap) (hl : (len : Int) ≤ 9223372036854775807) :
    (En L (d + 1)).go 90 [.slice a len cap, .int .i64 at_, .int .i64 n] h = some (.bool (decide (at_ ≥ 0 ∧ n ≥ 0 ∧ at_ ≤ len ∧ n ≤ len - at_)), h) := by
  refine go_of (show tabF 90 = some (.code a90) by rfl) rfl ?_
  unfold a90
  by_cases h1 : 0 ≤ at_
  · by_cases h2 : 0 ≤ n
    · by_cases h3 : at_ ≤ len
      · simp (disch := omega) [h1, h2, h3, wrapF_i64]
      · simp [h1, h2, h3]
    · simp [h1, h2]
  · simp [h1]
/-- Four bytes, the lowest first. -/
def le4 (l : List Int) (i : Int) : Int := rdI l i + 256 * rdI l (i + 1) + 65536 * rdI l (i + 2) + 16777216 * rdI l (i + 3)
theorem le4_bd {l : List Int} (hb : Byt l) (i : Int) : 0 ≤ le4 l i ∧ le4 l i < 4294967296 := by
  have b0 := hb.rd i
  have b1 := hb.rd (i + 1)
  have b2 := hb.rd (i + 2)
  have b3 := hb.rd (i + 3)
  unfold le4; omega
theorem little_yes (L d : Nat) (m off cap : Nat) (at_ : Int) (l : List Int) (len : Nat) (hlen : l.length = len) (h : AHeap) (hl : l.length < 4611686018427387904) (hr : RowI h .u8 m off l) (hb : Byt l) (ha0 : 0 ≤ at_) (ha : at_ + 4 ≤ l.length) :
    (En (L + 10) (d + 2)).go 75 [.slice (some ⟨m, off, none⟩) len cap, .int .i64 at_, .int .i64 4] h = some (.tuple #[.int .u32 (le4 l at_), .bool true], h) := by
  refine go_of (show tabF 75 = some (.code a75) by rfl) rfl ?_
  unfold a75
  have hin := in_spec (L + 10) d (some ⟨m, off, none⟩) len cap at_ 4 h (by omega)
  rw [decide_eq_true (by omega)] at hin
  have b0 := hb.rd at_
  have b1 := hb.rd (at_ + 1)
  have b2 := hb.rd (at_ + 2)
  have b3 := hb.rd (at_ + 3)
  simp (disch := omega) [hin, W_loop_all, WL_succ, wrapF_i64, wrapF_u32, aIndexSl_ok, shlF_wrap, or8_u32, or0_u32, hr.rd]
  unfold le4; omega
theorem u32_yes (L d : Nat) (m off cap : Nat) (at_ : Int) (l : List Int) (len : Nat) (hlen : l.length = len) (h : AHeap) (hl : l.length < 4611686018427387904) (hr : RowI h .u8 m off l) (hb : Byt l) (ha0 : 0 ≤ at_) (ha : at_ + 4 ≤ l.length) :
    (En (L + 10) (d + 3)).go 61 [.slice (some ⟨m, off, none⟩) len cap, .int .i64 at_] h = some (.tuple #[.int .u32 (le4 l at_), .bool true], h) := by
  refine go_of (show tabF 61 = some (.code a61) by rfl) rfl ?_
  unfold a61
  simp (disch := omega) [little_yes L d m off cap at_ l len hlen h hl hr hb ha0 ha]
theorem same_spec (L d : Nat) (v w : Value) (l m : List Int) (h : AHeap) (hv : SlB h v l) (hw : SlB h w m) (hl : Byt l) (hm : Byt m) :
    (En L (d + 1)).go 28 [v, w] h = some (.bool (decide (l = m)), h) := by
  refine go_of (show tabF 28 = some (.code a28) by rfl) rfl ?_
  unfold a28
  simp [hv.str, hw.str, aStr, strOf_inj hl hm]
/-- Bytes, others in the place of some. -/
def wth (l : List Int) (a : Nat) (p : List Int) : List Int := l.take a ++ p ++ l.drop (a + p.length)
theorem wth_nil (l : List Int) (a : Nat) : wth l a [] = l := by simp [wth]
theorem wth_len {l : List Int} {a : Nat} {p : List Int} (h : a + p.length ≤ l.length) : (wth l a p).length = l.length := by
  simp [wth]; omega
theorem wth_set {l : List Int} {a : Nat} {p : List Int} (x : Int) (h : a + p.length < l.length) : (wth l a p).set (a + p.length) x = wth l a (p ++ [x]) := by
  have h1 : (l.take a ++ p).length = a + p.length := by simp; omega
  have h2 : l.drop (a + p.length) = l[a + p.length] :: l.drop (a + p.length + 1) := List.drop_eq_getElem_cons h
  unfold wth
  rw [List.set_append_right _ _ (by omega), h1, Nat.sub_self, h2, List.set_cons_zero]
  simp [Nat.add_assoc]
theorem wth_wth {l : List Int} {a : Nat} {p q : List Int} (h : a + p.length + q.length ≤ l.length) : wth (wth l a p) (a + p.length) q = wth l a (p ++ q) := by
  have h1 : (l.take a ++ p).length = a + p.length := by simp; omega
  unfold wth
  rw [List.take_left' h1, List.drop_append, h1, List.drop_of_length_le (by omega), List.nil_append, List.drop_drop, Nat.add_sub_cancel_left, List.length_append, ← Nat.add_assoc, List.append_assoc (l.take a) p q]
theorem wth_byt {l p : List Int} {a : Nat} (hl : Byt l) (hp : Byt p) : Byt (wth l a p) := by
  intro x hx
  simp only [wth, List.mem_append] at hx
  rcases hx with (hx | hx) | hx
  · exact hl x (List.mem_of_mem_take hx)
  · exact hp x hx
  · exact hl x (List.mem_of_mem_drop hx)
theorem with_spec (L d : Nat) (v w : Value) (l p : List Int) (at_ : Nat) (h : AHeap) (hv : SlB h v l) (hw : SlB h w p) (hl : l.length < 1099511627776) (hn : at_ + p.length ≤ l.length) :
    ∃ r h', (En L (d + 1)).go 27 [v, .int .i64 at_, w] h = some (r, h') ∧ OwnB h.next h' r (wth l at_ p) ∧ Keep h.next h h' := by
  refine go_ex (R := fun r h' => OwnB h.next h' r (wth l at_ p) ∧ Keep h.next h h') (show tabF 27 = some (.code a27) by rfl) rfl ?_
  unfold a27
  obtain ⟨v1, c1, s1⟩ := cutB hv (lo := none) (hi := some (.int .i64 at_)) 0 at_ (.inl ⟨rfl, rfl⟩) (.inr ⟨_, rfl⟩) (by omega) (by omega)
  obtain ⟨x1, q1, rfl⟩ := s1.val
  have e1 : ((l.drop 0).take (at_ - 0)).length = at_ := by rw [List.length_take, List.length_drop]; omega
  have f1 : (l.drop 0).take (at_ - 0) = l.take at_ := by simp
  rw [e1] at c1 s1
  rw [f1] at s1 e1
  obtain ⟨v2, h2, c2, o2, k2⟩ := OwnB.append (k := EK1) (OwnB.nil h.next h) s1 rfl rfl (Nat.le_refl _) (by simp; omega)
  obtain ⟨v3, h3, c3, o3, k3⟩ := OwnB.append (k := EK1) o2 (hw.keep k2 (Nat.le_refl _)) rfl rfl k2.next (by simp at e1 ⊢; omega)
  have k4 := k2.trans k3
  obtain ⟨v5, c5, s5⟩ := cutB (hv.keep k4 (Nat.le_refl _)) (lo := some (.int .i64 ((at_ + p.length : Nat) : Int))) (hi := none) (at_ + p.length) l.length (.inr ⟨_, rfl⟩) (.inl ⟨rfl, rfl⟩) (by omega) (by omega)
  have e5 : ((l.drop (at_ + p.length)).take (l.length - (at_ + p.length))) = l.drop (at_ + p.length) := List.take_of_length_le (by simp)
  rw [e5] at s5
  obtain ⟨x5, q5, rfl⟩ := s5.val
  obtain ⟨v6, h6, c6, o6, k6⟩ := OwnB.append (k := EK1) o3 s5 rfl rfl k4.next (by simp at e1 ⊢; omega)
  obtain ⟨xw, qw, rfl⟩ := hw.val
  rw [Int.natCast_add] at c5
  simp only [List.length_drop] at c5 c6
  simp (disch := omega) [wrapF_i64, c1, c2, c3, c5, c6]
  exact ⟨by simpa [wth] using o6, k4.trans k6⟩
theorem zeros_make (n : Nat) (h : AHeap) (hn : n ≤ 1099511627776) : aMake true EK1 (.int .i64 n) (.int .i64 n) h = some (.slice (some ⟨h.next, 0, none⟩) n n, h.new (.row false 0 (mkZero true 1 [.int .u8 0] n))) := by
  simp only [aMake]
  rw [if_pos (by simp; omega)]
  simp
theorem azeros1 (n : Nat) : azeros 1 [.int .u8 0] n = byV (List.replicate n 0) := by
  apply List.ext_getElem?
  intro i
  rw [get_azeros]
  simp only [byV, List.getElem?_map, List.getElem?_replicate, Nat.mul_one]
  split <;> simp [Nat.mod_one]
theorem zeros_own (n : Nat) (h : AHeap) {N : Nat} (hN : N ≤ h.next) : OwnB N (h.new (.row false 0 (mkZero true 1 [.int .u8 0] n))) (.slice (some ⟨h.next, 0, none⟩) n n) (List.replicate n 0) := by
  refine ⟨by simp, .inr ⟨h.next, mkZero true 1 [.int .u8 0] n, 0, ?_, hN, by simp, by rw [AHeap.get_new, if_pos rfl], .inr rfl, ?_⟩⟩
  · simp
  · rw [toList_mkZero, azeros1]
theorem zeros_spec (L d : Nat) (n : Nat) (h : AHeap) (hn : n ≤ 1099511627776) :
    ∃ r h', (En L (d + 1)).go 25 [.int .i64 n] h = some (r, h') ∧ OwnB h.next h' r (List.replicate n 0) ∧ Keep h.next h h' := by
  refine go_ex (R := fun r h' => OwnB h.next h' r (List.replicate n 0) ∧ Keep h.next h h') (show tabF 25 = some (.code a25) by rfl) rfl ?_
  unfold a25
  simp (disch := omega) [zeros_make]
  exact ⟨zeros_own n h (Nat.le_refl _), (Keep.refl _ _).new (Nat.le_refl _) _⟩
/-- Eight bytes, the lowest first. -/
def le8 (l : List Int) (i : Int) : Int := le4 l i + 4294967296 * le4 l (i + 4)
theorem le8_bd {l : List Int} (hb : Byt l) (i : Int) : 0 ≤ le8 l i ∧ le8 l i < 18446744073709551616 := by
  have b0 := le4_bd hb i
  have b1 := le4_bd hb (i + 4)
  unfold le8; omega
theorem little8_yes (L d : Nat) (m off cap : Nat) (at_ : Int) (l : List Int) (len : Nat) (hlen : l.length = len) (h : AHeap) (hl : l.length < 4611686018427387904) (hr : RowI h .u8 m off l) (hb : Byt l) (ha0 : 0 ≤ at_) (ha : at_ + 8 ≤ l.length) :
    (En (L + 10) (d + 2)).go 96 [.slice (some ⟨m, off, none⟩) len cap, .int .i64 at_, .int .i64 8] h = some (.tuple #[.int .u64 (le8 l at_), .bool true], h) := by
  refine go_of (show tabF 96 = some (.code a96) by rfl) rfl ?_
  unfold a96
  have hin := in_spec (L + 10) d (some ⟨m, off, none⟩) len cap at_ 8 h (by omega)
  rw [decide_eq_true (by omega)] at hin
  have b0 := hb.rd at_
  have b1 := hb.rd (at_ + 1)
  have b2 := hb.rd (at_ + 2)
  have b3 := hb.rd (at_ + 3)
  have b4 := hb.rd (at_ + 4)
  have b5 := hb.rd (at_ + 5)
  have b6 := hb.rd (at_ + 6)
  have b7 := hb.rd (at_ + 7)
  simp (disch := omega) [hin, W_loop_all, WL_succ, wrapF_i64, wrapF_u64, aIndexSl_ok, shlF_wrap, or8_u64, or0_u64, hr.rd]
  have e5 : at_ + 4 + 1 = at_ + 5 := by omega
  have e6 : at_ + 4 + 2 = at_ + 6 := by omega
  have e7 : at_ + 4 + 3 = at_ + 7 := by omega
  unfold le8 le4
  rw [e5, e6, e7]
  omega
theorem u64_yes (L d : Nat) (m off cap : Nat) (at_ : Int) (l : List Int) (len : Nat) (hlen : l.length = len) (h : AHeap) (hl : l.length < 4611686018427387904) (hr : RowI h .u8 m off l) (hb : Byt l) (ha0 : 0 ≤ at_) (ha : at_ + 8 ≤ l.length) :
    (En (L + 10) (d + 3)).go 86 [.slice (some ⟨m, off, none⟩) len cap, .int .i64 at_] h = some (.tuple #[.int .u64 (le8 l at_), .bool true], h) := by
  refine go_of (show tabF 86 = some (.code a86) by rfl) rfl ?_
  unfold a86
  simp (disch := omega) [little8_yes L d m off cap at_ l len hlen h hl hr hb ha0 ha]
/-- A number that fits a disk's sectors. -/
def sm (x : Int) : Int := if 8388608 < x then 8388608 else x
theorem sm_bd {x : Int} (h : 0 ≤ x) : 0 ≤ sm x ∧ sm x ≤ 8388608 := by unfold sm; split <;> omega
theorem u32_sl (L d : Nat) (v : Value) (l : List Int) (at_ : Nat) (h : AHeap) (hv : SlB h v l) (hb : Byt l) (hl : l.length < 1000000000) (ha : at_ + 4 ≤ l.length) (hL : 1000000000 < L) :
    (En L (d + 3)).go 61 [v, .int .i64 at_] h = some (.tuple #[.int .u32 (le4 l at_), .bool true], h) := by
  obtain ⟨K, rfl⟩ : ∃ K, L = K + 10 := ⟨L - 10, by omega⟩
  obtain ⟨m, off, cap, rfl, hm, hr⟩ := hv.row (by omega)
  exact u32_yes K d m off cap at_ l l.length rfl h (by omega) hr hb (by omega) (by omega)
theorem small_spec (L d : Nat) (v : Value) (l : List Int) (at_ : Nat) (h : AHeap) (hv : SlB h v l) (hb : Byt l) (hl : l.length < 1000000000) (ha : at_ + 8 ≤ l.length) (hL : 1000000000 < L) :
    (En L (d + 4)).go 69 [v, .int .i64 at_] h = some (.int .i64 (sm (le8 l at_)), h) := by
  obtain ⟨K, rfl⟩ : ∃ K, L = K + 10 := ⟨L - 10, by omega⟩
  obtain ⟨m, off, cap, rfl, hm, hr⟩ := hv.row (by omega)
  have e := u64_yes K d m off cap at_ l l.length rfl h (by omega) hr hb (by omega) (by omega)
  have bd := le8_bd hb at_
  refine go_of (show tabF 69 = some (.code a69) by rfl) rfl ?_
  unfold a69
  generalize le8 l at_ = x at e bd
  by_cases c : 8388608 < x
  · simp (disch := omega) [e, sm, c, mmL, mm2, wrapF_i64]
  · simp (disch := omega) [e, sm, c, mmL, mm2, wrapF_i64]
theorem inD_spec (L d : Nat) (a : Option Addr) (len cap : Nat) (at_ n : Int) (h : AHeap) (hl : (len : Int) ≤ 9223372036854775807) :
    (En L (d + 1)).go 81 [.slice a len cap, .int .i64 at_, .int .i64 n] h = some (.bool (decide (at_ ≥ 0 ∧ n ≥ 0 ∧ at_ ≤ len ∧ n ≤ len - at_)), h) := by
  refine go_of (show tabF 81 = some (.code a81) by rfl) rfl ?_
  unfold a81
  by_cases h1 : 0 ≤ at_
  · by_cases h2 : 0 ≤ n
    · by_cases h3 : at_ ≤ len
      · simp (disch := omega) [h1, h2, h3, wrapF_i64]
      · simp [h1, h2, h3]
    · simp [h1, h2]
  · simp [h1]
theorem wtop : wrapF .u64 18446744073709551616 = 0 := by decide
theorem num4_yes (L d : Nat) (m off cap : Nat) (at_ : Int) (l : List Int) (len : Nat) (hlen : l.length = len) (h : AHeap) (hl : l.length < 4611686018427387904) (hr : RowI h .u8 m off l) (hb : Byt l) (ha0 : 0 ≤ at_) (ha : at_ + 4 ≤ l.length) :
    (En (L + 10) (d + 2)).go 64 [.slice (some ⟨m, off, none⟩) len cap, .int .i64 at_, .int .i64 4] h = some (.tuple #[.int .u64 (le4 l at_), .bool true], h) := by
  refine go_of (show tabF 64 = some (.code a64) by rfl) rfl ?_
  unfold a64
  have hin := inD_spec (L + 10) d (some ⟨m, off, none⟩) len cap at_ 4 h (by omega)
  rw [decide_eq_true (by omega)] at hin
  have b0 := hb.rd at_
  have b1 := hb.rd (at_ + 1)
  have b2 := hb.rd (at_ + 2)
  have b3 := hb.rd (at_ + 3)
  simp (disch := omega) [hin, W_loop_all, WL_succ, wrapF_i64, wrapF_u64, aIndexSl_ok, hr.rd]
  unfold le4; omega
theorem num8_yes (L d : Nat) (m off cap : Nat) (at_ : Int) (l : List Int) (len : Nat) (hlen : l.length = len) (h : AHeap) (hl : l.length < 4611686018427387904) (hr : RowI h .u8 m off l) (hb : Byt l) (ha0 : 0 ≤ at_) (ha : at_ + 8 ≤ l.length) :
    (En (L + 10) (d + 2)).go 64 [.slice (some ⟨m, off, none⟩) len cap, .int .i64 at_, .int .i64 8] h = some (.tuple #[.int .u64 (le8 l at_), .bool true], h) := by
  refine go_of (show tabF 64 = some (.code a64) by rfl) rfl ?_
  unfold a64
  have hin := inD_spec (L + 10) d (some ⟨m, off, none⟩) len cap at_ 8 h (by omega)
  rw [decide_eq_true (by omega)] at hin
  have b0 := hb.rd at_
  have b1 := hb.rd (at_ + 1)
  have b2 := hb.rd (at_ + 2)
  have b3 := hb.rd (at_ + 3)
  have b4 := hb.rd (at_ + 4)
  have b5 := hb.rd (at_ + 5)
  have b6 := hb.rd (at_ + 6)
  have b7 := hb.rd (at_ + 7)
  simp (disch := omega) [hin, W_loop_all, WL_succ, wrapF_i64, wrapF_u64, wtop, aIndexSl_ok, hr.rd]
  have e5 : at_ + 4 + 1 = at_ + 5 := by omega
  have e6 : at_ + 4 + 2 = at_ + 6 := by omega
  have e7 : at_ + 4 + 3 = at_ + 7 := by omega
  unfold le8 le4
  rw [e5, e6, e7]
  omega
theorem int_spec (L d : Nat) (v : Value) (l : List Int) (at_ : Nat) (h : AHeap) (hv : SlB h v l) (hb : Byt l) (hl : l.length < 1000000000) (ha : at_ + 4 ≤ l.length) (hL : 1000000000 < L) :
    (En L (d + 3)).go 39 [v, .int .i64 at_, .int .i64 4] h = some (.int .i64 (le4 l at_), h) := by
  obtain ⟨K, rfl⟩ : ∃ K, L = K + 10 := ⟨L - 10, by omega⟩
  obtain ⟨m, off, cap, rfl, hm, hr⟩ := hv.row (by omega)
  have e := num4_yes K d m off cap at_ l l.length rfl h (by omega) hr hb (by omega) (by omega)
  have bd := le4_bd hb at_
  refine go_of (show tabF 39 = some (.code a39) by rfl) rfl ?_
  unfold a39
  generalize le4 l at_ = x at e bd
  simp (disch := omega) [e, wrapF_i64]
theorem big_spec (L d : Nat) (v : Value) (l : List Int) (at_ : Nat) (h : AHeap) (hv : SlB h v l) (hb : Byt l) (hl : l.length < 1000000000) (ha : at_ + 8 ≤ l.length) (hL : 1000000000 < L) :
    (En L (d + 3)).go 72 [v, .int .i64 at_] h = some (.int .i64 (sm (le8 l at_)), h) := by
  obtain ⟨K, rfl⟩ : ∃ K, L = K + 10 := ⟨L - 10, by omega⟩
  obtain ⟨m, off, cap, rfl, hm, hr⟩ := hv.row (by omega)
  have e := num8_yes K d m off cap at_ l l.length rfl h (by omega) hr hb (by omega) (by omega)
  have bd := le8_bd hb at_
  refine go_of (show tabF 72 = some (.code a72) by rfl) rfl ?_
  unfold a72
  generalize le8 l at_ = x at e bd
  by_cases c : 8388608 < x
  · simp (disch := omega) [e, sm, c, wrapF_i64]
  · simp (disch := omega) [e, sm, c, wrapF_i64]
/-! ### sums -/
theorem step_s (L d : Nat) (s b : Nat) (h : AHeap) (hs : s < 4294967296) (hb : b < 256) (hL : 1000000000 < L) : (En L (d + 1)).go 85 [.int .u32 s, .int .u8 b] h = some (.int .u32 (crcS s b : Nat), h) := by
  obtain ⟨K, rfl⟩ : ∃ K, L = K + 100 := ⟨L - 100, by omega⟩
  exact step_go (show tabF 85 = some (.code stepA) by rfl) s b h hs hb
/-- The sum of bytes. -/
def sumV (l : List Int) : Int := 4294967295 - (crcF 4294967295 l : Nat)
theorem sumV_bd {l : List Int} (hb : Byt l) : 0 ≤ sumV l ∧ sumV l < 4294967296 := by
  have := crcF_lt l (s := 4294967295) (by omega) hb
  unfold sumV; omega
theorem fast_s (L d : Nat) (v : Value) (l : List Int) (h : AHeap) (hv : SlB h v l) (hb : Byt l) (hl : l.length < 1000000) (hL : 1000000000 < L) : (En L (d + 1)).go 71 [v] h = some (.int .u32 (sumV l), h) := by
  obtain ⟨K, rfl⟩ : ∃ K, L = K + 100 := ⟨L - 100, by omega⟩
  exact fast_go (show tabF 71 = some (.code fastA) by rfl) v l h hv hb (by omega) (by omega)
end
end Go.Proofs.Ytoehafeeoggpkaa.L24

set_option linter.unusedVariables false
set_option linter.unusedSimpArgs false
set_option linter.unnecessarySimpa false
/-! Sums; a disk that is bytes. -/
namespace Go.Proofs.Ytoehafeeoggpkaa.L24
open Go Go.Proofs Go.Shelf Go.RowKit Go.Lib Go.Sort Go.AM Go.Proofs.Ytoehafeeoggpkaa.AMC
set_option maxRecDepth 10000
noncomputable section
theorem rd_wth {l p : List Int} {a : Nat} (h : a + p.length ≤ l.length) (i : Nat) : rdI (wth l a p) (i : Int) = if i < a then rdI l i else if i < a + p.length then rdI p ((i - a : Nat) : Int) else rdI l i := by
  have h1 : (l.take a).length = a := by simp; omega
  unfold rdI wth
  simp only [Int.toNat_natCast]
  by_cases c1 : i < a
  · rw [if_pos c1]
    simp only [List.getD_eq_getElem?_getD]
    rw [List.append_assoc, List.getElem?_append_left (by omega), List.getElem?_take, if_pos c1]
  · rw [if_neg c1]
    by_cases c2 : i < a + p.length
    · rw [if_pos c2]
      simp only [List.getD_eq_getElem?_getD]
      rw [List.append_assoc, List.getElem?_append_right (by omega), h1, List.getElem?_append_left (by omega)]
    · rw [if_neg c2]
      simp only [List.getD_eq_getElem?_getD]
      rw [List.getElem?_append_right (by simp; omega)]
      simp only [List.length_append, h1, List.getElem?_drop]
      congr 2; omega
def z4 : List Int := [0, 0, 0, 0]
theorem byt_tn {l : List Int} (hb : Byt l) (i : Int) : ((rdI l i).toNat : Int) = rdI l i ∧ (rdI l i).toNat < 256 := by
  have := hb.rd i
  omega
theorem xor_all {s : Nat} (h : s < 4294967296) : (4294967295 : Nat) ^^^ s = 4294967295 - s := by
  have h' : s < 2 ^ 32 := h
  have e : 4294967295 - s = 2 ^ 32 - (s + 1) := by omega
  rw [e]
  apply Nat.eq_of_testBit_eq
  intro i
  rw [Nat.testBit_two_pow_sub_succ h', Nat.testBit_xor, show (4294967295 : Nat) = 2 ^ 32 - 1 from rfl, Nat.testBit_two_pow_sub_one]
  by_cases hi : i < 32
  · simp [hi]
  · simp only [hi, decide_false, Bool.false_and, Bool.false_xor]
    exact Nat.testBit_lt_two_pow (Nat.lt_of_lt_of_le h' (Nat.pow_le_pow_right (by omega) (by omega)))
theorem notU {s : Nat} (hs : s < 4294967296) : bitsF .xor .u32 (if IntKind.u32.signed = true then -1 else hiK .u32) (s : Int) = some (4294967295 - (s : Int)) := by
  have e : (if IntKind.u32.signed = true then -1 else hiK .u32 : Int) = ((4294967295 : Nat) : Int) := by decide
  rw [e, xorF (by omega) hs, xor_all hs]
  congr 1
  omega
def OvI (v : Value) (l : List Int) (h : AHeap) (j : Nat) (T : Tr Value) (h' : AHeap) : Prop :=
  ∃ i : Nat, j = l.length - i ∧ i ≤ l.length ∧ T.get 1 = some (.int .i64 16) ∧ T.get 8 = some v ∧ T.get 9 = some (.int .i64 l.length) ∧ T.get 10 = some (.int .i64 i) ∧ T.get 5 = some (.int .u32 (crcF 4294967295 ((wth l 16 z4).take i) : Nat)) ∧ h' = h
set_option maxHeartbeats 1000000 in
theorem over_spec (L d : Nat) (v : Value) (l : List Int) (h : AHeap) (hv : SlB h v l) (hb : Byt l) (hl : l.length < 1000000) (h20 : 20 ≤ l.length) (hL : 1000000000 < L) :
    (En L (d + 2)).go 68 [v, .int .i64 16] h = some (.int .u32 (sumV (wth l 16 z4)), h) := by
  have ex : ∃ r h', (En L (d + 2)).go 68 [v, .int .i64 16] h = some (r, h') ∧ r = .int .u32 (sumV (wth l 16 z4)) ∧ h' = h := by
    refine go_ex (R := fun r h' => r = .int .u32 (sumV (wth l 16 z4)) ∧ h' = h) (show tabF 68 = some (.code a68) by rfl) rfl ?_
    unfold a68
    obtain ⟨x, c, ev⟩ := hv.val
    have wl : (wth l 16 z4).length = l.length := wth_len (by show 16 + 4 ≤ _; omega)
    have wb : Byt (wth l 16 z4) := wth_byt hb (by intro x hx; simp only [z4, List.mem_cons, List.not_mem_nil, or_false] at hx; omega)
    simp [ev]
    refine W_loop (OvI v l h) l.length (by show _ < L; omega) ⟨0, rfl, by omega, by simp, by simp [ev], by simp, by simp, by simp [crcF], rfl⟩ ?_
    rintro j T h' ⟨i, rfl, hi, t1, t8, t9, t10, t5, rfl⟩
    by_cases hlt : i < l.length
    · have hlt' : (i : Int) < l.length := by omega
      obtain ⟨m, off, cap, em, hm, hr⟩ := hv.row (by omega)
      rw [em] at t8
      have rd := hr.rd (i := (i : Int)) (by omega) hlt'
      rw [Int.toNat_natCast] at rd
      have bt := byt_tn hb (i : Int)
      have ft := crcF_take 4294967295 (wth l 16 z4) i (by omega)
      have rw_ := rd_wth (l := l) (p := z4) (a := 16) (by show 16 + 4 ≤ _; omega) i
      rw [rw_] at ft
      have lt := crcF_lt ((wth l 16 z4).take i) (s := 4294967295) (by omega) (fun y hy => wb y (List.mem_of_mem_take hy))
      generalize hS : crcF 4294967295 ((wth l 16 z4).take i) = S at t5 ft lt
      by_cases c1 : i < 16
      · rw [if_pos c1] at ft
        have st := step_s L d S (rdI l i).toNat h' lt bt.2 hL
        rw [bt.1, ← ft] at st
        have c1' : ¬ (16 ≤ (i : Int)) := by omega
        simp (disch := omega) [t1, t8, t9, t10, t5, hlt', aIndexSl_ok, rd, c1', st, wrapF_i64]
        exact ⟨l.length - (i + 1), by omega, i + 1, rfl, by omega, by simp [t1], by simp [t8, em], by simp [t9], by simp, by simp, rfl⟩
      · rw [if_neg c1] at ft
        have c1' : 16 ≤ (i : Int) := by omega
        by_cases c2 : i < 20
        · rw [if_pos (show i < 16 + z4.length from c2)] at ft
          have zz : rdI z4 ((i - 16 : Nat) : Int) = 0 := by
            have : i - 16 = 0 ∨ i - 16 = 1 ∨ i - 16 = 2 ∨ i - 16 = 3 := by omega
            rcases this with e | e | e | e <;> rw [e] <;> rfl
          rw [zz] at ft
          have st := step_s L d S 0 h' lt (by omega) hL
          rw [show ((0 : Nat) : Int) = 0 from rfl, show (0 : Nat) = (0 : Int).toNat from rfl, ← ft] at st
          have c2' : (i : Int) - 16 < 4 := by omega
          simp (disch := omega) [t1, t8, t9, t10, t5, hlt', aIndexSl_ok, rd, c1', c2', st, wrapF_i64, wrapF_u64]
          exact ⟨l.length - (i + 1), by omega, i + 1, rfl, by omega, by simp [t1], by simp [t8, em], by simp [t9], by simp, by simp, rfl⟩
        · rw [if_neg (show ¬ i < 16 + z4.length from c2)] at ft
          have st := step_s L d S (rdI l i).toNat h' lt bt.2 hL
          rw [bt.1, ← ft] at st
          have c2' : ¬ ((i : Int) - 16 < 4) := by omega
          simp (disch := omega) [t1, t8, t9, t10, t5, hlt', aIndexSl_ok, rd, c1', c2', st, wrapF_i64, wrapF_u64]
          exact ⟨l.length - (i + 1), by omega, i + 1, rfl, by omega, by simp [t1], by simp [t8, em], by simp [t9], by simp, by simp, rfl⟩
    · have hie : i = l.length := by omega
      subst hie
      rw [← wl, List.take_length] at t5
      have lt := crcF_lt (wth l 16 z4) (s := 4294967295) (by omega) wb
      have nu := notU lt
      simp [t1, t8, t9, t10, t5, nu]
      rfl
  obtain ⟨r, h', e, rfl, rfl⟩ := ex
  exact e
end
end Go.Proofs.Ytoehafeeoggpkaa.L24

set_option linter.unusedVariables false
set_option linter.unusedSimpArgs false
set_option linter.unnecessarySimpa false
/-! The sum of one part; a disk that is bytes. -/
namespace Go.Proofs.Ytoehafeeoggpkaa.L24
open Go Go.Proofs Go.Shelf Go.RowKit Go.Lib Go.Sort Go.AM Go.Proofs.Ytoehafeeoggpkaa.AMC
set_option maxRecDepth 10000
noncomputable section
def MoI (v : Value) (l : List Int) (h : AHeap) (j : Nat) (T : Tr Value) (h' : AHeap) : Prop :=
  ∃ i : Nat, j = l.length - i ∧ i ≤ l.length ∧ T.get 9 = some v ∧ T.get 10 = some (.int .i64 l.length) ∧ T.get 11 = some (.int .i64 i) ∧ T.get 0 = some (.int .u32 (crcF 4294967295 (l.take i) : Nat)) ∧ h' = h
set_option maxHeartbeats 1000000 in
theorem more_spec (L d : Nat) (v : Value) (l : List Int) (h : AHeap) (hv : SlB h v l) (hb : Byt l) (hl : l.length < 1000000) (hL : 1000000000 < L) :
    (En L (d + 2)).go 87 [.int .u32 0, v] h = some (.int .u32 (sumV l), h) := by
  have ex : ∃ r h', (En L (d + 2)).go 87 [.int .u32 0, v] h = some (r, h') ∧ r = .int .u32 (sumV l) ∧ h' = h := by
    refine go_ex (R := fun r h' => r = .int .u32 (sumV l) ∧ h' = h) (show tabF 87 = some (.code a87) by rfl) rfl ?_
    unfold a87
    obtain ⟨x, c, ev⟩ := hv.val
    have n0 : bitsF .xor .u32 (if IntKind.u32.signed = true then -1 else hiK .u32) 0 = some 4294967295 := notU (s := 0) (by omega)
    simp [ev, n0]
    refine W_loop (MoI v l h) l.length (by show _ < L; omega) ⟨0, rfl, by omega, by simp [ev], by simp, by simp, by simp [crcF], rfl⟩ ?_
    rintro j T h' ⟨i, rfl, hi, t9, t10, t11, t0, rfl⟩
    by_cases hlt : i < l.length
    · have hlt' : (i : Int) < l.length := by omega
      obtain ⟨m, off, cap, em, hm, hr⟩ := hv.row (by omega)
      rw [em] at t9
      have rd := hr.rd (i := (i : Int)) (by omega) hlt'
      rw [Int.toNat_natCast] at rd
      have bt := byt_tn hb (i : Int)
      have ft := crcF_take 4294967295 l i (by omega)
      have lt := crcF_lt (l.take i) (s := 4294967295) (by omega) (fun y hy => hb y (List.mem_of_mem_take hy))
      generalize hS : crcF 4294967295 (l.take i) = S at t0 ft lt
      have st := step_s L d S (rdI l i).toNat h' lt bt.2 hL
      rw [bt.1, ← ft] at st
      simp (disch := omega) [t0, t9, t10, t11, hlt', aIndexSl_ok, rd, st, wrapF_i64]
      exact ⟨l.length - (i + 1), by omega, i + 1, rfl, by omega, by simp [t9, em], by simp [t10], by simp, by simp, rfl⟩
    · have hie : i = l.length := by omega
      subst hie
      rw [List.take_length] at t0
      have lt := crcF_lt l (s := 4294967295) (by omega) hb
      have nu := notU lt
      simp [t0, t9, t10, t11, nu]
      rfl
  obtain ⟨r, h', e, rfl, rfl⟩ := ex
  exact e
theorem sum_spec (L d : Nat) (v v0 : Value) (l : List Int) (h : AHeap) (hs : SlC encV 1 h v0 [v]) (hv : SlB h v l) (hb : Byt l) (hl : l.length < 1000000) (hL : 1000000000 < L) :
    (En L (d + 3)).go 70 [v0] h = some (.int .u32 (sumV l), h) := by
  obtain ⟨m, off, cap, rfl, hm, _, ld⟩ := hs.at (enc := encV) (es := 1) (fun e he => rfl) (by simp)
  have d0 : aLoad none (.pointer (some ⟨m, off, none⟩)) h = some v := by simpa using ld h 0 0 v (by simp) rfl (by omega) rfl
  have em := more_spec L d v l h hv hb hl hL
  refine go_of (show tabF 70 = some (.code a70) by rfl) rfl ?_
  unfold a70
  obtain ⟨K, rfl⟩ : ∃ K, L = K + 10 := ⟨L - 10, by omega⟩
  simp (disch := omega) [W_loop_all, WL_succ, aIndexSl_ok, d0, em, wrapF_i64]
/-! ### a disk -/
def sec (l : List Int) (a k : Nat) : List Int := (l.drop a).take k
theorem sec_len {l : List Int} {a k : Nat} (h : a + k ≤ l.length) : (sec l a k).length = k := by simp [sec]; omega
theorem sec_byt {l : List Int} {a k : Nat} (h : Byt l) : Byt (sec l a k) := fun x hx => h x (List.mem_of_mem_drop (List.mem_of_mem_take hx))
theorem msize (L d : Nat) (a : Option Addr) (len cap : Nat) (h : AHeap) : (En L (d + 1)).go 130 [.slice a len cap] h = some (.int .i64 len, h) := by
  refine go_of (show tabF 130 = some (.code a130) by rfl) rfl ?_
  unfold a130
  simp
theorem mread (L d : Nat) (v : Value) (l : List Int) (at_ n : Nat) (h : AHeap) (hs : SlB h v l) (hl : l.length < 1099511627776) (hn : at_ + n ≤ l.length) :
    ∃ b h', (En L (d + 2)).go 129 [v, .int .i64 at_, .int .i64 n] h = some (.tuple #[b, .int .i64 0], h') ∧ OwnB h.next h' b (sec l at_ n) ∧ Keep h.next h h' := by
  have ex : ∃ r h', (En L (d + 2)).go 129 [v, .int .i64 at_, .int .i64 n] h = some (r, h') ∧ ∃ b, r = .tuple #[b, .int .i64 0] ∧ OwnB h.next h' b (sec l at_ n) ∧ Keep h.next h h' := by
    refine go_ex (R := fun r h' => ∃ b, r = .tuple #[b, .int .i64 0] ∧ OwnB h.next h' b (sec l at_ n) ∧ Keep h.next h h') (show tabF 129 = some (.code a129) by rfl) rfl ?_
    unfold a129
    obtain ⟨v1, c1, s1⟩ := cutB hs (lo := some (.int .i64 at_)) (hi := some (.int .i64 (at_ + n))) at_ (at_ + n) (.inr ⟨_, rfl⟩) (.inr ⟨_, by rw [Int.natCast_add]⟩) (by omega) (by omega)
    rw [Nat.add_sub_cancel_left] at s1
    obtain ⟨x1, q1, rfl⟩ := s1.val
    obtain ⟨xv, qv, ev⟩ := hs.val
    have e2 : ((l.drop at_).take n).length = n := by rw [List.length_take, List.length_drop]; omega
    rw [e2] at c1 s1
    obtain ⟨v2, h2, c2, o2, k2⟩ := OwnB.append (k := EK1) (OwnB.nil h.next h) s1 rfl rfl (Nat.le_refl _) (by simp; omega)
    have ms := msize L d xv l.length qv h
    have d1 : ¬ ((at_ : Int) < 0) := by omega
    have d2 : ¬ ((n : Int) < 0) := by omega
    have d3 : ¬ ((l.length : Int) < at_) := by omega
    have d4 : ¬ ((l.length : Int) - at_ < n) := by omega
    subst ev
    simp (disch := omega) [wrapF_i64, ms, d1, d2, d3, d4, c1, c2]
    exact ⟨by simpa [sec] using o2, k2⟩
  obtain ⟨r, h', e, b, rfl, o, k⟩ := ex
  exact ⟨b, h', e, o, k⟩
theorem mreadi (L d : Nat) (v : Value) (l : List Int) (at_ n : Nat) (ai ni : Int) (ha : ai = at_) (hni : ni = n) (h : AHeap) (hs : SlB h v l) (hl : l.length < 1099511627776) (hn : at_ + n ≤ l.length) :
    ∃ b h', (En L (d + 2)).go 129 [v, .int .i64 ai, .int .i64 ni] h = some (.tuple #[b, .int .i64 0], h') ∧ OwnB h.next h' b (sec l at_ n) ∧ Keep h.next h h' := by
  subst ha; subst hni
  exact mread L d v l at_ n h hs hl hn
abbrev mtR : List (TypeId × FuncId) := [(42, 129)]
abbrev mtS : List (TypeId × FuncId) := [(17, 126), (42, 130)]
theorem invR (L d : Nat) (v : Value) (args : List Value) (h : AHeap) : invO (En L d) (.iface 42 v) mtR args h = (En L d).go 129 (v :: args) h := rfl
theorem invS (L d : Nat) (v : Value) (args : List Value) (h : AHeap) : invO (En L d) (.iface 42 v) mtS args h = (En L d).go 130 (v :: args) h := rfl
end
end Go.Proofs.Ytoehafeeoggpkaa.L24

set_option linter.unusedVariables false
set_option linter.unusedSimpArgs false
set_option linter.unnecessarySimpa false
/-! A header's sector, by the program. -/
namespace Go.Proofs.Ytoehafeeoggpkaa.L24
open Go Go.Proofs Go.Shelf Go.RowKit Go.Lib Go.Sort Go.AM Go.Proofs.Ytoehafeeoggpkaa.AMC
set_option maxRecDepth 10000
noncomputable section
def magP (b : List Int) : Prop := (strOf (b.take 8)).data.toList = [69, 70, 73, 32, 80, 65, 82, 84]
instance (b : List Int) : Decidable (magP b) := by unfold magP; infer_instance
def frmP (b : List Int) : Prop := le4 b 8 ≠ 65536 ∨ le4 b 12 ≠ 92 ∨ le4 b 20 ≠ 0 ∨ le4 b 84 ≠ 128 ∨ le4 b 80 < 1 ∨ 128 < le4 b 80 ∨ zeroB (b.drop 92) = false
instance (b : List Int) : Decidable (frmP b) := by unfold frmP; infer_instance
/-- What is wrong with a header. -/
def hdE (b : List Int) : Int := if magP b then (if frmP b then 11 else if le4 b 16 = sumV (wth (b.take 92) 16 z4) then 0 else 12) else 10
def zeroT : Tb := ⟨0, 0, 0, List.replicate 16 0, .slice none 0 0, 0, 0⟩
theorem zeroT_ok : zeroT.Ok := ⟨rfl, by intro x hx; have := List.eq_of_mem_replicate hx; omega, ⟨_, _, _, rfl⟩⟩
def hdT (b : List Int) : Tb := ⟨0, sm (le8 b 40), sm (le8 b 48), sec b 56 16, .slice none 0 0, sm (le8 b 72), 0⟩
theorem hdT_ok {b : List Int} (hb : Byt b) (hl : b.length = 512) : (hdT b).Ok := ⟨sec_len (by omega), sec_byt hb, ⟨_, _, _, rfl⟩⟩
def hT0 (x y z : Int) : Tb := ⟨0, x, y, List.replicate 16 0, .slice none 0 0, z, 0⟩
theorem new22 (h : AHeap) : aNew true [.int .i64 0, .int .i64 0, .int .i64 0, .int .u8 0, .int .u8 0, .int .u8 0, .int .u8 0, .int .u8 0, .int .u8 0, .int .u8 0, .int .u8 0, .int .u8 0, .int .u8 0, .int .u8 0, .int .u8 0, .int .u8 0, .int .u8 0, .int .u8 0, .int .u8 0, .slice none 0 0, .int .i64 0, .int .i64 0] h = some (.pointer (some ⟨h.next, 0, none⟩), h.new (.row false 0 (.vals zeroT.cells))) := rfl
theorem b22z : aBuild (.str [.int .i64 0, .int .i64 0, .int .i64 0, .int .u8 0, .int .u8 0, .int .u8 0, .int .u8 0, .int .u8 0, .int .u8 0, .int .u8 0, .int .u8 0, .int .u8 0, .int .u8 0, .int .u8 0, .int .u8 0, .int .u8 0, .int .u8 0, .int .u8 0, .int .u8 0, .slice none 0 0, .int .i64 0, .int .i64 0] [(0, 1), (1, 1), (2, 1), (3, 16), (19, 1), (20, 1), (21, 1)]) [] = some (.agg zeroT.cells.toArray) := rfl
theorem b22h (x y z : Int) : aBuild (.str [.int .i64 0, .int .i64 0, .int .i64 0, .int .u8 0, .int .u8 0, .int .u8 0, .int .u8 0, .int .u8 0, .int .u8 0, .int .u8 0, .int .u8 0, .int .u8 0, .int .u8 0, .int .u8 0, .int .u8 0, .int .u8 0, .int .u8 0, .int .u8 0, .int .u8 0, .slice none 0 0, .int .i64 0, .int .i64 0] [(0, 1), (1, 1), (2, 1), (3, 16), (19, 1), (20, 1), (21, 1)]) [(1, .int .i64 x), (2, .int .i64 y), (5, .int .i64 z)] = some (.agg (hT0 x y z).cells.toArray) := rfl
theorem blit_vals (cs : List Value) (o : Nat) (c : Cells) : (Cells.vals cs).blit o c = .vals (cs.take o ++ c.toList ++ cs.drop (o + c.size)) := by
  show Cells.vals ((((cs.drop 0).take o) ++ c.toList) ++ ((cs.drop (o + c.size)).take (cs.length - (o + c.size)))) = _
  rw [List.drop_zero, List.take_of_length_le (l := cs.drop (o + c.size)) (by rw [List.length_drop]; omega)]
theorem copyV {h : AHeap} {m o n gr cap : Nat} {cs : List Value} {x : Value} {p : List Int} (g : h.get m = .row false gr (.vals cs)) (hp : SlB h x p) (h0 : 0 < n) (hn : n ≤ p.length) (ho : o + n ≤ cs.length) :
    aCopy 1 (.slice (some ⟨m, o, none⟩) n cap) x h = some (.int .i64 n, h.set m (.row false gr (.vals (cs.take o ++ byV (p.take n) ++ cs.drop (o + n))))) := by
  rcases hp.2 with ⟨_, hz⟩ | ⟨mp, offp, capp, rop, grp, cp, ep, hcp, hmp, hgp, _, hsz, hlp⟩
  · omega
  have htk : aTake 1 n x h = some (cp.ext offp (n * 1)) := by
    rw [ep]
    simp only [aTake]
    rw [if_neg (by omega), if_pos hn]
    simp only [hgp]
    exact if_pos (by omega)
  have hes : (cp.ext offp (n * 1)).size = n := by rw [Cells.size_ext (by omega)]; omega
  have hlo : lenOfA x = some p.length := by rw [ep]; rfl
  have htl : (cp.ext offp (n * 1)).toList = byV (p.take n) := by
    rw [Cells.toList_ext (by omega), ← byV_take, ← hlp, List.take_take]
    congr 1; omega
  have hsz2 : o + (cp.ext offp (n * 1)).size ≤ (Cells.vals cs).size := by rw [hes]; exact ho
  have e : (if p.length ≤ n then p.length else n) = n := by split <;> omega
  simp only [aCopy, hlo, e, htk, g]
  rw [if_neg (by omega), if_pos hsz2]
  rw [blit_vals, hes, htl]
  rfl
def HdR (b : List Int) : Value := if hdE b = 0 then .tuple #[.agg (hdT b).cells.toArray, .int .i64 (le4 b 80), .int .u32 (le4 b 88), .int .i64 (sm (le8 b 24)), .int .i64 (sm (le8 b 32)), .int .i64 0] else .tuple #[.agg zeroT.cells.toArray, .int .i64 0, .int .u32 0, .int .i64 0, .int .i64 0, .int .i64 (hdE b)]
set_option maxHeartbeats 4000000 in
theorem header_spec (L d : Nat) (v : Value) (b : List Int) (h : AHeap) (hv : SlB h v b) (hb : Byt b) (hl : b.length = 512) (hL : 1000000000 < L) :
    ∃ r h', (En L (d + 5)).go 49 [v] h = some (r, h') ∧ r = HdR b ∧ Keep h.next h h' := by
  refine go_ex (R := fun r h' => r = HdR b ∧ Keep h.next h h') (show tabF 49 = some (.code a49) by rfl) rfl ?_
  unfold a49
  have al := new22 h
  obtain ⟨h1, hh1⟩ : ∃ h1, h.new (.row false 0 (.vals zeroT.cells)) = h1 := ⟨_, rfl⟩
  rw [hh1] at al
  have k1 : Keep h.next h h1 := by rw [← hh1]; exact (Keep.refl _ _).new (Nat.le_refl _) _
  have n1 : h1.next = h.next + 1 := by rw [← hh1]; simp
  have g1 : h1.get h.next = .row false 0 (.vals zeroT.cells) := by rw [← hh1, AHeap.get_new, if_pos rfl]
  have hv1 := hv.keep k1 (Nat.le_refl _)
  have sz := store_at g1 zeroT.cells.toArray 22 rfl rfl rfl
  have gz : (h1.set h.next (.row false 0 (.vals zeroT.cells.toArray.toList))).get h.next = .row false 0 (.vals zeroT.cells.toArray.toList) := by rw [AHeap.get_set, if_pos rfl]
  have lz := ld_agg gz (n := 22) rfl
  have kz : Keep h.next h (h1.set h.next (.row false 0 (.vals zeroT.cells.toArray.toList))) := k1.set (Nat.le_refl _) (by omega) _
  have lz' : aLoad (some 22) (.pointer (some ⟨h.next, 0, none⟩)) (h1.set h.next (.row false 0 (.vals zeroT.cells.toArray.toList))) = some (.agg zeroT.cells.toArray) := lz
  obtain ⟨x, c, ev⟩ := hv.val
  obtain ⟨v1, q1, s1⟩ := cutB hv1 (lo := none) (hi := some (.int .i64 ((8 : Nat) : Int))) 0 8 (.inl ⟨rfl, rfl⟩) (.inr ⟨_, rfl⟩) (by omega) (by omega)
  have s1' : SlB h1 v1 (b.take 8) := by simpa using s1
  have q1' : aCut (.sl 1) v none (some (.int .i64 8)) none h1 = some v1 := q1
  have st1 := s1'.str
  by_cases hm : magP b
  · have hm2 := hm
    unfold magP at hm2
    have u8 := u32_sl L (d + 1) v b 8 h1 hv1 hb (by omega) (by omega) hL
    have u12 := u32_sl L (d + 1) v b 12 h1 hv1 hb (by omega) (by omega) hL
    have u16 := u32_sl L (d + 1) v b 16 h1 hv1 hb (by omega) (by omega) hL
    have u20 := u32_sl L (d + 1) v b 20 h1 hv1 hb (by omega) (by omega) hL
    have u80 := u32_sl L (d + 1) v b 80 h1 hv1 hb (by omega) (by omega) hL
    have u84 := u32_sl L (d + 1) v b 84 h1 hv1 hb (by omega) (by omega) hL
    have u88 := u32_sl L (d + 1) v b 88 h1 hv1 hb (by omega) (by omega) hL
    simp only [Int.cast_ofNat_Int] at u8 u12 u16 u20 u80 u84 u88
    obtain ⟨v2, q2, s2⟩ := cutB hv1 (lo := some (.int .i64 ((92 : Nat) : Int))) (hi := none) 92 b.length (.inr ⟨_, rfl⟩) (.inl ⟨rfl, rfl⟩) (by omega) (by omega)
    have s2' : SlB h1 v2 (b.drop 92) := by rwa [List.take_of_length_le (by simp)] at s2
    have q2' : aCut (.sl 1) v (some (.int .i64 92)) none none h1 = some v2 := q2
    have zz := zero_spec L (d + 3) v2 (b.drop 92) h1 s2' (by simp; omega) hL
    obtain ⟨v3, q3, s3⟩ := cutB hv1 (lo := none) (hi := some (.int .i64 ((92 : Nat) : Int))) 0 92 (.inl ⟨rfl, rfl⟩) (.inr ⟨_, rfl⟩) (by omega) (by omega)
    have s3' : SlB h1 v3 (b.take 92) := by simpa using s3
    have q3' : aCut (.sl 1) v none (some (.int .i64 92)) none h1 = some v3 := q3
    have bt92 : Byt (b.take 92) := fun y hy => hb y (List.mem_of_mem_take hy)
    have ov := over_spec L (d + 2) v3 (b.take 92) h1 s3' bt92 (by simp; omega) (by simp; omega) hL
    by_cases hf : frmP b
    · have e : HdR b = .tuple #[.agg zeroT.cells.toArray, .int .i64 0, .int .u32 0, .int .i64 0, .int .i64 0, .int .i64 11] := by
        have : hdE b = 11 := by unfold hdE; rw [if_pos hm, if_pos hf]
        unfold HdR; rw [this]; rfl
      rw [e]
      have leaf : True := trivial
      unfold frmP at hf
      by_cases c1 : le4 b 8 ≠ 65536
      · simp (disch := omega) [al, q1', st1, aStr, hm2, u8, u12, u16, u20, u80, u84, u88, q2', zz, b22z, sz, lz', undef, c1]
        exact kz
      have c1 := Decidable.not_not.1 c1
      rw [c1] at u8
      by_cases c2 : le4 b 12 ≠ 92
      · simp (disch := omega) [al, q1', st1, aStr, hm2, u8, u12, u16, u20, u80, u84, u88, q2', zz, b22z, sz, lz', undef, c2]
        exact kz
      have c2 := Decidable.not_not.1 c2
      rw [c2] at u12
      by_cases c3 : le4 b 20 ≠ 0
      · simp (disch := omega) [al, q1', st1, aStr, hm2, u8, u12, u16, u20, u80, u84, u88, q2', zz, b22z, sz, lz', undef, c3]
        exact kz
      have c3 := Decidable.not_not.1 c3
      rw [c3] at u20
      by_cases c4 : le4 b 84 ≠ 128
      · simp (disch := omega) [al, q1', st1, aStr, hm2, u8, u12, u16, u20, u80, u84, u88, q2', zz, b22z, sz, lz', undef, c4]
        exact kz
      have c4 := Decidable.not_not.1 c4
      rw [c4] at u84
      by_cases c5 : le4 b 80 < 1
      · simp (disch := omega) [al, q1', st1, aStr, hm2, u8, u12, u16, u20, u80, u84, u88, q2', zz, b22z, sz, lz', undef, c5]
        exact kz
      by_cases c6 : 128 < le4 b 80
      · simp (disch := omega) [al, q1', st1, aStr, hm2, u8, u12, u16, u20, u80, u84, u88, q2', zz, b22z, sz, lz', undef, c5, c6]
        exact kz
      have c7 : zeroB (b.drop 92) = false := by
        rcases hf with a | a | a | a | a | a | a
        · exact absurd c1 a
        · exact absurd c2 a
        · exact absurd c3 a
        · exact absurd c4 a
        · exact absurd a c5
        · exact absurd a c6
        · exact a
      rw [c7] at zz
      simp (disch := omega) [al, q1', st1, aStr, hm2, u8, u12, u16, u20, u80, u84, u88, q2', zz, b22z, sz, lz', undef, c5, c6]
      exact kz
    · have hf2 := hf
      unfold frmP at hf2
      have c1 : le4 b 8 = 65536 := Decidable.byContradiction fun a => hf2 (.inl a)
      have c2 : le4 b 12 = 92 := Decidable.byContradiction fun a => hf2 (.inr (.inl a))
      have c3 : le4 b 20 = 0 := Decidable.byContradiction fun a => hf2 (.inr (.inr (.inl a)))
      have c4 : le4 b 84 = 128 := Decidable.byContradiction fun a => hf2 (.inr (.inr (.inr (.inl a))))
      have c5 : ¬ le4 b 80 < 1 := fun a => hf2 (.inr (.inr (.inr (.inr (.inl a)))))
      have c6 : ¬ 128 < le4 b 80 := fun a => hf2 (.inr (.inr (.inr (.inr (.inr (.inl a))))))
      have c7 : zeroB (b.drop 92) = true := by
        cases hz : zeroB (b.drop 92) with
        | true => rfl
        | false => exact absurd (.inr (.inr (.inr (.inr (.inr (.inr hz)))))) hf2
      rw [c7] at zz
      rw [c1] at u8
      rw [c2] at u12
      rw [c3] at u20
      rw [c4] at u84
      by_cases hs : le4 b 16 = sumV (wth (b.take 92) 16 z4)
      · have e : HdR b = .tuple #[.agg (hdT b).cells.toArray, .int .i64 (le4 b 80), .int .u32 (le4 b 88), .int .i64 (sm (le8 b 24)), .int .i64 (sm (le8 b 32)), .int .i64 0] := by
          have : hdE b = 0 := by unfold hdE; rw [if_pos hm, if_neg hf, if_pos hs]
          unfold HdR; rw [this]; rfl
        rw [e]
        have y40 := small_spec L d v b 40 h1 hv1 hb (by omega) (by omega) hL
        have y48 := small_spec L d v b 48 h1 hv1 hb (by omega) (by omega) hL
        have y72 := small_spec L d v b 72 h1 hv1 hb (by omega) (by omega) hL
        have m40 := sm_bd (le8_bd hb ((40 : Nat) : Int)).1
        simp only [Int.cast_ofNat_Int] at y40 y48 y72
        have st2 := store_at g1 (hT0 (sm (le8 b 40)) (sm (le8 b 48)) (sm (le8 b 72))).cells.toArray 22 rfl rfl rfl
        obtain ⟨h2, hh2⟩ : ∃ h2, h1.set h.next (.row false 0 (.vals (hT0 (sm (le8 b 40)) (sm (le8 b 48)) (sm (le8 b 72))).cells.toArray.toList)) = h2 := ⟨_, rfl⟩
        rw [hh2] at st2
        have g2 : h2.get h.next = .row false 0 (.vals (hT0 (sm (le8 b 40)) (sm (le8 b 48)) (sm (le8 b 72))).cells) := by rw [← hh2, AHeap.get_set, if_pos rfl]
        have k2 : Keep h.next h h2 := by rw [← hh2]; exact k1.set (Nat.le_refl _) (by omega) _
        have n2 : h2.next = h.next + 1 := by rw [← hh2, AHeap.next_set, n1]
        have hv2 := hv.keep k2 (Nat.le_refl _)
        have ct := cut_arr (k := 16) (o := 3) g2
        simp only [Nat.zero_mul, Nat.add_zero, ite_self, Nat.sub_zero] at ct
        obtain ⟨v4, q4, s4⟩ := cutB hv2 (lo := some (.int .i64 ((56 : Nat) : Int))) (hi := some (.int .i64 ((72 : Nat) : Int))) 56 72 (.inr ⟨_, rfl⟩) (.inr ⟨_, rfl⟩) (by omega) (by omega)
        have s4' : SlB h2 v4 (sec b 56 16) := s4
        have q4' : aCut (.sl 1) v (some (.int .i64 56)) (some (.int .i64 72)) none h2 = some v4 := q4
        have cp := copyV (o := 3) (n := 16) (cap := 16) g2 s4' (by omega) (by rw [sec_len (by omega)]; omega) (by show 3 + 16 ≤ 22; omega)
        have et : (hT0 (sm (le8 b 40)) (sm (le8 b 48)) (sm (le8 b 72))).cells.take 3 ++ byV ((sec b 56 16).take 16) ++ (hT0 (sm (le8 b 40)) (sm (le8 b 48)) (sm (le8 b 72))).cells.drop (3 + 16) = (hdT b).cells := by
          rw [List.take_of_length_le (l := sec b 56 16) (by rw [sec_len (by omega)]; omega)]
          rfl
        rw [et] at cp
        obtain ⟨h3, hh3⟩ : ∃ h3, h2.set h.next (.row false 0 (.vals (hdT b).cells)) = h3 := ⟨_, rfl⟩
        rw [hh3] at cp
        have g3 : h3.get h.next = .row false 0 (.vals (hdT b).cells) := by rw [← hh3, AHeap.get_set, if_pos rfl]
        have k3 : Keep h.next h h3 := by rw [← hh3]; exact k2.set (Nat.le_refl _) (by omega) _
        have n3 : h3.next = h.next + 1 := by rw [← hh3, AHeap.next_set, n2]
        have ok := hdT_ok hb hl
        have l3 := ok.lall (show TBox h3 h.next (hdT b) from g3)
        have hv3 := hv.keep k3 (Nat.le_refl _)
        have y24 := small_spec L d v b 24 h3 hv3 hb (by omega) (by omega) hL
        have y32 := small_spec L d v b 32 h3 hv3 hb (by omega) (by omega) hL
        simp only [Int.cast_ofNat_Int] at y24 y32
        have st4 := store_at g3 (hdT b).cells.toArray 22 ok.len ok.len ok.one
        have g4 : (h3.set h.next (.row false 0 (.vals (hdT b).cells.toArray.toList))).get h.next = .row false 0 (.vals (hdT b).cells) := by rw [AHeap.get_set, if_pos rfl]
        have l4 := ok.lall (show TBox _ h.next (hdT b) from g4)
        have k4 : Keep h.next h (h3.set h.next (.row false 0 (.vals (hdT b).cells.toArray.toList))) := k3.set (Nat.le_refl _) (by omega) _
        have bq : beqV 10000 (.agg (hdT b).cells.toArray) (.agg (hdT b).cells.toArray) = true := Tb.beq ok ⟨_, _, _, rfl⟩
        rw [hs] at u16
        have w80 := le4_bd hb ((80 : Nat) : Int)
        simp only [Int.cast_ofNat_Int] at w80
        simp (disch := omega) [al, q1', st1, aStr, hm2, u8, u12, u16, u20, u80, u84, u88, q2', zz, q3', ov, c5, c6, y40, y48, y72, b22h, st2, ct, q4', cp, l3, y24, y32, st4, l4, skip0', bq, wrapF_i64, undef]
        exact k4
      · have e : HdR b = .tuple #[.agg zeroT.cells.toArray, .int .i64 0, .int .u32 0, .int .i64 0, .int .i64 0, .int .i64 12] := by
          have : hdE b = 12 := by unfold hdE; rw [if_pos hm, if_neg hf, if_neg hs]
          unfold HdR; rw [this]; rfl
        rw [e]
        simp (disch := omega) [al, q1', st1, aStr, hm2, u8, u12, u16, u20, u80, u84, u88, q2', zz, q3', ov, c5, c6, hs, b22z, sz, lz', undef]
        exact kz
  · have e : HdR b = .tuple #[.agg zeroT.cells.toArray, .int .i64 0, .int .u32 0, .int .i64 0, .int .i64 0, .int .i64 10] := by
      have : hdE b = 10 := by unfold hdE; rw [if_neg hm]
      unfold HdR; rw [this]; rfl
    rw [e]
    unfold magP at hm
    simp [al, q1', st1, aStr, hm, b22z, sz, lz']
    exact kz
end
end Go.Proofs.Ytoehafeeoggpkaa.L24

set_option linter.unusedVariables false
set_option linter.unusedSimpArgs false
set_option linter.unnecessarySimpa false
/-! A header's sector, by the document. -/
namespace Go.Proofs.Ytoehafeeoggpkaa.L24
open Go Go.Proofs Go.Shelf Go.RowKit Go.Lib Go.Sort Go.AM Go.Proofs.Ytoehafeeoggpkaa.AMC
set_option maxRecDepth 10000
noncomputable section
theorem b7z : aBuild (.str [.int .i64 0, .int .i64 0, .int .i64 0, .slice none 0 0, .slice none 0 0, .int .i64 0, .int .i64 0] [(0, 1), (1, 1), (2, 1), (3, 1), (4, 1), (5, 1), (6, 1)]) [] = some (.agg (r7 0 0 0 (.slice none 0 0) (.slice none 0 0) 0 0).toArray) := rfl
theorem b7H (x y z : Int) (a : Option Addr) (n c : Nat) : aBuild (.str [.int .i64 0, .int .i64 0, .int .i64 0, .slice none 0 0, .slice none 0 0, .int .i64 0, .int .i64 0] [(0, 1), (1, 1), (2, 1), (3, 1), (4, 1), (5, 1), (6, 1)]) [(1, .int .i64 x), (2, .int .i64 y), (5, .int .i64 z), (3, .slice a n c)] = some (.agg (r7 0 x y (.slice a n c) (.slice none 0 0) z 0).toArray) := by kernel_rfl
theorem lit4I (a b c d : Int) (h : AHeap) : aBuildSlice true EKI 4 [(0, .int .i64 a), (1, .int .i64 b), (2, .int .i64 c), (3, .int .i64 d)] h = some (.slice (some ⟨h.next, 0, none⟩) 4 4, h.new (.row false 0 (.vals [.int .i64 a, .int .i64 b, .int .i64 c, .int .i64 d]))) := rfl
def HdD (b : List Int) (N : Nat) (r : Value) (h' : AHeap) : Prop :=
  (hdE b = 0 ∧ ∃ vi mv, r = .tuple #[.agg (r7 0 (sm (le8 b 40)) (sm (le8 b 48)) vi (.slice none 0 0) (sm (le8 b 72)) 0).toArray, .slice (some ⟨mv, 0, none⟩) 4 4, .int .i64 0] ∧ SlB h' vi (sec b 56 16) ∧ N ≤ mv ∧ mv < h'.next ∧ h'.get mv = .row false 0 (.vals [.int .i64 (le4 b 80), .int .i64 (le4 b 88), .int .i64 (sm (le8 b 24)), .int .i64 (sm (le8 b 32))])) ∨
  (hdE b ≠ 0 ∧ r = .tuple #[.agg (r7 0 0 0 (.slice none 0 0) (.slice none 0 0) 0 0).toArray, .slice none 0 0, .int .i64 (hdE b)])
theorem HdD.bad {b : List Int} {N : Nat} {h' : AHeap} {c : Int} (e : hdE b = c) (hc : c ≠ 0) : HdD b N (.tuple #[.agg (r7 0 0 0 (.slice none 0 0) (.slice none 0 0) 0 0).toArray, .slice none 0 0, .int .i64 c]) h' := .inr ⟨by rw [e]; exact hc, by rw [e]⟩
theorem cut_eq {h H : AHeap} {m o len cap es : Nat} {lo hi mx : Option Value} (g : H.get m = h.get m) : aCut (.sl es) (.slice (some ⟨m, o, none⟩) len cap) lo hi mx H = aCut (.sl es) (.slice (some ⟨m, o, none⟩) len cap) lo hi mx h := by simp only [aCut, aCutSl, g]
theorem r7_beq {s a b at_ be : Int} {vi vl : Value} (h1 : ∃ x n c, vi = .slice x n c) (h2 : ∃ x n c, vl = .slice x n c) : beqV 10000 (.agg (r7 s a b vi vl at_ be).toArray) (.agg (r7 s a b vi vl at_ be).toArray) = true := by
  refine beqV_agg (n := 9999) (beqL_all _ _ (by show 7 ≤ 9999; omega) ?_)
  intro v hv
  have hv : v ∈ r7 s a b vi vl at_ be := hv
  simp only [r7, List.mem_cons, List.not_mem_nil, or_false] at hv
  rcases hv with rfl | rfl | rfl | rfl | rfl | rfl | rfl
  · exact .inl ⟨_, _, rfl⟩
  · exact .inl ⟨_, _, rfl⟩
  · exact .inl ⟨_, _, rfl⟩
  · exact .inr h1
  · exact .inr h2
  · exact .inl ⟨_, _, rfl⟩
  · exact .inl ⟨_, _, rfl⟩
set_option maxHeartbeats 4000000 in
theorem headerD_spec (L d : Nat) (v : Value) (b : List Int) (h : AHeap) (hw : Wf h) (hv : SlB h v b) (hb : Byt b) (hl : b.length = 512) (hL : 1000000000 < L) :
    ∃ r h', (En L (d + 4)).go 51 [v] h = some (r, h') ∧ HdD b h.next r h' ∧ Keep h.next h h' := by
  refine go_ex (R := fun r h' => HdD b h.next r h' ∧ Keep h.next h h') (show tabF 51 = some (.code a51) by rfl) rfl ?_
  unfold a51
  have al := new7 h
  obtain ⟨h1, hh1⟩ : ∃ h1, h.new (.row false 0 (.vals (r7 0 0 0 (.slice none 0 0) (.slice none 0 0) 0 0))) = h1 := ⟨_, rfl⟩
  rw [hh1] at al
  have k1 : Keep h.next h h1 := by rw [← hh1]; exact (Keep.refl _ _).new (Nat.le_refl _) _
  have n1 : h1.next = h.next + 1 := by rw [← hh1]; simp
  have g1 : h1.get h.next = .row false 0 (.vals (r7 0 0 0 (.slice none 0 0) (.slice none 0 0) 0 0)) := by rw [← hh1, AHeap.get_new, if_pos rfl]
  have hv1 := hv.keep k1 (Nat.le_refl _)
  have sz := store_at g1 (r7 0 0 0 (.slice none 0 0) (.slice none 0 0) 0 0).toArray 7 rfl rfl rfl
  have lz : aLoad (some 7) (.pointer (some ⟨h.next, 0, none⟩)) (h1.set h.next (.row false 0 (.vals (r7 0 0 0 (.slice none 0 0) (.slice none 0 0) 0 0).toArray.toList))) = some (.agg (r7 0 0 0 (.slice none 0 0) (.slice none 0 0) 0 0).toArray) := ld_agg (by rw [AHeap.get_set, if_pos rfl]) rfl
  have kz : Keep h.next h (h1.set h.next (.row false 0 (.vals (r7 0 0 0 (.slice none 0 0) (.slice none 0 0) 0 0).toArray.toList))) := k1.set (Nat.le_refl _) (by omega) _
  obtain ⟨x, c, ev⟩ := hv.val
  obtain ⟨v1, q1, s1⟩ := cutB hv1 (lo := none) (hi := some (.int .i64 ((8 : Nat) : Int))) 0 8 (.inl ⟨rfl, rfl⟩) (.inr ⟨_, rfl⟩) (by omega) (by omega)
  have s1' : SlB h1 v1 (b.take 8) := by simpa using s1
  have q1' : aCut (.sl 1) v none (some (.int .i64 8)) none h1 = some v1 := q1
  have st1 := s1'.str
  by_cases hm : magP b
  · have hm2 := hm
    unfold magP at hm2
    have u8 := int_spec L d v b 8 h1 hv1 hb (by omega) (by omega) hL
    have u12 := int_spec L d v b 12 h1 hv1 hb (by omega) (by omega) hL
    have u16 := int_spec L d v b 16 h1 hv1 hb (by omega) (by omega) hL
    have u20 := int_spec L d v b 20 h1 hv1 hb (by omega) (by omega) hL
    have u80 := int_spec L d v b 80 h1 hv1 hb (by omega) (by omega) hL
    have u84 := int_spec L d v b 84 h1 hv1 hb (by omega) (by omega) hL
    simp only [Int.cast_ofNat_Int] at u8 u12 u16 u20 u80 u84
    obtain ⟨v2, q2, s2⟩ := cutB hv1 (lo := some (.int .i64 ((92 : Nat) : Int))) (hi := none) 92 b.length (.inr ⟨_, rfl⟩) (.inl ⟨rfl, rfl⟩) (by omega) (by omega)
    have s2' : SlB h1 v2 (b.drop 92) := by rwa [List.take_of_length_le (by simp)] at s2
    have q2' : aCut (.sl 1) v (some (.int .i64 92)) none none h1 = some v2 := q2
    have zz := isZero_spec L (d + 2) v2 (b.drop 92) h1 s2' (by simp; omega) hL
    by_cases hf : frmP b
    · have he : hdE b = 11 := by unfold hdE; rw [if_pos hm, if_pos hf]
      unfold frmP at hf
      by_cases c1 : le4 b 8 ≠ 65536
      · simp (disch := omega) [al, q1', st1, aStr, hm2, u8, u12, u16, u20, u80, u84, q2', zz, b7z, sz, lz, undef, c1]
        exact ⟨HdD.bad he (by decide), kz⟩
      have c1 := Decidable.not_not.1 c1
      rw [c1] at u8
      by_cases c2 : le4 b 12 ≠ 92
      · simp (disch := omega) [al, q1', st1, aStr, hm2, u8, u12, u16, u20, u80, u84, q2', zz, b7z, sz, lz, undef, c2]
        exact ⟨HdD.bad he (by decide), kz⟩
      have c2 := Decidable.not_not.1 c2
      rw [c2] at u12
      by_cases c3 : le4 b 20 ≠ 0
      · simp (disch := omega) [al, q1', st1, aStr, hm2, u8, u12, u16, u20, u80, u84, q2', zz, b7z, sz, lz, undef, c3]
        exact ⟨HdD.bad he (by decide), kz⟩
      have c3 := Decidable.not_not.1 c3
      rw [c3] at u20
      by_cases c4 : le4 b 84 ≠ 128
      · simp (disch := omega) [al, q1', st1, aStr, hm2, u8, u12, u16, u20, u80, u84, q2', zz, b7z, sz, lz, undef, c4]
        exact ⟨HdD.bad he (by decide), kz⟩
      have c4 := Decidable.not_not.1 c4
      rw [c4] at u84
      by_cases c5 : le4 b 80 < 1
      · simp (disch := omega) [al, q1', st1, aStr, hm2, u8, u12, u16, u20, u80, u84, q2', zz, b7z, sz, lz, undef, c5]
        exact ⟨HdD.bad he (by decide), kz⟩
      by_cases c6 : 128 < le4 b 80
      · simp (disch := omega) [al, q1', st1, aStr, hm2, u8, u12, u16, u20, u80, u84, q2', zz, b7z, sz, lz, undef, c5, c6]
        exact ⟨HdD.bad he (by decide), kz⟩
      have c7 : zeroB (b.drop 92) = false := by
        rcases hf with a | a | a | a | a | a | a
        · exact absurd c1 a
        · exact absurd c2 a
        · exact absurd c3 a
        · exact absurd c4 a
        · exact absurd a c5
        · exact absurd a c6
        · exact a
      rw [c7] at zz
      simp (disch := omega) [al, q1', st1, aStr, hm2, u8, u12, u16, u20, u80, u84, q2', zz, b7z, sz, lz, undef, c5, c6]
      exact ⟨HdD.bad he (by decide), kz⟩
    · have hf2 := hf
      unfold frmP at hf2
      have c1 : le4 b 8 = 65536 := Decidable.byContradiction fun a => hf2 (.inl a)
      have c2 : le4 b 12 = 92 := Decidable.byContradiction fun a => hf2 (.inr (.inl a))
      have c3 : le4 b 20 = 0 := Decidable.byContradiction fun a => hf2 (.inr (.inr (.inl a)))
      have c4 : le4 b 84 = 128 := Decidable.byContradiction fun a => hf2 (.inr (.inr (.inr (.inl a))))
      have c5 : ¬ le4 b 80 < 1 := fun a => hf2 (.inr (.inr (.inr (.inr (.inl a)))))
      have c6 : ¬ 128 < le4 b 80 := fun a => hf2 (.inr (.inr (.inr (.inr (.inr (.inl a))))))
      have c7 : zeroB (b.drop 92) = true := by
        cases hz : zeroB (b.drop 92) with
        | true => rfl
        | false => exact absurd (.inr (.inr (.inr (.inr (.inr (.inr hz)))))) hf2
      rw [c7] at zz
      rw [c1] at u8
      rw [c2] at u12
      rw [c3] at u20
      rw [c4] at u84
      obtain ⟨v3, q3, s3⟩ := cutB hv1 (lo := none) (hi := some (.int .i64 ((92 : Nat) : Int))) 0 92 (.inl ⟨rfl, rfl⟩) (.inr ⟨_, rfl⟩) (by omega) (by omega)
      have s3' : SlB h1 v3 (b.take 92) := by simpa using s3
      have q3' : aCut (.sl 1) v none (some (.int .i64 92)) none h1 = some v3 := q3
      have bt92 : Byt (b.take 92) := fun y hy => hb y (List.mem_of_mem_take hy)
      obtain ⟨v4, h2, e2, o2, k2⟩ := zeros_spec L (d + 2) 4 h1 (by omega)
      have e2' : (En L (d + 3)).go 25 [.int .i64 4] h1 = some (v4, h2) := e2
      have q3s : aCut (.sl 1) v none (some (.int .i64 92)) none h2 = some v3 := by
        obtain ⟨mv, ov, cv, em, hmv, _⟩ := hv.row (by omega)
        rw [em] at q3' ⊢
        rw [cut_eq (k2.get mv (by omega))]
        exact q3'
      obtain ⟨x3, c3, ev3⟩ := s3'.val
      have bq3 : beqV 10000 v3 v3 = true := by rw [ev3]; exact beqV_slice
      obtain ⟨v5, h3, e3, o3, k3⟩ := with_spec L (d + 2) v3 v4 (b.take 92) (List.replicate 4 0) 16 h2 (s3'.keep k2 (Nat.le_refl _)) o2.sl (by simp; omega) (by simp; omega)
      have e3' : (En L (d + 3)).go 27 [v3, .int .i64 16, v4] h2 = some (v5, h3) := e3
      have bw : Byt (wth (b.take 92) 16 z4) := wth_byt bt92 (by intro y hy; simp only [z4, List.mem_cons, List.not_mem_nil, or_false] at hy; omega)
      have o3' : SlB h3 v5 (wth (b.take 92) 16 z4) := o3.sl
      have kk2 : Keep h.next h h2 := k1.trans (k2.less k1.next)
      have kk3 : Keep h.next h h3 := kk2.trans (k3.less kk2.next)
      have lw : (wth (b.take 92) 16 z4).length < 1000000 := by rw [wth_len (by show 16 + 4 ≤ _; simp; omega)]; simp; omega
      have fs := fast_s L (d + 2) v5 _ h3 o3' bw lw hL
      have hv3 := hv.keep kk3 (Nat.le_refl _)
      have w16 := int_spec L d v b 16 h3 hv3 hb (by omega) (by omega) hL
      simp only [Int.cast_ofNat_Int] at w16
      have sb := sumV_bd bw
      have n3 : h.next < h3.next := by have := k2.next; have := k3.next; omega
      have g3 : h3.get h.next = .row false 0 (.vals (r7 0 0 0 (.slice none 0 0) (.slice none 0 0) 0 0)) := (k3.get _ (by have := k2.next; omega)).trans ((k2.get _ (by omega)).trans g1)
      have hde : hdE b = if le4 b 16 = sumV (wth (b.take 92) 16 z4) then 0 else 12 := by unfold hdE; rw [if_pos hm, if_neg hf]
      generalize sumV (wth (b.take 92) 16 z4) = S at fs sb hde
      by_cases hs : le4 b 16 = S
      · have he : hdE b = 0 := by rw [hde, if_pos hs]
        rw [hs] at w16
        have y40 := big_spec L d v b 40 h3 hv3 hb (by omega) (by omega) hL
        have y48 := big_spec L d v b 48 h3 hv3 hb (by omega) (by omega) hL
        have y72 := big_spec L d v b 72 h3 hv3 hb (by omega) (by omega) hL
        simp only [Int.cast_ofNat_Int] at y40 y48 y72
        obtain ⟨vi, h4, e4, o4, k4⟩ := part_spec L (d + 2) v b 56 16 h3 hv3 (by omega) (by omega)
        have e4' : (En L (d + 3)).go 47 [v, .int .i64 56, .int .i64 16] h3 = some (vi, h4) := e4
        have o4' : SlB h4 vi (sec b 56 16) := o4.sl
        obtain ⟨xi, ci, evi⟩ := o4'.val
        have kk4 : Keep h.next h h4 := kk3.trans (k4.less kk3.next)
        have al4 := new7 h4
        obtain ⟨h5, e5, g5, k5, n5⟩ := store_new h4 (r7 0 0 0 (.slice none 0 0) (.slice none 0 0) 0 0) (r7 0 (sm (le8 b 40)) (sm (le8 b 48)) vi (.slice none 0 0) (sm (le8 b 72)) 0).toArray 7 rfl rfl (by rw [evi]; rfl)
        have b7 := b7H (sm (le8 b 40)) (sm (le8 b 48)) (sm (le8 b 72)) xi (sec b 56 16).length ci
        rw [← evi] at b7
        have kk5 : Keep h.next h h5 := kk4.trans (k5.less kk4.next)
        have n34 : h3.next ≤ h4.next := k4.next
        have g5s : (h5.skip 1).get h4.next = .row false 0 (.vals (r7 0 (sm (le8 b 40)) (sm (le8 b 48)) vi (.slice none 0 0) (sm (le8 b 72)) 0)) := g5
        have l5 := ld_agg g5s (n := 7) rfl
        have kks : Keep h.next h (h5.skip 1) := kk5.skip 1
        have hvs := hv.keep kks (Nat.le_refl _)
        have w88 := int_spec L d v b 88 (h5.skip 1) hvs hb (by omega) (by omega) hL
        have y24 := big_spec L d v b 24 (h5.skip 1) hvs hb (by omega) (by omega) hL
        have y32 := big_spec L d v b 32 (h5.skip 1) hvs hb (by omega) (by omega) hL
        simp only [Int.cast_ofNat_Int] at w88 y24 y32
        have gs : (h5.skip 1).get h.next = .row false 0 (.vals (r7 0 0 0 (.slice none 0 0) (.slice none 0 0) 0 0)) := (k5.get _ (by omega)).trans ((k4.get _ n3).trans g3)
        have st6 := store_at gs (r7 0 (sm (le8 b 40)) (sm (le8 b 48)) vi (.slice none 0 0) (sm (le8 b 72)) 0).toArray 7 rfl rfl (by rw [evi]; rfl)
        have hd := (kk5.wf hw) h5.next (Nat.le_refl _)
        have n45 : h5.next = h4.next + 1 := n5
        have hds : (h5.skip 1).get h5.next = .dead := hd
        obtain ⟨h6, hh6⟩ : ∃ h6, (h5.skip 1).set h.next (.row false 0 (.vals (r7 0 (sm (le8 b 40)) (sm (le8 b 48)) vi (.slice none 0 0) (sm (le8 b 72)) 0))) = h6 := ⟨_, rfl⟩
        have hh6' : (h5.skip 1).set h.next (.row false 0 (.vals (r7 0 (sm (le8 b 40)) (sm (le8 b 48)) vi (.slice none 0 0) (sm (le8 b 72)) 0).toArray.toList)) = h6 := hh6
        rw [hh6'] at st6
        have nx6 : h6.next = h5.next + 1 := by rw [← hh6, AHeap.next_set, AHeap.next_skip]
        have g6 : h6.get h.next = .row false 0 (.vals (r7 0 (sm (le8 b 40)) (sm (le8 b 48)) vi (.slice none 0 0) (sm (le8 b 72)) 0)) := by rw [← hh6, AHeap.get_set, if_pos rfl]
        have hd6 : h6.get h5.next = .dead := by rw [← hh6, AHeap.get_set, if_neg (by omega)]; exact hds
        have kk6 : Keep h.next h h6 := by rw [← hh6]; exact kks.set (Nat.le_refl _) (by rw [AHeap.next_skip]; omega) _
        have dead6 : (AObj.dead).live = false := rfl
        have bq7 : beqV 10000 (.agg (r7 0 (sm (le8 b 40)) (sm (le8 b 48)) vi (.slice none 0 0) (sm (le8 b 72)) 0).toArray) (.agg (r7 0 (sm (le8 b 40)) (sm (le8 b 48)) vi (.slice none 0 0) (sm (le8 b 72)) 0).toArray) = true := r7_beq (by rw [evi]; exact ⟨_, _, _, rfl⟩) ⟨_, _, _, rfl⟩
        simp (disch := omega) [al, q1', st1, aStr, hm2, u8, u12, u16, u20, u80, u84, q2', zz, c5, c6, q3', q3s, bq3, e2', e3', w16, fs, y40, y48, y72, e4', b7, al4, e5, l5, w88, y24, y32, st6, hds, hd6, AObj.live, lit4I, bq7, skip0', undef, wrapF_i64]
        obtain ⟨H7, hH7⟩ : ∃ H7, h6.set h5.next (.row false 0 (.vals [.int .i64 (le4 b 80), .int .i64 (le4 b 88), .int .i64 (sm (le8 b 24)), .int .i64 (sm (le8 b 32))])) = H7 := ⟨_, rfl⟩
        rw [hH7]
        have g7 : H7.get h.next = .row false 0 (.vals (r7 0 (sm (le8 b 40)) (sm (le8 b 48)) vi (.slice none 0 0) (sm (le8 b 72)) 0)) := by rw [← hH7, AHeap.get_set, if_neg (by omega)]; exact g6
        have gv : H7.get h5.next = .row false 0 (.vals [.int .i64 (le4 b 80), .int .i64 (le4 b 88), .int .i64 (sm (le8 b 24)), .int .i64 (sm (le8 b 32))]) := by rw [← hH7, AHeap.get_set, if_pos rfl]
        have n7 : H7.next = h5.next + 1 := by rw [← hH7, AHeap.next_set, nx6]
        have l7 := ld_agg g7 (n := 7) rfl
        rw [l7]
        refine ⟨_, rfl, .inl ⟨he, vi, _, rfl, ?_, by omega, by omega, gv⟩, ?_⟩
        · refine slB_move o4' (by omega) ?_
          intro m' o' n' c' e' hlt
          have hge : h3.next ≤ m' := by
            rcases o4.2 with ⟨_, e1⟩ | ⟨m2, _, _, e1, hg, _⟩
            · rw [e1] at e'; cases e'
            · rw [e1] at e'
              simp only [Value.slice.injEq, Option.some.injEq, Addr.mk.injEq] at e'
              omega
          rw [← hH7, AHeap.get_set, if_neg (by omega), ← hh6, AHeap.get_set, if_neg (by omega), AHeap.get_skip]
          exact k5.get m' hlt
        · rw [← hH7]
          exact kk6.set (by omega) (by omega) _
      · have he : hdE b = 12 := by rw [hde, if_neg hs]
        have sz3 := store_at g3 (r7 0 0 0 (.slice none 0 0) (.slice none 0 0) 0 0).toArray 7 rfl rfl rfl
        have lz3 : aLoad (some 7) (.pointer (some ⟨h.next, 0, none⟩)) (h3.set h.next (.row false 0 (.vals (r7 0 0 0 (.slice none 0 0) (.slice none 0 0) 0 0).toArray.toList))) = some (.agg (r7 0 0 0 (.slice none 0 0) (.slice none 0 0) 0 0).toArray) := ld_agg (by rw [AHeap.get_set, if_pos rfl]) rfl
        simp (disch := omega) [al, q1', st1, aStr, hm2, u8, u12, u16, u20, u80, u84, q2', zz, c5, c6, q3', q3s, bq3, e2', e3', w16, fs, hs, b7z, sz3, lz3, skip0', undef, wrapF_i64]
        exact ⟨HdD.bad he (by decide), kk3.set (Nat.le_refl _) n3 _⟩
  · have he : hdE b = 10 := by unfold hdE; rw [if_neg hm]
    unfold magP at hm
    simp [al, q1', st1, aStr, hm, b7z, sz, lz]
    exact ⟨HdD.bad he (by decide), kz⟩
end
end Go.Proofs.Ytoehafeeoggpkaa.L24

set_option linter.unusedVariables false
set_option linter.unusedSimpArgs false
set_option linter.unnecessarySimpa false
/-! Entries, by the program. -/
namespace Go.Proofs.Ytoehafeeoggpkaa.L24
open Go Go.Proofs Go.Shelf Go.RowKit Go.Lib Go.Sort Go.AM Go.Proofs.Ytoehafeeoggpkaa.AMC
set_option maxRecDepth 10000
noncomputable section
theorem fold_set : ∀ (l : List Value) (k : Nat) (a : Array Value) (i : Nat), k + l.length ≤ a.size → ((l.zipIdx k).foldl (fun (cs : Array Value) (p : Value × Nat) => cs.setIfInBounds p.2 p.1) a)[i]? = if k ≤ i ∧ i < k + l.length then l[i - k]? else a[i]?
  | [], k, a, i, h => by
    rw [if_neg (by simp only [List.length_nil]; omega)]; rfl
  | x :: l, k, a, i, h => by
    simp only [List.length_cons] at h
    rw [List.zipIdx_cons, List.foldl_cons, fold_set l (k + 1) _ i (by simp; omega)]
    simp only [List.length_cons, Array.getElem?_setIfInBounds]
    by_cases h1 : i = k
    · subst h1
      rw [if_neg (by omega), if_pos rfl, if_pos (by omega), if_pos (by omega), Nat.sub_self]
      rfl
    · by_cases h2 : k + 1 ≤ i ∧ i < k + 1 + l.length
      · rw [if_pos h2, if_pos (by omega)]
        obtain ⟨j, rfl⟩ : ∃ j, i = k + 1 + j := ⟨i - (k + 1), by omega⟩
        rw [show k + 1 + j - (k + 1) = j by omega, show k + 1 + j - k = j + 1 by omega, List.getElem?_cons_succ]
      · rw [if_neg h2, if_neg (by omega), if_neg (by omega)]
theorem fold_all {a c : Array Value} (h : a.size = c.size) : c.zipIdx.foldl (fun (cs : Array Value) (p : Value × Nat) => cs.setIfInBounds (0 + p.2) p.1) a = c := by
  apply Array.ext_getElem?
  intro i
  have e : c.zipIdx.foldl (fun (cs : Array Value) (p : Value × Nat) => cs.setIfInBounds (0 + p.2) p.1) a = (c.toList.zipIdx 0).foldl (fun (cs : Array Value) (p : Value × Nat) => cs.setIfInBounds p.2 p.1) a := by
    rw [← Array.foldl_toList, Array.toList_zipIdx]
    simp only [Nat.zero_add]
  rw [e, fold_set _ _ _ _ (by simp; omega)]
  by_cases hi : i < c.size
  · rw [if_pos (by simp; omega)]; simp
  · rw [if_neg (by simp; omega), Array.getElem?_eq_none (by omega), Array.getElem?_eq_none (by omega)]
abbrev EK114 : ElK := ⟨114, 128, [.int .u8 0, .int .u8 0, .int .u8 0, .int .u8 0, .int .u8 0, .int .u8 0, .int .u8 0, .int .u8 0, .int .u8 0, .int .u8 0, .int .u8 0, .int .u8 0, .int .u8 0, .int .u8 0, .int .u8 0, .int .u8 0, .int .u8 0, .int .u8 0, .int .u8 0, .int .u8 0, .int .u8 0, .int .u8 0, .int .u8 0, .int .u8 0, .int .u8 0, .int .u8 0, .int .u8 0, .int .u8 0, .int .u8 0, .int .u8 0, .int .u8 0, .int .u8 0, .int .i64 0, .int .i64 0, .int .u8 0, .int .u8 0, .int .u8 0, .int .u8 0, .int .u8 0, .int .u8 0, .int .u8 0, .int .u8 0, .int .u8 0, .int .u8 0, .int .u8 0, .int .u8 0, .int .u8 0, .int .u8 0, .int .u8 0, .int .u8 0, .int .u8 0, .int .u8 0, .int .u8 0, .int .u8 0, .int .u8 0, .int .u8 0, .int .u8 0, .int .u8 0, .int .u8 0, .int .u8 0, .int .u8 0, .int .u8 0, .int .u8 0, .int .u8 0, .int .u8 0, .int .u8 0, .int .u8 0, .int .u8 0, .int .u8 0, .int .u8 0, .int .u8 0, .int .u8 0, .int .u8 0, .int .u8 0, .int .u8 0, .int .u8 0, .int .u8 0, .int .u8 0, .int .u8 0, .int .u8 0, .int .u8 0, .int .u8 0, .int .u8 0, .int .u8 0, .int .u8 0, .int .u8 0, .int .u8 0, .int .u8 0, .int .u8 0, .int .u8 0, .int .u8 0, .int .u8 0, .int .u8 0, .int .u8 0, .int .u8 0, .int .u8 0, .int .u8 0, .int .u8 0, .int .u8 0, .int .u8 0, .int .u8 0, .int .u8 0, .int .u8 0, .int .u8 0, .int .u8 0, .int .u8 0, .int .u8 0, .int .u8 0, .int .u8 0, .int .u8 0, .int .u8 0, .int .u8 0, .int .u8 0, .int .u8 0]⟩
theorem lit114 {e : Ent} (o : e.Ok) (h : AHeap) : aBuildSlice true EK114 1 [(0, .agg e.cells.toArray)] h = some (.slice (some ⟨h.next, 0, none⟩) 1 1, h.new (.row false 0 (.vals e.cells))) := by
  have hc : (Value.agg e.cells.toArray).cells = e.cells.toArray := rfl
  have hz0 : (azeros 114 EK114.zs 1).length = 114 := rfl
  have hz : (azeros 114 EK114.zs 1).toArray.size = e.cells.toArray.size := by simp [o.len, hz0]
  have hl : e.cells.toArray.size = 114 := by simp [o.len]
  unfold aBuildSlice
  rw [if_pos (.inl (by decide))]
  simp only [Instr.fill, hc, hl, Nat.zero_mul]
  rw [if_neg (by simp [hz0])]
  have := fold_all (a := (azeros 114 EK114.zs 1).toArray) (c := e.cells.toArray) (by rw [hz])
  rw [this]
  simp only [e.one, if_true, e.row]

/-- An entry, of its 128 bytes; entries, of bytes. -/
def entO (r : List Int) : Ent := ⟨r.take 32, sm (le8 r 32), sm (le8 r 40), (r.drop 48).take 80⟩
def entsO (B : List Int) : Nat → List Ent
  | 0 => []
  | i + 1 => entsO B i ++ [entO (sec B (i * 128) 128)]
theorem entsO_len (B : List Int) : ∀ n, (entsO B n).length = n
  | 0 => rfl
  | n + 1 => by simp [entsO, entsO_len B n]
theorem entO_ok {r : List Int} (hb : Byt r) (hl : r.length = 128) : (entO r).Ok := ⟨by simp [entO]; omega, by simp [entO]; omega, fun x hx => hb x (List.mem_of_mem_take hx), fun x hx => hb x (List.mem_of_mem_drop (List.mem_of_mem_take hx))⟩
theorem entsO_ok {B : List Int} (hb : Byt B) : ∀ n, n * 128 ≤ B.length → ∀ e ∈ entsO B n, e.Ok
  | 0, _, e, he => by cases he
  | n + 1, h, e, he => by
    rw [Nat.succ_mul] at h
    rcases List.mem_append.1 he with he | he
    · exact entsO_ok hb n (by omega) e he
    · rw [List.mem_singleton.1 he]
      exact entO_ok (sec_byt hb) (sec_len (by omega))
def eT0 (x y : Int) : Ent := ⟨List.replicate 32 0, x, y, List.replicate 80 0⟩
theorem eT0_ok (x y : Int) : (eT0 x y).Ok := ⟨rfl, rfl, by intro x hx; have := List.eq_of_mem_replicate hx; omega, by intro x hx; have := List.eq_of_mem_replicate hx; omega⟩
theorem b114 (x y : Int) : aBuild (.str [.int .u8 0, .int .u8 0, .int .u8 0, .int .u8 0, .int .u8 0, .int .u8 0, .int .u8 0, .int .u8 0, .int .u8 0, .int .u8 0, .int .u8 0, .int .u8 0, .int .u8 0, .int .u8 0, .int .u8 0, .int .u8 0, .int .u8 0, .int .u8 0, .int .u8 0, .int .u8 0, .int .u8 0, .int .u8 0, .int .u8 0, .int .u8 0, .int .u8 0, .int .u8 0, .int .u8 0, .int .u8 0, .int .u8 0, .int .u8 0, .int .u8 0, .int .u8 0, .int .i64 0, .int .i64 0, .int .u8 0, .int .u8 0, .int .u8 0, .int .u8 0, .int .u8 0, .int .u8 0, .int .u8 0, .int .u8 0, .int .u8 0, .int .u8 0, .int .u8 0, .int .u8 0, .int .u8 0, .int .u8 0, .int .u8 0, .int .u8 0, .int .u8 0, .int .u8 0, .int .u8 0, .int .u8 0, .int .u8 0, .int .u8 0, .int .u8 0, .int .u8 0, .int .u8 0, .int .u8 0, .int .u8 0, .int .u8 0, .int .u8 0, .int .u8 0, .int .u8 0, .int .u8 0, .int .u8 0, .int .u8 0, .int .u8 0, .int .u8 0, .int .u8 0, .int .u8 0, .int .u8 0, .int .u8 0, .int .u8 0, .int .u8 0, .int .u8 0, .int .u8 0, .int .u8 0, .int .u8 0, .int .u8 0, .int .u8 0, .int .u8 0, .int .u8 0, .int .u8 0, .int .u8 0, .int .u8 0, .int .u8 0, .int .u8 0, .int .u8 0, .int .u8 0, .int .u8 0, .int .u8 0, .int .u8 0, .int .u8 0, .int .u8 0, .int .u8 0, .int .u8 0, .int .u8 0, .int .u8 0, .int .u8 0, .int .u8 0, .int .u8 0, .int .u8 0, .int .u8 0, .int .u8 0, .int .u8 0, .int .u8 0, .int .u8 0, .int .u8 0, .int .u8 0, .int .u8 0, .int .u8 0, .int .u8 0] [(0, 32), (32, 1), (33, 1), (34, 80)]) [(1, .int .i64 x), (2, .int .i64 y)] = some (.agg (eT0 x y).cells.toArray) := by rfl
theorem lit1V (x : Option Addr) (n c : Nat) (h : AHeap) : aBuildSlice true EKV 1 [(0, .slice x n c)] h = some (.slice (some ⟨h.next, 0, none⟩) 1 1, h.new (.row false 0 (.vals [.slice x n c]))) := by rfl
theorem mid_eq (A : List Value) (x y : Value) (Z P : List Value) (hA : A.length = 32) (hZ : Z.length = 80) : (A ++ (x :: y :: Z)).take 34 ++ P ++ (A ++ (x :: y :: Z)).drop (34 + 80) = A ++ (x :: y :: P) := by
  have e1 : A ++ (x :: y :: Z) = (A ++ [x, y]) ++ Z := by simp
  have l1 : (A ++ [x, y]).length = 34 := by simp [hA]
  rw [e1, List.take_left' l1, List.drop_append, l1, List.drop_of_length_le (by omega), List.drop_of_length_le (by omega)]
  simp
def RoI (bs : Value) (B : List Int) (n : Nat) (hs : AHeap) (j : Nat) (T : Tr Value) (h' : AHeap) : Prop :=
  ∃ (i : Nat) (w : Value), j = n - i ∧ i ≤ n ∧ T.get 10 = some bs ∧ T.get 45 = some (.int .i64 n) ∧ T.get 46 = some (.int .i64 i) ∧ T.get 12 = some w ∧ Own hs.next h' 114 w (entsO B i).length (flatC Ent.cells (entsO B i)) ∧ Keep hs.next hs h'
/-- What rows hand back. -/
def RowR (l : List Int) (a n : Nat) (S : Int) (N : Nat) (r : Value) (h' : AHeap) : Prop :=
  ((l.length : Int) - n * 128 < (a : Int) * 512 ∧ r = .tuple #[.slice none 0 0, .int .i64 4]) ∨
  (a * 512 + n * 128 ≤ l.length ∧ S ≠ sumV (sec l (a * 512) (n * 128)) ∧ r = .tuple #[.slice none 0 0, .int .i64 12]) ∨
  (a * 512 + n * 128 ≤ l.length ∧ S = sumV (sec l (a * 512) (n * 128)) ∧ ∃ w, r = .tuple #[w, .int .i64 0] ∧ Own N h' 114 w n (flatC Ent.cells (entsO (sec l (a * 512) (n * 128)) n)))
set_option maxHeartbeats 8000000 in
theorem rows50_spec (L d : Nat) (v : Value) (l : List Int) (a n : Nat) (S : Int) (h : AHeap) (hw : Wf h) (hv : SlB h v l) (hb : Byt l) (hl : l.length < 1000000) (ha : a ≤ 8388608) (hn : 1 ≤ n ∧ n ≤ 128) (hL : 1000000000 < L) :
    ∃ r h', (En L (d + 5)).go 50 [.iface 42 v, .int .i64 a, .int .i64 n, .int .u32 S] h = some (r, h') ∧ RowR l a n S h.next r h' ∧ Keep h.next h h' := by
  refine go_ex (R := fun r h' => RowR l a n S h.next r h' ∧ Keep h.next h h') (show tabF 50 = some (.code a50) by rfl) rfl ?_
  unfold a50
  obtain ⟨x, c, ev⟩ := hv.val
  have iS : ∀ H, invO (En L (d + 4)) (.iface 42 v) mtS [] H = some (.int .i64 l.length, H) := fun H => by rw [invS, ev]; exact msize L (d + 3) x l.length c H
  have a0 : ¬ ((a : Int) < 0) := by omega
  by_cases c1 : (l.length : Int) - n * 128 < (a : Int) * 512
  · simp (disch := omega) [WS_inv, a0, iS, c1, wrapF_i64]
    exact ⟨.inl ⟨c1, rfl⟩, Keep.refl _ _⟩
  have hle : a * 512 + n * 128 ≤ l.length := by omega
  obtain ⟨b, h1, e1, o1, k1⟩ := mreadi L (d + 2) v l (a * 512) (n * 128) ((a : Int) * 512) ((n : Int) * 128) (by omega) (by omega) h hv (by omega) hle
  have iR : invO (En L (d + 4)) (.iface 42 v) mtR [.int .i64 ((a : Int) * 512), .int .i64 ((n : Int) * 128)] h = some (.tuple #[b, .int .i64 0], h1) := by rw [invR]; exact e1
  have sb := o1.sl
  have bB : Byt (sec l (a * 512) (n * 128)) := sec_byt hb
  have lB : (sec l (a * 512) (n * 128)).length = n * 128 := sec_len hle
  generalize hB : sec l (a * 512) (n * 128) = B at sb bB lB
  obtain ⟨xb, cb, evb⟩ := sb.val
  have li := lit1V xb B.length cb h1
  rw [← evb] at li
  obtain ⟨h2, hh2⟩ : ∃ h2, h1.new (.row false 0 (.vals [b])) = h2 := ⟨_, rfl⟩
  rw [hh2] at li
  have k2 : Keep h1.next h1 h2 := by rw [← hh2]; exact (Keep.refl _ _).new (Nat.le_refl _) _
  have n2 : h2.next = h1.next + 1 := by rw [← hh2]; simp
  have g2 : h2.get h1.next = .row false 0 (.vals [b]) := by rw [← hh2, AHeap.get_new, if_pos rfl]
  have s2 : SlC encV 1 h2 (.slice (some ⟨h1.next, 0, none⟩) 1 1) [b] := ⟨rfl, .inr ⟨h1.next, 0, 1, false, 0, _, rfl, Nat.le_refl _, by omega, g2, .inl rfl, by show 0 + 1 * 1 ≤ 1; omega, rfl⟩⟩
  have sb2 := sb.keep k2 (Nat.le_refl _)
  have sm2 := sum_spec L (d + 1) b _ B h2 s2 sb2 bB (by omega) hL
  have kk2 : Keep h.next h h2 := k1.trans (k2.less k1.next)
  by_cases c2 : S = sumV B
  · subst c2
    have c1' : ¬ (l.length : Int) - n * 128 < (a : Int) * 512 := c1
    simp (disch := omega) [WS_inv, a0, iS, c1', iR, li, sm2, wrapF_i64]
    refine W_loop (RoI b B n h2) n (by show _ < L; omega) ⟨0, .slice none 0 0, rfl, by omega, by simp, by simp, by simp, by simp, Own.nil _ _ _, Keep.refl _ _⟩ ?_
    rintro j T h' ⟨i, w, rfl, hi, t10, t45, t46, t12, ow, kk⟩
    have kk5 : Keep h.next h h' := kk2.trans (kk.less kk2.next)
    by_cases hlt : i < n
    · have hlt' : (i : Int) < n := by omega
      have sb5 := sb2.keep kk (Nat.le_refl _)
      obtain ⟨v1, q1, s1⟩ := cutB sb5 (lo := some (.int .i64 ((i * 128 : Nat) : Int))) (hi := some (.int .i64 ((i * 128 + 128 : Nat) : Int))) (i * 128) (i * 128 + 128) (.inr ⟨_, rfl⟩) (.inr ⟨_, rfl⟩) (by omega) (by omega)
      rw [Nat.add_sub_cancel_left] at s1
      have s1' : SlB h' v1 (sec B (i * 128) 128) := s1
      have q1' : aCut (.sl 1) b (some (.int .i64 ((i : Int) * 128))) (some (.int .i64 (((i : Int) + 1) * 128))) none h' = some v1 := by
        rw [← q1]; congr 3 <;> omega
      have bR : Byt (sec B (i * 128) 128) := sec_byt bB
      have lR : (sec B (i * 128) 128).length = 128 := sec_len (by omega)
      have es : entsO B (i + 1) = entsO B i ++ [entO (sec B (i * 128) 128)] := rfl
      have okR := entO_ok bR lR
      have el := entsO_len B i
      have step : ∀ (T6 : Tr Value) (h6 : AHeap) (w6 : Value), T6.get 10 = some b → T6.get 45 = some (.int .i64 n) → T6.get 46 = some (.int .i64 (i + 1)) → T6.get 12 = some w6 → Own h2.next h6 114 w6 (entsO B i ++ [entO (sec B (i * 128) 128)]).length (flatC Ent.cells (entsO B i ++ [entO (sec B (i * 128) 128)])) → Keep h2.next h2 h6 → ∃ j', j' < n - i ∧ RoI b B n h2 j' T6 h6 := fun T6 h6 w6 a10 a45 a46 a12 o6 k6 =>
        ⟨n - (i + 1), by omega, i + 1, w6, rfl, by omega, a10, a45, by rw [a46]; simp, a12, by rw [es]; exact o6, k6⟩
      generalize sec B (i * 128) 128 = R at s1' bR lR okR step
      have y32 := small_spec L d v1 R 32 h' s1' bR (by omega) (by omega) hL
      have y40 := small_spec L d v1 R 40 h' s1' bR (by omega) (by omega) hL
      simp only [Int.cast_ofNat_Int] at y32 y40
      have n114 := new114 h'
      obtain ⟨h6, e6, b6, k6, n6⟩ := (eT0_ok (sm (le8 R 32)) (sm (le8 R 40))).store h'
      have b6' : h6.get h'.next = .row false 0 (.vals (eT0 (sm (le8 R 32)) (sm (le8 R 40))).cells) := b6
      have c32 := cut_arr (k := 32) (o := 0) b6'
      simp only [Nat.zero_mul, Nat.add_zero, ite_self, Nat.sub_zero] at c32
      have s6 := s1'.keep k6 (Nat.le_refl _)
      have cp1 := copyV (o := 0) (n := 32) (cap := 32) b6' s6 (by omega) (by omega) (by show 0 + 32 ≤ 114; omega)
      obtain ⟨h7, hh7⟩ : ∃ h7, h6.set h'.next (.row false 0 (.vals ((eT0 (sm (le8 R 32)) (sm (le8 R 40))).cells.take 0 ++ byV (R.take 32) ++ (eT0 (sm (le8 R 32)) (sm (le8 R 40))).cells.drop (0 + 32)))) = h7 := ⟨_, rfl⟩
      rw [hh7] at cp1
      have g7 : h7.get h'.next = .row false 0 (.vals ((eT0 (sm (le8 R 32)) (sm (le8 R 40))).cells.take 0 ++ byV (R.take 32) ++ (eT0 (sm (le8 R 32)) (sm (le8 R 40))).cells.drop (0 + 32))) := by rw [← hh7, AHeap.get_set, if_pos rfl]
      have k7 : Keep h'.next h' h7 := by rw [← hh7]; exact k6.set (Nat.le_refl _) (by omega) _
      have n7 : h7.next = h'.next + 1 := by rw [← hh7, AHeap.next_set, n6]
      have e7 : (eT0 (sm (le8 R 32)) (sm (le8 R 40))).cells.take 0 ++ byV (R.take 32) ++ (eT0 (sm (le8 R 32)) (sm (le8 R 40))).cells.drop (0 + 32) = byV (R.take 32) ++ (.int .i64 (sm (le8 R 32)) :: .int .i64 (sm (le8 R 40)) :: byV (List.replicate 80 0)) := rfl
      rw [e7] at g7
      have c80 := cut_arr (k := 80) (o := 34) g7
      simp only [Nat.zero_mul, Nat.add_zero, ite_self, Nat.sub_zero] at c80
      have s7 := s1'.keep k7 (Nat.le_refl _)
      obtain ⟨v2, q2, s2'⟩ := cutB s7 (lo := some (.int .i64 ((48 : Nat) : Int))) (hi := none) 48 R.length (.inr ⟨_, rfl⟩) (.inl ⟨rfl, rfl⟩) (by omega) (by omega)
      have s2'' : SlB h7 v2 (R.drop 48) := by rwa [List.take_of_length_le (by simp)] at s2'
      have q2' : aCut (.sl 1) v1 (some (.int .i64 48)) none none h7 = some v2 := q2
      have tl : (R.take 32).length = 32 := by rw [List.length_take]; omega
      have cp2 := copyV (o := 34) (n := 80) (cap := 80) g7 s2'' (by omega) (by rw [List.length_drop]; omega) (by simp [tl])
      have e8 : (byV (R.take 32) ++ (.int .i64 (sm (le8 R 32)) :: .int .i64 (sm (le8 R 40)) :: byV (List.replicate 80 0))).take 34 ++ byV ((R.drop 48).take 80) ++ (byV (R.take 32) ++ (.int .i64 (sm (le8 R 32)) :: .int .i64 (sm (le8 R 40)) :: byV (List.replicate 80 0))).drop (34 + 80) = (entO R).cells := by
        exact mid_eq _ _ _ _ _ (by rw [byV_length, tl]) (by simp)
      rw [e8] at cp2
      obtain ⟨h8, hh8⟩ : ∃ h8, h7.set h'.next (.row false 0 (.vals (entO R).cells)) = h8 := ⟨_, rfl⟩
      rw [hh8] at cp2
      have g8 : EBox h8 h'.next (entO R) := by rw [← hh8]; unfold EBox; rw [AHeap.get_set, if_pos rfl]
      have k8 : Keep h'.next h' h8 := by rw [← hh8]; exact k7.set (Nat.le_refl _) (by omega) _
      have l8 := okR.lall g8
      have li8 := lit114 okR h8
      have kk8 : Keep h2.next h2 h8 := kk.trans (k8.less kk.next)
      obtain ⟨w9, h9, e9, o9, k9⟩ := pushC (k := EK114) (enc := Ent.cells) (ow.keep k8 (Nat.le_refl _)) kk8.next (entO R) okR.len (by decide) (by show _ * 128 ≤ _; omega) (by omega)
      have kk9 := kk8.trans k9
      simp (disch := omega) [t10, t45, t46, t12, hlt', q1', y32, y40, n114, b114, e6, c32, cp1, c80, q2', cp2, l8, li8, e9, skip0', wrapF_i64]
      exact step _ _ w9 (by simp [t10]) (by simp [t45]) (by simp) (by simp) o9 kk9
    · have hie : i = n := by omega
      subst hie
      rw [entsO_len] at ow
      simp (disch := omega) [t10, t45, t46, t12]
      exact ⟨.inr (.inr ⟨hle, by rw [hB], w, rfl, by rw [hB]; exact ownM ow kk2.next⟩), kk5⟩
  · have c1' : ¬ (l.length : Int) - n * 128 < (a : Int) * 512 := c1
    simp (disch := omega) [WS_inv, a0, iS, c1', iR, li, sm2, c2, wrapF_i64]
    exact ⟨.inr (.inl ⟨hle, by rw [hB]; exact c2, rfl⟩), kk2⟩
end
end Go.Proofs.Ytoehafeeoggpkaa.L24

set_option linter.unusedVariables false
set_option linter.unusedSimpArgs false
set_option linter.unnecessarySimpa false
/-! Entries, by the document. -/
namespace Go.Proofs.Ytoehafeeoggpkaa.L24
open Go Go.Proofs Go.Shelf Go.RowKit Go.Lib Go.Sort Go.AM Go.Proofs.Ytoehafeeoggpkaa.AMC
set_option maxRecDepth 10000
noncomputable section
def LiI (bs : Value) (B : List Int) (n : Nat) (hs : AHeap) (j : Nat) (T : Tr Value) (h' : AHeap) : Prop :=
  ∃ (i : Nat) (w : Value) (rl : List REnt), j = n - i ∧ i ≤ n ∧ T.get 10 = some bs ∧ T.get 2 = some (.int .i64 n) ∧ T.get 12 = some (.int .i64 i) ∧ T.get 11 = some w ∧ Own hs.next h' 4 w rl.length (flatC rEnc rl) ∧ RS rl ∧ rl.length = i ∧ RL h' rl (entsO B i) ∧ Keep hs.next hs h'
def LstR (l : List Int) (a n : Nat) (S : Int) (N : Nat) (r : Value) (h' : AHeap) : Prop :=
  ((l.length : Int) - n * 128 < (a : Int) * 512 ∧ r = .tuple #[.slice none 0 0, .int .i64 4]) ∨
  (a * 512 + n * 128 ≤ l.length ∧ S ≠ sumV (sec l (a * 512) (n * 128)) ∧ r = .tuple #[.slice none 0 0, .int .i64 12]) ∨
  (a * 512 + n * 128 ≤ l.length ∧ S = sumV (sec l (a * 512) (n * 128)) ∧ ∃ w rl, r = .tuple #[w, .int .i64 0] ∧ Own N h' 4 w rl.length (flatC rEnc rl) ∧ RS rl ∧ RL h' rl (entsO (sec l (a * 512) (n * 128)) n))
set_option maxHeartbeats 8000000 in
theorem list52_spec (L d : Nat) (v : Value) (l : List Int) (a n : Nat) (S : Int) (h : AHeap) (hw : Wf h) (hv : SlB h v l) (hb : Byt l) (hl : l.length < 1000000) (ha : a ≤ 8388608) (hn : 1 ≤ n ∧ n ≤ 128) (hL : 1000000000 < L) :
    ∃ r h', (En L (d + 4)).go 52 [v, .int .i64 a, .int .i64 n, .int .i64 S] h = some (r, h') ∧ LstR l a n S h.next r h' ∧ Keep h.next h h' := by
  refine go_ex (R := fun r h' => LstR l a n S h.next r h' ∧ Keep h.next h h') (show tabF 52 = some (.code a52) by rfl) rfl ?_
  unfold a52
  obtain ⟨x, c, ev⟩ := hv.val
  by_cases c1 : (l.length : Int) - n * 128 < (a : Int) * 512
  · simp (disch := omega) [ev, c1, wrapF_i64]
    exact ⟨.inl ⟨c1, rfl⟩, Keep.refl _ _⟩
  have hle : a * 512 + n * 128 ≤ l.length := by omega
  obtain ⟨b, q0, sb⟩ := cutB hv (lo := some (.int .i64 ((a * 512 : Nat) : Int))) (hi := some (.int .i64 ((a * 512 + n * 128 : Nat) : Int))) (a * 512) (a * 512 + n * 128) (.inr ⟨_, rfl⟩) (.inr ⟨_, rfl⟩) (by omega) (by omega)
  rw [Nat.add_sub_cancel_left] at sb
  have sb : SlB h b (sec l (a * 512) (n * 128)) := sb
  have q0' : aCut (.sl 1) v (some (.int .i64 ((a : Int) * 512))) (some (.int .i64 ((a : Int) * 512 + (n : Int) * 128))) none h = some b := by
    rw [← q0]; congr 3 <;> omega
  have bB : Byt (sec l (a * 512) (n * 128)) := sec_byt hb
  have lB : (sec l (a * 512) (n * 128)).length = n * 128 := sec_len hle
  generalize hB : sec l (a * 512) (n * 128) = B at sb bB lB
  have fs := fast_s L (d + 2) b B h sb bB (by omega) hL
  have sbd := sumV_bd bB
  have c1' : ¬ (l.length : Int) - n * 128 < (a : Int) * 512 := c1
  rw [ev] at q0'
  by_cases c2 : sumV B = S
  · rw [c2] at sbd fs
    simp (disch := omega) [ev, c1', q0', fs, wrapF_i64]
    refine W_loop (LiI b B n h) n (by show _ < L; omega) ⟨0, .slice none 0 0, [], rfl, by omega, by simp, by simp, by simp, by simp, Own.nil _ _ _, (by intro p hp; cases hp), rfl, ⟨rfl, by intro i a b; simp at a⟩, Keep.refl _ _⟩ ?_
    rintro j T h' ⟨i, w, rl, rfl, hi, t10, t2, t12, t11, ow, rs, hri, hrl, kk⟩
    by_cases hlt : i < n
    · have hlt' : (i : Int) < n := by omega
      have sb5 := sb.keep kk (Nat.le_refl _)
      obtain ⟨v1, q1, s1⟩ := cutB sb5 (lo := some (.int .i64 ((i * 128 : Nat) : Int))) (hi := some (.int .i64 ((i * 128 + 128 : Nat) : Int))) (i * 128) (i * 128 + 128) (.inr ⟨_, rfl⟩) (.inr ⟨_, rfl⟩) (by omega) (by omega)
      rw [Nat.add_sub_cancel_left] at s1
      have s1' : SlB h' v1 (sec B (i * 128) 128) := s1
      have q1' : aCut (.sl 1) b (some (.int .i64 (128 * (i : Int)))) (some (.int .i64 (128 * (i : Int) + 128))) none h' = some v1 := by
        rw [← q1]; congr 3 <;> omega
      have bR : Byt (sec B (i * 128) 128) := sec_byt bB
      have lR : (sec B (i * 128) 128).length = 128 := sec_len (by omega)
      have es : entsO B (i + 1) = entsO B i ++ [entO (sec B (i * 128) 128)] := rfl
      have okR := entO_ok bR lR
      have el := entsO_len B i
      have okl := entsO_ok bB i (by omega)
      have step : ∀ (T6 : Tr Value) (h6 : AHeap) (w6 : Value) (rl6 : List REnt), T6.get 10 = some b → T6.get 2 = some (.int .i64 n) → T6.get 12 = some (.int .i64 (i + 1)) → T6.get 11 = some w6 → Own h.next h6 4 w6 rl6.length (flatC rEnc rl6) → RS rl6 → rl6.length = i + 1 → RL h6 rl6 (entsO B i ++ [entO (sec B (i * 128) 128)]) → Keep h.next h h6 → ∃ j', j' < n - i ∧ LiI b B n h j' T6 h6 := fun T6 h6 w6 rl6 a10 a2 a12 a11 o6 r6 l6 rr6 k6 =>
        ⟨n - (i + 1), by omega, i + 1, w6, rl6, rfl, by omega, a10, a2, by rw [a12]; simp, a11, o6, r6, l6, by rw [es]; exact rr6, k6⟩
      generalize sec B (i * 128) 128 = R at s1' bR lR okR step
      obtain ⟨r1, h7, e7, o7, k7⟩ := part_spec L (d + 2) v1 R 0 32 h' s1' (by omega) (by omega)
      have e7' : (En L (d + 3)).go 47 [v1, .int .i64 0, .int .i64 32] h' = some (r1, h7) := e7
      have s7 := s1'.keep k7 (Nat.le_refl _)
      have y32 := big_spec L d v1 R 32 h7 s7 bR (by omega) (by omega) hL
      have y40 := big_spec L d v1 R 40 h7 s7 bR (by omega) (by omega) hL
      simp only [Int.cast_ofNat_Int] at y32 y40
      obtain ⟨r2, h8, e8, o8, k8⟩ := part_spec L (d + 2) v1 R 48 80 h7 s7 (by omega) (by omega)
      have e8' : (En L (d + 3)).go 47 [v1, .int .i64 48, .int .i64 80] h7 = some (r2, h8) := e8
      have o7s : SlB h7 r1 (entO R).ids := by have := o7.sl; rwa [List.drop_zero] at this
      have o8s : SlB h8 r2 (entO R).rest := o8.sl
      have o7s8 := o7s.keep k8 (Nat.le_refl _)
      obtain ⟨x1, c1_, ev1⟩ := o7s.val
      obtain ⟨x2, c2_, ev2⟩ := o8s.val
      have b4 := b4R (sm (le8 R 32)) (sm (le8 R 40)) x1 x2 (entO R).ids.length c1_ (entO R).rest.length c2_
      have l4 := lit4R (sm (le8 R 32)) (sm (le8 R 40)) x1 x2 (entO R).ids.length c1_ (entO R).rest.length c2_ h8
      rw [← ev1, ← ev2] at b4 l4
      obtain ⟨h9, hh9⟩ : ∃ h9, h8.new (.row false 0 (.vals [r1, .int .i64 (sm (le8 R 32)), .int .i64 (sm (le8 R 40)), r2])) = h9 := ⟨_, rfl⟩
      rw [hh9] at l4
      have k9 : Keep h8.next h8 h9 := by rw [← hh9]; exact (Keep.refl _ _).new (Nat.le_refl _) _
      have g9 : h9.get h8.next = .row false 0 (.vals [r1, .int .i64 (sm (le8 R 32)), .int .i64 (sm (le8 R 40)), r2]) := by rw [← hh9, AHeap.get_new, if_pos rfl]
      have kp : Keep h'.next h' h9 := k7.trans ((k8.trans (k9.less k8.next)).less k7.next)
      have ow9 := ow.keep kp (Nat.le_refl _)
      have kk9 := kk.trans (kp.less kk.next)
      obtain ⟨w10, h10, e10, o10, k10, f10⟩ := push_two (k := EKR) ow9 g9 rfl (by decide) kk9.next (by show (rl.length + 1) * 64 ≤ _; omega) (by omega)
      have kk10 := kk9.trans k10
      have hrl9 := hrl.keep kp (Nat.le_refl _)
      have mv : ∀ v ids, 0 < ids.length → SlB h9 v ids → SlB h10 v ids := by
        intro v ids h0 sv
        refine slB_move sv k10.next ?_
        intro m' o' n' c' ev' hlt'
        refine f10 _ hlt' ?_
        intro m0 o0 n0 c0 ew
        rcases ow9.2 with ⟨hz, ew2⟩ | ⟨hz, m9, ew2, _, _, gw⟩
        · rw [ew] at ew2; cases ew2
        · rw [ew] at ew2
          simp only [Value.slice.injEq, Option.some.injEq, Addr.mk.injEq] at ew2
          rw [ew2.1.1]
          exact sb_ne sv h0 gw rs.no _ _ _ _ ev'
      have rl10 : RL h10 (rl ++ [(r1, sm (le8 R 32), sm (le8 R 40), r2)]) (entsO B i ++ [entO R]) := by
        refine ⟨by rw [List.length_append, List.length_append, hrl9.1]; rfl, ?_⟩
        intro k q1 q2
        by_cases hk : k < rl.length
        · have hk2 : k < (entsO B i).length := by omega
          obtain ⟨a1, a2, a3, a4⟩ := hrl9.2 k hk hk2
          have oo := okl _ (List.getElem_mem hk2)
          rw [List.getElem_append_left hk, List.getElem_append_left hk2]
          exact ⟨a1, a2, mv _ _ (by rw [oo.i]; omega) a3, mv _ _ (by rw [oo.r]; omega) a4⟩
        · have hk3 : k = rl.length := by rw [List.length_append] at q1; simp at q1; omega
          have hk4 : ¬ k < (entsO B i).length := by omega
          rw [List.getElem_append_right (by omega), List.getElem_append_right (by omega)]
          simp only [List.getElem_singleton]
          exact ⟨rfl, rfl, mv _ _ (by rw [okR.i]; omega) (o7s8.keep k9 (Nat.le_refl _)), mv _ _ (by rw [okR.r]; omega) (o8s.keep k9 (Nat.le_refl _))⟩
      have rs10 : RS (rl ++ [(r1, sm (le8 R 32), sm (le8 R 40), r2)]) := by
        intro p hp
        rcases List.mem_append.1 hp with hp | hp
        · exact rs p hp
        · rw [List.mem_singleton] at hp; subst hp; exact ⟨⟨_, _, _, ev1⟩, ⟨_, _, _, ev2⟩⟩
      simp (disch := omega) [t10, t2, t12, t11, hlt', q1', e7', y32, y40, e8', b4, l4, e10, wrapF_i64]
      refine step _ _ w10 (rl ++ [(r1, sm (le8 R 32), sm (le8 R 40), r2)]) (by simp [t10]) (by simp [t2]) (by simp) (by simp) ?_ rs10 (by simp; omega) rl10 kk10
      simpa [flatC_app, flatC, rEnc] using o10
    · have hie : i = n := by omega
      subst hie
      simp (disch := omega) [t10, t2, t12, t11]
      exact ⟨.inr (.inr ⟨hle, by rw [hB, c2], w, rl, rfl, ow, rs, by rw [hB]; exact hrl⟩), kk⟩
  · simp (disch := omega) [ev, c1', q0', fs, c2, wrapF_i64]
    exact ⟨.inr (.inl ⟨hle, by rw [hB]; exact fun e => c2 e.symm, rfl⟩), Keep.refl _ _⟩
end
end Go.Proofs.Ytoehafeeoggpkaa.L24

set_option linter.unusedVariables false
set_option linter.unusedSimpArgs false
set_option linter.unnecessarySimpa false
/-! What a disk's bytes say: plain words. -/
namespace Go.Proofs.Ytoehafeeoggpkaa.L24
open Go Go.Proofs Go.Shelf Go.RowKit Go.Lib Go.Sort Go.AM Go.Proofs.Ytoehafeeoggpkaa.AMC
set_option maxRecDepth 10000
noncomputable section
theorem st_cell {h : AHeap} {m i gr : Nat} {cs : List Value} {v : Value} (g : h.get m = .row false gr (.vals cs)) (hi : i < cs.length) (hv : (∃ k x, v = .int k x) ∨ ∃ a n c, v = .slice a n c) :
    aStore 1 (.pointer (some ⟨m, i, none⟩)) v h = some (h.set m (.row false gr (.vals (cs.set i v)))) := by
  have hc : v.cells = #[v] := by rcases hv with ⟨k, x, rfl⟩ | ⟨a, n, c, rfl⟩ <;> rfl
  have h1 : AM.one v = true := by rcases hv with ⟨k, x, rfl⟩ | ⟨a, n, c, rfl⟩ <;> rfl
  have hl : (cellsOf v).toList = [v] := by show v.cells.toList = [v]; rw [hc]
  have hs : (cellsOf v).size = 1 := by rw [← Cells.length_toList, hl]; rfl
  simp only [aStore, g, hc]
  rw [if_pos ⟨rfl, by show i + 1 ≤ cs.length; omega, by simpa using h1⟩]
  rw [blit_vals, hl, hs]
  congr 3
  rw [List.set_eq_take_append_cons_drop, if_pos hi]
  simp
theorem tb_set0 (t : Tb) (x : Int) : t.cells.set 0 (.int .i64 x) = (⟨x, t.a, t.b, t.id, t.sl, t.at_, t.be⟩ : Tb).cells := rfl
theorem tb_set {t : Tb} (o : t.id.length = 16) (k : Nat) (v : Value) : t.cells.set (19 + k) v = .int .i64 t.s :: .int .i64 t.a :: .int .i64 t.b :: (byV t.id ++ [t.sl, .int .i64 t.at_, .int .i64 t.be].set k v) := by
  unfold Tb.cells
  have e : 19 + k = (16 + k) + 1 + 1 + 1 := by omega
  rw [e, List.set_cons_succ, List.set_cons_succ, List.set_cons_succ, List.set_append_right _ _ (by rw [byV_length, o]; omega), byV_length, o, Nat.add_sub_cancel_left]
theorem tb_set19 {t : Tb} (o : t.id.length = 16) (v : Value) : t.cells.set 19 v = (⟨t.s, t.a, t.b, t.id, v, t.at_, t.be⟩ : Tb).cells := tb_set o 0 v
theorem tb_set21 {t : Tb} (o : t.id.length = 16) (x : Int) : t.cells.set 21 (.int .i64 x) = (⟨t.s, t.a, t.b, t.id, t.sl, t.at_, x⟩ : Tb).cells := tb_set o 2 _
/-! ### what is wrong -/
def rowE (l : List Int) (a n : Nat) (S : Int) : Int := if (l.length : Int) - n * 128 < (a : Int) * 512 then 4 else if S = sumV (sec l (a * 512) (n * 128)) then 0 else 12
def secN (l : List Int) : Nat := l.length / 512
def b1 (l : List Int) : List Int := sec l 512 512
def b2 (l : List Int) : List Int := sec l ((secN l - 1) * 512) 512
def atN (l : List Int) : Nat := (sm (le8 (b1 l) 72)).toNat
def beN (l : List Int) : Nat := (sm (le8 (b2 l) 72)).toNat
def nN (l : List Int) : Nat := (le4 (b1 l) 80).toNat
def pL (l : List Int) : List Ent := entsO (sec l (atN l * 512) (nN l * 128)) (nN l)
def pTb (l : List Int) (w : Value) : Tb := ⟨secN l, sm (le8 (b1 l) 40), sm (le8 (b1 l) 48), sec (b1 l) 56 16, w, sm (le8 (b1 l) 72), sm (le8 (b2 l) 72)⟩
def crossP (l : List Int) : Prop := sm (le8 (b1 l) 24) ≠ 1 ∨ sm (le8 (b1 l) 32) ≠ (secN l : Int) - 1 ∨ sm (le8 (b2 l) 24) ≠ (secN l : Int) - 1 ∨ sm (le8 (b2 l) 32) ≠ 1 ∨ le4 (b1 l) 80 ≠ le4 (b2 l) 80 ∨ le4 (b1 l) 88 ≠ le4 (b2 l) 88 ∨ sm (le8 (b1 l) 40) ≠ sm (le8 (b2 l) 40) ∨ sm (le8 (b1 l) 48) ≠ sm (le8 (b2 l) 48) ∨ sec (b1 l) 56 16 ≠ sec (b2 l) 56 16
instance (l : List Int) : Decidable (crossP l) := by unfold crossP; infer_instance
def pErr (l : List Int) : Int :=
  if secN l < 6 ∨ l.length % 512 ≠ 0 then 4
  else if hdE (b1 l) ≠ 0 then hdE (b1 l)
  else if hdE (b2 l) ≠ 0 then hdE (b2 l)
  else if crossP l then 11
  else if rowE l (atN l) (nN l) (le4 (b1 l) 88) ≠ 0 then rowE l (atN l) (nN l) (le4 (b1 l) 88)
  else if rowE l (beN l) (nN l) (le4 (b1 l) 88) ≠ 0 then rowE l (beN l) (nN l) (le4 (b1 l) 88)
  else chkV (pTb l (.slice none 0 0)) (pL l)
theorem chkE_sl {t u : Tb} (ha : t.a = u.a) (hb : t.b = u.b) : ∀ (l : List Ent) (q : List (Int × Int)), chkE t l q = chkE u l q
  | [], q => rfl
  | e :: l, q => by simp only [chkE, ha, hb, chkE_sl ha hb l]
theorem chkV_sl (l : List Int) (w w' : Value) (es : List Ent) : chkV (pTb l w) es = chkV (pTb l w') es := by
  rw [chkV_def, chkV_def, chkE_sl (t := pTb l w) (u := pTb l w') rfl rfl]
  rfl
theorem b1_len {l : List Int} (h : ¬ (secN l < 6 ∨ l.length % 512 ≠ 0)) : (b1 l).length = 512 := by
  unfold secN at h; exact sec_len (by omega)
theorem b2_len {l : List Int} (h : ¬ (secN l < 6 ∨ l.length % 512 ≠ 0)) : (b2 l).length = 512 := by
  unfold secN at h; exact sec_len (by unfold secN; omega)
theorem b1_byt {l : List Int} (h : Byt l) : Byt (b1 l) := sec_byt h
theorem b2_byt {l : List Int} (h : Byt l) : Byt (b2 l) := sec_byt h
theorem hd_n {b : List Int} (h : hdE b = 0) : 1 ≤ le4 b 80 ∧ le4 b 80 ≤ 128 := by
  unfold hdE at h
  split at h
  · split at h
    · cases h
    · rename_i hf
      unfold frmP at hf
      constructor
      · exact Int.not_lt.1 fun a => hf (.inr (.inr (.inr (.inr (.inl a)))))
      · exact Int.not_lt.1 fun a => hf (.inr (.inr (.inr (.inr (.inr (.inl a))))))
  · cases h
end
end Go.Proofs.Ytoehafeeoggpkaa.L24

