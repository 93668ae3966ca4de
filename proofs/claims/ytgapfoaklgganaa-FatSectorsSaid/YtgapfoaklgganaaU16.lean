import Derived.Test.YtgapfoaklgganaaF16
import Derived.Test.YtgapfoaklgganaaT16
set_option linter.unusedVariables false
set_option linter.unusedSimpArgs false
set_option linter.unnecessarySimpa false
/-! Two bytes; rows laid over a row. -/
namespace Go.Proofs.Ytgapfoaklgganaa.L16
open Go Go.AM Go.Proofs.Ytgapfoaklgganaa.AMC
set_option maxRecDepth 10000
def by2 (v : Int) : List Int := [v % 256, v / 256 % 256]
theorem by2_byt (v : Int) : Byt (by2 v) := by
  intro x hx
  simp [by2] at hx
  omega
def le2 (l : List Int) (i : Int) : Int := rdI l i + 256 * rdI l (i + 1)
theorem le2_bd {l : List Int} (hb : Byt l) (i : Int) : 0 ≤ le2 l i ∧ le2 l i < 65536 := by
  have b0 := hb.rd i
  have b1 := hb.rd (i + 1)
  unfold le2; omega
theorem or8_u16 {x b : Int} (hx : 0 ≤ x) (hb0 : 0 ≤ b) (hb : b < 256) (hk : x * 256 < 65536) : bitsF .or .u16 (x * 256) b = some (x * 256 + b) := by
  have := or_low (k := .u16) (n := 8) hx hb0 (by simpa using hb) (by simpa [capK] using hk) (by simp [capK]; omega)
  simpa using this
theorem little2 (L d : Nat) (m off cap : Nat) (at_ : Int) (l : List Int) (len : Nat) (hlen : l.length = len) (h : AHeap) (hl : l.length < 4611686018427387904) (hr : RowI h .u8 m off l) (hb : Byt l) (ha0 : 0 ≤ at_) (ha : at_ + 2 ≤ l.length) :
    (En (L + 10) (d + 2)).go 91 [.slice (some ⟨m, off, none⟩) len cap, .int .i64 at_, .int .i64 2] h = some (.tuple #[.int .u16 (le2 l at_), .bool true], h) := by
  refine go_of (show tabF 91 = some (.code a91) by rfl) rfl ?_
  unfold a91
  have hin := in_spec (L + 10) d (some ⟨m, off, none⟩) len cap at_ 2 h (by omega)
  rw [decide_eq_true (by omega)] at hin
  have b0 := hb.rd at_
  have b1 := hb.rd (at_ + 1)
  simp (disch := omega) [hin, W_loop_all, WL_succ, wrapF_i64, wrapF_u16, aIndexSl_ok, shlF_wrap, or8_u16, or0_u16, hr.rd]
  unfold le2; omega
theorem u16_yes (L d : Nat) (m off cap : Nat) (at_ : Int) (l : List Int) (len : Nat) (hlen : l.length = len) (h : AHeap) (hl : l.length < 4611686018427387904) (hr : RowI h .u8 m off l) (hb : Byt l) (ha0 : 0 ≤ at_) (ha : at_ + 2 ≤ l.length) :
    (En (L + 10) (d + 3)).go 67 [.slice (some ⟨m, off, none⟩) len cap, .int .i64 at_] h = some (.tuple #[.int .u16 (le2 l at_), .bool true], h) := by
  refine go_of (show tabF 67 = some (.code a67) by rfl) rfl ?_
  unfold a67
  simp (disch := omega) [little2 L d m off cap at_ l len hlen h hl hr hb ha0 ha]
theorem bytes2 (L d : Nat) (v : Int) (h : AHeap) (h0 : 0 ≤ v) (h1 : v ≤ 18446744073709551615) :
    ∃ r h', (En (L + 10) (d + 1)).go 46 [.int .u64 v, .int .i64 2] h = some (r, h') ∧ OwnB h.next h' r (by2 v) ∧ Keep h.next h h' := by
  refine go_ex (R := fun r h' => OwnB h.next h' r (by2 v) ∧ Keep h.next h h') (show tabF 46 = some (.code a46) by rfl) rfl ?_
  unfold a46
  simp (disch := omega)
  refine W_loop (fun j T h' => ∃ (i : Nat) (x : Int) (w : Value), j = 2 - i ∧ i ≤ 2 ∧ T.get 0 = some (.int .u64 x) ∧ 0 ≤ x ∧ x ≤ 18446744073709551615 ∧ T.get 1 = some (.int .i64 2) ∧ T.get 5 = some w ∧ T.get 6 = some (.int .i64 i) ∧ OwnB h.next h' w ((by2 v).take i) ∧ Keep h.next h h' ∧ x = (if i = 0 then v else if i = 1 then v / 256 else x)) 2 (by simp) ⟨0, v, .slice none 0 0, by simp, by omega, by simp, h0, h1, by simp, by simp, by simp, OwnB.nil _ _, Keep.refl _ _, rfl⟩ ?_
  rintro j T h' ⟨i, x, w, rfl, hi4, t0, x0, x1, t1, t5, t6, ow, hk, hx⟩
  by_cases hi : i < 2
  · have hx2 : (by2 v).take i ++ [x % 256] = (by2 v).take (i + 1) := by
      have : i = 0 ∨ i = 1 := by omega
      rcases this with rfl | rfl <;> simp [by2] at hx ⊢ <;> omega
    have hlen : ((by2 v).take i).length ≤ 2 := by rw [List.length_take]; simp [by2]; omega
    have os := one_sl h' (x % 256)
    obtain ⟨v2, h2, c2, o2, k2⟩ := OwnB.append (k := EK1) (h := h'.new (row1 (x % 256))) (ow.keep ((Keep.refl h'.next h').new (Nat.le_refl _) _) (Nat.le_refl _)) os rfl rfl (by have := hk.next; simp; omega) (by simp; omega)
    rw [hx2] at o2
    simp (disch := omega) [t0, t1, t5, t6, decide_eq_true, wrapF_i64, wrapF_u8, wrapF_u64, wrapF_mod_u8, Int.tmod_eq_emod_of_nonneg x0, Int.tdiv_eq_ediv_of_nonneg x0, lit1, c2]
    refine ⟨2 - (i + 1), by omega, i + 1, rfl, by omega, by omega, by omega, by simp, o2, (hk.new (Nat.le_refl _) _).trans k2, ?_⟩
    have : i = 0 ∨ i = 1 := by omega
    rcases this with rfl | rfl <;> simp at hx ⊢ <;> rw [hx]
  · have : i = 2 := by omega
    subst this
    simp (disch := omega) [t0, t1, t5, t6]
    exact ⟨by simpa [by2] using ow, hk⟩
theorem bytes1 (L d : Nat) (v : Int) (h : AHeap) (h0 : 0 ≤ v) (h1 : v < 256) :
    ∃ r h', (En (L + 10) (d + 1)).go 46 [.int .u64 v, .int .i64 1] h = some (r, h') ∧ OwnB h.next h' r [v] ∧ Keep h.next h h' := by
  refine go_ex (R := fun r h' => OwnB h.next h' r [v] ∧ Keep h.next h h') (show tabF 46 = some (.code a46) by rfl) rfl ?_
  unfold a46
  have os := one_sl h v
  obtain ⟨v2, h2, c2, o2, k2⟩ := OwnB.append (k := EK1) (h := h.new (row1 v)) ((OwnB.nil h.next h).keep ((Keep.refl h.next h).new (Nat.le_refl _) _) (Nat.le_refl _)) os rfl rfl (by simp) (by simp)
  have e1 : v.tmod 256 = v := Int.tmod_eq_of_lt h0 h1
  simp (disch := omega) [W_loop_all, WL_succ, wrapF_i64, wrapF_u8, wrapF_u64, e1, lit1, c2]
  exact ⟨o2, ((Keep.refl h.next h).new (Nat.le_refl _) _).trans k2⟩
theorem put2 (L d : Nat) (v : Value) (l : List Int) (at_ : Nat) (x0 : Int) (N : Nat) (h : AHeap) (hv : OwnB N h v l) (hl : l.length < 1099511627776) (hn : at_ + 2 ≤ l.length) (hx0 : 0 ≤ x0) (hx1 : x0 < 65536) :
    ∃ r h', (En (L + 10) (d + 2)).go 88 [v, .int .i64 at_, .int .i64 2, .int .u16 x0] h = some (r, h') ∧ r = .bool true ∧ OwnB N h' v (wth l at_ (by2 x0)) ∧ Keep N h h' ∧ Only v h h' := by
  refine go_ex (R := fun r h' => r = .bool true ∧ OwnB N h' v (wth l at_ (by2 x0)) ∧ Keep N h h' ∧ Only v h h') (show tabF 88 = some (.code a88) by rfl) rfl ?_
  unfold a88
  obtain ⟨xv, qv, ev⟩ := hv.sl.val
  have hin := in_spec (L + 10) d xv l.length qv at_ 2 h (by omega)
  rw [decide_eq_true (by omega), ← ev] at hin
  simp (disch := omega) [hin]
  refine W_loop (fun j T h' => ∃ (i : Nat) (x : Int), j = 2 - i ∧ i ≤ 2 ∧ T.get 0 = some v ∧ T.get 1 = some (.int .i64 at_) ∧ T.get 3 = some (.int .u16 x) ∧ 0 ≤ x ∧ x < 65536 ∧ T.get 15 = some (.int .i64 2) ∧ T.get 16 = some (.int .i64 i) ∧ OwnB N h' v (wth l at_ ((by2 x0).take i)) ∧ Keep N h h' ∧ Only v h h' ∧ x = (if i = 0 then x0 else if i = 1 then x0 / 256 else x)) 2 (by simp) ⟨0, x0, by simp, by omega, by simp, by simp, by simp, hx0, hx1, by simp, by simp, by rw [List.take_zero, wth_nil]; exact hv, Keep.refl _ _, Only.refl _ _, rfl⟩ ?_
  rintro j T h' ⟨i, x, rfl, hi4, t0, t1, t3, b0, b1, t15, t16, ow, hk, hon, hx⟩
  by_cases hi : i < 2
  · have hx2 : (by2 x0).take i ++ [x % 256] = (by2 x0).take (i + 1) := by
      have : i = 0 ∨ i = 1 := by omega
      rcases this with rfl | rfl <;> simp [by2] at hx ⊢ <;> omega
    have hlen : ((by2 x0).take i).length = i := by rw [List.length_take]; simp [by2]; omega
    have hwl : (wth l at_ ((by2 x0).take i)).length = l.length := wth_len (by omega)
    obtain ⟨m, h2, ev2, st, o2, k2, nx2, gt2⟩ := ow.store (at_ + i) (by omega) (x % 256)
    rw [hwl] at ev2
    have ws := wth_set (l := l) (a := at_) (p := (by2 x0).take i) (x % 256) (by omega)
    rw [hlen, hx2] at ws
    rw [ws] at o2
    rw [ev2] at t0
    have et : ((at_ : Int) + i).toNat = at_ + i := by omega
    simp (disch := omega) [t0, t1, t3, t15, t16, decide_eq_true, wrapF_i64, wrapF_mod_u8, aIndexSl_ok, et, st, shrF_div, wrapF_u16]
    refine ⟨2 - (i + 1), by omega, i + 1, rfl, by omega, ev2.symm, by omega, by omega, by simp, o2, hk.trans k2, hon.trans ⟨nx2, fun k hk => gt2 k (hk m 0 _ _ ev2)⟩, ?_⟩
    have : i = 0 ∨ i = 1 := by omega
    rcases this with rfl | rfl <;> simp at hx ⊢ <;> rw [hx]
  · have : i = 2 := by omega
    subst this
    simp (disch := omega) [t0, t1, t15, t16]
    exact ⟨by simpa [by2] using ow, hk, hon⟩
theorem put16i (L d : Nat) (v : Value) (l : List Int) (at_ : Nat) (ai : Int) (ha : ai = at_) (x0 : Int) (N : Nat) (h : AHeap) (hv : OwnB N h v l) (hl : l.length < 1099511627776) (hn : at_ + 2 ≤ l.length) (hx0 : 0 ≤ x0) (hx1 : x0 < 65536) :
    ∃ r h', (En (L + 10) (d + 3)).go 62 [v, .int .i64 ai, .int .u16 x0] h = some (r, h') ∧ r = .bool true ∧ OwnB N h' v (wth l at_ (by2 x0)) ∧ Keep N h h' ∧ Only v h h' := by
  subst ha
  refine go_ex (R := fun r h' => r = .bool true ∧ OwnB N h' v (wth l at_ (by2 x0)) ∧ Keep N h h' ∧ Only v h h') (show tabF 62 = some (.code a62) by rfl) rfl ?_
  unfold a62
  obtain ⟨r, h', e, rfl, o, k, u⟩ := put2 L d v l at_ x0 N h hv hl hn hx0 hx1
  simp [e]
  exact ⟨o, k, u⟩
theorem put32i' (L d : Nat) (v : Value) (l : List Int) (at_ : Nat) (ai : Int) (ha : ai = at_) (x0 : Int) (N : Nat) (h : AHeap) (hv : OwnB N h v l) (hl : l.length < 1099511627776) (hn : at_ + 4 ≤ l.length) (hx0 : 0 ≤ x0) (hx1 : x0 < 4294967296) :
    ∃ r h', (En (L + 10) (d + 3)).go 63 [v, .int .i64 ai, .int .u32 x0] h = some (r, h') ∧ r = .bool true ∧ OwnB N h' v (wth l at_ (by4 x0)) ∧ Keep N h h' ∧ Only v h h' := by
  subst ha; exact put32 L d v l at_ x0 N h hv hl hn hx0 hx1
theorem wth_comm {l p q : List Int} {a b : Nat} (h1 : a + p.length ≤ b) (h2 : b + q.length ≤ l.length) : wth (wth l a p) b q = wth (wth l b q) a p := by
  unfold wth
  have la : (l.take a).length = a := by simp; omega
  have lb : (l.take b).length = b := by simp; omega
  have e1 : (l.take a ++ p ++ l.drop (a + p.length)).take b = l.take a ++ p ++ (l.drop (a + p.length)).take (b - (a + p.length)) := by
    rw [List.take_append]
    have : (l.take a ++ p).length = a + p.length := by rw [List.length_append, la]
    rw [this, List.take_of_length_le (by omega)]
  have e2 : (l.take a ++ p ++ l.drop (a + p.length)).drop (b + q.length) = l.drop (b + q.length) := by
    rw [List.drop_append]
    have : (l.take a ++ p).length = a + p.length := by rw [List.length_append, la]
    rw [this, List.drop_of_length_le (by omega), List.nil_append, List.drop_drop]
    congr 1; omega
  have e3 : (l.take b ++ q ++ l.drop (b + q.length)).take a = l.take a := by
    rw [List.append_assoc, List.take_append, lb]
    rw [show a - b = 0 by omega, List.take_zero, List.append_nil, List.take_take, Nat.min_eq_left (by omega)]
  have e4 : (l.take b ++ q ++ l.drop (b + q.length)).drop (a + p.length) = (l.drop (a + p.length)).take (b - (a + p.length)) ++ q ++ l.drop (b + q.length) := by
    rw [List.append_assoc, List.drop_append, lb, show a + p.length - b = 0 by omega, List.drop_zero, List.drop_take, ← List.append_assoc]
  rw [e1, e2, e3, e4]
  simp [List.append_assoc]
theorem copyB {N : Nat} {h : AHeap} {v x : Value} {l p : List Int} {a m o cap : Nat} (hv : OwnB N h v l) (hp : SlB h x p) (h0 : 0 < p.length) (ha : a + p.length ≤ l.length) (hm : v = .slice (some ⟨m, 0, none⟩) l.length l.length) :
    ∃ h', aCopy 1 (.slice (some ⟨m, a, none⟩) (l.length - a) (l.length - a)) x h = some (.int .i64 p.length, h') ∧ OwnB N h' v (wth l a p) ∧ Keep N h h' ∧ Only v h h' := by
  obtain ⟨C, hC, hCl⟩ := SlAt.src hp
  rcases hp.2 with ⟨_, hz⟩ | ⟨mp, offp, capp, rop, grp, cp, ep, hcp, hmp, hgp, _, hsz, hlp⟩
  · omega
  rcases hv.2 with ⟨h1, h2⟩ | ⟨m', c, gr, h1, h2, h3, h4, h5, h6⟩
  · omega
  rw [hm] at h1
  injection h1 with h1; injection h1 with h1; injection h1 with h1
  subst h1
  have hs : c.size = l.length := by rw [← Cells.length_toList, h6]; simp
  have htk : aTake 1 p.length x h = some (cp.ext offp (p.length * 1)) := by
    rw [ep]
    simp only [aTake]
    rw [if_neg (by omega)]
    simp only [Nat.le_refl, if_true, hgp]
    exact if_pos hsz
  have hes : (cp.ext offp (p.length * 1)).size = p.length := by rw [Cells.size_ext (by omega)]; omega
  refine ⟨h.set m (.row false gr (c.blit a (cp.ext offp (p.length * 1)))), ?_, ?_, (Keep.refl N h).set h2 h3 _, rfl, fun k hk => by rw [AHeap.get_set, if_neg (hk m 0 _ _ hm)]⟩
  · have hlo : lenOfA x = some p.length := by rw [ep]; rfl
    simp only [aCopy, hlo]
    rw [if_pos (by omega)]
    simp only [htk]
    rw [if_neg (by omega)]
    simp only [h4]
    rw [if_pos (by omega)]
    rfl
  · have hwl : (wth l a p).length = l.length := wth_len ha
    refine ⟨by simp, .inr ⟨m, _, gr, by rw [hm, hwl], h2, by simpa using h3, by rw [AHeap.get_set, if_pos rfl], h5, ?_⟩⟩
    have hpt : (cp.ext offp (p.length * 1)).toList = byV p := by rw [Cells.toList_ext (by omega)]; exact hlp
    rw [Cells.toList_blit (by omega), h6, hes, hpt]
    simp only [wth, byV_append, byV_take, byV_drop]
end Go.Proofs.Ytgapfoaklgganaa.L16
