import Derived.Test.YtgapfoaklgganaaF16
import Derived.Test.YtgapfoaklgganaaT16
import Derived.KernelRfl
set_option linter.unusedVariables false
set_option linter.unusedSimpArgs false
set_option linter.unnecessarySimpa false
/-! Two bytes; rows laid over a row. -/
namespace Go.Proofs.Ytgapfoaklgganaa.L16
open Go Go.AM Go.Proofs.Ytgapfoaklgganaa.AMC
set_option maxRecDepth 10000
def by2 (v : Int) : List Int := [v % 256, v / 256 % 256]
theorem by2_byt (v : Int) : Byt (by2 v) := by
  intro x hx
  simp [by2] at hx
  omega
def le2 (l : List Int) (i : Int) : Int := rdI l i + 256 * rdI l (i + 1)
theorem le2_bd {l : List Int} (hb : Byt l) (i : Int) : 0 ≤ le2 l i ∧ le2 l i < 65536 := by
  have b0 := hb.rd i
  have b1 := hb.rd (i + 1)
  unfold le2; omega
theorem or8_u16 {x b : Int} (hx : 0 ≤ x) (hb0 : 0 ≤ b) (hb : b < 256) (hk : x * 256 < 65536) : bitsF .or .u16 (x * 256) b = some (x * 256 + b) := by
  have := or_low (k := .u16) (n := 8) hx hb0 (by simpa using hb) (by simpa [capK] using hk) (by simp [capK]; omega)
  simpa using this
theorem little2 (L d : Nat) (m off cap : Nat) (at_ : Int) (l : List Int) (len : Nat) (hlen : l.length = len) (h : AHeap) (hl : l.length < 4611686018427387904) (hr : RowI h .u8 m off l) (hb : Byt l) (ha0 : 0 ≤ at_) (ha : at_ + 2 ≤ l.length) :
    (En (L + 10) (d + 2)).go 91 [.slice (some ⟨m, off, none⟩) len cap, .int .i64 at_, .int .i64 2] h = some (.tuple #[.int .u16 (le2 l at_), .bool true], h) := by
  refine go_of (show tabF 91 = some (.code a91) by rfl) rfl ?_
  unfold a91
  have hin := in_spec (L + 10) d (some ⟨m, off, none⟩) len cap at_ 2 h (by omega)
  rw [decide_eq_true (by omega)] at hin
  have b0 := hb.rd at_
  have b1 := hb.rd (at_ + 1)
  simp (disch := omega) [hin, W_loop_all, WL_succ, wrapF_i64, wrapF_u16, aIndexSl_ok, shlF_wrap, or8_u16, or0_u16, hr.rd]
  unfold le2; omega
theorem u16_yes (L d : Nat) (m off cap : Nat) (at_ : Int) (l : List Int) (len : Nat) (hlen : l.length = len) (h : AHeap) (hl : l.length < 4611686018427387904) (hr : RowI h .u8 m off l) (hb : Byt l) (ha0 : 0 ≤ at_) (ha : at_ + 2 ≤ l.length) :
    (En (L + 10) (d + 3)).go 67 [.slice (some ⟨m, off, none⟩) len cap, .int .i64 at_] h = some (.tuple #[.int .u16 (le2 l at_), .bool true], h) := by
  refine go_of (show tabF 67 = some (.code a67) by rfl) rfl ?_
  unfold a67
  simp (disch := omega) [little2 L d m off cap at_ l len hlen h hl hr hb ha0 ha]
theorem bytes2 (L d : Nat) (v : Int) (h : AHeap) (h0 : 0 ≤ v) (h1 : v ≤ 18446744073709551615) :
    ∃ r h', (En (L + 10) (d + 1)).go 46 [.int .u64 v, .int .i64 2] h = some (r, h') ∧ OwnB h.next h' r (by2 v) ∧ Keep h.next h h' := by
  refine go_ex (R := fun r h' => OwnB h.next h' r (by2 v) ∧ Keep h.next h h') (show tabF 46 = some (.code a46) by rfl) rfl ?_
  unfold a46
  simp (disch := omega)
  refine W_loop (fun j T h' => ∃ (i : Nat) (x : Int) (w : Value), j = 2 - i ∧ i ≤ 2 ∧ T.get 0 = some (.int .u64 x) ∧ 0 ≤ x ∧ x ≤ 18446744073709551615 ∧ T.get 1 = some (.int .i64 2) ∧ T.get 5 = some w ∧ T.get 6 = some (.int .i64 i) ∧ OwnB h.next h' w ((by2 v).take i) ∧ Keep h.next h h' ∧ x = (if i = 0 then v else if i = 1 then v / 256 else x)) 2 (by simp) ⟨0, v, .slice none 0 0, by simp, by omega, by simp, h0, h1, by simp, by simp, by simp, OwnB.nil _ _, Keep.refl _ _, rfl⟩ ?_
  rintro j T h' ⟨i, x, w, rfl, hi4, t0, x0, x1, t1, t5, t6, ow, hk, hx⟩
  by_cases hi : i < 2
  · have hx2 : (by2 v).take i ++ [x % 256] = (by2 v).take (i + 1) := by
      have : i = 0 ∨ i = 1 := by omega
      rcases this with rfl | rfl <;> simp [by2] at hx ⊢ <;> omega
    have hlen : ((by2 v).take i).length ≤ 2 := by rw [List.length_take]; simp [by2]; omega
    have os := one_sl h' (x % 256)
    obtain ⟨v2, h2, c2, o2, k2⟩ := OwnB.append (k := EK1) (h := h'.new (row1 (x % 256))) (ow.keep ((Keep.refl h'.next h').new (Nat.le_refl _) _) (Nat.le_refl _)) os rfl rfl (by have := hk.next; simp; omega) (by simp; omega)
    rw [hx2] at o2
    simp (disch := omega) [t0, t1, t5, t6, decide_eq_true, wrapF_i64, wrapF_u8, wrapF_u64, wrapF_mod_u8, Int.tmod_eq_emod_of_nonneg x0, Int.tdiv_eq_ediv_of_nonneg x0, lit1, c2]
    refine ⟨2 - (i + 1), by omega, i + 1, rfl, by omega, by omega, by omega, by simp, o2, (hk.new (Nat.le_refl _) _).trans k2, ?_⟩
    have : i = 0 ∨ i = 1 := by omega
    rcases this with rfl | rfl <;> simp at hx ⊢ <;> rw [hx]
  · have : i = 2 := by omega
    subst this
    simp (disch := omega) [t0, t1, t5, t6]
    exact ⟨by simpa [by2] using ow, hk⟩
theorem bytes1 (L d : Nat) (v : Int) (h : AHeap) (h0 : 0 ≤ v) (h1 : v < 256) :
    ∃ r h', (En (L + 10) (d + 1)).go 46 [.int .u64 v, .int .i64 1] h = some (r, h') ∧ OwnB h.next h' r [v] ∧ Keep h.next h h' := by
  refine go_ex (R := fun r h' => OwnB h.next h' r [v] ∧ Keep h.next h h') (show tabF 46 = some (.code a46) by rfl) rfl ?_
  unfold a46
  have os := one_sl h v
  obtain ⟨v2, h2, c2, o2, k2⟩ := OwnB.append (k := EK1) (h := h.new (row1 v)) ((OwnB.nil h.next h).keep ((Keep.refl h.next h).new (Nat.le_refl _) _) (Nat.le_refl _)) os rfl rfl (by simp) (by simp)
  have e1 : v.tmod 256 = v := Int.tmod_eq_of_lt h0 h1
  simp (disch := omega) [W_loop_all, WL_succ, wrapF_i64, wrapF_u8, wrapF_u64, e1, lit1, c2]
  exact ⟨o2, ((Keep.refl h.next h).new (Nat.le_refl _) _).trans k2⟩
theorem put2 (L d : Nat) (v : Value) (l : List Int) (at_ : Nat) (x0 : Int) (N : Nat) (h : AHeap) (hv : OwnB N h v l) (hl : l.length < 1099511627776) (hn : at_ + 2 ≤ l.length) (hx0 : 0 ≤ x0) (hx1 : x0 < 65536) :
    ∃ r h', (En (L + 10) (d + 2)).go 88 [v, .int .i64 at_, .int .i64 2, .int .u16 x0] h = some (r, h') ∧ r = .bool true ∧ OwnB N h' v (wth l at_ (by2 x0)) ∧ Keep N h h' ∧ Only v h h' := by
  refine go_ex (R := fun r h' => r = .bool true ∧ OwnB N h' v (wth l at_ (by2 x0)) ∧ Keep N h h' ∧ Only v h h') (show tabF 88 = some (.code a88) by rfl) rfl ?_
  unfold a88
  obtain ⟨xv, qv, ev⟩ := hv.sl.val
  have hin := in_spec (L + 10) d xv l.length qv at_ 2 h (by omega)
  rw [decide_eq_true (by omega), ← ev] at hin
  simp (disch := omega) [hin]
  refine W_loop (fun j T h' => ∃ (i : Nat) (x : Int), j = 2 - i ∧ i ≤ 2 ∧ T.get 0 = some v ∧ T.get 1 = some (.int .i64 at_) ∧ T.get 3 = some (.int .u16 x) ∧ 0 ≤ x ∧ x < 65536 ∧ T.get 15 = some (.int .i64 2) ∧ T.get 16 = some (.int .i64 i) ∧ OwnB N h' v (wth l at_ ((by2 x0).take i)) ∧ Keep N h h' ∧ Only v h h' ∧ x = (if i = 0 then x0 else if i = 1 then x0 / 256 else x)) 2 (by simp) ⟨0, x0, by simp, by omega, by simp, by simp, by simp, hx0, hx1, by simp, by simp, by rw [List.take_zero, wth_nil]; exact hv, Keep.refl _ _, Only.refl _ _, rfl⟩ ?_
  rintro j T h' ⟨i, x, rfl, hi4, t0, t1, t3, b0, b1, t15, t16, ow, hk, hon, hx⟩
  by_cases hi : i < 2
  · have hx2 : (by2 x0).take i ++ [x % 256] = (by2 x0).take (i + 1) := by
      have : i = 0 ∨ i = 1 := by omega
      rcases this with rfl | rfl <;> simp [by2] at hx ⊢ <;> omega
    have hlen : ((by2 x0).take i).length = i := by rw [List.length_take]; simp [by2]; omega
    have hwl : (wth l at_ ((by2 x0).take i)).length = l.length := wth_len (by omega)
    obtain ⟨m, h2, ev2, st, o2, k2, nx2, gt2⟩ := ow.store (at_ + i) (by omega) (x % 256)
    rw [hwl] at ev2
    have ws := wth_set (l := l) (a := at_) (p := (by2 x0).take i) (x % 256) (by omega)
    rw [hlen, hx2] at ws
    rw [ws] at o2
    rw [ev2] at t0
    have et : ((at_ : Int) + i).toNat = at_ + i := by omega
    simp (disch := omega) [t0, t1, t3, t15, t16, decide_eq_true, wrapF_i64, wrapF_mod_u8, aIndexSl_ok, et, st, shrF_div, wrapF_u16]
    refine ⟨2 - (i + 1), by omega, i + 1, rfl, by omega, ev2.symm, by omega, by omega, by simp, o2, hk.trans k2, hon.trans ⟨nx2, fun k hk => gt2 k (hk m 0 _ _ ev2)⟩, ?_⟩
    have : i = 0 ∨ i = 1 := by omega
    rcases this with rfl | rfl <;> simp at hx ⊢ <;> rw [hx]
  · have : i = 2 := by omega
    subst this
    simp (disch := omega) [t0, t1, t15, t16]
    exact ⟨by simpa [by2] using ow, hk, hon⟩
theorem put16i (L d : Nat) (v : Value) (l : List Int) (at_ : Nat) (ai : Int) (ha : ai = at_) (x0 : Int) (N : Nat) (h : AHeap) (hv : OwnB N h v l) (hl : l.length < 1099511627776) (hn : at_ + 2 ≤ l.length) (hx0 : 0 ≤ x0) (hx1 : x0 < 65536) :
    ∃ r h', (En (L + 10) (d + 3)).go 62 [v, .int .i64 ai, .int .u16 x0] h = some (r, h') ∧ r = .bool true ∧ OwnB N h' v (wth l at_ (by2 x0)) ∧ Keep N h h' ∧ Only v h h' := by
  subst ha
  refine go_ex (R := fun r h' => r = .bool true ∧ OwnB N h' v (wth l at_ (by2 x0)) ∧ Keep N h h' ∧ Only v h h') (show tabF 62 = some (.code a62) by rfl) rfl ?_
  unfold a62
  obtain ⟨r, h', e, rfl, o, k, u⟩ := put2 L d v l at_ x0 N h hv hl hn hx0 hx1
  simp [e]
  exact ⟨o, k, u⟩
theorem put32i' (L d : Nat) (v : Value) (l : List Int) (at_ : Nat) (ai : Int) (ha : ai = at_) (x0 : Int) (N : Nat) (h : AHeap) (hv : OwnB N h v l) (hl : l.length < 1099511627776) (hn : at_ + 4 ≤ l.length) (hx0 : 0 ≤ x0) (hx1 : x0 < 4294967296) :
    ∃ r h', (En (L + 10) (d + 3)).go 63 [v, .int .i64 ai, .int .u32 x0] h = some (r, h') ∧ r = .bool true ∧ OwnB N h' v (wth l at_ (by4 x0)) ∧ Keep N h h' ∧ Only v h h' := by
  subst ha; exact put32 L d v l at_ x0 N h hv hl hn hx0 hx1
theorem wth_comm {l p q : List Int} {a b : Nat} (h1 : a + p.length ≤ b) (h2 : b + q.length ≤ l.length) : wth (wth l a p) b q = wth (wth l b q) a p := by
  unfold wth
  have la : (l.take a).length = a := by simp; omega
  have lb : (l.take b).length = b := by simp; omega
  have e1 : (l.take a ++ p ++ l.drop (a + p.length)).take b = l.take a ++ p ++ (l.drop (a + p.length)).take (b - (a + p.length)) := by
    rw [List.take_append]
    have : (l.take a ++ p).length = a + p.length := by rw [List.length_append, la]
    rw [this, List.take_of_length_le (by omega)]
  have e2 : (l.take a ++ p ++ l.drop (a + p.length)).drop (b + q.length) = l.drop (b + q.length) := by
    rw [List.drop_append]
    have : (l.take a ++ p).length = a + p.length := by rw [List.length_append, la]
    rw [this, List.drop_of_length_le (by omega), List.nil_append, List.drop_drop]
    congr 1; omega
  have e3 : (l.take b ++ q ++ l.drop (b + q.length)).take a = l.take a := by
    rw [List.append_assoc, List.take_append, lb]
    rw [show a - b = 0 by omega, List.take_zero, List.append_nil, List.take_take, Nat.min_eq_left (by omega)]
  have e4 : (l.take b ++ q ++ l.drop (b + q.length)).drop (a + p.length) = (l.drop (a + p.length)).take (b - (a + p.length)) ++ q ++ l.drop (b + q.length) := by
    rw [List.append_assoc, List.drop_append, lb, show a + p.length - b = 0 by omega, List.drop_zero, List.drop_take, ← List.append_assoc]
  rw [e1, e2, e3, e4]
  simp [List.append_assoc]
theorem copyB {N : Nat} {h : AHeap} {v x : Value} {l p : List Int} {a m o cap : Nat} (hv : OwnB N h v l) (hp : SlB h x p) (h0 : 0 < p.length) (ha : a + p.length ≤ l.length) (hm : v = .slice (some ⟨m, 0, none⟩) l.length l.length) :
    ∃ h', aCopy 1 (.slice (some ⟨m, a, none⟩) (l.length - a) (l.length - a)) x h = some (.int .i64 p.length, h') ∧ OwnB N h' v (wth l a p) ∧ Keep N h h' ∧ Only v h h' := by
  obtain ⟨C, hC, hCl⟩ := SlAt.src hp
  rcases hp.2 with ⟨_, hz⟩ | ⟨mp, offp, capp, rop, grp, cp, ep, hcp, hmp, hgp, _, hsz, hlp⟩
  · omega
  rcases hv.2 with ⟨h1, h2⟩ | ⟨m', c, gr, h1, h2, h3, h4, h5, h6⟩
  · omega
  rw [hm] at h1
  injection h1 with h1; injection h1 with h1; injection h1 with h1
  subst h1
  have hs : c.size = l.length := by rw [← Cells.length_toList, h6]; simp
  have htk : aTake 1 p.length x h = some (cp.ext offp (p.length * 1)) := by
    rw [ep]
    simp only [aTake]
    rw [if_neg (by omega)]
    simp only [Nat.le_refl, if_true, hgp]
    exact if_pos hsz
  have hes : (cp.ext offp (p.length * 1)).size = p.length := by rw [Cells.size_ext (by omega)]; omega
  refine ⟨h.set m (.row false gr (c.blit a (cp.ext offp (p.length * 1)))), ?_, ?_, (Keep.refl N h).set h2 h3 _, rfl, fun k hk => by rw [AHeap.get_set, if_neg (hk m 0 _ _ hm)]⟩
  · have hlo : lenOfA x = some p.length := by rw [ep]; rfl
    simp only [aCopy, hlo]
    rw [if_pos (by omega)]
    simp only [htk]
    rw [if_neg (by omega)]
    simp only [h4]
    rw [if_pos (by omega)]
    rfl
  · have hwl : (wth l a p).length = l.length := wth_len ha
    refine ⟨by simp, .inr ⟨m, _, gr, by rw [hm, hwl], h2, by simpa using h3, by rw [AHeap.get_set, if_pos rfl], h5, ?_⟩⟩
    have hpt : (cp.ext offp (p.length * 1)).toList = byV p := by rw [Cells.toList_ext (by omega)]; exact hlp
    rw [Cells.toList_blit (by omega), h6, hes, hpt]
    simp only [wth, byV_append, byV_take, byV_drop]
end Go.Proofs.Ytgapfoaklgganaa.L16

set_option linter.unusedVariables false
set_option linter.unusedSimpArgs false
set_option linter.unnecessarySimpa false
/-! A boot, put into a sector: by the program, by the document. -/
namespace Go.Proofs.Ytgapfoaklgganaa.L16
open Go Go.AM Go.Proofs.Ytgapfoaklgganaa.AMC
set_option maxRecDepth 10000
abbrev z4 : List Int := [0, 0, 0, 0]
abbrev z2 : List Int := [0, 0]
abbrev sig : List Int := [70, 65, 84, 51, 50, 32, 32, 32]
theorem by2_len (v : Int) : (by2 v).length = 2 := rfl
def bootL (b : List Int) (e a t s g r i c : Int) : List Int := (wth (wth (wth (wth (wth (wth (wth (wth (wth (wth (wth (wth (wth (wth b 11 (by2 512)) 13 [e]) 14 (by2 a)) 16 [t]) 17 z4) 22 z2) 32 (by4 s)) 36 (by4 g)) 40 z4) 44 (by4 r)) 48 (by2 i)) 50 (by2 c)) 82 sig) 510 [85, 170])
def progL (b : List Int) (e a t s g r i c : Int) : List Int := (wth (wth (wth (wth (wth (wth (wth (wth (wth (wth (wth (wth (wth (wth (wth (wth b 11 (by2 512)) 13 [e]) 16 [t]) 14 (by2 a)) 17 (by2 0)) 19 (by2 0)) 22 (by2 0)) 32 (by4 s)) 36 (by4 g)) 40 (by4 0)) 44 (by4 r)) 48 (by2 i)) 50 (by2 c)) 82 sig) 510 [85]) 511 [170])
theorem progL_eq (b : List Int) (e a t s g r i c : Int) (hb : b.length = 512) : progL b e a t s g r i c = bootL b e a t s g r i c := by
  have q0 := hb
  have q1 : (wth b 11 (by2 512)).length = 512 := by rw [wth_len (by simp only [q0, by2_len, by4_len, List.length_cons, List.length_nil]; omega)]; exact q0
  have q2 : (wth (wth b 11 (by2 512)) 13 [e]).length = 512 := by rw [wth_len (by simp only [q1, by2_len, by4_len, List.length_cons, List.length_nil]; omega)]; exact q1
  have q3 : (wth (wth (wth b 11 (by2 512)) 13 [e]) 16 [t]).length = 512 := by rw [wth_len (by simp only [q2, by2_len, by4_len, List.length_cons, List.length_nil]; omega)]; exact q2
  have q4 : (wth (wth (wth (wth b 11 (by2 512)) 13 [e]) 16 [t]) 14 (by2 a)).length = 512 := by rw [wth_len (by simp only [q3, by2_len, by4_len, List.length_cons, List.length_nil]; omega)]; exact q3
  have q5 : (wth (wth (wth (wth (wth b 11 (by2 512)) 13 [e]) 16 [t]) 14 (by2 a)) 17 (by2 0)).length = 512 := by rw [wth_len (by simp only [q4, by2_len, by4_len, List.length_cons, List.length_nil]; omega)]; exact q4
  have q6 : (wth (wth (wth (wth (wth (wth b 11 (by2 512)) 13 [e]) 16 [t]) 14 (by2 a)) 17 (by2 0)) 19 (by2 0)).length = 512 := by rw [wth_len (by simp only [q5, by2_len, by4_len, List.length_cons, List.length_nil]; omega)]; exact q5
  have q7 : (wth (wth (wth (wth (wth (wth (wth b 11 (by2 512)) 13 [e]) 16 [t]) 14 (by2 a)) 17 (by2 0)) 19 (by2 0)) 22 (by2 0)).length = 512 := by rw [wth_len (by simp only [q6, by2_len, by4_len, List.length_cons, List.length_nil]; omega)]; exact q6
  have q8 : (wth (wth (wth (wth (wth (wth (wth (wth b 11 (by2 512)) 13 [e]) 16 [t]) 14 (by2 a)) 17 (by2 0)) 19 (by2 0)) 22 (by2 0)) 32 (by4 s)).length = 512 := by rw [wth_len (by simp only [q7, by2_len, by4_len, List.length_cons, List.length_nil]; omega)]; exact q7
  have q9 : (wth (wth (wth (wth (wth (wth (wth (wth (wth b 11 (by2 512)) 13 [e]) 16 [t]) 14 (by2 a)) 17 (by2 0)) 19 (by2 0)) 22 (by2 0)) 32 (by4 s)) 36 (by4 g)).length = 512 := by rw [wth_len (by simp only [q8, by2_len, by4_len, List.length_cons, List.length_nil]; omega)]; exact q8
  have q10 : (wth (wth (wth (wth (wth (wth (wth (wth (wth (wth b 11 (by2 512)) 13 [e]) 16 [t]) 14 (by2 a)) 17 (by2 0)) 19 (by2 0)) 22 (by2 0)) 32 (by4 s)) 36 (by4 g)) 40 (by4 0)).length = 512 := by rw [wth_len (by simp only [q9, by2_len, by4_len, List.length_cons, List.length_nil]; omega)]; exact q9
  have q11 : (wth (wth (wth (wth (wth (wth (wth (wth (wth (wth (wth b 11 (by2 512)) 13 [e]) 16 [t]) 14 (by2 a)) 17 (by2 0)) 19 (by2 0)) 22 (by2 0)) 32 (by4 s)) 36 (by4 g)) 40 (by4 0)) 44 (by4 r)).length = 512 := by rw [wth_len (by simp only [q10, by2_len, by4_len, List.length_cons, List.length_nil]; omega)]; exact q10
  have q12 : (wth (wth (wth (wth (wth (wth (wth (wth (wth (wth (wth (wth b 11 (by2 512)) 13 [e]) 16 [t]) 14 (by2 a)) 17 (by2 0)) 19 (by2 0)) 22 (by2 0)) 32 (by4 s)) 36 (by4 g)) 40 (by4 0)) 44 (by4 r)) 48 (by2 i)).length = 512 := by rw [wth_len (by simp only [q11, by2_len, by4_len, List.length_cons, List.length_nil]; omega)]; exact q11
  have q13 : (wth (wth (wth (wth (wth (wth (wth (wth (wth (wth (wth (wth (wth b 11 (by2 512)) 13 [e]) 16 [t]) 14 (by2 a)) 17 (by2 0)) 19 (by2 0)) 22 (by2 0)) 32 (by4 s)) 36 (by4 g)) 40 (by4 0)) 44 (by4 r)) 48 (by2 i)) 50 (by2 c)).length = 512 := by rw [wth_len (by simp only [q12, by2_len, by4_len, List.length_cons, List.length_nil]; omega)]; exact q12
  have q14 : (wth (wth (wth (wth (wth (wth (wth (wth (wth (wth (wth (wth (wth (wth b 11 (by2 512)) 13 [e]) 16 [t]) 14 (by2 a)) 17 (by2 0)) 19 (by2 0)) 22 (by2 0)) 32 (by4 s)) 36 (by4 g)) 40 (by4 0)) 44 (by4 r)) 48 (by2 i)) 50 (by2 c)) 82 sig).length = 512 := by rw [wth_len (by simp only [q13, by2_len, by4_len, List.length_cons, List.length_nil]; omega)]; exact q13
  have c1 : (wth (wth (wth (wth b 11 (by2 512)) 13 [e]) 16 [t]) 14 (by2 a)) = (wth (wth (wth (wth b 11 (by2 512)) 13 [e]) 14 (by2 a)) 16 [t]) := (wth_comm (l := (wth (wth b 11 (by2 512)) 13 [e])) (p := by2 a) (q := [t]) (a := 14) (b := 16) (by simp [by2]) (by rw [q2]; simp)).symm
  have m1 : (wth (wth (wth (wth (wth (wth b 11 (by2 512)) 13 [e]) 14 (by2 a)) 16 [t]) 17 (by2 0)) 19 (by2 0)) = (wth (wth (wth (wth (wth b 11 (by2 512)) 13 [e]) 14 (by2 a)) 16 [t]) 17 z4) := wth_wth (l := (wth (wth (wth (wth b 11 (by2 512)) 13 [e]) 14 (by2 a)) 16 [t])) (a := 17) (p := by2 0) (q := by2 0) (by rw [← c1, q4]; simp [by2])
  unfold progL bootL
  rw [c1, m1]
  have q : (wth (wth (wth (wth (wth (wth (wth (wth (wth (wth (wth (wth (wth b 11 (by2 512)) 13 [e]) 14 (by2 a)) 16 [t]) 17 z4) 22 z2) 32 (by4 s)) 36 (by4 g)) 40 z4) 44 (by4 r)) 48 (by2 i)) 50 (by2 c)) 82 sig).length = 512 := by have := q14; rw [c1, m1] at this; exact this
  exact wth_wth (l := (wth (wth (wth (wth (wth (wth (wth (wth (wth (wth (wth (wth (wth b 11 (by2 512)) 13 [e]) 14 (by2 a)) 16 [t]) 17 z4) 22 z2) 32 (by4 s)) 36 (by4 g)) 40 z4) 44 (by4 r)) 48 (by2 i)) 50 (by2 c)) 82 sig)) (a := 510) (p := [85]) (q := [170]) (by rw [q]; simp)
theorem bootL_len {b : List Int} (e a t s g r i c : Int) (hb : b.length = 512) : (bootL b e a t s g r i c).length = 512 := by
  have q0 := hb
  have q1 : (wth b 11 (by2 512)).length = 512 := by rw [wth_len (by simp only [q0, by2_len, by4_len, List.length_cons, List.length_nil]; omega)]; exact q0
  have q2 : (wth (wth b 11 (by2 512)) 13 [e]).length = 512 := by rw [wth_len (by simp only [q1, by2_len, by4_len, List.length_cons, List.length_nil]; omega)]; exact q1
  have q3 : (wth (wth (wth b 11 (by2 512)) 13 [e]) 14 (by2 a)).length = 512 := by rw [wth_len (by simp only [q2, by2_len, by4_len, List.length_cons, List.length_nil]; omega)]; exact q2
  have q4 : (wth (wth (wth (wth b 11 (by2 512)) 13 [e]) 14 (by2 a)) 16 [t]).length = 512 := by rw [wth_len (by simp only [q3, by2_len, by4_len, List.length_cons, List.length_nil]; omega)]; exact q3
  have q5 : (wth (wth (wth (wth (wth b 11 (by2 512)) 13 [e]) 14 (by2 a)) 16 [t]) 17 z4).length = 512 := by rw [wth_len (by simp only [q4, by2_len, by4_len, List.length_cons, List.length_nil]; omega)]; exact q4
  have q6 : (wth (wth (wth (wth (wth (wth b 11 (by2 512)) 13 [e]) 14 (by2 a)) 16 [t]) 17 z4) 22 z2).length = 512 := by rw [wth_len (by simp only [q5, by2_len, by4_len, List.length_cons, List.length_nil]; omega)]; exact q5
  have q7 : (wth (wth (wth (wth (wth (wth (wth b 11 (by2 512)) 13 [e]) 14 (by2 a)) 16 [t]) 17 z4) 22 z2) 32 (by4 s)).length = 512 := by rw [wth_len (by simp only [q6, by2_len, by4_len, List.length_cons, List.length_nil]; omega)]; exact q6
  have q8 : (wth (wth (wth (wth (wth (wth (wth (wth b 11 (by2 512)) 13 [e]) 14 (by2 a)) 16 [t]) 17 z4) 22 z2) 32 (by4 s)) 36 (by4 g)).length = 512 := by rw [wth_len (by simp only [q7, by2_len, by4_len, List.length_cons, List.length_nil]; omega)]; exact q7
  have q9 : (wth (wth (wth (wth (wth (wth (wth (wth (wth b 11 (by2 512)) 13 [e]) 14 (by2 a)) 16 [t]) 17 z4) 22 z2) 32 (by4 s)) 36 (by4 g)) 40 z4).length = 512 := by rw [wth_len (by simp only [q8, by2_len, by4_len, List.length_cons, List.length_nil]; omega)]; exact q8
  have q10 : (wth (wth (wth (wth (wth (wth (wth (wth (wth (wth b 11 (by2 512)) 13 [e]) 14 (by2 a)) 16 [t]) 17 z4) 22 z2) 32 (by4 s)) 36 (by4 g)) 40 z4) 44 (by4 r)).length = 512 := by rw [wth_len (by simp only [q9, by2_len, by4_len, List.length_cons, List.length_nil]; omega)]; exact q9
  have q11 : (wth (wth (wth (wth (wth (wth (wth (wth (wth (wth (wth b 11 (by2 512)) 13 [e]) 14 (by2 a)) 16 [t]) 17 z4) 22 z2) 32 (by4 s)) 36 (by4 g)) 40 z4) 44 (by4 r)) 48 (by2 i)).length = 512 := by rw [wth_len (by simp only [q10, by2_len, by4_len, List.length_cons, List.length_nil]; omega)]; exact q10
  have q12 : (wth (wth (wth (wth (wth (wth (wth (wth (wth (wth (wth (wth b 11 (by2 512)) 13 [e]) 14 (by2 a)) 16 [t]) 17 z4) 22 z2) 32 (by4 s)) 36 (by4 g)) 40 z4) 44 (by4 r)) 48 (by2 i)) 50 (by2 c)).length = 512 := by rw [wth_len (by simp only [q11, by2_len, by4_len, List.length_cons, List.length_nil]; omega)]; exact q11
  have q13 : (wth (wth (wth (wth (wth (wth (wth (wth (wth (wth (wth (wth (wth b 11 (by2 512)) 13 [e]) 14 (by2 a)) 16 [t]) 17 z4) 22 z2) 32 (by4 s)) 36 (by4 g)) 40 z4) 44 (by4 r)) 48 (by2 i)) 50 (by2 c)) 82 sig).length = 512 := by rw [wth_len (by simp only [q12, by2_len, by4_len, List.length_cons, List.length_nil]; omega)]; exact q12
  have q14 : (wth (wth (wth (wth (wth (wth (wth (wth (wth (wth (wth (wth (wth (wth b 11 (by2 512)) 13 [e]) 14 (by2 a)) 16 [t]) 17 z4) 22 z2) 32 (by4 s)) 36 (by4 g)) 40 z4) 44 (by4 r)) 48 (by2 i)) 50 (by2 c)) 82 sig) 510 [85, 170]).length = 512 := by rw [wth_len (by simp only [q13, by2_len, by4_len, List.length_cons, List.length_nil]; omega)]; exact q13
  exact q14
theorem bootL_byt {b : List Int} (e a t s g r i c : Int) (hb : Byt b) (he : 0 ≤ e ∧ e < 256) (ht : 0 ≤ t ∧ t < 256) : Byt (bootL b e a t s g r i c) := by
  have f1 : ∀ x : Int, 0 ≤ x ∧ x < 256 → Byt [x] := by intro x hx y hy; simp at hy; subst hy; exact hx
  have f4 : Byt z4 := by intro y hy; simp at hy; omega
  have f2 : Byt z2 := by intro y hy; simp at hy; omega
  have f8 : Byt sig := by intro y hy; simp at hy; omega
  have f9 : Byt [85, 170] := by intro y hy; simp at hy; omega
  unfold bootL
  exact wth_byt (wth_byt (wth_byt (wth_byt (wth_byt (wth_byt (wth_byt (wth_byt (wth_byt (wth_byt (wth_byt (wth_byt (wth_byt (wth_byt (hb) (by2_byt _)) (f1 _ he)) (by2_byt _)) (f1 _ ht)) (f4)) (f2)) (by4_byt _)) (by4_byt _)) (f4)) (by4_byt _)) (by2_byt _)) (by2_byt _)) (f8)) (f9)
structure Rng (e a t s g r i c : Int) : Prop where
  e0 : 1 ≤ e
  e1 : e ≤ 8
  t0 : 1 ≤ t
  t1 : t ≤ 2
  s0 : 1 ≤ s
  s1 : s ≤ 32768
  g0 : 1 ≤ g
  g1 : g ≤ s
  a0 : 2 ≤ a
  a1 : a ≤ 64
  i0 : 1 ≤ i
  i1 : i < a
  c0 : 0 ≤ c
  c1 : c < a
  r0 : 2 ≤ r
  r1 : r ≤ 200001
theorem chk_rng {e a t s g r i c : Int} (h : chk e a t s g r i c = 0) : Rng e a t s g r i c := by
  unfold chk at h
  split at h
  · omega
  · rename_i h1
    split at h
    · omega
    · rename_i h2
      split at h
      · omega
      · split at h
        · omega
        · rename_i h3
          have hb : cluF e a t s g ≤ 200000 := by
            have b1 : 0 ≤ t * g := Int.mul_nonneg (by omega) (by omega)
            have b2 : t * g ≤ 80000 := by
              have : t * g ≤ 2 * g := Int.mul_le_mul_of_nonneg_right (by omega) (by omega)
              omega
            have := Int.natAbs_tdiv_le_natAbs (s - datF a t g) (max 1 e)
            have hd : datF a t g = a + t * g := rfl
            unfold cluF
            omega
          exact ⟨by omega, by omega, by omega, by omega, by omega, by omega, by omega, by omega, by omega, by omega, by omega, by omega, by omega, by omega, by omega, by omega⟩
theorem cutFrom {h : AHeap} {m n : Nat} {ro : Bool} {gr : Nat} {c : Cells} (hg : h.get m = .row ro gr c) (hgr : gr = 1 ∨ gr = 0) {a : Nat} {ai : Int} (hai : ai = a) (ha : a < n) :
    aCut (.sl 1) (.slice (some ⟨m, 0, none⟩) n n) (some (.int .i64 ai)) none none h = some (.slice (some ⟨m, a, none⟩) (n - a) (n - a)) := by
  subst hai
  simp only [aCut, aCutSl, hg]
  have hb : aBounds n n (some (.int .i64 a)) none none = some (a, n, n) := by
    simp [aBounds, aBound]
    omega
  rw [hb]
  simp only
  rw [if_pos ⟨Nat.le_refl _, Nat.le_refl _, hgr.symm⟩, if_neg (by omega)]
  simp
theorem patch (L d : Nat) (l p : List Int) (m a : Nat) (ai : Int) (hai : ai = a) (x : Value) (N : Nat) (h : AHeap) (hv : OwnB N h (.slice (some ⟨m, 0, none⟩) l.length l.length) l) (hp : SlB h x p) (h0 : 0 < p.length) (hl : l.length < 1099511627776) (ha : a + p.length ≤ l.length) :
    ∃ r h', (En L (d + 2)).go 64 [.slice (some ⟨m, 0, none⟩) l.length l.length, .int .i64 ai, x] h = some (r, h') ∧ r = .bool true ∧ OwnB N h' (.slice (some ⟨m, 0, none⟩) l.length l.length) (wth l a p) ∧ Keep N h h' ∧ Only (.slice (some ⟨m, 0, none⟩) l.length l.length) h h' := by
  refine go_ex (R := fun r h' => r = .bool true ∧ OwnB N h' (.slice (some ⟨m, 0, none⟩) l.length l.length) (wth l a p) ∧ Keep N h h' ∧ Only (.slice (some ⟨m, 0, none⟩) l.length l.length) h h') (show tabF 64 = some (.code a64) by rfl) rfl ?_
  unfold a64
  have hin := in_spec L d (some ⟨m, 0, none⟩) l.length l.length ai p.length h (by omega)
  rw [decide_eq_true (by omega)] at hin
  obtain ⟨h', hc, ho, hk, hu⟩ := copyB (m := m) (o := 0) (cap := 0) hv hp h0 ha rfl
  rcases hv.2 with ⟨q1, q2⟩ | ⟨m', c, gr, q1, q2, q3, q4, q5, q6⟩
  · omega
  injection q1 with q1; injection q1 with q1; injection q1 with q1
  subst q1
  have hcut := cutFrom (n := l.length) q4 q5 hai (show a < l.length by omega)
  obtain ⟨xx, xc, rfl⟩ := hp.val
  simp (disch := omega) [hin, hcut, hc]
  exact ⟨ho, hk, hu⟩
theorem lit8 (h : AHeap) : aBuildSlice true ⟨1, 1, [.int .u8 0]⟩ 8 [(0, .int .u8 70), (1, .int .u8 65), (2, .int .u8 84), (3, .int .u8 51), (4, .int .u8 50), (5, .int .u8 32), (6, .int .u8 32), (7, .int .u8 32)] h = some (.slice (some ⟨h.next, 0, none⟩) 8 8, h.new (.row false 0 (mkRow true (byV sig)))) := rfl
theorem row_sl (h : AHeap) (l : List Int) (h0 : 0 < l.length) : SlB (h.new (.row false 0 (mkRow true (byV l)))) (.slice (some ⟨h.next, 0, none⟩) l.length l.length) l :=
  ⟨by simp, .inr ⟨h.next, 0, l.length, false, 0, mkRow true (byV l), rfl, by simp, by simp, by rw [AHeap.get_new, if_pos rfl], .inl rfl, by rw [← Cells.length_toList, toList_mkRow]; simp, by rw [toList_mkRow, List.drop_zero, List.take_of_length_le (by simp)]⟩⟩
end Go.Proofs.Ytgapfoaklgganaa.L16

set_option linter.unusedVariables false
set_option linter.unusedSimpArgs false
set_option linter.unnecessarySimpa false
/-! A boot is put into a sector by the program. -/
namespace Go.Proofs.Ytgapfoaklgganaa.L16
open Go Go.AM Go.Proofs.Ytgapfoaklgganaa.AMC
set_option maxRecDepth 10000
theorem blk_inj {m n : Nat} (h : some (⟨m, 0, none⟩ : Addr) = some ⟨n, 0, none⟩) : m = n := by injection h with h; injection h
theorem putb_len (L d : Nat) (b : List Int) (e a t s g r i c : Int) (v : Value) (h : AHeap) (hv : SlB h v b) (hl : b.length ≠ 512) :
    (En L (d + 1)).go 23 [btV e a t s g r i c, v] h = some (.int .i64 4, h.new (box8 e a t s g r i c)) := by
  refine go_of (show tabF 23 = some (.code a23) by rfl) rfl ?_
  unfold a23
  obtain ⟨xv, qv, rfl⟩ := hv.val
  have hl' : ¬ (b.length : Int) = 512 := by omega
  simp (disch := omega) [box8_new, hl']
theorem putb_bad (L d : Nat) (b : List Int) (e a t s g r i c : Int) (v : Value) (h : AHeap) (hv : SlB h v b) (hl : b.length = 512) (hk : chk e a t s g r i c ≠ 0) :
    ∃ r' h', (En L (d + 4)).go 23 [btV e a t s g r i c, v] h = some (r', h') ∧ r' = .int .i64 (chk e a t s g r i c) ∧ Keep h.next h h' := by
  refine go_ex (R := fun r' h' => r' = .int .i64 (chk e a t s g r i c) ∧ Keep h.next h h') (show tabF 23 = some (.code a23) by rfl) rfl ?_
  unfold a23
  obtain ⟨xv, qv, rfl⟩ := hv.val
  have gg := box8_get e a t s g r i c h
  have cg := ld_agg gg (n := 8) rfl
  obtain ⟨_, G, ec, rfl, kG⟩ := chk61 L d e a t s g r i c (h.new (box8 e a t s g r i c))
  have hk2 : ¬ chk e a t s g r i c = 0 := hk
  rw [hl] at *
  simp (disch := omega) [box8_new, cg, ec, hk2]
  exact ((Keep.refl _ _).new (Nat.le_refl _) _).trans (kG.less (by simp))
set_option maxHeartbeats 400000 in
theorem putb_ok (L d : Nat) (b : List Int) (e a t s g r i c : Int) (v : Value) (N : Nat) (h : AHeap) (hN : N ≤ h.next) (hv : OwnB N h v b) (hl : b.length = 512) (hk : chk e a t s g r i c = 0) :
    ∃ r' h', (En (L + 10) (d + 4)).go 23 [btV e a t s g r i c, v] h = some (r', h') ∧ r' = .int .i64 0 ∧ OwnB N h' v (bootL b e a t s g r i c) ∧ Keep N h h' := by
  refine go_ex (R := fun r' h' => r' = .int .i64 0 ∧ OwnB N h' v (bootL b e a t s g r i c) ∧ Keep N h h') (show tabF 23 = some (.code a23) by rfl) rfl ?_
  unfold a23
  rw [← progL_eq b e a t s g r i c hl]
  obtain ⟨e0, e1, t0, t1, s0, s1, g0, g1, a0, a1, i0, i1, c0, c1, r0, r1⟩ := chk_rng hk
  have gg := box8_get e a t s g r i c h
  have cg := ld_agg gg (n := 8) rfl
  have kb : Keep N h (h.new (box8 e a t s g r i c)) := (Keep.refl _ _).new hN _
  obtain ⟨_, G0, ec, rfl, kG⟩ := chk61 (L + 10) d e a t s g r i c (h.new (box8 e a t s g r i c))
  rw [hk] at ec
  have k0 : Keep N h G0 := kb.trans (kG.less (by simp; omega))
  have kb' : Keep h.next h (h.new (box8 e a t s g r i c)) := (Keep.refl _ _).new (Nat.le_refl _) _
  have w0 := (hv.keep kb' (Nat.le_refl _)).keep kG (Nat.le_refl _)
  have x0 : h.next < G0.next := by have := kG.next; simp only [AHeap.next_new] at this; omega
  obtain ⟨m, ev, hm⟩ : ∃ m, v = .slice (some ⟨m, 0, none⟩) 512 512 ∧ m < h.next := by
    rcases hv.2 with ⟨q, _⟩ | ⟨m', c', gr', q1, q2, q3, _⟩
    · omega
    · rw [hl] at q1; exact ⟨m', q1, q3⟩
  have hne : ∀ m' o n c, v = .slice (some ⟨m', o, none⟩) n c → h.next ≠ m' := by
    intro m' o n c q; rw [ev] at q; injection q with q; injection q with q; injection q with q; omega
  have gb0 := (kG.get h.next (by simp)).trans gg
  have q0 := hl
  obtain ⟨r0', G1, pe0, rfl, w1, kk0, u0⟩ := put16i L d v b 11 11 rfl 512 N G0 w0 (by omega) (by rw [q0]; omega) (by omega) (by omega)
  have gb1 := (u0.2 h.next hne).trans gb0
  have x1 : h.next < G1.next := by have := u0.1; omega
  have k1 := k0.trans kk0
  have q1 : (wth b 11 (by2 512)).length = 512 := by rw [wth_len (by simp only [q0, by2_len, by4_len, List.length_cons, List.length_nil]; omega)]; exact q0
  have ca1 := ld_cell gb1 (i := 0) rfl
  obtain ⟨m1, G2, ev1, st1, w2, kk1, nx1, gt1⟩ := w1.store 13 (by rw [q1]; omega) e
  have em1 : m1 = m := by have z := ev.symm.trans ev1; rw [Value.slice.injEq] at z; exact (blk_inj z.1).symm
  rw [em1] at st1
  have ws1 := wth_set (l := (wth b 11 (by2 512))) (a := 13) (p := []) (e) (by rw [q1]; simp)
  simp only [wth_nil, List.length_nil, Nat.add_zero, List.nil_append] at ws1
  rw [ws1] at w2
  have gb2 := (gt1 h.next (by omega)).trans gb1
  have x2 : h.next < G2.next := by omega
  have k2 := k1.trans kk1
  have q2 : (wth (wth b 11 (by2 512)) 13 [e]).length = 512 := by rw [wth_len (by simp only [q1, by2_len, by4_len, List.length_cons, List.length_nil]; omega)]; exact q1
  have ca2 := ld_cell gb2 (i := 2) rfl
  obtain ⟨m2, G3, ev2, st2, w3, kk2, nx2, gt2⟩ := w2.store 16 (by rw [q2]; omega) t
  have em2 : m2 = m := by have z := ev.symm.trans ev2; rw [Value.slice.injEq] at z; exact (blk_inj z.1).symm
  rw [em2] at st2
  have ws2 := wth_set (l := (wth (wth b 11 (by2 512)) 13 [e])) (a := 16) (p := []) (t) (by rw [q2]; simp)
  simp only [wth_nil, List.length_nil, Nat.add_zero, List.nil_append] at ws2
  rw [ws2] at w3
  have gb3 := (gt2 h.next (by omega)).trans gb2
  have x3 : h.next < G3.next := by omega
  have k3 := k2.trans kk2
  have q3 : (wth (wth (wth b 11 (by2 512)) 13 [e]) 16 [t]).length = 512 := by rw [wth_len (by simp only [q2, by2_len, by4_len, List.length_cons, List.length_nil]; omega)]; exact q2
  have ca3 := ld_cell gb3 (i := 1) rfl
  obtain ⟨r3', G4, pe3, rfl, w4, kk3, u3⟩ := put16i L d v (wth (wth (wth b 11 (by2 512)) 13 [e]) 16 [t]) 14 14 rfl a N G3 w3 (by omega) (by rw [q3]; omega) (by omega) (by omega)
  have gb4 := (u3.2 h.next hne).trans gb3
  have x4 : h.next < G4.next := by have := u3.1; omega
  have k4 := k3.trans kk3
  have q4 : (wth (wth (wth (wth b 11 (by2 512)) 13 [e]) 16 [t]) 14 (by2 a)).length = 512 := by rw [wth_len (by simp only [q3, by2_len, by4_len, List.length_cons, List.length_nil]; omega)]; exact q3
  obtain ⟨r4', G5, pe4, rfl, w5, kk4, u4⟩ := put16i L d v (wth (wth (wth (wth b 11 (by2 512)) 13 [e]) 16 [t]) 14 (by2 a)) 17 17 rfl 0 N G4 w4 (by omega) (by rw [q4]; omega) (by omega) (by omega)
  have gb5 := (u4.2 h.next hne).trans gb4
  have x5 : h.next < G5.next := by have := u4.1; omega
  have k5 := k4.trans kk4
  have q5 : (wth (wth (wth (wth (wth b 11 (by2 512)) 13 [e]) 16 [t]) 14 (by2 a)) 17 (by2 0)).length = 512 := by rw [wth_len (by simp only [q4, by2_len, by4_len, List.length_cons, List.length_nil]; omega)]; exact q4
  obtain ⟨r5', G6, pe5, rfl, w6, kk5, u5⟩ := put16i L d v (wth (wth (wth (wth (wth b 11 (by2 512)) 13 [e]) 16 [t]) 14 (by2 a)) 17 (by2 0)) 19 19 rfl 0 N G5 w5 (by omega) (by rw [q5]; omega) (by omega) (by omega)
  have gb6 := (u5.2 h.next hne).trans gb5
  have x6 : h.next < G6.next := by have := u5.1; omega
  have k6 := k5.trans kk5
  have q6 : (wth (wth (wth (wth (wth (wth b 11 (by2 512)) 13 [e]) 16 [t]) 14 (by2 a)) 17 (by2 0)) 19 (by2 0)).length = 512 := by rw [wth_len (by simp only [q5, by2_len, by4_len, List.length_cons, List.length_nil]; omega)]; exact q5
  obtain ⟨r6', G7, pe6, rfl, w7, kk6, u6⟩ := put16i L d v (wth (wth (wth (wth (wth (wth b 11 (by2 512)) 13 [e]) 16 [t]) 14 (by2 a)) 17 (by2 0)) 19 (by2 0)) 22 22 rfl 0 N G6 w6 (by omega) (by rw [q6]; omega) (by omega) (by omega)
  have gb7 := (u6.2 h.next hne).trans gb6
  have x7 : h.next < G7.next := by have := u6.1; omega
  have k7 := k6.trans kk6
  have q7 : (wth (wth (wth (wth (wth (wth (wth b 11 (by2 512)) 13 [e]) 16 [t]) 14 (by2 a)) 17 (by2 0)) 19 (by2 0)) 22 (by2 0)).length = 512 := by rw [wth_len (by simp only [q6, by2_len, by4_len, List.length_cons, List.length_nil]; omega)]; exact q6
  have ca7 := ld_cell gb7 (i := 3) rfl
  obtain ⟨r7', G8, pe7, rfl, w8, kk7, u7⟩ := put32i' L d v (wth (wth (wth (wth (wth (wth (wth b 11 (by2 512)) 13 [e]) 16 [t]) 14 (by2 a)) 17 (by2 0)) 19 (by2 0)) 22 (by2 0)) 32 32 rfl s N G7 w7 (by omega) (by rw [q7]; omega) (by omega) (by omega)
  have gb8 := (u7.2 h.next hne).trans gb7
  have x8 : h.next < G8.next := by have := u7.1; omega
  have k8 := k7.trans kk7
  have q8 : (wth (wth (wth (wth (wth (wth (wth (wth b 11 (by2 512)) 13 [e]) 16 [t]) 14 (by2 a)) 17 (by2 0)) 19 (by2 0)) 22 (by2 0)) 32 (by4 s)).length = 512 := by rw [wth_len (by simp only [q7, by2_len, by4_len, List.length_cons, List.length_nil]; omega)]; exact q7
  have ca8 := ld_cell gb8 (i := 4) rfl
  obtain ⟨r8', G9, pe8, rfl, w9, kk8, u8⟩ := put32i' L d v (wth (wth (wth (wth (wth (wth (wth (wth b 11 (by2 512)) 13 [e]) 16 [t]) 14 (by2 a)) 17 (by2 0)) 19 (by2 0)) 22 (by2 0)) 32 (by4 s)) 36 36 rfl g N G8 w8 (by omega) (by rw [q8]; omega) (by omega) (by omega)
  have gb9 := (u8.2 h.next hne).trans gb8
  have x9 : h.next < G9.next := by have := u8.1; omega
  have k9 := k8.trans kk8
  have q9 : (wth (wth (wth (wth (wth (wth (wth (wth (wth b 11 (by2 512)) 13 [e]) 16 [t]) 14 (by2 a)) 17 (by2 0)) 19 (by2 0)) 22 (by2 0)) 32 (by4 s)) 36 (by4 g)).length = 512 := by rw [wth_len (by simp only [q8, by2_len, by4_len, List.length_cons, List.length_nil]; omega)]; exact q8
  obtain ⟨r9', G10, pe9, rfl, w10, kk9, u9⟩ := put32i' L d v (wth (wth (wth (wth (wth (wth (wth (wth (wth b 11 (by2 512)) 13 [e]) 16 [t]) 14 (by2 a)) 17 (by2 0)) 19 (by2 0)) 22 (by2 0)) 32 (by4 s)) 36 (by4 g)) 40 40 rfl 0 N G9 w9 (by omega) (by rw [q9]; omega) (by omega) (by omega)
  have gb10 := (u9.2 h.next hne).trans gb9
  have x10 : h.next < G10.next := by have := u9.1; omega
  have k10 := k9.trans kk9
  have q10 : (wth (wth (wth (wth (wth (wth (wth (wth (wth (wth b 11 (by2 512)) 13 [e]) 16 [t]) 14 (by2 a)) 17 (by2 0)) 19 (by2 0)) 22 (by2 0)) 32 (by4 s)) 36 (by4 g)) 40 (by4 0)).length = 512 := by rw [wth_len (by simp only [q9, by2_len, by4_len, List.length_cons, List.length_nil]; omega)]; exact q9
  have ca10 := ld_cell gb10 (i := 5) rfl
  obtain ⟨r10', G11, pe10, rfl, w11, kk10, u10⟩ := put32i' L d v (wth (wth (wth (wth (wth (wth (wth (wth (wth (wth b 11 (by2 512)) 13 [e]) 16 [t]) 14 (by2 a)) 17 (by2 0)) 19 (by2 0)) 22 (by2 0)) 32 (by4 s)) 36 (by4 g)) 40 (by4 0)) 44 44 rfl r N G10 w10 (by omega) (by rw [q10]; omega) (by omega) (by omega)
  have gb11 := (u10.2 h.next hne).trans gb10
  have x11 : h.next < G11.next := by have := u10.1; omega
  have k11 := k10.trans kk10
  have q11 : (wth (wth (wth (wth (wth (wth (wth (wth (wth (wth (wth b 11 (by2 512)) 13 [e]) 16 [t]) 14 (by2 a)) 17 (by2 0)) 19 (by2 0)) 22 (by2 0)) 32 (by4 s)) 36 (by4 g)) 40 (by4 0)) 44 (by4 r)).length = 512 := by rw [wth_len (by simp only [q10, by2_len, by4_len, List.length_cons, List.length_nil]; omega)]; exact q10
  have ca11 := ld_cell gb11 (i := 6) rfl
  obtain ⟨r11', G12, pe11, rfl, w12, kk11, u11⟩ := put16i L d v (wth (wth (wth (wth (wth (wth (wth (wth (wth (wth (wth b 11 (by2 512)) 13 [e]) 16 [t]) 14 (by2 a)) 17 (by2 0)) 19 (by2 0)) 22 (by2 0)) 32 (by4 s)) 36 (by4 g)) 40 (by4 0)) 44 (by4 r)) 48 48 rfl i N G11 w11 (by omega) (by rw [q11]; omega) (by omega) (by omega)
  have gb12 := (u11.2 h.next hne).trans gb11
  have x12 : h.next < G12.next := by have := u11.1; omega
  have k12 := k11.trans kk11
  have q12 : (wth (wth (wth (wth (wth (wth (wth (wth (wth (wth (wth (wth b 11 (by2 512)) 13 [e]) 16 [t]) 14 (by2 a)) 17 (by2 0)) 19 (by2 0)) 22 (by2 0)) 32 (by4 s)) 36 (by4 g)) 40 (by4 0)) 44 (by4 r)) 48 (by2 i)).length = 512 := by rw [wth_len (by simp only [q11, by2_len, by4_len, List.length_cons, List.length_nil]; omega)]; exact q11
  have ca12 := ld_cell gb12 (i := 7) rfl
  obtain ⟨r12', G13, pe12, rfl, w13, kk12, u12⟩ := put16i L d v (wth (wth (wth (wth (wth (wth (wth (wth (wth (wth (wth (wth b 11 (by2 512)) 13 [e]) 16 [t]) 14 (by2 a)) 17 (by2 0)) 19 (by2 0)) 22 (by2 0)) 32 (by4 s)) 36 (by4 g)) 40 (by4 0)) 44 (by4 r)) 48 (by2 i)) 50 50 rfl c N G12 w12 (by omega) (by rw [q12]; omega) (by omega) (by omega)
  have gb13 := (u12.2 h.next hne).trans gb12
  have x13 : h.next < G13.next := by have := u12.1; omega
  have k13 := k12.trans kk12
  have q13 : (wth (wth (wth (wth (wth (wth (wth (wth (wth (wth (wth (wth (wth b 11 (by2 512)) 13 [e]) 16 [t]) 14 (by2 a)) 17 (by2 0)) 19 (by2 0)) 22 (by2 0)) 32 (by4 s)) 36 (by4 g)) 40 (by4 0)) 44 (by4 r)) 48 (by2 i)) 50 (by2 c)).length = 512 := by rw [wth_len (by simp only [q12, by2_len, by4_len, List.length_cons, List.length_nil]; omega)]; exact q12
  have lt := lit8 G13
  have rs := row_sl G13 sig (by simp)
  have hx : aConv .mark (.slice (some ⟨G13.next, 0, none⟩) 8 8) (G13.new (.row false 0 (mkRow true (byV sig)))) = some (.slice (some ⟨G13.next, 0, none⟩) 8 8, (G13.new (.row false 0 (mkRow true (byV sig)))).set G13.next (.row false 0 (mkRow true (byV sig)))) := by simp only [aConv]; rw [AHeap.get_new, if_pos rfl]
  have kn : Keep G13.next G13 ((G13.new (.row false 0 (mkRow true (byV sig)))).set G13.next (.row false 0 (mkRow true (byV sig)))) := ((Keep.refl _ _).new (Nat.le_refl _) _).set (Nat.le_refl _) (by simp) _
  have rs2 : SlB ((G13.new (.row false 0 (mkRow true (byV sig)))).set G13.next (.row false 0 (mkRow true (byV sig)))) (.slice (some ⟨G13.next, 0, none⟩) 8 8) sig :=
    ⟨by simp, .inr ⟨G13.next, 0, 8, false, 0, mkRow true (byV sig), rfl, by simp, by simp, by rw [AHeap.get_set, if_pos rfl], .inl rfl, by rw [← Cells.length_toList, toList_mkRow]; simp, by rw [toList_mkRow, List.drop_zero, List.take_of_length_le (by simp)]⟩⟩
  have gm : (G13.new (.row false 0 (mkRow true (byV sig)))).get G13.next = .row false 0 (mkRow true (byV sig)) := by rw [AHeap.get_new, if_pos rfl]
  generalize hF : (G13.new (.row false 0 (mkRow true (byV sig)))).set G13.next (.row false 0 (mkRow true (byV sig))) = F at hx kn rs2
  have nxk : h.next < G13.next := by omega
  have wF := w13.keep kn (Nat.le_refl _)
  have gF := (kn.get h.next (by omega)).trans gb13
  have wF' := wF
  rw [ev, ← q13] at wF'
  obtain ⟨r13, G14, pe13, rfl, w14', kk13, u13⟩ := patch (L + 10) (d + 1) _ sig m 82 82 rfl _ N F wF' rs2 (by simp) (by omega) (by rw [q13]; simp)
  rw [q13, ← ev] at pe13 w14' u13
  have w14 : OwnB N G14 v (wth (wth (wth (wth (wth (wth (wth (wth (wth (wth (wth (wth (wth (wth b 11 (by2 512)) 13 [e]) 16 [t]) 14 (by2 a)) 17 (by2 0)) 19 (by2 0)) 22 (by2 0)) 32 (by4 s)) 36 (by4 g)) 40 (by4 0)) 44 (by4 r)) 48 (by2 i)) 50 (by2 c)) 82 sig) := w14'
  have gb14 := (u13.2 h.next hne).trans gF
  have x14 : h.next < G14.next := by have h1 := u13.1; have h2 := kn.next; omega
  have k14 := (k13.trans (kn.less (by omega))).trans kk13
  have q14 : (wth (wth (wth (wth (wth (wth (wth (wth (wth (wth (wth (wth (wth (wth b 11 (by2 512)) 13 [e]) 16 [t]) 14 (by2 a)) 17 (by2 0)) 19 (by2 0)) 22 (by2 0)) 32 (by4 s)) 36 (by4 g)) 40 (by4 0)) 44 (by4 r)) 48 (by2 i)) 50 (by2 c)) 82 sig).length = 512 := by rw [wth_len (by simp only [q13, by2_len, by4_len, List.length_cons, List.length_nil]; omega)]; exact q13
  obtain ⟨m14, G15, ev14, st14, w15, kk14, nx14, gt14⟩ := w14.store 510 (by rw [q14]; omega) (85)
  have em14 : m14 = m := by have z := ev.symm.trans ev14; rw [Value.slice.injEq] at z; exact (blk_inj z.1).symm
  rw [em14] at st14
  have ws14 := wth_set (l := (wth (wth (wth (wth (wth (wth (wth (wth (wth (wth (wth (wth (wth (wth b 11 (by2 512)) 13 [e]) 16 [t]) 14 (by2 a)) 17 (by2 0)) 19 (by2 0)) 22 (by2 0)) 32 (by4 s)) 36 (by4 g)) 40 (by4 0)) 44 (by4 r)) 48 (by2 i)) 50 (by2 c)) 82 sig)) (a := 510) (p := []) (85) (by rw [q14]; simp)
  simp only [wth_nil, List.length_nil, Nat.add_zero, List.nil_append] at ws14
  rw [ws14] at w15
  have gb15 := (gt14 h.next (by omega)).trans gb14
  have x15 : h.next < G15.next := by omega
  have k15 := k14.trans kk14
  have q15 : (wth (wth (wth (wth (wth (wth (wth (wth (wth (wth (wth (wth (wth (wth (wth b 11 (by2 512)) 13 [e]) 16 [t]) 14 (by2 a)) 17 (by2 0)) 19 (by2 0)) 22 (by2 0)) 32 (by4 s)) 36 (by4 g)) 40 (by4 0)) 44 (by4 r)) 48 (by2 i)) 50 (by2 c)) 82 sig) 510 [85]).length = 512 := by rw [wth_len (by simp only [q14, by2_len, by4_len, List.length_cons, List.length_nil]; omega)]; exact q14
  obtain ⟨m15, G16, ev15, st15, w16, kk15, nx15, gt15⟩ := w15.store 511 (by rw [q15]; omega) (170)
  have em15 : m15 = m := by have z := ev.symm.trans ev15; rw [Value.slice.injEq] at z; exact (blk_inj z.1).symm
  rw [em15] at st15
  have ws15 := wth_set (l := (wth (wth (wth (wth (wth (wth (wth (wth (wth (wth (wth (wth (wth (wth (wth b 11 (by2 512)) 13 [e]) 16 [t]) 14 (by2 a)) 17 (by2 0)) 19 (by2 0)) 22 (by2 0)) 32 (by4 s)) 36 (by4 g)) 40 (by4 0)) 44 (by4 r)) 48 (by2 i)) 50 (by2 c)) 82 sig) 510 [85])) (a := 511) (p := []) (170) (by rw [q15]; simp)
  simp only [wth_nil, List.length_nil, Nat.add_zero, List.nil_append] at ws15
  rw [ws15] at w16
  have gb16 := (gt15 h.next (by omega)).trans gb15
  have x16 : h.next < G16.next := by omega
  have k16 := k15.trans kk15
  have q16 : (wth (wth (wth (wth (wth (wth (wth (wth (wth (wth (wth (wth (wth (wth (wth (wth b 11 (by2 512)) 13 [e]) 16 [t]) 14 (by2 a)) 17 (by2 0)) 19 (by2 0)) 22 (by2 0)) 32 (by4 s)) 36 (by4 g)) 40 (by4 0)) 44 (by4 r)) 48 (by2 i)) 50 (by2 c)) 82 sig) 510 [85]) 511 [170]).length = 512 := by rw [wth_len (by simp only [q15, by2_len, by4_len, List.length_cons, List.length_nil]; omega)]; exact q15
  have ct2 := ld_cell gb2 (i := 2) rfl
  have ce1 := ld_cell gb1 (i := 0) rfl
  have ct1 := ld_cell gb1 (i := 2) rfl
  subst ev
  simp (disch := omega) [box8_new, cg, ec, skip0, recheck, beqV, wrapF_u8, wrapF_u16, wrapF_u32, aIndexSl_ok, pe0, ca1, st1, ca2, st2, ca3, pe3, pe4, pe5, pe6, ca7, pe7, ca8, pe8, pe9, ca10, pe10, ca11, pe11, ca12, pe12, lt, gm, hF, pe13, st14, st15, ct2, ce1, ct1]
  exact ⟨w16, k16⟩
end Go.Proofs.Ytgapfoaklgganaa.L16

set_option linter.unusedVariables false
set_option linter.unusedSimpArgs false
set_option linter.unnecessarySimpa false
/-! A boot is put into a sector by the document. -/
namespace Go.Proofs.Ytgapfoaklgganaa.L16
open Go Go.AM Go.Proofs.Ytgapfoaklgganaa.AMC
set_option maxRecDepth 10000
theorem with_i (L d : Nat) (v w : Value) (l p : List Int) (at_ : Nat) (ai : Int) (ha : ai = at_) (h : AHeap) (hv : SlB h v l) (hw : SlB h w p) (hl : l.length < 1099511627776) (hn : at_ + p.length ≤ l.length) :
    ∃ r h', (En L (d + 1)).go 36 [v, .int .i64 ai, w] h = some (r, h') ∧ OwnB h.next h' r (wth l at_ p) ∧ Keep h.next h h' := by
  subst ha; exact with_spec L d v w l p at_ h hv hw hl hn
theorem lit2 (h : AHeap) : aBuildSlice true ⟨1, 1, [.int .u8 0]⟩ 2 [(0, .int .u8 85), (1, .int .u8 170)] h = some (.slice (some ⟨h.next, 0, none⟩) 2 2, h.new (.row false 0 (mkRow true (byV [85, 170])))) := rfl
theorem mark_sl (G : AHeap) (l : List Int) : SlB ((G.new (.row false 0 (mkRow true (byV l)))).set G.next (.row false 0 (mkRow true (byV l)))) (.slice (some ⟨G.next, 0, none⟩) l.length l.length) l :=
  ⟨by simp, .inr ⟨G.next, 0, l.length, false, 0, mkRow true (byV l), rfl, by simp, by simp, by rw [AHeap.get_set, if_pos rfl], .inl rfl, by rw [← Cells.length_toList, toList_mkRow]; simp, by rw [toList_mkRow, List.drop_zero, List.take_of_length_le (by simp)]⟩⟩
set_option maxHeartbeats 4000000 in
theorem refb (L d : Nat) (b : List Int) (e a t s g r i c : Int) (v : Value) (h : AHeap) (hv : SlB h v b) (hl : b.length = 512) (hk : chk e a t s g r i c = 0) :
    ∃ r' h', (En (L + 10) (d + 4)).go 28 [btV e a t s g r i c, v] h = some (r', h') ∧ OwnB h.next h' r' (bootL b e a t s g r i c) ∧ Keep h.next h h' := by
  refine go_ex (R := fun r' h' => OwnB h.next h' r' (bootL b e a t s g r i c) ∧ Keep h.next h h') (show tabF 28 = some (.code a28) by rfl) rfl ?_
  unfold a28
  obtain ⟨e0, e1, t0, t1, s0, s1, g0, g1, a0, a1, i0, i1, c0, c1, r0, r1⟩ := chk_rng hk
  have gb0 := box8_get e a t s g r i c h
  have k0 : Keep h.next h (h.new (box8 e a t s g r i c)) := (Keep.refl _ _).new (Nat.le_refl _) _
  have x0 : h.next < (h.new (box8 e a t s g r i c)).next := by simp
  have w0 := hv.keep k0 (Nat.le_refl _)
  have bn := box8_new e a t s g r i c h
  generalize hG0 : h.new (box8 e a t s g r i c) = G0 at gb0 k0 x0 w0 bn
  have q0 := hl
  obtain ⟨b0, F0, cc0, p0, y0⟩ := bytes2 L (d + 2) 512 G0 (by omega) (by omega)
  obtain ⟨v1, G1, ee0, w1, kz0⟩ := with_i (L + 10) (d + 2) v b0 b (by2 512) 11 11 rfl F0 (w0.keep y0 (Nat.le_refl _)) p0.sl (by omega) (by rw [q0]; simp [by2, by4])
  have gb1 := (kz0.get h.next (by have := y0.next; omega)).trans ((y0.get h.next (by omega)).trans gb0)
  have x1 : h.next < G1.next := by have h1 := y0.next; have h2 := kz0.next; omega
  have k1 := (k0.trans (y0.less (by omega))).trans (kz0.less (by have := y0.next; omega))
  have q1 : (wth b 11 (by2 512)).length = 512 := by rw [wth_len (by simp only [q0, by2_len, by4_len, List.length_cons, List.length_nil]; omega)]; exact q0
  have ca1 := ld_cell gb1 (i := 0) rfl
  obtain ⟨b1, F1, cc1, p1, y1⟩ := bytes1 L (d + 2) e G1 (by omega) (by omega)
  obtain ⟨v2, G2, ee1, w2, kz1⟩ := with_i (L + 10) (d + 2) v1 b1 (wth b 11 (by2 512)) [e] 13 13 rfl F1 (w1.keep y1 (Nat.le_refl _)).sl p1.sl (by omega) (by rw [q1]; simp [by2, by4])
  have gb2 := (kz1.get h.next (by have := y1.next; omega)).trans ((y1.get h.next (by omega)).trans gb1)
  have x2 : h.next < G2.next := by have h1 := y1.next; have h2 := kz1.next; omega
  have k2 := (k1.trans (y1.less (by omega))).trans (kz1.less (by have := y1.next; omega))
  have q2 : (wth (wth b 11 (by2 512)) 13 [e]).length = 512 := by rw [wth_len (by simp only [q1, by2_len, by4_len, List.length_cons, List.length_nil]; omega)]; exact q1
  have ca2 := ld_cell gb2 (i := 1) rfl
  obtain ⟨b2, F2, cc2, p2, y2⟩ := bytes2 L (d + 2) a G2 (by omega) (by omega)
  obtain ⟨v3, G3, ee2, w3, kz2⟩ := with_i (L + 10) (d + 2) v2 b2 (wth (wth b 11 (by2 512)) 13 [e]) (by2 a) 14 14 rfl F2 (w2.keep y2 (Nat.le_refl _)).sl p2.sl (by omega) (by rw [q2]; simp [by2, by4])
  have gb3 := (kz2.get h.next (by have := y2.next; omega)).trans ((y2.get h.next (by omega)).trans gb2)
  have x3 : h.next < G3.next := by have h1 := y2.next; have h2 := kz2.next; omega
  have k3 := (k2.trans (y2.less (by omega))).trans (kz2.less (by have := y2.next; omega))
  have q3 : (wth (wth (wth b 11 (by2 512)) 13 [e]) 14 (by2 a)).length = 512 := by rw [wth_len (by simp only [q2, by2_len, by4_len, List.length_cons, List.length_nil]; omega)]; exact q2
  have ca3 := ld_cell gb3 (i := 2) rfl
  obtain ⟨b3, F3, cc3, p3, y3⟩ := bytes1 L (d + 2) t G3 (by omega) (by omega)
  obtain ⟨v4, G4, ee3, w4, kz3⟩ := with_i (L + 10) (d + 2) v3 b3 (wth (wth (wth b 11 (by2 512)) 13 [e]) 14 (by2 a)) [t] 16 16 rfl F3 (w3.keep y3 (Nat.le_refl _)).sl p3.sl (by omega) (by rw [q3]; simp [by2, by4])
  have gb4 := (kz3.get h.next (by have := y3.next; omega)).trans ((y3.get h.next (by omega)).trans gb3)
  have x4 : h.next < G4.next := by have h1 := y3.next; have h2 := kz3.next; omega
  have k4 := (k3.trans (y3.less (by omega))).trans (kz3.less (by have := y3.next; omega))
  have q4 : (wth (wth (wth (wth b 11 (by2 512)) 13 [e]) 14 (by2 a)) 16 [t]).length = 512 := by rw [wth_len (by simp only [q3, by2_len, by4_len, List.length_cons, List.length_nil]; omega)]; exact q3
  obtain ⟨b4, F4, cc4, p4, y4⟩ := zeros_spec (L + 10) (d + 2) 4 G4 (by omega)
  have cc4 : (En (L + 10) (d + 3)).go 34 [.int .i64 4] G4 = some (b4, F4) := cc4
  have p4 : OwnB G4.next F4 b4 z4 := p4
  obtain ⟨v5, G5, ee4, w5, kz4⟩ := with_i (L + 10) (d + 2) v4 b4 (wth (wth (wth (wth b 11 (by2 512)) 13 [e]) 14 (by2 a)) 16 [t]) z4 17 17 rfl F4 (w4.keep y4 (Nat.le_refl _)).sl p4.sl (by omega) (by rw [q4]; simp [by2, by4])
  have gb5 := (kz4.get h.next (by have := y4.next; omega)).trans ((y4.get h.next (by omega)).trans gb4)
  have x5 : h.next < G5.next := by have h1 := y4.next; have h2 := kz4.next; omega
  have k5 := (k4.trans (y4.less (by omega))).trans (kz4.less (by have := y4.next; omega))
  have q5 : (wth (wth (wth (wth (wth b 11 (by2 512)) 13 [e]) 14 (by2 a)) 16 [t]) 17 z4).length = 512 := by rw [wth_len (by simp only [q4, by2_len, by4_len, List.length_cons, List.length_nil]; omega)]; exact q4
  obtain ⟨b5, F5, cc5, p5, y5⟩ := zeros_spec (L + 10) (d + 2) 2 G5 (by omega)
  have cc5 : (En (L + 10) (d + 3)).go 34 [.int .i64 2] G5 = some (b5, F5) := cc5
  have p5 : OwnB G5.next F5 b5 z2 := p5
  obtain ⟨v6, G6, ee5, w6, kz5⟩ := with_i (L + 10) (d + 2) v5 b5 (wth (wth (wth (wth (wth b 11 (by2 512)) 13 [e]) 14 (by2 a)) 16 [t]) 17 z4) z2 22 22 rfl F5 (w5.keep y5 (Nat.le_refl _)).sl p5.sl (by omega) (by rw [q5]; simp [by2, by4])
  have gb6 := (kz5.get h.next (by have := y5.next; omega)).trans ((y5.get h.next (by omega)).trans gb5)
  have x6 : h.next < G6.next := by have h1 := y5.next; have h2 := kz5.next; omega
  have k6 := (k5.trans (y5.less (by omega))).trans (kz5.less (by have := y5.next; omega))
  have q6 : (wth (wth (wth (wth (wth (wth b 11 (by2 512)) 13 [e]) 14 (by2 a)) 16 [t]) 17 z4) 22 z2).length = 512 := by rw [wth_len (by simp only [q5, by2_len, by4_len, List.length_cons, List.length_nil]; omega)]; exact q5
  have ca6 := ld_cell gb6 (i := 3) rfl
  obtain ⟨b6, F6, cc6, p6, y6⟩ := bytes4 L (d + 2) s G6 (by omega) (by omega)
  obtain ⟨v7, G7, ee6, w7, kz6⟩ := with_i (L + 10) (d + 2) v6 b6 (wth (wth (wth (wth (wth (wth b 11 (by2 512)) 13 [e]) 14 (by2 a)) 16 [t]) 17 z4) 22 z2) (by4 s) 32 32 rfl F6 (w6.keep y6 (Nat.le_refl _)).sl p6.sl (by omega) (by rw [q6]; simp [by2, by4])
  have gb7 := (kz6.get h.next (by have := y6.next; omega)).trans ((y6.get h.next (by omega)).trans gb6)
  have x7 : h.next < G7.next := by have h1 := y6.next; have h2 := kz6.next; omega
  have k7 := (k6.trans (y6.less (by omega))).trans (kz6.less (by have := y6.next; omega))
  have q7 : (wth (wth (wth (wth (wth (wth (wth b 11 (by2 512)) 13 [e]) 14 (by2 a)) 16 [t]) 17 z4) 22 z2) 32 (by4 s)).length = 512 := by rw [wth_len (by simp only [q6, by2_len, by4_len, List.length_cons, List.length_nil]; omega)]; exact q6
  have ca7 := ld_cell gb7 (i := 4) rfl
  obtain ⟨b7, F7, cc7, p7, y7⟩ := bytes4 L (d + 2) g G7 (by omega) (by omega)
  obtain ⟨v8, G8, ee7, w8, kz7⟩ := with_i (L + 10) (d + 2) v7 b7 (wth (wth (wth (wth (wth (wth (wth b 11 (by2 512)) 13 [e]) 14 (by2 a)) 16 [t]) 17 z4) 22 z2) 32 (by4 s)) (by4 g) 36 36 rfl F7 (w7.keep y7 (Nat.le_refl _)).sl p7.sl (by omega) (by rw [q7]; simp [by2, by4])
  have gb8 := (kz7.get h.next (by have := y7.next; omega)).trans ((y7.get h.next (by omega)).trans gb7)
  have x8 : h.next < G8.next := by have h1 := y7.next; have h2 := kz7.next; omega
  have k8 := (k7.trans (y7.less (by omega))).trans (kz7.less (by have := y7.next; omega))
  have q8 : (wth (wth (wth (wth (wth (wth (wth (wth b 11 (by2 512)) 13 [e]) 14 (by2 a)) 16 [t]) 17 z4) 22 z2) 32 (by4 s)) 36 (by4 g)).length = 512 := by rw [wth_len (by simp only [q7, by2_len, by4_len, List.length_cons, List.length_nil]; omega)]; exact q7
  obtain ⟨b8, F8, cc8, p8, y8⟩ := zeros_spec (L + 10) (d + 2) 4 G8 (by omega)
  have cc8 : (En (L + 10) (d + 3)).go 34 [.int .i64 4] G8 = some (b8, F8) := cc8
  have p8 : OwnB G8.next F8 b8 z4 := p8
  obtain ⟨v9, G9, ee8, w9, kz8⟩ := with_i (L + 10) (d + 2) v8 b8 (wth (wth (wth (wth (wth (wth (wth (wth b 11 (by2 512)) 13 [e]) 14 (by2 a)) 16 [t]) 17 z4) 22 z2) 32 (by4 s)) 36 (by4 g)) z4 40 40 rfl F8 (w8.keep y8 (Nat.le_refl _)).sl p8.sl (by omega) (by rw [q8]; simp [by2, by4])
  have gb9 := (kz8.get h.next (by have := y8.next; omega)).trans ((y8.get h.next (by omega)).trans gb8)
  have x9 : h.next < G9.next := by have h1 := y8.next; have h2 := kz8.next; omega
  have k9 := (k8.trans (y8.less (by omega))).trans (kz8.less (by have := y8.next; omega))
  have q9 : (wth (wth (wth (wth (wth (wth (wth (wth (wth b 11 (by2 512)) 13 [e]) 14 (by2 a)) 16 [t]) 17 z4) 22 z2) 32 (by4 s)) 36 (by4 g)) 40 z4).length = 512 := by rw [wth_len (by simp only [q8, by2_len, by4_len, List.length_cons, List.length_nil]; omega)]; exact q8
  have ca9 := ld_cell gb9 (i := 5) rfl
  obtain ⟨b9, F9, cc9, p9, y9⟩ := bytes4 L (d + 2) r G9 (by omega) (by omega)
  obtain ⟨v10, G10, ee9, w10, kz9⟩ := with_i (L + 10) (d + 2) v9 b9 (wth (wth (wth (wth (wth (wth (wth (wth (wth b 11 (by2 512)) 13 [e]) 14 (by2 a)) 16 [t]) 17 z4) 22 z2) 32 (by4 s)) 36 (by4 g)) 40 z4) (by4 r) 44 44 rfl F9 (w9.keep y9 (Nat.le_refl _)).sl p9.sl (by omega) (by rw [q9]; simp [by2, by4])
  have gb10 := (kz9.get h.next (by have := y9.next; omega)).trans ((y9.get h.next (by omega)).trans gb9)
  have x10 : h.next < G10.next := by have h1 := y9.next; have h2 := kz9.next; omega
  have k10 := (k9.trans (y9.less (by omega))).trans (kz9.less (by have := y9.next; omega))
  have q10 : (wth (wth (wth (wth (wth (wth (wth (wth (wth (wth b 11 (by2 512)) 13 [e]) 14 (by2 a)) 16 [t]) 17 z4) 22 z2) 32 (by4 s)) 36 (by4 g)) 40 z4) 44 (by4 r)).length = 512 := by rw [wth_len (by simp only [q9, by2_len, by4_len, List.length_cons, List.length_nil]; omega)]; exact q9
  have ca10 := ld_cell gb10 (i := 6) rfl
  obtain ⟨b10, F10, cc10, p10, y10⟩ := bytes2 L (d + 2) i G10 (by omega) (by omega)
  obtain ⟨v11, G11, ee10, w11, kz10⟩ := with_i (L + 10) (d + 2) v10 b10 (wth (wth (wth (wth (wth (wth (wth (wth (wth (wth b 11 (by2 512)) 13 [e]) 14 (by2 a)) 16 [t]) 17 z4) 22 z2) 32 (by4 s)) 36 (by4 g)) 40 z4) 44 (by4 r)) (by2 i) 48 48 rfl F10 (w10.keep y10 (Nat.le_refl _)).sl p10.sl (by omega) (by rw [q10]; simp [by2, by4])
  have gb11 := (kz10.get h.next (by have := y10.next; omega)).trans ((y10.get h.next (by omega)).trans gb10)
  have x11 : h.next < G11.next := by have h1 := y10.next; have h2 := kz10.next; omega
  have k11 := (k10.trans (y10.less (by omega))).trans (kz10.less (by have := y10.next; omega))
  have q11 : (wth (wth (wth (wth (wth (wth (wth (wth (wth (wth (wth b 11 (by2 512)) 13 [e]) 14 (by2 a)) 16 [t]) 17 z4) 22 z2) 32 (by4 s)) 36 (by4 g)) 40 z4) 44 (by4 r)) 48 (by2 i)).length = 512 := by rw [wth_len (by simp only [q10, by2_len, by4_len, List.length_cons, List.length_nil]; omega)]; exact q10
  have ca11 := ld_cell gb11 (i := 7) rfl
  obtain ⟨b11, F11, cc11, p11, y11⟩ := bytes2 L (d + 2) c G11 (by omega) (by omega)
  obtain ⟨v12, G12, ee11, w12, kz11⟩ := with_i (L + 10) (d + 2) v11 b11 (wth (wth (wth (wth (wth (wth (wth (wth (wth (wth (wth b 11 (by2 512)) 13 [e]) 14 (by2 a)) 16 [t]) 17 z4) 22 z2) 32 (by4 s)) 36 (by4 g)) 40 z4) 44 (by4 r)) 48 (by2 i)) (by2 c) 50 50 rfl F11 (w11.keep y11 (Nat.le_refl _)).sl p11.sl (by omega) (by rw [q11]; simp [by2, by4])
  have gb12 := (kz11.get h.next (by have := y11.next; omega)).trans ((y11.get h.next (by omega)).trans gb11)
  have x12 : h.next < G12.next := by have h1 := y11.next; have h2 := kz11.next; omega
  have k12 := (k11.trans (y11.less (by omega))).trans (kz11.less (by have := y11.next; omega))
  have q12 : (wth (wth (wth (wth (wth (wth (wth (wth (wth (wth (wth (wth b 11 (by2 512)) 13 [e]) 14 (by2 a)) 16 [t]) 17 z4) 22 z2) 32 (by4 s)) 36 (by4 g)) 40 z4) 44 (by4 r)) 48 (by2 i)) 50 (by2 c)).length = 512 := by rw [wth_len (by simp only [q11, by2_len, by4_len, List.length_cons, List.length_nil]; omega)]; exact q11
  have lt12 := lit8 G12
  have gm12 : (G12.new (.row false 0 (mkRow true (byV sig)))).get G12.next = .row false 0 (mkRow true (byV sig)) := by rw [AHeap.get_new, if_pos rfl]
  have y12 : Keep G12.next G12 ((G12.new (.row false 0 (mkRow true (byV sig)))).set G12.next (.row false 0 (mkRow true (byV sig)))) := ((Keep.refl _ _).new (Nat.le_refl _) _).set (Nat.le_refl _) (by simp) _
  have p12 : SlB ((G12.new (.row false 0 (mkRow true (byV sig)))).set G12.next (.row false 0 (mkRow true (byV sig)))) (.slice (some ⟨G12.next, 0, none⟩) 8 8) sig := mark_sl G12 sig
  generalize hF12 : (G12.new (.row false 0 (mkRow true (byV sig)))).set G12.next (.row false 0 (mkRow true (byV sig))) = F12 at y12 p12
  obtain ⟨v13, G13, ee12, w13, kz12⟩ := with_i (L + 10) (d + 2) v12 (.slice (some ⟨G12.next, 0, none⟩) 8 8) (wth (wth (wth (wth (wth (wth (wth (wth (wth (wth (wth (wth b 11 (by2 512)) 13 [e]) 14 (by2 a)) 16 [t]) 17 z4) 22 z2) 32 (by4 s)) 36 (by4 g)) 40 z4) 44 (by4 r)) 48 (by2 i)) 50 (by2 c)) sig 82 82 rfl F12 (w12.keep y12 (Nat.le_refl _)).sl p12 (by omega) (by rw [q12]; simp [by2, by4])
  have gb13 := (kz12.get h.next (by have := y12.next; omega)).trans ((y12.get h.next (by omega)).trans gb12)
  have x13 : h.next < G13.next := by have h1 := y12.next; have h2 := kz12.next; omega
  have k13 := (k12.trans (y12.less (by omega))).trans (kz12.less (by have := y12.next; omega))
  have q13 : (wth (wth (wth (wth (wth (wth (wth (wth (wth (wth (wth (wth (wth b 11 (by2 512)) 13 [e]) 14 (by2 a)) 16 [t]) 17 z4) 22 z2) 32 (by4 s)) 36 (by4 g)) 40 z4) 44 (by4 r)) 48 (by2 i)) 50 (by2 c)) 82 sig).length = 512 := by rw [wth_len (by simp only [q12, by2_len, by4_len, List.length_cons, List.length_nil]; omega)]; exact q12
  have lt13 := lit2 G13
  have p13 := row_sl G13 [85, 170] (by simp)
  have y13 : Keep G13.next G13 (G13.new (.row false 0 (mkRow true (byV [85, 170])))) := (Keep.refl _ _).new (Nat.le_refl _) _
  generalize hF13 : G13.new (.row false 0 (mkRow true (byV [85, 170]))) = F13 at y13 p13 lt13
  obtain ⟨v14, G14, ee13, w14, kz13⟩ := with_i (L + 10) (d + 2) v13 (.slice (some ⟨G13.next, 0, none⟩) 2 2) (wth (wth (wth (wth (wth (wth (wth (wth (wth (wth (wth (wth (wth b 11 (by2 512)) 13 [e]) 14 (by2 a)) 16 [t]) 17 z4) 22 z2) 32 (by4 s)) 36 (by4 g)) 40 z4) 44 (by4 r)) 48 (by2 i)) 50 (by2 c)) 82 sig) [85, 170] 510 510 rfl F13 (w13.keep y13 (Nat.le_refl _)).sl p13 (by omega) (by rw [q13]; simp [by2, by4])
  have gb14 := (kz13.get h.next (by have := y13.next; omega)).trans ((y13.get h.next (by omega)).trans gb13)
  have x14 : h.next < G14.next := by have h1 := y13.next; have h2 := kz13.next; omega
  have k14 := (k13.trans (y13.less (by omega))).trans (kz13.less (by have := y13.next; omega))
  have q14 : (wth (wth (wth (wth (wth (wth (wth (wth (wth (wth (wth (wth (wth (wth b 11 (by2 512)) 13 [e]) 14 (by2 a)) 16 [t]) 17 z4) 22 z2) 32 (by4 s)) 36 (by4 g)) 40 z4) 44 (by4 r)) 48 (by2 i)) 50 (by2 c)) 82 sig) 510 [85, 170]).length = 512 := by rw [wth_len (by simp only [q13, by2_len, by4_len, List.length_cons, List.length_nil]; omega)]; exact q13
  simp (disch := omega) [bn, wrapF_u64, skip0, cc0, ee0, ca1, cc1, ee1, ca2, cc2, ee2, ca3, cc3, ee3, cc4, ee4, cc5, ee5, ca6, cc6, ee6, ca7, cc7, ee7, cc8, ee8, ca9, cc9, ee9, ca10, cc10, ee10, ca11, cc11, ee11, lt12, gm12, hF12, ee12, lt13, ee13]
  refine ⟨OwnS.less w14 ?_, k14⟩
  have := y13.next; omega
end Go.Proofs.Ytgapfoaklgganaa.L16

set_option linter.unusedVariables false
set_option linter.unusedSimpArgs false
set_option linter.unnecessarySimpa false
/-! A boot is read from a sector. -/
namespace Go.Proofs.Ytgapfoaklgganaa.L16
open Go Go.AM Go.Proofs.Ytgapfoaklgganaa.AMC
set_option maxRecDepth 10000
def layL (b : List Int) : List (Nat × List Int) → List Int
  | [] => b
  | (a, p) :: ps => layL (wth b a p) ps
def rdL : List (Nat × List Int) → Int → Nat → Int
  | [], d, _ => d
  | (a, p) :: ps, d, i => rdL ps (if i < a then d else if i < a + p.length then rdI p ((i - a : Nat) : Int) else d) i
theorem rd_layL (i : Nat) : ∀ (ps : List (Nat × List Int)) (b : List Int), (∀ q ∈ ps, q.1 + q.2.length ≤ b.length) → rdI (layL b ps) (i : Int) = rdL ps (rdI b i) i
  | [], b, h => rfl
  | (a, p) :: ps, b, h => by
    have h1 : a + p.length ≤ b.length := h (a, p) (by simp)
    show rdI (layL (wth b a p) ps) (i : Int) = rdL ps _ i
    rw [rd_layL i ps (wth b a p) (fun q hq => by rw [wth_len h1]; exact h q (by simp [hq])), rd_wth h1]
def bps (e a t s g r i c : Int) : List (Nat × List Int) := [(11, (by2 512)), (13, [e]), (14, (by2 a)), (16, [t]), (17, z4), (22, z2), (32, (by4 s)), (36, (by4 g)), (40, z4), (44, (by4 r)), (48, (by2 i)), (50, (by2 c)), (82, sig), (510, [85, 170])]
theorem bootL_lay (b : List Int) (e a t s g r i c : Int) : bootL b e a t s g r i c = layL b (bps e a t s g r i c) := rfl
theorem bps_fit {b : List Int} (e a t s g r i c : Int) (hb : b.length = 512) : ∀ q ∈ bps e a t s g r i c, q.1 + q.2.length ≤ b.length := by
  intro q hq
  simp only [bps, List.mem_cons, List.not_mem_nil, or_false] at hq
  rcases hq with rfl | rfl | rfl | rfl | rfl | rfl | rfl | rfl | rfl | rfl | rfl | rfl | rfl | rfl <;> simp only [by2_len, by4_len, List.length_cons, List.length_nil] <;> omega
structure Rd (B : List Int) (e a t s g r i c : Int) : Prop where
  x510 : rdI B 510 = 85
  x511 : rdI B 511 = 170
  x13 : rdI B 13 = e
  x16 : rdI B 16 = t
  x11 : le2 B 11 = 512
  x14 : le2 B 14 = a
  x17 : le2 B 17 = 0
  x19 : le2 B 19 = 0
  x22 : le2 B 22 = 0
  x32 : le4 B 32 = s
  x36 : le4 B 36 = g
  x40 : le4 B 40 = 0
  x44 : le4 B 44 = r
  x48 : le2 B 48 = i
  x50 : le2 B 50 = c
  sg : (B.drop 82).take 8 = sig
theorem bootL_rd {b : List Int} {e a t s g r i c : Int} (hb : b.length = 512) (hr : Rng e a t s g r i c) : Rd (bootL b e a t s g r i c) e a t s g r i c := by
  have hl := bootL_len e a t s g r i c hb
  have R : ∀ k : Nat, rdI (bootL b e a t s g r i c) (k : Int) = rdL (bps e a t s g r i c) (rdI b k) k := fun k => by rw [bootL_lay]; exact rd_layL k _ b (bps_fit e a t s g r i c hb)
  obtain ⟨e0, e1, t0, t1, s0, s1, g0, g1, a0, a1, i0, i1, c0, c1, r0, r1⟩ := hr
  generalize bootL b e a t s g r i c = B at R hl
  refine ⟨R 510, R 511, R 13, R 16, ?_, ?_, ?_, ?_, ?_, ?_, ?_, ?_, ?_, ?_, ?_, ?_⟩
  · have h0 : rdI B 11 = 512 % 256 := R 11
    have h1 : rdI B (11 + 1) = 512 / 256 % 256 := R 12
    unfold le2; rw [h0, h1]; omega
  · have h0 : rdI B 14 = a % 256 := R 14
    have h1 : rdI B (14 + 1) = a / 256 % 256 := R 15
    unfold le2; rw [h0, h1]; omega
  · have h0 : rdI B (17) = 0 := R 17
    have h1 : rdI B (17 + 1) = 0 := R 18
    unfold le2; rw [h0, h1]; rfl
  · have h0 : rdI B (19) = 0 := R 19
    have h1 : rdI B (19 + 1) = 0 := R 20
    unfold le2; rw [h0, h1]; rfl
  · have h0 : rdI B (22) = 0 := R 22
    have h1 : rdI B (22 + 1) = 0 := R 23
    unfold le2; rw [h0, h1]; rfl
  · have h0 : rdI B (32) = s % 256 := R 32
    have h1 : rdI B (32 + 1) = s / 256 % 256 := R 33
    have h2 : rdI B (32 + 2) = s / 256 / 256 % 256 := R 34
    have h3 : rdI B (32 + 3) = s / 256 / 256 / 256 % 256 := R 35
    unfold le4; rw [h0, h1, h2, h3]; omega
  · have h0 : rdI B (36) = g % 256 := R 36
    have h1 : rdI B (36 + 1) = g / 256 % 256 := R 37
    have h2 : rdI B (36 + 2) = g / 256 / 256 % 256 := R 38
    have h3 : rdI B (36 + 3) = g / 256 / 256 / 256 % 256 := R 39
    unfold le4; rw [h0, h1, h2, h3]; omega
  · have h0 : rdI B (40) = 0 := R 40
    have h1 : rdI B (40 + 1) = 0 := R 41
    have h2 : rdI B (40 + 2) = 0 := R 42
    have h3 : rdI B (40 + 3) = 0 := R 43
    unfold le4; rw [h0, h1, h2, h3]; rfl
  · have h0 : rdI B (44) = r % 256 := R 44
    have h1 : rdI B (44 + 1) = r / 256 % 256 := R 45
    have h2 : rdI B (44 + 2) = r / 256 / 256 % 256 := R 46
    have h3 : rdI B (44 + 3) = r / 256 / 256 / 256 % 256 := R 47
    unfold le4; rw [h0, h1, h2, h3]; omega
  · have h0 : rdI B 48 = i % 256 := R 48
    have h1 : rdI B (48 + 1) = i / 256 % 256 := R 49
    unfold le2; rw [h0, h1]; omega
  · have h0 : rdI B 50 = c % 256 := R 50
    have h1 : rdI B (50 + 1) = c / 256 % 256 := R 51
    unfold le2; rw [h0, h1]; omega
  · apply List.ext_getElem
    · simp [hl]
    · intro k h1 h2
      simp only [List.length_cons, List.length_nil] at h2
      have key : ∀ j, j < 8 → (B[82 + j]?).getD 0 = sig.getD j 0 := by
        intro j hj
        have : j = 0 ∨ j = 1 ∨ j = 2 ∨ j = 3 ∨ j = 4 ∨ j = 5 ∨ j = 6 ∨ j = 7 := by omega
        have e1 : ∀ n : Nat, rdI B (n : Int) = (B[n]?).getD 0 := fun n => by simp [rdI]
        rw [← e1]
        rcases this with rfl | rfl | rfl | rfl | rfl | rfl | rfl | rfl
        · exact R 82
        · exact R 83
        · exact R 84
        · exact R 85
        · exact R 86
        · exact R 87
        · exact R 88
        · exact R 89
      have kk := key k (by omega)
      rw [List.getElem?_eq_getElem (by omega)] at kk
      rw [List.getElem_take, List.getElem_drop]
      simp only [Option.getD_some] at kk
      rw [kk, List.getD_eq_getElem?_getD, List.getElem?_eq_getElem h2]
      rfl
end Go.Proofs.Ytgapfoaklgganaa.L16

set_option linter.unusedVariables false
set_option linter.unusedSimpArgs false
set_option linter.unnecessarySimpa false
/-! A boot is parsed as it was written. -/
namespace Go.Proofs.Ytgapfoaklgganaa.L16
open Go Go.AM Go.Proofs.Ytgapfoaklgganaa.AMC
set_option maxRecDepth 10000
theorem build8 (e a t s g r i c : Int) : aBuild (.str [.int .i64 0, .int .i64 0, .int .i64 0, .int .i64 0, .int .i64 0, .int .i64 0, .int .i64 0, .int .i64 0] [(0, 1), (1, 1), (2, 1), (3, 1), (4, 1), (5, 1), (6, 1), (7, 1)]) [(0, .int .i64 e), (1, .int .i64 a), (2, .int .i64 t), (3, .int .i64 s), (4, .int .i64 g), (5, .int .i64 r), (6, .int .i64 i), (7, .int .i64 c)] = some (btV e a t s g r i c) := by
  kernel_rfl
theorem store_at {H : AHeap} {m : Nat} {gr : Nat} {old : List Value} (hg : H.get m = .row false gr (.vals old)) (vs : Array Value) (sz : Nat) (h1 : vs.size = sz) (h2 : old.length = sz) (h3 : vs.toList.all one = true) :
    aStore sz (.pointer (some ⟨m, 0, none⟩)) (.agg vs) H = some (H.set m (.row false gr (.vals vs.toList))) := by
  have hc : (Value.agg vs).cells = vs := rfl
  simp only [aStore, hg, hc]
  rw [if_pos ⟨h1, by simp only [Cells.size]; omega, h3⟩]
  have hl : vs.toList.length = sz := by simpa using h1
  simp only [cellsOf, hc, Cells.blit, Cells.ext, Cells.app, Cells.size, Cells.toList]
  simp [h1, h2]
set_option maxHeartbeats 1000000 in
theorem parseb (L d : Nat) (B : List Int) (e a t s g r i c : Int) (v : Value) (h : AHeap) (hw : Wf h) (hv : SlB h v B) (hb : Byt B) (hl : B.length = 512) (hR : Rd B e a t s g r i c) (hk : chk e a t s g r i c = 0) :
    ∃ r' h', (En (L + 10) (d + 4)).go 27 [v] h = some (r', h') ∧ r' = .tuple #[btV e a t s g r i c, .int .i64 0] ∧ Keep h.next h h' := by
  refine go_ex (R := fun r' h' => r' = .tuple #[btV e a t s g r i c, .int .i64 0] ∧ Keep h.next h h') (show tabF 27 = some (.code a27) by rfl) rfl ?_
  unfold a27
  obtain ⟨e0, e1, t0, t1, s0, s1, g0, g1, a0, a1, i0, i1, c0, c1, r0, r1⟩ := chk_rng hk
  obtain ⟨m, off, cap, ev, hm, hr⟩ := hv.row (by omega)
  have hal : aNew true [.int .i64 0, .int .i64 0, .int .i64 0, .int .i64 0, .int .i64 0, .int .i64 0, .int .i64 0, .int .i64 0] h = some (.pointer (some ⟨h.next, 0, none⟩), h.new (box8 0 0 0 0 0 0 0 0)) := by simp [aNew, one, box8]
  have kb : Keep h.next h (h.new (box8 0 0 0 0 0 0 0 0)) := (Keep.refl _ _).new (Nat.le_refl _) _
  have hr1 := hr.keep kb hm
  have hv1 := hv.keep kb (Nat.le_refl _)
  have gz : (h.new (box8 0 0 0 0 0 0 0 0)).get h.next = .row false 0 (.vals (btL 0 0 0 0 0 0 0 0)) := by rw [AHeap.get_new, if_pos rfl]; rfl
  have hn1 : (h.new (box8 0 0 0 0 0 0 0 0)).next = h.next + 1 := rfl
  generalize hH1 : h.new (box8 0 0 0 0 0 0 0 0) = H1 at hal kb hr1 hv1 gz hn1
  have u4 := fun (x : Int) (x0 : 0 ≤ x) (x1 : x + 4 ≤ B.length) => u32_yes L d m off cap x B B.length rfl H1 (by omega) hr1 hb x0 x1
  have u2 := fun (x : Int) (x0 : 0 ≤ x) (x1 : x + 2 ≤ B.length) => u16_yes L d m off cap x B B.length rfl H1 (by omega) hr1 hb x0 x1
  have p11 := u2 11 (by omega) (by omega); rw [hR.x11] at p11
  have p14 := u2 14 (by omega) (by omega); rw [hR.x14] at p14
  have p17 := u2 17 (by omega) (by omega); rw [hR.x17] at p17
  have p19 := u2 19 (by omega) (by omega); rw [hR.x19] at p19
  have p22 := u2 22 (by omega) (by omega); rw [hR.x22] at p22
  have p32 := u4 32 (by omega) (by omega); rw [hR.x32] at p32
  have p36 := u4 36 (by omega) (by omega); rw [hR.x36] at p36
  have p40 := u4 40 (by omega) (by omega); rw [hR.x40] at p40
  have p44 := u4 44 (by omega) (by omega); rw [hR.x44] at p44
  have p48 := u2 48 (by omega) (by omega); rw [hR.x48] at p48
  have p50 := u2 50 (by omega) (by omega); rw [hR.x50] at p50
  clear u4 u2
  obtain ⟨vs, c1s, s1s⟩ := cutB hv1 (lo := some (.int .i64 82)) (hi := some (.int .i64 90)) 82 90 (.inr ⟨_, rfl⟩) (.inr ⟨_, rfl⟩) (by omega) (by omega)
  have s2s : SlB H1 vs sig := by have := s1s; rw [show 90 - 82 = 8 from rfl, hR.sg] at this; exact this
  have str := s2s.str
  have d510 := hr1.rd (i := 510) (by omega) (by omega); rw [hR.x510] at d510
  have d511 := hr1.rd (i := 511) (by omega) (by omega); rw [hR.x511] at d511
  have d13 := hr1.rd (i := 13) (by omega) (by omega); rw [hR.x13] at d13
  have d16 := hr1.rd (i := 16) (by omega) (by omega); rw [hR.x16] at d16
  have d13s := (hr1.skip 1).rd (i := 13) (by omega) (by omega); rw [hR.x13] at d13s
  have d16s := (hr1.skip 1).rd (i := 16) (by omega) (by omega); rw [hR.x16] at d16s
  have hso : (strOf sig).data.toList = [70, 65, 84, 51, 50, 32, 32, 32] := by decide
  rw [hl] at *
  subst ev
  have n510 : (510 : Int).toNat = 510 := rfl
  have n511 : (511 : Int).toNat = 511 := rfl
  have n13 : (13 : Int).toNat = 13 := rfl
  have n16 : (16 : Int).toNat = 16 := rfl
  rw [n510] at d510; rw [n511] at d511; rw [n13] at d13 d13s; rw [n16] at d16 d16s
  have hH1u : h.new (.row false 0 (.vals [.int .i64 0, .int .i64 0, .int .i64 0, .int .i64 0, .int .i64 0, .int .i64 0, .int .i64 0, .int .i64 0])) = H1 := hH1
  have hd := (kb.wf hw) H1.next (Nat.le_refl _)
  obtain ⟨H2, st1, g1, n1, kk⟩ := store_set (H1.skip 1) H1.next (btL 0 0 0 0 0 0 0 0) #[.int .i64 e, .int .i64 a, .int .i64 t, .int .i64 s, .int .i64 g, .int .i64 r, .int .i64 i, .int .i64 c] 8 rfl rfl rfl
  have k12 := kk H1.next H1 ((Keep.refl _ _).skip 1) (Nat.le_refl _) (by rw [AHeap.next_skip]; omega)
  have lg2 : aLoad (some 8) (.pointer (some ⟨H1.next, 0, none⟩)) H2 = some (btV e a t s g r i c) := ld_agg g1 (n := 8) rfl
  have nH2 : H2.next = H1.next + 1 := by rw [n1, AHeap.next_skip]
  obtain ⟨_, H3, ec, rfl, k23⟩ := chk61 (L + 10) d e a t s g r i c H2
  rw [hk] at ec
  have g3 := (k23.get H1.next (by omega)).trans g1
  have lg3 : aLoad (some 8) (.pointer (some ⟨H1.next, 0, none⟩)) H3 = some (btV e a t s g r i c) := ld_agg g3 (n := 8) rfl
  have gz3 := (k23.get h.next (by omega)).trans ((k12.get h.next (by omega)).trans gz)
  have st3 := store_at gz3 #[.int .i64 e, .int .i64 a, .int .i64 t, .int .i64 s, .int .i64 g, .int .i64 r, .int .i64 i, .int .i64 c] 8 rfl rfl rfl
  have lg4 : aLoad (some 8) (.pointer (some ⟨h.next, 0, none⟩)) (H3.set h.next (.row false 0 (.vals #[.int .i64 e, .int .i64 a, .int .i64 t, .int .i64 s, .int .i64 g, .int .i64 r, .int .i64 i, .int .i64 c].toList))) = some (btV e a t s g r i c) := ld_agg (l := btL e a t s g r i c) (by rw [AHeap.get_set, if_pos rfl]) (n := 8) rfl
  have kfin : Keep h.next h (H3.set h.next (.row false 0 (.vals #[.int .i64 e, .int .i64 a, .int .i64 t, .int .i64 s, .int .i64 g, .int .i64 r, .int .i64 i, .int .i64 c].toList))) := by
    have k03 : Keep h.next h H3 := (kb.trans (k12.less (by omega))).trans (k23.less (by omega))
    exact k03.set (Nat.le_refl _) (by have := k23.next; omega) _
  generalize hF : H3.set h.next (.row false 0 (.vals #[.int .i64 e, .int .i64 a, .int .i64 t, .int .i64 s, .int .i64 g, .int .i64 r, .int .i64 i, .int .i64 c].toList)) = F at st3 lg4 kfin
  have bd : aBuild (.str [.int .i64 0, .int .i64 0, .int .i64 0, .int .i64 0, .int .i64 0, .int .i64 0, .int .i64 0, .int .i64 0] [(0, 1), (1, 1), (2, 1), (3, 1), (4, 1), (5, 1), (6, 1), (7, 1)]) [(0, .int .i64 e), (1, .int .i64 a), (2, .int .i64 t), (3, .int .i64 s), (4, .int .i64 g), (5, .int .i64 r), (6, .int .i64 i), (7, .int .i64 c)] = some (btV e a t s g r i c) := build8 e a t s g r i c
  simp (disch := omega) [hH1u, d13s, d16s, bd, one, aNew, AHeap.get_skip, hd, AObj.live, st1, lg2, ec, lg3, st3, lg4, d510, d511, aIndexSl_ok, c1s, str, aStr, hso, p11, p14, p17, p19, p22, p32, p36, p40, p44, p48, p50, wrapF_i64, d13, d16, skip0]
  exact kfin
end Go.Proofs.Ytgapfoaklgganaa.L16

