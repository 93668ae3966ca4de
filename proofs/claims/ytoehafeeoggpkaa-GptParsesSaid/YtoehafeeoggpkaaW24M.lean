import Derived.Test.YtoehafeeoggpkaaT24
import Derived.Test.YtoehafeeoggpkaaQ24
import Derived.Test.YtoehafeeoggpkaaR24
import Derived.Test.YtoehafeeoggpkaaU24M
import Derived.Test.YtoehafeeoggpkaaP24
import Derived.Deep.Slices
import Derived.OpenShut
set_option linter.unusedVariables false
set_option linter.unusedSimpArgs false
set_option linter.unnecessarySimpa false
/-! Numbers' bytes, entries' bytes, padding: the document's. -/
namespace Go.Proofs.Ytoehafeeoggpkaa.L24
open Go Go.Proofs Go.Shelf Go.RowKit Go.Lib Go.Sort Go.AM Go.Proofs.Ytoehafeeoggpkaa.AMC
set_option maxRecDepth 10000
noncomputable section
def row1 (x : Int) : AObj := .row false 0 (mkRow true [.int .u8 x])
theorem lit1 (x : Int) (h : AHeap) : aBuildSlice true ⟨1, 1, [.int .u8 0]⟩ 1 [(0, .int .u8 x)] h = some (.slice (some ⟨h.next, 0, none⟩) 1 1, h.new (row1 x)) := rfl
theorem one_sl (h : AHeap) (x : Int) : SlB (h.new (row1 x)) (.slice (some ⟨h.next, 0, none⟩) 1 1) [x] :=
  ⟨rfl, .inr ⟨h.next, 0, 1, false, 0, mkRow true [.int .u8 x], rfl, by simp, by simp, by rw [AHeap.get_new, if_pos rfl]; rfl, .inl rfl, by rw [← Cells.length_toList, toList_mkRow]; simp, by rw [toList_mkRow]; rfl⟩⟩
/-- A number's bytes. -/
def byN (v : Int) : Nat → List Int
  | 0 => []
  | n + 1 => v % 256 :: byN (v / 256) n
theorem byN_len (v : Int) : ∀ n, (byN v n).length = n
  | 0 => rfl
  | n + 1 => by simp [byN, byN_len (v / 256) n]
theorem byN_byt : ∀ (n : Nat) (v : Int), Byt (byN v n)
  | 0, v, x, hx => by cases hx
  | n + 1, v, x, hx => by
    rcases List.mem_cons.1 hx with rfl | hx
    · omega
    · exact byN_byt n _ x hx
theorem Byt.app {a b : List Int} (ha : Byt a) (hb : Byt b) : Byt (a ++ b) := fun x hx => by
  rcases List.mem_append.1 hx with hx | hx
  · exact ha x hx
  · exact hb x hx
theorem Byt.zeros (n : Nat) : Byt (List.replicate n 0) := fun x hx => by have := List.eq_of_mem_replicate hx; omega
def ByI (v : Int) (n : Nat) (h : AHeap) (j : Nat) (T : Tr Value) (h' : AHeap) : Prop :=
  ∃ (i : Nat) (x : Int) (w : Value) (out : List Int), j = n - i ∧ i ≤ n ∧ T.get 0 = some (.int .u64 x) ∧ 0 ≤ x ∧ x ≤ 18446744073709551615 ∧ T.get 1 = some (.int .i64 n) ∧ T.get 5 = some w ∧ T.get 6 = some (.int .i64 i) ∧ OwnB h.next h' w out ∧ out.length = i ∧ byN v n = out ++ byN x (n - i) ∧ Keep h.next h h'
theorem bytesN (L d n : Nat) (v : Int) (h : AHeap) (h0 : 0 ≤ v) (h1 : v ≤ 18446744073709551615) (hn : n < 1000) (hL : 1000000000 < L) :
    ∃ r h', (En L (d + 1)).go 32 [.int .u64 v, .int .i64 n] h = some (r, h') ∧ OwnB h.next h' r (byN v n) ∧ Keep h.next h h' := by
  refine go_ex (R := fun r h' => OwnB h.next h' r (byN v n) ∧ Keep h.next h h') (show tabF 32 = some (.code a32) by rfl) rfl ?_
  unfold a32
  simp (disch := omega)
  refine W_loop (ByI v n h) n (by show _ < L; omega) ⟨0, v, .slice none 0 0, [], rfl, by omega, by simp, h0, h1, by simp, by simp, by simp, OwnB.nil _ _, rfl, rfl, Keep.refl _ _⟩ ?_
  rintro j T h' ⟨i, x, w, out, rfl, hi4, t0, x0, x1, t1, t5, t6, ow, hlen, hx, hk⟩
  by_cases hi : i < n
  · have hi' : (i : Int) < n := by omega
    have os := one_sl h' (x % 256)
    obtain ⟨v2, h2, c2, o2, k2⟩ := OwnB.append (k := EK1) (h := h'.new (row1 (x % 256))) (ow.keep ((Keep.refl h'.next h').new (Nat.le_refl _) _) (Nat.le_refl _)) os rfl rfl (by have := hk.next; simp; omega) (by simp; omega)
    have e : byN x (n - i) = x % 256 :: byN (x / 256) (n - (i + 1)) := by
      rw [show n - i = n - (i + 1) + 1 by omega]; rfl
    simp (disch := omega) [t0, t1, t5, t6, hi', decide_eq_true, wrapF_i64, wrapF_u8, wrapF_u64, wrapF_mod_u8, Int.tmod_eq_emod_of_nonneg x0, Int.tdiv_eq_ediv_of_nonneg x0, lit1, c2]
    exact ⟨n - (i + 1), by omega, i + 1, x / 256, v2, out ++ [x % 256], rfl, by omega, by simp, by omega, by omega, by simp [t1], by simp, by simp, o2, by simp [hlen], by rw [hx, e]; simp, (hk.new (Nat.le_refl _) _).trans k2⟩
  · have hie : i = n := by omega
    subst hie
    rw [Nat.sub_self] at hx
    have hx : byN v i = out := by rw [hx]; simp [byN]
    simp (disch := omega) [t0, t1, t5, t6]
    exact ⟨by rw [hx]; exact ow, hk⟩
theorem u64_bd (x : Int) : 0 ≤ wrapF .u64 x ∧ wrapF .u64 x ≤ 18446744073709551615 := by
  simp only [wrapF_eq, IntKind.wrap, IntKind.bits, IntKind.signed]
  simp
  omega
/-- An entry's bytes. -/
def entB (e : Ent) : List Int := e.ids ++ byN (wrapF .u64 e.a) 8 ++ byN (wrapF .u64 e.b) 8 ++ e.rest
theorem entB_len {e : Ent} (o : e.Ok) : (entB e).length = 128 := by simp [entB, byN_len, o.i, o.r]
theorem entB_byt {e : Ent} (o : e.Ok) : Byt (entB e) := Byt.app (Byt.app (Byt.app o.bi (byN_byt _ _)) (byN_byt _ _)) o.br
def entsB (l : List Ent) : List Int := l.flatMap entB
theorem entsB_len {l : List Ent} (h : ∀ e ∈ l, e.Ok) : (entsB l).length = l.length * 128 := by
  induction l with
  | nil => rfl
  | cons e l ih =>
    have := ih fun x hx => h x (List.mem_cons_of_mem _ hx)
    simp only [entsB, List.flatMap_cons, List.length_append, List.length_cons] at this ⊢
    rw [entB_len (h e (List.mem_cons_self ..)), this]; omega
theorem entsB_byt {l : List Ent} (h : ∀ e ∈ l, e.Ok) : Byt (entsB l) := fun x hx => by
  obtain ⟨e, he, hx⟩ := List.mem_flatMap.1 hx
  exact entB_byt (h e he) x hx
theorem entsB_take {l : List Ent} {i : Nat} (hi : i < l.length) : entsB (l.take (i + 1)) = entsB (l.take i) ++ entB l[i] := by
  unfold entsB
  rw [List.take_add_one, List.getElem?_eq_getElem hi, List.flatMap_append]
  simp
def EbI (w : Value) (l : List Ent) (h : AHeap) (j : Nat) (T : Tr Value) (h' : AHeap) : Prop :=
  ∃ (i : Nat) (u : Value), j = l.length - i ∧ i ≤ l.length ∧ T.get 0 = some w ∧ T.get 3 = some u ∧ T.get 4 = some (.int .i64 i) ∧ OwnB h.next h' u (entsB (l.take i)) ∧ Keep h.next h h'
set_option maxHeartbeats 4000000 in
theorem bytes57 (L d : Nat) (w : Value) (rl : List REnt) (l : List Ent) (ok : ∀ e ∈ l, e.Ok) (h : AHeap) (hs : SlC rEnc 4 h w rl) (hr : RL h rl l) (hn : l.length < 100000) (hL : 1000000000 < L) :
    ∃ r h', (En L (d + 2)).go 57 [w] h = some (r, h') ∧ OwnB h.next h' r (entsB l) ∧ Keep h.next h h' := by
  refine go_ex (R := fun r h' => OwnB h.next h' r (entsB l) ∧ Keep h.next h h') (show tabF 57 = some (.code a57) by rfl) rfl ?_
  unfold a57
  obtain ⟨x, c, ev⟩ := hs.val
  rw [hr.1] at ev
  simp
  refine W_loop (EbI w l h) l.length (by show _ < L; omega) ⟨0, .slice none 0 0, rfl, by omega, by simp, by simp, by simp, OwnB.nil _ _, Keep.refl _ _⟩ ?_
  rintro j T h' ⟨i, u, rfl, hi, t0, t3, t4, ow, kk⟩
  by_cases hlt : i < l.length
  · have hlt' : (i : Int) < l.length := by omega
    have hlr : i < rl.length := by rw [hr.1]; exact hlt
    have oe := ok _ (List.getElem_mem hlt)
    obtain ⟨m, off, cap, em, hm, _, ld⟩ := hs.at (enc := rEnc) (es := 4) (fun e he => rfl) (by omega)
    rw [hr.1] at em
    obtain ⟨ra, rb, rs, rr⟩ := hr.2 i hlr hlt
    have tk := entsB_take hlt
    have ll : (entsB (l.take i)).length ≤ 100000 * 128 := by
      rw [entsB_len (fun e he => ok e (List.mem_of_mem_take he)), List.length_take]
      have : min i l.length ≤ 100000 := by omega
      omega
    have l0 : ∀ H : AHeap, Keep h.next h H → aLoad none (.pointer (some ⟨m, off + i * 4, none⟩)) H = some rl[i].1 := fun H k => by simpa using ld H i 0 rl[i].1 hlr (k.get m hm) (by omega) rfl
    have l1 : ∀ H : AHeap, Keep h.next h H → aLoad none (.pointer (some ⟨m, off + i * 4 + 1, none⟩)) H = some (.int .i64 l[i].a) := fun H k => by rw [← ra]; exact ld H i 1 _ hlr (k.get m hm) (by omega) rfl
    have l2 : ∀ H : AHeap, Keep h.next h H → aLoad none (.pointer (some ⟨m, off + i * 4 + 2, none⟩)) H = some (.int .i64 l[i].b) := fun H k => by rw [← rb]; exact ld H i 2 _ hlr (k.get m hm) (by omega) rfl
    have l3 : ∀ H : AHeap, Keep h.next h H → aLoad none (.pointer (some ⟨m, off + i * 4 + 3, none⟩)) H = some rl[i].2.2.2 := fun H k => ld H i 3 _ hlr (k.get m hm) (by omega) rfl
    have step : ∀ (T6 : Tr Value) (h6 : AHeap) (u6 : Value), T6.get 0 = some w → T6.get 3 = some u6 → T6.get 4 = some (.int .i64 (i + 1)) → OwnB h.next h6 u6 (entsB (l.take i) ++ entB l[i]) → Keep h.next h h6 → ∃ j', j' < l.length - i ∧ EbI w l h j' T6 h6 := fun T6 h6 u6 a0 a3 a4 o6 k6 =>
      ⟨l.length - (i + 1), by omega, i + 1, u6, rfl, by omega, a0, a3, by rw [a4]; simp, by rw [tk]; exact o6, k6⟩
    generalize l[i] = e at oe rs rr l1 l2 step
    generalize rl[i].1 = p0 at rs l0
    generalize rl[i].2.2.2 = p3 at rr l3
    generalize entsB (l.take i) = out at ow ll step
    obtain ⟨xp0, cp0, rfl⟩ := rs.val
    obtain ⟨xp3, cp3, rfl⟩ := rr.val
    have d0 := l0 h' kk
    obtain ⟨u1, h1, e1, o1, k1⟩ := OwnB.append (k := EK1) ow (rs.keep kk (Nat.le_refl _)) rfl rfl kk.next (by rw [oe.i]; omega)
    have kk1 := kk.trans k1
    have d1 := l1 h1 kk1
    have ba := u64_bd e.a
    obtain ⟨y1, h2, e2, p2, k2⟩ := bytesN L d 8 (wrapF .u64 e.a) h1 ba.1 ba.2 (by omega) hL
    obtain ⟨xy1, cy1, rfl⟩ := p2.sl.val
    have e2' := e2
    simp only [Int.cast_ofNat_Int] at e2'
    have kk2 := kk1.trans (k2.less kk1.next)
    obtain ⟨u3, h3, e3, o3, k3⟩ := OwnB.append (k := EK1) (o1.keep k2 (Nat.le_refl _)) p2.sl rfl rfl kk2.next (by simp only [List.length_append, oe.i, byN_len]; omega)
    have kk3 := kk2.trans k3
    have d3 := l2 h3 kk3
    have bb := u64_bd e.b
    obtain ⟨y4, h4, e4, p4, k4⟩ := bytesN L d 8 (wrapF .u64 e.b) h3 bb.1 bb.2 (by omega) hL
    obtain ⟨xy4, cy4, rfl⟩ := p4.sl.val
    have e4' := e4
    simp only [Int.cast_ofNat_Int] at e4'
    have kk4 := kk3.trans (k4.less kk3.next)
    obtain ⟨u5, h5, e5, o5, k5⟩ := OwnB.append (k := EK1) (o3.keep k4 (Nat.le_refl _)) p4.sl rfl rfl kk4.next (by simp only [List.length_append, oe.i, byN_len]; omega)
    have kk5 := kk4.trans k5
    have d5 := l3 h5 kk5
    obtain ⟨u6, h6, e6, o6, k6⟩ := OwnB.append (k := EK1) o5 (rr.keep kk5 (Nat.le_refl _)) rfl rfl kk5.next (by simp only [List.length_append, oe.i, oe.r, byN_len]; omega)
    have kk6 := kk5.trans k6
    rw [em] at t0
    simp (disch := omega) [t0, t3, t4, hlt', aIndexSl_ok, d0, e1, d1, e2', e3, d3, e4', e5, d5, e6, wrapF_i64]
    exact step _ _ u6 (by simp [t0, em]) (by simp) (by simp) (by simpa [entB, List.append_assoc] using o6) kk6
  · have hie : i = l.length := by omega
    subst hie
    rw [List.take_length] at ow
    rw [ev] at t0
    simp (disch := omega) [t0, t3, t4]
    exact ⟨ow, kk⟩
/-- Noughts behind, up to whole sectors. -/
def padL (l : List Int) : List Int := if l.length % 512 = 0 then l else l ++ List.replicate (512 - l.length % 512) 0
theorem padL_len (l : List Int) : (padL l).length = (l.length + 511) / 512 * 512 := by
  unfold padL
  split
  · omega
  · simp; omega
theorem padL_byt {l : List Int} (h : Byt l) : Byt (padL l) := by
  unfold padL
  split
  · exact h
  · exact Byt.app h (Byt.zeros _)
theorem pad_spec (L d : Nat) (v : Value) (l : List Int) (h : AHeap) (hv : SlB h v l) (hl : l.length < 100000000) (hL : 1000000000 < L) :
    ∃ r h', (En L (d + 2)).go 56 [v, .int .i64 512] h = some (r, h') ∧ OwnB h.next h' r (padL l) ∧ Keep h.next h h' := by
  refine go_ex (R := fun r h' => OwnB h.next h' r (padL l) ∧ Keep h.next h h') (show tabF 56 = some (.code a56) by rfl) rfl ?_
  unfold a56
  obtain ⟨x, c, rfl⟩ := hv.val
  obtain ⟨u1, h1, e1, o1, k1⟩ := OwnB.append (k := EK1) (OwnB.nil h.next h) hv rfl rfl (Nat.le_refl _) (by simp; omega)
  rw [List.nil_append] at o1
  have t2 : (l.length : Int).tmod 512 = ((l.length % 512 : Nat) : Int) := by rw [Int.tmod_eq_emod_of_nonneg (by omega)]; omega
  by_cases c1 : l.length % 512 = 0
  · have e : padL l = l := by unfold padL; rw [if_pos c1]
    rw [c1] at t2
    have t2' : (l.length : Int).tmod 512 = 0 := t2
    simp (disch := omega) [e1, t2', undef]
    exact ⟨by rw [e]; exact o1, k1⟩
  · have e : padL l = l ++ List.replicate (512 - l.length % 512) 0 := by unfold padL; rw [if_neg c1]
    have t2' : ¬ (l.length : Int).tmod 512 = 0 := by omega
    obtain ⟨z, h2, e2, o2, k2⟩ := zeros_spec L d (512 - l.length % 512) h1 (by omega)
    have e2' : (En L (d + 1)).go 25 [.int .i64 (512 - (l.length : Int).tmod 512)] h1 = some (z, h2) := by
      rw [← e2]; congr 4; rw [t2]; omega
    obtain ⟨xz, cz, rfl⟩ := o2.sl.val
    obtain ⟨u3, h3, e3, o3, k3⟩ := OwnB.append (k := EK1) (o1.keep k2 (Nat.le_refl _)) o2.sl rfl rfl (k1.trans (k2.less k1.next)).next (by simp; omega)
    simp only [List.length_replicate] at e2' e3
    simp (disch := omega) [e1, t2', e2', e3, undef, wrapF_i64]
    exact ⟨by rw [e]; exact o3, (k1.trans (k2.less k1.next)).trans k3⟩
end
end Go.Proofs.Ytoehafeeoggpkaa.L24

set_option linter.unusedVariables false
set_option linter.unusedSimpArgs false
set_option linter.unnecessarySimpa false
/-! A header's sector, as the document lays it. -/
namespace Go.Proofs.Ytoehafeeoggpkaa.L24
open Go Go.Proofs Go.Shelf Go.RowKit Go.Lib Go.Sort Go.AM Go.Proofs.Ytoehafeeoggpkaa.AMC
set_option maxRecDepth 10000
noncomputable section
def magL : List Int := [69, 70, 73, 32, 80, 65, 82, 84]
theorem OwnB.weak {N M : Nat} {h : AHeap} {v : Value} {l : List Int} (a : OwnB N h v l) (hM : M ≤ N) : OwnB M h v l := by
  refine ⟨a.1, ?_⟩
  rcases a.2 with h1 | ⟨m, c, gr, h1, h2, h3⟩
  · exact .inl h1
  · exact .inr ⟨m, c, gr, h1, by omega, h3⟩
theorem str8 {N : Nat} {h : AHeap} (hN : N ≤ h.next) : ∃ v' h', aAppend EK1 (.slice none 0 0) (.string ⟨#[69, 70, 73, 32, 80, 65, 82, 84]⟩) h = some (v', h') ∧ OwnB N h' v' magL ∧ Keep N h h' := by
  refine ⟨_, _, rfl, ⟨rfl, .inr ⟨h.next, mkRow true (byV magL), 1, rfl, hN, ?_, ?_, .inl rfl, ?_⟩⟩, (Keep.refl N h).new hN _⟩
  · simp
  · rw [AHeap.get_new, if_pos rfl]; rfl
  · rw [toList_mkRow]
/-- A header's first 92 bytes, its own sum being nought; the sector. -/
def preL (own other a b : Int) (id : List Int) (at_ n s : Int) : List Int :=
  magL ++ byN 65536 4 ++ byN 92 4 ++ List.replicate 8 0 ++ byN own 8 ++ byN other 8 ++ byN a 8 ++ byN b 8 ++ id ++ byN at_ 8 ++ byN n 4 ++ byN 128 4 ++ byN s 4
def headL (own other a b : Int) (id : List Int) (at_ n s : Int) : List Int :=
  wth (preL own other a b id at_ n s) 16 (byN (sumV (preL own other a b id at_ n s)) 4) ++ List.replicate 420 0
theorem preL_len {own other a b at_ n s : Int} {id : List Int} (hi : id.length = 16) : (preL own other a b id at_ n s).length = 92 := by simp [preL, byN_len, hi, magL]
theorem magL_byt : Byt magL := by intro x hx; simp only [magL, List.mem_cons, List.not_mem_nil, or_false] at hx; omega
theorem preL_byt {own other a b at_ n s : Int} {id : List Int} (hb : Byt id) : Byt (preL own other a b id at_ n s) :=
  Byt.app (Byt.app (Byt.app (Byt.app (Byt.app (Byt.app (Byt.app (Byt.app (Byt.app (Byt.app (Byt.app (Byt.app magL_byt (byN_byt _ _)) (byN_byt _ _)) (Byt.zeros _)) (byN_byt _ _)) (byN_byt _ _)) (byN_byt _ _)) (byN_byt _ _)) hb) (byN_byt _ _)) (byN_byt _ _)) (byN_byt _ _)) (byN_byt _ _)
theorem headL_len {own other a b at_ n s : Int} {id : List Int} (hi : id.length = 16) : (headL own other a b id at_ n s).length = 512 := by
  have := preL_len (own := own) (other := other) (a := a) (b := b) (at_ := at_) (n := n) (s := s) hi
  unfold headL
  rw [List.length_append, wth_len (by rw [byN_len]; omega), this]; simp
theorem headL_byt {own other a b at_ n s : Int} {id : List Int} (hb : Byt id) : Byt (headL own other a b id at_ n s) := Byt.app (wth_byt (preL_byt hb) (byN_byt _ _)) (Byt.zeros _)
set_option maxHeartbeats 16000000 in
theorem head58 (L d : Nat) (s a b at_ be : Int) (vi w : Value) (id : List Int) (rl : List REnt) (l : List Ent) (en : Bool) (ok : ∀ e ∈ l, e.Ok) (h : AHeap) (hi : SlB h vi id) (hil : id.length = 16) (hib : Byt id) (hs : SlC rEnc 4 h w rl) (hr : RL h rl l) (hn : l.length < 1000)
    (hS : 1 ≤ s ∧ s ≤ 100000) (ha : 0 ≤ a ∧ a ≤ 100000) (hb : 0 ≤ b ∧ b ≤ 100000) (hat : 0 ≤ at_ ∧ at_ ≤ 100000) (hbe : 0 ≤ be ∧ be ≤ 100000) (hL : 1000000000 < L) :
    ∃ r h', (En L (d + 4)).go 58 [.agg (r7 s a b vi w at_ be).toArray, .bool en] h = some (r, h') ∧ OwnB h.next h' r (headL (if en then s - 1 else 1) (if en then 1 else s - 1) a b id (if en then be else at_) l.length (sumV (entsB l))) ∧ Keep h.next h h' := by
  refine go_ex (R := fun r h' => OwnB h.next h' r (headL (if en then s - 1 else 1) (if en then 1 else s - 1) a b id (if en then be else at_) l.length (sumV (entsB l))) ∧ Keep h.next h h') (show tabF 58 = some (.code a58) by rfl) rfl ?_
  unfold a58
  obtain ⟨g0, e0, b0, K0, n0⟩ := r7_box (s := s) (a := a) (b := b) (vi := vi) (vl := w) (at_ := at_) (be := be) (slB_one hi) (slC_one hs) h
  obtain ⟨xi, ci, evi⟩ := hi.val
  obtain ⟨xw, cw, evw⟩ := hs.val
  rw [hr.1] at evw
  have L0 : aLoad none (.pointer (some ⟨h.next, 0, none⟩)) g0 = some (.int .i64 s) := ld_cell b0 rfl
  have L5 : aLoad none (.pointer (some ⟨h.next, 5, none⟩)) g0 = some (.int .i64 at_) := ld_cell b0 rfl
  have L6 : aLoad none (.pointer (some ⟨h.next, 6, none⟩)) g0 = some (.int .i64 be) := ld_cell b0 rfl
  have hi0 := hi.keep K0 (Nat.le_refl _)
  have hs0 := hs.keep K0 (Nat.le_refl _)
  have hr0 := hr.keep K0 (Nat.le_refl _)
  obtain ⟨own, eown, hown⟩ : ∃ own, (if en then s - 1 else 1) = own ∧ 0 ≤ own ∧ own ≤ 100000 := ⟨_, rfl, by split <;> omega, by split <;> omega⟩
  obtain ⟨oth, eoth, hoth⟩ : ∃ oth, (if en then 1 else s - 1) = oth ∧ 0 ≤ oth ∧ oth ≤ 100000 := ⟨_, rfl, by split <;> omega, by split <;> omega⟩
  obtain ⟨wat, ewat, hwat⟩ : ∃ wat, (if en then be else at_) = wat ∧ 0 ≤ wat ∧ wat ≤ 100000 := ⟨_, rfl, by split <;> omega, by split <;> omega⟩
  rw [eown, eoth, ewat]
  have bx : ∀ H : AHeap, Keep g0.next g0 H → H.get h.next = .row false 0 (.vals (r7 s a b vi w at_ be)) := fun H k => (k.get h.next (by omega)).trans b0
  obtain ⟨u1, g1, a1, o1, k1⟩ := str8 (N := g0.next) (h := g0) (Nat.le_refl _)
  have K1 := k1
  obtain ⟨y2, f2, c2, p2, q2⟩ := bytesN L (d + 2) 4 (65536) g1 (by omega) (by omega) (by omega) hL
  simp only [Int.cast_ofNat_Int] at c2
  obtain ⟨xy2, cy2, ey2⟩ := p2.sl.val
  obtain ⟨u2, g2, a2, o2, k2⟩ := OwnB.append (k := EK1) (o1.keep q2 (Nat.le_refl _)) p2.sl rfl rfl (K1.trans (q2.less K1.next)).next (by simp only [List.length_append, byN_len, hil, List.length_replicate, magL, List.length_cons, List.length_nil]; omega)
  have K2 := (K1.trans (q2.less K1.next)).trans k2
  rw [ey2] at a2 c2
  obtain ⟨y3, f3, c3, p3, q3⟩ := bytesN L (d + 2) 4 (92) g2 (by omega) (by omega) (by omega) hL
  simp only [Int.cast_ofNat_Int] at c3
  obtain ⟨xy3, cy3, ey3⟩ := p3.sl.val
  obtain ⟨u3, g3, a3, o3, k3⟩ := OwnB.append (k := EK1) (o2.keep q3 (Nat.le_refl _)) p3.sl rfl rfl (K2.trans (q3.less K2.next)).next (by simp only [List.length_append, byN_len, hil, List.length_replicate, magL, List.length_cons, List.length_nil]; omega)
  have K3 := (K2.trans (q3.less K2.next)).trans k3
  rw [ey3] at a3 c3
  obtain ⟨y4, f4, c4, p4, q4⟩ := zeros_spec L (d + 2) 8 g3 (by omega)
  simp only [Int.cast_ofNat_Int] at c4
  obtain ⟨xy4, cy4, ey4⟩ := p4.sl.val
  obtain ⟨u4, g4, a4, o4, k4⟩ := OwnB.append (k := EK1) (o3.keep q4 (Nat.le_refl _)) p4.sl rfl rfl (K3.trans (q4.less K3.next)).next (by simp only [List.length_append, byN_len, List.length_replicate, magL, List.length_cons, List.length_nil]; omega)
  have K4 := (K3.trans (q4.less K3.next)).trans k4
  rw [ey4] at a4 c4
  simp only [List.length_replicate] at a4 c4
  obtain ⟨y5, f5, c5, p5, q5⟩ := bytesN L (d + 2) 8 (own) g4 (by omega) (by omega) (by omega) hL
  simp only [Int.cast_ofNat_Int] at c5
  obtain ⟨xy5, cy5, ey5⟩ := p5.sl.val
  obtain ⟨u5, g5, a5, o5, k5⟩ := OwnB.append (k := EK1) (o4.keep q5 (Nat.le_refl _)) p5.sl rfl rfl (K4.trans (q5.less K4.next)).next (by simp only [List.length_append, byN_len, hil, List.length_replicate, magL, List.length_cons, List.length_nil]; omega)
  have K5 := (K4.trans (q5.less K4.next)).trans k5
  rw [ey5] at a5 c5
  obtain ⟨y6, f6, c6, p6, q6⟩ := bytesN L (d + 2) 8 (oth) g5 (by omega) (by omega) (by omega) hL
  simp only [Int.cast_ofNat_Int] at c6
  obtain ⟨xy6, cy6, ey6⟩ := p6.sl.val
  obtain ⟨u6, g6, a6, o6, k6⟩ := OwnB.append (k := EK1) (o5.keep q6 (Nat.le_refl _)) p6.sl rfl rfl (K5.trans (q6.less K5.next)).next (by simp only [List.length_append, byN_len, hil, List.length_replicate, magL, List.length_cons, List.length_nil]; omega)
  have K6 := (K5.trans (q6.less K5.next)).trans k6
  rw [ey6] at a6 c6
  have La : aLoad none (.pointer (some ⟨h.next, 1, none⟩)) g6 = some (.int .i64 a) := ld_cell (bx g6 K6) rfl
  obtain ⟨y7, f7, c7, p7, q7⟩ := bytesN L (d + 2) 8 (a) g6 (by omega) (by omega) (by omega) hL
  simp only [Int.cast_ofNat_Int] at c7
  obtain ⟨xy7, cy7, ey7⟩ := p7.sl.val
  obtain ⟨u7, g7, a7, o7, k7⟩ := OwnB.append (k := EK1) (o6.keep q7 (Nat.le_refl _)) p7.sl rfl rfl (K6.trans (q7.less K6.next)).next (by simp only [List.length_append, byN_len, hil, List.length_replicate, magL, List.length_cons, List.length_nil]; omega)
  have K7 := (K6.trans (q7.less K6.next)).trans k7
  rw [ey7] at a7 c7
  have Lb : aLoad none (.pointer (some ⟨h.next, 2, none⟩)) g7 = some (.int .i64 b) := ld_cell (bx g7 K7) rfl
  obtain ⟨y8, f8, c8, p8, q8⟩ := bytesN L (d + 2) 8 (b) g7 (by omega) (by omega) (by omega) hL
  simp only [Int.cast_ofNat_Int] at c8
  obtain ⟨xy8, cy8, ey8⟩ := p8.sl.val
  obtain ⟨u8, g8, a8, o8, k8⟩ := OwnB.append (k := EK1) (o7.keep q8 (Nat.le_refl _)) p8.sl rfl rfl (K7.trans (q8.less K7.next)).next (by simp only [List.length_append, byN_len, hil, List.length_replicate, magL, List.length_cons, List.length_nil]; omega)
  have K8 := (K7.trans (q8.less K7.next)).trans k8
  rw [ey8] at a8 c8
  have Lid : aLoad none (.pointer (some ⟨h.next, 3, none⟩)) g8 = some vi := ld_cell (bx g8 K8) rfl
  obtain ⟨u9, g9, a9, o9, k9⟩ := OwnB.append (k := EK1) o8 (hi0.keep K8 (Nat.le_refl _)) rfl rfl K8.next (by simp only [List.length_append, byN_len, hil, List.length_replicate, magL, List.length_cons, List.length_nil]; omega)
  have K9 := K8.trans k9
  rw [evi] at a9 Lid
  obtain ⟨y10, f10, c10, p10, q10⟩ := bytesN L (d + 2) 8 (wat) g9 (by omega) (by omega) (by omega) hL
  simp only [Int.cast_ofNat_Int] at c10
  obtain ⟨xy10, cy10, ey10⟩ := p10.sl.val
  obtain ⟨u10, g10, a10, o10, k10⟩ := OwnB.append (k := EK1) (o9.keep q10 (Nat.le_refl _)) p10.sl rfl rfl (K9.trans (q10.less K9.next)).next (by simp only [List.length_append, byN_len, hil, List.length_replicate, magL, List.length_cons, List.length_nil]; omega)
  have K10 := (K9.trans (q10.less K9.next)).trans k10
  rw [ey10] at a10 c10
  have Lw1 : aLoad none (.pointer (some ⟨h.next, 4, none⟩)) g10 = some w := ld_cell (bx g10 K10) rfl
  rw [evw] at Lw1
  obtain ⟨y11, f11, c11, p11, q11⟩ := bytesN L (d + 2) 4 ((l.length : Int)) g10 (by omega) (by omega) (by omega) hL
  simp only [Int.cast_ofNat_Int] at c11
  obtain ⟨xy11, cy11, ey11⟩ := p11.sl.val
  obtain ⟨u11, g11, a11, o11, k11⟩ := OwnB.append (k := EK1) (o10.keep q11 (Nat.le_refl _)) p11.sl rfl rfl (K10.trans (q11.less K10.next)).next (by simp only [List.length_append, byN_len, hil, List.length_replicate, magL, List.length_cons, List.length_nil]; omega)
  have K11 := (K10.trans (q11.less K10.next)).trans k11
  rw [ey11] at a11 c11
  obtain ⟨y12, f12, c12, p12, q12⟩ := bytesN L (d + 2) 4 (128) g11 (by omega) (by omega) (by omega) hL
  simp only [Int.cast_ofNat_Int] at c12
  obtain ⟨xy12, cy12, ey12⟩ := p12.sl.val
  obtain ⟨u12, g12, a12, o12, k12⟩ := OwnB.append (k := EK1) (o11.keep q12 (Nat.le_refl _)) p12.sl rfl rfl (K11.trans (q12.less K11.next)).next (by simp only [List.length_append, byN_len, hil, List.length_replicate, magL, List.length_cons, List.length_nil]; omega)
  have K12 := (K11.trans (q12.less K11.next)).trans k12
  rw [ey12] at a12 c12
  have Lw2 : aLoad none (.pointer (some ⟨h.next, 4, none⟩)) g12 = some w := ld_cell (bx g12 K12) rfl
  obtain ⟨z, gz, cz, oz, kz⟩ := bytes57 L (d + 1) w rl l ok g12 (hs0.keep K12 (Nat.le_refl _)) (hr0.keep K12 (Nat.le_refl _)) (by omega) hL
  have Kz := K12.trans (kz.less K12.next)
  have fz := fast_s L (d + 2) z _ gz oz.sl (entsB_byt ok) (by rw [entsB_len ok]; omega) hL
  have oz12 := o12.keep kz (Nat.le_refl _)
  have bS := sumV_bd (entsB_byt ok)
  generalize sumV (entsB l) = S0 at fz bS ⊢
  obtain ⟨y13, f13, c13, p13, q13⟩ := bytesN L (d + 2) 4 S0 gz (by omega) (by omega) (by omega) hL
  simp only [Int.cast_ofNat_Int] at c13
  obtain ⟨xy13, cy13, ey13⟩ := p13.sl.val
  obtain ⟨u13, g13, a13, o13, k13⟩ := OwnB.append (k := EK1) (oz12.keep q13 (Nat.le_refl _)) p13.sl rfl rfl (Kz.trans (q13.less Kz.next)).next (by simp only [List.length_append, byN_len, hil, List.length_replicate, magL, List.length_cons, List.length_nil]; omega)
  have K13 := (Kz.trans (q13.less Kz.next)).trans k13
  rw [ey13] at a13 c13
  have op : OwnB g0.next g13 u13 (preL own oth a b id wat l.length S0) := o13
  have lp := preL_len (own := own) (other := oth) (a := a) (b := b) (at_ := wat) (n := l.length) (s := S0) hil
  have bp := preL_byt (own := own) (other := oth) (a := a) (b := b) (at_ := wat) (n := l.length) (s := S0) hib
  have eh : headL own oth a b id wat l.length S0 = wth (preL own oth a b id wat l.length S0) 16 (byN (sumV (preL own oth a b id wat l.length S0)) 4) ++ List.replicate 420 0 := rfl
  rw [eh]
  generalize preL own oth a b id wat l.length S0 = P at op lp bp ⊢
  have fp := fast_s L (d + 2) u13 P g13 op.sl bp (by omega) hL
  have bP := sumV_bd bp
  generalize sumV P = S1 at fp bP ⊢
  obtain ⟨y14, f14, c14, p14, q14⟩ := bytesN L (d + 2) 4 S1 g13 (by omega) (by omega) (by omega) hL
  simp only [Int.cast_ofNat_Int] at c14
  have Kq := K13.trans (q14.less K13.next)
  obtain ⟨u14, g14, a14, o14, k14⟩ := with_spec L (d + 2) u13 y14 P (byN S1 4) 16 f14 (op.sl.keep q14 (Nat.le_refl _)) p14.sl (by omega) (by rw [byN_len]; omega)
  simp only [Int.cast_ofNat_Int] at a14
  have K14 := Kq.trans (k14.less Kq.next)
  have lw : (wth P 16 (byN S1 4)).length = 92 := by rw [wth_len (by rw [byN_len]; omega), lp]
  have o14' : OwnB g0.next g14 u14 (wth P 16 (byN S1 4)) := OwnB.weak o14 Kq.next
  obtain ⟨y15, f15, c15, p15, q15⟩ := zeros_spec L (d + 2) 420 g14 (by omega)
  simp only [Int.cast_ofNat_Int] at c15
  obtain ⟨xy15, cy15, ey15⟩ := p15.sl.val
  obtain ⟨u15, g15, a15, o15, k15⟩ := OwnB.append (k := EK1) (o14'.keep q15 (Nat.le_refl _)) p15.sl rfl rfl (K14.trans (q15.less K14.next)).next (by rw [lw, List.length_replicate]; omega)
  have K15 := (K14.trans (q15.less K14.next)).trans k15
  rw [ey15] at a15 c15
  simp only [List.length_replicate] at a15 c15
  cases en with
  | true =>
    simp only [if_true, if_false, Bool.false_eq_true, reduceIte] at eown eoth ewat
    subst eown eoth ewat
    simp (disch := omega) [e0, L0, L5, L6, a1, c2, a2, c3, a3, c4, a4, c5, a5, c6, a6, La, c7, a7, Lb, c8, a8, Lid, a9, c10, a10, Lw1, c11, a11, c12, a12, Lw2, cz, fz, c13, a13, fp, c14, a14, c15, a15, wrapF_i64, wrapF_u64, undef]
    exact ⟨OwnB.weak o15 (by omega), K0.trans (K15.less K0.next)⟩
  | false =>
    simp only [if_true, if_false, Bool.false_eq_true, reduceIte] at eown eoth ewat
    subst eown eoth ewat
    simp (disch := omega) [e0, L0, L5, L6, a1, c2, a2, c3, a3, c4, a4, c5, a5, c6, a6, La, c7, a7, Lb, c8, a8, Lid, a9, c10, a10, Lw1, c11, a11, c12, a12, Lw2, cz, fz, c13, a13, fp, c14, a14, c15, a15, wrapF_i64, wrapF_u64, undef]
    exact ⟨OwnB.weak o15 (by omega), K0.trans (K15.less K0.next)⟩
end
end Go.Proofs.Ytoehafeeoggpkaa.L24

set_option linter.unusedVariables false
set_option linter.unusedSimpArgs false
set_option linter.unnecessarySimpa false
/-! A table laid on a disk, as the document does it. -/
namespace Go.Proofs.Ytoehafeeoggpkaa.L24
open Go Go.Proofs Go.Shelf Go.RowKit Go.Lib Go.Sort Go.AM Go.Proofs.Ytoehafeeoggpkaa.AMC
set_option maxRecDepth 10000
noncomputable section
theorem with_i (L d : Nat) (v w : Value) (l p : List Int) (at_ : Nat) (ai : Int) (ha : ai = at_) (h : AHeap) (hv : SlB h v l) (hw : SlB h w p) (hl : l.length < 1099511627776) (hn : at_ + p.length ≤ l.length) :
    ∃ r h', (En L (d + 1)).go 27 [v, .int .i64 ai, w] h = some (r, h') ∧ OwnB h.next h' r (wth l at_ p) ∧ Keep h.next h h' := by
  subst ha
  exact with_spec L d v w l p at_ h hv hw hl hn
def h1L (s a b at_ : Int) (id : List Int) (es : List Ent) : List Int := headL 1 (s - 1) a b id at_ es.length (sumV (entsB es))
def h2L (s a b be : Int) (id : List Int) (es : List Ent) : List Int := headL (s - 1) 1 a b id be es.length (sumV (entsB es))
def laidL (D : List Int) (s a b : Int) (id : List Int) (es : List Ent) (aN bN sN : Nat) : List Int :=
  wth (wth (wth (wth D (aN * 512) (padL (entsB es))) 512 (h1L s a b aN id es)) (bN * 512) (padL (entsB es))) (sN * 512 - 512) (h2L s a b bN id es)
set_option maxHeartbeats 8000000 in
theorem laid26 (L d : Nat) (v : Value) (D : List Int) (sN aN bN : Nat) (a b : Int) (vi w : Value) (id : List Int) (rl : List REnt) (l : List Ent) (ok : ∀ e ∈ l, e.Ok) (h : AHeap) (hv : SlB h v D) (hDb : Byt D) (hi : SlB h vi id) (hil : id.length = 16) (hib : Byt id) (hs : SlC rEnc 4 h w rl) (hr : RL h rl l) (hn : l.length < 1000)
    (hS : 6 ≤ sN ∧ sN ≤ 100000) (hD : D.length = sN * 512) (ha : 0 ≤ a ∧ a ≤ 100000) (hb : 0 ≤ b ∧ b ≤ 100000) (hat : aN * 512 + (padL (entsB l)).length ≤ sN * 512) (hbe : bN * 512 + (padL (entsB l)).length ≤ sN * 512) (hL : 1000000000 < L) :
    ∃ r h', (En L (d + 5)).go 26 [v, .agg (r7 sN a b vi w aN bN).toArray] h = some (r, h') ∧ OwnB h.next h' r (laidL D sN a b id l aN bN sN) ∧ Keep h.next h h' := by
  refine go_ex (R := fun r h' => OwnB h.next h' r (laidL D sN a b id l aN bN sN) ∧ Keep h.next h h') (show tabF 26 = some (.code a26) by rfl) rfl ?_
  unfold a26
  obtain ⟨g0, e0, b0, K0, n0⟩ := r7_box (s := sN) (a := a) (b := b) (vi := vi) (vl := w) (at_ := aN) (be := bN) (slB_one hi) (slC_one hs) h
  have bx : ∀ H : AHeap, Keep g0.next g0 H → H.get h.next = .row false 0 (.vals (r7 sN a b vi w aN bN)) := fun H k => (k.get h.next (by omega)).trans b0
  have lb := entsB_len ok
  obtain ⟨xw, cw, evw⟩ := hs.val
  obtain ⟨xi, ci, evi⟩ := hi.val
  have L4 : aLoad none (.pointer (some ⟨h.next, 4, none⟩)) g0 = some w := ld_cell b0 rfl
  obtain ⟨z1, g1, e1, o1, k1⟩ := bytes57 L (d + 2) w rl l ok g0 (hs.keep K0 (Nat.le_refl _)) (hr.keep K0 (Nat.le_refl _)) (by omega) hL
  obtain ⟨z2, g2, e2, o2, k2⟩ := pad_spec L (d + 2) z1 (entsB l) g1 o1.sl (by omega) hL
  have pb := padL_byt (entsB_byt ok)
  have K2 := k1.trans (k2.less k1.next)
  have L5 : aLoad none (.pointer (some ⟨h.next, 5, none⟩)) g2 = some (.int .i64 aN) := ld_cell (bx g2 K2) rfl
  have KK2 := K0.trans (K2.less K0.next)
  obtain ⟨z3, g3, e3, o3, k3⟩ := with_i L (d + 3) v z2 D (padL (entsB l)) (aN * 512) ((aN : Int) * 512) (by omega) g2 (hv.keep KK2 (Nat.le_refl _)) o2.sl (by omega) (by omega)
  have K3 := K2.trans (k3.less K2.next)
  have KK3 := K0.trans (K3.less K0.next)
  have l3 : (wth D (aN * 512) (padL (entsB l))).length = sN * 512 := by rw [wth_len (by omega), hD]
  have A3 : aLoad (some 7) (.pointer (some ⟨h.next, 0, none⟩)) g3 = some (.agg (r7 sN a b vi w aN bN).toArray) := ld_agg (bx g3 K3) rfl
  obtain ⟨z4, g4, e4, o4, k4⟩ := head58 L d sN a b aN bN vi w id rl l false ok g3 (hi.keep KK3 (Nat.le_refl _)) hil hib (hs.keep KK3 (Nat.le_refl _)) (hr.keep KK3 (Nat.le_refl _)) hn (by omega) ha hb (by omega) (by omega) hL
  have e4' : (En L (d + 4)).go 58 [.agg (r7 sN a b vi w aN bN).toArray, .bool false] g3 = some (z4, g4) := e4
  have o4' : SlB g4 z4 (h1L sN a b aN id l) := o4.sl
  have hh1 : (h1L sN a b aN id l).length = 512 := headL_len hil
  have K4 := K3.trans (k4.less K3.next)
  have KK4 := K0.trans (K4.less K0.next)
  obtain ⟨z5, g5, e5, o5, k5⟩ := with_i L (d + 3) z3 z4 _ _ 512 512 rfl g4 (o3.sl.keep k4 (Nat.le_refl _)) o4' (by omega) (by omega)
  have K5 := K4.trans (k5.less K4.next)
  have l5 : (wth (wth D (aN * 512) (padL (entsB l))) 512 (h1L sN a b aN id l)).length = sN * 512 := by rw [wth_len (by omega), l3]
  have L6 : aLoad none (.pointer (some ⟨h.next, 6, none⟩)) g5 = some (.int .i64 bN) := ld_cell (bx g5 K5) rfl
  have z2g5 := ((o2.sl.keep k3 (Nat.le_refl _)).keep k4 (Nat.le_refl _)).keep k5 (Nat.le_refl _)
  obtain ⟨z6, g6, e6, o6, k6⟩ := with_i L (d + 3) z5 z2 _ _ (bN * 512) ((bN : Int) * 512) (by omega) g5 o5.sl z2g5 (by omega) (by omega)
  have K6 := K5.trans (k6.less K5.next)
  have KK6 := K0.trans (K6.less K0.next)
  have l6 : (wth (wth (wth D (aN * 512) (padL (entsB l))) 512 (h1L sN a b aN id l)) (bN * 512) (padL (entsB l))).length = sN * 512 := by rw [wth_len (by omega), l5]
  have L0 : aLoad none (.pointer (some ⟨h.next, 0, none⟩)) g6 = some (.int .i64 sN) := ld_cell (bx g6 K6) rfl
  have A6 : aLoad (some 7) (.pointer (some ⟨h.next, 0, none⟩)) g6 = some (.agg (r7 sN a b vi w aN bN).toArray) := ld_agg (bx g6 K6) rfl
  obtain ⟨z7, g7, e7, o7, k7⟩ := head58 L d sN a b aN bN vi w id rl l true ok g6 (hi.keep KK6 (Nat.le_refl _)) hil hib (hs.keep KK6 (Nat.le_refl _)) (hr.keep KK6 (Nat.le_refl _)) hn (by omega) ha hb (by omega) (by omega) hL
  have e7' : (En L (d + 4)).go 58 [.agg (r7 sN a b vi w aN bN).toArray, .bool true] g6 = some (z7, g7) := e7
  have o7' : SlB g7 z7 (h2L sN a b bN id l) := o7.sl
  have hh2 : (h2L sN a b bN id l).length = 512 := headL_len hil
  have K7 := K6.trans (k7.less K6.next)
  have L07 : aLoad none (.pointer (some ⟨h.next, 0, none⟩)) g7 = some (.int .i64 sN) := ld_cell (bx g7 K7) rfl
  obtain ⟨z8, g8, e8, o8, k8⟩ := with_i L (d + 3) z6 z7 _ _ (sN * 512 - 512) ((sN : Int) * 512 - 512) (by omega) g7 (o6.sl.keep k7 (Nat.le_refl _)) o7' (by omega) (by omega)
  have K8 := K7.trans (k8.less K7.next)
  have KK8 := K0.trans (K8.less K0.next)
  simp (disch := omega) [e0, L4, e1, e2, L5, e3, A3, e4', e5, L6, e6, L0, A6, e7', L07, e8, skip0', wrapF_i64, undef]
  exact ⟨OwnB.weak o8 (K0.trans (K7.less K0.next)).next, KK8⟩
end
end Go.Proofs.Ytoehafeeoggpkaa.L24

set_option linter.unusedVariables false
set_option linter.unusedSimpArgs false
set_option linter.unnecessarySimpa false
/-! A header's own sum is put right. -/
namespace Go.Proofs.Ytoehafeeoggpkaa.L24
open Go Go.Proofs Go.Shelf Go.RowKit Go.Lib Go.Sort Go.AM Go.Proofs.Ytoehafeeoggpkaa.AMC
set_option maxRecDepth 10000
noncomputable section
def summedL (l : List Int) (at_ : Nat) : List Int := wth l (at_ + 16) (byN (sumV (wth (sec l at_ 92) 16 (List.replicate 4 0))) 4)
theorem summedL_len {l : List Int} {at_ : Nat} (h : at_ + 92 ≤ l.length) : (summedL l at_).length = l.length := wth_len (by rw [byN_len]; omega)
theorem summedL_byt {l : List Int} {at_ : Nat} (h : Byt l) : Byt (summedL l at_) := wth_byt h (byN_byt _ _)
set_option maxHeartbeats 4000000 in
theorem summed48 (L d : Nat) (v : Value) (l : List Int) (at_ : Nat) (ai : Int) (hai : ai = at_) (h : AHeap) (hv : SlB h v l) (hb : Byt l) (hl : l.length < 1000000) (ha : at_ + 92 ≤ l.length) (hL : 1000000000 < L) :
    ∃ r h', (En L (d + 3)).go 48 [v, .int .i64 ai] h = some (r, h') ∧ OwnB h.next h' r (summedL l at_) ∧ Keep h.next h h' := by
  subst hai
  refine go_ex (R := fun r h' => OwnB h.next h' r (summedL l at_) ∧ Keep h.next h h') (show tabF 48 = some (.code a48) by rfl) rfl ?_
  unfold a48
  obtain ⟨v1, q1, s1⟩ := cutB hv (lo := some (.int .i64 ((at_ : Nat) : Int))) (hi := some (.int .i64 ((at_ + 92 : Nat) : Int))) at_ (at_ + 92) (.inr ⟨_, rfl⟩) (.inr ⟨_, rfl⟩) (by omega) (by omega)
  rw [Nat.add_sub_cancel_left] at s1
  have s1' : SlB h v1 (sec l at_ 92) := s1
  have q1' : aCut (.sl 1) v (some (.int .i64 (at_ : Int))) (some (.int .i64 ((at_ : Int) + 92))) none h = some v1 := by rw [← q1]; congr 3
  obtain ⟨z, h2, e2, o2, k2⟩ := zeros_spec L (d + 1) 4 h (by omega)
  have e2' : (En L (d + 2)).go 25 [.int .i64 4] h = some (z, h2) := e2
  have q1s : aCut (.sl 1) v (some (.int .i64 (at_ : Int))) (some (.int .i64 ((at_ : Int) + 92))) none h2 = some v1 := by
    obtain ⟨mv, ov, cv, em, hmv, _⟩ := hv.row (by omega)
    rw [em] at q1' ⊢
    rw [cut_eq (k2.get mv hmv)]
    exact q1'
  obtain ⟨x1, c1, ev1⟩ := s1'.val
  have bq : beqV 10000 v1 v1 = true := by rw [ev1]; exact beqV_slice
  have ls : (sec l at_ 92).length = 92 := sec_len ha
  obtain ⟨v3, h3, e3, o3, k3⟩ := with_spec L (d + 1) v1 z (sec l at_ 92) (List.replicate 4 0) 16 h2 (s1'.keep k2 (Nat.le_refl _)) o2.sl (by omega) (by simp; omega)
  have e3' : (En L (d + 2)).go 27 [v1, .int .i64 16, z] h2 = some (v3, h3) := e3
  have K3 := k2.trans (k3.less k2.next)
  have bw : Byt (wth (sec l at_ 92) 16 (List.replicate 4 0)) := wth_byt (sec_byt hb) (Byt.zeros _)
  have lw : (wth (sec l at_ 92) 16 (List.replicate 4 0)).length = 92 := by rw [wth_len (by simp; omega), ls]
  have e67 : (En L (d + 2)).go 67 [v3] h3 = some (.int .u32 (sumV (wth (sec l at_ 92) 16 (List.replicate 4 0))), h3) := by
    have fs := fast_s L d v3 _ h3 o3.sl bw (by omega) hL
    refine go_of (show tabF 67 = some (.code a67) by rfl) rfl ?_
    unfold a67
    simp [fs]
  have sb := sumV_bd bw
  have es : summedL l at_ = wth l (at_ + 16) (byN (sumV (wth (sec l at_ 92) 16 (List.replicate 4 0))) 4) := rfl
  rw [es]
  generalize sumV (wth (sec l at_ 92) 16 (List.replicate 4 0)) = S at e67 sb ⊢
  obtain ⟨y, h4, e4, o4, k4⟩ := bytesN L (d + 1) 4 S h3 (by omega) (by omega) (by omega) hL
  have e4' : (En L (d + 2)).go 32 [.int .u64 S, .int .i64 4] h3 = some (y, h4) := e4
  have K4 := K3.trans (k4.less K3.next)
  obtain ⟨r, h5, e5, o5, k5⟩ := with_i L (d + 1) v y l (byN S 4) (at_ + 16) ((at_ : Int) + 16) (by omega) h4 (hv.keep K4 (Nat.le_refl _)) o4.sl (by omega) (by rw [byN_len]; omega)
  have e5' : (En L (d + 2)).go 27 [v, .int .i64 ((at_ : Int) + 16), y] h4 = some (r, h5) := e5
  simp (disch := omega) [q1', q1s, bq, e2', e3', e67, e4', e5', skip0', wrapF_i64, wrapF_u64, undef]
  exact ⟨OwnB.weak o5 K4.next, K4.trans (k5.less K4.next)⟩
end
end Go.Proofs.Ytoehafeeoggpkaa.L24

set_option linter.unusedVariables false
set_option linter.unusedSimpArgs false
set_option linter.unnecessarySimpa false
/-! Bytes that may be none at all, wherever they lie. -/
namespace Go.Proofs.Ytoehafeeoggpkaa.L24
open Go Go.Proofs Go.Shelf Go.RowKit Go.Lib Go.Sort Go.AM Go.Proofs.Ytoehafeeoggpkaa.AMC
set_option maxRecDepth 10000
noncomputable section
def BOk (h : AHeap) (v : Value) (B : List Int) : Prop := SlB h v B ∨ (B = [] ∧ ∃ m, v = .slice (some ⟨m, 0, none⟩) 0 0 ∧ m < h.next ∧ h.get m = .dead)
theorem BOk.keep {N : Nat} {h h' : AHeap} {v : Value} {B : List Int} (a : BOk h v B) (k : Keep N h h') (hN : h.next ≤ N) : BOk h' v B := by
  rcases a with a | ⟨rfl, m, rfl, h1, h2⟩
  · exact .inl (a.keep k hN)
  · exact .inr ⟨rfl, m, rfl, Nat.lt_of_lt_of_le h1 (by have := k.next; omega), (k.get m (by omega)).trans h2⟩
theorem BOk.val {h : AHeap} {v : Value} {B : List Int} (a : BOk h v B) : ∃ x c, v = .slice x B.length c := by
  rcases a with a | ⟨rfl, m, rfl, _⟩
  · exact a.val
  · exact ⟨_, _, rfl⟩
theorem append0 {N : Nat} {h : AHeap} {v : Value} {l : List Int} (a : OwnB N h v l) (hl : l.length ≤ 1000000000) {m : Nat} (hd : h.get m = .dead) : aAppend EK1 v (.slice (some ⟨m, 0, none⟩) 0 0) h = some (v, h) := by
  have hs : aSrc EK1.es (.slice (some ⟨m, 0, none⟩) 0 0) h = some (.vals [], 0) := by simp only [aSrc, hd, if_true]
  rcases a.2 with ⟨h0, rfl⟩ | ⟨m2, c, gr, rfl, h1, h2, h3, h4, h5⟩
  · have : l.length = 0 := h0
    simp only [aAppend, hs, if_true]
  · have hsz : c.size = l.length := by rw [← Cells.length_toList, h5]; simp
    simp only [aAppend, hs, h3]
    rw [if_pos ⟨Nat.le_refl _, by omega, by omega, by omega, by decide⟩]
    simp
theorem with_b (L d : Nat) (v w : Value) (l p : List Int) (at_ : Nat) (ai : Int) (ha : ai = at_) (h : AHeap) (hv : SlB h v l) (hw : BOk h w p) (hl : l.length < 1000000000) (hn : at_ + p.length ≤ l.length) :
    ∃ r h', (En L (d + 1)).go 27 [v, .int .i64 ai, w] h = some (r, h') ∧ OwnB h.next h' r (wth l at_ p) ∧ Keep h.next h h' := by
  rcases hw with hw | ⟨rfl, m, rfl, hm, hd⟩
  · exact with_i L d v w l p at_ ai ha h hv hw (by omega) hn
  subst ha
  simp only [List.length_nil, Nat.add_zero] at hn
  refine go_ex (R := fun r h' => OwnB h.next h' r (wth l at_ []) ∧ Keep h.next h h') (show tabF 27 = some (.code a27) by rfl) rfl ?_
  unfold a27
  obtain ⟨v1, c1, s1⟩ := cutB hv (lo := none) (hi := some (.int .i64 at_)) 0 at_ (.inl ⟨rfl, rfl⟩) (.inr ⟨_, rfl⟩) (by omega) (by omega)
  obtain ⟨x1, q1, rfl⟩ := s1.val
  have e1 : ((l.drop 0).take (at_ - 0)).length = at_ := by rw [List.length_take, List.length_drop]; omega
  have f1 : (l.drop 0).take (at_ - 0) = l.take at_ := by simp
  rw [e1] at c1 s1
  rw [f1] at s1 e1
  obtain ⟨v2, h2, c2, o2, k2⟩ := OwnB.append (k := EK1) (OwnB.nil h.next h) s1 rfl rfl (Nat.le_refl _) (by simp; omega)
  have a0 := append0 o2 (by simp at e1 ⊢; omega) ((k2.get m hm).trans hd)
  obtain ⟨v5, c5, s5⟩ := cutB (hv.keep k2 (Nat.le_refl _)) (lo := some (.int .i64 ((at_ : Nat) : Int))) (hi := none) at_ l.length (.inr ⟨_, rfl⟩) (.inl ⟨rfl, rfl⟩) (by omega) (by omega)
  have e5 : ((l.drop at_).take (l.length - at_)) = l.drop at_ := List.take_of_length_le (by simp)
  rw [e5] at s5
  obtain ⟨x5, q5, rfl⟩ := s5.val
  obtain ⟨v6, h6, c6, o6, k6⟩ := OwnB.append (k := EK1) o2 s5 rfl rfl k2.next (by simp at e1 ⊢; omega)
  simp only [List.length_drop] at c5 c6
  simp (disch := omega) [wrapF_i64, c1, c2, a0, c5, c6]
  exact ⟨by simpa [wth] using o6, k2.trans k6⟩
end
end Go.Proofs.Ytoehafeeoggpkaa.L24

set_option linter.unusedVariables false
set_option linter.unusedSimpArgs false
set_option linter.unnecessarySimpa false
/-! A disk with a table, behind patches. -/
namespace Go.Proofs.Ytoehafeeoggpkaa.L24
open Go Go.Proofs Go.Shelf Go.RowKit Go.Lib Go.Sort Go.AM Go.Proofs.Ytoehafeeoggpkaa.AMC
set_option maxRecDepth 10000
noncomputable section
abbrev PEnt := Int × Value × Bool
def pE3 (p : PEnt) : List Value := [.int .i64 p.1, p.2.1, .bool p.2.2]
def PLs (h : AHeap) (pl : List PEnt) : Prop := ∀ i (hi : i < pl.length), ∃ bytes, BOk h pl[i].2.1 bytes ∧ Byt bytes
def SpI (pv : Value) (pl : List PEnt) (N : Nat) (hs : AHeap) (j : Nat) (T : Tr Value) (h' : AHeap) : Prop :=
  ∃ (i : Nat) (w : Value) (D : List Int), j = pl.length - i ∧ i ≤ pl.length ∧ T.get 1 = some pv ∧ T.get 6 = some w ∧ T.get 7 = some (.int .i64 i) ∧ SlB h' w D ∧ Byt D ∧ D.length = N ∧ Keep hs.next hs h'
set_option maxHeartbeats 16000000 in
theorem spoilt20 (L d : Nat) (t : Tb) (o : t.Ok) (l : List Ent) (hl : ∀ e ∈ l, e.Ok) (pv : Value) (pl : List PEnt) (h : AHeap) (hw : Wf h) (hs : SlZ h t.sl l) (hpv : ∃ x c, pv = .slice x pl.length c) (hps : pl.length ≠ 0 → SlC pE3 3 h pv pl) (hpl : PLs h pl) (hL : 1000000000 < L) :
    ∃ r h', (En L (d + 7)).go 20 [.agg t.cells.toArray, pv] h = some (r, h') ∧ ((r = .tuple #[.slice none 0 0, .bool false]) ∨ ∃ w D, r = .tuple #[w, .bool true] ∧ SlB h' w D ∧ Byt D ∧ D.length < 1000000) ∧ Keep h.next h h' := by
  refine go_ex (R := fun r h' => ((r = .tuple #[.slice none 0 0, .bool false]) ∨ ∃ w D, r = .tuple #[w, .bool true] ∧ SlB h' w D ∧ Byt D ∧ D.length < 1000000) ∧ Keep h.next h h') (show tabF 20 = some (.code a20) by rfl) rfl ?_
  unfold a20
  obtain ⟨h1, e1, g1, k1, n1⟩ := o.nbox h
  have l1 := o.lall g1
  obtain ⟨h2, e2, k2⟩ := light_spec L (d + 5) t o l.length h1 hs.val
  have kk2 := k1.trans (k2.less k1.next)
  have g2 := g1.keep k2 (by omega)
  have l2 := o.lall g2
  by_cases hlt : ¬ ((l.length : Int) ≤ 140)
  · simp (disch := omega) [e1, l1, e2, hlt, undef]
    exact kk2
  have hlt := Decidable.not_not.1 hlt
  have hh2 : h.next < h2.next := by have := k2.next; omega
  obtain ⟨r3, h3, e3, ⟨vi, vl, rl, rfl, svi, sr, hr⟩, k3⟩ := of_spec L (d + 4) t o l hl h2 (kk2.wf hw) (hs.keep kk2 (Nat.le_refl _)) (by omega) hL
  have kk3 := kk2.trans (k3.less kk2.next)
  have hvi : ∃ x n c, vi = .slice x n c := by obtain ⟨a, b, e⟩ := svi.val; exact ⟨_, _, _, e⟩
  obtain ⟨r4, h4, e4, rfl, k4⟩ := checkD_spec L (d + 1) t l hl vi vl rl hvi h3 (kk3.wf hw) sr hr (by omega) hL
  have kk4 := kk3.trans (k4.less kk3.next)
  have n23 : h2.next ≤ h3.next := k3.next
  have n34 : h3.next ≤ h4.next := k4.next
  have g4 : TBox h4 h.next t := (g2.keep k3 hh2).keep k4 (by omega)
  have l4 := o.lall g4
  have s4 := g4.l0
  by_cases hc : ¬ (chkV t l = 0)
  · simp (disch := omega) [e1, l1, e2, hlt, l2, e3, e4, hc, undef]
    exact kk4
  have hc := Decidable.not_not.1 hc
  rw [hc] at e4
  by_cases hs3 : 300 < t.s
  · simp (disch := omega) [e1, l1, e2, hlt, l2, e3, e4, s4, hs3, undef]
    exact kk4
  obtain ⟨xp, cp, evp⟩ := hpv
  by_cases h6 : 6 < pl.length
  · have h6' : 6 < (pl.length : Int) := by omega
    simp (disch := omega) [e1, l1, e2, hlt, l2, e3, e4, s4, hs3, evp, h6, h6', undef]
    exact kk4
  have h6' : ¬ 6 < (pl.length : Int) := by omega
  have hcv := chkV_def t l
  rw [hc] at hcv
  have d1 : ¬ (t.s < 6 ∨ 32768 < t.s ∨ (l.length : Int) < 1 ∨ 128 < (l.length : Int)) := fun a => by rw [if_pos a] at hcv; cases hcv
  rw [if_neg d1] at hcv
  have d2 : ¬ (t.at_ < 2 ∨ t.s - 1 - rowsN l.length < t.at_ ∨ t.a < t.at_ + rowsN l.length ∨ t.s - 1 < t.a ∨ t.b < t.a - 1 ∨ t.be ≤ t.b ∨ t.s - 1 - rowsN l.length < t.be) := fun a => by rw [if_pos a] at hcv; cases hcv
  have hR : (padL (entsB l)).length = (rowsN l.length).toNat * 512 := by rw [padL_len, entsB_len hl]; unfold rowsN; omega
  have hR0 : 1 ≤ rowsN l.length := by unfold rowsN; omega
  obtain ⟨sN, hsN⟩ : ∃ sN : Nat, t.s = sN := ⟨t.s.toNat, by omega⟩
  obtain ⟨aN, haN⟩ : ∃ aN : Nat, t.at_ = aN := ⟨t.at_.toNat, by omega⟩
  obtain ⟨bN, hbN⟩ : ∃ bN : Nat, t.be = bN := ⟨t.be.toNat, by omega⟩
  obtain ⟨z5, h5, e5, o5, k5⟩ := zeros_spec L (d + 5) (512 * sN) h4 (by omega)
  have e5' : (En L (d + 6)).go 25 [.int .i64 (512 * t.s)] h4 = some (z5, h5) := by rw [hsN, ← e5]; congr 3
  have kk5 := kk4.trans (k5.less kk4.next)
  have n45 : h4.next ≤ h5.next := k5.next
  have g5 : TBox h5 h.next t := g4.keep k5 (by omega)
  have l5 := o.lall g5
  have bqt : beqV 10000 (.agg t.cells.toArray) (.agg t.cells.toArray) = true := Tb.beq o (by obtain ⟨x, c, e⟩ := hs.val; exact ⟨_, _, _, e⟩)
  obtain ⟨r6, h6_, e6, ⟨vj, vm, rm, rfl, svj, sm_, hrm⟩, k6⟩ := of_spec L (d + 4) t o l hl h5 (kk5.wf hw) (hs.keep kk5 (Nat.le_refl _)) (by omega) hL
  have kk6 := kk5.trans (k6.less kk5.next)
  obtain ⟨z7, h7, e7, o7, k7⟩ := laid26 L (d + 1) z5 (List.replicate (512 * sN) 0) sN aN bN t.a t.b vj vm t.id rm l hl h6_ (o5.sl.keep k6 (Nat.le_refl _)) (Byt.zeros _) svj o.i o.b sm_ hrm (by omega) (by omega) (by simp; omega) (by omega) (by omega) (by omega) (by omega) hL
  have e7' : (En L (d + 6)).go 26 [z5, .agg (r7 t.s t.a t.b vj vm t.at_ t.be).toArray] h6_ = some (z7, h7) := by rw [hsN, haN, hbN]; exact e7
  have kk7 := kk6.trans (k7.less kk6.next)
  have ll : (laidL (List.replicate (512 * sN) 0) sN t.a t.b t.id l aN bN sN).length = 512 * sN := by
    unfold laidL h1L h2L
    have q1 : (List.replicate (512 * sN) (0 : Int)).length = 512 * sN := by simp
    have q2 := wth_len (l := List.replicate (512 * sN) (0 : Int)) (a := aN * 512) (p := padL (entsB l)) (by omega)
    have q3 := wth_len (l := wth (List.replicate (512 * sN) (0 : Int)) (aN * 512) (padL (entsB l))) (a := 512) (p := headL 1 (sN - 1) t.a t.b t.id aN l.length (sumV (entsB l))) (by rw [headL_len o.i]; omega)
    have q4 := wth_len (l := wth (wth (List.replicate (512 * sN) (0 : Int)) (aN * 512) (padL (entsB l))) 512 (headL 1 (sN - 1) t.a t.b t.id aN l.length (sumV (entsB l)))) (a := bN * 512) (p := padL (entsB l)) (by omega)
    rw [wth_len (by rw [headL_len o.i]; omega)]
    omega
  have lby : Byt (laidL (List.replicate (512 * sN) 0) sN t.a t.b t.id l aN bN sN) := by
    unfold laidL h1L h2L
    exact wth_byt (wth_byt (wth_byt (wth_byt (Byt.zeros _) (padL_byt (entsB_byt hl))) (headL_byt o.b)) (padL_byt (entsB_byt hl))) (headL_byt o.b)
  have o7s := o7.sl
  generalize laidL (List.replicate (512 * sN) 0) sN t.a t.b t.id l aN bN sN = D0 at o7s ll lby
  simp (disch := omega) [e1, l1, e2, hlt, l2, e3, e4, s4, hs3, evp, h6, h6', l4, e5', l5, bqt, e6, e7', skip0', undef, wrapF_i64]
  refine W_loop (SpI pv pl (512 * sN) h7) pl.length (by show _ < L; omega) ⟨0, z7, D0, rfl, by omega, by simp [evp], by simp, by simp, o7s, lby, ll, Keep.refl _ _⟩ ?_
  rintro j T h' ⟨i, w, D, rfl, hi, t1, t6, t7, sw, hDb, hDl, kk⟩
  have kkh : Keep h.next h h' := kk7.trans (kk.less kk7.next)
  by_cases hip : i < pl.length
  · have hip' : (i : Int) < pl.length := by omega
    have sc := hps (by omega)
    obtain ⟨m, off, cap, em, hm, _, ld⟩ := sc.at (enc := pE3) (es := 3) (fun e he => rfl) (by omega)
    rw [em] at t1
    have la : ∀ H : AHeap, Keep h.next h H → aLoad none (.pointer (some ⟨m, off + i * 3, none⟩)) H = some (.int .i64 pl[i].1) := fun H k => by simpa using ld H i 0 _ hip (k.get m hm) (by omega) rfl
    have lb : ∀ H : AHeap, Keep h.next h H → aLoad none (.pointer (some ⟨m, off + i * 3 + 1, none⟩)) H = some pl[i].2.1 := fun H k => ld H i 1 _ hip (k.get m hm) (by omega) rfl
    have lc : ∀ H : AHeap, Keep h.next h H → aLoad none (.pointer (some ⟨m, off + i * 3 + 2, none⟩)) H = some (.bool pl[i].2.2) := fun H k => ld H i 2 _ hip (k.get m hm) (by omega) rfl
    obtain ⟨B, sB, bB⟩ := hpl i hip
    have step : ∀ (T6 : Tr Value) (h6 : AHeap) (w6 : Value) (D6 : List Int), T6.get 1 = some (.slice (some ⟨m, off, none⟩) pl.length cap) → T6.get 6 = some w6 → T6.get 7 = some (.int .i64 (i + 1)) → SlB h6 w6 D6 → Byt D6 → D6.length = 512 * sN → Keep h7.next h7 h6 → ∃ j', j' < pl.length - i ∧ SpI pv pl (512 * sN) h7 j' T6 h6 := fun T6 h6 w6 D6 a1 a6 a7 s6 b6 l6 k6 =>
      ⟨pl.length - (i + 1), by omega, i + 1, w6, D6, rfl, by omega, by rw [a1, em], a6, by rw [a7]; simp, s6, b6, l6, k6⟩
    generalize pl[i].1 = at_ at la
    generalize pl[i].2.1 = vb at lb sB
    generalize pl[i].2.2 = su at lc
    obtain ⟨xw, cw, evw⟩ := sw.val
    obtain ⟨xb, cb, evb⟩ := sB.val
    obtain ⟨ua, hua, ub⟩ : ∃ ua, wrapF .u64 at_ = ua ∧ 0 ≤ ua := ⟨_, rfl, (u64_bd at_).1⟩
    have hD0 : ¬ ((D.length : Int) = 0) := by omega
    obtain ⟨aP, haP, haP2⟩ : ∃ aP : Nat, ua.tmod (D.length : Int) = aP ∧ aP < 512 * sN := by
      have h1 := Int.emod_nonneg ua hD0
      have h2 := Int.emod_lt_of_pos ua (show 0 < (D.length : Int) by omega)
      exact ⟨(ua % (D.length : Int)).toNat, by rw [Int.tmod_eq_emod_of_nonneg ub]; omega, by omega⟩
    have la0 := la h' kkh
    have lb0 := lb h' kkh
    have sBh := sB.keep kkh (Nat.le_refl _)
    have lsm : ∀ X : List Int, X.length = 512 * sN → ∀ (w2 : Value) (g : AHeap), SlB g w2 X → Byt X → Keep h.next h g → ∃ w3 g3 w4 g4 Y, (En L (d + 6)).go 48 [w2, .int .i64 512] g = some (w3, g3) ∧ (∃ x c, w3 = .slice x X.length c) ∧ (En L (d + 6)).go 48 [w3, .int .i64 ((X.length : Int) - 512)] g3 = some (w4, g4) ∧ SlB g4 w4 Y ∧ Byt Y ∧ Y.length = 512 * sN ∧ Keep g.next g g4 := by
      intro X hX w2 g sX bX kX
      obtain ⟨w3, g3, e3, o3, k3⟩ := summed48 L (d + 3) w2 X 512 512 rfl g sX bX (by omega) (by omega) hL
      have l3 := summedL_len (l := X) (at_ := 512) (by omega)
      obtain ⟨w4, g4, e4, o4, k4⟩ := summed48 L (d + 3) w3 (summedL X 512) (X.length - 512) ((X.length : Int) - 512) (by omega) g3 o3.sl (summedL_byt bX) (by omega) (by omega) hL
      have l4 := summedL_len (l := summedL X 512) (at_ := X.length - 512) (by omega)
      obtain ⟨x3, c3, ev3⟩ := o3.sl.val
      rw [l3] at ev3
      exact ⟨w3, g3, w4, g4, _, e3, ⟨x3, c3, ev3⟩, e4, o4.sl, summedL_byt (summedL_byt bX), by omega, k3.trans (k4.less k3.next)⟩
    have mid : ∀ (p : List Int) (vp : Value), BOk h' vp p → Byt p → aP + p.length ≤ 512 * sN → ∃ w2 g2, (En L (d + 6)).go 27 [w, .int .i64 aP, vp] h' = some (w2, g2) ∧ SlB g2 w2 (wth D aP p) ∧ Byt (wth D aP p) ∧ (wth D aP p).length = 512 * sN ∧ Keep h'.next h' g2 := by
      intro p vp sp bp hp
      obtain ⟨w2, g2, e2, o2, k2⟩ := with_b L (d + 5) w vp D p aP aP rfl h' sw sp (by omega) (by omega)
      exact ⟨w2, g2, e2, o2.sl, wth_byt hDb bp, by rw [wth_len (by omega)]; exact hDl, k2⟩
    have hDne : ¬ (D = []) := by intro e; rw [e] at hDl; simp only [List.length_nil] at hDl; omega
    have lenp : ∀ H, aLen .sl (.slice (some ⟨m, off, none⟩) pl.length cap) H = some (.int .i64 pl.length) := fun H => rfl
    have lenw : ∀ H, aLen .sl w H = some (.int .i64 D.length) := fun H => by rw [evw]; rfl
    have lenb : ∀ H, aLen .sl vb H = some (.int .i64 B.length) := fun H => by rw [evb]; rfl
    by_cases ct : (D.length : Int) - aP < (B.length : Int)
    · have sBs : SlB h' vb B := by
        rcases sBh with a | ⟨rfl, _⟩
        · exact a
        · simp only [List.length_nil] at ct; omega
      obtain ⟨vp, qp, sp⟩ := cutB sBs (lo := none) (hi := some (.int .i64 ((D.length - aP : Nat) : Int))) 0 (D.length - aP) (.inl ⟨rfl, rfl⟩) (.inr ⟨_, rfl⟩) (by omega) (by omega)
      have sp' : SlB h' vp (B.take (D.length - aP)) := by simpa using sp
      have qp' : aCut (.sl 1) vb none (some (.int .i64 ((D.length : Int) - aP))) none h' = some vp := by rw [← qp]; congr 3; omega
      obtain ⟨w2, g2, e2, s2, b2, l2_, k2⟩ := mid _ vp (.inl sp') (fun y hy => bB y (List.mem_of_mem_take hy)) (by rw [List.length_take]; omega)
      have kg := kk.trans (k2.less kk.next)
      have kgh : Keep h.next h g2 := kk7.trans (kg.less kk7.next)
      have lc2 := lc g2 kgh
      generalize wth D aP (B.take (D.length - aP)) = X at s2 b2 l2_
      cases su with
      | false =>
        simp (disch := omega) [-aLen, lenp, t1, t6, t7, hip', aIndexSl_ok, la0, lb0, lenw, lenb, hua, haP, hDne, ct, qp', e2, lc2, wrapF_u64 (n := (D.length : Int)) (by omega) (by omega), wrapF_u64, wrapF_i64, undef]
        exact step _ _ w2 X (by simp [t1]) (by simp) (by simp) s2 b2 l2_ kg
      | true =>
        obtain ⟨w3, g3, w4, g4, Y, e3, ⟨x3, c3, ev3⟩, e4, s4_, b4, l4_, k4_⟩ := lsm X l2_ w2 g2 s2 b2 kgh
        have len3 : ∀ H, aLen .sl w3 H = some (.int .i64 X.length) := fun H => by rw [ev3]; rfl
        simp (disch := omega) [-aLen, lenp, t1, t6, t7, hip', aIndexSl_ok, la0, lb0, lenw, lenb, hua, haP, hDne, ct, qp', e2, lc2, e3, len3, e4, wrapF_u64 (n := (D.length : Int)) (by omega) (by omega), wrapF_u64, wrapF_i64, undef]
        exact step _ _ w4 Y (by simp [t1]) (by simp) (by simp) s4_ b4 l4_ (kg.trans (k4_.less kg.next))
    · obtain ⟨w2, g2, e2, s2, b2, l2_, k2⟩ := mid B vb sBh bB (by omega)
      have kg := kk.trans (k2.less kk.next)
      have kgh : Keep h.next h g2 := kk7.trans (kg.less kk7.next)
      have lc2 := lc g2 kgh
      generalize wth D aP B = X at s2 b2 l2_
      cases su with
      | false =>
        simp (disch := omega) [-aLen, lenp, t1, t6, t7, hip', aIndexSl_ok, la0, lb0, lenw, lenb, hua, haP, hDne, ct, e2, lc2, wrapF_u64 (n := (D.length : Int)) (by omega) (by omega), wrapF_u64, wrapF_i64, undef]
        exact step _ _ w2 X (by simp [t1]) (by simp) (by simp) s2 b2 l2_ kg
      | true =>
        obtain ⟨w3, g3, w4, g4, Y, e3, ⟨x3, c3, ev3⟩, e4, s4_, b4, l4_, k4_⟩ := lsm X l2_ w2 g2 s2 b2 kgh
        have len3 : ∀ H, aLen .sl w3 H = some (.int .i64 X.length) := fun H => by rw [ev3]; rfl
        simp (disch := omega) [-aLen, lenp, t1, t6, t7, hip', aIndexSl_ok, la0, lb0, lenw, lenb, hua, haP, hDne, ct, e2, lc2, e3, len3, e4, wrapF_u64 (n := (D.length : Int)) (by omega) (by omega), wrapF_u64, wrapF_i64, undef]
        exact step _ _ w4 Y (by simp [t1]) (by simp) (by simp) s4_ b4 l4_ (kg.trans (k4_.less kg.next))
  · have hie : i = pl.length := by omega
    subst hie
    rw [evp] at t1
    simp (disch := omega) [t1, t6, t7]
    exact ⟨⟨D, sw, hDb, by omega⟩, kkh⟩
end
end Go.Proofs.Ytoehafeeoggpkaa.L24

set_option linter.unusedVariables false
set_option linter.unusedSimpArgs false
set_option linter.unnecessarySimpa false
/-! GptParses over the executor. -/
namespace Go.Proofs.Ytoehafeeoggpkaa.L24
open Go Go.Proofs Go.Shelf Go.RowKit Go.Lib Go.Sort Go.AM Go.Proofs.Ytoehafeeoggpkaa.AMC
set_option maxRecDepth 10000
noncomputable section
set_option maxHeartbeats 8000000 in
theorem law_parses (L d : Nat) (t : Tb) (o : t.Ok) (es : List Ent) (hes : ∀ e ∈ es, e.Ok) (pv : Value) (pl : List PEnt) (h : AHeap) (hw : Wf h) (hs : SlZ h t.sl es) (hpv : ∃ x c, pv = .slice x pl.length c) (hps : pl.length ≠ 0 → SlC pE3 3 h pv pl) (hpl : PLs h pl) (hL : 1000000000 < L) :
    ∃ r h', (En L (d + 8)).go 6 [.agg t.cells.toArray, pv] h = some (r, h') ∧ r = .bool true := by
  refine go_ex (R := fun r h' => r = .bool true) (show tabF 6 = some (.code a6) by rfl) rfl ?_
  unfold a6
  have g16 := go16 L (d + 6)
  obtain ⟨ha, ea, ga, ka, na⟩ := o.nbox h
  have la := o.lall ga
  have hpla : PLs ha pl := fun i hi => by
    obtain ⟨B, s, b⟩ := hpl i hi
    exact ⟨B, s.keep ka (Nat.le_refl _), b⟩
  obtain ⟨r0, h0, e0, q0, k0⟩ := spoilt20 L d t o es hes pv pl ha (ka.wf hw) (hs.keep ka (Nat.le_refl _)) hpv (fun e => (hps e).keep ka (Nat.le_refl _)) hpla hL
  have kk0 : Keep h.next h h0 := ka.trans (k0.less ka.next)
  rcases q0 with rfl | ⟨v, l, rfl, hv, hb, hlen⟩
  · simp (disch := omega) [ea, la, e0, g16]
  obtain ⟨r1, h1, e1, q1, k1⟩ := parse_spec L d v l h0 (kk0.wf hw) hv hb (by omega) hL
  have bz : Byt ([] : List Int) := by intro x hx; cases hx
  obtain ⟨tx, lx, okx, okl, hlx, rfl, hs1, hpx⟩ : ∃ tx lx, tx.Ok ∧ (∀ e ∈ lx, e.Ok) ∧ lx.length < 100000 ∧ r1 = .tuple #[.agg tx.cells.toArray, .int .i64 (pErr l)] ∧ SlZ h1 tx.sl lx ∧ ((pErr l ≠ 0 ∧ tx = zeroT ∧ lx = []) ∨ (pErr l = 0 ∧ (∃ w, tx = pTb l w) ∧ lx = pL l)) := by
    rcases q1 with ⟨he, rfl⟩ | ⟨he, w, rfl, sw⟩
    · exact ⟨zeroT, [], zeroT_ok, (by intro e he; cases he), by simp, rfl, ⟨⟨none, 0, rfl⟩, fun a => absurd rfl a⟩, .inl ⟨he, rfl, rfl⟩⟩
    · obtain ⟨xw, cw, evw⟩ := sw.val
      have hp := he
      have hN : ¬ (secN l < 6 ∨ l.length % 512 ≠ 0) := fun a => by unfold pErr at hp; rw [if_pos a] at hp; cases hp
      unfold pErr at hp
      rw [if_neg hN] at hp
      have hd1 : hdE (b1 l) = 0 := by
        apply Decidable.byContradiction; intro a; rw [if_pos a] at hp; exact a hp
      rw [if_neg (not_not_intro hd1)] at hp
      have hd2 : hdE (b2 l) = 0 := by
        apply Decidable.byContradiction; intro a; rw [if_pos a] at hp; exact a hp
      rw [if_neg (not_not_intro hd2)] at hp
      have hcr : ¬ crossP l := by intro a; rw [if_pos a] at hp; cases hp
      rw [if_neg hcr] at hp
      have hr1 : rowE l (atN l) (nN l) (le4 (b1 l) 88) = 0 := by
        apply Decidable.byContradiction; intro a; rw [if_pos a] at hp; exact a hp
      have b80 := hd_n hd1
      have hle : atN l * 512 + nN l * 128 ≤ l.length := by
        unfold rowE at hr1
        split at hr1
        · cases hr1
        · omega
      have pll : (pL l).length = nN l := entsO_len _ _
      have hn : nN l ≤ 128 := by unfold nN; omega
      have okp : (pTb l w).Ok := ⟨sec_len (by rw [b1_len hN]; omega), sec_byt (b1_byt hb), ⟨_, _, _, evw⟩⟩
      refine ⟨pTb l w, pL l, okp, entsO_ok (sec_byt hb) _ (by rw [sec_len hle]; exact Nat.le_refl _), by omega, by rw [he], ⟨⟨xw, cw, evw⟩, fun _ => sw⟩, .inr ⟨he, ⟨w, rfl⟩, rfl⟩⟩
  obtain ⟨h2, e2, g2, k2, n2⟩ := store_new h1 zeroT.cells tx.cells.toArray 22 okx.len rfl okx.one
  have g2 : h2.get h1.next = .row false 0 (.vals tx.cells) := g2
  have al1 := new22 h1
  have kk2 := k1.trans (k2.less k1.next)
  obtain ⟨r3, h3, e3, q3, k3⟩ := parseD_spec L (d + 1) v l h2 ((kk0.trans (kk2.less kk0.next)).wf hw) (hv.keep kk2 (Nat.le_refl _)) hb (by omega) hL
  have kk3 := kk2.trans (k3.less kk2.next)
  have n23 : h2.next ≤ h3.next := k3.next
  obtain ⟨vi, w, idw, rl, byw, rfl, hid, svi, sw, hrl⟩ : ∃ vi w idw rl, Byt idw ∧ r3 = .tuple #[.agg (r7 tx.s tx.a tx.b vi w tx.at_ tx.be).toArray, .int .i64 (pErr l)] ∧ (tx.id = idw ∨ lx.length = 0) ∧ SlB h3 vi idw ∧ SlC rEnc 4 h3 w rl ∧ RL h3 rl lx := by
    rcases hpx with ⟨he, rfl, rfl⟩ | ⟨he, ⟨w0, rfl⟩, rfl⟩
    · rcases q3 with ⟨_, rfl⟩ | ⟨he', _⟩
      · exact ⟨.slice none 0 0, .slice none 0 0, [], [], bz, rfl, .inr rfl, SlAt.nil h3 1, SlAt.nil h3 4, ⟨rfl, fun i a b => by simp at a⟩⟩
      · exact absurd he' he
    · rcases q3 with ⟨he', _⟩ | ⟨_, vi, w, rl, rfl, s1, s2, s3⟩
      · exact absurd he he'
      · exact ⟨vi, w, sec (b1 l) 56 16, rl, sec_byt (b1_byt hb), by rw [he]; rfl, .inl rfl, s1, s2, s3⟩
  have al3 := new7 h3
  obtain ⟨xi, ci, evi⟩ := svi.val
  obtain ⟨xw, cw, evw⟩ := sw.val
  obtain ⟨h4, e4, g4, k4, n4⟩ := store_new h3 (r7 0 0 0 (.slice none 0 0) (.slice none 0 0) 0 0) (r7 tx.s tx.a tx.b vi w tx.at_ tx.be).toArray 7 rfl rfl (by rw [evi, evw]; rfl)
  have g4 : h4.get h3.next = .row false 0 (.vals (r7 tx.s tx.a tx.b vi w tx.at_ tx.be)) := g4
  have kk4 := kk3.trans (k4.less kk3.next)
  have k24 : Keep h2.next h2 h4 := k3.trans (k4.less k3.next)
  have n34 : h3.next ≤ h4.next := k4.next
  have g4x : h4.get h1.next = .row false 0 (.vals tx.cells) := (k4.get _ (by omega)).trans ((k3.get _ (by omega)).trans g2)
  have lx4 := okx.lall (show TBox h4 h1.next tx from g4x)
  have lw4 : aLoad (some 7) (.pointer (some ⟨h3.next, 0, none⟩)) h4 = some (.agg (r7 tx.s tx.a tx.b vi w tx.at_ tx.be).toArray) := ld_agg g4 rfl
  have hs4 : SlZ h4 tx.sl lx := ((hs1.keep k2 (Nat.le_refl _)).keep k24 (Nat.le_refl _))
  obtain ⟨r7_, h7, h8, e7, e8, k7⟩ := of_same L d l (.bool true) (.bool true) 0 0 h4 hb ((kk0.trans (kk4.less kk0.next)).wf hw) tx okx lx okl hlx hs4 vi w idw byw rl hid (svi.keep k4 (Nat.le_refl _)) (sw.keep k4 (Nat.le_refl _)) (hrl.keep k4 (Nat.le_refl _)) hL
  have lw7 : aLoad (some 7) (.pointer (some ⟨h3.next, 0, none⟩)) h7 = some (.agg (r7 tx.s tx.a tx.b vi w tx.at_ tx.be).toArray) := ld_agg ((k7.get _ (by omega)).trans g4) rfl
  have bq := r7_beq (s := tx.s) (a := tx.a) (b := tx.b) (at_ := tx.at_) (be := tx.be) (show ∃ x n c, vi = .slice x n c from ⟨_, _, _, evi⟩) (show ∃ x n c, w = .slice x n c from ⟨_, _, _, evw⟩)
  simp (disch := omega) [ea, la, e0, e1, al1, e2, e3, al3, e4, g16, lx4, lw4, e7, lw7, bq, e8, skip0', undef]
end
end Go.Proofs.Ytoehafeeoggpkaa.L24

set_option linter.unusedVariables false
set_option linter.unusedSimpArgs false
set_option linter.unnecessarySimpa false
/-! A table as an argument. -/
namespace Go.Proofs.Ytoehafeeoggpkaa.L24
open Go Go.AM Go.RowKit Go.ChangeShapes Go.WideShapes Go.Proofs.Ytoehafeeoggpkaa.AMC
noncomputable section
/-! ### opening -/
theorem open_bytes {H : Type} {enc : TypeId × Value → H} {P : Program} {w : World} {base fuel n : Nat} {spare : Nat → Bool} {held : Bool} {t e : TypeId} {cs : List Value} {x : DataW H × List MemPlace} (ht : P.underlying t = some (.array n e)) (he : P.underlying e = some (.int .u8)) (ce : P.cellsOf e = 1) (ct : P.cellsOf t = n)
    (h : DataW.trod enc P w base spare held fuel t cs = some x) : ∃ zs : List Int, zs.length = n ∧ cs = byV zs ∧ Byt zs := by
  obtain ⟨xs, m, _, _, hl, hx, hf⟩ := DataW.trod_array ht h
  rw [ct] at hl
  rw [ce] at hf
  have e0 : ∀ i, i < n → ∃ z : Int, cs[i]? = some (.int .u8 z) ∧ 0 ≤ z ∧ z < 256 := by
    intro i hi
    have h1 := hf i hi
    rw [Nat.mul_one, List.getElem?_eq_getElem (by omega)] at h1
    obtain ⟨z, hz, _, hw⟩ := DataW.trod_int he h1
    have hi2 : i < cs.length := by omega
    rw [List.drop_eq_getElem_cons hi2] at hz
    simp only [List.take_succ_cons, List.take_zero, List.cons.injEq, and_true] at hz
    simp [Lit.wf] at hw
    have m1 : IntKind.u8.min = 0 := by decide
    have m2 : IntKind.u8.max = 255 := by decide
    exact ⟨z, by rw [List.getElem?_eq_getElem hi2, hz], by omega, by omega⟩
  obtain ⟨f, hff⟩ := Go.Deep.choose_lt e0
  refine ⟨(List.range n).map f, by simp, ?_, ?_⟩
  · apply List.ext_getElem?
    intro i
    by_cases hi : i < n
    · rw [(hff i hi).1]; simp [byV, hi]
    · rw [List.getElem?_eq_none (by omega), List.getElem?_eq_none (by simp; omega)]
  · intro y hy
    obtain ⟨i, hi, rfl⟩ := List.mem_map.1 hy
    exact (hff i (List.mem_range.1 hi)).2
theorem one_of {cs : List Value} {i : Nat} {k : IntKind} {z : Int} (h : (cs.drop i).take 1 = [.int k z]) : cs[i]? = some (.int k z) := by
  have h1 : i < cs.length := by
    apply Classical.byContradiction
    intro hn
    rw [List.drop_of_length_le (by omega)] at h
    simp at h
  rw [List.drop_eq_getElem_cons h1] at h
  simp only [List.take_succ_cons, List.take_zero, List.cons.injEq, and_true] at h
  rw [List.getElem?_eq_getElem h1, h]
theorem split4 {α : Type} (cs : List α) (h : cs.length = 114) : cs = (cs.drop 0).take 32 ++ ((cs.drop 32).take 1 ++ ((cs.drop 33).take 1 ++ (cs.drop 34).take 80)) := by
  have e1 : cs = cs.take 32 ++ cs.drop 32 := (List.take_append_drop 32 cs).symm
  have e2 : cs.drop 32 = (cs.drop 32).take 1 ++ cs.drop 33 := by
    have := (List.take_append_drop 1 (cs.drop 32)).symm
    rwa [List.drop_drop] at this
  have e3 : cs.drop 33 = (cs.drop 33).take 1 ++ cs.drop 34 := by
    have := (List.take_append_drop 1 (cs.drop 33)).symm
    rwa [List.drop_drop] at this
  have e4 : (cs.drop 34).take 80 = cs.drop 34 := List.take_of_length_le (by rw [List.length_drop]; omega)
  rw [e4, ← e3, ← e2, List.drop_zero, ← e1]
theorem split7 {α : Type} (cs : List α) (h : cs.length = 22) : cs = (cs.drop 0).take 1 ++ ((cs.drop 1).take 1 ++ ((cs.drop 2).take 1 ++ ((cs.drop 3).take 16 ++ ((cs.drop 19).take 1 ++ ((cs.drop 20).take 1 ++ (cs.drop 21).take 1))))) := by
  have d : ∀ a b, cs.drop a = (cs.drop a).take b ++ cs.drop (a + b) := by
    intro a b
    have := (List.take_append_drop b (cs.drop a)).symm
    rwa [List.drop_drop] at this
  have e7 : (cs.drop 21).take 1 = cs.drop 21 := List.take_of_length_le (by rw [List.length_drop]; omega)
  rw [e7, ← d 20 1, ← d 19 1, ← d 3 16, ← d 2 1, ← d 1 1, ← d 0 1, List.drop_zero]
/-- An entry, in the machine's heap. -/
def EntC (w : World) (x : Addr) (i : Nat) : Prop := ∃ e : Ent, e.Ok ∧ ∀ j, j < 114 → w.cell? (x.add (i * 114 + j)) = e.cells[j]?
instance : Inhabited Ent := ⟨zeroE⟩
theorem flatC_get {α : Type} {enc : α → List Value} {es : Nat} {l : List α} (h : ∀ x ∈ l, (enc x).length = es) {k : Nat} {u : Value} (hk : (flatC enc l)[k]? = some u) : ∃ i j, ∃ hi : i < l.length, j < es ∧ k = i * es + j ∧ (enc l[i])[j]? = some u := by
  have hlen := flatC_len h
  have hk1 : k < l.length * es := by rw [← hlen]; exact (List.getElem?_eq_some_iff.1 hk).1
  have hes : 0 < es := by
    rcases Nat.eq_zero_or_pos es with h0 | h0
    · rw [h0, Nat.mul_zero] at hk1; omega
    · exact h0
  have hi : k / es < l.length := by rw [Nat.div_lt_iff_lt_mul hes]; exact hk1
  have hj : k % es < es := Nat.mod_lt _ hes
  have hke : k = k / es * es + k % es := by rw [Nat.mul_comm]; exact (Nat.div_add_mod k es).symm
  refine ⟨k / es, k % es, hi, hj, hke, ?_⟩
  have hd := flatC_drop h hi
  have : ((flatC enc l).drop (k / es * es))[k % es]? = some u := by rw [List.getElem?_drop, ← hke]; exact hk
  rw [hd, List.getElem?_append_left (by rw [h _ (List.getElem_mem hi)]; exact hj)] at this
  exact this
theorem Ent.isInt (e : Ent) : ∀ u ∈ e.cells, ∃ k z, u = .int k z := by
  intro u hu
  simp only [Ent.cells, byV, List.mem_append, List.mem_map, List.mem_cons] at hu
  rcases hu with ⟨z, _, rfl⟩ | rfl | rfl | ⟨z, _, rfl⟩ <;> exact ⟨_, _, rfl⟩
/-- A row of the machine, where a cell is read. -/
theorem row_of {w : World} {a : Addr} {v : Value} (h : w.cell? a = some v) : a.spot = none ∧ ∃ cs el fz, w.heap[a.block]? = some (.cells cs el fz) ∧ cs[a.off]? = some v := by
  unfold World.cell? at h
  split at h
  · rename_i c el fz hc
    split at h
    · cases h
    · rename_i hs; exact ⟨by simpa using hs, c, el, fz, hc, h⟩
  · cases h
section
variable {N0 : Nat} {w0 : World} {σ : Sig} {h : AHeap} {w : World}
theorem addsT {σ1 σ2 : Sig} {h1 h2 : AHeap} (a : Adds N0 w0 σ h w σ1 h1) (b : Adds N0 w0 σ1 h1 w σ2 h2) : Adds N0 w0 σ h w σ2 h2 :=
  ⟨b.inv, a.keep.trans (b.keep.less a.keep.next), fun m hm => by rw [b.sig m (Nat.lt_of_lt_of_le hm a.keep.next), a.sig m hm]⟩
/-- A number that is kept: nothing lies there. -/
theorem Inv.skip1 (hI : Inv N0 w0 σ h w) (p : Pl) : Inv N0 w0 (σ.put h.next p) (h.skip 1) w ∧ ∀ m, m < h.next → σ.put h.next p m = σ m := by
  have hs : ∀ m, m < h.next → σ.put h.next p m = σ m := fun m hm => Sig.put_ne _ _ (by omega)
  have hd : ∀ m, h.next ≤ m → h.get m = .dead := hI.fresh
  have dl : (AObj.dead).live = false := rfl
  have dow : (AObj.dead).own = false := rfl
  refine ⟨⟨hI.below, ?_, ?_, ?_, ?_, ?_, hI.base⟩, hs⟩
  · intro m hm
    rw [AHeap.next_skip] at hm
    rw [AHeap.get_skip]; exact hd m (by omega)
  · intro m
    rw [AHeap.next_skip, AHeap.get_skip]
    by_cases e : m = h.next
    · rw [hd m (by omega)]; trivial
    · rw [Sig.put_ne _ _ e]
      exact AObj.at_mono (hI.obj m) (by omega) hs rfl (fun _ => rfl)
  · intro m hm
    rw [AHeap.get_skip] at hm
    by_cases e : m = h.next
    · rw [hd m (by omega)] at hm; cases hm
    · rw [Sig.put_ne _ _ e]; exact hI.low m hm
  · intro m hm hm2
    rw [AHeap.get_skip] at hm hm2
    by_cases e : m = h.next
    · rw [hd m (by omega)] at hm; cases hm
    · rw [Sig.put_ne _ _ e]; exact hI.high m hm hm2
  · intro m m' hm hm' hne
    rw [AHeap.get_skip] at hm hm'
    by_cases e : m = h.next
    · rw [hd m (by omega)] at hm; cases hm
    · by_cases e' : m' = h.next
      · rw [hd m' (by omega)] at hm'; cases hm'
      · rw [Sig.put_ne _ _ e, Sig.put_ne _ _ e']; exact hI.inj m m' hm hm' hne
/-- A list of entries is added. -/
theorem addEnts (hI : Inv N0 w0 σ h w) (hN : N0 = w.heap.size) (a : Option Addr) (len cap : Nat) (hl : len ≤ cap) (hn : a = none → len = 0 ∧ cap = 0)
    (hp : ∀ x, a = some x → ∀ i, i < cap → EntC w x i) :
    ∃ σ' h' a' l, Adds N0 w0 σ h w σ' h' ∧ l.length = len ∧ (∀ e ∈ l, e.Ok) ∧ VR h'.next σ' (.slice a' len cap) (.slice a len cap) ∧ (len = 0 ∨ SlC Ent.cells 114 h' (.slice a' len cap) l) := by
  cases a with
  | none =>
    obtain ⟨rfl, rfl⟩ := hn rfl
    exact ⟨σ, h, none, [], Adds.refl hI, rfl, (by intro p hp; cases hp), .nils, .inl rfl⟩
  | some x =>
    by_cases hc0 : cap = 0
    · subst hc0
      have hl0 : len = 0 := by omega
      subst hl0
      obtain ⟨b, off, spot⟩ := x
      obtain ⟨i1, i2⟩ := Inv.skip1 hI ⟨b, 0, some (1, 0), true, none⟩
      have A2 : Adds N0 w0 σ h w (σ.put h.next ⟨b, 0, some (1, 0), true, none⟩) (h.skip 1) := ⟨i1, (Keep.refl _ _).skip 1, i2⟩
      refine ⟨_, _, some ⟨h.next, 0, none⟩, [], A2, rfl, (by intro p hp; cases hp), ?_, .inl rfl⟩
      have := VR.sle (sp := spot) (n := (h.skip 1).next) (σ := σ.put h.next ⟨b, 0, some (1, 0), true, none⟩) h.next 0 off 1 0 ⟨by rw [AHeap.next_skip]; omega, by rw [Sig.put_same]⟩ (by rw [Sig.put_same])
      rw [Sig.put_same] at this
      exact this
    · obtain ⟨f, hf⟩ := Go.Deep.choose_lt (n := cap) (fun i hi => hp x rfl i hi)
      obtain ⟨e0, he0⟩ := hf 0 (by omega)
      have hc00 := he0 0 (by omega)
      have h00 : 0 < (f 0).cells.length := by rw [e0.len]; omega
      rw [List.getElem?_eq_getElem h00] at hc00
      obtain ⟨hspot, cs, el, fz, hh, _⟩ := row_of hc00
      have hspot : x.spot = none := hspot
      have hh : w.heap[x.block]? = some (.cells cs el fz) := hh
      obtain ⟨b, off, spot⟩ := x
      simp only at hspot
      subst hspot
      have hh : w.heap[b]? = some (.cells cs el fz) := hh
      have hb : b < N0 := by rw [hN]; exact (Array.getElem?_eq_some_iff.1 hh).1
      have hlok : ∀ e ∈ (List.range len).map f, e.Ok := by
        intro e he
        obtain ⟨i, hi, rfl⟩ := List.mem_map.1 he
        exact (hf i (by have := List.mem_range.1 hi; omega)).1
      have hlen : ((List.range len).map f).length = len := by simp
      have hlc : ∀ e ∈ (List.range len).map f, e.cells.length = 114 := fun e he => (hlok e he).len
      have hrl := flatC_len hlc
      have cellAt : ∀ i u, (flatC Ent.cells ((List.range len).map f))[i]? = some u → ∃ v', cs[off + i]? = some v' ∧ VR h.next σ u v' ∧ v'.oneCell' = true := by
        intro k u e
        obtain ⟨i, j, hi, hj, rfl, hu⟩ := flatC_get hlc e
        rw [hlen] at hi
        simp only [List.getElem_map, List.getElem_range] at hu
        have hc := (hf i (by omega)).2 j hj
        rw [add_mk, cell_of hh, hu] at hc
        obtain ⟨k, z, rfl⟩ := Ent.isInt _ u (List.mem_of_getElem? hu)
        exact ⟨_, hc, .int _ _, rfl⟩
      have hsz : off + (flatC Ent.cells ((List.range len).map f)).length ≤ cs.size := by
        have hc := (hf (cap - 1) (by omega)).2 113 (by omega)
        have ok := (hf (cap - 1) (by omega)).1
        rw [add_mk, cell_of hh, List.getElem?_eq_getElem (by rw [ok.len]; omega)] at hc
        have := (Array.getElem?_eq_some_iff.1 hc).1
        rw [hrl, hlen]
        have : len * 114 ≤ cap * 114 := Nat.mul_le_mul_right _ hl
        have : (cap - 1) * 114 + 114 = cap * 114 := by rw [← Nat.succ_mul]; congr 1; omega
        omega
      obtain ⟨i1, i2⟩ := hI.addRo (base := off) hb hh (flatC Ent.cells ((List.range len).map f)) none cellAt hsz (by intro es ext e; cases e)
      have A2 : Adds N0 w0 σ h w _ _ := ⟨i1, (Keep.refl _ _).new (Nat.le_refl _) _, i2⟩
      have hv : VR (h.new (.row true (grOf none) (.vals (flatC Ent.cells ((List.range len).map f))))).next (σ.put h.next ⟨b, off, none, true, none⟩) (.slice (some ⟨h.next, 0, none⟩) len cap) (.slice (some ⟨b, off, none⟩) len cap) := by
        have := VR.sl (n := (h.new (.row true (grOf none) (.vals (flatC Ent.cells ((List.range len).map f))))).next) (σ := σ.put h.next ⟨b, off, none, true, none⟩) h.next 0 len cap ⟨by simp, by rw [Sig.put_same]⟩ (by rw [Sig.put_same])
        rw [Sig.put_same] at this
        exact this
      refine ⟨_, _, some ⟨h.next, 0, none⟩, (List.range len).map f, A2, hlen, hlok, hv, .inr ⟨hrl, .inr ⟨h.next, 0, cap, true, grOf none, _, by rw [hlen], by rw [hlen]; exact hl, by simp, by rw [AHeap.get_new, if_pos rfl], .inl rfl, ?_, ?_⟩⟩⟩
      · show 0 + _ ≤ (flatC Ent.cells ((List.range len).map f)).length
        rw [hrl]; omega
      · show ((flatC Ent.cells ((List.range len).map f)).drop 0).take _ = _
        rw [List.drop_zero, List.take_of_length_le (by rw [hrl]; omega)]
end
/-! ### a table -/
theorem Tb.Ok.cell_int {t : Tb} (hi16 : t.id.length = 16) {i : Nat} (hi : i ≠ 19) {v : Value} (h : t.cells[i]? = some v) (sl' : Value) : (∃ k z, v = .int k z) ∧ (⟨t.s, t.a, t.b, t.id, sl', t.at_, t.be⟩ : Tb).cells[i]? = some v := by
  unfold Tb.cells at h ⊢
  match i, hi with
  | 0, _ => exact ⟨⟨_, _, (Option.some.inj h).symm⟩, h⟩
  | 1, _ => exact ⟨⟨_, _, (Option.some.inj h).symm⟩, h⟩
  | 2, _ => exact ⟨⟨_, _, (Option.some.inj h).symm⟩, h⟩
  | j + 3, hj =>
    simp only [List.getElem?_cons_succ] at h ⊢
    by_cases hj2 : j < 16
    · have hb : j < (byV t.id).length := by rw [byV_length, hi16]; exact hj2
      rw [List.getElem?_append_left hb] at h ⊢
      refine ⟨?_, h⟩
      have := List.mem_of_getElem? h
      simp only [byV, List.mem_map] at this
      obtain ⟨z, _, rfl⟩ := this
      exact ⟨_, _, rfl⟩
    · rw [List.getElem?_append_right (by rw [byV_length, hi16]; omega), byV_length, hi16] at h ⊢
      obtain ⟨k, rfl⟩ : ∃ k, j = k + 16 := ⟨j - 16, by omega⟩
      rw [Nat.add_sub_cancel] at h ⊢
      match k, hj with
      | 0, hj => exact absurd rfl hj
      | 1, _ => exact ⟨⟨_, _, (Option.some.inj h).symm⟩, h⟩
      | 2, _ => exact ⟨⟨_, _, (Option.some.inj h).symm⟩, h⟩
      | k + 3, _ => simp at h
theorem tb_vr {n : Nat} {σ : Sig} {t : Tb} (hi16 : t.id.length = 16) {sl' : Value} (h : VR n σ t.sl sl') : VR n σ (.agg t.cells.toArray) (.agg (⟨t.s, t.a, t.b, t.id, sl', t.at_, t.be⟩ : Tb).cells.toArray) := by
  refine .agg _ _ (by simp [Tb.cells]) ?_
  intro i v v' h1 h2
  rw [List.getElem?_toArray] at h1 h2
  by_cases hi : i = 19
  · subst hi
    have e1 : t.cells[19]? = some t.sl := by
      simp only [Tb.cells, List.getElem?_cons_succ]; rw [List.getElem?_append_right (by simp [hi16])]; simp [hi16]
    have e2 : (⟨t.s, t.a, t.b, t.id, sl', t.at_, t.be⟩ : Tb).cells[19]? = some sl' := by
      simp only [Tb.cells, List.getElem?_cons_succ]; rw [List.getElem?_append_right (by simp [hi16])]; simp [hi16]
    rw [e1] at h1; rw [e2] at h2
    cases h1; cases h2
    exact h
  · obtain ⟨⟨k, z, rfl⟩, e⟩ := Tb.Ok.cell_int hi16 hi h1 sl'
    rw [e] at h2
    cases h2
    exact .int _ _
end
end Go.Proofs.Ytoehafeeoggpkaa.L24

set_option linter.unusedVariables false
set_option linter.unusedSimpArgs false
set_option linter.unnecessarySimpa false
/-! A list of patches as an argument. -/
namespace Go.Proofs.Ytoehafeeoggpkaa.L24
open Go Go.AM Go.RowKit Go.ChangeShapes Go.WideShapes Go.Proofs.Ytoehafeeoggpkaa.AMC
noncomputable section
/-- Bytes, in the machine's heap. -/
def ByC (w : World) (v : Value) : Prop := v = .slice none 0 0 ∨ ∃ (x : Addr) (len cap : Nat) (zs : List Int), v = .slice (some x) len cap ∧ len ≤ cap ∧ zs.length = cap ∧ (∀ i, i < zs.length → w.cell? (x.add i) = some (.int .u8 (zs.getD i 0))) ∧ Byt zs
/-- A patch, in the machine's heap. -/
def PatC (w : World) (a : Addr) (i : Nat) : Prop := ∃ (at_ : Int) (v : Value) (su : Bool), w.cell? (a.add (i * 3)) = some (.int .i64 at_) ∧ w.cell? (a.add (i * 3 + 1)) = some v ∧ w.cell? (a.add (i * 3 + 2)) = some (.bool su) ∧ ByC w v
section
variable {N0 : Nat} {w0 : World} {σ : Sig} {h : AHeap} {w : World}
theorem addBytes (hI : Inv N0 w0 σ h w) (hN : N0 = w.heap.size) {v : Value} (hv : ByC w v) :
    ∃ σ' h' v' B, Adds N0 w0 σ h w σ' h' ∧ VR h'.next σ' v' v ∧ BOk h' v' B ∧ Byt B ∧ v.oneCell' = true := by
  rcases hv with rfl | ⟨x, len, cap, zs, rfl, hl, hz, hc, hb⟩
  · exact ⟨σ, h, .slice none 0 0, [], Adds.refl hI, .nils, .inl (SlAt.nil h 1), (by intro x hx; cases hx), rfl⟩
  · by_cases h0 : cap = 0
    · subst h0
      have : len = 0 := by omega
      subst this
      obtain ⟨i1, i2⟩ := Inv.skip1 hI ⟨x.block, 0, some (1, 0), true, none⟩
      refine ⟨_, _, .slice (some ⟨h.next, 0, none⟩) 0 0, [], ⟨i1, (Keep.refl _ _).skip 1, i2⟩, ?_, .inr ⟨rfl, h.next, rfl, by rw [AHeap.next_skip]; omega, by rw [AHeap.get_skip]; exact hI.fresh _ (Nat.le_refl _)⟩, (by intro x hx; cases hx), rfl⟩
      have := VR.sle (sp := x.spot) (n := (h.skip 1).next) (σ := σ.put h.next ⟨x.block, 0, some (1, 0), true, none⟩) h.next 0 x.off 1 0 ⟨by rw [AHeap.next_skip]; omega, by rw [Sig.put_same]⟩ (by rw [Sig.put_same])
      rw [Sig.put_same] at this
      exact this
    · have c0 := hc 0 (by omega)
      have hx0 : x.add 0 = x := by simp [Addr.add]
      rw [hx0] at c0
      obtain ⟨hsp, cs, el, fz, hh, _⟩ := row_of c0
      obtain ⟨b, off, spot⟩ := x
      simp only at hsp hh
      subst hsp
      have hbb : b < N0 := by rw [hN]; exact (Array.getElem?_eq_some_iff.1 hh).1
      have cellAt : ∀ i, i < zs.length → cs[off + i]? = some (.int .u8 (zs.getD i 0)) := by
        intro i hi
        have := hc i hi
        rw [add_mk, cell_of hh] at this
        exact this
      have hsz : off + zs.length ≤ cs.size := by
        have := cellAt (zs.length - 1) (by omega)
        have := (Array.getElem?_eq_some_iff.1 this).1
        omega
      obtain ⟨i1, i2⟩ := hI.addRo (base := off) hbb hh (zs.map (Value.int .u8)) none (by
        intro i v e
        rw [List.getElem?_map] at e
        cases hg : zs[i]? with
        | none => rw [hg] at e; cases e
        | some z =>
          rw [hg] at e
          simp only [Option.map_some, Option.some.injEq] at e
          subst e
          have hi : i < zs.length := (List.getElem?_eq_some_iff.1 hg).1
          refine ⟨_, cellAt i hi, ?_, rfl⟩
          rw [List.getD_eq_getElem?_getD, hg]
          exact .int .u8 z) (by simpa using hsz) (by intro es ext e; cases e)
      have lt : (zs.take len).length = len := by rw [List.length_take]; omega
      refine ⟨_, _, .slice (some ⟨h.next, 0, none⟩) len cap, zs.take len, ⟨i1, (Keep.refl _ _).new (Nat.le_refl _) _, i2⟩, ?_, .inl ⟨by simp, .inr ⟨h.next, 0, cap, true, 0, .vals (zs.map (Value.int .u8)), by rw [lt], by rw [lt]; exact hl, by simp, by rw [AHeap.get_new, if_pos rfl]; rfl, .inl rfl, by rw [lt]; simp [Cells.size]; omega, by rw [lt]; simp [Cells.toList, byV, List.map_take]⟩⟩, (fun y hy => hb y (List.mem_of_mem_take hy)), rfl⟩
      have := VR.sl (n := (h.new (.row true (grOf none) (.vals (zs.map (Value.int .u8))))).next) (σ := σ.put h.next ⟨b, off, none, true, none⟩) h.next 0 len cap ⟨by simp, by rw [Sig.put_same]⟩ (by rw [Sig.put_same])
      rw [Sig.put_same] at this
      exact this
theorem pE3_len (l : List PEnt) : (flatC pE3 l).length = l.length * 3 := flatC_len (fun _ _ => rfl)
/-- Patches are added, but for their own row. -/
theorem addPats (hN : N0 = w.heap.size) (a : Addr) : ∀ n, (∀ i, i < n → PatC w a i) → Inv N0 w0 σ h w →
    ∃ σ' h' l, Adds N0 w0 σ h w σ' h' ∧ l.length = n ∧ PLs h' l ∧ ∀ i u, (flatC pE3 l)[i]? = some u → ∃ v', w.cell? (a.add i) = some v' ∧ VR h'.next σ' u v' ∧ v'.oneCell' = true
  | 0, _, hI => ⟨σ, h, [], Adds.refl hI, rfl, (by intro i hi; simp at hi), (by intro i u e; simp [flatC] at e)⟩
  | n + 1, hp, hI => by
    obtain ⟨σ1, h1, l, A1, hl, hr, hc⟩ := addPats hN a n (fun i hi => hp i (by omega)) hI
    obtain ⟨at_, v, su, g0, g1, g2, hv⟩ := hp n (by omega)
    obtain ⟨σ2, h2, v2, B, A2, hv2, hb2, hby, ho⟩ := addBytes A1.inv hN hv
    refine ⟨σ2, h2, l ++ [(at_, v2, su)], addsT A1 A2, by simp [hl], ?_, ?_⟩
    · intro i hi
      by_cases hil : i < l.length
      · rw [List.getElem_append_left hil]
        obtain ⟨B', q1, q2⟩ := hr i hil
        exact ⟨B', q1.keep A2.keep (Nat.le_refl _), q2⟩
      · rw [List.getElem_append_right (by omega)]
        simp only [List.getElem_singleton]
        exact ⟨B, hb2, hby⟩
    · intro i u e
      rw [flatC_app] at e
      have hll := pE3_len l
      by_cases hi : i < (flatC pE3 l).length
      · rw [List.getElem?_append_left hi] at e
        obtain ⟨v', q1, q2, q3⟩ := hc i u e
        exact ⟨v', q1, A2.vr q2, q3⟩
      · rw [List.getElem?_append_right (by omega)] at e
        have h3 : i - (flatC pE3 l).length < 3 := by
          have := (List.getElem?_eq_some_iff.1 e).1
          simpa [flatC, pE3] using this
        have hi3 : i = n * 3 + (i - (flatC pE3 l).length) := by omega
        generalize i - (flatC pE3 l).length = j at e h3 hi3
        subst hi3
        have hj : j = 0 ∨ j = 1 ∨ j = 2 := by omega
        rcases hj with rfl | rfl | rfl <;> (simp [flatC, pE3] at e; subst e)
        · exact ⟨_, g0, .int _ _, rfl⟩
        · exact ⟨_, g1, hv2, ho⟩
        · exact ⟨_, g2, .bool _, rfl⟩
/-- A list of patches is added. -/
theorem addPatL (hI : Inv N0 w0 σ h w) (hN : N0 = w.heap.size) (a : Option Addr) (len cap : Nat) (hl : len ≤ cap) (hsp : ∀ x, a = some x → x.spot = none ∧ ∃ cs el fz, w.heap[x.block]? = some (.cells cs el fz)) (hn : a = none → len = 0 ∧ cap = 0)
    (hp : ∀ x, a = some x → ∀ i, i < cap → PatC w x i) :
    ∃ σ' h' a' l, Adds N0 w0 σ h w σ' h' ∧ l.length = len ∧ VR h'.next σ' (.slice a' len cap) (.slice a len cap) ∧ PLs h' l ∧ (l.length ≠ 0 → SlC pE3 3 h' (.slice a' len cap) l) := by
  cases a with
  | none =>
    obtain ⟨rfl, rfl⟩ := hn rfl
    exact ⟨σ, h, none, [], Adds.refl hI, rfl, .nils, (by intro i hi; simp at hi), fun e => absurd rfl e⟩
  | some x =>
    obtain ⟨hspot, cs, el, fz, hh⟩ := hsp x rfl
    obtain ⟨σ1, h1, l, A1, hll, hr, hc⟩ := addPats hN x len (fun i hi => hp x rfl i (by omega)) hI
    obtain ⟨b, off, spot⟩ := x
    simp only at hspot hh
    subst hspot
    have hb : b < N0 := by rw [hN]; exact (Array.getElem?_eq_some_iff.1 hh).1
    have hrl := pE3_len l
    by_cases hc0 : cap = 0
    · subst hc0
      have hl0 : len = 0 := by omega
      subst hl0
      obtain ⟨i1, i2⟩ := Inv.skip1 A1.inv ⟨b, 0, some (1, 0), true, none⟩
      have A2 : Adds N0 w0 σ1 h1 w (σ1.put h1.next ⟨b, 0, some (1, 0), true, none⟩) (h1.skip 1) := ⟨i1, (Keep.refl _ _).skip 1, i2⟩
      refine ⟨_, _, some ⟨h1.next, 0, none⟩, [], addsT A1 A2, rfl, ?_, (by intro i hi; simp at hi), fun e => absurd rfl e⟩
      have := VR.sle (sp := none) (n := (h1.skip 1).next) (σ := σ1.put h1.next ⟨b, 0, some (1, 0), true, none⟩) h1.next 0 off 1 0 ⟨by rw [AHeap.next_skip]; omega, by rw [Sig.put_same]⟩ (by rw [Sig.put_same])
      rw [Sig.put_same] at this
      exact this
    · have cellAt : ∀ i u, (flatC pE3 l)[i]? = some u → ∃ v', cs[off + i]? = some v' ∧ VR h1.next σ1 u v' ∧ v'.oneCell' = true := by
        intro i u e
        obtain ⟨v', q1, q2, q3⟩ := hc i u e
        rw [add_mk, cell_of hh] at q1
        exact ⟨v', q1, q2, q3⟩
      have hsz : off + (flatC pE3 l).length ≤ cs.size := by
        obtain ⟨_, _, _, _, _, q1, _⟩ := hp _ rfl (cap - 1) (by omega)
        rw [add_mk, cell_of hh] at q1
        have := (Array.getElem?_eq_some_iff.1 q1).1
        omega
      obtain ⟨i1, i2⟩ := A1.inv.addRo (base := off) hb hh (flatC pE3 l) none cellAt hsz (by intro es ext e; cases e)
      have A2 : Adds N0 w0 σ1 h1 w _ _ := ⟨i1, (Keep.refl _ _).new (Nat.le_refl _) _, i2⟩
      have hv : VR (h1.new (.row true (grOf none) (.vals (flatC pE3 l)))).next (σ1.put h1.next ⟨b, off, none, true, none⟩) (.slice (some ⟨h1.next, 0, none⟩) len cap) (.slice (some ⟨b, off, none⟩) len cap) := by
        have := VR.sl (n := (h1.new (.row true (grOf none) (.vals (flatC pE3 l)))).next) (σ := σ1.put h1.next ⟨b, off, none, true, none⟩) h1.next 0 len cap ⟨by simp, by rw [Sig.put_same]⟩ (by rw [Sig.put_same])
        rw [Sig.put_same] at this
        exact this
      refine ⟨_, _, some ⟨h1.next, 0, none⟩, l, addsT A1 A2, hll, hv, ?_, fun _ => ⟨pE3_len l, .inr ⟨h1.next, 0, cap, true, grOf none, _, by rw [hll], by rw [hll]; exact hl, by simp, by rw [AHeap.get_new, if_pos rfl], .inl rfl, ?_, ?_⟩⟩⟩
      · intro i hi
        obtain ⟨B, q1, q2⟩ := hr i hi
        exact ⟨B, q1.keep A2.keep (Nat.le_refl _), q2⟩
      · show 0 + _ ≤ (flatC pE3 l).length
        rw [hrl]; omega
      · show ((flatC pE3 l).drop 0).take _ = _
        rw [List.drop_zero, List.take_of_length_le (by rw [hrl]; omega)]
end
end
end Go.Proofs.Ytoehafeeoggpkaa.L24

