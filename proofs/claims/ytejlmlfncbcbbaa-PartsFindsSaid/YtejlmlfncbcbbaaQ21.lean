import Derived.Test.YtejlmlfncbcbbaaP21
import Derived.Deep.SlicePairs
set_option linter.unusedVariables false
set_option linter.unusedSimpArgs false
set_option linter.unnecessarySimpa false
/-! PartsFinds: a list of paths as an argument. -/
namespace Go.Proofs.Ytejlmlfncbcbbaa.L21
open Go Go.AM Go.RowKit Go.ChangeShapes Go.WideShapes Go.Proofs.Ytejlmlfncbcbbaa.AMC
/-- Runs, in the machine's heap. -/
def RunsC (w : World) (v : Value) : Prop :=
  v = .slice none 0 0 ∨ ∃ (x : Addr) (len cap : Nat) (zs : List Int), v = .slice (some x) len cap ∧ len ≤ cap ∧ cap ≤ maxLen ∧ zs.length = 2 * cap ∧ ∀ j (hj : j < zs.length), w.cell? (x.add j) = some (.int .i64 zs[j])
theorem runs_of {H : Type} {enc : TypeId × Value → H} {P : Program} {w : World} {held : Bool} {t e : TypeId} {f0 f1 : Field} {fuel : Nat} {v : Value} {x : DataW H × List MemPlace} (ht : P.underlying t = some (.slice e)) (he : P.underlying e = some (.struct #[f0, f1]))
    (ce : P.cellsOf e = 2) (o0 : f0.offset = 0) (o1 : f1.offset = 1) (c0 : P.cellsOf f0.type = 1) (c1 : P.cellsOf f1.type = 1) (u0 : P.underlying f0.type = some (.int .i64)) (u1 : P.underlying f1.type = some (.int .i64))
    (h : DataW.trod enc P w 0 (fun _ => true) held fuel t [v] = some x) : RunsC w v := by
  rcases Go.Deep.open_slice_pairs ht he ce o0 o1 c0 c1 h with ⟨hcs, _⟩ | ⟨a, len, cap, m, n, V0, V1, D0, D1, P0, P1, hcs, _, hl, hm, hmm, _, hx⟩
  · left; simpa using hcs
  · right
    simp only [if_true] at hmm
    subst hmm
    have e0 : ∀ i, i < m → ∃ z : Int, V0 i = .int .i64 z := fun i hi => by
      obtain ⟨z, hz, _⟩ := DataW.trod_int u0 (hx i hi).2.2.1
      exact ⟨z, by simpa using hz⟩
    have e1 : ∀ i, i < m → ∃ z : Int, V1 i = .int .i64 z := fun i hi => by
      obtain ⟨z, hz, _⟩ := DataW.trod_int u1 (hx i hi).2.2.2
      exact ⟨z, by simpa using hz⟩
    obtain ⟨z0, h0⟩ := Go.Deep.choose_lt e0
    obtain ⟨z1, h1⟩ := Go.Deep.choose_lt e1
    refine ⟨a, len, m, (List.range (2 * m)).map fun j => if j % 2 = 0 then z0 (j / 2) else z1 (j / 2), by simpa using hcs, hl, hm, by simp, fun j hj => ?_⟩
    simp only [List.length_map, List.length_range] at hj
    simp only [List.getElem_map, List.getElem_range]
    have hx2 := hx (j / 2) (by omega)
    by_cases hp : j % 2 = 0
    · rw [if_pos hp, ← h0 _ (by omega), ← hx2.1]; congr 2; omega
    · rw [if_neg hp, ← h1 _ (by omega), ← hx2.2.1]; congr 2; omega
/-- A row of the machine, where a cell is read. -/
theorem row_of {w : World} {a : Addr} {v : Value} (h : w.cell? a = some v) : a.spot = none ∧ ∃ cs el fz, w.heap[a.block]? = some (.cells cs el fz) ∧ cs[a.off]? = some v := by
  unfold World.cell? at h
  split at h
  · rename_i c el fz hc
    split at h
    · cases h
    · rename_i hs; exact ⟨by simpa using hs, c, el, fz, hc, h⟩
  · cases h
section
variable {N0 : Nat} {w0 : World} {σ : Sig} {h : AHeap} {w : World}
theorem addsT {σ1 σ2 : Sig} {h1 h2 : AHeap} (a : Adds N0 w0 σ h w σ1 h1) (b : Adds N0 w0 σ1 h1 w σ2 h2) : Adds N0 w0 σ h w σ2 h2 :=
  ⟨b.inv, a.keep.trans (b.keep.less a.keep.next), fun m hm => by rw [b.sig m (Nat.lt_of_lt_of_le hm a.keep.next), a.sig m hm]⟩
/-- A number that is kept: nothing lies there. -/
theorem Inv.skip1 (hI : Inv N0 w0 σ h w) (p : Pl) : Inv N0 w0 (σ.put h.next p) (h.skip 1) w ∧ ∀ m, m < h.next → σ.put h.next p m = σ m := by
  have hs : ∀ m, m < h.next → σ.put h.next p m = σ m := fun m hm => Sig.put_ne _ _ (by omega)
  have hd : ∀ m, h.next ≤ m → h.get m = .dead := hI.fresh
  have dl : (AObj.dead).live = false := rfl
  have dow : (AObj.dead).own = false := rfl
  refine ⟨⟨hI.below, ?_, ?_, ?_, ?_, ?_, hI.base⟩, hs⟩
  · intro m hm
    rw [AHeap.next_skip] at hm
    rw [AHeap.get_skip]; exact hd m (by omega)
  · intro m
    rw [AHeap.next_skip, AHeap.get_skip]
    by_cases e : m = h.next
    · rw [hd m (by omega)]; trivial
    · rw [Sig.put_ne _ _ e]
      exact AObj.at_mono (hI.obj m) (by omega) hs rfl (fun _ => rfl)
  · intro m hm
    rw [AHeap.get_skip] at hm
    by_cases e : m = h.next
    · rw [hd m (by omega)] at hm; cases hm
    · rw [Sig.put_ne _ _ e]; exact hI.low m hm
  · intro m hm hm2
    rw [AHeap.get_skip] at hm hm2
    by_cases e : m = h.next
    · rw [hd m (by omega)] at hm; cases hm
    · rw [Sig.put_ne _ _ e]; exact hI.high m hm hm2
  · intro m m' hm hm' hne
    rw [AHeap.get_skip] at hm hm'
    by_cases e : m = h.next
    · rw [hd m (by omega)] at hm; cases hm
    · by_cases e' : m' = h.next
      · rw [hd m' (by omega)] at hm'; cases hm'
      · rw [Sig.put_ne _ _ e, Sig.put_ne _ _ e']; exact hI.inj m m' hm hm' hne
/-- Runs are added. -/
theorem addRuns (hI : Inv N0 w0 σ h w) (hN : N0 = w.heap.size) {v : Value} (hv : RunsC w v) :
    ∃ σ' h' a' len cap, Adds N0 w0 σ h w σ' h' ∧ VR h'.next σ' (.slice a' len cap) v ∧ RunsOk h' a' len ∧ v.oneCell' = true := by
  rcases hv with rfl | ⟨x, len, cap, zs, rfl, hl, hm, hz, hc⟩
  · exact ⟨σ, h, none, 0, 0, Adds.refl hI, .nils, .inl rfl, rfl⟩
  · by_cases h0 : cap = 0
    · subst h0
      have : len = 0 := by omega
      subst this
      obtain ⟨i1, i2⟩ := Inv.skip1 hI ⟨x.block, 0, some (1, 0), true, none⟩
      refine ⟨_, _, some ⟨h.next, 0, none⟩, 0, 0, ⟨i1, (Keep.refl _ _).skip 1, i2⟩, ?_, .inl rfl, rfl⟩
      have := VR.sle (sp := x.spot) (n := (h.skip 1).next) (σ := σ.put h.next ⟨x.block, 0, some (1, 0), true, none⟩) h.next 0 x.off 1 0 ⟨by rw [AHeap.next_skip]; omega, by rw [Sig.put_same]⟩ (by rw [Sig.put_same])
      rw [Sig.put_same] at this
      exact this
    · have c0 := hc 0 (by omega)
      have hx0 : x.add 0 = x := by simp [Addr.add]
      rw [hx0] at c0
      obtain ⟨hsp, cs, el, fz, hh, _⟩ := row_of c0
      obtain ⟨b, off, spot⟩ := x
      simp only at hsp hh
      subst hsp
      have hb : b < N0 := by rw [hN]; exact (Array.getElem?_eq_some_iff.1 hh).1
      have cellAt : ∀ i (hi : i < zs.length), cs[off + i]? = some (.int .i64 zs[i]) := by
        intro i hi
        have := hc i hi
        rw [add_mk, cell_of hh] at this
        exact this
      have hsz : off + zs.length ≤ cs.size := by
        have := cellAt (zs.length - 1) (by omega)
        have := (Array.getElem?_eq_some_iff.1 this).1
        omega
      obtain ⟨i1, i2⟩ := hI.addRo (base := off) hb hh (zs.map (Value.int .i64)) none (by
        intro i v e
        rw [List.getElem?_map] at e
        cases hg : zs[i]? with
        | none => rw [hg] at e; cases e
        | some z =>
          rw [hg] at e
          simp only [Option.map_some, Option.some.injEq] at e
          subst e
          obtain ⟨hi, hz'⟩ := List.getElem?_eq_some_iff.1 hg
          refine ⟨_, cellAt i hi, ?_, rfl⟩
          rw [hz']
          exact .int .i64 z) (by simpa using hsz) (by intro es ext e; cases e)
      refine ⟨_, _, some ⟨h.next, 0, none⟩, len, cap, ⟨i1, (Keep.refl _ _).new (Nat.le_refl _) _, i2⟩, ?_, ?_, rfl⟩
      · have := VR.sl (n := (h.new (.row true (grOf none) (.vals (zs.map (Value.int .i64))))).next) (σ := σ.put h.next ⟨b, off, none, true, none⟩) h.next 0 len cap ⟨by simp, by rw [Sig.put_same]⟩ (by rw [Sig.put_same])
        rw [Sig.put_same] at this
        exact this
      · by_cases hl0 : len = 0
        · exact .inl hl0
        · have hml : maxLen < 9223372036854775808 := by decide
          exact .inr ⟨h.next, true, grOf none, zs, rfl, by simp, by omega, by omega, by rw [AHeap.get_new, if_pos rfl]⟩
theorem rowP_app : ∀ l m : List PathA, rowP (l ++ m) = rowP l ++ rowP m
  | [], m => rfl
  | p :: l, m => by simp only [List.cons_append, rowP, rowP_app l m, List.append_assoc]
/-- A path, in the machine's heap. -/
def PathC (w : World) (a : Addr) (i : Nat) : Prop := ∃ (s : ByteArray) (k z : Int) (v : Value), w.cell? (a.add (i * 4)) = some (.string s) ∧ w.cell? (a.add (i * 4 + 1)) = some (.int .i64 k) ∧ w.cell? (a.add (i * 4 + 2)) = some (.int .i64 z) ∧ w.cell? (a.add (i * 4 + 3)) = some v ∧ RunsC w v
/-- Paths are added, but for their own row. -/
theorem addPaths (hN : N0 = w.heap.size) (a : Addr) : ∀ n, (∀ i, i < n → PathC w a i) → Inv N0 w0 σ h w →
    ∃ σ' h' l, Adds N0 w0 σ h w σ' h' ∧ l.length = n ∧ (∀ p ∈ l, RunsOk h' p.a p.n) ∧ ∀ i u, (rowP l)[i]? = some u → ∃ v', w.cell? (a.add i) = some v' ∧ VR h'.next σ' u v' ∧ v'.oneCell' = true
  | 0, _, hI => ⟨σ, h, [], Adds.refl hI, rfl, (by intro p hp; cases hp), (by intro i u e; simp [rowP] at e)⟩
  | n + 1, hp, hI => by
    obtain ⟨σ1, h1, l, A1, hl, hr, hc⟩ := addPaths hN a n (fun i hi => hp i (by omega)) hI
    obtain ⟨s, k, z, v, g0, g1, g2, g3, hv⟩ := hp n (by omega)
    obtain ⟨σ2, h2, a', len, cap, A2, hv2, hr2, ho⟩ := addRuns A1.inv hN hv
    refine ⟨σ2, h2, l ++ [⟨s, k, z, a', len, cap⟩], addsT A1 A2, by simp [hl], ?_, ?_⟩
    · intro p hp
      rcases List.mem_append.1 hp with hp | hp
      · exact (hr p hp).keep A2.keep (Nat.le_refl _)
      · simp only [List.mem_singleton] at hp; subst hp; exact hr2
    · intro i u e
      rw [rowP_app] at e
      have hll := rowP_len l
      by_cases hi : i < (rowP l).length
      · rw [List.getElem?_append_left hi] at e
        obtain ⟨v', q1, q2, q3⟩ := hc i u e
        exact ⟨v', q1, A2.vr q2, q3⟩
      · rw [List.getElem?_append_right (by omega)] at e
        have h4 : i - (rowP l).length < 4 := by
          have := (List.getElem?_eq_some_iff.1 e).1
          simpa [rowP, PathA.cells] using this
        have hi4 : i = n * 4 + (i - (rowP l).length) := by omega
        generalize i - (rowP l).length = j at e h4 hi4
        subst hi4
        have hj : j = 0 ∨ j = 1 ∨ j = 2 ∨ j = 3 := by omega
        rcases hj with rfl | rfl | rfl | rfl <;> (simp [rowP, PathA.cells] at e; subst e)
        · exact ⟨_, g0, .str _, rfl⟩
        · exact ⟨_, g1, .int _ _, rfl⟩
        · exact ⟨_, g2, .int _ _, rfl⟩
        · exact ⟨_, g3, hv2, ho⟩
/-- A list of paths is added. -/
theorem addPathL (hI : Inv N0 w0 σ h w) (hN : N0 = w.heap.size) (a : Option Addr) (len cap : Nat) (hl : len ≤ cap) (hsp : ∀ x, a = some x → x.spot = none ∧ ∃ cs el fz, w.heap[x.block]? = some (.cells cs el fz)) (hn : a = none → len = 0 ∧ cap = 0)
    (hp : ∀ x, a = some x → ∀ i, i < cap → PathC w x i) :
    ∃ σ' h' a' l, Adds N0 w0 σ h w σ' h' ∧ l.length = len ∧ VR h'.next σ' (.slice a' len cap) (.slice a len cap) ∧ RunsAll h' l ∧ (l.length = 0 ∨ ∃ m, a' = some ⟨m, 0, none⟩ ∧ m < h'.next ∧ ∃ ro gr, h'.get m = .row ro gr (.vals (rowP l))) := by
  cases a with
  | none =>
    obtain ⟨rfl, rfl⟩ := hn rfl
    exact ⟨σ, h, none, [], Adds.refl hI, rfl, .nils, (by intro p hp; cases hp), .inl rfl⟩
  | some x =>
    obtain ⟨hspot, cs, el, fz, hh⟩ := hsp x rfl
    obtain ⟨σ1, h1, l, A1, hll, hr, hc⟩ := addPaths hN x len (fun i hi => hp x rfl i (by omega)) hI
    obtain ⟨b, off, spot⟩ := x
    simp only at hspot hh
    subst hspot
    have hb : b < N0 := by rw [hN]; exact (Array.getElem?_eq_some_iff.1 hh).1
    have hrl := rowP_len l
    by_cases hc0 : cap = 0
    · subst hc0
      have hl0 : len = 0 := by omega
      subst hl0
      obtain ⟨i1, i2⟩ := Inv.skip1 A1.inv ⟨b, 0, some (1, 0), true, none⟩
      have A2 : Adds N0 w0 σ1 h1 w (σ1.put h1.next ⟨b, 0, some (1, 0), true, none⟩) (h1.skip 1) := ⟨i1, (Keep.refl _ _).skip 1, i2⟩
      refine ⟨_, _, some ⟨h1.next, 0, none⟩, [], addsT A1 A2, rfl, ?_, (by intro p hp; cases hp), .inl rfl⟩
      have := VR.sle (sp := none) (n := (h1.skip 1).next) (σ := σ1.put h1.next ⟨b, 0, some (1, 0), true, none⟩) h1.next 0 off 1 0 ⟨by rw [AHeap.next_skip]; omega, by rw [Sig.put_same]⟩ (by rw [Sig.put_same])
      rw [Sig.put_same] at this
      exact this
    · have cellAt : ∀ i u, (rowP l)[i]? = some u → ∃ v', cs[off + i]? = some v' ∧ VR h1.next σ1 u v' ∧ v'.oneCell' = true := by
        intro i u e
        obtain ⟨v', q1, q2, q3⟩ := hc i u e
        rw [add_mk, cell_of hh] at q1
        exact ⟨v', q1, q2, q3⟩
      have hsz : off + (rowP l).length ≤ cs.size := by
        obtain ⟨_, _, _, v', _, _, _, q1, _⟩ := hp _ rfl (cap - 1) (by omega)
        rw [add_mk, cell_of hh] at q1
        have := (Array.getElem?_eq_some_iff.1 q1).1
        omega
      obtain ⟨i1, i2⟩ := A1.inv.addRo (base := off) hb hh (rowP l) none cellAt hsz (by intro es ext e; cases e)
      have A2 : Adds N0 w0 σ1 h1 w _ _ := ⟨i1, (Keep.refl _ _).new (Nat.le_refl _) _, i2⟩
      have hv : VR (h1.new (.row true (grOf none) (.vals (rowP l)))).next (σ1.put h1.next ⟨b, off, none, true, none⟩) (.slice (some ⟨h1.next, 0, none⟩) len cap) (.slice (some ⟨b, off, none⟩) len cap) := by
        have := VR.sl (n := (h1.new (.row true (grOf none) (.vals (rowP l)))).next) (σ := σ1.put h1.next ⟨b, off, none, true, none⟩) h1.next 0 len cap ⟨by simp, by rw [Sig.put_same]⟩ (by rw [Sig.put_same])
        rw [Sig.put_same] at this
        exact this
      exact ⟨_, _, some ⟨h1.next, 0, none⟩, l, addsT A1 A2, hll, hv, fun p hp => (hr p hp).keep A2.keep (Nat.le_refl _), .inr ⟨h1.next, rfl, by simp, true, grOf none, by rw [AHeap.get_new, if_pos rfl]⟩⟩
end
end Go.Proofs.Ytejlmlfncbcbbaa.L21
