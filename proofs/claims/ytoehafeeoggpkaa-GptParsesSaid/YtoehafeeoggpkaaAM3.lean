import Derived.Test.YtoehafeeoggpkaaAM2
set_option linter.unusedVariables false
set_option linter.unusedSimpArgs false
/-! Part 3: loads and stores. -/
namespace Go.AM
noncomputable section
open Go.RowKit

theorem add_mk (b o i : Nat) : (⟨b, o, none⟩ : Addr).add i = ⟨b, o + i, none⟩ := by
  unfold Addr.add; split
  · rename_i h; subst h; rfl
  · rfl

theorem cell_of {w : World} {b : Nat} {cs : Array Value} {el : TypeId} {fz : Nat × Nat} (h : w.heap[b]? = some (.cells cs el fz)) (o : Nat) : w.cell? ⟨b, o, none⟩ = cs[o]? := by
  simp [World.cell?, h]

theorem frozen_of {w : World} {b : Nat} {cs : Array Value} {el : TypeId} {fz : Nat × Nat} (h : w.heap[b]? = some (.cells cs el fz)) {o : Nat} (hf : ¬ (fz.1 ≤ o ∧ o < fz.2)) : w.frozen? ⟨b, o, none⟩ = false := by
  simp only [World.frozen?, h]
  rw [Bool.eq_false_iff]
  intro hh
  apply hf
  simpa using hh

theorem setCell_of {w : World} {b : Nat} {cs : Array Value} {el : TypeId} {fz : Nat × Nat} (h : w.heap[b]? = some (.cells cs el fz)) (o : Nat) (v : Value) :
    w.setCell ⟨b, o, none⟩ v = { w with heap := w.heap.setIfInBounds b (.cells (cs.setIfInBounds o v) el fz) } := by
  unfold World.setCell
  congr 1
  apply Array.ext_getElem?
  intro i
  rw [Array.getElem?_modify, Array.getElem?_setIfInBounds]
  by_cases e : b = i
  · subst e
    obtain ⟨hlt, he⟩ := Array.getElem?_eq_some_iff.1 h
    simp [hlt, he]
  · simp [e]

theorem run_storeCells {P : Program} : ∀ (vs : List Value) (i b o : Nat) (w : World) (cs : Array Value) (el : TypeId) (fz : Nat × Nat), w.heap[b]? = some (.cells cs el fz) →
    (∀ j, o + i ≤ j → j < o + i + vs.length → ¬ (fz.1 ≤ j ∧ j < fz.2)) → o + i + vs.length ≤ cs.size → (∀ v ∈ vs, v.oneCell' = true) →
    ∃ cs' : Array Value, cs'.size = cs.size ∧ (∀ j, cs'[j]? = if o + i ≤ j ∧ j < o + i + vs.length then vs[j - (o + i)]? else cs[j]?) ∧
      (storeCells ⟨b, o, none⟩ vs i).run P w = .ok () { w with heap := w.heap.setIfInBounds b (.cells cs' el fz) }
  | [], i, b, o, w, cs, el, fz, h, hf, hl, hv => by
    refine ⟨cs, rfl, fun j => by rw [if_neg (by simp)], ?_⟩
    simp only [storeCells, Sem.run_pure]
    congr 1
    have : w.heap.setIfInBounds b (.cells cs el fz) = w.heap := by
      apply Array.ext_getElem?
      intro k
      rw [Array.getElem?_setIfInBounds]
      by_cases e : b = k
      · subst e; rw [if_pos rfl]; obtain ⟨hlt, he⟩ := Array.getElem?_eq_some_iff.1 h; simp [hlt, he]
      · rw [if_neg e]
    rw [this]
  | v :: r, i, b, o, w, cs, el, fz, h, hf, hl, hv => by
    simp only [List.length_cons] at hf hl
    have hlt : o + i < cs.size := by omega
    have hc : w.cell? ⟨b, o + i, none⟩ = some cs[o + i] := by rw [cell_of h]; simp [hlt]
    have hfz : w.frozen? ⟨b, o + i, none⟩ = false := frozen_of h (hf (o + i) (by omega) (by omega))
    have hblt := (Array.getElem?_eq_some_iff.1 h).1
    have h2 : (w.setCell ⟨b, o + i, none⟩ v).heap[b]? = some (.cells (cs.setIfInBounds (o + i) v) el fz) := by
      rw [setCell_of h]; simp [hblt]
    obtain ⟨cs', h3, h4, h5⟩ := run_storeCells (P := P) r (i + 1) b o _ _ el fz h2 (fun j h6 h7 => hf j (by omega) (by omega)) (by simp; omega) (fun x hx => hv x (by simp [hx]))
    refine ⟨cs', by rw [h3]; simp, fun j => ?_, ?_⟩
    · rw [h4 j]
      by_cases e : j = o + i
      · subst e
        rw [if_neg (by omega), if_pos (by simp)]
        simp [hlt]
      · have e' : o + i ≠ j := fun x => e x.symm
        by_cases e2 : o + (i + 1) ≤ j ∧ j < o + (i + 1) + r.length
        · rw [if_pos e2, if_pos (by simp; omega), show j - (o + i) = (j - (o + (i + 1))) + 1 by omega, List.getElem?_cons_succ]
        · rw [if_neg e2, if_neg (by simp; omega), Array.getElem?_setIfInBounds, if_neg e']
    · simp only [storeCells, Sem.run_bind, add_mk, run_store P w _ v .plain (hv v (by simp)), hc, hfz, Bool.false_eq_true, if_false, Result.andThen_ok, h5]
      congr 1
      rw [setCell_of h]
      simp [Array.setIfInBounds_setIfInBounds]

theorem run_storeCells0 {P : Program} (vs : List Value) (b o : Nat) (w : World) (cs : Array Value) (el : TypeId) (fz : Nat × Nat) (h : w.heap[b]? = some (.cells cs el fz))
    (hf : ∀ j, o ≤ j → j < o + vs.length → ¬ (fz.1 ≤ j ∧ j < fz.2)) (hl : o + vs.length ≤ cs.size) (hv : ∀ v ∈ vs, v.oneCell' = true) :
    ∃ cs' : Array Value, cs'.size = cs.size ∧ (∀ j, cs'[j]? = if o ≤ j ∧ j < o + vs.length then vs[j - o]? else cs[j]?) ∧
      (storeCells ⟨b, o, none⟩ vs).run P w = .ok () { w with heap := w.heap.setIfInBounds b (.cells cs' el fz) } := by
  have := run_storeCells (P := P) vs 0 b o w cs el fz h (by simpa using hf) (by simpa using hl) hv
  simpa using this

section
variable {N0 : Nat} {w0 : World} {σ : Sig} {h : AHeap} {w : World}

theorem Inv.cell (hI : Inv N0 w0 σ h w) {m : Nat} {ro : Bool} {gr : Nat} {c : Cells} (hm : h.get m = .row ro gr c) {o : Nat} {v : Value} (hv : c.get o = some v) :
    ∃ v', w.cell? ⟨(σ m).blk, (σ m).base + o, none⟩ = some v' ∧ VR h.next σ v v' := by
  have := hI.obj m
  rw [hm] at this
  obtain ⟨cs, el, fz, h1, h2, _⟩ := this
  obtain ⟨v', h3, h4, _⟩ := h2 o v hv
  exact ⟨v', by rw [cell_of h1]; exact h3, h4⟩

/-- The cells of a part, loaded. -/
theorem Inv.loadCells {P : Program} (hI : Inv N0 w0 σ h w) {m : Nat} {ro : Bool} {gr : Nat} {c : Cells} (hm : h.get m = .row ro gr c) {o n : Nat} (hn : o + n ≤ c.size) :
    ∃ l', (Go.loadCells ⟨(σ m).blk, (σ m).base + o, none⟩ n).run P w = .ok l'.toArray w ∧ VRL h.next σ (c.ext o n).toList l' := by
  have := hI.obj m
  rw [hm] at this
  obtain ⟨cs, el, fz, h1, h2, _⟩ := this
  have hc : ∀ j, j < n → ∃ v v', c.get (o + j) = some v ∧ cs[(σ m).base + (o + j)]? = some v' ∧ VR h.next σ v v' := fun j hj => by
    obtain ⟨v, hv⟩ := Cells.get_lt (c := c) (i := o + j) (by omega)
    obtain ⟨v', h3, h4, _⟩ := h2 _ v hv
    exact ⟨v, v', hv, h3, h4⟩
  refine ⟨(List.range n).map fun j => cs.getD ((σ m).base + (o + j)) undef, ?_, ?_⟩
  · rw [run_loadCells w _ n (fun j => cs.getD ((σ m).base + (o + j)) undef)]
    intro j hj
    obtain ⟨v, v', _, h3, _⟩ := hc j hj
    rw [add_mk, cell_of h1, Nat.add_assoc, h3]
    simp [h3]
  · refine ⟨by simp [Cells.length_toList, Cells.size_ext hn], fun i v v' e e' => ?_⟩
    rw [Cells.get_toList, Cells.get_ext hn] at e
    split at e
    · rename_i hi
      obtain ⟨x, x', h3, h4, h5⟩ := hc i hi
      rw [h3] at e; injection e with e; subst e
      rw [List.getElem?_map, List.getElem?_range hi] at e'
      simp only [Option.map_some, Option.some.injEq] at e'
      rw [← e', Array.getD_eq_getD_getElem?, h4]
      exact h5
    · cases e

/-- The cells of a part, as they stand in the world. -/
theorem Inv.cellsAt (hI : Inv N0 w0 σ h w) {m : Nat} {ro : Bool} {gr : Nat} {c : Cells} (hm : h.get m = .row ro gr c) {o n : Nat} (hn : o + n ≤ c.size) :
    ∃ l', VRL h.next σ (c.ext o n).toList l' ∧ (∀ j u, l'[j]? = some u → w.cell? ⟨(σ m).blk, (σ m).base + o + j, none⟩ = some u) ∧ (∀ v ∈ l', v.oneCell' = true) := by
  have := hI.obj m
  rw [hm] at this
  obtain ⟨cs, el, fz, h1, h2, _⟩ := this
  have hc : ∀ j, j < n → ∃ v v', c.get (o + j) = some v ∧ cs[(σ m).base + (o + j)]? = some v' ∧ VR h.next σ v v' ∧ v'.oneCell' = true := fun j hj => by
    obtain ⟨v, hv⟩ := Cells.get_lt (c := c) (i := o + j) (by omega)
    obtain ⟨v', h3, h4, h5⟩ := h2 _ v hv
    exact ⟨v, v', hv, h3, h4, h5⟩
  refine ⟨(List.range n).map fun j => cs.getD ((σ m).base + (o + j)) undef, ?_, ?_, ?_⟩
  · refine ⟨by simp [Cells.length_toList, Cells.size_ext hn], fun i v v' e e' => ?_⟩
    rw [Cells.get_toList, Cells.get_ext hn] at e
    split at e
    · rename_i hi
      obtain ⟨x, x', h3, h4, h5, _⟩ := hc i hi
      rw [h3] at e; injection e with e; subst e
      rw [List.getElem?_map, List.getElem?_range hi] at e'
      simp only [Option.map_some, Option.some.injEq] at e'
      rw [← e', Array.getD_eq_getD_getElem?, h4]
      exact h5
    · cases e
  · intro j u hj
    rw [List.getElem?_map] at hj
    by_cases hjn : j < n
    · rw [List.getElem?_range hjn] at hj
      obtain ⟨v, v', _, h4, _⟩ := hc j hjn
      simp only [Option.map_some, Option.some.injEq, Array.getD_eq_getD_getElem?, h4, Option.getD_some] at hj
      subst hj
      rw [cell_of h1, Nat.add_assoc]; exact h4
    · rw [List.getElem?_eq_none (by simp; omega)] at hj; cases hj
  · intro v hv
    obtain ⟨j, hj, rfl⟩ := List.mem_map.1 hv
    obtain ⟨x, x', _, h4, _, h5⟩ := hc j (List.mem_range.1 hj)
    rw [Array.getD_eq_getD_getElem?, h4]
    exact h5

/-- Cells are written into an own row. -/
theorem Inv.storeCells {P : Program} (hI : Inv N0 w0 σ h w) {m : Nat} {gr : Nat} {c : Cells} (hm : h.get m = .row false gr c) {o : Nat} {p : Cells} {vs : List Value} (hr : VRL h.next σ p.toList vs)
    (hn : o + p.size ≤ c.size) (hone : ∀ v ∈ vs, v.oneCell' = true) :
    ∃ w', (Go.storeCells ⟨(σ m).blk, (σ m).base + o, none⟩ vs).run P w = .ok () w' ∧ Inv N0 w0 σ (h.set m (.row false gr (c.blit o p))) w' ∧ Go' σ h w σ (h.set m (.row false gr (c.blit o p))) w' := by
  have hobj := hI.obj m
  rw [hm] at hobj
  obtain ⟨cs, el, fz, h1, h2, hb, h3, h4, h5⟩ := hobj
  have hlen : vs.length = p.size := by rw [← hr.1, Cells.length_toList]
  obtain ⟨cs', hs', hg', hrun⟩ := run_storeCells0 (P := P) vs (σ m).blk ((σ m).base + o) w cs el fz h1 (fun j _ hj => by have := h3 rfl; omega) (by omega) hone
  have hblt := (Array.getElem?_eq_some_iff.1 h1).1
  refine ⟨_, hrun, ?_⟩
  refine hI.write m _ (by rw [hm]; rfl) ?_ rfl rfl rfl rfl (by simp) (fun b hb => by rw [Array.getElem?_setIfInBounds, if_neg (fun e => hb e.symm)])
  refine ⟨cs', el, fz, by simp [hblt], ?_, ?_, ?_, h4, ?_⟩
  · intro i v hv
    rw [Cells.get_blit hn] at hv
    rw [hg']
    split at hv
    · rename_i hi
      rw [if_pos (by omega), show (σ m).base + i - ((σ m).base + o) = i - o by omega]
      obtain ⟨v', e, hv'⟩ := hr.get (i := i - o) (by rw [Cells.get_toList]; exact hv)
      exact ⟨v', e, hv', hone v' (List.mem_of_getElem? e)⟩
    · rename_i hi
      rw [if_neg (by omega)]
      exact h2 i v hv
  · rw [Cells.size_blit hn, hs']; exact hb
  · intro _; rw [hs']; exact h3 rfl
  · intro es ext hroom
    rw [Cells.size_blit hn, hs']
    exact h5 es ext hroom

/-- A new row. -/
theorem Inv.newRow (hI : Inv N0 w0 σ h w) (c : Cells) (l : List Value) (el : TypeId) (hr : VRL h.next σ c.toList l) (hone : ∀ v ∈ l, v.oneCell' = true) :
    ∃ σ', Inv N0 w0 σ' (h.new (.row false 0 c)) { w with heap := w.heap.push (.cells l.toArray el) } ∧ Go' σ h w σ' (h.new (.row false 0 c)) { w with heap := w.heap.push (.cells l.toArray el) } ∧
      σ' h.next = ⟨w.heap.size, 0, none, true, none⟩ := by
  refine ⟨_, (hI.new (.row false 0 c) (.cells l.toArray el) none rfl (lp := none) ?_).1, (hI.new (.row false 0 c) (.cells l.toArray el) none rfl (lp := none) ?_).2, Sig.put_same _ _ _⟩ <;>
  · refine ⟨l.toArray, el, (0, 0), by simp, ?_, ?_, ?_, rfl, by simp⟩
    · intro i v hv
      obtain ⟨v', e, hv'⟩ := hr.get (by rw [Cells.get_toList]; exact hv)
      exact ⟨v', by simpa using e, hv'.mono (by omega) (fun m hm => Sig.put_ne _ _ (by omega)), hone v' (List.mem_of_getElem? e)⟩
    · have := hr.1; rw [Cells.length_toList] at this; simp [this]
    · intro _; exact .inl rfl
end

end
end Go.AM
