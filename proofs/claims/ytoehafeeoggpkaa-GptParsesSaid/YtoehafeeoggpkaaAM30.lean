import Derived.Test.YtoehafeeoggpkaaAM29
import Derived.WideShapes
set_option linter.unusedVariables false
set_option linter.unusedSimpArgs false
/-! Part 30: arguments. -/
namespace Go.AM
noncomputable section
open Go.RowKit

section
variable {N0 : Nat} {w0 : World} {σ : Sig} {h : AHeap} {w : World}
/-- A row that came in: read, never written. -/
theorem Inv.addRo (hI : Inv N0 w0 σ h w) {b base : Nat} {cs : Array Value} {el : TypeId} {fz : Nat × Nat} (hb : b < N0) (hc : w.heap[b]? = some (.cells cs el fz)) (l : List Value) (room : Option (Nat × Nat))
    (hv : ∀ i v, l[i]? = some v → ∃ v', cs[base + i]? = some v' ∧ VR h.next σ v v' ∧ v'.oneCell' = true) (hsz : base + l.length ≤ cs.size) (hroom : ∀ es ext, room = some (es, ext) → 0 < es ∧ l.length ≤ ext ∧ base + ext ≤ cs.size) :
    Inv N0 w0 (σ.put h.next ⟨b, base, room, true, none⟩) (h.new (.row true (grOf room) (.vals l))) w ∧ ∀ m, m < h.next → σ.put h.next ⟨b, base, room, true, none⟩ m = σ m := by
  have hs : ∀ m, m < h.next → σ.put h.next ⟨b, base, room, true, none⟩ m = σ m := fun m hm => Sig.put_ne _ _ (by omega)
  refine ⟨⟨hI.below, ?_, ?_, ?_, ?_, ?_, hI.base⟩, hs⟩
  · intro m hm
    rw [AHeap.next_new] at hm
    rw [AHeap.get_new, if_neg (by omega)]
    exact hI.fresh m (by omega)
  · intro m
    rw [AHeap.next_new, AHeap.get_new]
    by_cases e : m = h.next
    · rw [if_pos e]; subst e; rw [Sig.put_same]
      refine ⟨cs, el, fz, hc, fun i v e => ?_, hsz, (fun e => by cases e), rfl, hroom⟩
      obtain ⟨v', h1, h2, h3⟩ := hv i v e
      exact ⟨v', h1, h2.mono' (by omega) (fun j hj => hs j hj.1), h3⟩
    · rw [if_neg e, Sig.put_ne _ _ e]
      exact AObj.at_mono (hI.obj m) (by omega) hs rfl (fun _ => rfl)
  · intro m hm
    rw [AHeap.get_new] at hm
    by_cases e : m = h.next
    · rw [if_pos e] at hm; cases hm
    · rw [if_neg e] at hm; rw [Sig.put_ne _ _ e]; exact hI.low m hm
  · intro m hm hm2
    rw [AHeap.get_new] at hm hm2
    by_cases e : m = h.next
    · subst e; rw [Sig.put_same]; exact hb
    · rw [if_neg e] at hm hm2; rw [Sig.put_ne _ _ e]; exact hI.high m hm hm2
  · intro m m' hm hm' hne
    rw [AHeap.get_new] at hm hm'
    by_cases e : m = h.next
    · rw [if_pos e] at hm; cases hm
    · rw [if_neg e] at hm
      rw [Sig.put_ne _ _ e]
      by_cases e' : m' = h.next
      · subst e'; rw [Sig.put_same]; have := hI.low m hm; simp; omega
      · rw [if_neg e'] at hm'; rw [Sig.put_ne _ _ e']; exact hI.inj m m' hm hm' hne

/-- What is added to a heap of arguments. -/
structure Adds (N0 : Nat) (w0 : World) (σ : Sig) (h : AHeap) (w : World) (σ' : Sig) (h' : AHeap) : Prop where
  inv : Inv N0 w0 σ' h' w
  keep : Keep h.next h h'
  sig : ∀ m, m < h.next → σ' m = σ m
theorem Adds.refl (hI : Inv N0 w0 σ h w) : Adds N0 w0 σ h w σ h := ⟨hI, Keep.refl _ _, fun _ _ => rfl⟩
theorem Adds.vr {σ' : Sig} {h' : AHeap} (a : Adds N0 w0 σ h w σ' h') {v v' : Value} (x : VR h.next σ v v') : VR h'.next σ' v v' := x.mono a.keep.next a.sig

/-- A slice of numbers that came in. -/
theorem Inv.addInts (hI : Inv N0 w0 σ h w) {k : IntKind} {P : Program} {r : Reach} {base : Nat} {e : TypeId} (hN : N0 = w.heap.size) (a : Option Addr) (len cap : Nat) (zs : List Int)
    (hz : (a = none ∧ len = 0 ∧ cap = 0 ∧ zs = []) ∨ ∃ x, a = some x ∧ len ≤ cap ∧ cap ≤ maxLen ∧ zs.length = cap ∧ (∀ i, i < zs.length → w.cell? (x.add i) = some (.int k (zs.getD i 0))) ∧ ∀ n ∈ zs, (Lit.int k n).wf = true)
    (hok : ∀ x, a = some x → World.has P w r base x e cap) :
    ∃ σ' h' a', Adds N0 w0 σ h w σ' h' ∧ VR h'.next σ' (.slice a' len cap) (.slice a len cap) ∧ (0 < len → ∃ m off, a' = some ⟨m, off, none⟩ ∧ m < h'.next ∧ RowI h' k m off (zs.take len)) ∧ (zs.take len).length = len := by
  rcases hz with ⟨rfl, rfl, rfl, rfl⟩ | ⟨x, rfl, hl, hm, hzl, hcell, hwf⟩
  · exact ⟨σ, h, none, Adds.refl hI, .nils, fun h => by omega, rfl⟩
  · obtain ⟨_, hspot, row, cells, hshape, _⟩ := hok x rfl
    obtain ⟨b, off, spot⟩ := x
    simp only at hspot
    subst hspot
    have hcells : ∃ cs el fz, w.heap[b]? = some (.cells cs el fz) := by
      unfold World.shape? at hshape
      split at hshape
      · rename_i cs el fz hh
        exact ⟨cs, el, _, by assumption⟩
      · cases hshape
    obtain ⟨cs, el, fz, hc⟩ := hcells
    have hb : b < N0 := by rw [hN]; exact (Array.getElem?_eq_some_iff.1 hc).1
    by_cases hcap : cap = 0
    · subst hcap
      have hlen : len = 0 := by omega
      subst hlen
      obtain ⟨i1, i2⟩ := hI.addRo (base := 0) hb hc [] (some (1, 0)) (by intro i v e; simp at e) (by simp) (by intro es ext e; injection e with e; simp only [Prod.mk.injEq] at e; obtain ⟨rfl, rfl⟩ := e; simp)
      refine ⟨_, _, some ⟨h.next, 0, none⟩, ⟨i1, (Keep.refl _ _).new (Nat.le_refl _) _, i2⟩, ?_, fun h => by omega, by simp⟩
      have := VR.sle (sp := none) (n := (h.new (.row true (grOf (some (1, 0))) (.vals []))).next) (σ := σ.put h.next ⟨b, 0, some (1, 0), true, none⟩) h.next 0 off 1 0 ⟨by simp, by rw [Sig.put_same]⟩ (by rw [Sig.put_same])
      rw [Sig.put_same] at this
      exact this
    · have cellAt : ∀ i, i < zs.length → cs[off + i]? = some (.int k (zs.getD i 0)) := by
        intro i hi
        have := hcell i hi
        rw [add_mk, cell_of hc] at this
        exact this
      have hsz : off + zs.length ≤ cs.size := by
        have := cellAt (zs.length - 1) (by omega)
        have := (Array.getElem?_eq_some_iff.1 this).1
        omega
      obtain ⟨i1, i2⟩ := hI.addRo (base := off) hb hc (zs.map (Value.int k)) none (by
        intro i v e
        rw [List.getElem?_map] at e
        cases hg : zs[i]? with
        | none => rw [hg] at e; cases e
        | some z =>
          rw [hg] at e
          simp only [Option.map_some, Option.some.injEq] at e
          subst e
          have hi : i < zs.length := (List.getElem?_eq_some_iff.1 hg).1
          refine ⟨_, cellAt i hi, ?_, rfl⟩
          rw [List.getD_eq_getElem?_getD, hg]
          exact .int k z) (by simpa using hsz) (by intro es ext e; cases e)
      refine ⟨_, _, some ⟨h.next, 0, none⟩, ⟨i1, (Keep.refl _ _).new (Nat.le_refl _) _, i2⟩, ?_, fun h0 => ⟨h.next, 0, rfl, by simp, true, 0, .vals (zs.map (Value.int k)), ?_, ?_⟩, by simp; omega⟩
      · have := VR.sl (n := (h.new (.row true (grOf none) (.vals (zs.map (Value.int k))))).next) (σ := σ.put h.next ⟨b, off, none, true, none⟩) h.next 0 len cap ⟨by simp, by rw [Sig.put_same]⟩ (by rw [Sig.put_same])
        rw [Sig.put_same] at this
        exact this
      · rw [AHeap.get_new, if_pos rfl]; rfl
      · intro i hi
        simp only [List.length_take] at hi
        simp only [Cells.get, Nat.zero_add, List.getElem?_map]
        rw [List.getElem?_eq_getElem (by omega)]
        simp
end

theorem Wf.empty : Wf AHeap.empty := fun m _ => AHeap.get_empty m

/-- A run over a table with functions that are known beside: what it says of a call. -/
theorem go_calls {P : Program} {tab : FuncId → Option AEntry} (hm : P.follows .mixedOrders = true) (ht : TabSound P tab) {L D : Nat} {f : FuncId} {args cargs : List Value} {h h' : AHeap} {r : Value} {σ : Sig} {w : World}
    (hr : (⟨tab, L, D, noRound⟩ : Env).go f args h = some (r, h')) (hI : Inv w.heap.size w σ h w) (hv : VRL h.next σ args cargs) (hb : ∃ b, r = .bool b) :
    Calls P f cargs.toArray w fun e w' => e = .returned r ∧ Below w.heap.size w w' := by
  have hs := ((callFR_sound (pk := true) ht (fun call hcs N => draw_sound hm hcs N) L D) noRound f args h r h' hr).2
  refine (hs w.heap.size w σ w cargs RoundOk.no hI hv).mono ?_
  rintro e w' ⟨σ', cr, rfl, h1, h2, _⟩
  obtain ⟨b, rfl⟩ := hb
  cases h1
  exact ⟨rfl, h2.below⟩

/-- A function that is known to answer true, and to leave what there was. -/
def primTrue : List Value → AHeap → Option (Value × AHeap)
  | [], h => some (.bool true, h)
  | _, _ => none
theorem primTrue_runs {P : Program} {f : FuncId} (hc : ∀ w, Calls P f #[] w fun e w' => e = .returned (.bool true) ∧ Below w.heap.size w w') :
    ∀ args h r h', primTrue args h = some (r, h') → Runs P f args h r h' := by
  intro args h r h' hp
  unfold primTrue at hp
  split at hp
  · rename_i h
    simp only [Option.some.injEq, Prod.mk.injEq] at hp
    obtain ⟨rfl, rfl⟩ := hp
    intro N0 w0 σ w cargs hI hv
    have := hv.nil_inv
    subst this
    refine (hc w).mono ?_
    rintro e w' ⟨rfl, hb⟩
    refine ⟨σ, _, rfl, .bool _, hI.world (hb.mono hI.base) (fun m hl => hb.block _ (hI.lt_size hl)), ⟨Nat.le_refl _, fun _ _ => rfl, hb.size, fun b hlt _ => hb.block b hlt, fun b ho => .inl ho⟩⟩
  · cases hp
theorem tab_prim {P : Program} {t : Tr AEntry} {f : FuncId} {g : List Value → AHeap → Option (Value × AHeap)} (ht : TabSound P (fun f => t.get f)) (hok : callOk P f = true) (hg : ∀ args h r h', g args h = some (r, h') → Runs P f args h r h') :
    TabSound P (fun x => (t.set f (.prim g)).get x) := by
  intro x e hx
  simp only [Tr.get_set] at hx
  split at hx
  · rename_i e1
    injection hx with hx; subst hx; subst e1
    exact ⟨hok, hg⟩
  · exact ht x e hx
end
end Go.AM
