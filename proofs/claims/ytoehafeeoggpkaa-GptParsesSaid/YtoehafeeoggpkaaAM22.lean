import Derived.Test.YtoehafeeoggpkaaAM21
set_option linter.unusedVariables false
set_option linter.unusedSimpArgs false
/-! Part 22: heaps with some objects aside. -/
namespace Go.AM
noncomputable section
open Go.RowKit

section
variable {N0 : Nat} {w0 : World} {σ σ' σ1 : Sig} {h h' h1 h2 hD hc : AHeap} {w w' w1 : World}

theorem AObj.live_of_own {o : AObj} (h : o.own = true) : o.live = true := by cases o <;> simp_all [AObj.own, AObj.live]
theorem AObj.dead_of {o : AObj} (h : o.live = false) : o = .dead := by cases o <;> simp_all [AObj.live]

theorem Inv.ext (hI : Inv N0 w0 σ h w) (hn : h2.next = h.next) (hg : ∀ m, h2.get m = h.get m) : Inv N0 w0 σ h2 w where
  below := hI.below
  fresh := fun m hm => by rw [hg]; exact hI.fresh m (by omega)
  obj := fun m => by rw [hg, hn]; exact hI.obj m
  low := fun m hm => hI.low m (by rw [← hg]; exact hm)
  high := fun m hm ho => hI.high m (by rw [← hg]; exact hm) (by rw [← hg]; exact ho)
  inj := fun m m' hm hm' hne => hI.inj m m' (by rw [← hg]; exact hm) (by rw [← hg]; exact hm') hne
  base := hI.base
theorem Go'.ext (g : Go' σ h w σ' h' w') (hn : h2.next = h'.next) (hg : ∀ m, h2.get m = h'.get m) : Go' σ h w σ' h2 w' where
  next := by rw [hn]; exact g.next
  sig := g.sig
  size := g.size
  frame := g.frame
  own := fun b ⟨m, hm, hb⟩ => g.own b ⟨m, by rw [← hg]; exact hm, hb⟩

theorem Inv.drop (hI : Inv N0 w0 σ hD w) (hn : hc.next = hD.next) (hg : ∀ m, hc.get m = hD.get m ∨ hc.get m = .dead) : Inv N0 w0 σ hc w where
  below := hI.below
  fresh := fun m hm => by
    rcases hg m with e | e
    · rw [e]; exact hI.fresh m (by omega)
    · exact e
  obj := fun m => by
    rcases hg m with e | e
    · rw [e, hn]; exact hI.obj m
    · rw [e]; trivial
  low := fun m hm => by
    rcases hg m with e | e
    · exact hI.low m (by rw [← e]; exact hm)
    · rw [e] at hm; cases hm
  high := fun m hm ho => by
    rcases hg m with e | e
    · exact hI.high m (by rw [← e]; exact hm) (by rw [← e]; exact ho)
    · rw [e] at hm; cases hm
  inj := fun m m' hm hm' hne => by
    rcases hg m with e | e
    · rcases hg m' with e' | e'
      · exact hI.inj m m' (by rw [← e]; exact hm) (by rw [← e']; exact hm') hne
      · rw [e'] at hm'; cases hm'
    · rw [e] at hm; cases hm
  base := hI.base

/-- Objects that were aside come back. -/
theorem Inv.addback (hI : Inv N0 w0 σ hD w) (hn : hc.next = hD.next) (hg : ∀ m, hc.get m = hD.get m ∨ hc.get m = .dead) (hI1 : Inv N0 w0 σ1 h1 w1) (g : Go' σ hc w σ1 h1 w1) (hn2 : h2.next = h1.next)
    (h2g : ∀ m, h2.get m = h1.get m ∨ (hc.get m = .dead ∧ h2.get m = hD.get m ∧ (hD.get m).own = true)) : Inv N0 w0 σ1 h2 w1 ∧ Go' σ hD w σ1 h2 w1 := by
  have sub : ∀ b, Owned σ hc b → Owned σ hD b := by
    rintro b ⟨m, hm, rfl⟩
    rcases hg m with e | e
    · exact ⟨m, by rw [← e]; exact hm, rfl⟩
    · rw [e] at hm; cases hm
  -- of one that was aside
  have lt : ∀ m, (hD.get m).own = true → m < hc.next := fun m hm => by rw [hn]; exact hI.lt_next (AObj.live_of_own hm)
  have sg : ∀ m, (hD.get m).own = true → σ1 m = σ m := fun m hm => g.sig m (lt m hm)
  have no : ∀ m, hc.get m = .dead → (hD.get m).own = true → ¬ Owned σ hc (σ m).blk := by
    rintro m hd ho ⟨m', hm', hb⟩
    have hne : m' ≠ m := fun e => by subst e; rw [hd] at hm'; cases hm'
    rcases hg m' with e | e
    · exact hI.inj m' m (by rw [← e]; exact hm') (AObj.live_of_own ho) hne hb
    · rw [e] at hm'; cases hm'
  have sz : ∀ m, (hD.get m).own = true → (σ m).blk < w.heap.size := fun m hm => hI.lt_size (AObj.live_of_own hm)
  have apart : ∀ m m', hc.get m = .dead → (hD.get m).own = true → (h1.get m').live = true → (σ1 m').blk ≠ (σ m).blk := by
    intro m m' hd ho hl e
    cases ho1 : (h1.get m').own with
    | true =>
      rcases g.own _ ⟨m', ho1, rfl⟩ with h3 | h3
      · rw [e] at h3; exact no m hd ho h3
      · have := sz m ho; omega
    | false =>
      have := hI1.high m' hl ho1
      have := hI.low m ho
      omega
  refine ⟨⟨hI1.below, ?_, ?_, ?_, ?_, ?_, hI1.base⟩, ?_⟩
  · intro m hm
    rcases h2g m with e | ⟨e1, e2, e3⟩
    · rw [e]; exact hI1.fresh m (by omega)
    · have := lt m e3; have := g.next; omega
  · intro m
    rcases h2g m with e | ⟨e1, e2, e3⟩
    · rw [e, hn2]; exact hI1.obj m
    · rw [e2, sg m e3]
      refine AObj.at_mono' (hI.obj m) (by rw [hn2, ← hn]; exact g.next) (fun j hj => g.sig j (by rw [hn]; exact hj.1)) (fun _ => rfl) (fun _ => g.frame _ (sz m e3) (no m e1 e3))
  · intro m hm
    rcases h2g m with e | ⟨e1, e2, e3⟩
    · exact hI1.low m (by rw [← e]; exact hm)
    · rw [sg m e3]; exact hI.low m e3
  · intro m hm ho
    rcases h2g m with e | ⟨e1, e2, e3⟩
    · exact hI1.high m (by rw [← e]; exact hm) (by rw [← e]; exact ho)
    · rw [e2, e3] at ho; cases ho
  · intro m m' hm hm' hne
    rcases h2g m with e | ⟨e1, e2, e3⟩
    · rcases h2g m' with e' | ⟨e1', e2', e3'⟩
      · exact hI1.inj m m' (by rw [← e]; exact hm) (by rw [← e']; exact hm') hne
      · rw [sg m' e3']; exact apart m' m e1' e3' (AObj.live_of_own (by rw [← e]; exact hm))
    · rcases h2g m' with e' | ⟨e1', e2', e3'⟩
      · rw [sg m e3]; exact (apart m m' e1 e3 (by rw [← e']; exact hm')).symm
      · rw [sg m e3, sg m' e3']; exact hI.inj m m' e3 (AObj.live_of_own e3') hne
  · refine ⟨by rw [hn2, ← hn]; exact g.next, fun m hm => g.sig m (by rw [hn]; exact hm), g.size, fun b hb hno => g.frame b hb (fun x => hno (sub b x)), ?_⟩
    rintro b ⟨m, hm, rfl⟩
    rcases h2g m with e | ⟨e1, e2, e3⟩
    · rcases g.own _ ⟨m, by rw [← e]; exact hm, rfl⟩ with h3 | h3
      · exact .inl (sub _ h3)
      · exact .inr h3
    · exact .inl ⟨m, e3, by rw [sg m e3]⟩

theorem AObj.at_narrow {n n' : Nat} {σ2 : Sig} {p p' : Pl} {o : AObj} (a : o.at n σ w p) (b : o.at n' σ' w' p') (hs : ∀ m, Okm n σ m → σ' m = σ m) (hs2 : ∀ m, Okm n σ m → σ2 m = σ m) : o.at n σ2 w' p' := by
  cases o with
  | dead => trivial
  | row ro gr c =>
    obtain ⟨cs, el, fz, _, a2, _⟩ := a
    obtain ⟨cs', el', fz', b1, b2, b3⟩ := b
    refine ⟨cs', el', fz', b1, fun i v e => ?_, b3⟩
    obtain ⟨v1, _, q1, _⟩ := a2 i v e
    obtain ⟨v2, r1, r2, r3⟩ := b2 i v e
    exact ⟨v2, r1, (VR.narrow hs q1 r2).mono' (Nat.le_refl _) hs2, r3⟩
  | map es cl =>
    obtain ⟨es1, _, a2⟩ := a
    obtain ⟨es2, b1, b2⟩ := b
    refine ⟨es2, b1, b2.1, fun i e e2 f1 f2 => ?_⟩
    have hi : i < es1.toList.length := by rw [← a2.1]; exact (List.getElem?_eq_some_iff.1 f1).1
    obtain ⟨q1, q2, _⟩ := a2.2 i e _ f1 (List.getElem?_eq_getElem hi)
    obtain ⟨r1, r2, r3⟩ := b2.2 i e e2 f1 f2
    exact ⟨(VR.narrow hs q1 r1).mono' (Nat.le_refl _) hs2, (VR.narrow hs q2 r2).mono' (Nat.le_refl _) hs2, r3⟩
  | loop st => exact b

/-- A new object is given a number that was kept for it. -/
theorem Inv.slot {slot : Nat} {o : AObj} (hI : Inv N0 w0 σ hD w) (hIn : Inv N0 w0 σ' (hD.new o) w') (g : Go' σ hD w σ' (hD.new o) w') (hslot : slot < hD.next) (hr : (σ slot).real = false) (hdead : hD.get slot = .dead)
    (named : ∀ ro gr c, o = .row ro gr c → ∀ i x, c.get i = some x → ∃ x', VR hD.next σ x x') (hmap : ∀ es cl, o = .map es cl → es = []) :
    Inv N0 w0 (σ'.put slot (σ' hD.next)) (hD.set slot o) w' ∧
      (∀ m, Okm hD.next σ m → σ'.put slot (σ' hD.next) m = σ m) ∧
      (∀ σ0 h0 w00, h0.next ≤ slot → Go' σ0 h0 w00 σ hD w → Go' σ0 h0 w00 (σ'.put slot (σ' hD.next)) (hD.set slot o) w') := by
  have hs : ∀ m, Okm hD.next σ m → σ' m = σ m := fun m hm => g.sig m hm.1
  have hne : ∀ m, Okm hD.next σ m → m ≠ slot := fun m hm e => by subst e; have := hm.2; rw [hr] at this; cases this
  have hs2 : ∀ m, Okm hD.next σ m → σ'.put slot (σ' hD.next) m = σ m := fun m hm => by rw [Sig.put_ne _ _ (hne m hm)]; exact hs m hm
  have getn : (hD.new o).get hD.next = o := by rw [AHeap.get_new, if_pos rfl]
  have geto : ∀ m, m ≠ hD.next → (hD.new o).get m = hD.get m := fun m hm => by rw [AHeap.get_new, if_neg hm]
  have lt : ∀ m, (hD.get m).live = true → m ≠ hD.next ∧ m ≠ slot := fun m hm => ⟨fun e => by have := hI.lt_next hm; omega, fun e => by subst e; rw [hdead] at hm; cases hm⟩
  refine ⟨⟨hIn.below, ?_, ?_, ?_, ?_, ?_, hIn.base⟩, hs2, ?_⟩
  · intro m hm
    rw [AHeap.next_set] at hm
    rw [AHeap.get_set, if_neg (by omega)]
    exact hI.fresh m hm
  · intro m
    rw [AHeap.get_set, AHeap.next_set]
    by_cases e : m = slot
    · subst e
      rw [if_pos rfl, Sig.put_same]
      have ho := hIn.obj hD.next
      rw [getn, AHeap.next_new] at ho
      cases o with
      | dead => trivial
      | row ro gr c =>
        obtain ⟨cs', el', fz', b1, b2, b3⟩ := ho
        refine ⟨cs', el', fz', b1, fun i v e => ?_, b3⟩
        obtain ⟨v1, q1⟩ := named ro gr c rfl i v e
        obtain ⟨v2, r1, r2, r3⟩ := b2 i v e
        exact ⟨v2, r1, (VR.narrow hs q1 r2).mono' (Nat.le_refl _) hs2, r3⟩
      | map es cl =>
        have := hmap es cl rfl; subst this
        obtain ⟨es2, b1, b2⟩ := ho
        exact ⟨es2, b1, b2.1, fun i e e2 f1 f2 => by simp at f1⟩
      | loop st => exact ho
    · rw [if_neg e, Sig.put_ne _ _ e]
      by_cases e2 : m = hD.next
      · subst e2; rw [hI.fresh _ (Nat.le_refl _)]; trivial
      · have ho := hIn.obj m
        rw [geto m e2] at ho
        exact AObj.at_narrow (hI.obj m) ho hs hs2
  · intro m hm
    rw [AHeap.get_set] at hm
    by_cases e : m = slot
    · subst e; rw [if_pos rfl] at hm; rw [Sig.put_same]; exact hIn.low _ (by rw [getn]; exact hm)
    · rw [if_neg e] at hm; rw [Sig.put_ne _ _ e]
      exact hIn.low m (by rw [geto m (lt m (AObj.live_of_own hm)).1]; exact hm)
  · intro m hm ho
    rw [AHeap.get_set] at hm ho
    by_cases e : m = slot
    · subst e; rw [if_pos rfl] at hm ho; rw [Sig.put_same]; exact hIn.high _ (by rw [getn]; exact hm) (by rw [getn]; exact ho)
    · rw [if_neg e] at hm ho; rw [Sig.put_ne _ _ e]
      have := (lt m hm).1
      exact hIn.high m (by rw [geto m this]; exact hm) (by rw [geto m this]; exact ho)
  · intro m m' hm hm' hmm
    rw [AHeap.get_set] at hm hm'
    by_cases e : m = slot
    · subst e
      rw [if_pos rfl] at hm
      rw [if_neg (fun x => hmm x.symm)] at hm'
      rw [Sig.put_same, Sig.put_ne _ _ (fun x => hmm x.symm)]
      have := (lt m' hm').1
      exact hIn.inj _ m' (by rw [getn]; exact hm) (by rw [geto m' this]; exact hm') (fun x => this x.symm)
    · rw [if_neg e] at hm
      rw [Sig.put_ne _ _ e]
      have h3 := (lt m (AObj.live_of_own hm)).1
      by_cases e' : m' = slot
      · subst e'
        rw [if_pos rfl] at hm'
        rw [Sig.put_same]
        exact hIn.inj m _ (by rw [geto m h3]; exact hm) (by rw [getn]; exact hm') h3
      · rw [if_neg e'] at hm'
        rw [Sig.put_ne _ _ e']
        have := (lt m' hm').1
        exact hIn.inj m m' (by rw [geto m h3]; exact hm) (by rw [geto m' this]; exact hm') hmm
  · intro σ0 h0 w00 hle g0
    have gg := g0.trans g
    refine ⟨g0.next, fun m hm => ?_, gg.size, gg.frame, ?_⟩
    · rw [Sig.put_ne _ _ (by omega)]; exact gg.sig m hm
    · rintro b ⟨m, hm, rfl⟩
      refine gg.own _ ?_
      rw [AHeap.get_set] at hm
      by_cases e : m = slot
      · subst e; rw [if_pos rfl] at hm; rw [Sig.put_same]; exact ⟨hD.next, by rw [getn]; exact hm, rfl⟩
      · rw [if_neg e] at hm; rw [Sig.put_ne _ _ e]; exact ⟨m, by rw [geto m (lt m (AObj.live_of_own hm)).1]; exact hm, rfl⟩

/-- A fresh value under its kept number. -/
theorem FSh.slot {sh : FSh} {n slot : Nat} {σ σ' : Sig} {v' : Value} (h : VR (n + 1) σ' (sh.val n) v') (hs : slot < n) : VR n (σ'.put slot (σ' n)) (sh.val slot) v' := by
  have ok : (σ' n).real = true → Okm n (σ'.put slot (σ' n)) slot := fun hr => ⟨hs, by rw [Sig.put_same]; exact hr⟩
  have e : σ'.put slot (σ' n) slot = σ' n := Sig.put_same _ _ _
  cases sh with
  | ptr =>
    cases h with
    | ptr _ _ hm => have := VR.ptr slot 0 (ok hm.2); rw [e] at this; exact this
  | sl l c =>
    cases h with
    | sl _ _ _ _ hm hr => have := VR.sl slot 0 l c (ok hm.2) (by rw [e]; exact hr); rw [e] at this; exact this
    | slg _ _ _ _ cap' es ext hm hr hl hc he => have := VR.slg slot 0 l c cap' es ext (ok hm.2) (by rw [e]; exact hr) hl hc he; rw [e] at this; exact this
    | @sle sp _ _ p es ext hm hr => have := VR.sle (sp := sp) slot 0 p es ext (ok hm.2) (by rw [e]; exact hr); rw [e] at this; exact this
  | map =>
    cases h with
    | map _ hm => have := VR.map slot (ok hm.2); rw [e] at this; exact this
theorem FSh.real {sh : FSh} {n : Nat} {σ' : Sig} {v' : Value} (h : VR (n + 1) σ' (sh.val n) v') : (σ' n).real = true := by
  cases sh with
  | ptr => cases h with | ptr _ _ hm => exact hm.2
  | sl l c =>
    cases h with
    | sl _ _ _ _ hm hr => exact hm.2
    | slg _ _ _ _ cap' es ext hm hr hl hc he => exact hm.2
    | sle _ _ p es ext hm hr => exact hm.2
  | map => cases h with | map _ hm => exact hm.2
end
end
end Go.AM
