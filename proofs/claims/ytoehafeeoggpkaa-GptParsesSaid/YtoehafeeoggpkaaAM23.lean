import Derived.Test.YtoehafeeoggpkaaAM22
set_option linter.unusedVariables false
set_option linter.unusedSimpArgs false
/-! Part 23: every order of a region that draws answers as the text's. -/
namespace Go.AM
noncomputable section
open Go.RowKit

theorem fresh_own {pk : Bool} {ao : AOp} {ρ : Operand → Value} {n0 : Nat} {h' : AHeap} {v : Value} (hc : clsOf (.plain ao) = .fresh) (ha : aop pk ao ρ ⟨n0, .leaf⟩ = some (v, h')) : (h'.get n0).own = true := by
  have key : ∀ o : AObj, o.own = true → (((⟨n0, .leaf⟩ : AHeap).new o).get n0).own = true := fun o ho => by rw [get_new_self]; exact ho
  cases ao <;> simp only [clsOf, reduceCtorEq] at hc
  case alloc zs =>
    simp only [aop, aNew] at ha
    split at ha
    · injection ha with ha; simp only [Prod.mk.injEq] at ha; obtain ⟨rfl, rfl⟩ := ha; exact key _ rfl
    · cases ha
  case box y =>
    simp only [aop, aNew] at ha
    split at ha
    · injection ha with ha; simp only [Prod.mk.injEq] at ha; obtain ⟨rfl, rfl⟩ := ha; exact key _ rfl
    · cases ha
  case buildSlice k n ps =>
    simp only [aop, aBuildSlice] at ha
    split at ha
    · split at ha
      · split at ha
        · injection ha with ha; simp only [Prod.mk.injEq] at ha; obtain ⟨rfl, rfl⟩ := ha; exact key _ rfl
        · cases ha
      · cases ha
    · cases ha
  case makeMap =>
    simp only [aop, aMakeMap, Option.some.injEq, Prod.mk.injEq] at ha
    obtain ⟨rfl, rfl⟩ := ha; exact key _ rfl
  case makeSlice k l c =>
    simp only [aop, aMake] at ha
    split at ha
    · split at ha
      · injection ha with ha; simp only [Prod.mk.injEq] at ha; obtain ⟨rfl, rfl⟩ := ha; exact key _ rfl
      · cases ha
    · cases ha
  case conv k x =>
    cases k <;> simp only [reduceCtorEq] at hc
    simp only [aop, aConv] at ha
    split at ha
    · injection ha with ha; simp only [Prod.mk.injEq] at ha; obtain ⟨rfl, rfl⟩ := ha; exact key _ rfl
    · cases ha
  case len k x => cases k <;> simp only [reduceCtorEq] at hc

theorem foldH_dead {s : Nat} {m : Nat} : ∀ (L : List Ent) (h : AHeap), (∀ q ∈ L, ∀ h', q.eff = .chain h' → h'.get m = .dead) → (∀ q ∈ L, q.eff.isFresh = true → s + q.d.slot ≠ m) → h.get m = .dead → (foldH s h L).get m = .dead
  | [], h, _, _, hm => hm
  | e :: L, h, h1, h2, hm => by
    refine foldH_dead L _ (fun q hq => h1 q (List.mem_cons_of_mem _ hq)) (fun q hq => h2 q (List.mem_cons_of_mem _ hq)) ?_
    have a1 := h1 e (by simp)
    have a2 := h2 e (by simp)
    show (e.eff.cur (s + e.d.slot) h).get m = .dead
    cases he : e.eff with
    | none => exact hm
    | fresh o => simp only [Eff.cur, AHeap.get_set]; rw [if_neg (fun x => a2 (by simp [he, Eff.isFresh]) x.symm)]; exact hm
    | chain h' => exact a1 h' he
theorem foldH_own {s : Nat} {m : Nat} : ∀ (L : List Ent) (h : AHeap), (∀ e ∈ L, e.eff.isChain = false) → (∀ q ∈ L, ∀ o, q.eff = .fresh o → o.own = true) → ((h.get m).own = true ∨ ∃ e ∈ L, e.eff.isFresh = true ∧ s + e.d.slot = m) → ((foldH s h L).get m).own = true
  | [], h, _, _, hm => by
    rcases hm with hm | ⟨e, he, _⟩
    · exact hm
    · simp at he
  | e :: L, h, h1, h2, hm => by
    refine foldH_own L _ (fun q hq => h1 q (List.mem_cons_of_mem _ hq)) (fun q hq => h2 q (List.mem_cons_of_mem _ hq)) ?_
    have a1 := h1 e (by simp)
    have a2 := h2 e (by simp)
    rcases hm with hm | ⟨x, hx, h3, h4⟩
    · left
      show ((e.eff.cur (s + e.d.slot) h).get m).own = true
      cases he : e.eff with
      | none => exact hm
      | fresh o =>
        simp only [Eff.cur, AHeap.get_set]
        by_cases x : m = s + e.d.slot
        · rw [if_pos x]; exact a2 o he
        · rw [if_neg x]; exact hm
      | chain h' => simp [he, Eff.isChain] at a1
    · rcases List.mem_cons.1 hx with rfl | hx
      · left
        show ((x.eff.cur (s + x.d.slot) h).get m).own = true
        cases he : x.eff with
        | none => simp [he, Eff.isFresh] at h3
        | chain h' => simp [he, Eff.isFresh] at h3
        | fresh o => simp only [Eff.cur, AHeap.get_set]; rw [if_pos h4.symm]; exact a2 o he
      · exact .inr ⟨x, hx, h3, h4⟩
theorem lastOf {α : Type} (p : α → Bool) : ∀ (L : List α), (∀ x ∈ L, p x = false) ∨ ∃ L1 c L2, L = L1 ++ c :: L2 ∧ p c = true ∧ ∀ x ∈ L2, p x = false
  | [] => .inl fun x hx => by simp at hx
  | a :: L => by
    rcases lastOf p L with h | ⟨L1, c, L2, rfl, h1, h2⟩
    · cases ha : p a with
      | true => exact .inr ⟨[], a, L, rfl, ha, h⟩
      | false =>
        refine .inl fun x hx => ?_
        rcases List.mem_cons.1 hx with rfl | hx2
        · exact ha
        · exact h x hx2
    · exact .inr ⟨a :: L1, c, L2, rfl, h1, h2⟩
theorem foldC_none : ∀ (L : List Ent) (h : AHeap), (∀ e ∈ L, e.eff.isChain = false) → foldC h L = h
  | [], h, _ => rfl
  | e :: L, h, hn => by
    show foldC (e.eff.C h) L = h
    rw [foldC_none L _ (fun x hx => hn x (List.mem_cons_of_mem _ hx))]
    have := hn e (by simp)
    cases he : e.eff <;> simp [he, Eff.isChain] at this <;> rfl

/-! ### what is known of the order -/
structure DF (P : Program) (N : Nat) (ops : Array Oper) (anc : List Nat) (k : Nat) (E : List Ent) : Prop where
  comp : ∀ e ∈ E, ∃ o, ops[e.d.idx]? = some o ∧ compR P N ops o = some e.d.o
  cls : ∀ e ∈ E, clsOf e.d.o.op = e.d.cls
  all : ∀ i, i < ops.size → ∃ e ∈ E, e.d.idx = i
  edge : ∀ j o, ops[j]? = some o → ∀ e ∈ o.after, Region.binds .any e = true → e.on < j
  up : ∀ j i o, ops[j]? = some o → i < ops.size → isAnc anc j i = true → ∃ e ∈ o.after, Region.binds .any e = true ∧ (e.on = i ∨ isAnc anc e.on i = true)
  ord : ∀ a b, (∃ pre mid post, E = pre ++ a :: (mid ++ b :: post)) → isAnc anc a.d.idx b.d.idx = false ∧ a.d.idx ≠ b.d.idx ∧
    (a.d.cls = .chain → b.d.cls = .chain → isAnc anc b.d.idx a.d.idx = true) ∧
    (a.d.cls = .fresh → b.d.cls = .chain → isAnc anc b.d.idx a.d.idx = true) ∧
    (a.d.cls = .chain → b.d.cls = .read → isAnc anc b.d.idx a.d.idx = true) ∧
    (a.d.cls = .read → b.d.cls = .chain → isAnc anc b.d.idx a.d.idx = true ∨ b.d.re.contains a.d.idx = true) ∧
    (a.d.cls = .fresh → b.d.cls = .fresh → a.d.slot ≠ b.d.slot) ∧
    (a.d.cls = .chain → b.d.cls = .fresh → a.d.pend.contains b.d.slot = true)
  tmp : ∀ i j oi oj t, ops[i]? = some oi → ops[j]? = some oj → i ≠ j → oi.dst = some t → (t ∈ looks ops oj ∨ oj.dst = some t) → isAnc anc j i = true ∨ isAnc anc i j = true
  slot : ∀ e ∈ E, e.d.cls = .fresh → e.d.slot < k

theorem drawOk_df {P : Program} {N : Nat} {ops : Array Oper} {anc : List Nat} {k : Nat} {E : List Ent} {rs : List ROp} (hrs : compRs P N ops ops.toList = some rs)
    (hd : ∀ e ∈ E, e.d.o = rs.getD e.d.idx default) (hok : drawOk ops anc k (E.map (·.d)) = true) : DF P N ops anc k E := by
  unfold drawOk at hok
  simp only [Bool.and_eq_true] at hok
  obtain ⟨⟨⟨⟨⟨⟨⟨⟨k1, k2⟩, k3⟩, k4⟩, k5⟩, k6⟩, k7⟩, k8⟩, k9⟩ := hok
  have lt : ∀ e ∈ E, e.d.idx < ops.size ∧ clsOf e.d.o.op = e.d.cls := by
    intro e he
    have := List.all_eq_true.1 k3 e.d (List.mem_map_of_mem he)
    simpa using this
  have gd : ∀ j (o : Oper), ops[j]? = some o → ops.getD j default = o ∧ j < ops.size := by
    intro j o h
    exact ⟨by simp [Array.getD_eq_getD_getElem?, h], (Array.getElem?_eq_some_iff.1 h).1⟩
  refine ⟨?_, fun e he => (lt e he).2, ?_, ?_, ?_, ?_, ?_, ?_⟩
  · intro e he
    have hl := (lt e he).1
    obtain ⟨r, h1, h2⟩ := (compRs_get _ _ hrs).2 e.d.idx ops[e.d.idx] (by simp [hl])
    refine ⟨ops[e.d.idx], by simp [hl], ?_⟩
    rw [hd e he, List.getD_eq_getElem?_getD, h1]
    exact h2
  · intro i hi
    have := List.all_eq_true.1 k2 i (List.mem_range.2 hi)
    rw [List.any_eq_true] at this
    obtain ⟨d, hd1, hd2⟩ := this
    obtain ⟨e, he, rfl⟩ := List.mem_map.1 hd1
    exact ⟨e, he, by simpa using hd2⟩
  · intro j o ho e he hb
    obtain ⟨g1, g2⟩ := gd j o ho
    have := List.all_eq_true.1 k4 j (List.mem_range.2 g2)
    rw [g1] at this
    have := List.all_eq_true.1 this e (by simpa using he)
    simpa [hb] using this
  · intro j i o ho hi ha
    obtain ⟨g1, g2⟩ := gd j o ho
    have := List.all_eq_true.1 (List.all_eq_true.1 k5 j (List.mem_range.2 g2)) i (List.mem_range.2 hi)
    rw [g1, ha] at this
    simp only [Bool.not_true, Bool.false_or, List.any_eq_true, Bool.and_eq_true, Bool.or_eq_true, beq_iff_eq] at this
    obtain ⟨e, h1, h2, h3⟩ := this
    exact ⟨e, by simpa using h1, h2, h3⟩
  · rintro a b ⟨pre, mid, post, rfl⟩
    have hs : (pre ++ a :: (mid ++ b :: post)).map (·.d) = pre.map (·.d) ++ a.d :: ((mid ++ b :: post).map (·.d)) := by simp
    have hb : b.d ∈ (mid ++ b :: post).map (·.d) := List.mem_map_of_mem (by simp)
    have q6 := pairs_spec k6 _ _ _ hs _ hb
    have q8 := pairs_spec k8 _ _ _ hs _ hb
    simp only [Bool.and_eq_true, Bool.not_eq_true', bne_iff_ne, Bool.or_eq_true, Bool.and_eq_false_iff, beq_eq_false_iff_ne] at q6 q8
    obtain ⟨⟨⟨⟨⟨r1, r2⟩, r3⟩, r4⟩, r5⟩, r6⟩ := q8
    refine ⟨q6.1, q6.2, ?_, ?_, ?_, ?_, ?_, ?_⟩
    · intro x y; rcases r1 with r | r
      · rcases r with r | r
        · exact absurd x r
        · exact absurd y r
      · exact r
    · intro x y; rcases r2 with r | r
      · rcases r with r | r
        · exact absurd x r
        · exact absurd y r
      · exact r
    · intro x y; rcases r3 with r | r
      · rcases r with r | r
        · exact absurd x r
        · exact absurd y r
      · exact r
    · intro x y; rcases r4 with (r | r) | r
      · rcases r with r | r
        · exact absurd x r
        · exact absurd y r
      · exact .inl r
      · exact .inr r
    · intro x y; rcases r5 with r | r
      · rcases r with r | r
        · exact absurd x r
        · exact absurd y r
      · exact r
    · intro x y; rcases r6 with r | r
      · rcases r with r | r
        · exact absurd x r
        · exact absurd y r
      · exact r
  · intro i j oi oj t hi hj hne hdi ht
    obtain ⟨g1, g2⟩ := gd i oi hi
    obtain ⟨g3, g4⟩ := gd j oj hj
    have := List.all_eq_true.1 (List.all_eq_true.1 k7 j (List.mem_range.2 g4)) i (List.mem_range.2 g2)
    simp only [hi, hj, Option.bind_some, hdi, g3] at this
    simp only [Bool.or_eq_true, beq_iff_eq, Bool.not_eq_true', Bool.or_eq_false_iff] at this
    rcases this with e | ((⟨e1, e2⟩ | e) | e)
    · exact absurd e hne
    · rcases ht with ht | ht
      · rw [List.contains_iff_mem.2 ht] at e1; cases e1
      · simp [ht] at e2
    · exact .inl e
    · exact .inr e
  · intro e he hc
    have := List.all_eq_true.1 k9 e.d (List.mem_map_of_mem he)
    simpa [hc] using this
end
end Go.AM
