import Derived.Test.YtoehafeeoggpkaaAM23
set_option linter.unusedVariables false
set_option linter.unusedSimpArgs false
/-! Part 24: one step of any order. -/
namespace Go.AM
noncomputable section
open Go.RowKit

def LD (E : List Ent) (listed : Array Bool) : List Ent := E.filter fun e => listed.getD e.d.idx false

theorem TR.congr {N n : Nat} {σ : Sig} {T T' : Tr Value} {tm : Array Value} (h : TR N n σ T tm) (e : ∀ t, T'.get t = T.get t) : TR N n σ T' tm := ⟨h.1, fun i => by rw [e]; exact h.2 i⟩

theorem filter_false {α : Type} {p : α → Bool} {l : List α} (h : ∀ x ∈ l, p x = false) : l.filter p = [] := by
  rw [List.filter_eq_nil_iff]; intro x hx; rw [h x hx]; simp
theorem filter_same {α : Type} {p q : α → Bool} {l : List α} (h : ∀ x ∈ l, p x = q x) : l.filter p = l.filter q := List.filter_congr h

section
variable {P : Program} {N : Nat} {ops : Array Oper} {anc : List Nat} {k : Nat} {E pre post : List Ent} {e : Ent} {o : Oper} {listed : Array Bool}

/-- What is known where an operation is ready. -/
structure Rdy (ops : Array Oper) (anc : List Nat) (E : List Ent) (listed : Array Bool) (pre : List Ent) (e : Ent) (post : List Ent) : Prop where
  split : E = pre ++ e :: post
  non : listed.getD e.d.idx false = false
  size : e.d.idx < listed.size
  up : ∀ q ∈ E, isAnc anc e.d.idx q.d.idx = true → listed.getD q.d.idx false = true
  closed : ∀ q ∈ E, listed.getD q.d.idx false = true → isAnc anc q.d.idx e.d.idx = true → False

section
variable (hR : Rdy ops anc E listed pre e post)
include hR

theorem Rdy.before {q : Ent} (hq : q ∈ pre) : ∃ pr mid po, E = pr ++ q :: (mid ++ e :: po) := by
  obtain ⟨x, y, rfl⟩ := List.append_of_mem hq
  exact ⟨x, y, post, by rw [hR.split]; simp⟩
theorem Rdy.after {q : Ent} (hq : q ∈ post) : ∃ pr mid po, E = pr ++ e :: (mid ++ q :: po) := by
  obtain ⟨x, y, rfl⟩ := List.append_of_mem hq
  exact ⟨pre, x, y, by rw [hR.split]⟩
theorem Rdy.mem_pre {q : Ent} (hq : q ∈ pre) : q ∈ E := by rw [hR.split]; simp [hq]
theorem Rdy.mem_post {q : Ent} (hq : q ∈ post) : q ∈ E := by rw [hR.split]; simp [hq]
theorem Rdy.mem : e ∈ E := by rw [hR.split]; simp
theorem Rdy.ld : LD E listed = LD pre listed ++ LD post listed := by
  unfold LD
  rw [hR.split, List.filter_append, List.filter_cons_of_neg (by rw [hR.non]; simp)]
theorem Rdy.pre_of_anc {q : Ent} (hq : q ∈ pre) (ha : isAnc anc e.d.idx q.d.idx = true) : listed.getD q.d.idx false = true := hR.up q (hR.mem_pre hq) ha
theorem Rdy.post_not_anc {q : Ent} (hq : q ∈ LD post listed) (ha : isAnc anc q.d.idx e.d.idx = true) : False := by
  obtain ⟨h1, h2⟩ := List.mem_filter.1 hq
  exact hR.closed q (hR.mem_post h1) h2 ha
end
theorem mem_ld {q : Ent} {L : List Ent} (hq : q ∈ LD L listed) : q ∈ L := (List.mem_filter.1 hq).1
section
variable (hF : DF P N ops anc k E) (hR : Rdy ops anc E listed pre e post)
include hF hR
theorem Rdy.ld' : LD E (listed.setIfInBounds e.d.idx true) = LD pre listed ++ e :: LD post listed := by
  unfold LD
  rw [hR.split, List.filter_append, List.filter_cons_of_pos (by simp [Array.getD_eq_getD_getElem?, hR.size])]
  congr 1
  · refine filter_same fun q hq => ?_
    rw [getD_set_ne false (hF.ord q e (hR.before hq)).2.1.symm]
  · congr 1
    refine filter_same fun q hq => ?_
    rw [getD_set_ne false (hF.ord e q (hR.after hq)).2.1]
end

section
variable (hF : DF P N ops anc k E) (hR : Rdy ops anc E listed pre e post) (ho : ops[e.d.idx]? = some o)
include hF hR ho

theorem Rdy.pre_write {q : Ent} {t : Nat} (hq : q ∈ pre) (hd : q.d.o.dst = some t) (ht : t ∈ looks ops o ∨ o.dst = some t) : listed.getD q.d.idx false = true := by
  obtain ⟨oq, h1, h2⟩ := hF.comp q (hR.mem_pre hq)
  have hdq : oq.dst = some t := by rw [← (compR_spec h2).2.1]; exact hd
  have hb := hF.ord q e (hR.before hq)
  rcases hF.tmp q.d.idx e.d.idx oq o t h1 ho hb.2.1 hdq ht with h | h
  · exact hR.pre_of_anc hq h
  · rw [hb.1] at h; cases h
theorem Rdy.post_write {q : Ent} {t : Nat} (hq : q ∈ LD post listed) (hd : q.d.o.dst = some t) (ht : t ∈ looks ops o ∨ o.dst = some t) : False := by
  have hq2 := mem_ld hq
  obtain ⟨oq, h1, h2⟩ := hF.comp q (hR.mem_post hq2)
  have hdq : oq.dst = some t := by rw [← (compR_spec h2).2.1]; exact hd
  have hb := hF.ord e q (hR.after hq2)
  rcases hF.tmp q.d.idx e.d.idx oq o t h1 ho hb.2.1.symm hdq ht with h | h
  · rw [hb.1] at h; cases h
  · exact hR.post_not_anc hq h
/-- The temporaries that an operation looks at are as in the text's run. -/
theorem Rdy.looks_at {T0 : Tr Value} {t : Nat} (ht : t ∈ looks ops o) : (foldT T0 (LD E listed)).get t = (foldT T0 pre).get t := by
  refine foldT_congr ?_
  rw [hR.ld, List.filter_append]
  have h2 : (LD post listed).filter (fun e => decide (e.d.o.dst = some t)) = [] := filter_false fun q hq => by
    rw [decide_eq_false_iff_not]; intro hd; exact hR.post_write hF ho hq hd (.inl ht)
  rw [h2, List.append_nil]
  unfold LD
  rw [List.filter_filter]
  refine filter_same fun q hq => ?_
  by_cases hd : q.d.o.dst = some t
  · rw [hR.pre_write hF ho hq hd (.inl ht)]; simp
  · simp [hd]
theorem Rdy.eval_eq {T0 : Tr Value} {x : Operand} (hx : x ∈ o.op.operands) : aeval (foldT T0 (LD E listed)) x = aeval (foldT T0 pre) x := by
  cases x with
  | tmp t =>
    have : t ∈ looks ops o := List.mem_append_left _ (List.mem_flatMap.2 ⟨.tmp t, by simpa using hx, by simp [namesO]⟩)
    simp only [aeval, hR.looks_at hF ho this]
  | const v => rfl
  | global g => rfl
  | func f => rfl
end
section
variable (hF : DF P N ops anc k E) (hR : Rdy ops anc E listed pre e post) (ho : ops[e.d.idx]? = some o) (hc : compR P N ops o = some e.d.o)
include hF hR ho hc
theorem Rdy.put_get {T0 : Tr Value} (t : Nat) : (foldT T0 (LD E (listed.setIfInBounds e.d.idx true))).get t = (putT (foldT T0 (LD E listed)) o.dst e.v).get t := by
  have hde : e.d.o.dst = o.dst := (compR_spec hc).2.1
  rw [hR.ld' hF]
  by_cases hd : o.dst = some t
  · have h2 : (LD post listed).filter (fun e => decide (e.d.o.dst = some t)) = [] := filter_false fun q hq => by
      rw [decide_eq_false_iff_not]; intro hd2; exact hR.post_write hF ho hq hd2 (.inr hd)
    have h3 : (foldT T0 (LD pre listed ++ e :: LD post listed)).get t = (foldT T0 (LD pre listed ++ [e])).get t := by
      refine foldT_congr ?_
      rw [List.filter_append, List.filter_append, List.filter_cons, h2]
      rw [List.filter_cons]; simp
    rw [h3, foldT_append]
    show (putT (foldT T0 (LD pre listed)) e.d.o.dst e.v).get t = _
    rw [hde, hd]
    simp [putT, Tr.get_set]
  · have h3 : (foldT T0 (LD pre listed ++ e :: LD post listed)).get t = (foldT T0 (LD E listed)).get t := by
      refine foldT_congr ?_
      rw [hR.ld, List.filter_append, List.filter_append, List.filter_cons_of_neg (by rw [hde]; simpa using hd)]
    rw [h3]
    cases hd2 : o.dst with
    | none => rfl
    | some t2 =>
      simp only [putT, Tr.get_set]
      rw [if_neg (fun x => hd (by rw [hd2, x]))]
theorem Rdy.guard_eq {T0 : Tr Value} : guardOn (foldT T0 (LD E listed)) e.d.o.guard = guardOn (foldT T0 pre) e.d.o.guard := by
  have h4 := (compR_spec hc).2.2.2
  cases hg : o.guard with
  | none => rw [hg] at h4; simp only at h4; rw [h4]; rfl
  | some p =>
    obtain ⟨j, want⟩ := p
    rw [hg] at h4
    obtain ⟨t, h1, h2, h3⟩ := h4
    rw [h3]
    have : t ∈ looks ops o := List.mem_append_right _ (by simp only [hg, h1]; simp)
    simp only [guardOn, hR.looks_at hF ho this]
end
end

/-! ### the heap -/
section
variable {P : Program} {pk : Bool} {call : CallT} {rnd : RoundT} {N : Nat} {ops : Array Oper} {anc : List Nat} {k s : Nat} {E pre post : List Ent} {e : Ent} {o : Oper} {listed : Array Bool} {h0 : AHeap}
def GoodAll (pk : Bool) (call : CallT) (rnd : RoundT) (s : Nat) (E : List Ent) : Prop := ∀ q ∈ E, Good pk call rnd s q
theorem Good.chain_cls {q : Ent} (g : Good pk call rnd s q) (h : q.eff.isChain = true) : q.d.cls = .chain ∧ ∃ h', q.eff = .chain h' ∧ q.d.pend.all (fun k => !(h'.get (s + k)).live) = true := by
  cases g with
  | off _ _ he _ => rw [he] at h; cases h
  | pure _ _ _ _ _ _ he _ => rw [he] at h; cases h
  | read _ _ _ _ _ _ he _ => rw [he] at h; cases h
  | fresh _ _ _ _ _ _ he _ => rw [he] at h; cases h
  | chain _ h' hc _ he _ _ hp => exact ⟨hc, h', he, hp⟩
theorem Good.fresh_cls {q : Ent} (g : Good pk call rnd s q) (h : q.eff.isFresh = true) : q.d.cls = .fresh ∧ ∀ o, q.eff = .fresh o → clsOf q.d.o.op = .fresh → o.own = true := by
  cases g with
  | off _ _ he _ => rw [he] at h; cases h
  | pure _ _ _ _ _ _ he _ => rw [he] at h; cases h
  | read _ _ _ _ _ _ he _ => rw [he] at h; cases h
  | fresh _ ao h' hc ho ha he _ =>
    refine ⟨hc, fun o h2 h3 => ?_⟩
    rw [he] at h2; injection h2 with h2; subst h2
    rw [ho] at h3
    exact fresh_own h3 ha
  | chain _ h' hc _ he _ _ hp => rw [he] at h; cases h
theorem Good.pend_dead {q : Ent} {h' : AHeap} {j : Nat} (g : Good pk call rnd s q) (h : q.eff = .chain h') (hj : q.d.pend.contains j = true) : h'.get (s + j) = .dead := by
  obtain ⟨_, h2, h3, h4⟩ := g.chain_cls (by rw [h]; rfl)
  rw [h] at h3; injection h3 with h3; subst h3
  have := List.all_eq_true.1 h4 j (by simpa using hj)
  exact AObj.dead_of (by simpa using this)

variable (hF : DF P N ops anc k E) (hR : Rdy ops anc E listed pre e post) (hG : GoodAll pk call rnd s E)
include hF hR hG

/-- Chains behind e that are done: then e is none of their ancestors. Where e is fresh or a chain, there is none. -/
theorem Rdy.no_chain_post (hcl : e.d.cls = .chain ∨ e.d.cls = .fresh) : ∀ q ∈ LD post listed, q.eff.isChain = false := by
  intro q hq
  cases hc : q.eff.isChain with
  | false => rfl
  | true =>
    exfalso
    have hq2 := mem_ld hq
    have hqc := (hG q (hR.mem_post hq2)).chain_cls hc
    have hb := hF.ord e q (hR.after hq2)
    rcases hcl with h | h
    · exact hR.post_not_anc hq (hb.2.2.1 h hqc.1)
    · exact hR.post_not_anc hq (hb.2.2.2.1 h hqc.1)
/-- Where e is a chain, all that has an effect ahead of it is done. -/
theorem Rdy.pre_some (hcl : e.d.cls = .chain) : foldH s h0 (LD pre listed) = foldH s h0 pre := by
  refine foldH_congr ?_
  unfold LD
  rw [List.filter_filter]
  refine filter_same fun q hq => ?_
  cases hs : q.eff.some with
  | false => simp
  | true =>
    have hb := hF.ord q e (hR.before hq)
    have : isAnc anc e.d.idx q.d.idx = true := by
      cases he : q.eff with
      | none => rw [he] at hs; cases hs
      | fresh o => exact hb.2.2.2.1 ((hG q (hR.mem_pre hq)).fresh_cls (by rw [he]; rfl)).1 hcl
      | chain h' => exact hb.2.2.1 ((hG q (hR.mem_pre hq)).chain_cls (by rw [he]; rfl)).1 hcl
    rw [hR.pre_of_anc hq this]; simp
/-- Another's number, of a fresh one behind e in the order, is free where e is a chain. -/
theorem Rdy.pre_dead (hdead : ∀ j, j < k → h0.get (s + j) = .dead) {f : Ent} (hf : f ∈ post) (hfc : f.d.cls = .fresh) : (foldH s h0 pre).get (s + f.d.slot) = .dead := by
  have hord : ∀ q ∈ pre, ∃ pr mid po, E = pr ++ q :: (mid ++ f :: po) := by
    intro q hq
    obtain ⟨x, y, rfl⟩ := List.append_of_mem hq
    obtain ⟨u, v, rfl⟩ := List.append_of_mem hf
    exact ⟨x, y ++ e :: u, v, by rw [hR.split]; simp⟩
  refine foldH_dead pre h0 ?_ ?_ (hdead _ (hF.slot f (hR.mem_post hf) hfc))
  · intro q hq h' he
    have hb := hF.ord q f (hord q hq)
    have g := hG q (hR.mem_pre hq)
    exact g.pend_dead he (hb.2.2.2.2.2.2.2 (g.chain_cls (by rw [he]; rfl)).1 hfc)
  · intro q hq hfr
    have hb := hF.ord q f (hord q hq)
    have g := hG q (hR.mem_pre hq)
    have := hb.2.2.2.2.2.2.1 (g.fresh_cls hfr).1 hfc
    omega
/-- The number that is kept for e is free. -/
theorem Rdy.own_dead (hdead : ∀ j, j < k → h0.get (s + j) = .dead) (hcl : e.d.cls = .fresh) : (foldH s h0 (LD E listed)).get (s + e.d.slot) = .dead := by
  rw [hR.ld]
  have hpost := hR.no_chain_post hF hG (.inr hcl)
  refine foldH_dead _ h0 ?_ ?_ (hdead _ (hF.slot e (hR.mem) hcl))
  · intro q hq h' he
    rcases List.mem_append.1 hq with hq | hq
    · have hq := (List.mem_filter.1 hq).1
      have hb := hF.ord q e (hR.before hq)
      have g := hG q (hR.mem_pre hq)
      exact g.pend_dead he (hb.2.2.2.2.2.2.2 (g.chain_cls (by rw [he]; rfl)).1 hcl)
    · have := hpost q hq; rw [he] at this; cases this
  · intro q hq hfr
    rcases List.mem_append.1 hq with hq | hq
    · have hq := (List.mem_filter.1 hq).1
      have hb := hF.ord q e (hR.before hq)
      have g := hG q (hR.mem_pre hq)
      have := hb.2.2.2.2.2.2.1 (g.fresh_cls hfr).1 hcl
      omega
    · have hq := mem_ld hq
      have hb := hF.ord e q (hR.after hq)
      have g := hG q (hR.mem_post hq)
      have := hb.2.2.2.2.2.2.1 hcl (g.fresh_cls hfr).1
      omega
theorem Rdy.post_slot {q : Ent} (hcl : e.d.cls = .fresh) (hq : q ∈ LD post listed) (hfr : q.eff.isFresh = true) : s + q.d.slot ≠ s + e.d.slot := by
  have hq := mem_ld hq
  have hb := hF.ord e q (hR.after hq)
  have g := hG q (hR.mem_post hq)
  have := hb.2.2.2.2.2.2.1 hcl (g.fresh_cls hfr).1
  omega

/-- What a read saw, it would see now. -/
theorem Rdy.read_now {T0 : Tr Value} {st st' : DState} (hT : Trace pk call rnd s st E st') (hst : st.C = h0) (hdead : ∀ j, j < k → h0.get (s + j) = .dead) {ao : AOp} {h' : AHeap} (hcl : e.d.cls = .read)
    (hrd : (e.d.idx, ao, e.st.T, e.v) ∈ e.rd) (ha : aop pk ao (aeval e.st.T) e.st.C = some (e.v, h')) : ∃ B h'', aop pk ao (aeval e.st.T) B = some (e.v, h'') ∧ Sub B (foldH s h0 (LD E listed)) := by
  have hsp := Trace.split (by rw [← hR.split]; exact hT)
  -- chains ahead of e are done
  have hpre : ∀ q ∈ pre, q.eff.isChain = true → listed.getD q.d.idx false = true := by
    intro q hq hc
    have hb := hF.ord q e (hR.before hq)
    exact hR.pre_of_anc hq (hb.2.2.2.2.1 ((hG q (hR.mem_pre hq)).chain_cls hc).1 hcl)
  rcases lastOf (fun q => q.eff.isChain && listed.getD q.d.idx false) E with hn | ⟨E1, c, E2, hE, hc, hn⟩
  · -- no chain is done
    have h1 : ∀ q ∈ pre, q.eff.isChain = false := by
      intro q hq
      cases hc : q.eff.isChain with
      | false => rfl
      | true => have := hn q (hR.mem_pre hq); rw [hc, hpre q hq hc] at this; cases this
    have h2 : ∀ q ∈ LD E listed, q.eff.isChain = false := by
      intro q hq
      obtain ⟨q1, q2⟩ := List.mem_filter.1 hq
      have := hn q q1
      simp only [Bool.and_eq_false_iff] at this
      rcases this with h | h
      · exact h
      · rw [q2] at h; cases h
    refine ⟨e.st.C, h', ha, ?_⟩
    rw [hsp.2.2.1, foldC_none pre _ h1, hst]
    intro m
    by_cases hm : ∃ q ∈ LD E listed, q.eff.isFresh = true ∧ s + q.d.slot = m
    · obtain ⟨q, q1, q2, rfl⟩ := hm
      have hqE := (List.mem_filter.1 q1).1
      exact .inl (hdead _ (hF.slot q hqE ((hG q hqE).fresh_cls q2).1))
    · exact .inr (foldH_get _ _ _ h2 (fun q q1 q2 q3 => hm ⟨q, q1, q2, q3⟩))
  · simp only [Bool.and_eq_true] at hc
    obtain ⟨hc1, hc2⟩ := hc
    have hcE : c ∈ E := by rw [hE]; simp
    obtain ⟨hccls, hc', hceff, _⟩ := (hG c hcE).chain_cls hc1
    have hld : LD E listed = LD E1 listed ++ c :: LD E2 listed := by
      unfold LD; rw [hE, List.filter_append, List.filter_cons_of_pos (by exact hc2)]
    have hE2 : ∀ q ∈ LD E2 listed, q.eff.isChain = false := by
      intro q hq
      obtain ⟨q1, q2⟩ := List.mem_filter.1 hq
      have := hn q q1
      simp only [Bool.and_eq_false_iff] at this
      rcases this with h | h
      · exact h
      · rw [q2] at h; cases h
    have hH : foldH s h0 (LD E listed) = foldH s hc' (LD E2 listed) := by
      rw [hld, foldH_append]
      show foldH s (c.eff.cur _ _) (LD E2 listed) = _
      rw [hceff]; rfl
    have hsub : Sub hc' (foldH s h0 (LD E listed)) := by
      intro m
      rw [hH]
      by_cases hm : ∃ q ∈ LD E2 listed, q.eff.isFresh = true ∧ s + q.d.slot = m
      · obtain ⟨q, q1, q2, rfl⟩ := hm
        have hq2 := (List.mem_filter.1 q1).1
        obtain ⟨x, y, hxy⟩ := List.append_of_mem hq2
        have hb := hF.ord c q ⟨E1, x, y, by rw [hE, hxy]⟩
        have hqE : q ∈ E := by rw [hE]; simp [hq2]
        exact .inl ((hG c hcE).pend_dead hceff (hb.2.2.2.2.2.2.2 hccls ((hG q hqE).fresh_cls q2).1))
      · exact .inr (foldH_get _ _ _ hE2 (fun q q1 q2 q3 => hm ⟨q, q1, q2, q3⟩))
    -- where does c stand?
    have hpos : c ∈ pre ∨ c ∈ post := by
      rw [hR.split] at hcE
      rcases List.mem_append.1 hcE with h | h
      · exact .inl h
      · rcases List.mem_cons.1 h with h | h
        · subst h; rw [hcl] at hccls; cases hccls
        · exact .inr h
    rcases hpos with hp | hp
    · -- it is the last chain ahead of e
      refine ⟨e.st.C, h', ha, ?_⟩
      obtain ⟨x, y, hxy⟩ := List.append_of_mem hp
      have hy : ∀ q ∈ y, q.eff.isChain = false := by
        intro q hq
        cases hqc : q.eff.isChain with
        | false => rfl
        | true =>
          exfalso
          have hqpre : q ∈ pre := by rw [hxy]; simp [hq]
          have hqd := hpre q hqpre hqc
          -- q is behind c in the order; c is the last
          have hqE : q ∈ E := hR.mem_pre hqpre
          obtain ⟨u, v, huv⟩ := List.append_of_mem hq
          have hb := hF.ord c q ⟨x, u, v ++ e :: post, by rw [hR.split, hxy, huv]; simp⟩
          rw [hE] at hqE
          rcases List.mem_append.1 hqE with h | h
          · obtain ⟨u1, v1, huv1⟩ := List.append_of_mem h
            have hb2 := hF.ord q c ⟨u1, v1, E2, by rw [hE, huv1]; simp⟩
            have h3 := hb2.2.2.1 ((hG q (hR.mem_pre hqpre)).chain_cls hqc).1 hccls
            rw [hb.1] at h3; cases h3
          · rcases List.mem_cons.1 h with h | h
            · subst h; exact hb.2.1 rfl
            · have := hn q h; rw [hqc, hqd] at this; cases this
      have : foldC h0 pre = hc' := by
        rw [hxy]
        have : foldC h0 (x ++ c :: y) = foldC (c.eff.C (foldC h0 x)) y := by simp [foldC]
        rw [this, foldC_none y _ hy, hceff]; rfl
      rw [hsp.2.2.1, hst, this]
      exact hsub
    · -- it comes behind e: it was looked at again
      have hb := hF.ord e c (hR.after hp)
      have hre : c.d.re.contains e.d.idx = true := by
        rcases hb.2.2.2.2.2.1 hcl hccls with h | h
        · exact absurd h (fun h => hR.closed c hcE hc2 h)
        · exact h
      obtain ⟨x, y, hxy⟩ := List.append_of_mem hp
      have hsp2 := Trace.split (pre := pre ++ e :: x) (e := c) (post := y) (by
        have : (pre ++ e :: x) ++ c :: y = E := by rw [hR.split, hxy]; simp
        rw [this]; exact hT)
      have hmem := hsp2.2.2.2.2.1 e (by simp) _ hrd
      have hgc := hG c hcE
      cases hgc with
      | off _ _ he _ => rw [hceff] at he; cases he
      | pure _ _ _ _ _ _ he _ => rw [hceff] at he; cases he
      | read _ _ _ _ _ _ he _ => rw [hceff] at he; cases he
      | fresh _ _ _ _ _ _ he _ => rw [hceff] at he; cases he
      | chain _ h2 _ _ he _ hrec _ =>
        rw [hceff] at he; injection he with he; subst he
        obtain ⟨h3, h4⟩ := recheck_spec hrec _ _ _ _ hmem hre
        exact ⟨hc', h3, h4, hsub⟩
end
end
end Go.AM
