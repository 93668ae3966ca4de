import Derived.Test.YtoehafeeoggpkaaAM24
set_option linter.unusedVariables false
set_option linter.unusedSimpArgs false
/-! Part 25: a region that draws its order, soundly compiled. -/
namespace Go.AM
noncomputable section
open Go.RowKit

section
variable {P : Program} {pk : Bool} {call : CallT} {rnd : RoundT} {ro : Option Nat} {σr : Sig} {n0 : Nat} {N : Nat} {ops : Array Oper} {anc : List Nat} {k s : Nat} {E pre post : List Ent} {e : Ent} {o : Oper} {listed : Array Bool} {h0 : AHeap} {T0 : Tr Value}
variable {N0 : Nat} {w0 : World} {σ0 : Sig} {hh : AHeap} {w00 : World}

/-- Where some are done: the state that these have made. -/
def J (N0 : Nat) (w0 : World) (N s k : Nat) (h0 : AHeap) (T0 : Tr Value) (E : List Ent) (σ0 : Sig) (hh : AHeap) (w00 : World) (listed : Array Bool) (tm : Array Value) (w : World) : Prop :=
  ∃ σ, Inv N0 w0 σ (foldH s h0 (LD E listed)) w ∧ TR N (foldH s h0 (LD E listed)).next σ (foldT T0 (LD E listed)) tm ∧ Go' σ0 hh w00 σ (foldH s h0 (LD E listed)) w ∧ s + k ≤ (foldH s h0 (LD E listed)).next ∧
    ∀ q ∈ E, q.d.cls = .fresh → listed.getD q.d.idx false = false → (σ (s + q.d.slot)).real = false

/-- Nothing of the heap is done: no effect. -/
theorem Rdy.none_heap (hF : DF P N ops anc k E) (hR : Rdy ops anc E listed pre e post) (he : e.eff = .none) : foldH s h0 (LD E (listed.setIfInBounds e.d.idx true)) = foldH s h0 (LD E listed) := by
  refine foldH_congr ?_
  rw [hR.ld' hF, hR.ld, List.filter_append, List.filter_append, List.filter_cons_of_neg (by rw [he]; simp [Eff.some])]

theorem real_later (hF : DF P N ops anc k E) (hR : Rdy ops anc E listed pre e post) {σ : Sig} (h : ∀ q ∈ E, q.d.cls = .fresh → listed.getD q.d.idx false = false → (σ (s + q.d.slot)).real = false) :
    ∀ q ∈ E, q.d.cls = .fresh → (listed.setIfInBounds e.d.idx true).getD q.d.idx false = false → q.d.idx ≠ e.d.idx ∧ (σ (s + q.d.slot)).real = false := by
  intro q hq hc hl
  have hne : q.d.idx ≠ e.d.idx := by
    intro x
    rw [x] at hl
    simp [Array.getD_eq_getD_getElem?, hR.size] at hl
  exact ⟨hne, h q hq hc (by rw [getD_set_ne false hne.symm] at hl; exact hl)⟩

theorem step_wp (hcs : CallSound P call) (hrd : RoundOk P N0 w0 σr n0 rnd) (hn0 : n0 ≤ hh.next) (hs0 : ∀ j, j < n0 → σ0 j = σr j) (hF : DF P N ops anc k E) (hR : Rdy ops anc E listed pre e post) {st st' : DState} (hT : Trace pk call rnd s st E st') (hG : GoodAll pk call rnd s E) (hst : st.C = h0) (hst2 : st.cur = h0) (hst3 : st.T = T0)
    (hdead : ∀ j, j < k → h0.get (s + j) = .dead) (hle : hh.next ≤ s) {a : Act} {w : World} {Q : Exit → Act → World → Prop} {K : Act → World → Prop} (hJ : J N0 w0 N s k h0 T0 E σ0 hh w00 listed a.tmps w)
    (hK : ∀ tm' w', J N0 w0 N s k h0 T0 E σ0 hh w00 (listed.setIfInBounds e.d.idx true) tm' w' → K { a with tmps := tm' } w') : wpOpIn (FW ro) 0 P ops Q e.d.idx K a w := by
  obtain ⟨σ, j1, j2, j3, j4, j5⟩ := hJ
  have hn1 : n0 ≤ (foldH s h0 (LD E listed)).next := Nat.le_trans hn0 j3.next
  have hs1 : ∀ j, j < n0 → σ j = σr j := fun j hj => (j3.sig j (Nat.lt_of_lt_of_le hj hn0)).trans (hs0 j hj)
  obtain ⟨o, ho, hc⟩ := hF.comp e hR.mem
  obtain ⟨c1, c2, c3, c4⟩ := compR_spec hc
  have hsp := Trace.split (by rw [← hR.split]; exact hT)
  have hTe : e.st.T = foldT T0 pre := by rw [hsp.1, hst3]
  have hCe : e.st.cur = foldH s h0 pre := by rw [hsp.2.1, hst2]
  have hev : ∀ x ∈ o.op.operands, aeval (foldT T0 (LD E listed)) x = aeval e.st.T x := fun x hx => by rw [hTe]; exact hR.eval_eq hF ho hx
  have hgu : guardOn (foldT T0 (LD E listed)) e.d.o.guard = guardOn e.st.T e.d.o.guard := by rw [hTe]; exact hR.guard_eq hF ho hc
  have hput : ∀ {n : Nat} {σ' : Sig} {v' : Value} {tm : Array Value}, TR N n σ' (foldT T0 (LD E listed)) tm → VR n σ' e.v v' → TR N n σ' (foldT T0 (LD E (listed.setIfInBounds e.d.idx true))) (putA tm o.dst v') := by
    intro n σ' v' tm h1 h2
    exact (h1.put h2 c3).congr (hR.put_get hF ho hc)
  have hde : e.d.o.dst = o.dst := c2
  -- the heap stays
  have stay : ∀ (he : e.eff = .none) (v' : Value), VR (foldH s h0 (LD E listed)).next σ e.v v' → J N0 w0 N s k h0 T0 E σ0 hh w00 (listed.setIfInBounds e.d.idx true) (putA a.tmps o.dst v') w := by
    intro he v' hv
    have e1 := hR.none_heap (s := s) (h0 := h0) hF he
    refine ⟨σ, ?_, ?_, ?_, ?_, fun q hq hc hl => (real_later hF hR j5 q hq hc hl).2⟩
    · rw [e1]; exact j1
    · rw [e1]; exact hput j2 hv
    · rw [e1]; exact j3
    · rw [e1]; exact j4
  have stayw : ∀ (he : e.eff = .none) (rk : doOp pk call rnd e.d.o.op (aeval (foldT T0 (LD E listed))) (foldH s h0 (LD E listed)) = some (e.v, foldH s h0 (LD E listed))), o.wpIn (FW ro) 0 P a w K Q := by
    intro he rk
    refine rk_wp hcs hrd hn1 hs1 c1 j1 (fun x hx => j2.eval rfl hx) rk ?_
    intro σ' v' w' hv hI hgo
    rw [put_act]
    refine hK _ _ ?_
    have e1 := hR.none_heap (s := s) (h0 := h0) hF he
    refine ⟨σ', ?_, ?_, ?_, ?_, ?_⟩
    · rw [e1]; exact hI
    · rw [e1]; exact hput (j2.go hgo) hv
    · rw [e1]; exact j3.trans hgo
    · rw [e1]; exact j4
    · intro q hq hqc hl
      have := hF.slot q hq hqc
      rw [hgo.sig _ (by omega)]
      exact (real_later hF hR j5 q hq hqc hl).2
  unfold wpOpIn
  rw [ho]
  simp only
  cases hsp.2.2.2.1 with
  | off hg hv he _ =>
    rw [← hgu] at hg
    have hw := guard_rel j2 c4 hg
    rw [hw]
    simp only [Bool.false_eq_true, if_false]
    rw [put_act]
    exact ⟨fun _ _ => trivial, hK _ _ (stay he _ (by rw [hv]; exact VR.undef))⟩
  | pure hg ao h' hcl hop ha he _ =>
    rw [← hgu] at hg
    have hw := guard_rel j2 c4 hg
    rw [hw, if_pos rfl]
    refine stayw he ?_
    rw [compRK_congr c1 hev, hop]
    exact pure_form (by rw [← hop, hF.cls e hR.mem]; exact hcl) ha _
  | read hg ao h' hcl hop ha he hrd =>
    rw [← hgu] at hg
    have hw := guard_rel j2 c4 hg
    rw [hw, if_pos rfl]
    refine stayw he ?_
    rw [compRK_congr c1 hev, hop]
    obtain ⟨B, h'', b1, b2⟩ := hR.read_now (T0 := T0) hF hG hT hst hdead hcl (by rw [hrd]; simp) ha
    exact read_form (by rw [← hop, hF.cls e hR.mem]; exact hcl) b2 b1
  | fresh hg ao h' hcl hop ha he _ =>
    rw [← hgu] at hg
    have hw := guard_rel j2 c4 hg
    rw [hw, if_pos rfl]
    have hcl2 : clsOf (.plain ao) = .fresh := by rw [← hop, hF.cls e hR.mem]; exact hcl
    rw [hop] at c1
    have cao : ∃ aq, compOp P o.op = some aq ∧ aq = ao := by
      rcases c1 with c1 | ⟨_, _, _, _, c1⟩
      rotate_left
      · cases c1
      unfold compRK at c1
      split at c1
      · split at c1 <;> simp at c1
      · split at c1 <;> simp at c1
      · split at c1 <;> simp at c1
      · obtain ⟨aq, q1, q2⟩ := obind c1
        injection q2 with q2
        exact ⟨aq, q1, q2⟩
    obtain ⟨aq, cao, haq⟩ := cao
    rw [haq] at cao
    have hev2 : aop pk ao (aeval (foldT T0 (LD E listed))) ⟨s + e.d.slot, .leaf⟩ = aop pk ao (aeval e.st.T) ⟨s + e.d.slot, .leaf⟩ := compOp_congr cao hev
    have ha2 := hev2.trans ha
    obtain ⟨sh, ob, f1, f2, f3, f4, f5, f6⟩ := fresh_form (nb := (foldH s h0 (LD E listed)).next) (σ := σ) (compOp_ok cao) hcl2 (fun x hx => j2.eval (a := a) rfl hx) ha2
    have hH : foldH s h0 (LD E listed) = ⟨(foldH s h0 (LD E listed)).next, (foldH s h0 (LD E listed)).t⟩ := rfl
    have hrk : doOp pk call rnd (.plain ao) (aeval (foldT T0 (LD E listed))) (foldH s h0 (LD E listed)) = some (sh.val (foldH s h0 (LD E listed)).next, (foldH s h0 (LD E listed)).new ob) := f4 _ _
    have hslot := hF.slot e hR.mem hcl
    refine rk_wp hcs hrd hn1 hs1 c1 j1 (fun x hx => j2.eval rfl hx) hrk ?_
    intro σ' v' w' hv hI hgo
    rw [put_act]
    refine hK _ _ ?_
    have hod := hR.own_dead (s := s) (h0 := h0) hF hG hdead hcl
    obtain ⟨g1, g2, g3⟩ := Inv.slot j1 hI hgo (show s + e.d.slot < _ by omega) (j5 e hR.mem hcl hR.non) hod f5 f6
    -- the heap with e in its place
    have hpost := hR.no_chain_post hF hG (.inr hcl)
    have hob : e.eff = .fresh ob := by rw [he, f2]
    have hx : ∀ m, (foldH s h0 (LD E (listed.setIfInBounds e.d.idx true))).get m = ((foldH s h0 (LD E listed)).set (s + e.d.slot) ob).get m := by
      intro m
      rw [hR.ld' hF, hR.ld, foldH_append, foldH_append]
      show (foldH s (e.eff.cur (s + e.d.slot) (foldH s h0 (LD pre listed))) (LD post listed)).get m = _
      rw [hob]
      show (foldH s ((foldH s h0 (LD pre listed)).set (s + e.d.slot) ob) (LD post listed)).get m = _
      rw [AHeap.get_set]
      by_cases hm : m = s + e.d.slot
      · rw [if_pos hm, foldH_get _ _ _ hpost (fun q hq hfr => by rw [hm]; exact hR.post_slot hF hG hcl hq hfr), AHeap.get_set, if_pos hm]
      · rw [if_neg hm]
        exact foldH_base _ _ _ _ hpost (.inl (by rw [AHeap.get_set, if_neg hm]))
    have hn : (foldH s h0 (LD E (listed.setIfInBounds e.d.idx true))).next = ((foldH s h0 (LD E listed)).set (s + e.d.slot) ob).next := by
      rw [hR.ld' hF, hR.ld, foldH_append, foldH_append]
      show (foldH s (e.eff.cur (s + e.d.slot) (foldH s h0 (LD pre listed))) (LD post listed)).next = _
      rw [hob, AHeap.next_set, foldH_next _ _ hpost, foldH_next _ _ hpost]; rfl
    refine ⟨σ'.put (s + e.d.slot) (σ' (foldH s h0 (LD E listed)).next), g1.ext hn hx, ?_, (g3 _ _ _ (by omega) j3).ext hn hx, by rw [hn]; exact j4, ?_⟩
    · rw [hn, AHeap.next_set]
      refine hput (j2.mono' (Nat.le_refl _) g2) ?_
      rw [f1]
      exact FSh.slot (σ := σ) hv (by omega)
    · intro q hq hqc hl
      obtain ⟨r1, r2⟩ := real_later hF hR j5 q hq hqc hl
      have hsl := hF.slot q hq hqc
      have hne : s + q.d.slot ≠ s + e.d.slot := by
        rw [hR.split] at hq
        rcases List.mem_append.1 hq with h | h
        · have := (hF.ord q e (hR.before h)).2.2.2.2.2.2.1 hqc hcl; omega
        · rcases List.mem_cons.1 h with h | h
          · subst h; exact absurd rfl r1
          · have := (hF.ord e q (hR.after h)).2.2.2.2.2.2.1 hcl hqc; omega
      rw [Sig.put_ne _ _ hne, hgo.sig _ (by omega)]
      exact r2
  | chain hg h' hcl ha he _ hre hp =>
    rw [← hgu] at hg
    have hw := guard_rel j2 c4 hg
    rw [hw, if_pos rfl]
    have hpost := hR.no_chain_post hF hG (.inl hcl)
    have hH : foldH s h0 (LD E listed) = foldH s e.st.cur (LD post listed) := by
      rw [hR.ld, foldH_append, hR.pre_some hF hG hcl, ← hCe]
    have hnc : e.st.cur.next = (foldH s h0 (LD E listed)).next := by rw [hH, foldH_next _ _ hpost]
    have hsub : ∀ m, e.st.cur.get m = (foldH s h0 (LD E listed)).get m ∨ e.st.cur.get m = .dead := by
      intro m
      by_cases hm : ∃ q ∈ LD post listed, q.eff.isFresh = true ∧ s + q.d.slot = m
      · obtain ⟨q, q1, q2, rfl⟩ := hm
        have hq := mem_ld q1
        right
        rw [hCe]
        exact hR.pre_dead hF hG hdead hq ((hG q (hR.mem_post hq)).fresh_cls q2).1
      · left
        rw [hH]
        exact (foldH_get _ _ _ hpost (fun q q1 q2 q3 => hm ⟨q, q1, q2, q3⟩)).symm
    have hdrop := j1.drop hnc hsub
    have ha2 : doOp pk call rnd e.d.o.op (aeval (foldT T0 (LD E listed))) e.st.cur = some (e.v, h') := by rw [compRK_congr c1 hev]; exact ha
    refine rk_wp hcs hrd (by rw [hnc]; exact hn1) hs1 c1 hdrop (fun x hx => by rw [hnc]; exact j2.eval rfl hx) ha2 ?_
    intro σ1 v' w1 hv hI1 hgo
    rw [put_act]
    refine hK _ _ ?_
    have hH' : foldH s h0 (LD E (listed.setIfInBounds e.d.idx true)) = foldH s h' (LD post listed) := by
      rw [hR.ld' hF, foldH_append]
      show foldH s (e.eff.cur (s + e.d.slot) _) (LD post listed) = _
      rw [he]; rfl
    have hn1 : (foldH s h0 (LD E (listed.setIfInBounds e.d.idx true))).next = h'.next := by rw [hH', foldH_next _ _ hpost]
    have h2g : ∀ m, (foldH s h0 (LD E (listed.setIfInBounds e.d.idx true))).get m = h'.get m ∨
        (e.st.cur.get m = .dead ∧ (foldH s h0 (LD E (listed.setIfInBounds e.d.idx true))).get m = (foldH s h0 (LD E listed)).get m ∧ ((foldH s h0 (LD E listed)).get m).own = true) := by
      intro m
      by_cases hm : ∃ q ∈ LD post listed, q.eff.isFresh = true ∧ s + q.d.slot = m
      · right
        have hm0 := hm
        obtain ⟨q, q1, q2, rfl⟩ := hm
        have hq := mem_ld q1
        refine ⟨?_, ?_, ?_⟩
        · rw [hCe]; exact hR.pre_dead hF hG hdead hq ((hG q (hR.mem_post hq)).fresh_cls q2).1
        · rw [hH', hH]; exact foldH_base _ _ _ _ hpost (.inr hm0)
        · rw [hH]
          refine foldH_own _ _ hpost ?_ (.inr hm0)
          intro x hx ob hob
          have hxE := hR.mem_post (mem_ld hx)
          exact ((hG x hxE).fresh_cls (by rw [hob]; rfl)).2 ob hob (by rw [hF.cls x hxE]; exact ((hG x hxE).fresh_cls (by rw [hob]; rfl)).1)
      · left
        rw [hH']
        exact foldH_get _ _ _ hpost (fun q q1 q2 q3 => hm ⟨q, q1, q2, q3⟩)
    obtain ⟨i1, i2⟩ := Inv.addback j1 hnc hsub hI1 hgo hn1 h2g
    refine ⟨σ1, i1, ?_, j3.trans i2, by have := i2.next; omega, ?_⟩
    · refine hput (j2.go i2) ?_
      rw [hn1]; exact hv
    · intro q hq hqc hl
      have := hF.slot q hq hqc
      rw [i2.sig _ (by omega)]
      exact (real_later hF hR j5 q hq hqc hl).2

/-- Any order. -/
theorem any_wp (hcs : CallSound P call) (hrd : RoundOk P N0 w0 σr n0 rnd) (hn0 : n0 ≤ hh.next) (hs0 : ∀ j, j < n0 → σ0 j = σr j) (hF : DF P N ops anc k E) {st st' : DState} (hT : Trace pk call rnd s st E st') (hG : GoodAll pk call rnd s E) (hst : st.C = h0) (hst2 : st.cur = h0) (hst3 : st.T = T0)
    (hdead : ∀ j, j < k → h0.get (s + j) = .dead) (hle : hh.next ≤ s) {Q : Exit → Act → World → Prop} {a0 : Act}
    (hQ : ∀ σ' w' tm', Inv N0 w0 σ' (foldH s h0 E) w' → TR N (foldH s h0 E).next σ' (foldT T0 E) tm' → Go' σ0 hh w00 σ' (foldH s h0 E) w' → Q .normal { a0 with tmps := tm' } w') :
    ∀ (fuel : Nat) (listed : Array Bool) (tm : Array Value) (w : World), listed.size = ops.size → (E.filter fun e => !listed.getD e.d.idx false).length = fuel →
      (∀ q ∈ E, listed.getD q.d.idx false = true → ∀ i, i < ops.size → isAnc anc q.d.idx i = true → listed.getD i false = true) →
      J N0 w0 N s k h0 T0 E σ0 hh w00 listed tm w → wpAnyIn (FW ro) 0 P .any ops Q fuel listed { a0 with tmps := tm } w := by
  have idx_lt : ∀ q ∈ E, q.d.idx < ops.size := by
    intro q hq
    obtain ⟨o, ho, _⟩ := hF.comp q hq
    exact (Array.getElem?_eq_some_iff.1 ho).1
  -- where all is done
  have fin : ∀ (listed : Array Bool) (tm : Array Value) (w : World), (∀ q ∈ E, listed.getD q.d.idx false = true) → J N0 w0 N s k h0 T0 E σ0 hh w00 listed tm w → Q .normal { a0 with tmps := tm } w := by
    intro listed tm w hall ⟨σ, j1, j2, j3, j4, j5⟩
    have e1 : LD E listed = E := by unfold LD; rw [List.filter_eq_self]; exact hall
    rw [e1] at j1 j2 j3
    exact hQ σ w tm j1 j2 j3
  -- where none is ready, all is done
  have none_ready : ∀ (listed : Array Bool), listed.size = ops.size → Region.ready .any ops listed = [] → ∀ q ∈ E, listed.getD q.d.idx false = true := by
    intro listed hsz hr
    have : ∀ n i, i < n → i < ops.size → listed.getD i false = true := by
      intro n
      induction n with
      | zero => intro i hi; omega
      | succ n ih =>
        intro i hi hi2
        cases hl : listed.getD i false with
        | true => rfl
        | false =>
          exfalso
          have hm : i ∈ Region.ready .any ops listed := by
            rw [mem_ready]
            refine ⟨?_, ops[i], by simp [hi2], fun ed hed hb => ih ed.on ?_ ?_⟩
            · have hi3 : i < listed.size := by omega
              simp [Array.getD_eq_getD_getElem?, hi3] at hl ⊢; exact hl
            · have := hF.edge i ops[i] (by simp [hi2]) ed hed hb; omega
            · have := hF.edge i ops[i] (by simp [hi2]) ed hed hb; omega
          rw [hr] at hm; simp at hm
    exact fun q hq => this (q.d.idx + 1) _ (by omega) (idx_lt q hq)
  intro fuel
  induction fuel with
  | zero =>
    intro listed tm w hsz hf hcl hJ
    have hall : ∀ q ∈ E, listed.getD q.d.idx false = true := by
      intro q hq
      cases hl : listed.getD q.d.idx false with
      | true => rfl
      | false =>
        exfalso
        have : q ∈ E.filter fun e => !listed.getD e.d.idx false := List.mem_filter.2 ⟨hq, by rw [hl]; rfl⟩
        rw [List.length_eq_zero_iff.1 hf] at this; simp at this
    refine ⟨?_, fin listed tm w hall hJ⟩
    rw [List.eq_nil_iff_forall_not_mem]
    intro j hj
    rw [mem_ready] at hj
    obtain ⟨hj1, o, ho, _⟩ := hj
    have hjl := (Array.getElem?_eq_some_iff.1 ho).1
    obtain ⟨q, hq, rfl⟩ := hF.all j hjl
    have h2 := hall q hq
    have hjs : q.d.idx < listed.size := by omega
    simp [Array.getD_eq_getD_getElem?, hjs] at hj1 h2
    rw [hj1] at h2; cases h2
  | succ fuel ih =>
    intro listed tm w hsz hf hcl hJ
    refine ⟨fun hr => fin listed tm w (none_ready listed hsz hr) hJ, ?_⟩
    intro j hj
    rw [mem_ready] at hj
    obtain ⟨hj1, o, ho, hed⟩ := hj
    have hjl := (Array.getElem?_eq_some_iff.1 ho).1
    obtain ⟨e, he, rfl⟩ := hF.all j hjl
    obtain ⟨pre, post, hE⟩ := List.append_of_mem he
    have hjs : e.d.idx < listed.size := by omega
    have hnon : listed.getD e.d.idx false = false := by
      simp [Array.getD_eq_getD_getElem?, hjs] at hj1 ⊢; exact hj1
    have hup : ∀ i, i < ops.size → isAnc anc e.d.idx i = true → listed.getD i false = true := by
      intro i hi ha
      obtain ⟨ed, h1, h2, h3⟩ := hF.up _ i o ho hi ha
      have h4 := hed ed h1 h2
      rcases h3 with h3 | h3
      · rw [← h3]; exact h4
      · have h5 := hF.edge _ o ho ed h1 h2
        obtain ⟨q, hq, hqe⟩ := hF.all ed.on (by omega)
        rw [← hqe] at h4 h3
        exact hcl q hq h4 i hi h3
    have hR : Rdy ops anc E listed pre e post := ⟨hE, hnon, hjs, fun q hq ha => hup _ (idx_lt q hq) ha, fun q hq hl ha => by
      have := hcl q hq hl _ hjl ha
      rw [hnon] at this; cases this⟩
    refine step_wp hcs hrd hn0 hs0 hF hR hT hG hst hst2 hst3 hdead hle hJ ?_
    intro tm' w' hJ'
    refine ih _ tm' w' (by simpa using hsz) ?_ ?_ hJ'
    · -- one fewer
      have hne : ∀ q ∈ pre, e.d.idx ≠ q.d.idx := fun q hq => (hF.ord q e (hR.before hq)).2.1.symm
      have hne2 : ∀ q ∈ post, e.d.idx ≠ q.d.idx := fun q hq => (hF.ord e q (hR.after hq)).2.1
      rw [hE, List.filter_append, List.length_append, List.filter_cons_of_pos (by rw [hnon]; rfl), List.length_cons] at hf
      rw [hE, List.filter_append, List.length_append, List.filter_cons_of_neg (by simp [Array.getD_eq_getD_getElem?, hjs])]
      have f1 : (pre.filter fun q => !(listed.setIfInBounds e.d.idx true).getD q.d.idx false) = pre.filter fun q => !listed.getD q.d.idx false := filter_same fun q hq => by rw [getD_set_ne false (hne q hq)]
      have f2 : (post.filter fun q => !(listed.setIfInBounds e.d.idx true).getD q.d.idx false) = post.filter fun q => !listed.getD q.d.idx false := filter_same fun q hq => by rw [getD_set_ne false (hne2 q hq)]
      rw [f1, f2]; omega
    · intro q hq hl i hi ha
      by_cases hqe : e.d.idx = q.d.idx
      · rw [← hqe] at ha
        exact getD_set_true (hup i hi ha)
      · rw [getD_set_ne false hqe] at hl
        exact getD_set_true (hcl q hq hl i hi ha)
end

/-- Regions that draw are compiled soundly. -/
theorem draw_sound {P : Program} {pk : Bool} {call : CallT} (hm : P.follows .mixedOrders = true) (hcs : CallSound P call) (N : Nat) : DrawSound P pk call N := by
  intro id ops k ds hcomp ro rnd T T' h h' hrun N0 w0 σr n0 σ w a Q hrd hn0 hs0 hI hTR hQ
  unfold compDraw at hcomp
  split at hcomp
  · rename_i rs hrs
    simp only at hcomp
    split at hcomp
    · rename_i hok
      injection hcomp with hcomp
      simp only [Prod.mk.injEq] at hcomp
      obtain ⟨rfl, rfl⟩ := hcomp
      unfold aDraw at hrun
      simp only at hrun
      split at hrun
      · rename_i st' hst'
        simp only [Option.some.injEq, Prod.mk.injEq] at hrun
        obtain ⟨rfl, rfl⟩ := hrun
        obtain ⟨E, hE, hTr⟩ := dRun_trace hst'
        have hF : DF P N ops (mkDraw ops rs).1 (mkDraw ops rs).2.1 E := by
          refine drawOk_df hrs ?_ (by rw [hE]; exact hok)
          intro e he
          have : e.d ∈ E.map (·.d) := List.mem_map_of_mem he
          rw [hE] at this
          obtain ⟨d, _, hd⟩ := List.mem_map.1 this
          rw [← hd]
        have hG : GoodAll pk call rnd h.next E := by
          intro q hq
          obtain ⟨pre, post, hs⟩ := List.append_of_mem hq
          exact (Trace.split (by rw [← hs]; exact hTr)).2.2.2.1
        have hlast := hTr.last
        simp only at hlast
        have hdead : ∀ j, j < (mkDraw ops rs).2.1 → (⟨h.next + (mkDraw ops rs).2.1, h.t⟩ : AHeap).get (h.next + j) = .dead := fun j hj => hI.fresh _ (Nat.le_add_right _ _)
        refine wpIn_region_any hm ?_
        refine any_wp (s := h.next) (h0 := ⟨h.next + (mkDraw ops rs).2.1, h.t⟩) (T0 := T) (σ0 := σ) (hh := h) (w00 := w) (N0 := N0) (w0 := w0) hcs hrd hn0 hs0 hF hTr hG rfl rfl rfl hdead (Nat.le_refl _) (a0 := a) ?_ ops.size _ a.tmps _ (by simp) ?_ ?_ ?_
        · intro σ' w' tm' i1 i2 i3
          rw [hlast.1, hlast.2] at hQ
          exact hQ σ' w' tm' i1 i2 i3
        · have hnd : (E.filter fun e => !(Array.replicate ops.size false).getD e.d.idx false) = E := by
            rw [List.filter_eq_self]; intro q hq
            simp [Array.getD_eq_getD_getElem?, Array.getElem?_replicate]
            split <;> rfl
          rw [hnd]
          have hl : (E.map (·.d)).length = ops.size := by
            rw [hE]
            unfold drawOk at hok
            simp only [Bool.and_eq_true, decide_eq_true_eq] at hok
            exact hok.1.1.1.1.1.1.1.1
          simpa using hl
        · intro q hq hl
          exfalso
          simp [Array.getD_eq_getD_getElem?, Array.getElem?_replicate] at hl
          split at hl <;> cases hl
        · have e1 : LD E (Array.replicate ops.size false) = [] := by
            unfold LD
            refine filter_false fun q hq => ?_
            simp [Array.getD_eq_getD_getElem?, Array.getElem?_replicate]
            split <;> rfl
          refine ⟨fun m => if h.next ≤ m then { σ m with real := false } else σ m, ?_, ?_, ?_, ?_, ?_⟩
          · rw [e1]
            have hI2 := hI.drawn (w.drawn + 1)
            refine ⟨hI2.below, fun m hm => hI2.fresh m (by simp [foldH] at hm; omega), ?_, ?_, ?_, ?_, hI2.base⟩
            · intro m
              show AObj.at _ _ _ _ (h.get m)
              refine AObj.at_mono' (hI2.obj m) (by simp [foldH]) ?_ ?_ (fun _ => rfl)
              · intro j hj; simp only; rw [if_neg (by have := hj.1; omega)]
              · intro hl; have := hI.lt_next hl; simp only; rw [if_neg (by omega)]
            · intro m hm
              have := hI.low m hm
              simp only; split <;> exact this
            · intro m hm ho
              have := hI.high m hm ho
              simp only; split <;> exact this
            · intro m m' hm hm' hne
              have := hI.inj m m' hm hm' hne
              simp only; split <;> split <;> exact this
          · rw [e1]
            refine TR.mono' hTR (by simp [foldH]) ?_
            intro j hj; simp only; rw [if_neg (by have := hj.1; omega)]
          · rw [e1]
            refine ⟨by simp [foldH], fun m hm => by simp only; rw [if_neg (by omega)], Nat.le_refl _, fun _ _ _ => rfl, ?_⟩
            rintro b ⟨m, hm, hb⟩
            refine .inl ⟨m, hm, ?_⟩
            rw [← hb]; simp only; split <;> rfl
          · rw [e1]; simp [foldH]
          · intro q hq hc hl
            simp only; rw [if_pos (by omega)]
      · cases hrun
    · cases hcomp
  · cases hcomp
end
end Go.AM
