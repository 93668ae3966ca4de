import Derived.Test.YtoehafeeoggpkaaAM20
set_option linter.unusedVariables false
set_option linter.unusedSimpArgs false
/-! Part 21: a region whose order is open: every order answers as the text's. The trace of the canonical run. -/
namespace Go.AM
noncomputable section
open Go.RowKit

/-- What is named by known numbers alone is so behind any later state. -/
theorem VR.narrow {n n' : Nat} {σ σ' : Sig} (hs : ∀ m, Okm n σ m → σ' m = σ m) {v u : Value} (h1 : VR n σ v u) : ∀ {v' : Value}, VR n' σ' v v' → VR n σ v v' := by
  induction h1 with
  | bool b => intro v' h2; cases h2; exact .bool b
  | int k i => intro v' h2; cases h2; exact .int k i
  | str s => intro v' h2; cases h2; exact .str s
  | nilp => intro v' h2; cases h2; exact .nilp
  | ptr m o hm => intro v' h2; cases h2; rw [hs m hm]; exact .ptr m o hm
  | nils => intro v' h2; cases h2; exact .nils
  | sl m o len cap hm hr =>
    intro v' h2
    have e := hs m hm
    cases h2 with
    | sl _ _ _ _ hm2 hr2 => rw [e]; exact .sl m o len cap hm hr
    | slg _ _ _ _ cap' es ext hm2 hr2 hl hc he => rw [e, hr] at hr2; cases hr2
    | sle _ _ p es ext hm2 hr2 => rw [e, hr] at hr2; cases hr2
  | slg m o len cap cap' es ext hm hr hl hc he =>
    intro v' h2
    have e := hs m hm
    cases h2 with
    | sl _ _ _ _ hm2 hr2 => rw [e, hr] at hr2; cases hr2
    | slg _ _ _ _ cap'' es' ext' hm2 hr2 hl2 hc2 he2 => rw [e] at hr2 ⊢; exact .slg m o len cap cap'' es' ext' hm hr2 hl2 hc2 he2
    | sle _ _ p es' ext' hm2 hr2 => rw [e] at hr2 ⊢; exact .sle m o p es' ext' hm hr2
  | sle m o p es ext hm hr =>
    intro v' h2
    have e := hs m hm
    cases h2 with
    | sl _ _ _ _ hm2 hr2 => rw [e, hr] at hr2; cases hr2
    | slg _ _ _ _ cap'' es' ext' hm2 hr2 hl2 hc2 he2 => rw [e] at hr2 ⊢; exact .slg m o 0 0 cap'' es' ext' hm hr2 hl2 hc2 he2
    | sle _ _ p' es' ext' hm2 hr2 => rw [e] at hr2 ⊢; exact .sle m o p' es' ext' hm hr2
  | nilm => intro v' h2; cases h2; exact .nilm
  | map m hm => intro v' h2; cases h2; rw [hs m hm]; exact .map m hm
  | yld m hm =>
    intro v' h2
    cases h2 with
    | yld => rw [hs m hm]; exact .yld m hm
    | func _ hf => cases hf
  | func f hf a a' b b' ha hb hav hbv iha ihb =>
    intro v' h2
    cases h2 with
    | func _ _ _ a2 _ b2 ha2 hb2 hav2 hbv2 =>
      refine .func f hf a a2 b b2 ha2 hb2 ?_ ?_
      · intro i v w e1 e2
        have hi : i < a.size := (Array.getElem?_eq_some_iff.1 e1).1
        exact iha i v _ e1 (Array.getElem?_eq_getElem (by omega)) (hav2 i v w e1 e2)
      · intro i v w e1 e2
        have hi : i < b.size := (Array.getElem?_eq_some_iff.1 e1).1
        exact ihb i v _ e1 (Array.getElem?_eq_getElem (by omega)) (hbv2 i v w e1 e2)
    | yld => cases hf
  | nilF => intro v' h2; cases h2; exact .nilF
  | nilI => intro v' h2; cases h2; exact .nilI
  | iface t v v' hv ih => intro v' h2; cases h2 with | iface _ _ _ h3 => exact .iface _ _ _ (ih h3)
  | agg a a' ha hav ih =>
    intro v' h2
    cases h2 with
    | agg _ a2 ha2 hav2 =>
      refine .agg a a2 ha2 fun i v w e1 e2 => ?_
      have hi : i < a.size := (Array.getElem?_eq_some_iff.1 e1).1
      exact ih i v _ e1 (Array.getElem?_eq_getElem (by omega)) (hav2 i v w e1 e2)
  | tup a a' ha hav ih =>
    intro v' h2
    cases h2 with
    | tup _ a2 ha2 hav2 =>
      refine .tup a a2 ha2 fun i v w e1 e2 => ?_
      have hi : i < a.size := (Array.getElem?_eq_some_iff.1 e1).1
      exact ih i v _ e1 (Array.getElem?_eq_getElem (by omega)) (hav2 i v w e1 e2)

theorem toList_inj' {α : Type} {a b : Array α} (h : a.toList = b.toList) : a = b := by
  cases a; cases b; simp_all
theorem bytes_eq {a b : ByteArray} (h : a.data.toList = b.data.toList) : a = b := by
  cases a; cases b; simp at h; simp [h]
theorem beqVL : ∀ (n : Nat), (∀ a b, beqV n a b = true → a = b) ∧ (∀ l m, beqL n l m = true → l = m)
  | 0 => by
    constructor
    · intro a b h
      cases a <;> cases b <;> simp only [beqV, Bool.false_eq_true, Bool.and_eq_true, decide_eq_true_eq, beq_iff_eq] at h <;> (first | (cases h; done) | skip)
      all_goals first
        | rfl
        | (subst h; rfl)
        | (obtain ⟨h1, h2⟩ := h; subst h1; subst h2; rfl)
        | (obtain ⟨⟨h1, h2⟩, h3⟩ := h; subst h1; subst h2; subst h3; rfl)
        | (rw [bytes_eq h])
    · intro l m h
      cases l <;> cases m <;> simp only [beqL, Bool.false_eq_true] at h <;> (first | (cases h; done) | rfl)
  | n + 1 => by
    obtain ⟨ih1, ih2⟩ := beqVL n
    constructor
    · intro a b h
      cases a <;> cases b <;> simp only [beqV, Bool.false_eq_true, Bool.and_eq_true, decide_eq_true_eq, beq_iff_eq] at h <;> (first | (cases h; done) | skip)
      all_goals first
        | rfl
        | (subst h; rfl)
        | (obtain ⟨h1, h2⟩ := h; subst h1; subst h2; rfl)
        | (obtain ⟨⟨h1, h2⟩, h3⟩ := h; subst h1; subst h2; subst h3; rfl)
        | (rw [bytes_eq h])
        | (obtain ⟨h1, h2⟩ := h; subst h1; rw [ih1 _ _ h2])
        | (rw [toList_inj' (ih2 _ _ h)])
    · intro l m h
      cases l <;> cases m <;> simp only [beqL, Bool.false_eq_true, Bool.and_eq_true] at h <;> (first | (cases h; done) | rfl | skip)
      obtain ⟨h1, h2⟩ := h
      rw [ih1 _ _ h1, ih2 _ _ h2]

theorem recheck_spec {pk : Bool} {h : AHeap} {js : List Nat} : ∀ {rd : List (Nat × AOp × Tr Value × Value)}, recheck pk h js rd = true → ∀ j ao T v, (j, ao, T, v) ∈ rd → js.contains j = true → ∃ h', aop pk ao (aeval T) h = some (v, h')
  | [], _, j, ao, T, v, hm, _ => by simp at hm
  | (j0, ao0, T0, v0) :: r, hr, j, ao, T, v, hm, hj => by
    simp only [recheck, Bool.and_eq_true] at hr
    rcases List.mem_cons.1 hm with e | hm
    · simp only [Prod.mk.injEq] at e
      obtain ⟨rfl, rfl, rfl, rfl⟩ := e
      have h1 := hr.1
      rw [if_pos hj] at h1
      split at h1
      · rename_i v' h' hv
        have := (beqVL 10000).1 _ _ h1
        subst this
        exact ⟨h', hv⟩
      · cases h1
    · exact recheck_spec hr.2 j ao T v hm hj

/-! ### the trace -/
inductive Eff where
  | none
  | fresh (o : AObj)
  | chain (h : AHeap)
structure Ent where
  d : DOp
  st : DState
  v : Value
  eff : Eff
  rd : List (Nat × AOp × Tr Value × Value)
def Eff.cur (slot : Nat) (h : AHeap) : Eff → AHeap
  | .none => h
  | .fresh o => h.set slot o
  | .chain h' => h'
def Eff.C (h : AHeap) : Eff → AHeap
  | .chain h' => h'
  | _ => h
def Ent.next (s : Nat) (e : Ent) : DState := { T := putT e.st.T e.d.o.dst e.v, C := e.eff.C e.st.C, cur := e.eff.cur (s + e.d.slot) e.st.cur, rd := e.rd }

inductive Good (pk : Bool) (call : CallT) (rnd : RoundT) (s : Nat) (e : Ent) : Prop
  | off (hg : guardOn e.st.T e.d.o.guard = some false) (hv : e.v = undef) (he : e.eff = .none) (hr : e.rd = e.st.rd)
  | pure (hg : guardOn e.st.T e.d.o.guard = some true) (ao : AOp) (h' : AHeap) (hc : e.d.cls = .pure) (ho : e.d.o.op = .plain ao) (ha : aop pk ao (aeval e.st.T) e.st.C = some (e.v, h')) (he : e.eff = .none) (hr : e.rd = e.st.rd)
  | read (hg : guardOn e.st.T e.d.o.guard = some true) (ao : AOp) (h' : AHeap) (hc : e.d.cls = .read) (ho : e.d.o.op = .plain ao) (ha : aop pk ao (aeval e.st.T) e.st.C = some (e.v, h')) (he : e.eff = .none) (hr : e.rd = (e.d.idx, ao, e.st.T, e.v) :: e.st.rd)
  | fresh (hg : guardOn e.st.T e.d.o.guard = some true) (ao : AOp) (h' : AHeap) (hc : e.d.cls = .fresh) (ho : e.d.o.op = .plain ao) (ha : aop pk ao (aeval e.st.T) ⟨s + e.d.slot, .leaf⟩ = some (e.v, h')) (he : e.eff = .fresh (h'.get (s + e.d.slot))) (hr : e.rd = e.st.rd)
  | chain (hg : guardOn e.st.T e.d.o.guard = some true) (h' : AHeap) (hc : e.d.cls = .chain) (ha : doOp pk call rnd e.d.o.op (aeval e.st.T) e.st.cur = some (e.v, h')) (he : e.eff = .chain h') (hr : e.rd = e.st.rd)
      (hre : recheck pk h' e.d.re e.st.rd = true) (hp : e.d.pend.all (fun k => !(h'.get (s + k)).live) = true)

def Trace (pk : Bool) (call : CallT) (rnd : RoundT) (s : Nat) : DState → List Ent → DState → Prop
  | st, [], st' => st' = st
  | st, e :: E, st' => e.st = st ∧ Good pk call rnd s e ∧ Trace pk call rnd s (e.next s) E st'

theorem dStep_good {pk : Bool} {call : CallT} {rnd : RoundT} {s : Nat} {d : DOp} {st st' : DState} (h : dStep pk call rnd s d st = some st') : ∃ e : Ent, e.d = d ∧ e.st = st ∧ Good pk call rnd s e ∧ e.next s = st' := by
  unfold dStep at h
  split at h
  · cases h
  · rename_i hg
    injection h with h
    exact ⟨⟨d, st, undef, .none, st.rd⟩, rfl, rfl, .off hg rfl rfl rfl, h⟩
  · rename_i hg
    split at h
    · rename_i ao hc ho
      split at h
      · rename_i v h' ha
        injection h with h
        exact ⟨⟨d, st, v, .none, st.rd⟩, rfl, rfl, .pure hg ao h' hc ho ha rfl rfl, h⟩
      · cases h
    · rename_i ao hc ho
      split at h
      · rename_i v h' ha
        injection h with h
        exact ⟨⟨d, st, v, .none, _⟩, rfl, rfl, .read hg ao h' hc ho ha rfl rfl, h⟩
      · cases h
    · rename_i ao hc ho
      split at h
      · rename_i v h' ha
        split at h
        · cases h
        · injection h with h
          exact ⟨⟨d, st, v, .fresh _, st.rd⟩, rfl, rfl, .fresh hg ao h' hc ho ha rfl rfl, h⟩
      · cases h
    · rename_i op hc
      split at h
      · rename_i v h' ha
        split at h
        · rename_i hb
          simp only [Bool.and_eq_true] at hb
          injection h with h
          exact ⟨⟨d, st, v, .chain h', st.rd⟩, rfl, rfl, .chain hg h' hc ha rfl rfl hb.1 hb.2, h⟩
        · cases h
      · cases h
    · cases h

theorem dRun_trace {pk : Bool} {call : CallT} {rnd : RoundT} {s : Nat} : ∀ {ds : List DOp} {st st' : DState}, dRun pk call rnd s ds st = some st' → ∃ E : List Ent, E.map (·.d) = ds ∧ Trace pk call rnd s st E st'
  | [], st, st', h => by simp only [dRun, Option.some.injEq] at h; exact ⟨[], rfl, h.symm⟩
  | d :: r, st, st', h => by
    simp only [dRun] at h
    split at h
    · rename_i st1 h1
      obtain ⟨e, rfl, rfl, hg, rfl⟩ := dStep_good h1
      obtain ⟨E, h2, h3⟩ := dRun_trace h
      exact ⟨e :: E, by simp [h2], rfl, hg, h3⟩
    · cases h

def foldT (T : Tr Value) (L : List Ent) : Tr Value := L.foldl (fun T e => putT T e.d.o.dst e.v) T
def foldH (s : Nat) (h : AHeap) (L : List Ent) : AHeap := L.foldl (fun h e => e.eff.cur (s + e.d.slot) h) h
def foldC (h : AHeap) (L : List Ent) : AHeap := L.foldl (fun h e => e.eff.C h) h

theorem Trace.split {pk : Bool} {call : CallT} {rnd : RoundT} {s : Nat} : ∀ {pre : List Ent} {e : Ent} {post : List Ent} {st st' : DState}, Trace pk call rnd s st (pre ++ e :: post) st' →
    e.st.T = foldT st.T pre ∧ e.st.cur = foldH s st.cur pre ∧ e.st.C = foldC st.C pre ∧ Good pk call rnd s e ∧
    (∀ r ∈ pre, ∀ x ∈ r.rd, x ∈ e.st.rd) ∧ (∀ x ∈ st.rd, x ∈ e.st.rd)
  | [], e, post, st, st', h => by
    obtain ⟨rfl, hg, _⟩ := h
    exact ⟨rfl, rfl, rfl, hg, fun r hr => by simp at hr, fun x hx => hx⟩
  | p :: pre, e, post, st, st', h => by
    obtain ⟨rfl, hg, h3⟩ := h
    obtain ⟨q1, q2, q3, q4, q5, q6⟩ := Trace.split h3
    refine ⟨q1, q2, q3, q4, ?_, ?_⟩
    · intro r hr x hx
      rcases List.mem_cons.1 hr with rfl | hr
      · exact q6 x hx
      · exact q5 r hr x hx
    · intro x hx
      refine q6 x ?_
      show x ∈ p.rd
      cases hg with
      | off _ _ _ hr => rw [hr]; exact hx
      | pure _ _ _ _ _ _ _ hr => rw [hr]; exact hx
      | read _ _ _ _ _ _ _ hr => rw [hr]; exact List.mem_cons_of_mem _ hx
      | fresh _ _ _ _ _ _ _ hr => rw [hr]; exact hx
      | chain _ _ _ _ _ hr _ _ => rw [hr]; exact hx
theorem Trace.last {pk : Bool} {call : CallT} {rnd : RoundT} {s : Nat} : ∀ {E : List Ent} {st st' : DState}, Trace pk call rnd s st E st' → st'.T = foldT st.T E ∧ st'.cur = foldH s st.cur E
  | [], st, st', h => by subst h; exact ⟨rfl, rfl⟩
  | p :: E, st, st', h => by
    obtain ⟨rfl, hg, h3⟩ := h
    have h4 := Trace.last h3
    exact h4

/-! ### folds over parts of the trace -/
theorem foldT_get (L : List Ent) (T : Tr Value) (t : Nat) : (foldT T L).get t = (foldT T (L.filter fun e => decide (e.d.o.dst = some t))).get t := by
  induction L generalizing T with
  | nil => rfl
  | cons e L ih =>
    by_cases he : e.d.o.dst = some t
    · rw [List.filter_cons_of_pos (by simpa using he)]
      exact ih _
    · show (foldT (putT T e.d.o.dst e.v) L).get t = _
      rw [ih]
      have : ∀ (M : List Ent) (T T' : Tr Value), T.get t = T'.get t → (foldT T M).get t = (foldT T' M).get t := by
        intro M
        induction M with
        | nil => intro T T' h; exact h
        | cons x M ihM =>
          intro T T' h
          refine ihM _ _ ?_
          show (putT T x.d.o.dst x.v).get t = (putT T' x.d.o.dst x.v).get t
          cases x.d.o.dst with
          | none => exact h
          | some k =>
            simp only [putT, Tr.get_set]
            by_cases hk : t = k
            · rw [if_pos hk, if_pos hk]
            · rw [if_neg hk, if_neg hk]; exact h
      rw [List.filter_cons_of_neg (by simpa using he)]
      refine this _ _ _ ?_
      cases hd : e.d.o.dst with
      | none => rfl
      | some k =>
        simp only [putT, Tr.get_set]
        rw [if_neg (fun e2 => he (by rw [hd, e2]))]
theorem foldT_congr {L M : List Ent} {T : Tr Value} {t : Nat} (h : (L.filter fun e => decide (e.d.o.dst = some t)) = M.filter fun e => decide (e.d.o.dst = some t)) : (foldT T L).get t = (foldT T M).get t := by
  rw [foldT_get L, foldT_get M, h]
theorem foldT_append (L M : List Ent) (T : Tr Value) : foldT T (L ++ M) = foldT (foldT T L) M := by simp [foldT]
theorem foldH_append (s : Nat) (L M : List Ent) (h : AHeap) : foldH s h (L ++ M) = foldH s (foldH s h L) M := by simp [foldH]

def Eff.some : Eff → Bool
  | .none => false
  | _ => true
def Eff.isChain : Eff → Bool
  | .chain _ => true
  | _ => false
def Eff.isFresh : Eff → Bool
  | .fresh _ => true
  | _ => false
theorem foldH_filter (s : Nat) (h : AHeap) (L : List Ent) : foldH s h L = foldH s h (L.filter fun e => e.eff.some) := by
  induction L generalizing h with
  | nil => rfl
  | cons e L ih =>
    cases he : e.eff with
    | none => rw [List.filter_cons_of_neg (by simp [he, Eff.some])]; show foldH s (e.eff.cur _ h) L = _; rw [he]; exact ih h
    | fresh o => rw [List.filter_cons_of_pos (by simp [he, Eff.some])]; exact ih _
    | chain h' => rw [List.filter_cons_of_pos (by simp [he, Eff.some])]; exact ih _
theorem foldH_congr {s : Nat} {h : AHeap} {L M : List Ent} (e : (L.filter fun e => e.eff.some) = M.filter fun e => e.eff.some) : foldH s h L = foldH s h M := by
  rw [foldH_filter s h L, foldH_filter s h M, e]
theorem foldC_filter (h : AHeap) (L : List Ent) : foldC h L = foldC h (L.filter fun e => e.eff.isChain) := by
  induction L generalizing h with
  | nil => rfl
  | cons e L ih =>
    cases he : e.eff with
    | none => rw [List.filter_cons_of_neg (by simp [he, Eff.isChain])]; show foldC (e.eff.C h) L = _; rw [he]; exact ih h
    | fresh o => rw [List.filter_cons_of_neg (by simp [he, Eff.isChain])]; show foldC (e.eff.C h) L = _; rw [he]; exact ih h
    | chain h' => rw [List.filter_cons_of_pos (by simp [he, Eff.isChain])]; exact ih _
theorem foldC_congr {h : AHeap} {L M : List Ent} (e : (L.filter fun e => e.eff.isChain) = M.filter fun e => e.eff.isChain) : foldC h L = foldC h M := by
  rw [foldC_filter h L, foldC_filter h M, e]

/-- Behind effects that are no chain's: some numbers more. -/
theorem foldH_next {s : Nat} : ∀ (L : List Ent) (h : AHeap), (∀ e ∈ L, e.eff.isChain = false) → (foldH s h L).next = h.next
  | [], h, _ => rfl
  | e :: L, h, hn => by
    show (foldH s (e.eff.cur _ h) L).next = _
    rw [foldH_next L _ (fun x hx => hn x (List.mem_cons_of_mem _ hx))]
    have := hn e (by simp)
    cases he : e.eff <;> simp [he, Eff.isChain] at this <;> rfl
/-- The fresh one of a number, if there is one. -/
theorem foldH_get {s : Nat} : ∀ (L : List Ent) (h : AHeap) (m : Nat), (∀ e ∈ L, e.eff.isChain = false) → (∀ e ∈ L, e.eff.isFresh = true → s + e.d.slot ≠ m) → (foldH s h L).get m = h.get m
  | [], h, m, _, _ => rfl
  | e :: L, h, m, hn, hm => by
    show (foldH s (e.eff.cur _ h) L).get m = _
    rw [foldH_get L _ m (fun x hx => hn x (List.mem_cons_of_mem _ hx)) (fun x hx => hm x (List.mem_cons_of_mem _ hx))]
    have := hn e (by simp)
    have h2 := hm e (by simp)
    cases he : e.eff with
    | none => rfl
    | chain h' => simp [he, Eff.isChain] at this
    | fresh o => simp only [Eff.cur, AHeap.get_set]; rw [if_neg (fun x => h2 (by simp [he, Eff.isFresh]) x.symm)]
theorem foldH_base {s : Nat} : ∀ (L : List Ent) (h h2 : AHeap) (m : Nat), (∀ e ∈ L, e.eff.isChain = false) → (h.get m = h2.get m ∨ ∃ e ∈ L, e.eff.isFresh = true ∧ s + e.d.slot = m) → (foldH s h L).get m = (foldH s h2 L).get m
  | [], h, h2, m, _, hm => by
    rcases hm with hm | ⟨e, he, _⟩
    · exact hm
    · simp at he
  | e :: L, h, h2, m, hn, hm => by
    show (foldH s (e.eff.cur _ h) L).get m = (foldH s (e.eff.cur _ h2) L).get m
    refine foldH_base L _ _ m (fun x hx => hn x (List.mem_cons_of_mem _ hx)) ?_
    have := hn e (by simp)
    rcases hm with hm | ⟨x, hx, h3, h4⟩
    · left
      cases he : e.eff with
      | none => exact hm
      | chain h' => simp [he, Eff.isChain] at this
      | fresh o => simp only [Eff.cur, AHeap.get_set, hm]
    · rcases List.mem_cons.1 hx with rfl | hx
      · left
        cases he : x.eff with
        | none => simp [he, Eff.isFresh] at h3
        | chain h' => simp [he, Eff.isChain] at this
        | fresh o => simp only [Eff.cur, AHeap.get_set]; rw [if_pos h4.symm, if_pos h4.symm]
      · exact .inr ⟨x, hx, h3, h4⟩
end
end Go.AM
