import Derived.Test.YtoehafeeoggpkaaAM17
import Derived.RangeFuncIn
import Derived.RangeFuncLeaves
import Derived.OrdersIn
import Derived.LoopNIn
import Derived.TacticsIn
set_option linter.unusedVariables false
set_option linter.unusedSimpArgs false
/-! Part 18: one operation, calls among them; operations one behind the other. -/
namespace Go.AM
noncomputable section
open Go.RowKit

/-- A call of the abstract machine says what the machine's call comes to. -/
def Runs (P : Program) (f : FuncId) (args : List Value) (h : AHeap) (r : Value) (h' : AHeap) : Prop :=
  ∀ (N0 : Nat) (w0 : World) (σ : Sig) (w : World) (cargs : List Value), Inv N0 w0 σ h w → VRL h.next σ args cargs →
    Calls P f cargs.toArray w fun e w' => ∃ σ' cr, e = .returned cr ∧ VR h'.next σ' r cr ∧ Inv N0 w0 σ' h' w' ∧ Go' σ h w σ' h' w'
def CallSound (P : Program) (call : CallT) : Prop := ∀ f args h r h', call f args h = some (r, h') → callOk P f = true ∧ Runs P f args h r h'

def TR (N n : Nat) (σ : Sig) (T : Tr Value) (tm : Array Value) : Prop := tm.size = N ∧ ∀ i, VR n σ ((T.get i).getD undef) (tm.getD i undef)

section
variable {N0 : Nat} {w0 : World} {P : Program} {σ : Sig} {h : AHeap} {w : World} {N n : Nat} {T : Tr Value} {tm : Array Value}

theorem TR.mono' {n' : Nat} {σ' : Sig} (h : TR N n σ T tm) (hn : n ≤ n') (hs : ∀ m, Okm n σ m → σ' m = σ m) : TR N n' σ' T tm := ⟨h.1, fun i => (h.2 i).mono' hn hs⟩
theorem TR.go {h h' : AHeap} {σ' : Sig} {w w' : World} (ht : TR N h.next σ T tm) (g : Go' σ h w σ' h' w') : TR N h'.next σ' T tm := ht.mono' g.next (fun m hm => g.sig m hm.1)

def putA (tm : Array Value) (dst : Option Nat) (v : Value) : Array Value :=
  match dst with
  | some d => tm.setIfInBounds d v
  | none => tm
theorem TR.put {v v' : Value} {dst : Option Nat} (h : TR N n σ T tm) (hv : VR n σ v v') (hd : dst.all (· < N) = true) : TR N n σ (putT T dst v) (putA tm dst v') := by
  cases dst with
  | none => exact h
  | some d =>
    have hd' : d < N := by simpa using hd
    refine ⟨by simpa [putA] using h.1, fun i => ?_⟩
    simp only [putT, putA, Tr.get_set]
    by_cases hi : i = d
    · subst hi
      have : i < tm.size := by rw [h.1]; exact hd'
      simp [this]
      exact hv
    · have hi' : d ≠ i := fun e => hi e.symm
      rw [if_neg hi]
      have := h.2 i
      simpa [Array.getD_eq_getD_getElem?, Array.getElem?_setIfInBounds_ne hi'] using this

theorem TR.eval (h : TR N n σ T tm) {a : Act} (ha : a.tmps = tm) {x : Operand} (hx : opdOk x = true) : VR n σ (aeval T x) (a.eval x) := by
  cases x with
  | tmp t => simp only [aeval, Act.eval, ha]; exact h.2 t
  | const v => exact VR.closed depthC v hx
  | global g => cases hx
  | func f => exact .func _ rfl _ _ _ _ rfl rfl (fun i v v' e => by simp at e) (fun i v v' e => by simp at e)

theorem TR.bool (h : TR N n σ T tm) {t : Nat} {c : Bool} (ht : T.get t = some (.bool c)) : tm.getD t undef = .bool c := by
  have := h.2 t
  rw [ht] at this
  generalize tm.getD t undef = z at this
  cases this; rfl

theorem TR.tup (h : TR N n σ T tm) {t : Nat} {a : Array Value} (ht : T.get t = some (.tuple a)) : ∃ b, tm.getD t undef = .tuple b := by
  have := h.2 t
  rw [ht] at this
  generalize tm.getD t undef = z at this
  cases this; exact ⟨_, rfl⟩

/-- A guard tells the same. -/
theorem guard_rel (h : TR N n σ T tm) {ops : Array Oper} {o : Oper} {g : Option (Nat × Bool)} {b : Bool} (hg : (match o.guard with | none => g = none | some (j, want) => ∃ t, (ops[j]?).bind (·.dst) = some t ∧ t < N ∧ g = some (t, want)))
    (hb : guardOn T g = some b) : Region.wanted o (yielded ops tm) = b := by
  unfold Region.wanted
  cases ho : o.guard with
  | none =>
    rw [ho] at hg
    simp only at hg
    subst hg
    simp only [guardOn, Option.some.injEq] at hb
    exact hb
  | some jw =>
    obtain ⟨j, want⟩ := jw
    rw [ho] at hg
    simp only at hg
    obtain ⟨t, ht, htN, rfl⟩ := hg
    simp only [guardOn] at hb
    split at hb
    · rename_i c hc
      injection hb with hb
      have h1 := h.bool hc
      have h2 : tm[t]? = some (.bool c) := by
        have : t < tm.size := by rw [h.1]; exact htN
        simpa [Array.getD_eq_getD_getElem?, this] using h1
      simp only [yielded, ht, Option.bind_some, h2]
      rw [← hb]
      cases c <;> cases want <;> rfl
    · rename_i a hc
      split at hb
      · injection hb with hb
        obtain ⟨x, h1⟩ := h.tup hc
        have h2 : tm[t]? = some (.tuple x) := by
          have : t < tm.size := by rw [h.1]; exact htN
          simpa [Array.getD_eq_getD_getElem?, this] using h1
        simp only [yielded, ht, Option.bind_some, h2]
        rw [← hb]
        rfl
      · cases hb
    · cases hb

theorem callOk_spec {f : FuncId} (h : callOk P f = true) : ∃ fn b, P.funcs[f]? = some fn ∧ (fn.name == "runtime.NumGoroutine") = false ∧ fn.body = some b := by
  unfold callOk at h
  split at h
  · rename_i fn hf
    simp only [Bool.and_eq_true, Bool.not_eq_true'] at h
    obtain ⟨b, hb⟩ := Option.isSome_iff_exists.1 h.2
    exact ⟨fn, b, hf, h.1, hb⟩
  · cases h
theorem callFunc_run {f : FuncId} {args : Array Value} (h : callOk P f = true) : (callFunc f args).run P w = .ok (.enter f args) w := by
  obtain ⟨fn, b, h1, h2, h3⟩ := callOk_spec h
  have h2' : ¬ fn.name = "runtime.NumGoroutine" := by simpa using h2
  simp [callFunc, h1, h2', h3]

theorem mtab_spec {name : String} {t f : Nat} (h : findT (mtab P name) t = some f) : t < P.types.size ∧ ∃ i m d, P.info? t = some i ∧ i.methods.find? (·.name == name) = some m ∧ m.path = #[] ∧ P.underlying t = some d ∧
    ((m.func = some (f, true) ∧ ∃ e, d = .pointer e) ∨ (m.func = some (f, false) ∧ ∀ e, d ≠ .pointer e)) := by
  have hmem : ∀ (l : List (TypeId × FuncId)), findT l t = some f → (t, f) ∈ l := by
    intro l
    induction l with
    | nil => intro h; cases h
    | cons p l ih =>
      obtain ⟨u, g⟩ := p
      intro h
      simp only [findT] at h
      split at h
      · rename_i e
        injection h with h; subst h; subst e
        simp
      · exact List.mem_cons_of_mem _ (ih h)
  have := hmem _ h
  unfold mtab at this
  rw [List.mem_filterMap] at this
  obtain ⟨t', ht', hx⟩ := this
  split at hx
  · rename_i i hi
    split at hx
    · rename_i m hm
      split at hx
      · rename_i f' e hp hf hu
        injection hx with hx; simp only [Prod.mk.injEq] at hx
        obtain ⟨rfl, rfl⟩ := hx
        exact ⟨List.mem_range.1 ht', i, m, _, hi, hm, by apply Array.ext'; exact hp, hu, .inl ⟨hf, _, rfl⟩⟩
      · cases hx
      · rename_i f' d hne hp hf hu
        injection hx with hx; simp only [Prod.mk.injEq] at hx
        obtain ⟨rfl, rfl⟩ := hx
        exact ⟨List.mem_range.1 ht', i, m, _, hi, hm, by apply Array.ext'; exact hp, hu, .inr ⟨hf, fun e he => hne e he⟩⟩
      · cases hx
    · cases hx
  · cases hx
theorem method_run {name : String} {t f : Nat} {v : Value} (h : findT (mtab P name) t = some f) : (method (P.types.size + Made.depth) t v name).run P w = .ok (f, v) w := by
  obtain ⟨hlt, i, m, d, hi, hm, hp, hu, hf⟩ := mtab_spec h
  obtain ⟨k, hk⟩ : ∃ k, P.types.size + Made.depth = k + 1 := ⟨P.types.size + Made.depth - 1, by omega⟩
  rw [hk]
  rcases hf with ⟨hf, e, rfl⟩ | ⟨hf, hne⟩
  · simp only [method, Sem.run_bind, run_typeInfo' hi, Result.andThen_ok, hm, hp, follow, Sem.run_pure, hf, receiverAt, run_underlying hu, Place.get]
  · simp only [method, Sem.run_bind, run_typeInfo' hi, Result.andThen_ok, hm, hp, follow, Sem.run_pure, hf, receiverAt, run_underlying hu]
    cases d <;> first | (exfalso; exact hne _ rfl) | simp [Place.get]

/-- The post of one operation. -/
def After (N0 : Nat) (w0 : World) (σ : Sig) (h : AHeap) (w : World) (o : Oper) (a : Act) (v : Value) (h' : AHeap) (K : Act → World → Prop) : Prop :=
  ∀ σ' v' w', VR h'.next σ' v v' → Inv N0 w0 σ' h' w' → Go' σ h w σ' h' w' → K (a.put o.dst v') w'

/-- Whatever function, at whatever depth: in a round of a loop, or outside. -/
def FW (ro : Option Nat) : Fence := { Fence.wide with round := ro }
def IsRK (P : Program) (op : Op) (rk : RK) : Prop := compRK P op = some rk ∨ ∃ name x, op = .nilCheck x ∧ opdOk x = true ∧ rk = .nilM (mtab P name) name x
theorem compNil_is {mn : Option String} {op : Op} {rk : RK} (h : compNil P mn op = some rk) : IsRK P op rk := by
  unfold compNil at h
  split at h
  · split at h
    · rename_i hx
      injection h with h
      exact .inr ⟨_, _, rfl, hx, h.symm⟩
    · cases h
  · exact .inl h
theorem nilAhead_run {name : String} {t f : Nat} {v : Value} (h : findT (mtab P name) t = some f) : (nilAhead (P.types.size + Made.depth) t v name).run P w = .ok (some false) w := by
  obtain ⟨hlt, i, m, d, hi, hm, hp, hu, hf⟩ := mtab_spec h
  obtain ⟨k, hk⟩ : ∃ k, P.types.size + Made.depth = k + 1 := ⟨P.types.size + Made.depth - 1, by omega⟩
  rw [hk]
  rcases hf with ⟨hf, e, rfl⟩ | ⟨hf, hne⟩
  · simp only [nilAhead, Sem.run_bind, run_typeInfo' hi, Result.andThen_ok, hm, hp, followBlind, Sem.run_pure, hf]
  · simp only [nilAhead, Sem.run_bind, run_typeInfo' hi, Result.andThen_ok, hm, hp, followBlind, Sem.run_pure, hf, run_underlying hu]
    cases d <;> first | (exfalso; exact hne _ rfl) | simp
theorem compRK_defer0 {op : Op} {rk : RK} (hc : compRK P op = some rk) : ∀ c, op ≠ .defer c := by
  rintro c rfl
  simp [compRK, compOp] at hc
theorem compRK_defer {op : Op} {rk : RK} (hc : IsRK P op rk) : ∀ c, op ≠ .defer c := by
  rcases hc with h | ⟨name, x, rfl, _⟩
  · exact compRK_defer0 h
  · intro c e; cases e
theorem wpIn_of {ro : Option Nat} {o : Oper} {a : Act} {K : Act → World → Prop} {Q : Exit → Act → World → Prop} (hd : ∀ c, o.op ≠ .defer c) (h : o.uponIn (FW ro) 0 P a K Q ((execOp a.eval o).run P w)) : o.wpIn (FW ro) 0 P a w K Q :=
  ⟨fun _ _ => trivial, by
    have := Oper.semAt_eq ro a.eval o hd
    show o.uponIn (FW ro) 0 P a K Q ((o.semAt ro a.eval).run P w)
    rw [this]; exact h⟩

/-- Rounds of the loops over functions that are under way: what a call of yield comes to. -/
def RoundOk (P : Program) (N0 : Nat) (w0 : World) (σ0 : Sig) (n0 : Nat) (rnd : RoundT) : Prop :=
  ∀ (m : Nat) (args : List Value) (h : AHeap) (r : Value) (h' : AHeap), rnd m args h = some (r, h') → ∀ (σ : Sig) (w : World) (cargs : List Value), Inv N0 w0 σ h w → n0 ≤ h.next → (∀ j, j < n0 → σ j = σ0 j) → VRL h.next σ args cargs →
    ∃ fn tmps asg bdy, (Instr.yield (σ m).blk cargs.toArray).run P w = .ok (.round (σ m).blk fn tmps asg bdy) w ∧
      RoundIn Fence.wide 0 P (σ m).blk fn tmps asg bdy w fun e w' => ∃ σ' cr, e = .returned cr ∧ VR h'.next σ' r cr ∧ Inv N0 w0 σ' h' w' ∧ Go' σ h w σ' h' w'
theorem RoundOk.no {σ0 : Sig} {n0 : Nat} : RoundOk P N0 w0 σ0 n0 noRound := fun m args h r h' e => by cases e

theorem plain_wp {ro : Option Nat} {pk : Bool} {o : Oper} {ao : AOp} {a : Act} {ρ : Operand → Value} {v : Value} {h' : AHeap} {K : Act → World → Prop} {Q : Exit → Act → World → Prop} (hc : compOp P o.op = some ao) (hI : Inv N0 w0 σ h w)
    (hρ : ∀ x, opdOk x = true → VR h.next σ (ρ x) (a.eval x)) (ha : aop pk ao ρ h = some (v, h')) (hd : ∀ c, o.op ≠ .defer c) (hK : After N0 w0 σ h w o a v h' K) : o.wpIn (FW ro) 0 P a w K Q := by
  obtain ⟨σ', v', w', h1, h2, h3, h4⟩ := aop_run hc hI hρ ha
  refine wpIn_of hd ?_
  rcases h1 with h1 | ⟨h1, rfl⟩
  · rw [h1]; exact hK σ' v' w' h2 h3 h4
  · rw [h1]; exact hK σ' undef w' h2 h3 h4

theorem enter_wp {ro : Option Nat} {o : Oper} {a : Act} {f : FuncId} {args : List Value} {cargs : Array Value} {v : Value} {h' : AHeap} {K : Act → World → Prop} {Q : Exit → Act → World → Prop} (hI : Inv N0 w0 σ h w)
    (hr : (execOp a.eval o).run P w = .ok (.enter f cargs) w) (hargs : VRL h.next σ args cargs.toList) (hruns : Runs P f args h v h') (hd : ∀ c, o.op ≠ .defer c) (hK : After N0 w0 σ h w o a v h' K) : o.wpIn (FW ro) 0 P a w K Q := by
  refine wpIn_of hd ?_
  rw [hr, Oper.uponIn_enter]
  refine ⟨(fun h => by cases h), ?_⟩
  refine callsIn_wide.2 ?_
  have := hruns N0 w0 σ w cargs.toList hI hargs
  simp only [Array.toArray_toList] at this
  refine Calls.mono this ?_
  rintro e w' ⟨σ', cr, rfl, h1, h2, h3⟩
  exact hK σ' cr w' h1 h2 h3

theorem rk_wp {ro : Option Nat} {pk : Bool} {call : CallT} {rnd : RoundT} {σ0 : Sig} {n0 : Nat} {o : Oper} {rk : RK} {a : Act} {ρ : Operand → Value} {v : Value} {h' : AHeap} {K : Act → World → Prop} {Q : Exit → Act → World → Prop} (hcs : CallSound P call) (hrd : RoundOk P N0 w0 σ0 n0 rnd) (hn0 : n0 ≤ h.next) (hs0 : ∀ j, j < n0 → σ j = σ0 j) (hc : IsRK P o.op rk) (hI : Inv N0 w0 σ h w)
    (hρ : ∀ x, opdOk x = true → VR h.next σ (ρ x) (a.eval x)) (ha : doOp pk call rnd rk ρ h = some (v, h')) (hK : After N0 w0 σ h w o a v h' K) : o.wpIn (FW ro) 0 P a w K Q := by
  have hd := compRK_defer hc
  obtain ⟨dst, op, type, pos, after, guard⟩ := o
  simp only at hc
  rcases hc with hc | ⟨name, x, rfl, hx, rfl⟩
  rotate_left
  · simp only [doOp] at ha
    have h1 := hρ x hx
    split at ha
    · rename_i nm p q hp
      split at ha
      · rename_i hnm
        subst hnm
        split at ha
        · rename_i t u hu
          split at ha
          · rename_i f hf
            injection ha with ha; simp only [Prod.mk.injEq] at ha; obtain ⟨rfl, rfl⟩ := ha
            rw [hp] at h1
            have e : ∃ p' q' u', a.eval x = .func (.method nm) p' q' ∧ p'[0]? = some (.iface t u') := by
              generalize a.eval x = z at h1
              cases h1 with
              | func _ _ _ p' _ q' hsp hsq hpv hqv =>
                have hlt : 0 < p.size := (Array.getElem?_eq_some_iff.1 hu).1
                have hg : p'[0]? = some p'[0] := Array.getElem?_eq_getElem (by omega)
                have := hpv 0 _ _ hu hg
                generalize hz : p'[0] = z0 at this hg
                cases this with
                | iface _ _ u' _ => exact ⟨p', q', u', rfl, hg⟩
            obtain ⟨p', q', u', e, e2⟩ := e
            refine wpIn_of hd ?_
            have hrun : (execOp a.eval ⟨dst, .nilCheck x, type, pos, after, guard⟩).run P w = .ok (.value (.func (.method nm) p' q')) w := by
              simp only [execOp, e, e2, Sem.run_bind, run_program, Result.andThen_ok, nilAhead_run hf]
              rfl
            rw [hrun]
            have hvr : VR h.next σ (.func (.method nm) p q) (.func (.method nm) p' q') := by rw [← e]; exact h1
            exact hK σ _ w hvr hI (.refl _ _ _)
          · cases ha
        · cases ha
      · cases ha
    · cases ha
  unfold compRK at hc
  split at hc
  · rename_i f args tys
    split at hc <;> (first | (cases hc; done) | skip)
    rename_i hx
    simp only [Bool.and_eq_true] at hx
    injection hc with hc; subst hc
    simp only [doOp] at ha
    obtain ⟨_, hruns⟩ := hcs _ _ _ _ _ ha
    refine enter_wp hI (cargs := args.map a.eval) ?_ (by simpa using VRL.map hρ args.toList hx.2) hruns hd hK
    simp [execOp, resolve, Act.eval, Deferred.ofValue, invoke, callFunc_run hx.1]
  · rename_i t args tys
    split at hc <;> (first | (cases hc; done) | skip)
    rename_i hx
    injection hc with hc; subst hc
    simp only [doOp] at ha
    split at ha
    · rename_i g p q hp
      obtain ⟨hok, hruns⟩ := hcs _ _ _ _ _ ha
      have h1 := hρ (.tmp t) rfl
      rw [hp] at h1
      have h2 : ∃ p' q', a.eval (.tmp t) = .func (.func g) p' q' ∧ VRL h.next σ p.toList p'.toList ∧ VRL h.next σ q.toList q'.toList := by
        generalize a.eval (.tmp t) = z at h1
        cases h1 with
        | func _ _ _ p' _ q' hsp hsq hpv hqv => exact ⟨p', q', rfl, ⟨by simpa using hsp, fun i x x' e e' => hpv i x x' (by simpa using e) (by simpa using e')⟩, ⟨by simpa using hsq, fun i x x' e e' => hqv i x x' (by simpa using e) (by simpa using e')⟩⟩
      obtain ⟨p', q', h3, h4, h5⟩ := h2
      refine enter_wp hI (cargs := p' ++ args.map a.eval ++ q') ?_ ?_ hruns hd hK
      · simp [execOp, resolve, h3, Deferred.ofValue, invoke, callFunc_run hok]
      · have := (h4.append (VRL.map hρ args.toList hx)).append h5
        simpa using this
    · rename_i m p q hp
      have h1 := hρ (.tmp t) rfl
      rw [hp] at h1
      have h2 : a.eval (.tmp t) = .func (.yield (σ m).blk) #[] #[] := by
        generalize a.eval (.tmp t) = z at h1
        cases h1 with
        | yld _ hm => rfl
        | func _ hf => cases hf
      obtain ⟨fn, tmps, asg, bdy, h3, h4⟩ := hrd m _ h v h' ha σ w (args.map a.eval).toList hI hn0 hs0 (by simpa using VRL.map hρ args.toList hx)
      refine wpIn_of hd ?_
      have h5 : (execOp a.eval ⟨dst, .call { callee := .value (.tmp t), args := args, argTypes := tys }, type, pos, after, guard⟩).run P w = .ok (.round (σ m).blk fn tmps asg bdy) w := by
        rw [Array.toArray_toList] at h3
        rw [← h3]
        simp [execOp, resolve, h2, Deferred.ofValue, invoke]
      rw [h5, Oper.uponIn_round]
      refine ⟨(fun h => by cases h), RoundIn.mono h4 ?_⟩
      rintro e w' ⟨σ', cr, rfl, i1, i2, i3⟩
      exact hK σ' cr w' i1 i2 i3
    · cases ha
  · rename_i r name args tys
    split at hc <;> (first | (cases hc; done) | skip)
    rename_i hx
    simp only [Bool.and_eq_true] at hx
    injection hc with hc; subst hc
    simp only [doOp] at ha
    split at ha
    · rename_i t u hp
      split at ha
      · rename_i f hf
        obtain ⟨hok, hruns⟩ := hcs _ _ _ _ _ ha
        have h1 := hρ r hx.1
        rw [hp] at h1
        have h2 : ∃ u', a.eval r = .iface t u' ∧ VR h.next σ u u' := by
          generalize a.eval r = z at h1
          cases h1 with
          | iface _ _ u' hu => exact ⟨u', rfl, hu⟩
        obtain ⟨u', h3, h4⟩ := h2
        refine enter_wp hI (cargs := #[u'] ++ args.map a.eval) ?_ ?_ hruns hd hK
        · have e1 : ∀ y : Value, (#[y] ++ Array.map a.eval args).extract 1 (#[y] ++ Array.map a.eval args).size = Array.map a.eval args := fun y => by
            apply Array.ext'
            simp
            exact List.take_of_length_le (by simp)
          have e2 : ∀ y : Value, (#[y] ++ Array.map a.eval args)[0]? = some y := fun y => by
            rw [Array.getElem?_append_left (by simp)]; rfl
          simp only [execOp, resolve, Sem.run_bind, Sem.run_pure, Result.andThen_ok, invoke, h3, e2]
          simp only [callMethod, Sem.run_bind, run_program, Result.andThen_ok, method_run hf, callFunc_run hok, e1]
        · have := VRL.cons h4 (VRL.map hρ args.toList hx.2)
          simpa using this
      · cases ha
    · cases ha
  · obtain ⟨ao, hao, rfl⟩ := obind hc
    exact plain_wp hao hI hρ ha hd hK
end
end
end Go.AM
