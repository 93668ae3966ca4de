import Derived.Test.YtoehafeeoggpkaaAM26
set_option linter.unusedVariables false
set_option linter.unusedSimpArgs false
/-! Part 27: reasoning over the executor: what code comes to. -/
namespace Go.AM
noncomputable section
open Go.RowKit

/-- What code is run in: the table of functions, how deep, how many rounds. -/
structure Env where
  tab : FuncId → Option AEntry
  L : Nat
  d : Nat
  rnd : RoundT := noRound
def Env.call (E : Env) : CallT := callFR true E.tab E.L E.d noRound
/-- A function's call, at the environment's depth. -/
def Env.go (E : Env) (f : FuncId) (args : List Value) (h : AHeap) : Option (Value × AHeap) := callFR true E.tab E.L E.d noRound f args h
def Env.run (E : Env) (c : ACode) (T : Tr Value) (h : AHeap) : Res := exec true (callFR true E.tab E.L E.d noRound) (callFR true E.tab E.L E.d) E.rnd E.L c T h

/-- Code comes to an end of which Q is true. -/
def W (E : Env) (c : ACode) (Q : AExit → Tr Value → AHeap → Prop) (T : Tr Value) (h : AHeap) : Prop :=
  ∃ e T' h', E.run c T h = some (e, T', h') ∧ Q e T' h'
/-- Operations, one behind the other. -/
def WS (E : Env) (l : List ROp) (Q : Tr Value → AHeap → Prop) (T : Tr Value) (h : AHeap) : Prop :=
  ∃ T' h', aSeq true (callFR true E.tab E.L E.d noRound) E.rnd l T h = some (T', h') ∧ Q T' h'
/-- One operation. -/
def WO (E : Env) (o : RK) (Q : Value → AHeap → Prop) (ρ : Operand → Value) (h : AHeap) : Prop :=
  ∃ v h', doOp true (callFR true E.tab E.L E.d noRound) E.rnd o ρ h = some (v, h') ∧ Q v h'

section
variable {E : Env} {Q : AExit → Tr Value → AHeap → Prop} {T : Tr Value} {h : AHeap}

theorem W.mono {c : ACode} {Q' : AExit → Tr Value → AHeap → Prop} (hw : W E c Q T h) (hq : ∀ e T h, Q e T h → Q' e T h) : W E c Q' T h :=
  let ⟨e, T', h', a, b⟩ := hw; ⟨e, T', h', a, hq _ _ _ b⟩
theorem W_skip : W E .skip Q T h = Q .normal T h := by
  simp only [W, Env.run, exec, Option.some.injEq, Prod.mk.injEq]
  exact propext ⟨fun ⟨e, T', h', ⟨a, b, c⟩, q⟩ => by subst a; subst b; subst c; exact q, fun q => ⟨_, _, _, ⟨rfl, rfl, rfl⟩, q⟩⟩
theorem W_exit {id : Nat} : W E (.exit id) Q T h = Q (.exit id) T h := by
  simp only [W, Env.run, exec, Option.some.injEq, Prod.mk.injEq]
  exact propext ⟨fun ⟨e, T', h', ⟨a, b, c⟩, q⟩ => by subst a; subst b; subst c; exact q, fun q => ⟨_, _, _, ⟨rfl, rfl, rfl⟩, q⟩⟩
theorem W_ret : W E .ret Q T h = Q .ret T h := by
  simp only [W, Env.run, exec, Option.some.injEq, Prod.mk.injEq]
  exact propext ⟨fun ⟨e, T', h', ⟨a, b, c⟩, q⟩ => by subst a; subst b; subst c; exact q, fun q => ⟨_, _, _, ⟨rfl, rfl, rfl⟩, q⟩⟩
/-- On behind a part. -/
def QB (E : Env) (b : ACode) (Q : AExit → Tr Value → AHeap → Prop) : AExit → Tr Value → AHeap → Prop
  | .normal, T, h => W E b Q T h
  | e, T, h => Q e T h
@[simp] theorem QB_normal {b : ACode} : QB E b Q .normal T h = W E b Q T h := rfl
@[simp] theorem QB_exit {b : ACode} {id : Nat} : QB E b Q (.exit id) T h = Q (.exit id) T h := rfl
@[simp] theorem QB_ret {b : ACode} : QB E b Q .ret T h = Q .ret T h := rfl
theorem W_both {a b : ACode} : W E (.both a b) Q T h = W E a (QB E b Q) T h := by
  apply propext
  constructor
  · rintro ⟨e, T', h', hr, hq⟩
    simp only [Env.run, exec] at hr
    split at hr
    · rename_i T1 h1 h2
      exact ⟨.normal, T1, h1, h2, ⟨e, T', h', hr, hq⟩⟩
    · rename_i hne
      refine ⟨e, T', h', hr, ?_⟩
      cases e with
      | normal => exact absurd hr (hne T' h')
      | exit id => exact hq
      | ret => exact hq
  · rintro ⟨e, T', h', hr, hq⟩
    cases e with
    | normal =>
      obtain ⟨e, T2, h2, hr2, hq⟩ := hq
      refine ⟨e, T2, h2, ?_, hq⟩
      simp only [Env.run, exec] at hr ⊢
      rw [hr]; exact hr2
    | exit id =>
      refine ⟨_, T', h', ?_, hq⟩
      simp only [Env.run, exec] at hr ⊢
      rw [hr]
    | ret =>
      refine ⟨_, T', h', ?_, hq⟩
      simp only [Env.run, exec] at hr ⊢
      rw [hr]
def QS (Q : AExit → Tr Value → AHeap → Prop) (T : Tr Value) (h : AHeap) : Prop := Q .normal T h
theorem W_seq {l : List ROp} : W E (.seq l) Q T h = WS E l (Q .normal) T h := by
  apply propext
  constructor
  · rintro ⟨e, T', h', hr, hq⟩
    simp only [Env.run, exec] at hr
    split at hr
    · rename_i T1 h1 h2
      simp only [Option.some.injEq, Prod.mk.injEq] at hr
      obtain ⟨rfl, rfl, rfl⟩ := hr
      exact ⟨_, _, h2, hq⟩
    · cases hr
  · rintro ⟨T', h', hr, hq⟩
    refine ⟨.normal, T', h', ?_, hq⟩
    simp only [Env.run, exec]
    rw [hr]
theorem WS_nil {Q : Tr Value → AHeap → Prop} : WS E [] Q T h = Q T h := by
  apply propext
  simp only [WS, aSeq, Option.some.injEq, Prod.mk.injEq]
  exact ⟨fun ⟨T', h', ⟨a, b⟩, q⟩ => by subst a; subst b; exact q, fun q => ⟨_, _, ⟨rfl, rfl⟩, q⟩⟩
theorem WS_cons {Q : Tr Value → AHeap → Prop} {d : Option Nat} {o : RK} {r : List ROp} : WS E (⟨d, none, o⟩ :: r) Q T h = WO E o (fun v h' => WS E r Q (putT T d v) h') (aeval T) h := by
  apply propext
  constructor
  · rintro ⟨T', h', hr, hq⟩
    simp only [aSeq, guardOn] at hr
    split at hr
    · rename_i v h1 h2
      exact ⟨v, h1, h2, T', h', hr, hq⟩
    · cases hr
  · rintro ⟨v, h1, h2, T', h', hr, hq⟩
    refine ⟨T', h', ?_, hq⟩
    simp only [aSeq, guardOn]
    rw [h2]; exact hr
theorem WS_guard {Q : Tr Value → AHeap → Prop} {d : Option Nat} {g : Nat} {b c : Bool} {o : RK} {r : List ROp} (hg : T.get g = some (.bool c)) :
    WS E (⟨d, some (g, b), o⟩ :: r) Q T h = if c = b then WO E o (fun v h' => WS E r Q (putT T d v) h') (aeval T) h else WS E r Q (putT T d undef) h := by
  apply propext
  by_cases hc : c = b
  · rw [if_pos hc]
    subst hc
    constructor
    · rintro ⟨T', h', hr, hq⟩
      simp only [aSeq, guardOn, hg, beq_self_eq_true] at hr
      split at hr
      · rename_i v h1 h2
        exact ⟨v, h1, h2, T', h', hr, hq⟩
      · cases hr
    · rintro ⟨v, h1, h2, T', h', hr, hq⟩
      refine ⟨T', h', ?_, hq⟩
      simp only [aSeq, guardOn, hg, beq_self_eq_true]
      rw [h2]; exact hr
  · rw [if_neg hc]
    have hb : (c == b) = false := by simpa using hc
    constructor
    · rintro ⟨T', h', hr, hq⟩
      simp only [aSeq, guardOn, hg, hb] at hr
      exact ⟨T', h', hr, hq⟩
    · rintro ⟨T', h', hr, hq⟩
      refine ⟨T', h', ?_, hq⟩
      simp only [aSeq, guardOn, hg, hb]
      exact hr
/-- On behind an operation. -/
def onOp (E : Env) (o : Option (Value × AHeap)) (d : Option Nat) (r : List ROp) (Q : Tr Value → AHeap → Prop) (T : Tr Value) : Prop :=
  match o with
  | some (v, h) => WS E r Q (putT T d v) h
  | none => False
theorem onOp_some {Q : Tr Value → AHeap → Prop} {d : Option Nat} {r : List ROp} {v : Value} : onOp E (some (v, h)) d r Q T = WS E r Q (putT T d v) h := rfl
theorem onOp_ite {Q : Tr Value → AHeap → Prop} {d : Option Nat} {r : List ROp} {c : Prop} [Decidable c] {a b : Option (Value × AHeap)} : onOp E (if c then a else b) d r Q T = if c then onOp E a d r Q T else onOp E b d r Q T := by split <;> rfl
theorem WO_on {Q : Tr Value → AHeap → Prop} {d : Option Nat} {r : List ROp} {o : RK} {ρ : Operand → Value} : WO E o (fun v h' => WS E r Q (putT T d v) h') ρ h = onOp E (doOp true (callFR true E.tab E.L E.d noRound) E.rnd o ρ h) d r Q T := by
  apply propext
  unfold WO onOp
  constructor
  · rintro ⟨v, h', e, q⟩; rw [e]; exact q
  · intro q
    split at q
    · rename_i v h' e; exact ⟨v, h', e, q⟩
    · exact q.elim
theorem WS_op {Q : Tr Value → AHeap → Prop} {d : Option Nat} {ao : AOp} {r : List ROp} : WS E (⟨d, none, .plain ao⟩ :: r) Q T h = onOp E (aop true ao (aeval T) h) d r Q T := by rw [WS_cons, WO_on]; rfl
theorem WS_call {Q : Tr Value → AHeap → Prop} {d : Option Nat} {f : FuncId} {args : List Operand} {r : List ROp} : WS E (⟨d, none, .call f args⟩ :: r) Q T h = onOp E (E.go f (args.map (aeval T)) h) d r Q T := by rw [WS_cons, WO_on]; rfl
/-- Is a guard on? -/
def gOn (T : Tr Value) (g : Nat) (b : Bool) : Option Bool :=
  match T.get g with
  | some (.bool c) => some (c == b)
  | _ => none
def onG (E : Env) (o : Option Bool) (d : Option Nat) (k : RK) (r : List ROp) (Q : Tr Value → AHeap → Prop) (T : Tr Value) (h : AHeap) : Prop :=
  match o with
  | some true => WS E (⟨d, none, k⟩ :: r) Q T h
  | some false => WS E r Q (putT T d undef) h
  | none => False
theorem onG_true {Q : Tr Value → AHeap → Prop} {d : Option Nat} {r : List ROp} {k : RK} : onG E (some true) d k r Q T h = WS E (⟨d, none, k⟩ :: r) Q T h := rfl
theorem onG_false {Q : Tr Value → AHeap → Prop} {d : Option Nat} {r : List ROp} {k : RK} : onG E (some false) d k r Q T h = WS E r Q (putT T d undef) h := rfl
theorem WS_gd {Q : Tr Value → AHeap → Prop} {d : Option Nat} {g : Nat} {b : Bool} {k : RK} {r : List ROp} : WS E (⟨d, some (g, b), k⟩ :: r) Q T h = onG E (guardOn T (some (g, b))) d k r Q T h := by
  apply propext
  unfold onG
  cases hg : guardOn T (some (g, b)) with
  | none =>
    constructor
    · rintro ⟨T', h', hr, hq⟩
      simp only [aSeq, hg] at hr
      cases hr
    · intro q; exact q.elim
  | some c =>
    cases c with
    | true =>
      constructor
      · rintro ⟨T', h', hr, hq⟩
        simp only [aSeq, hg] at hr
        exact ⟨T', h', by simpa only [aSeq, guardOn] using hr, hq⟩
      · rintro ⟨T', h', hr, hq⟩
        refine ⟨T', h', ?_, hq⟩
        simp only [aSeq, guardOn] at hr
        simp only [aSeq]
        rw [hg]
        exact hr
    | false =>
      constructor
      · rintro ⟨T', h', hr, hq⟩
        simp only [aSeq, hg] at hr
        exact ⟨T', h', hr, hq⟩
      · rintro ⟨T', h', hr, hq⟩
        exact ⟨T', h', by simpa only [aSeq, hg] using hr, hq⟩
theorem guardOn_some {g : Nat} {b : Bool} : guardOn T (some (g, b)) = (match T.get g with | some (.bool c) => some (c == b) | some (.tuple a) => if a.size = 0 then some false else none | _ => none) := rfl
theorem aeval_tmp {t : Nat} : aeval T (.tmp t) = (T.get t).getD undef := rfl
theorem aeval_const {v : Value} : aeval T (.const v) = v := rfl
theorem aeval_func {f : FuncId} : aeval T (.func f) = .func (.func f) #[] #[] := rfl
theorem putT_some {d : Nat} {v : Value} : putT T (some d) v = T.set d v := rfl
theorem putT_none {v : Value} : putT T none v = T := rfl

theorem W_cond_true {c : Operand} {a b : ACode} (hc : aeval T c = .bool true) : W E (.cond c a b) Q T h = W E a Q T h := by
  unfold W; simp only [Env.run, exec, hc]
theorem W_cond_false {c : Operand} {a b : ACode} (hc : aeval T c = .bool false) : W E (.cond c a b) Q T h = W E b Q T h := by
  unfold W; simp only [Env.run, exec, hc]
theorem W_cond {c : Operand} {a b : ACode} {p : Bool} (hc : aeval T c = .bool p) : W E (.cond c a b) Q T h = if p = true then W E a Q T h else W E b Q T h := by
  cases p
  · rw [W_cond_false hc]; simp
  · rw [W_cond_true hc]; simp
/-- Within a block. -/
def QK (id : Nat) (Q : AExit → Tr Value → AHeap → Prop) : AExit → Tr Value → AHeap → Prop
  | .exit i, T, h => if i = id then Q .normal T h else Q (.exit i) T h
  | e, T, h => Q e T h
@[simp] theorem QK_normal {id : Nat} : QK id Q .normal T h = Q .normal T h := rfl
@[simp] theorem QK_ret {id : Nat} : QK id Q .ret T h = Q .ret T h := rfl
@[simp] theorem QK_exit {id i : Nat} : QK id Q (.exit i) T h = if i = id then Q .normal T h else Q (.exit i) T h := rfl
theorem W_block {id : Nat} {b : ACode} : W E (.block id b) Q T h = W E b (QK id Q) T h := by
  apply propext
  constructor
  · rintro ⟨e, T', h', hr, hq⟩
    simp only [Env.run, exec] at hr
    split at hr
    · rename_i i T1 h1 h2
      refine ⟨.exit i, T1, h1, h2, ?_⟩
      split at hr
      · rename_i hi
        simp only [Option.some.injEq, Prod.mk.injEq] at hr
        obtain ⟨rfl, rfl, rfl⟩ := hr
        rw [QK_exit, if_pos hi]; exact hq
      · rename_i hi
        simp only [Option.some.injEq, Prod.mk.injEq] at hr
        obtain ⟨rfl, rfl, rfl⟩ := hr
        rw [QK_exit, if_neg hi]; exact hq
    · rename_i hne
      refine ⟨e, T', h', hr, ?_⟩
      cases e with
      | normal => exact hq
      | exit id => exact absurd hr (hne _ T' h')
      | ret => exact hq
  · rintro ⟨e, T', h', hr, hq⟩
    cases e with
    | normal =>
      refine ⟨_, T', h', ?_, hq⟩
      simp only [Env.run, exec] at hr ⊢
      rw [hr]
    | ret =>
      refine ⟨_, T', h', ?_, hq⟩
      simp only [Env.run, exec] at hr ⊢
      rw [hr]
    | exit i =>
      rw [QK_exit] at hq
      by_cases hi : i = id
      · rw [if_pos hi] at hq
        refine ⟨.normal, T', h', ?_, hq⟩
        simp only [Env.run, exec] at hr ⊢
        rw [hr]; simp [hi]
      · rw [if_neg hi] at hq
        refine ⟨.exit i, T', h', ?_, hq⟩
        simp only [Env.run, exec] at hr ⊢
        rw [hr]; simp [hi]

/-- A loop: a measure that goes down at each round that goes on. -/
theorem iter_ind {f : Tr Value → AHeap → Res} (I : Nat → Tr Value → AHeap → Prop)
    (step : ∀ j T h, I j T h → ∃ e T' h', f T h = some (e, T', h') ∧ (if e = .normal then ∃ j', j' < j ∧ I j' T' h' else Q e T' h')) :
    ∀ (n j : Nat) (T : Tr Value) (h : AHeap), j < n → I j T h → ∃ e T' h', iter f n T h = some (e, T', h') ∧ e ≠ .normal ∧ Q e T' h'
  | 0, j, T, h, hj, _ => by omega
  | n + 1, j, T, h, hj, hI => by
    obtain ⟨e, T', h', h1, h2⟩ := step j T h hI
    simp only [iter]
    rw [h1]
    cases e with
    | normal =>
      rw [if_pos rfl] at h2
      obtain ⟨j', h3, h4⟩ := h2
      exact iter_ind I step n j' T' h' (by omega) h4
    | exit id => exact ⟨_, T', h', rfl, by simp, by simpa using h2⟩
    | ret => exact ⟨_, T', h', rfl, by simp, by simpa using h2⟩
/-- What a round must come to. -/
def QR (I : Nat → Tr Value → AHeap → Prop) (j : Nat) (Q : AExit → Tr Value → AHeap → Prop) : AExit → Tr Value → AHeap → Prop
  | .normal, T, h => ∃ j', j' < j ∧ I j' T h
  | e, T, h => Q e T h
@[simp] theorem QR_normal {I : Nat → Tr Value → AHeap → Prop} {j : Nat} : QR I j Q .normal T h = ∃ j', j' < j ∧ I j' T h := rfl
@[simp] theorem QR_exit {I : Nat → Tr Value → AHeap → Prop} {j id : Nat} : QR I j Q (.exit id) T h = Q (.exit id) T h := rfl
@[simp] theorem QR_ret {I : Nat → Tr Value → AHeap → Prop} {j : Nat} : QR I j Q .ret T h = Q .ret T h := rfl
theorem W_loop {b : ACode} (I : Nat → Tr Value → AHeap → Prop) (j : Nat) (hj : j < E.L) (hI : I j T h) (step : ∀ j T h, I j T h → W E b (QR I j Q) T h) : W E (.loop b) Q T h := by
  obtain ⟨e, T', h', h1, _, h2⟩ := iter_ind (f := E.run b) (Q := Q) I (fun j T h hI => by
    obtain ⟨e, T', h', h1, h2⟩ := step j T h hI
    refine ⟨e, T', h', h1, ?_⟩
    cases e with
    | normal => exact h2
    | exit id => simpa using h2
    | ret => simpa using h2) E.L j T h hj hI
  exact ⟨e, T', h', h1, h2⟩
end

/-- A function, by its code. -/
theorem go_of {tab : FuncId → Option AEntry} {L d : Nat} {f : FuncId} {af : AFunc} (ht : tab f = some (.code af)) {args : List Value} {h : AHeap} {r : Value} {h' : AHeap} (hn : args.length = af.nargs)
    (hw : W ⟨tab, L, d, noRound⟩ af.code (fun e T' h1 => (e = .normal ∨ e = .ret) ∧ ∃ l, aRes T' h1 af.res = some l ∧ oneOrTup l = r ∧ h1 = h') (argsT 0 args .leaf) h) :
    (⟨tab, L, d + 1, noRound⟩ : Env).go f args h = some (r, h') := by
  obtain ⟨e, T', h1, hr, he, l, hl, rfl, rfl⟩ := hw
  simp only [Env.go, callFR, ht, runF, hn, if_true]
  simp only [Env.run] at hr
  rw [hr]
  rcases he with rfl | rfl
  · simp only [hl]
  · simp only [hl]
end
end Go.AM
