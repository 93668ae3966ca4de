import Derived.Test.YtoehafeeoggpkaaAM27
set_option linter.unusedVariables false
set_option linter.unusedSimpArgs false
/-! Part 28: regions that draw, in reasoning; rows of numbers. -/
namespace Go.AM
noncomputable section
open Go.RowKit

/-- Some numbers are kept. -/
def AHeap.skip (h : AHeap) (k : Nat) : AHeap := { h with next := h.next + k }
theorem AHeap.get_skip (h : AHeap) (k m : Nat) : (h.skip k).get m = h.get m := rfl
theorem AHeap.next_skip (h : AHeap) (k : Nat) : (h.skip k).next = h.next + k := rfl
section
variable {E : Env} {T : Tr Value} {h : AHeap}
/-- A region that draws comes to an end of which Q is true. -/
def WD (E : Env) (s : Nat) (ds : List DOp) (Q : Tr Value → AHeap → Prop) (T : Tr Value) (C cur : AHeap) (rd : List (Nat × AOp × Tr Value × Value)) : Prop :=
  ∃ st', dRun true (callFR true E.tab E.L E.d noRound) E.rnd s ds ⟨T, C, cur, rd⟩ = some st' ∧ Q st'.T st'.cur
theorem W_draw {k : Nat} {ds : List DOp} {Q : AExit → Tr Value → AHeap → Prop} : W E (.draw k ds) Q T h = WD E h.next ds (Q .normal) T (h.skip k) (h.skip k) [] := by
  apply propext
  constructor
  · rintro ⟨e, T', h', hr, hq⟩
    simp only [Env.run, exec, aDraw] at hr
    split at hr
    · rename_i T1 h1 h2
      simp only [Option.some.injEq, Prod.mk.injEq] at hr
      obtain ⟨rfl, rfl, rfl⟩ := hr
      split at h2
      · rename_i st hst
        simp only [Option.some.injEq, Prod.mk.injEq] at h2
        obtain ⟨rfl, rfl⟩ := h2
        exact ⟨st, hst, hq⟩
      · cases h2
    · cases hr
  · rintro ⟨st, hst, hq⟩
    refine ⟨.normal, st.T, st.cur, ?_, hq⟩
    have hst' : dRun true (callFR true E.tab E.L E.d noRound) E.rnd h.next ds ⟨T, { h with next := h.next + k }, { h with next := h.next + k }, []⟩ = some st := hst
    simp only [Env.run, exec, aDraw]
    rw [hst']
theorem WD_nil {s : Nat} {Q : Tr Value → AHeap → Prop} {C cur : AHeap} {rd : List (Nat × AOp × Tr Value × Value)} : WD E s [] Q T C cur rd = Q T cur := by
  apply propext
  simp only [WD, dRun, Option.some.injEq]
  exact ⟨fun ⟨st, e, q⟩ => by subst e; exact q, fun q => ⟨_, rfl, q⟩⟩
/-- On behind an operation of a region that draws. -/
def onD (E : Env) (s : Nat) (o : Option (Value × AHeap)) (d : DOp) (r : List DOp) (Q : Tr Value → AHeap → Prop) (T : Tr Value) (C cur : AHeap) (rd : List (Nat × AOp × Tr Value × Value)) : Prop :=
  match o with
  | none => False
  | some (v, h') => match d.cls, d.o.op with
    | .pure, _ => WD E s r Q (putT T d.o.dst v) C cur rd
    | .read, .plain ao => WD E s r Q (putT T d.o.dst v) C cur ((d.idx, ao, T, v) :: rd)
    | .fresh, _ => (cur.get (s + d.slot)).live = false ∧ WD E s r Q (putT T d.o.dst v) C (cur.set (s + d.slot) (h'.get (s + d.slot))) rd
    | .chain, _ => recheck true h' d.re rd = true ∧ (d.pend.all (fun k => !(h'.get (s + k)).live)) = true ∧ WD E s r Q (putT T d.o.dst v) h' h' rd
    | _, _ => False
theorem onD_pure {s : Nat} {v : Value} {h' : AHeap} {idx slot : Nat} {o : ROp} {re pend : List Nat} {r : List DOp} {Q : Tr Value → AHeap → Prop} {C cur : AHeap} {rd : List (Nat × AOp × Tr Value × Value)} :
    onD E s (some (v, h')) ⟨idx, .pure, slot, o, re, pend⟩ r Q T C cur rd = WD E s r Q (putT T o.dst v) C cur rd := rfl
theorem onD_read {s : Nat} {v : Value} {h' : AHeap} {idx slot : Nat} {dst : Option Nat} {g : Option (Nat × Bool)} {ao : AOp} {re pend : List Nat} {r : List DOp} {Q : Tr Value → AHeap → Prop} {C cur : AHeap} {rd : List (Nat × AOp × Tr Value × Value)} :
    onD E s (some (v, h')) ⟨idx, .read, slot, ⟨dst, g, .plain ao⟩, re, pend⟩ r Q T C cur rd = WD E s r Q (putT T dst v) C cur ((idx, ao, T, v) :: rd) := rfl
theorem onD_fresh {s : Nat} {v : Value} {h' : AHeap} {idx slot : Nat} {o : ROp} {re pend : List Nat} {r : List DOp} {Q : Tr Value → AHeap → Prop} {C cur : AHeap} {rd : List (Nat × AOp × Tr Value × Value)} :
    onD E s (some (v, h')) ⟨idx, .fresh, slot, o, re, pend⟩ r Q T C cur rd = ((cur.get (s + slot)).live = false ∧ WD E s r Q (putT T o.dst v) C (cur.set (s + slot) (h'.get (s + slot))) rd) := rfl
theorem onD_chain {s : Nat} {v : Value} {h' : AHeap} {idx slot : Nat} {o : ROp} {re pend : List Nat} {r : List DOp} {Q : Tr Value → AHeap → Prop} {C cur : AHeap} {rd : List (Nat × AOp × Tr Value × Value)} :
    onD E s (some (v, h')) ⟨idx, .chain, slot, o, re, pend⟩ r Q T C cur rd = (recheck true h' re rd = true ∧ (pend.all (fun k => !(h'.get (s + k)).live)) = true ∧ WD E s r Q (putT T o.dst v) h' h' rd) := rfl
theorem onD_ite {s : Nat} {c : Prop} [Decidable c] {a b : Option (Value × AHeap)} {d : DOp} {r : List DOp} {Q : Tr Value → AHeap → Prop} {C cur : AHeap} {rd : List (Nat × AOp × Tr Value × Value)} :
    onD E s (if c then a else b) d r Q T C cur rd = if c then onD E s a d r Q T C cur rd else onD E s b d r Q T C cur rd := by split <;> rfl
/-- What an operation is run in, by its class. -/
def dHeap (s : Nat) (d : DOp) (C cur : AHeap) : AHeap :=
  match d.cls with
  | .pure | .read => C
  | .fresh => ⟨s + d.slot, .leaf⟩
  | .chain => cur
def onDG (E : Env) (s : Nat) (g : Option Bool) (d : DOp) (r : List DOp) (Q : Tr Value → AHeap → Prop) (T : Tr Value) (C cur : AHeap) (rd : List (Nat × AOp × Tr Value × Value)) : Prop :=
  match g with
  | some true => onD E s (doOp true (callFR true E.tab E.L E.d noRound) E.rnd d.o.op (aeval T) (dHeap s d C cur)) d r Q T C cur rd
  | some false => WD E s r Q (putT T d.o.dst undef) C cur rd
  | none => False
theorem WD_cons0 {s : Nat} {d : DOp} {r : List DOp} {Q : Tr Value → AHeap → Prop} {C cur : AHeap} {rd : List (Nat × AOp × Tr Value × Value)} (hp : d.cls = .chain ∨ ∃ ao, d.o.op = .plain ao) :
    WD E s (d :: r) Q T C cur rd = onDG E s (guardOn T d.o.guard) d r Q T C cur rd := by
  apply propext
  unfold onDG WD
  simp only [dRun, dStep]
  cases hg : guardOn T d.o.guard with
  | none => simp
  | some b =>
    cases b with
    | false => simp only
    | true =>
      simp only
      obtain ⟨idx, cls, slot, ⟨dst, g, op⟩, re, pend⟩ := d
      simp only at hp ⊢
      cases cls with
      | chain =>
        simp only [onD, dHeap]
        cases hop : doOp true (callFR true E.tab E.L E.d noRound) E.rnd op (aeval T) cur with
        | none => simp
        | some p =>
          obtain ⟨v, h'⟩ := p
          simp only
          by_cases hc : (recheck true h' re rd && pend.all (fun k => !(h'.get (s + k)).live)) = true
          · rw [if_pos hc]
            simp only [Bool.and_eq_true] at hc
            simp only [hc.1, hc.2, true_and, WD]
          · rw [if_neg hc]
            simp only [Bool.and_eq_true] at hc
            constructor
            · rintro ⟨st, e, _⟩; cases e
            · rintro ⟨a, b, _⟩; exact absurd ⟨a, b⟩ hc
      | pure =>
        rcases hp with hp | ⟨ao, rfl⟩
        · cases hp
        simp only [onD, dHeap, doOp]
        cases hop : aop true ao (aeval T) C with
        | none => simp
        | some p => obtain ⟨v, h'⟩ := p; simp only [WD]
      | read =>
        rcases hp with hp | ⟨ao, rfl⟩
        · cases hp
        simp only [onD, dHeap, doOp]
        cases hop : aop true ao (aeval T) C with
        | none => simp
        | some p => obtain ⟨v, h'⟩ := p; simp only [WD]
      | fresh =>
        rcases hp with hp | ⟨ao, rfl⟩
        · cases hp
        simp only [onD, dHeap, doOp]
        cases hop : aop true ao (aeval T) ⟨s + slot, .leaf⟩ with
        | none => simp
        | some p =>
          obtain ⟨v, h'⟩ := p
          simp only
          cases hl : (cur.get (s + slot)).live with
          | true => simp
          | false => simp [WD]
theorem WD_plain {s : Nat} {idx slot : Nat} {cls : Cls} {dst : Option Nat} {ao : AOp} {re pend : List Nat} {r : List DOp} {Q : Tr Value → AHeap → Prop} {C cur : AHeap} {rd : List (Nat × AOp × Tr Value × Value)} :
    WD E s (⟨idx, cls, slot, ⟨dst, none, .plain ao⟩, re, pend⟩ :: r) Q T C cur rd = onD E s (aop true ao (aeval T) (match cls with | .pure | .read => C | .fresh => ⟨s + slot, .leaf⟩ | .chain => cur)) ⟨idx, cls, slot, ⟨dst, none, .plain ao⟩, re, pend⟩ r Q T C cur rd := by
  rw [WD_cons0 (.inr ⟨ao, rfl⟩)]; rfl
theorem WD_call {s : Nat} {idx slot : Nat} {dst : Option Nat} {f : FuncId} {args : List Operand} {re pend : List Nat} {r : List DOp} {Q : Tr Value → AHeap → Prop} {C cur : AHeap} {rd : List (Nat × AOp × Tr Value × Value)} :
    WD E s (⟨idx, .chain, slot, ⟨dst, none, .call f args⟩, re, pend⟩ :: r) Q T C cur rd = onD E s (E.go f (args.map (aeval T)) cur) ⟨idx, .chain, slot, ⟨dst, none, .call f args⟩, re, pend⟩ r Q T C cur rd := by
  rw [WD_cons0 (.inl rfl)]; rfl
/-- A guard that is on. -/
def dOn (d : DOp) : DOp := { d with o := { d.o with guard := none } }
def onDH (E : Env) (s : Nat) (g : Option Bool) (idx : Nat) (cls : Cls) (slot : Nat) (dst : Option Nat) (op : RK) (re pend : List Nat) (r : List DOp) (Q : Tr Value → AHeap → Prop) (T : Tr Value) (C cur : AHeap) (rd : List (Nat × AOp × Tr Value × Value)) : Prop :=
  match g with
  | some true => WD E s (⟨idx, cls, slot, ⟨dst, none, op⟩, re, pend⟩ :: r) Q T C cur rd
  | some false => WD E s r Q (putT T dst undef) C cur rd
  | none => False
theorem onDH_true {s : Nat} {idx slot : Nat} {cls : Cls} {dst : Option Nat} {op : RK} {re pend : List Nat} {r : List DOp} {Q : Tr Value → AHeap → Prop} {C cur : AHeap} {rd : List (Nat × AOp × Tr Value × Value)} :
    onDH E s (some true) idx cls slot dst op re pend r Q T C cur rd = WD E s (⟨idx, cls, slot, ⟨dst, none, op⟩, re, pend⟩ :: r) Q T C cur rd := rfl
theorem onDH_false {s : Nat} {idx slot : Nat} {cls : Cls} {dst : Option Nat} {op : RK} {re pend : List Nat} {r : List DOp} {Q : Tr Value → AHeap → Prop} {C cur : AHeap} {rd : List (Nat × AOp × Tr Value × Value)} :
    onDH E s (some false) idx cls slot dst op re pend r Q T C cur rd = WD E s r Q (putT T dst undef) C cur rd := rfl
theorem WD_gd {s : Nat} {idx slot : Nat} {cls : Cls} {dst : Option Nat} {g : Nat} {b : Bool} {op : RK} {re pend : List Nat} {r : List DOp} {Q : Tr Value → AHeap → Prop} {C cur : AHeap} {rd : List (Nat × AOp × Tr Value × Value)} :
    WD E s (⟨idx, cls, slot, ⟨dst, some (g, b), op⟩, re, pend⟩ :: r) Q T C cur rd = onDH E s (guardOn T (some (g, b))) idx cls slot dst op re pend r Q T C cur rd := by
  apply propext
  unfold onDH
  unfold WD
  simp only [dRun, dStep]
  cases hg : guardOn T (some (g, b)) with
  | none => simp
  | some c =>
    cases c with
    | false => simp only
    | true => simp only [guardOn]
end

theorem beqV_int {n : Nat} {k : IntKind} {x : Int} : beqV n (.int k x) (.int k x) = true := by cases n <;> simp [beqV]
theorem beqV_bool {n : Nat} {b : Bool} : beqV n (.bool b) (.bool b) = true := by cases n <;> simp [beqV]
theorem beqV_slice {n : Nat} {a : Option Addr} {l c : Nat} : beqV n (.slice a l c) (.slice a l c) = true := by cases n <;> simp [beqV]
theorem beqV_ptr {n : Nat} {a : Option Addr} : beqV n (.pointer a) (.pointer a) = true := by cases n <;> simp [beqV]
theorem beqV_str {n : Nat} {s : ByteArray} : beqV n (.string s) (.string s) = true := by cases n <;> simp [beqV]
theorem beqV_nilI {n : Nat} : beqV n .nilIface .nilIface = true := by cases n <;> simp [beqV]
theorem beqV_map {n : Nat} {a : Option Nat} : beqV n (.map a) (.map a) = true := by cases n <;> simp [beqV]
/-- Of values that are the same: the look tells so, or can't. -/
theorem beqV_iface {n : Nat} {t : TypeId} {v : Value} (h : beqV n v v = true) : beqV (n + 1) (.iface t v) (.iface t v) = true := by simp [beqV, h]
theorem beqL_cons {n : Nat} {v : Value} {r : List Value} (h : beqV n v v = true) (h2 : beqL n r r = true) : beqL (n + 1) (v :: r) (v :: r) = true := by simp [beqL, h, h2]
theorem beqL_nil {n : Nat} : beqL n [] [] = true := by cases n <;> simp [beqL]
theorem beqV_agg {n : Nat} {l : Array Value} (h : beqL n l.toList l.toList = true) : beqV (n + 1) (.agg l) (.agg l) = true := by simp [beqV, h]

/-! ### a loop, round by round -/
def WL (E : Env) (n : Nat) (b : ACode) (Q : AExit → Tr Value → AHeap → Prop) (T : Tr Value) (h : AHeap) : Prop :=
  ∃ e T' h', iter (E.run b) n T h = some (e, T', h') ∧ Q e T' h'
theorem W_loop_all {E : Env} {b : ACode} {Q : AExit → Tr Value → AHeap → Prop} {T : Tr Value} {h : AHeap} : W E (.loop b) Q T h = WL E E.L b Q T h := rfl
def QN (E : Env) (n : Nat) (b : ACode) (Q : AExit → Tr Value → AHeap → Prop) : AExit → Tr Value → AHeap → Prop
  | .normal, T, h => WL E n b Q T h
  | e, T, h => Q e T h
@[simp] theorem QN_normal {E : Env} {n : Nat} {b : ACode} {Q : AExit → Tr Value → AHeap → Prop} {T : Tr Value} {h : AHeap} : QN E n b Q .normal T h = WL E n b Q T h := rfl
@[simp] theorem QN_exit {E : Env} {n id : Nat} {b : ACode} {Q : AExit → Tr Value → AHeap → Prop} {T : Tr Value} {h : AHeap} : QN E n b Q (.exit id) T h = Q (.exit id) T h := rfl
@[simp] theorem QN_ret {E : Env} {n : Nat} {b : ACode} {Q : AExit → Tr Value → AHeap → Prop} {T : Tr Value} {h : AHeap} : QN E n b Q .ret T h = Q .ret T h := rfl
theorem WL_succ {E : Env} {n : Nat} {b : ACode} {Q : AExit → Tr Value → AHeap → Prop} {T : Tr Value} {h : AHeap} : WL E (n + 1) b Q T h = W E b (QN E n b Q) T h := by
  apply propext
  constructor
  · rintro ⟨e, T', h', hr, hq⟩
    simp only [iter] at hr
    split at hr
    · rename_i T1 h1 h2
      exact ⟨.normal, T1, h1, h2, ⟨e, T', h', hr, hq⟩⟩
    · rename_i hne
      refine ⟨e, T', h', hr, ?_⟩
      cases e with
      | normal => exact absurd hr (hne T' h')
      | exit id => exact hq
      | ret => exact hq
  · rintro ⟨e, T', h', hr, hq⟩
    cases e with
    | normal =>
      obtain ⟨e, T2, h2, hr2, hq⟩ := hq
      refine ⟨e, T2, h2, ?_, hq⟩
      simp only [iter]
      rw [hr]; exact hr2
    | exit id => exact ⟨_, T', h', by simp only [iter]; rw [hr], hq⟩
    | ret => exact ⟨_, T', h', by simp only [iter]; rw [hr], hq⟩

/-! ### rows of numbers -/
/-- From a cell on a row has these numbers. -/
def RowI (h : AHeap) (k : IntKind) (m off : Nat) (l : List Int) : Prop :=
  ∃ ro gr c, h.get m = .row ro gr c ∧ ∀ i (hi : i < l.length), c.get (off + i) = some (.int k l[i])
theorem RowI.load {h : AHeap} {k : IntKind} {m off : Nat} {l : List Int} (hr : RowI h k m off l) {i : Nat} (hi : i < l.length) : aLoad none (.pointer (some ⟨m, off + i, none⟩)) h = some (.int k l[i]) := by
  obtain ⟨ro, gr, c, h1, h2⟩ := hr
  simp only [aLoad, h1, h2 i hi]
/-- Element i of a list of numbers; 0 beyond. -/
def rdI (l : List Int) (i : Int) : Int := l.getD i.toNat 0
theorem RowI.rd {h : AHeap} {k : IntKind} {m off : Nat} {l : List Int} (hr : RowI h k m off l) {i : Int} (h0 : 0 ≤ i) (h1 : i < l.length) : aLoad none (.pointer (some ⟨m, off + i.toNat, none⟩)) h = some (.int k (rdI l i)) := by
  have hi : i.toNat < l.length := by omega
  rw [hr.load hi, rdI, List.getD_eq_getElem?_getD, List.getElem?_eq_getElem hi]; rfl
theorem RowI.rdn {h : AHeap} {k : IntKind} {m off : Nat} {l : List Int} (hr : RowI h k m off l) {n : Nat} (h1 : ((OfNat.ofNat n : Nat) : Int) < l.length) : aLoad none (.pointer (some ⟨m, off + (OfNat.ofNat n : Nat), none⟩)) h = some (.int k (rdI l ((OfNat.ofNat n : Nat) : Int))) := by
  have := hr.rd (i := ((OfNat.ofNat n : Nat) : Int)) (Int.natCast_nonneg _) h1
  rwa [Int.toNat_natCast] at this
theorem RowI.rd0 {h : AHeap} {k : IntKind} {m off : Nat} {l : List Int} (hr : RowI h k m off l) (h1 : 0 < l.length) : aLoad none (.pointer (some ⟨m, off, none⟩)) h = some (.int k (rdI l 0)) := by
  have := hr.rd (i := 0) (by omega) (by omega)
  simpa using this
def Byt (l : List Int) : Prop := ∀ x ∈ l, 0 ≤ x ∧ x < 256
theorem Byt.rd {l : List Int} (hb : Byt l) (i : Int) : 0 ≤ rdI l i ∧ rdI l i < 256 := by
  unfold rdI
  rcases Nat.lt_or_ge i.toNat l.length with h | h
  · rw [List.getD_eq_getElem?_getD, List.getElem?_eq_getElem h]; exact hb _ (List.getElem_mem h)
  · rw [List.getD_eq_getElem?_getD, List.getElem?_eq_none h]; exact ⟨by decide, by decide⟩
theorem RowI.of_get {h h' : AHeap} {k : IntKind} {m off : Nat} {l : List Int} (hr : RowI h k m off l) (e : h'.get m = h.get m) : RowI h' k m off l := by
  obtain ⟨ro, gr, c, h1, h2⟩ := hr
  exact ⟨ro, gr, c, by rw [e]; exact h1, h2⟩
theorem RowI.drop {h : AHeap} {k : IntKind} {m off : Nat} {l : List Int} (hr : RowI h k m off l) (j : Nat) : RowI h k m (off + j) (l.drop j) := by
  obtain ⟨ro, gr, c, h1, h2⟩ := hr
  refine ⟨ro, gr, c, h1, fun i hi => ?_⟩
  have hi' : j + i < l.length := by simp at hi; omega
  rw [Nat.add_assoc, h2 (j + i) hi']
  simp
theorem RowI.take {h : AHeap} {k : IntKind} {m off : Nat} {l : List Int} (hr : RowI h k m off l) (j : Nat) : RowI h k m off (l.take j) := by
  obtain ⟨ro, gr, c, h1, h2⟩ := hr
  refine ⟨ro, gr, c, h1, fun i hi => ?_⟩
  have hi' : i < l.length := by simp at hi; omega
  rw [h2 i hi']
  simp
/-! ### parts of results -/
@[simp] theorem ex2_0 {a b : Value} : aExtract 0 (.tuple #[a, b]) = some a := rfl
@[simp] theorem ex2_1 {a b : Value} : aExtract 1 (.tuple #[a, b]) = some b := rfl
@[simp] theorem ex3_0 {a b c : Value} : aExtract 0 (.tuple #[a, b, c]) = some a := rfl
@[simp] theorem ex3_1 {a b c : Value} : aExtract 1 (.tuple #[a, b, c]) = some b := rfl
@[simp] theorem ex3_2 {a b c : Value} : aExtract 2 (.tuple #[a, b, c]) = some c := rfl
@[simp] theorem ex4_0 {a b c d : Value} : aExtract 0 (.tuple #[a, b, c, d]) = some a := rfl
@[simp] theorem ex4_1 {a b c d : Value} : aExtract 1 (.tuple #[a, b, c, d]) = some b := rfl
@[simp] theorem ex4_2 {a b c d : Value} : aExtract 2 (.tuple #[a, b, c, d]) = some c := rfl
@[simp] theorem ex4_3 {a b c d : Value} : aExtract 3 (.tuple #[a, b, c, d]) = some d := rfl
/-! ### numbers -/
theorem wrapF_i64 {n : Int} (h1 : -9223372036854775808 ≤ n) (h2 : n ≤ 9223372036854775807) : wrapF .i64 n = n := by simp [wrapF, loK, hiK, h1, h2]
theorem wrapF_i32 {n : Int} (h1 : -2147483648 ≤ n) (h2 : n ≤ 2147483647) : wrapF .i32 n = n := by simp [wrapF, loK, hiK, h1, h2]
theorem wrapF_u64 {n : Int} (h1 : 0 ≤ n) (h2 : n ≤ 18446744073709551615) : wrapF .u64 n = n := by simp [wrapF, loK, hiK, h1, h2]
theorem wrapF_u32 {n : Int} (h1 : 0 ≤ n) (h2 : n ≤ 4294967295) : wrapF .u32 n = n := by simp [wrapF, loK, hiK, h1, h2]
theorem wrapF_u16 {n : Int} (h1 : 0 ≤ n) (h2 : n ≤ 65535) : wrapF .u16 n = n := by simp [wrapF, loK, hiK, h1, h2]
theorem wrapF_u8 {n : Int} (h1 : 0 ≤ n) (h2 : n ≤ 255) : wrapF .u8 n = n := by simp [wrapF, loK, hiK, h1, h2]
theorem wrapF_mod_u8 {n : Int} : wrapF .u8 n = n % 256 := by
  rw [wrapF_eq]; simp [IntKind.wrap, IntKind.signed, IntKind.bits]
theorem wrapF_mod_u32 {n : Int} : wrapF .u32 n = n % 4294967296 := by
  rw [wrapF_eq]; simp [IntKind.wrap, IntKind.signed, IntKind.bits]
theorem wrapF_mod_u64 {n : Int} : wrapF .u64 n = n % 18446744073709551616 := by
  rw [wrapF_eq]; simp [IntKind.wrap, IntKind.signed, IntKind.bits]
theorem shlF_wrap {k : IntKind} {x : Int} {n : Nat} : shlF k x n = wrapF k (x * 2 ^ n) := by rw [shlF_eq, wrapF_eq]
theorem shrF_div {x : Int} {n : Nat} : shrF x n = x / 2 ^ n := by
  rw [shrF_eq, Int.fdiv_eq_ediv_of_nonneg _ (Int.le_of_lt (Int.pow_pos (by decide)))]
theorem or_low {k : IntKind} {x b : Int} {n : Nat} (hx : 0 ≤ x) (hb0 : 0 ≤ b) (hb : b < 2 ^ n) (hk : x * 2 ^ n < capK k) (hk2 : b < capK k) : bitsF .or k (x * 2 ^ n) b = some (x * 2 ^ n + b) := by
  obtain ⟨a, rfl⟩ := Int.eq_ofNat_of_zero_le hx
  obtain ⟨c, rfl⟩ := Int.eq_ofNat_of_zero_le hb0
  have e : (a : Int) * 2 ^ n = ((a <<< n : Nat) : Int) := by rw [Nat.shiftLeft_eq]; push_cast; rfl
  have hc : c < 2 ^ n := by exact_mod_cast hb
  rw [e] at hk ⊢
  have h1 : a <<< n < capK k := by exact_mod_cast hk
  have h2 : c < capK k := by exact_mod_cast hk2
  rw [← Int.natCast_add, Nat.shiftLeft_add_eq_or_of_lt hc]
  show (match (Int.ofNat (a <<< n)), (Int.ofNat c) with | .ofNat a, .ofNat b => if a < capK k ∧ b < capK k then (bitsNat .or a b).map Int.ofNat else bitsSlow .or k (.ofNat a) (.ofNat b) | x, y => bitsSlow .or k x y) = _
  simp only
  rw [if_pos ⟨h1, h2⟩]
  rfl
theorem or8_u16 {x b : Int} (hx : 0 ≤ x) (hb0 : 0 ≤ b) (hb : b < 256) (hk : x * 256 < 65536) : bitsF .or .u16 (x * 256) b = some (x * 256 + b) := by
  have := or_low (k := .u16) (n := 8) hx hb0 (by simpa using hb) (by simpa [capK] using hk) (by simp [capK]; omega)
  simpa using this
theorem or8_u32 {x b : Int} (hx : 0 ≤ x) (hb0 : 0 ≤ b) (hb : b < 256) (hk : x * 256 < 4294967296) : bitsF .or .u32 (x * 256) b = some (x * 256 + b) := by
  have := or_low (k := .u32) (n := 8) hx hb0 (by simpa using hb) (by simpa [capK] using hk) (by simp [capK]; omega)
  simpa using this
theorem or8_u64 {x b : Int} (hx : 0 ≤ x) (hb0 : 0 ≤ b) (hb : b < 256) (hk : x * 256 < 18446744073709551616) : bitsF .or .u64 (x * 256) b = some (x * 256 + b) := by
  have := or_low (k := .u64) (n := 8) hx hb0 (by simpa using hb) (by simpa [capK] using hk) (by simp [capK]; omega)
  simpa using this
theorem or0_u16 {b : Int} (hb0 : 0 ≤ b) (hb : b < 65536) : bitsF .or .u16 0 b = some b := by
  obtain ⟨a, rfl⟩ := Int.eq_ofNat_of_zero_le hb0
  show (match (Int.ofNat 0), (Int.ofNat a) with | .ofNat a, .ofNat b => if a < capK .u16 ∧ b < capK .u16 then (bitsNat .or a b).map Int.ofNat else bitsSlow .or .u16 (.ofNat a) (.ofNat b) | x, y => bitsSlow .or .u16 x y) = _
  simp only
  rw [if_pos ⟨by simp [capK], by simp only [capK]; omega⟩]
  simp [bitsNat]
theorem or0_u32 {b : Int} (hb0 : 0 ≤ b) (hb : b < 4294967296) : bitsF .or .u32 0 b = some b := by
  obtain ⟨a, rfl⟩ := Int.eq_ofNat_of_zero_le hb0
  show (match (Int.ofNat 0), (Int.ofNat a) with | .ofNat a, .ofNat b => if a < capK .u32 ∧ b < capK .u32 then (bitsNat .or a b).map Int.ofNat else bitsSlow .or .u32 (.ofNat a) (.ofNat b) | x, y => bitsSlow .or .u32 x y) = _
  simp only
  rw [if_pos ⟨by simp [capK], by simp only [capK]; omega⟩]
  simp [bitsNat]
theorem or0_u64 {b : Int} (hb0 : 0 ≤ b) (hb : b < 18446744073709551616) : bitsF .or .u64 0 b = some b := by
  obtain ⟨a, rfl⟩ := Int.eq_ofNat_of_zero_le hb0
  show (match (Int.ofNat 0), (Int.ofNat a) with | .ofNat a, .ofNat b => if a < capK .u64 ∧ b < capK .u64 then (bitsNat .or a b).map Int.ofNat else bitsSlow .or .u64 (.ofNat a) (.ofNat b) | x, y => bitsSlow .or .u64 x y) = _
  simp only
  rw [if_pos ⟨by simp [capK], by simp only [capK]; omega⟩]
  simp [bitsNat]
theorem aIndexSl_ok {es m o len cap : Nat} {i : Int} (h1 : 0 ≤ i) (h2 : i < len) : aIndexSl es (.slice (some ⟨m, o, none⟩) len cap) i = some (.pointer (some ⟨m, o + i.toNat * es, none⟩)) := by simp [aIndexSl, h1, h2]
theorem aIndexArr_ok {es m o len : Nat} {i : Int} (h1 : 0 ≤ i) (h2 : i < len) : aIndexArr len es (.pointer (some ⟨m, o, none⟩)) i = some (.pointer (some ⟨m, o + i.toNat * es, none⟩)) := by simp [aIndexArr, h1, h2]
/-- Which way. -/
def onC (E : Env) (v : Value) (a b : ACode) (Q : AExit → Tr Value → AHeap → Prop) (T : Tr Value) (h : AHeap) : Prop :=
  match v with
  | .bool true => W E a Q T h
  | .bool false => W E b Q T h
  | _ => False
theorem onC_true {E : Env} {a b : ACode} {Q : AExit → Tr Value → AHeap → Prop} {T : Tr Value} {h : AHeap} : onC E (.bool true) a b Q T h = W E a Q T h := rfl
theorem onC_false {E : Env} {a b : ACode} {Q : AExit → Tr Value → AHeap → Prop} {T : Tr Value} {h : AHeap} : onC E (.bool false) a b Q T h = W E b Q T h := rfl
theorem W_condV {E : Env} {c : Operand} {a b : ACode} {Q : AExit → Tr Value → AHeap → Prop} {T : Tr Value} {h : AHeap} : W E (.cond c a b) Q T h = onC E (aeval T c) a b Q T h := by
  unfold onC
  split
  · rename_i e; exact W_cond_true e
  · rename_i e; exact W_cond_false e
  · rename_i e1 e2
    apply propext
    constructor
    · rintro ⟨e, T', h', hr, _⟩
      simp only [Env.run, exec] at hr
      cases hr
    · exact False.elim

attribute [simp] W_skip W_exit W_ret W_both W_seq WS_nil WS_op WS_call WS_gd W_block onOp_some onG_true onG_false guardOn_some putT_some putT_none aeval_tmp aeval_const aeval_func Tr.get_set Tr.get_leaf aInt aShift isShift argsT aop aLen
  W_draw WD_nil WD_plain WD_call WD_gd onD_pure onD_read onD_fresh onD_chain onDH_true onDH_false beqV_int beqV_bool beqV_slice beqV_ptr beqV_str beqV_nilI beqV_map recheck aIndexAddr aConv aPart aField aRes oneOrTup aNil unOpA onC_true onC_false W_condV bitsN strShape
end
end Go.AM
