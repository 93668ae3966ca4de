import Derived.Test.YtoehafeeoggpkaaAM31
import Derived.Test.YtoehafeeoggpkaaAM35
set_option linter.unusedVariables false
set_option linter.unusedSimpArgs false
/-! Part 37: calls of methods through interfaces, sets of numbers as maps, bytes packed in one number: in reasoning. -/
namespace Go.AM
noncomputable section
open Go.RowKit
section
variable {E : Env} {T : Tr Value} {h : AHeap}
/-- A method's call. -/
def invO (E : Env) (v : Value) (mt : List (TypeId × FuncId)) (args : List Value) (h : AHeap) : Option (Value × AHeap) :=
  match v with
  | .iface t u => match findT mt t with
    | some f => E.go f (u :: args) h
    | none => none
  | _ => none
theorem invO_iface {t : TypeId} {u : Value} {mt : List (TypeId × FuncId)} {args : List Value} {f : FuncId} (hf : findT mt t = some f) : invO E (.iface t u) mt args h = E.go f (u :: args) h := by
  simp only [invO, hf]
theorem doOp_inv {r : Operand} {mt : List (TypeId × FuncId)} {args : List Operand} {ρ : Operand → Value} : doOp true (callFR true E.tab E.L E.d noRound) E.rnd (.invoke r mt args) ρ h = invO E (ρ r) mt (args.map ρ) h := by
  simp only [doOp, invO, Env.go]
  generalize ρ r = v
  cases v <;> rfl
theorem WS_inv {Q : Tr Value → AHeap → Prop} {d : Option Nat} {r : Operand} {mt : List (TypeId × FuncId)} {args : List Operand} {l : List ROp} :
    WS E (⟨d, none, .invoke r mt args⟩ :: l) Q T h = onOp E (invO E (aeval T r) mt (args.map (aeval T)) h) d l Q T := by rw [WS_cons, WO_on, doOp_inv]
theorem WD_inv {s : Nat} {idx slot : Nat} {dst : Option Nat} {rr : Operand} {mt : List (TypeId × FuncId)} {args : List Operand} {re pend : List Nat} {r : List DOp} {Q : Tr Value → AHeap → Prop} {C cur : AHeap} {rd : List (Nat × AOp × Tr Value × Value)} :
    WD E s (⟨idx, .chain, slot, ⟨dst, none, .invoke rr mt args⟩, re, pend⟩ :: r) Q T C cur rd = onD E s (invO E (aeval T rr) mt (args.map (aeval T)) cur) ⟨idx, .chain, slot, ⟨dst, none, .invoke rr mt args⟩, re, pend⟩ r Q T C cur rd := by
  rw [WD_cons0 (.inl rfl), ← doOp_inv]; rfl
/-- A method value's nil check. -/
def nilO (v : Value) (mt : List (TypeId × FuncId)) (name : String) (h : AHeap) : Option (Value × AHeap) :=
  match v with
  | .func (.method nm) a b => if nm = name then (match (a[0]? : Option Value) with
      | some (.iface t v) => match findT mt t with
        | some _ => some (.func (.method nm) a b, h)
        | none => none
      | _ => none) else none
  | _ => none
theorem doOp_nilM {x : Operand} {mt : List (TypeId × FuncId)} {name : String} {ρ : Operand → Value} : doOp true (callFR true E.tab E.L E.d noRound) E.rnd (.nilM mt name x) ρ h = nilO (ρ x) mt name h := rfl
theorem WD_nilM {s : Nat} {idx slot : Nat} {dst : Option Nat} {x : Operand} {mt : List (TypeId × FuncId)} {name : String} {re pend : List Nat} {r : List DOp} {Q : Tr Value → AHeap → Prop} {C cur : AHeap} {rd : List (Nat × AOp × Tr Value × Value)} :
    WD E s (⟨idx, .chain, slot, ⟨dst, none, .nilM mt name x⟩, re, pend⟩ :: r) Q T C cur rd = onD E s (nilO (aeval T x) mt name cur) ⟨idx, .chain, slot, ⟨dst, none, .nilM mt name x⟩, re, pend⟩ r Q T C cur rd := by
  rw [WD_cons0 (.inl rfl), ← doOp_nilM (E := E)]; rfl
end
/-! ### sets of numbers -/
/-- A map that holds 1 at each of some numbers. -/
def SetI (h : AHeap) (m : Nat) (S : List Int) : Prop := ∃ es cl, h.get m = .map es cl ∧ es.map MapEntry.key = S.map (Value.int .i64) ∧ ∀ e ∈ es, e.val = .int .i64 1
theorem SetI.new (h : AHeap) : SetI (h.new (.map [] 0)) h.next [] := ⟨[], 0, by rw [AHeap.get_new, if_pos rfl], rfl, fun e he => by cases he⟩
theorem SetI.of_get {h h' : AHeap} {m : Nat} {S : List Int} (a : SetI h m S) (e : h'.get m = h.get m) : SetI h' m S := by
  obtain ⟨es, cl, h1, h2, h3⟩ := a
  exact ⟨es, cl, by rw [e]; exact h1, h2, h3⟩
theorem sameNow_int (n x : Int) : Instr.sameNow (.int .i64) (.int .i64 n) (.int .i64 x) = some (decide (n = x)) := by
  simp only [Instr.sameNow]
  by_cases e : n = x <;> simp [e]
theorem findNow_int (n : Int) : ∀ (es : List MapEntry) (S : List Int) (i : Nat), es.map MapEntry.key = S.map (Value.int .i64) → (∀ e ∈ es, e.val = .int .i64 1) →
    (n ∉ S ∧ Instr.findNow (.int .i64) (.int .i64 n) es i = some none) ∨ (n ∈ S ∧ ∃ j, Instr.findNow (.int .i64) (.int .i64 n) es i = some (some (i + j, .int .i64 1)) ∧ S[j]? = some n)
  | [], S, i, hk, hv => by
    cases S with
    | nil => exact .inl ⟨by simp, rfl⟩
    | cons x S => simp at hk
  | e :: es, S, i, hk, hv => by
    cases S with
    | nil => simp at hk
    | cons x S =>
      simp only [List.map_cons, List.cons.injEq] at hk
      have h1 : Instr.sameNow (.int .i64) (.int .i64 n) e.key = some (decide (n = x)) := by rw [hk.1]; exact sameNow_int n x
      by_cases hx : n = x
      · right
        rw [decide_eq_true hx] at h1
        refine ⟨by simp [hx], 0, ?_, by simp [hx]⟩
        simp only [Instr.findNow, h1]
        rw [hv e (by simp)]; rfl
      · rw [decide_eq_false hx] at h1
        rcases findNow_int n es S (i + 1) hk.2 (fun e he => hv e (by simp [he])) with ⟨h2, h3⟩ | ⟨h2, j, h3, h4⟩
        · left
          refine ⟨by simp [hx, h2], ?_⟩
          simp only [Instr.findNow, h1, h3]
        · right
          refine ⟨by simp [h2], j + 1, ?_, by simpa using h4⟩
          simp only [Instr.findNow, h1, h3]
          congr 3; omega
theorem SetI.look {h : AHeap} {m : Nat} {S : List Int} (a : SetI h m S) (n : Int) : aLookup ⟨.int .i64, .int .i64 0⟩ false (.map (some m)) (.int .i64 n) h = some (.int .i64 (if n ∈ S then 1 else 0)) := by
  obtain ⟨es, cl, h1, h2, h3⟩ := a
  simp only [aLookup, keyOk, if_true, h1]
  rcases findNow_int n es S 0 h2 h3 with ⟨h4, h5⟩ | ⟨h4, j, h5, h6⟩
  · rw [h5, if_neg h4]; rfl
  · rw [h5, if_pos h4]; rfl
theorem look_nil (n : Int) (h : AHeap) : aLookup ⟨.int .i64, .int .i64 0⟩ false (.map none) (.int .i64 n) h = some (.int .i64 0) := rfl
theorem SetI.put {h : AHeap} {m : Nat} {S : List Int} (a : SetI h m S) {n : Int} (hn : n ∉ S) : ∃ o, aMapPut ⟨.int .i64, .int .i64 0⟩ (.map (some m)) (.int .i64 n) (.int .i64 1) h = some (h.set m o) ∧ SetI (h.set m o) m (S ++ [n]) := by
  obtain ⟨es, cl, h1, h2, h3⟩ := a
  rcases findNow_int n es S 0 h2 h3 with ⟨h4, h5⟩ | ⟨h4, j, h5, h6⟩
  · refine ⟨.map (es ++ [{ key := .int .i64 n, val := .int .i64 1, born := cl }]) (cl + 1), ?_, ⟨_, _, by rw [AHeap.get_set, if_pos rfl], by simp [h2], ?_⟩⟩
    · simp only [aMapPut, keyOk, if_true, h1, h5]
    · intro e he
      rcases List.mem_append.1 he with he | he
      · exact h3 e he
      · simp only [List.mem_singleton] at he; subst he; rfl
  · exact absurd h4 hn
/-! ### bytes in one number -/
def lN (n len : Nat) : List Int := (List.range len).map fun i => ((n >>> (8 * i) % 256 : Nat) : Int)
theorem lN_len (n len : Nat) : (lN n len).length = len := by simp [lN]
theorem lN_byt (n len : Nat) : Byt (lN n len) := by
  intro x hx
  simp only [lN, List.mem_map] at hx
  obtain ⟨i, _, rfl⟩ := hx
  have := Nat.mod_lt (n >>> (8 * i)) (show 256 > 0 by decide)
  omega
theorem lN_rd (n len i : Nat) (hi : i < len) : rdI (lN n len) (i : Int) = ((n >>> (8 * i) % 256 : Nat) : Int) := by
  unfold rdI lN
  rw [Int.toNat_natCast, List.getD_eq_getElem?_getD, List.getElem?_map, List.getElem?_range hi]
  rfl
theorem byV_lN (n len : Nat) : byV (lN n len) = (Cells.bytes n len).toList := by
  simp only [byV, lN, List.map_map]; rfl
/-- Nothing lies beyond. -/
def deadB : AObj → Bool
  | .dead => true
  | _ => false
def leafB : Tr AObj → Bool
  | .leaf => true
  | _ => false
def wfB (h : AHeap) : Bool := leafB h.t.y && (List.range 4096).all fun m => Nat.ble (m + 1) h.next || deadB (h.get m)
theorem wfB_wf {h : AHeap} (hb : wfB h = true) : Wf h := by
  simp only [wfB, Bool.and_eq_true, List.all_eq_true, List.mem_range] at hb
  intro m hm
  by_cases hl : m < 4096
  · have := hb.2 m hl
    rw [Bool.or_eq_true] at this
    rcases this with h1 | h1
    · have := Nat.le_of_ble_eq_true h1; omega
    · generalize h.get m = o at h1
      cases o <;> simp [deadB] at h1
      rfl
  · have h1 := hb.1
    show h.t.get m = .dead
    unfold HT.get
    have : Nat.ble m 4095 = false := by
      cases hq : Nat.ble m 4095 with
      | false => rfl
      | true => have := Nat.le_of_ble_eq_true hq; omega
    rw [this]
    show HT.getS h.t m = .dead
    unfold HT.getS
    generalize h.t.y = y at h1
    cases y <;> simp [leafB] at h1
    rfl
/-- A quick run is a run. -/
theorem q_go {tab : FuncId → Option AEntry} {L d : Nat} {f : FuncId} {args : List Value} {h : AHeap} {r : Value × AHeap} (hq : qCallR true tab L d noRound f args h = some r) : (⟨tab, L, d, noRound⟩ : Env).go f args h = some r := by
  rw [qCallR_eq] at hq
  exact fCallR_le d noRound noRound (fun _ _ _ _ h => h) f args h r hq
end
end Go.AM
