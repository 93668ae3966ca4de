import Derived.Test.YtoehafeeoggpkaaAM38
set_option linter.unusedVariables false
set_option linter.unusedSimpArgs false
set_option linter.unnecessarySimpa false
/-! Part 39: ranges over functions, in reasoning; rows of pairs of numbers. -/
namespace Go.AM
noncomputable section
section
variable {E : Env} {Q : AExit → Tr Value → AHeap → Prop} {T : Tr Value} {h : AHeap}
/-- What a function answers while a range goes on. -/
def Env.goR (E : Env) (rnd : RoundT) (f : FuncId) (args : List Value) (h : AHeap) : Option (Value × AHeap) := callFR true E.tab E.L E.d rnd f args h
/-- The round of a range. -/
def Env.rnd1 (E : Env) (m : Nat) (ps : List Nat) (as bd : ACode) (T : Tr Value) : RoundT := aRound m ps (E.run as) (E.run bd) T E.rnd
theorem W_rangeF {it : Operand} {ps : List Nat} {as bd : ACode} {f : FuncId} {a b : Array Value} {r : Value} {h1 : AHeap} (hx : aeval T it = .func (.func f) a b)
    (hr : E.goR (E.rnd1 h.next ps as bd T) f (a.toList ++ .func (.yield h.next) #[] #[] :: b.toList) (h.new (.loop .ready)) = some (r, h1)) (hl : h1.get h.next = .loop .ready) (hq : Q .normal T (h1.set h.next .dead)) : W E (.rangeF it ps as bd) Q T h := by
  refine ⟨.normal, T, h1.set h.next .dead, ?_, hq⟩
  have e : E.run (.rangeF it ps as bd) T h = (match E.goR (E.rnd1 h.next ps as bd T) f (a.toList ++ .func (.yield h.next) #[] #[] :: b.toList) (h.new (.loop .ready)) with
      | some (_, h1) => match h1.get h.next with
        | .loop .ready => some (.normal, T, h1.set h.next .dead)
        | .loop .ret => some (.ret, T, h1.set h.next .dead)
        | .loop (.exit id) => some (.exit id, T, h1.set h.next .dead)
        | _ => none
      | none => none) := by
    simp only [Env.run, exec, hx]; rfl
  rw [e, hr]
  simp only [hl]
/-- One round that ends as it should. -/
theorem round_ok {m : Nat} {ps : List Nat} {as bd : ACode} {args : List Value} {T1 : Tr Value} {h1 : AHeap} (hm : h.get m = .loop .ready) (hn : args.length = ps.length)
    (ha : W E as (fun e T' h' => e = .normal ∧ T' = T1 ∧ h' = h1) (putAll ps args T) h) (hm1 : h1.get m = .loop .ready) {R : AHeap → Prop}
    (hb : W E bd (fun e T' h' => e = .normal ∧ h'.get m = .loop .busy ∧ R (h'.set m (.loop .ready))) T1 (h1.set m (.loop .busy))) :
    ∃ h2, E.rnd1 m ps as bd T m args h = some (.bool true, h2) ∧ R h2 := by
  obtain ⟨e, T', h', e1, rfl, rfl, rfl⟩ := ha
  obtain ⟨e, T2, h2, e2, rfl, g2, hR⟩ := hb
  refine ⟨h2.set m (.loop .ready), ?_, hR⟩
  simp only [Env.rnd1, aRound, if_true, hm, hn, e1, hm1, e2, g2]
/-- A call of a function value. -/
def cvO (E : Env) (v : Value) (args : List Value) (h : AHeap) : Option (Value × AHeap) :=
  match v with
  | .func (.func g) a b => E.go g (a.toList ++ args ++ b.toList) h
  | .func (.yield m) _ _ => E.rnd m args h
  | _ => none
theorem doOp_cv {f : Operand} {args : List Operand} {ρ : Operand → Value} : doOp true (callFR true E.tab E.L E.d noRound) E.rnd (.callv f args) ρ h = cvO E (ρ f) (args.map ρ) h := by
  simp only [doOp, cvO, Env.go]
  generalize ρ f = v
  cases v with
  | func fn a b => cases fn <;> rfl
  | _ => rfl
theorem WS_cv {Q : Tr Value → AHeap → Prop} {d : Option Nat} {f : Operand} {args : List Operand} {l : List ROp} :
    WS E (⟨d, none, .callv f args⟩ :: l) Q T h = onOp E (cvO E (aeval T f) (args.map (aeval T)) h) d l Q T := by rw [WS_cons, WO_on, doOp_cv]
end
/-- A function in the midst of a range. -/
theorem goR_ex {tab : FuncId → Option AEntry} {L d : Nat} {rnd rnd' : RoundT} {f : FuncId} {af : AFunc} (ht : tab f = some (.code af)) {args : List Value} {h : AHeap} {R : Value → AHeap → Prop} (hn : args.length = af.nargs)
    (hw : W ⟨tab, L, d, rnd⟩ af.code (fun e T' h1 => (e = .normal ∨ e = .ret) ∧ ∃ l, aRes T' h1 af.res = some l ∧ R (oneOrTup l) h1) (argsT 0 args .leaf) h) :
    ∃ r h', (⟨tab, L, d + 1, rnd'⟩ : Env).goR rnd f args h = some (r, h') ∧ R r h' := by
  obtain ⟨e, T', h1, hr, he, l, hl, hR⟩ := hw
  refine ⟨oneOrTup l, h1, ?_, hR⟩
  simp only [Env.goR, callFR, ht, runF, hn, if_true]
  simp only [Env.run] at hr
  rw [hr]
  rcases he with rfl | rfl
  · simp only [hl]
  · simp only [hl]
/-- A number is stored. -/
theorem storeZ {h : AHeap} {m gr : Nat} {k : IntKind} {Z : List Int} (g : h.get m = .row false gr (.vals (Z.map (Value.int k)))) {i : Nat} (hi : i < Z.length) (hk : k ≠ .u8) (y : Int) :
    aStore 1 (.pointer (some ⟨m, i, none⟩)) (.int k y) h = some (h.set m (.row false gr (.vals ((Z.set i y).map (Value.int k))))) := by
  have hc : (Value.int k y).cells = #[.int k y] := rfl
  have hsz : i + 1 ≤ (Cells.vals (Z.map (Value.int k))).size := by show _ ≤ (Z.map (Value.int k)).length; simp; omega
  simp only [aStore, g, hc]
  rw [if_pos ⟨rfl, hsz, rfl⟩]
  have : cellsOf (.int k y) = .vals [.int k y] := by cases k <;> first | rfl | exact absurd rfl hk
  rw [this]
  have key : (Cells.vals (Z.map (Value.int k))).blit i (.vals [.int k y]) = .vals ((Z.set i y).map (Value.int k)) := by
    simp only [Cells.blit, Cells.ext, Cells.app, Cells.size]
    rw [List.map_set, List.set_eq_take_append_cons_drop, if_pos (by simpa using hi)]
    congr 1
    rw [List.drop_zero, List.take_of_length_le (l := List.drop (i + [Value.int k y].length) _) (by simp), List.append_assoc]
    rfl
  rw [key]
end
end Go.AM
