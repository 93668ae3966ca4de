import Derived.Test.YtoehafeeoggpkaaAM14
set_option linter.unusedVariables false
set_option linter.unusedSimpArgs false
/-! Part 15: every compiled operation does what the machine's does. -/
namespace Go.AM
noncomputable section
open Go.RowKit

section
variable {N0 : Nat} {w0 : World} {P : Program} {σ : Sig} {h : AHeap} {w : World}

theorem eqGuard_other {op : BinOp} {t : TypeId} {x y : Operand} {a b : Value} (h : isEq op = false) : (eqGuard op t x y a b).run P w = .ok () w := by
  cases op <;> first | rfl | (cases h; done)
theorem eqGuard_plain {op : BinOp} {t : TypeId} {x y : Operand} {a b : Value} (h1 : ¬ (a = .nilIface ∧ b = .nilIface)) (h2 : ¬ (isAggV a = true ∧ isAggV b = true)) : (eqGuard op t x y a b).run P w = .ok () w := by
  by_cases he : isEq op = true
  · have : op = .eql ∨ op = .neq := by cases op <;> first | exact .inl rfl | exact .inr rfl | (cases he; done)
    rcases this with rfl | rfl <;> cases a <;> cases b <;> first | rfl | (exfalso; exact h1 ⟨rfl, rfl⟩) | (exfalso; exact h2 ⟨rfl, rfl⟩)
  · exact eqGuard_other (by simpa using he)
theorem eqGuard_lit {op : BinOp} {t : TypeId} {x y : Operand} (h1 : (isConstO x || isConstO y) = true) : (eqGuard op t x y .nilIface .nilIface).run P w = .ok () w := by
  by_cases he : isEq op = true
  · have : op = .eql ∨ op = .neq := by cases op <;> first | exact .inl rfl | exact .inr rfl | (cases he; done)
    rcases this with rfl | rfl <;> cases x <;> cases y <;> first | rfl | (cases h1; done)
  · exact eqGuard_other (by simpa using he)

theorem binOp_equal {op : BinOp} {t : TypeId} {x y : Value} {b : Bool} (he : isEq op = true) (hx : (match x, y with | .int .., .int .. | .float .., .float .. | .complex .., .complex .. | .string _, .string _ => false | _, _ => true) = true) (hr : (Op.equal t x y).run P w = .ok b w) :
    (binOp op t x y).run P w = .ok (.bool (if isNeq op then !b else b)) w := by
  cases op <;> simp only [isEq, Bool.false_eq_true] at he <;> cases x <;> cases y <;> simp only [Bool.false_eq_true] at hx <;> simp only [binOp, isNeq, Sem.run_bind, hr, Result.andThen_ok, Sem.run_pure, if_true, Bool.false_eq_true, if_false]

theorem aEqL_same {n : Nat} {xs ys xs' ys' : Array Value} (rx : VRL n σ xs.toList xs'.toList) (ry : VRL n σ ys.toList ys'.toList) : ∀ (l : List (Nat × LeafK)) (b : Bool), aEqL (.agg xs) (.agg ys) l = some b → aEqL (.agg xs') (.agg ys') l = some b
  | [], b, hb => by simpa [aEqL] using hb
  | (i, k) :: l, b, hb => by
    simp only [aEqL] at hb ⊢
    split at hb
    · rename_i c d hc hd
      have hcp := cellEq_plain hc
      have gx : ∃ a, xs[i]? = some a := by
        cases hq : xs[i]? with
        | none => exfalso; apply hcp.2.2.1; simp [cellAt, Array.getD_eq_getD_getElem?, hq]
        | some a => exact ⟨a, rfl⟩
      have gy : ∃ a, ys[i]? = some a := by
        cases hq : ys[i]? with
        | none => exfalso; apply hcp.2.2.2; simp [cellAt, Array.getD_eq_getD_getElem?, hq]
        | some a => exact ⟨a, rfl⟩
      obtain ⟨a, ga⟩ := gx
      obtain ⟨a2, ga2⟩ := gy
      obtain ⟨a', ga', va⟩ := rx.get (i := i) (v := a) (by simpa using ga)
      obtain ⟨a2', ga2', va2⟩ := ry.get (i := i) (v := a2) (by simpa using ga2)
      have q1 : cellAt (.agg xs) i = a := by simp [cellAt, Array.getD_eq_getD_getElem?, ga]
      have q2 : cellAt (.agg ys) i = a2 := by simp [cellAt, Array.getD_eq_getD_getElem?, ga2]
      have q3 : cellAt (.agg xs') i = a' := by
        have : xs'[i]? = some a' := by simpa using ga'
        simp [cellAt, Array.getD_eq_getD_getElem?, this]
      have q4 : cellAt (.agg ys') i = a2' := by
        have : ys'[i]? = some a2' := by simpa using ga2'
        simp [cellAt, Array.getD_eq_getD_getElem?, this]
      rw [q1, q2] at hc
      obtain ⟨z1, z2⟩ := cellEq_rel va va2 hc
      rw [q3, q4, z1, z2, hc, aEqL_same rx ry l d hd]
      exact hb
    · cases hb

theorem toList2 {α : Type} {a : Array α} {x y : α} (h : a.toList = [x, y]) : a = #[x, y] := by
  apply Array.ext'; exact h
theorem toList1 {α : Type} {a : Array α} {x : α} (h : a.toList = [x]) : a = #[x] := by
  apply Array.ext'; exact h

theorem obind {α β : Type} {o : Option α} {f : α → β} {r : β} (h : o.map f = some r) : ∃ a, o = some a ∧ f a = r := by
  cases o with
  | none => cases h
  | some a => exact ⟨a, rfl, by simpa using h⟩

theorem exec_append (ρ' : Operand → Value) (dst : Option Tmp) (type : TypeId) (pos : String) (after : Array Edge) (guard : Option (Nat × Bool)) (args : Array Operand) (tys : Array TypeId) :
    execOp ρ' ⟨dst, .call ⟨.builtin .append, args, tys⟩, type, pos, after, guard⟩ = (do pure (.value (← Builtin.append_ tys type (args.map ρ')))) := rfl
theorem exec_copy (ρ' : Operand → Value) (dst : Option Tmp) (type : TypeId) (pos : String) (after : Array Edge) (guard : Option (Nat × Bool)) (args : Array Operand) (tys : Array TypeId) :
    execOp ρ' ⟨dst, .call ⟨.builtin .copy, args, tys⟩, type, pos, after, guard⟩ = (do pure (.value (← Builtin.copy_ tys type (args.map ρ')))) := rfl
theorem exec_len (ρ' : Operand → Value) (dst : Option Tmp) (type : TypeId) (pos : String) (after : Array Edge) (guard : Option (Nat × Bool)) (args : Array Operand) (tys : Array TypeId) :
    execOp ρ' ⟨dst, .call ⟨.builtin .len, args, tys⟩, type, pos, after, guard⟩ = (do pure (.value (← Builtin.len_ tys type (args.map ρ')))) := rfl
theorem exec_max (ρ' : Operand → Value) (dst : Option Tmp) (type : TypeId) (pos : String) (after : Array Edge) (guard : Option (Nat × Bool)) (args : Array Operand) (tys : Array TypeId) :
    execOp ρ' ⟨dst, .call ⟨.builtin .max, args, tys⟩, type, pos, after, guard⟩ = (do pure (.value (← Builtin.max_ tys type (args.map ρ')))) := rfl
theorem exec_min (ρ' : Operand → Value) (dst : Option Tmp) (type : TypeId) (pos : String) (after : Array Edge) (guard : Option (Nat × Bool)) (args : Array Operand) (tys : Array TypeId) :
    execOp ρ' ⟨dst, .call ⟨.builtin .min, args, tys⟩, type, pos, after, guard⟩ = (do pure (.value (← Builtin.min_ tys type (args.map ρ')))) := rfl
theorem map2 (ρ' : Operand → Value) (a b : Operand) : Array.map ρ' #[a, b] = #[ρ' a, ρ' b] := by simp
theorem map1 (ρ' : Operand → Value) (a : Operand) : Array.map ρ' #[a] = #[ρ' a] := by simp

set_option maxHeartbeats 4000000 in
theorem aop_run {pk : Bool} {o : Oper} {ao : AOp} {ρ ρ' : Operand → Value} {v : Value} {h' : AHeap} (hc : compOp P o.op = some ao) (hI : Inv N0 w0 σ h w) (hρ : ∀ x, opdOk x = true → VR h.next σ (ρ x) (ρ' x))
    (ha : aop pk ao ρ h = some (v, h')) : SimN N0 w0 P σ h w (execOp ρ' o) v h' := by
  obtain ⟨dst, op, type, pos, after, guard⟩ := o
  simp only at hc
  have pure1 : ∀ (x : Value) (x' : Value), VR h.next σ x x' → SimN N0 w0 P σ h w (pure (.value x') : Sem Next) x h := fun x x' hx => ⟨σ, x', w, .inl rfl, hx, hI, .refl _ _ _⟩
  cases op <;> simp only [compOp] at hc <;> (first | (cases hc; done) | skip)
  case move x =>
    split at hc <;> (first | (cases hc; done) | skip)
    rename_i hx
    injection hc with hc; subst hc
    simp only [aop, Option.some.injEq, Prod.mk.injEq] at ha
    obtain ⟨rfl, rfl⟩ := ha
    exact pure1 _ _ (hρ x hx)
  case assign x =>
    split at hc <;> (first | (cases hc; done) | skip)
    rename_i hx
    injection hc with hc; subst hc
    simp only [aop, Option.some.injEq, Prod.mk.injEq] at ha
    obtain ⟨rfl, rfl⟩ := ha
    exact pure1 _ _ (hρ x hx)
  case pick c a b =>
    split at hc <;> (first | (cases hc; done) | skip)
    rename_i hx
    simp only [Bool.and_eq_true] at hx
    injection hc with hc; subst hc
    simp only [aop] at ha
    split at ha
    · rename_i t ht
      injection ha with ha; simp only [Prod.mk.injEq] at ha; obtain ⟨rfl, rfl⟩ := ha
      have h1 := hρ c hx.1.1
      rw [ht] at h1
      have h1' : ρ' c = .bool t := by generalize ρ' c = z at h1; cases h1; rfl
      refine ⟨σ, if t then ρ' a else ρ' b, w, .inl ?_, by (cases t; (exact hρ b hx.2); (exact hρ a hx.1.2)), hI, .refl _ _ _⟩
      simp only [execOp, h1', asBool, Sem.run_bind, Sem.run_pure, Result.andThen_ok]
    · cases ha
  case alloc e =>
    split at hc <;> (first | (cases hc; done) | skip)
    rename_i i hi
    split at hc <;> (first | (cases hc; done) | skip)
    rename_i z hz
    split at hc <;> (first | (cases hc; done) | skip)
    rename_i hcl
    injection hc with hc; subst hc
    simp only [aop] at ha
    have hv : VR h.next σ (.agg z.cells) (.agg z.cells) := by
      have := VR.agg_list (VRL.closed (n := h.next) (σ := σ) depthC z.cells.toList hcl)
      simpa using this
    have := newVar_run (P := P) (t := e) (pk := pk) hI hv (by simpa [Value.cells] using ha)
    have h2 := Sim.next this
    obtain ⟨σ', v', w', h3, h4⟩ := h2
    refine ⟨σ', v', w', ?_, h4⟩
    have e1 : newVar e (Value.agg z.cells) = newVar e z := by simp [newVar, Value.cells]
    rw [e1] at h3
    simpa only [execOp, Instr.alloc, Sem.run_bind, run_zeroValue' hi hz, Result.andThen_ok] using h3
  case box e x =>
    split at hc <;> (first | (cases hc; done) | skip)
    rename_i hx
    injection hc with hc; subst hc
    simp only [aop] at ha
    exact Sim.next (newVar_run (P := P) (t := e) (pk := pk) hI (hρ x hx) ha)
  case build t ps =>
    split at hc <;> (first | (cases hc; done) | skip)
    rename_i hx
    obtain ⟨k, hk, rfl⟩ := obind hc
    simp only [aop] at ha
    obtain ⟨v0, hv0, e⟩ := obind ha
    simp only [Prod.mk.injEq] at e; obtain ⟨rfl, rfl⟩ := e
    refine Sim.next (build_run (P := P) hI hk ?_ hv0)
    have := PR.map hρ ps.toList hx
    simpa using this
  case buildSlice t n ps =>
    split at hc <;> (first | (cases hc; done) | skip)
    rename_i hx
    split at hc <;> (first | (cases hc; done) | skip)
    rename_i e hu
    obtain ⟨k, hk, rfl⟩ := obind hc
    simp only [aop] at ha
    refine Sim.next (buildSlice_run (P := P) hI hu hk ?_ ha)
    have := PR.map hρ ps.toList hx
    simpa using this
  case load t a =>
    split at hc <;> (first | (cases hc; done) | skip)
    rename_i hx
    obtain ⟨k, hk, rfl⟩ := obind hc
    simp only [aop] at ha
    obtain ⟨v0, hv0, e⟩ := obind ha
    simp only [Prod.mk.injEq] at e; obtain ⟨rfl, rfl⟩ := e
    exact Sim.next (load_run (P := P) hI hk (hρ a hx) hv0)
  case store t a x =>
    split at hc <;> (first | (cases hc; done) | skip)
    rename_i hx
    simp only [Bool.and_eq_true] at hx
    obtain ⟨i, hi, rfl⟩ := obind hc
    simp only [aop] at ha
    obtain ⟨v0, hv0, e⟩ := obind ha
    simp only [Prod.mk.injEq] at e; obtain ⟨rfl, rfl⟩ := e
    exact SimU.next (store_run (P := P) hI hi (hρ a hx.1) (hρ x hx.2) hv0)
  case nilCheck x =>
    split at hc <;> (first | (cases hc; done) | skip)
    rename_i hx
    injection hc with hc; subst hc
    simp only [aop] at ha
    have h1 := hρ x hx
    split at ha
    · rename_i a hp
      injection ha with ha; simp only [Prod.mk.injEq] at ha; obtain ⟨rfl, rfl⟩ := ha
      rw [hp] at h1
      have e : ∃ a', ρ' x = .pointer (some a') := by generalize ρ' x = z at h1; cases h1; exact ⟨_, rfl⟩
      obtain ⟨a', e⟩ := e
      refine ⟨σ, ρ' x, w, .inl ?_, h1, hI, .refl _ _ _⟩
      simp only [execOp, e, Sem.run_pure]
    · rename_i t u hp
      injection ha with ha; simp only [Prod.mk.injEq] at ha; obtain ⟨rfl, rfl⟩ := ha
      rw [hp] at h1
      have e : ∃ a' b', ρ' x = .iface a' b' := by generalize ρ' x = z at h1; cases h1; exact ⟨_, _, rfl⟩
      obtain ⟨a', b', e⟩ := e
      refine ⟨σ, ρ' x, w, .inl ?_, h1, hI, .refl _ _ _⟩
      simp only [execOp, e, Sem.run_pure]
    · rename_i f a b hp
      injection ha with ha; simp only [Prod.mk.injEq] at ha; obtain ⟨rfl, rfl⟩ := ha
      rw [hp] at h1
      have e : ∃ a' b', ρ' x = .func (.func f) a' b' := by generalize ρ' x = z at h1; cases h1; exact ⟨_, _, rfl⟩
      obtain ⟨a', b', e⟩ := e
      refine ⟨σ, ρ' x, w, .inl ?_, h1, hI, .refl _ _ _⟩
      simp only [execOp, e, Sem.run_pure]
    · cases ha
  case binOp op t x y yt =>
    split at hc <;> (first | (cases hc; done) | skip)
    rename_i hx
    simp only [Bool.and_eq_true] at hx
    have hx1 := hρ x hx.1
    have hy1 := hρ y hx.2
    have binCase : ao = .bin op x y → SimN N0 w0 P σ h w (execOp ρ' ⟨dst, .binOp op t x y yt, type, pos, after, guard⟩) v h' := by
      rintro rfl
      simp only [aop] at ha
      split at ha
      · rename_i k a k' b e1 e2
        rw [e1] at hx1; rw [e2] at hy1
        have f1 : ρ' x = .int k a := by generalize ρ' x = z at hx1; cases hx1; rfl
        have f2 : ρ' y = .int k' b := by generalize ρ' y = z at hy1; cases hy1; rfl
        have hg : (eqGuard op t x y (.int k a) (.int k' b)).run P w = .ok () w := eqGuard_plain (by simp) (by simp [isAggV])
        split at ha
        · rename_i hs
          obtain ⟨v0, hv0, e⟩ := obind ha
          simp only [Prod.mk.injEq] at e; obtain ⟨rfl, rfl⟩ := e
          have hr := aShift_run (P := P) (w := w) (k' := k') (t := t) hv0 hs
          have hv : VR h.next σ v0 v0 := by
            unfold aShift at hv0
            split at hv0
            · cases hv0
            · cases op <;> simp only [Option.some.injEq, reduceCtorEq] at hv0 <;> subst hv0 <;> exact .int _ _
          refine ⟨σ, v0, w, .inl ?_, hv, hI, .refl _ _ _⟩
          simp only [execOp, f1, f2, Sem.run_bind, hg, hr, Result.andThen_ok, Sem.run_pure]
        · rename_i hs
          split at ha
          · rename_i hk
            subst hk
            obtain ⟨v0, hv0, e⟩ := obind ha
            simp only [Prod.mk.injEq] at e; obtain ⟨rfl, rfl⟩ := e
            have hr := aInt_run (P := P) (w := w) (t := t) hv0 (by simpa using hs)
            have hv : VR h.next σ v0 v0 := by
              cases op <;> simp only [aInt, Option.some.injEq, reduceCtorEq] at hv0 <;> (first | (subst hv0; first | exact .int _ _ | exact .bool _) | (split at hv0 <;> first | (cases hv0; done) | (injection hv0 with hv0; subst hv0; exact .int _ _)) | (obtain ⟨r, _, rfl⟩ := obind hv0; exact .int _ _))
            refine ⟨σ, v0, w, .inl ?_, hv, hI, .refl _ _ _⟩
            simp only [execOp, f1, f2, Sem.run_bind, hg, hr, Result.andThen_ok, Sem.run_pure]
          · cases ha
      · rename_i a b e1 e2
        rw [e1] at hx1; rw [e2] at hy1
        have f1 : ρ' x = .string a := by generalize ρ' x = z at hx1; cases hx1; rfl
        have f2 : ρ' y = .string b := by generalize ρ' y = z at hy1; cases hy1; rfl
        have hg : (eqGuard op t x y (.string a) (.string b)).run P w = .ok () w := eqGuard_plain (by simp) (by simp [isAggV])
        obtain ⟨v0, hv0, e⟩ := obind ha
        simp only [Prod.mk.injEq] at e; obtain ⟨rfl, rfl⟩ := e
        have hr := str_run (P := P) (w := w) (t := t) hv0
        have hv : VR h.next σ v0 v0 := by
          cases op <;> simp only [aStr, Option.some.injEq, reduceCtorEq] at hv0 <;> (first | (subst hv0; exact .bool _) | (split at hv0 <;> first | (cases hv0; done) | (injection hv0 with hv0; subst hv0; exact .str _)))
        refine ⟨σ, v0, w, .inl ?_, hv, hI, .refl _ _ _⟩
        simp only [execOp, f1, f2, Sem.run_bind, hg, hr, Result.andThen_ok, Sem.run_pure]
      · cases ha
    have nilCase : ∀ k, isEq op = true → cNil P t = some k → ao = .eqN (isNeq op) k (isConstO x || isConstO y) x y → SimN N0 w0 P σ h w (execOp ρ' ⟨dst, .binOp op t x y yt, type, pos, after, guard⟩) v h' := by
      rintro k he hk rfl
      simp only [aop] at ha
      obtain ⟨b, hb, e⟩ := obind ha
      simp only [Prod.mk.injEq] at e; obtain ⟨rfl, rfl⟩ := e
      have hr := nil_run (P := P) (w := w) 9999 hk hx1 hy1 hb
      have hshape : (match ρ' x, ρ' y with | .int .., .int .. | .float .., .float .. | .complex .., .complex .. | .string _, .string _ => false | _, _ => true) = true := by
        unfold aNil at hb
        generalize ρ x = p at *
        generalize ρ y = q at *
        generalize ρ' x = p' at *
        generalize ρ' y = q' at *
        split at hb <;> first | (cases hb; done) | (cases hx1 <;> cases hy1 <;> rfl)
      have hg : (eqGuard op t x y (ρ' x) (ρ' y)).run P w = .ok () w := by
        by_cases hn : ρ' x = .nilIface ∧ ρ' y = .nilIface
        · rw [hn.1, hn.2]
          refine eqGuard_lit ?_
          rw [hn.1] at hx1; rw [hn.2] at hy1
          generalize ρ x = p at *
          generalize ρ y = q at *
          cases hx1; cases hy1
          cases k <;> simp only [aNil, reduceCtorEq] at hb
          split at hb
          · assumption
          · cases hb
        · refine eqGuard_plain hn ?_
          rintro ⟨i1, i2⟩
          unfold aNil at hb
          generalize ρ x = p at *
          generalize ρ y = q at *
          generalize ρ' x = p' at *
          generalize ρ' y = q' at *
          split at hb <;> first | (cases hb; done) | (cases hx1 <;> cases hy1 <;> cases i1)
      have hr2 := binOp_equal (op := op) (t := t) he hshape (b := b) (P := P) (w := w) (by simpa only [Op.equal, Op.maxDepth] using hr)
      refine ⟨σ, _, w, .inl ?_, .bool _, hI, .refl _ _ _⟩
      simp only [execOp, Sem.run_bind, hg, hr2, Result.andThen_ok, Sem.run_pure]
    split at hc
    · injection hc with hc; exact binCase hc.symm
    · injection hc with hc; exact binCase hc.symm
    · rename_i hu
      split at hc <;> (first | (cases hc; done) | skip)
      rename_i he
      injection hc with hc; subst hc
      simp only [aop] at ha
      split at ha
      · rename_i a b e1 e2
        injection ha with ha; simp only [Prod.mk.injEq] at ha; obtain ⟨rfl, rfl⟩ := ha
        rw [e1] at hx1; rw [e2] at hy1
        have f1 : ρ' x = .bool a := by generalize ρ' x = z at hx1; cases hx1; rfl
        have f2 : ρ' y = .bool b := by generalize ρ' y = z at hy1; cases hy1; rfl
        have hg : (eqGuard op t x y (.bool a) (.bool b)).run P w = .ok () w := eqGuard_plain (by simp) (by simp [isAggV])
        have hr : (Op.equal t (.bool a) (.bool b)).run P w = .ok (a == b) w := by
          have := run_equalIn_bool' (P := P) w 9999 t a b hu
          simpa only [Op.equal, Op.maxDepth] using this
        have hr2 := binOp_equal (op := op) (t := t) he rfl hr
        refine ⟨σ, _, w, .inl ?_, .bool _, hI, .refl _ _ _⟩
        simp only [execOp, f1, f2, Sem.run_bind, hg, hr2, Result.andThen_ok, Sem.run_pure]
      · cases ha
    · rename_i fs hu
      split at hc <;> (first | (cases hc; done) | skip)
      rename_i he
      simp only [Bool.and_eq_true, Bool.not_eq_true'] at he
      obtain ⟨l, hl, rfl⟩ := obind hc
      simp only [aop] at ha
      split at ha
      · rename_i hag
        obtain ⟨b, hb, e⟩ := obind ha
        simp only [Prod.mk.injEq] at e; obtain ⟨rfl, rfl⟩ := e
        obtain ⟨xs, ex⟩ := isAggV_true hag.1
        obtain ⟨ys, ey⟩ := isAggV_true hag.2
        rw [ex] at hx1 hb; rw [ey] at hy1 hb
        obtain ⟨xs', f1, rx⟩ := hx1.of_agg
        obtain ⟨ys', f2, ry⟩ := hy1.of_agg
        -- the plain cells are the same
        have hsame : aEqL (.agg xs') (.agg ys') l = some b := aEqL_same rx ry l b hb
        have hg : (eqGuard op t x y (.agg xs') (.agg ys')).run P w = .ok () w := run_eqGuard_agg w op t x y xs' ys' he.2
        have hr : (Op.equal t (.agg xs') (.agg ys')).run P w = .ok b w := by
          have := equalIn_run (P := P) (w := w) 64 10000 (by omega) t (.agg xs') (.agg ys') l b hl (fun dd e => by rw [hu] at e; injection e with e; subst e; exact ⟨rfl, rfl⟩) hsame
          simpa only [Op.equal, Op.maxDepth] using this
        have hr2 := binOp_equal (op := op) (t := t) he.1 rfl hr
        refine ⟨σ, _, w, .inl ?_, .bool _, hI, .refl _ _ _⟩
        simp only [execOp, f1, f2, Sem.run_bind, hg, hr2, Result.andThen_ok, Sem.run_pure]
      · cases ha
    · rename_i n0 e0 hu
      split at hc <;> (first | (cases hc; done) | skip)
      rename_i he
      simp only [Bool.and_eq_true, Bool.not_eq_true'] at he
      obtain ⟨l, hl, rfl⟩ := obind hc
      simp only [aop] at ha
      split at ha
      · rename_i hag
        obtain ⟨b, hb, e⟩ := obind ha
        simp only [Prod.mk.injEq] at e; obtain ⟨rfl, rfl⟩ := e
        obtain ⟨xs, ex⟩ := isAggV_true hag.1
        obtain ⟨ys, ey⟩ := isAggV_true hag.2
        rw [ex] at hx1 hb; rw [ey] at hy1 hb
        obtain ⟨xs', f1, rx⟩ := hx1.of_agg
        obtain ⟨ys', f2, ry⟩ := hy1.of_agg
        -- the plain cells are the same
        have hsame : aEqL (.agg xs') (.agg ys') l = some b := aEqL_same rx ry l b hb
        have hg : (eqGuard op t x y (.agg xs') (.agg ys')).run P w = .ok () w := run_eqGuard_agg w op t x y xs' ys' he.2
        have hr : (Op.equal t (.agg xs') (.agg ys')).run P w = .ok b w := by
          have := equalIn_run (P := P) (w := w) 64 10000 (by omega) t (.agg xs') (.agg ys') l b hl (fun dd e => by rw [hu] at e; injection e with e; subst e; exact ⟨rfl, rfl⟩) hsame
          simpa only [Op.equal, Op.maxDepth] using this
        have hr2 := binOp_equal (op := op) (t := t) he.1 rfl hr
        refine ⟨σ, _, w, .inl ?_, .bool _, hI, .refl _ _ _⟩
        simp only [execOp, f1, f2, Sem.run_bind, hg, hr2, Result.andThen_ok, Sem.run_pure]
      · cases ha
    · split at hc <;> (first | (cases hc; done) | skip)
      rename_i he
      obtain ⟨k, hk, e⟩ := obind hc
      exact nilCase k he hk e.symm
  case unOp op t x =>
    split at hc <;> (first | (cases hc; done) | skip)
    rename_i hx
    injection hc with hc; subst hc
    simp only [aop] at ha
    obtain ⟨v0, hv0, e⟩ := obind ha
    simp only [Prod.mk.injEq] at e; obtain ⟨rfl, rfl⟩ := e
    obtain ⟨r1, r2⟩ := unOp_run (P := P) (w := w) (hρ x hx) hv0
    exact Sim.next (Sim.same hI r1 r2)
  case convert s d x =>
    split at hc <;> (first | (cases hc; done) | skip)
    rename_i hx
    obtain ⟨k, hk, rfl⟩ := obind hc
    simp only [aop] at ha
    exact Sim.next (conv_run (P := P) hI hk (hρ x hx) ha)
  case makeInterface t x =>
    split at hc <;> (first | (cases hc; done) | skip)
    rename_i hx
    simp only [Bool.and_eq_true] at hx
    injection hc with hc; subst hc
    simp only [aop, Option.some.injEq, Prod.mk.injEq] at ha
    obtain ⟨rfl, rfl⟩ := ha
    exact Sim.next (Sim.same hI (run_makeInterface w t (ρ' x) hx.2) (.iface t _ _ (hρ x hx.1)))
  case makeFunc fn a b =>
    split at hc <;> (first | (cases hc; done) | skip)
    rename_i hx
    simp only [Bool.and_eq_true] at hx
    obtain ⟨hf, hx⟩ := hx
    injection hc with hc; subst hc
    simp only [aop, Option.some.injEq, Prod.mk.injEq] at ha
    obtain ⟨rfl, rfl⟩ := ha
    have ha1 := VRL.map hρ a.toList hx.1
    have hb1 := VRL.map hρ b.toList hx.2
    refine Sim.next (Sim.same hI (v' := .func fn (a.map ρ') (b.map ρ')) (by simp [Instr.makeFunc]) ?_)
    refine .func fn hf _ _ _ _ (by simp) (by simp) (fun i p q e e' => ?_) (fun i p q e e' => ?_)
    · exact ha1.2 i p q (by simpa using e) (by simpa using e')
    · exact hb1.2 i p q (by simpa using e) (by simpa using e')
  case makeMap t r =>
    cases r with
    | some _ => cases hc
    | none =>
      injection hc with hc; subst hc
      simp only [aop, Option.some.injEq] at ha
      obtain ⟨e1, e2⟩ : (aMakeMap h).1 = v ∧ (aMakeMap h).2 = h' := by rw [ha]; exact ⟨rfl, rfl⟩
      subst e1; subst e2
      exact Sim.next (makeMap_run (P := P) (t := t) hI)
  case makeSlice t l c =>
    split at hc <;> (first | (cases hc; done) | skip)
    rename_i hx
    simp only [Bool.and_eq_true] at hx
    split at hc <;> (first | (cases hc; done) | skip)
    rename_i e hu
    obtain ⟨k, hk, rfl⟩ := obind hc
    simp only [aop] at ha
    exact Sim.next (make_run (P := P) hI hu hk (hρ l hx.1) (hρ c hx.2) ha)
  case slice t x lo hi mx =>
    split at hc <;> (first | (cases hc; done) | skip)
    rename_i hx
    simp only [Bool.and_eq_true] at hx
    obtain ⟨k, hk, rfl⟩ := obind hc
    simp only [aop] at ha
    obtain ⟨v0, hv0, e⟩ := obind ha
    simp only [Prod.mk.injEq] at e; obtain ⟨rfl, rfl⟩ := e
    exact Sim.next (cut_run (P := P) hI hk (hρ x hx.1.1.1) (OVR.map hρ lo hx.1.1.2) (OVR.map hρ hi hx.1.2) (OVR.map hρ mx hx.2) hv0)
  case fieldAddr s x f =>
    split at hc <;> (first | (cases hc; done) | skip)
    rename_i hx
    split at hc <;> (first | (cases hc; done) | skip)
    rename_i fs hu
    split at hc <;> (first | (cases hc; done) | skip)
    rename_i fd hf
    split at hc <;> (first | (cases hc; done) | skip)
    rename_i i hi
    split at hc <;> (first | (cases hc; done) | skip)
    rename_i hz
    injection hc with hc; subst hc
    simp only [aop] at ha
    split at ha
    · rename_i m o hp
      injection ha with ha; simp only [Prod.mk.injEq] at ha; obtain ⟨rfl, rfl⟩ := ha
      have h1 := hρ x hx
      rw [hp] at h1
      exact Sim.next (fieldAt_run (P := P) hI hu hf hi hz h1)
    · cases ha
  case field s x f =>
    split at hc <;> (first | (cases hc; done) | skip)
    rename_i hx
    split at hc <;> (first | (cases hc; done) | skip)
    rename_i fs hu
    split at hc <;> (first | (cases hc; done) | skip)
    rename_i fd hf
    obtain ⟨k, hk, rfl⟩ := obind hc
    simp only [aop] at ha
    obtain ⟨v0, hv0, e⟩ := obind ha
    simp only [Prod.mk.injEq] at e; obtain ⟨rfl, rfl⟩ := e
    exact Sim.next (field_run (P := P) hI hu hf hk (hρ x hx) hv0)
  case indexAddr t x i =>
    split at hc <;> (first | (cases hc; done) | skip)
    rename_i hx
    simp only [Bool.and_eq_true] at hx
    obtain ⟨k, hk, rfl⟩ := obind hc
    simp only [aop] at ha
    obtain ⟨v0, hv0, e⟩ := obind ha
    simp only [Prod.mk.injEq] at e; obtain ⟨rfl, rfl⟩ := e
    exact Sim.next (indexAddr_run (P := P) hI hk (hρ x hx.1) (hρ i hx.2) hv0)
  case index t x i =>
    split at hc <;> (first | (cases hc; done) | skip)
    rename_i hx
    simp only [Bool.and_eq_true] at hx
    obtain ⟨k, hk, rfl⟩ := obind hc
    simp only [aop] at ha
    obtain ⟨v0, hv0, e⟩ := obind ha
    simp only [Prod.mk.injEq] at e; obtain ⟨rfl, rfl⟩ := e
    exact Sim.next (index_run (P := P) hI hk (hρ x hx.1) (hρ i hx.2) hv0)
  case lookup t x i ok =>
    split at hc <;> (first | (cases hc; done) | skip)
    rename_i hx
    simp only [Bool.and_eq_true] at hx
    obtain ⟨k, hk, rfl⟩ := obind hc
    simp only [aop] at ha
    obtain ⟨v0, hv0, e⟩ := obind ha
    simp only [Prod.mk.injEq] at e; obtain ⟨rfl, rfl⟩ := e
    exact Sim.next (lookup_run (P := P) hI hk (hρ x hx.1) (hρ i hx.2) hv0)
  case mapUpdate t m i x =>
    split at hc <;> (first | (cases hc; done) | skip)
    rename_i hx
    simp only [Bool.and_eq_true] at hx
    obtain ⟨k, hk, rfl⟩ := obind hc
    simp only [aop] at ha
    obtain ⟨v0, hv0, e⟩ := obind ha
    simp only [Prod.mk.injEq] at e; obtain ⟨rfl, rfl⟩ := e
    exact SimU.next (mapPut_run (P := P) hI hk (hρ m hx.1.1) (hρ i hx.1.2) (hρ x hx.2) hv0)
  case insert t m i x =>
    split at hc <;> (first | (cases hc; done) | skip)
    rename_i hx
    simp only [Bool.and_eq_true] at hx
    obtain ⟨k, hk, rfl⟩ := obind hc
    simp only [aop] at ha
    obtain ⟨v0, hv0, e⟩ := obind ha
    simp only [Prod.mk.injEq] at e; obtain ⟨rfl, rfl⟩ := e
    exact SimU.next (mapPut_run (P := P) hI hk (hρ m hx.1.1) (hρ i hx.1.2) (hρ x hx.2) hv0)
  case extract x i =>
    split at hc <;> (first | (cases hc; done) | skip)
    rename_i hx
    injection hc with hc; subst hc
    simp only [aop] at ha
    obtain ⟨v0, hv0, e⟩ := obind ha
    simp only [Prod.mk.injEq] at e; obtain ⟨rfl, rfl⟩ := e
    exact Sim.next (extract_run (P := P) hI (hρ x hx) hv0)
  case call c =>
    obtain ⟨callee, args, argTypes⟩ := c
    cases callee <;> (first | (cases hc; done) | skip)
    rename_i b
    simp only at hc
    split at hc <;> (first | (cases hc; done) | skip)
    rename_i hx
    split at hc <;> (first | (cases hc; done) | skip)
    · rename_i s x t tx e1 e2
      have e1' := toList2 e1
      have e2' := toList2 e2
      subst e1'; subst e2'
      simp only [List.all_cons, List.all_nil, Bool.and_eq_true, Bool.and_true] at hx
      split at hc <;> (first | (cases hc; done) | skip)
      · rename_i e e' hu hu'
        obtain ⟨k, hk, rfl⟩ := obind hc
        simp only [aop] at ha
        split at ha
        · rename_i hsh
          rw [exec_append, map2]
          refine Sim.next (append_run (P := P) (tx := tx) (ty := type) hI hu hk (hρ s hx.1) (hρ x hx.2) ?_ ha)
          revert hsh
          cases ρ x <;> simp [strShape, srcOk, hu']
        · cases ha
      · rename_i e hu hu'
        obtain ⟨k, hk, rfl⟩ := obind hc
        simp only [aop] at ha
        split at ha
        · rename_i hsh
          rw [exec_append, map2]
          refine Sim.next (append_run (P := P) (tx := tx) (ty := type) hI hu hk (hρ s hx.1) (hρ x hx.2) ?_ ha)
          revert hsh
          cases ρ x <;> simp [strShape, srcOk, hu']
        · cases ha
      · injection hc with hc; subst hc
        simp [aop, unOpA] at ha
    · rename_i d s t t2 e1 e2
      have e1' := toList2 e1
      have e2' := toList2 e2
      subst e1'; subst e2'
      simp only [List.all_cons, List.all_nil, Bool.and_eq_true, Bool.and_true] at hx
      split at hc <;> (first | (cases hc; done) | skip)
      rename_i e hu
      obtain ⟨i, hi, rfl⟩ := obind hc
      simp only [aop] at ha
      rw [exec_copy, map2]
      exact Sim.next (copy_run (P := P) (sT := t2) (ty := type) hI hu hi (hρ d hx.1) (hρ s hx.2) ha)
    · rename_i x t e1 e2
      have e1' := toList1 e1
      have e2' := toList1 e2
      subst e1'; subst e2'
      simp only [List.all_cons, List.all_nil, Bool.and_true] at hx
      obtain ⟨k, hk, rfl⟩ := obind hc
      simp only [aop] at ha
      obtain ⟨v0, hv0, e⟩ := obind ha
      simp only [Prod.mk.injEq] at e; obtain ⟨rfl, rfl⟩ := e
      rw [exec_len, map1]
      exact Sim.next (len_run (P := P) (ty := type) hI hk (hρ x hx) hv0)
    · rename_i _ x r e1
      injection hc with hc; subst hc
      simp only [aop] at ha
      obtain ⟨v0, hv0, e⟩ := obind ha
      simp only [Prod.mk.injEq] at e; obtain ⟨rfl, rfl⟩ := e
      rw [e1] at hx
      simp only [List.all_cons, Bool.and_eq_true] at hx
      obtain ⟨v', r1, r2⟩ := mmL_run (P := P) (w := w) _ _ _ _ _ (hρ x hx.1) (VRL.map hρ r hx.2) hv0
      rw [exec_max]
      refine Sim.next (s := Builtin.max_ argTypes type (args.map ρ')) (Sim.same hI ?_ r2)
      simp only [if_true] at r1
      simp only [Builtin.max_, Array.toList_map, e1, List.map_cons]
      exact r1
    · rename_i _ x r e1
      injection hc with hc; subst hc
      simp only [aop] at ha
      obtain ⟨v0, hv0, e⟩ := obind ha
      simp only [Prod.mk.injEq] at e; obtain ⟨rfl, rfl⟩ := e
      rw [e1] at hx
      simp only [List.all_cons, Bool.and_eq_true] at hx
      obtain ⟨v', r1, r2⟩ := mmL_run (P := P) (w := w) _ _ _ _ _ (hρ x hx.1) (VRL.map hρ r hx.2) hv0
      rw [exec_min]
      refine Sim.next (s := Builtin.min_ argTypes type (args.map ρ')) (Sim.same hI ?_ r2)
      simp only [Bool.false_eq_true, if_false] at r1
      simp only [Builtin.min_, Array.toList_map, e1, List.map_cons]
      exact r1
end
end
end Go.AM
