import Derived.Test.YtoehafeeoggpkaaAM12
import Derived.ChangeKeysEq
set_option linter.unusedVariables false
set_option linter.unusedSimpArgs false
/-! Part 13: comparisons of other values; strings; one operand. -/
namespace Go.AM
noncomputable section
open Go.RowKit

section
variable {N0 : Nat} {w0 : World} {P : Program} {σ : Sig} {h : AHeap} {w : World}

theorem cellEq_rel {n : Nat} {k : LeafK} {a b a' b' : Value} {r : Bool} (ha : VR n σ a a') (hb : VR n σ b b') (he : cellEq k a b = some r) : a' = a ∧ b' = b := by
  unfold cellEq at he
  cases k <;> simp only at he <;> (split at he) <;> first | (cases he; done) | (cases ha; cases hb; exact ⟨rfl, rfl⟩)

theorem cellEq_plain {k : LeafK} {a b : Value} {r : Bool} (he : cellEq k a b = some r) : isAggV a = false ∧ isAggV b = false ∧ a ≠ undef ∧ b ≠ undef := by
  unfold cellEq at he
  cases k <;> simp only at he <;> (split at he) <;> first | (cases he; done) | exact ⟨rfl, rfl, by simp [undef], by simp [undef]⟩

theorem eqString (x y : ByteArray) : (x == y) = decide (x.data.toList = y.data.toList) := by
  obtain ⟨⟨x⟩⟩ := x
  obtain ⟨⟨y⟩⟩ := y
  show ((⟨x⟩ : Array UInt8) == ⟨y⟩) = _
  rw [Bool.eq_iff_iff]
  simp

theorem aEqL_append {x y : Value} : ∀ (a b : List (Nat × LeafK)) (r : Bool), aEqL x y (a ++ b) = some r → ∃ p q, aEqL x y a = some p ∧ aEqL x y b = some q ∧ r = (p && q)
  | [], b, r, h => ⟨true, r, rfl, h, by simp⟩
  | (i, k) :: a, b, r, h => by
    simp only [List.cons_append, aEqL] at h
    split at h
    · rename_i c d hc hd
      injection h with h
      obtain ⟨p, q, h1, h2, h3⟩ := aEqL_append a b d hd
      refine ⟨c && p, q, ?_, h2, by rw [← h, h3, Bool.and_assoc]⟩
      simp only [aEqL, hc, h1]
    · cases h
theorem aEqL_map {x y x0 y0 : Value} {off : Nat} : ∀ (l : List (Nat × LeafK)), (∀ p ∈ l, cellAt x (off + p.1) = cellAt x0 p.1 ∧ cellAt y (off + p.1) = cellAt y0 p.1) → aEqL x y (l.map fun p => (off + p.1, p.2)) = aEqL x0 y0 l
  | [], _ => rfl
  | (i, k) :: l, hl => by
    have h1 := hl (i, k) (by simp)
    simp only [List.map_cons, aEqL]
    simp only at h1
    rw [h1.1, h1.2, aEqL_map l (fun j hj => hl j (by simp [hj]))]

theorem cellAt_extract (cs : Array Value) (off n j : Nat) (hj : j < n) : cellAt (.agg cs) (off + j) = cellAt (.agg (cs.extract off (off + n))) j := by
  simp only [cellAt, Array.getD_eq_getD_getElem?]
  rw [Array.getElem?_extract]
  by_cases h1 : off + j < cs.size
  · rw [if_pos (by omega)]
  · rw [if_neg (by omega), Array.getElem?_eq_none (by omega)]

theorem isAggV_true {x : Value} (h : isAggV x = true) : ∃ xs, x = .agg xs := by
  cases x <;> first | exact ⟨_, rfl⟩ | cases h
theorem cellAt_plain {x : Value} (h : isAggV x = false) : cellAt x 0 = x := by
  cases x <;> first | rfl | cases h
theorem cLeaves_none {d : Nat} {t : TypeId} (h : P.underlying t = none) : cLeaves P d t = none := by
  cases d with
  | zero => rfl
  | succ d => simp only [cLeaves, h]
theorem cLeaves_one {d : Nat} {t : TypeId} {dd : TypeDesc} {l : List (Nat × LeafK)} (h : P.underlying t = some dd) (hb : aggD dd = false) (hc : cLeaves P d t = some l) : ∃ k, l = [(0, k)] := by
  cases d with
  | zero => cases hc
  | succ d => cases dd <;> first | (cases hb; done) | (simp only [cLeaves, h] at hc; injection hc with hc; exact ⟨_, hc.symm⟩) | (simp only [cLeaves, h] at hc; cases hc)

/-- A part of two aggregates. -/
theorem part_equal {d D : Nat} (IH : ∀ (t : TypeId) (x y : Value) (l : List (Nat × LeafK)) (r : Bool), cLeaves P d t = some l → (∀ dd, P.underlying t = some dd → isAggV x = aggD dd ∧ isAggV y = aggD dd) → aEqL x y l = some r → (Op.equalIn D t x y).run P w = .ok r w)
    {ft : TypeId} {off : Nat} {i : TypeInfo} {lf : List (Nat × LeafK)} {p : Bool} {xs ys : Array Value} (hi : P.info? ft = some i) (hlf : cLeaves P d ft = some lf) (hall' : ∀ z ∈ lf, z.1 < i.size)
    (e1 : aEqL (.agg xs) (.agg ys) (lf.map fun p => (off + p.1, p.2)) = some p) :
    ∃ a b, (part ft xs off).run P w = .ok a w ∧ (part ft ys off).run P w = .ok b w ∧ (Op.equalIn D ft a b).run P w = .ok p w := by
  cases hd2 : P.underlying ft with
  | none =>
    exfalso
    rw [cLeaves_none hd2] at hlf; cases hlf
  | some dd =>
    have hag := run_isAgg' (w := w) hd2
    cases hb : aggD dd with
    | true =>
      refine ⟨.agg (xs.extract off (off + i.size)), .agg (ys.extract off (off + i.size)), ?_, ?_, ?_⟩
      · simp only [part, Sem.run_bind, hag, hb, Result.andThen_ok, if_true, run_sizeOf' hi, Sem.run_pure]
      · simp only [part, Sem.run_bind, hag, hb, Result.andThen_ok, if_true, run_sizeOf' hi, Sem.run_pure]
      · refine IH ft _ _ lf p hlf (fun d2 e => ?_) ?_
        · rw [hd2] at e; injection e with e; subst e; rw [hb]; exact ⟨rfl, rfl⟩
        · rw [← e1]
          exact (aEqL_map lf fun z hz => ⟨cellAt_extract _ _ _ _ (hall' z hz), cellAt_extract _ _ _ _ (hall' z hz)⟩).symm
    | false =>
      -- one plain cell
      obtain ⟨k, rfl⟩ := cLeaves_one hd2 hb hlf
      simp only [List.map_cons, List.map_nil, aEqL, Nat.add_zero] at e1
      split at e1
      · rename_i a0 b0 hce hb0
        injection hb0 with hb0; subst hb0
        injection e1 with e1
        obtain ⟨c1, c2, c3, c4⟩ := cellEq_plain hce
        have gx : ∃ a, xs[off]? = some a := by
          cases hq : xs[off]? with
          | none => exfalso; apply c3; simp [cellAt, Array.getD_eq_getD_getElem?, hq]
          | some a => exact ⟨a, rfl⟩
        have gy : ∃ b, ys[off]? = some b := by
          cases hq : ys[off]? with
          | none => exfalso; apply c4; simp [cellAt, Array.getD_eq_getD_getElem?, hq]
          | some a => exact ⟨a, rfl⟩
        obtain ⟨a, ga⟩ := gx
        obtain ⟨b, gb⟩ := gy
        have xa : cellAt (.agg xs) off = a := by simp [cellAt, Array.getD_eq_getD_getElem?, ga]
        have yb : cellAt (.agg ys) off = b := by simp [cellAt, Array.getD_eq_getD_getElem?, gb]
        rw [xa] at hce c1
        rw [yb] at hce c2
        refine ⟨a, b, ?_, ?_, ?_⟩
        · simp only [part, Sem.run_bind, hag, hb, Result.andThen_ok, Bool.false_eq_true, if_false, ga, Sem.run_pure]
        · simp only [part, Sem.run_bind, hag, hb, Result.andThen_ok, Bool.false_eq_true, if_false, gb, Sem.run_pure]
        · refine IH ft a b [(0, k)] p hlf (fun d2 e => ?_) ?_
          · rw [hd2] at e; injection e with e; subst e; rw [hb]; exact ⟨c1, c2⟩
          · have xa0 : cellAt a 0 = a := cellAt_plain c1
            have yb0 : cellAt b 0 = b := cellAt_plain c2
            simp only [aEqL, xa0, yb0, hce, e1]
      · cases e1

set_option maxHeartbeats 1000000 in
/-- What '==' comes to at a type whose cells are plain. -/
theorem equalIn_run : ∀ (d : Nat) (D : Nat), d ≤ D → ∀ (t : TypeId) (x y : Value) (l : List (Nat × LeafK)) (r : Bool), cLeaves P d t = some l →
    (∀ dd, P.underlying t = some dd → isAggV x = aggD dd ∧ isAggV y = aggD dd) →
    aEqL x y l = some r → (Op.equalIn D t x y).run P w = .ok r w
  | 0, D, hD, t, x, y, l, r, hc, hs, he => by simp [cLeaves] at hc
  | d + 1, D, hD, t, x, y, l, r, hc, hs, he => by
    obtain ⟨D, rfl⟩ : ∃ m, D = m + 1 := ⟨D - 1, by omega⟩
    have IH := equalIn_run d D (by omega)
    have plain : ∀ (k : LeafK) (dd : TypeDesc), P.underlying t = some dd → aggD dd = false → aEqL x y [(0, k)] = some r → cellEq k x y = some r := by
      intro k dd hdd hb he
      obtain ⟨h1, h2⟩ := hs dd hdd
      rw [hb] at h1 h2
      have e1 : cellAt x 0 = x := cellAt_plain h1
      have e2 : cellAt y 0 = y := cellAt_plain h2
      simp only [aEqL, e1, e2] at he
      split at he
      · rename_i a b ha hb
        injection hb with hb; subst hb
        injection he with he
        rw [ha, ← he]; simp
      · cases he
    unfold cLeaves at hc
    split at hc
    · rename_i kd hu
      injection hc with hc; subst hc
      have := plain .int _ hu rfl he
      simp only [cellEq] at this
      split at this
      · split at this
        · rename_i hk
          injection this with this; subst this
          simp only [Op.equalIn, Sem.run_bind, run_underlying hu, Result.andThen_ok, hk, if_true, Sem.run_pure]
          rfl
        · cases this
      · cases this
    · rename_i hu
      injection hc with hc; subst hc
      have := plain .bool _ hu rfl he
      simp only [cellEq] at this
      split at this
      · injection this with this; subst this
        simp only [Op.equalIn, Sem.run_bind, run_underlying hu, Result.andThen_ok, Sem.run_pure]
      · cases this
    · rename_i hu
      injection hc with hc; subst hc
      have := plain .str _ hu rfl he
      simp only [cellEq] at this
      split at this
      · injection this with this; subst this
        simp only [Op.equalIn, Sem.run_bind, run_underlying hu, Result.andThen_ok, Sem.run_pure, eqString]
      · cases this
    · rename_i fs hu
      obtain ⟨h1, h2⟩ := hs _ hu
      obtain ⟨xs, rfl⟩ := isAggV_true h1
      obtain ⟨ys, rfl⟩ := isAggV_true h2
      split at hc
      · cases hc
      · rename_i hst
        have hst' : P.stoodInHeld t = false := by simpa using hst
        have hfs : P.fieldsOf t = fs := by simp [Program.fieldsOf, hu]
        rw [run_equalIn_struct w D t xs ys (by rw [hfs]; exact hu) hst', hfs]
        clear hs hst hst' hfs h1 h2 plain
        generalize fs.toList = fl at hc
        induction fl generalizing l r with
        | nil =>
          simp only [List.foldr_nil, Option.some.injEq] at hc
          subst hc
          simp only [aEqL, Option.some.injEq] at he
          subst he
          simp [Op.eqFields]
        | cons f fl ih =>
          simp only [List.foldr_cons] at hc
          split at hc
          · rename_i l0 i lf hacc hi hlf
            split at hc
            · rename_i hname
              split at hc
              · rename_i hall
                injection hc with hc; subst hc
                obtain ⟨p, q, e1, e2, e3⟩ := aEqL_append _ _ _ he
                have hrest := ih l0 q e2 hacc
                have hall' : ∀ z ∈ lf, z.1 < i.size := fun z hz => by
                  have := List.all_eq_true.1 hall z hz
                  simpa using this
                obtain ⟨a, b, p1, p2, p3⟩ := part_equal IH hi hlf hall' e1
                simp only [Op.eqFields, Sem.run_ite]
                rw [if_pos hname]
                simp only [Sem.run_bind, p1, p2, p3, Result.andThen_ok, Sem.run_ite]
                cases p with
                | true => simp only [Bool.not_true, Bool.false_eq_true, if_false]; rw [hrest, e3]; simp
                | false => simp only [Bool.not_false, if_true, Sem.run_pure, e3, Bool.false_and]
              · cases hc
            · cases hc
          · cases hc
    · rename_i n e hu
      obtain ⟨h1, h2⟩ := hs _ hu
      obtain ⟨xs, rfl⟩ := isAggV_true h1
      obtain ⟨ys, rfl⟩ := isAggV_true h2
      split at hc
      · rename_i i lf hi hlf
        split at hc
        · rename_i hall
          obtain ⟨hsz, hall⟩ := hall
          injection hc with hc; subst hc
          have hall' : ∀ z ∈ lf, z.1 < i.size := fun z hz => by
            have := List.all_eq_true.1 hall z hz
            simpa using this
          rw [run_equalIn_array w D xs ys hu hi, ← hsz]
          clear hs h1 h2 plain
          generalize List.range n = is at he
          induction is generalizing r with
          | nil =>
            simp only [List.flatMap_nil, aEqL, Option.some.injEq] at he
            subst he
            simp [Op.eqItems]
          | cons j is ih =>
            simp only [List.flatMap_cons] at he
            obtain ⟨p, q, e1, e2, e3⟩ := aEqL_append _ _ _ he
            have hrest := ih q e2
            obtain ⟨a, b, p1, p2, p3⟩ := part_equal IH hi hlf hall' e1
            simp only [Op.eqItems, Sem.run_bind, p1, p2, p3, Result.andThen_ok]
            cases p with
            | true => simp only [Bool.not_true, Bool.false_eq_true, if_false, if_true]; rw [hrest, e3]; simp
            | false => simp [e3]
        · cases hc
      · cases hc
    · cases hc

/-! ### strings -/
def aStr (op : BinOp) (x y : ByteArray) : Option Value :=
  match op with
  | .add => if x.size + y.size ≤ 1099511627776 then some (.string (x ++ y)) else none
  | .eql => some (.bool (decide (x.data.toList = y.data.toList)))
  | .neq => some (.bool (!decide (x.data.toList = y.data.toList)))
  | .lss => some (.bool (Op.bytesLess x.toList y.toList))
  | .leq => some (.bool (Op.bytesLess x.toList y.toList || x.toList == y.toList))
  | .gtr => some (.bool (!(Op.bytesLess x.toList y.toList || x.toList == y.toList)))
  | .geq => some (.bool (!Op.bytesLess x.toList y.toList))
  | _ => none
theorem toList_eq (x y : ByteArray) : (x.toList == y.toList) = decide (x.data.toList = y.data.toList) := by
  rw [ByteArray.toList_eq, ByteArray.toList_eq, Bool.eq_iff_iff]
  simp
theorem str_run {op : BinOp} {t : TypeId} {x y : ByteArray} {v : Value} (ha : aStr op x y = some v) : (binOp op t (.string x) (.string y)).run P w = .ok v w := by
  cases op <;> simp only [aStr, Option.some.injEq, reduceCtorEq] at ha
  case add =>
    split at ha
    · rename_i hs
      injection ha with ha; subst ha
      have : ¬ (((x.size + y.size : Nat) : Int) > IntKind.i64.max) := by
        have e : IntKind.i64.max = 9223372036854775807 := by decide
        rw [e]; omega
      simp only [binOp, Op.stringOp]
      rw [if_neg this]; rfl
    · cases ha
  all_goals (subst ha; simp [binOp, Op.stringOp, toList_eq])

/-! ### nil -/
inductive NilK where
  | iface | ptr | sl | map | func
  deriving Inhabited
def cNil (P : Program) (t : TypeId) : Option NilK :=
  match P.underlying t with
  | some (.interface _) => some .iface
  | some (.pointer _) => some .ptr
  | some (.slice _) => some .sl
  | some (.map ..) => some .map
  | some (.func ..) => some .func
  | _ => none
/-- lit: one of the two is written as a constant. -/
def aNil (k : NilK) (lit : Bool) (x y : Value) : Option Bool :=
  match k, x, y with
  | .iface, .nilIface, .nilIface => if lit then some true else none
  | .iface, .nilIface, .iface _ _ => some false
  | .iface, .iface _ _, .nilIface => some false
  | .ptr, .pointer none, .pointer b => some b.isNone
  | .ptr, .pointer (some _), .pointer none => some false
  | .sl, .slice none _ _, .slice b _ _ => some b.isNone
  | .sl, .slice (some _) _ _, .slice none _ _ => some false
  | .map, .map none, .map b => some b.isNone
  | .map, .map (some _), .map none => some false
  | .func, .nilFunc, .nilFunc => some true
  | .func, .nilFunc, .func _ _ _ => some false
  | .func, .func _ _ _, .nilFunc => some false
  | _, _, _ => none
theorem nil_run (D : Nat) {t : TypeId} {k : NilK} {lit : Bool} {x x' y y' : Value} {b : Bool} {n : Nat} (hc : cNil P t = some k) (hx : VR n σ x x') (hy : VR n σ y y') (ha : aNil k lit x y = some b) :
    (Op.equalIn (D + 1) t x' y').run P w = .ok b w := by
  unfold cNil at hc
  split at hc <;> (first | (cases hc; done) | skip) <;> rename_i hu <;> injection hc with hc <;> subst hc <;> cases hx <;> (first | (simp [aNil] at ha; done) | skip) <;> cases hy <;>
    (first | (simp [aNil] at ha; done) | skip) <;> simp [aNil] at ha <;> (first | subst ha | (obtain ⟨_, rfl⟩ := ha) | skip) <;> simp only [Op.equalIn, Sem.run_bind, run_underlying hu, Result.andThen_ok, Sem.run_pure, Option.isNone_none, Option.isNone_some]
end
end
end Go.AM
