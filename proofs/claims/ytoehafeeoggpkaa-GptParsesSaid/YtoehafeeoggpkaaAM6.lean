import Derived.Test.YtoehafeeoggpkaaAM5
set_option linter.unusedVariables false
set_option linter.unusedSimpArgs false
/-! Part 6: slicing, making, appending, copying. -/
namespace Go.AM
noncomputable section
open Go.RowKit

/-- Operands that may be none. -/
def OVR (n : Nat) (σ : Sig) : Option Value → Option Value → Prop
  | none, none => True
  | some v, some v' => VR n σ v v'
  | _, _ => False

def aBound (x : Value) (y : Nat) : Option Nat :=
  match x with
  | .int _ i => if 0 ≤ i ∧ i ≤ y then some i.toNat else none
  | _ => none
/-- cap: of what is cut; len: its length. The low bound, the high one, the third. -/
def aBounds (len cap : Nat) (lo hi mx : Option Value) : Option (Nat × Nat × Nat) :=
  match mx with
  | some v => match aBound v cap with
    | some m => match hi with
      | some u => match aBound u m with
        | some k => match lo with
          | some l => (aBound l k).map fun j => (j, k, m)
          | none => some (0, k, m)
        | none => none
      | none => none
    | none => none
  | none => match hi with
    | some u => match aBound u cap with
      | some k => match lo with
        | some l => (aBound l k).map fun j => (j, k, cap)
        | none => some (0, k, cap)
      | none => none
    | none => match lo with
      | some l => (aBound l len).map fun j => (j, len, cap)
      | none => some (0, len, cap)

section
variable {N0 : Nat} {w0 : World} {P : Program} {σ : Sig} {h : AHeap} {w : World}

theorem bound_run {n : Nat} {x x' : Value} {y y' k : Nat} {code : BoundsCode} (hx : VR n σ x x') (hb : aBound x y = some k) (hy : y ≤ y') : (Instr.sliceBound x' y' code).run P w = .ok k w ∧ k ≤ y := by
  unfold aBound at hb
  split at hb
  · rename_i kk i
    cases hx with
    | int =>
    split at hb
    · rename_i hc
      injection hb with hb; subst hb
      refine ⟨?_, by omega⟩
      have hc' : 0 ≤ i ∧ i ≤ (y' : Int) := by omega
      simp only [Instr.sliceBound, asIntOf, Sem.run_bind, Sem.run_pure, Result.andThen_ok, hc', and_self, if_true, Sem.run_ite]
    · cases hb
  · cases hb

theorem bounds_run {n : Nat} {isS : Bool} {len cap cap' : Nat} {lo hi mx lo' hi' mx' : Option Value} {l k m : Nat} (hlo : OVR n σ lo lo') (hhi : OVR n σ hi hi') (hmx : OVR n σ mx mx') (hcap : cap ≤ cap')
    (hb : aBounds len cap lo hi mx = some (l, k, m)) :
    (Instr.sliceBounds isS len cap' lo' hi' mx').run P w = .ok (l, k, if mx.isSome then m else cap') w ∧ l ≤ k ∧ (hi.isSome = true → k ≤ m) ∧ m ≤ cap ∧ (mx = none → m = cap) ∧ (hi = none → k = len) := by
  unfold aBounds at hb
  cases mx with
  | some v =>
    cases mx' with
    | none => exact hmx.elim
    | some v' =>
      cases h1 : aBound v cap with
      | none => simp only [h1] at hb; cases hb
      | some m0 =>
        simp only [h1] at hb
        obtain ⟨r1, q1⟩ := bound_run (P := P) (w := w) (code := if isS then .slice3Acap else .slice3Alen) hmx h1 hcap
        cases hi with
        | none => simp at hb
        | some u =>
          cases hi' with
          | none => exact hhi.elim
          | some u' =>
            cases h2 : aBound u m0 with
            | none => simp only [h2] at hb; cases hb
            | some k0 =>
              simp only [h2] at hb
              obtain ⟨r2, q2⟩ := bound_run (P := P) (w := w) (code := .slice3B) hhi h2 (Nat.le_refl _)
              cases lo with
              | none =>
                cases lo' with
                | some _ => exact hlo.elim
                | none =>
                  injection hb with hb; simp only [Prod.mk.injEq] at hb; obtain ⟨rfl, rfl, rfl⟩ := hb
                  refine ⟨?_, by omega, fun _ => q2, q1, by simp, by simp⟩
                  simp only [Instr.sliceBounds, Sem.run_bind, r1, r2, Result.andThen_ok, Sem.run_pure, Option.isSome_some, if_true]
              | some l0 =>
                cases lo' with
                | none => exact hlo.elim
                | some l' =>
                  cases h3 : aBound l0 k0 with
                  | none => simp only [h3] at hb; cases hb
                  | some j =>
                    simp only [h3] at hb
                    injection hb with hb; simp only [Prod.mk.injEq] at hb; obtain ⟨rfl, rfl, rfl⟩ := hb
                    obtain ⟨r3, q3⟩ := bound_run (P := P) (w := w) (code := .slice3C) hlo h3 (Nat.le_refl _)
                    refine ⟨?_, by omega, fun _ => q2, q1, by simp, by simp⟩
                    simp only [Instr.sliceBounds, Sem.run_bind, r1, r2, r3, Result.andThen_ok, Sem.run_pure, Option.isSome_some, if_true]
  | none =>
    cases mx' with
    | some _ => exact hmx.elim
    | none =>
      cases hi with
      | some u =>
        cases hi' with
        | none => exact hhi.elim
        | some u' =>
          cases h2 : aBound u cap with
          | none => simp only [h2] at hb; cases hb
          | some k0 =>
            simp only [h2] at hb
            obtain ⟨r2, q2⟩ := bound_run (P := P) (w := w) (code := if isS then .sliceAcap else .sliceAlen) hhi h2 hcap
            cases lo with
            | none =>
              cases lo' with
              | some _ => exact hlo.elim
              | none =>
                injection hb with hb; simp only [Prod.mk.injEq] at hb; obtain ⟨rfl, rfl, rfl⟩ := hb
                refine ⟨?_, by omega, fun _ => q2, by omega, fun _ => rfl, by simp⟩
                simp only [Instr.sliceBounds, Sem.run_bind, r2, Result.andThen_ok, Sem.run_pure, Option.isSome_none, if_false, Bool.false_eq_true]
            | some l0 =>
              cases lo' with
              | none => exact hlo.elim
              | some l' =>
                cases h3 : aBound l0 k0 with
                | none => simp only [h3] at hb; cases hb
                | some j =>
                  simp only [h3] at hb
                  injection hb with hb; simp only [Prod.mk.injEq] at hb; obtain ⟨rfl, rfl, rfl⟩ := hb
                  obtain ⟨r3, q3⟩ := bound_run (P := P) (w := w) (code := .sliceB) hlo h3 (Nat.le_refl _)
                  refine ⟨?_, by omega, fun _ => q2, by omega, fun _ => rfl, by simp⟩
                  simp only [Instr.sliceBounds, Sem.run_bind, r2, r3, Result.andThen_ok, Sem.run_pure, Option.isSome_none, if_false, Bool.false_eq_true]
      | none =>
        cases hi' with
        | some _ => exact hhi.elim
        | none =>
          cases lo with
          | none =>
            cases lo' with
            | some _ => exact hlo.elim
            | none =>
              injection hb with hb; simp only [Prod.mk.injEq] at hb; obtain ⟨rfl, rfl, rfl⟩ := hb
              refine ⟨?_, by omega, by simp, by omega, fun _ => rfl, fun _ => rfl⟩
              simp only [Instr.sliceBounds, Sem.run_bind, Result.andThen_ok, Sem.run_pure, Option.isSome_none, if_false, Bool.false_eq_true]
          | some l0 =>
            cases lo' with
            | none => exact hlo.elim
            | some l' =>
              cases h3 : aBound l0 len with
              | none => simp only [h3] at hb; cases hb
              | some j =>
                simp only [h3] at hb
                injection hb with hb; simp only [Prod.mk.injEq] at hb; obtain ⟨rfl, rfl, rfl⟩ := hb
                obtain ⟨r3, q3⟩ := bound_run (P := P) (w := w) (code := .sliceB) hlo h3 (Nat.le_refl _)
                refine ⟨?_, by omega, by simp, by omega, fun _ => rfl, fun _ => rfl⟩
                simp only [Instr.sliceBounds, Sem.run_bind, r3, Result.andThen_ok, Sem.run_pure, Option.isSome_none, if_false, Bool.false_eq_true]

/-- What is cut: a string; an array's variable (so long); a slice (its element's cells). -/
inductive CutK where
  | str
  | arr (len es : Nat)
  | sl (es : Nat)
  deriving Inhabited
def cCut (P : Program) (t : TypeId) : Option CutK :=
  match P.underlying t with
  | some .string => some .str
  | some (.array n e) => (P.info? e).map fun i => .arr n i.size
  | some (.slice e) => (P.info? e).map fun i => .sl i.size
  | _ => none
def aCutSl (es : Nat) (x : Value) (lo hi mx : Option Value) (h : AHeap) : Option Value :=
  match x with
  | .slice none 0 0 => match aBounds 0 0 lo hi mx with
    | some (0, 0, 0) => some (.slice none 0 0)
    | _ => none
  | .slice (some ⟨m, o, none⟩) len cap =>
    match h.get m with
    | .row _ gr _ =>
      match aBounds len cap lo hi mx with
      | some (l, k, t) => if k ≤ t ∧ len ≤ cap ∧ (gr = 0 ∨ gr = es) then some (.slice (some ⟨m, if t = l ∧ gr = 0 then o else o + l * es, none⟩) (k - l) (t - l)) else none
      | none => none
    | _ => none
  | _ => none
def aCutArr (n es : Nat) (x : Value) (lo hi mx : Option Value) (h : AHeap) : Option Value :=
  match x with
  | .pointer (some ⟨m, o, none⟩) =>
    match h.get m with
    | .row _ 0 _ =>
      match aBounds n n lo hi mx with
      | some (l, k, t) => some (.slice (some ⟨m, if t = l then o else o + l * es, none⟩) (k - l) (t - l))
      | none => none
    | _ => none
  | _ => none
def aCutStr (x : Value) (lo hi mx : Option Value) : Option Value :=
  match x, mx with
  | .string s, none => match aBounds s.size s.size lo hi none with
    | some (l, k, _) => some (.string (s.extract l k))
    | none => none
  | _, _ => none
def aCut (ck : CutK) (x : Value) (lo hi mx : Option Value) (h : AHeap) : Option Value :=
  match ck with
  | .str => aCutStr x lo hi mx
  | .arr n es => aCutArr n es x lo hi mx h
  | .sl es => aCutSl es x lo hi mx h

theorem Inv.room (hI : Inv N0 w0 σ h w) {m : Nat} {ro : Bool} {gr : Nat} {c : Cells} (hm : h.get m = .row ro gr c) : gr = grOf (σ m).room ∧ (∀ es ext, (σ m).room = some (es, ext) → 0 < es ∧ c.size ≤ ext) := by
  have := hI.obj m
  rw [hm] at this
  obtain ⟨cs, el, fz, h1, h2, h3, h4, h5, h6⟩ := this
  exact ⟨h5, fun es ext e => ⟨(h6 es ext e).1, (h6 es ext e).2.1⟩⟩
theorem Inv.room0 (hI : Inv N0 w0 σ h w) {m : Nat} {ro : Bool} {c : Cells} (hm : h.get m = .row ro 0 c) : (σ m).room = none := by
  obtain ⟨h1, h2⟩ := hI.room hm
  cases hr : (σ m).room with
  | none => rfl
  | some p => obtain ⟨es, ext⟩ := p; rw [hr] at h1; have := (h2 es ext hr).1; simp [grOf] at h1; omega
theorem Inv.roomS (hI : Inv N0 w0 σ h w) {m : Nat} {ro : Bool} {gr : Nat} {c : Cells} (hm : h.get m = .row ro gr c) (hg : gr ≠ 0) : ∃ ext, (σ m).room = some (gr, ext) := by
  obtain ⟨h1, h2⟩ := hI.room hm
  cases hr : (σ m).room with
  | none => rw [hr] at h1; simp [grOf] at h1; omega
  | some p => obtain ⟨es, ext⟩ := p; rw [hr] at h1; simp [grOf] at h1; subst h1; exact ⟨ext, rfl⟩

theorem cut_run {t : TypeId} {ck : CutK} {x x' v : Value} {lo hi mx lo' hi' mx' : Option Value} (hI : Inv N0 w0 σ h w) (hc : cCut P t = some ck) (hx : VR h.next σ x x')
    (hlo : OVR h.next σ lo lo') (hhi : OVR h.next σ hi hi') (hmx : OVR h.next σ mx mx') (ha : aCut ck x lo hi mx h = some v) : Sim N0 w0 P σ h w (Instr.sliceAt t x' lo' hi' mx') v h := by
  unfold cCut at hc
  split at hc
  · rename_i hu
    injection hc with hc; subst hc
    simp only [aCut, aCutStr] at ha
    split at ha
    · rename_i s
      cases hx with
      | str =>
      cases mx' with
      | some _ => exact hmx.elim
      | none =>
        split at ha
        · rename_i l k m hb
          injection ha with ha; subst ha
          obtain ⟨r, _⟩ := bounds_run (P := P) (w := w) (isS := false) hlo hhi hmx (Nat.le_refl _) hb
          refine Sim.same hI (v' := .string (s.extract l k)) ?_ (.str _)
          simp only [Instr.sliceAt, Instr.slice, Sem.run_bind, run_underlying hu, Result.andThen_ok, Option.isSome_none, Bool.false_eq_true, if_false, r, Sem.run_pure, Sem.run_ite]
        · cases ha
    · cases ha
  · rename_i n e hu
    cases hi2 : P.info? e with
    | none => rw [hi2] at hc; cases hc
    | some inf =>
      rw [hi2] at hc
      injection hc with hc; subst hc
      simp only [aCut, aCutArr] at ha
      split at ha
      · rename_i m o
        cases hx with
        | ptr _ _ hm =>
        split at ha
        · rename_i ro c hrow
          have hroom := hI.room0 hrow
          split at ha
          · rename_i l k tt hb
            injection ha with ha; subst ha
            obtain ⟨r, q1, q2, q3, q4, q5⟩ := bounds_run (P := P) (w := w) (isS := false) hlo hhi hmx (Nat.le_refl _) hb
            have hmm : (if mx.isSome then tt else n) = tt := by
              cases mx with
              | none => simpa using (q4 rfl).symm
              | some _ => rfl
            rw [hmm] at r
            refine Sim.same hI (v' := .slice (some ⟨(σ m).blk, (σ m).base + (if tt = l then o else o + l * inf.size), none⟩) (k - l) (tt - l)) ?_ (.sl m _ _ _ hm hroom)
            simp only [Instr.sliceAt, Instr.sureAddr, Sem.run_bind, Sem.run_pure, run_underlying hu, Result.andThen_ok, r, run_sizeOf' hi2, add_mk]
            split <;> simp [Nat.add_assoc]
          · cases ha
        · cases ha
      · cases ha
  · rename_i e hu
    cases hi2 : P.info? e with
    | none => rw [hi2] at hc; cases hc
    | some inf =>
      rw [hi2] at hc
      injection hc with hc; subst hc
      simp only [aCut, aCutSl] at ha
      split at ha
      · cases hx with
        | nils =>
        split at ha
        · rename_i hb
          injection ha with ha; subst ha
          obtain ⟨r, q1, q2, q3, q4, q5⟩ := bounds_run (P := P) (w := w) (isS := true) hlo hhi hmx (Nat.le_refl _) hb
          refine Sim.same hI (v' := .slice none 0 0) ?_ .nils
          have hmm : (if mx.isSome then 0 else 0) = 0 := by split <;> rfl
          rw [hmm] at r
          simp [Instr.sliceAt, Instr.slice, run_underlying hu, r, run_sizeOf' hi2]
        · cases ha
      · rename_i m o len cap
        split at ha
        · rename_i ro gr c hrow
          split at ha
          · rename_i l k tt hb
            split at ha
            · rename_i hkt
              obtain ⟨hkt, hlc, hge⟩ := hkt
              injection ha with ha; subst ha
              by_cases hg : gr = 0
              · subst hg
                have hroom := hI.room0 hrow
                cases hx with
                | sl _ _ _ _ hm hr =>
                  obtain ⟨r, q1, q2, q3, q4, q5⟩ := bounds_run (P := P) (w := w) (isS := true) hlo hhi hmx (Nat.le_refl _) hb
                  have hmm : (if mx.isSome then tt else cap) = tt := by
                    cases mx with
                    | none => simpa using (q4 rfl).symm
                    | some _ => rfl
                  rw [hmm] at r
                  refine Sim.same hI (v' := .slice (some ⟨(σ m).blk, (σ m).base + (if tt = l ∧ (0 : Nat) = 0 then o else o + l * inf.size), none⟩) (k - l) (tt - l)) ?_ (.sl m _ _ _ hm hroom)
                  simp only [Instr.sliceAt, Instr.slice, Sem.run_bind, Sem.run_pure, run_underlying hu, Result.andThen_ok, r, run_sizeOf' hi2, add_mk, Option.map_some]
                  by_cases e1 : tt = l <;> simp [e1, Nat.add_assoc]
                | slg _ _ _ _ cap' es ext hm hr hl hcp he => rw [hroom] at hr; cases hr
                | sle _ _ p es ext hm hr => rw [hroom] at hr; cases hr
              · obtain ⟨ext, hroom⟩ := hI.roomS hrow hg
                have haddr : (if tt = l ∧ gr = 0 then o else o + l * inf.size) = o + l * inf.size := if_neg (fun e => hg e.2)
                rw [haddr]
                have hes : gr = inf.size := hge.resolve_left hg
                subst hes
                cases hx with
                | sl _ _ _ _ hm hr => rw [hroom] at hr; cases hr
                | slg _ _ _ _ cap' es ext2 hm hr hl hcp he =>
                  rw [hroom] at hr; injection hr with hr; simp only [Prod.mk.injEq] at hr
                  obtain ⟨rfl, rfl⟩ := hr
                  obtain ⟨r, q1, q2, q3, q4, q5⟩ := bounds_run (P := P) (w := w) (isS := true) hlo hhi hmx hcp hb
                  have hle : tt ≤ (if mx.isSome then tt else cap') := by split <;> omega
                  have hle2 : (if mx.isSome then tt else cap') ≤ cap' := by split <;> omega
                  generalize (if mx.isSome then tt else cap') = T at r hle hle2
                  by_cases e1 : T = l
                  · refine Sim.same hI (v' := .slice (some ⟨(σ m).blk, (σ m).base + o, none⟩) 0 0) ?_ ?_
                    · simp only [Instr.sliceAt, Instr.slice, Sem.run_bind, Sem.run_pure, run_underlying hu, Result.andThen_ok, r, run_sizeOf' hi2, add_mk, Option.map_some, e1, if_true, Nat.sub_self, show k - l = 0 by omega]
                    · rw [show k - l = 0 by omega, show tt - l = 0 by omega]
                      exact .sle m _ _ _ _ hm hroom
                  · refine Sim.same hI (v' := .slice (some ⟨(σ m).blk, (σ m).base + (o + l * inf.size), none⟩) (k - l) (T - l)) ?_ ?_
                    · simp only [Instr.sliceAt, Instr.slice, Sem.run_bind, Sem.run_pure, run_underlying hu, Result.andThen_ok, r, run_sizeOf' hi2, add_mk, Option.map_some, e1, if_false, Nat.add_assoc]
                    · refine .slg m _ _ _ _ inf.size ext hm hroom (by omega) (by omega) ?_
                      have : (T - l) * inf.size + l * inf.size ≤ cap' * inf.size := by rw [← Nat.add_mul]; exact Nat.mul_le_mul_right _ (by omega)
                      omega
                | @sle sp _ _ p es ext2 hm hr =>
                  obtain ⟨r, q1, q2, q3, q4, q5⟩ := bounds_run (P := P) (w := w) (isS := true) hlo hhi hmx (Nat.le_refl _) hb
                  have hT : (if mx.isSome then tt else 0) = 0 := by split <;> omega
                  rw [hT] at r
                  have hl0 : l = 0 := by omega
                  subst hl0
                  refine Sim.same hI (v' := .slice (some ⟨(σ m).blk, p, sp⟩) 0 0) ?_ ?_
                  · simp only [Instr.sliceAt, Instr.slice, Sem.run_bind, Sem.run_pure, run_underlying hu, Result.andThen_ok, r, run_sizeOf' hi2, if_true, Nat.sub_self, show k - 0 = 0 by omega]
                  · rw [show k - 0 = 0 by omega, show tt - 0 = 0 by omega]
                    exact .sle m _ _ _ _ hm hroom
            · cases ha
          · cases ha
        · cases ha
      · cases ha
  · cases hc
end
end
end Go.AM
