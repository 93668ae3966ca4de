import Derived.Test.YtoehafeeoggpkaaAM10
set_option linter.unusedVariables false
set_option linter.unusedSimpArgs false
/-! Part 11: conversions, comparisons, maps. -/
namespace Go.AM
noncomputable section
open Go.RowKit

section
variable {N0 : Nat} {w0 : World} {P : Program} {σ : Sig} {h : AHeap} {w : World}

/-! ### conversions -/
inductive ConvK where
  | int (k : IntKind)
  | same              -- a string stays a string
  | s2b (e : TypeId)  -- a string's bytes
  | b2s               -- bytes as a string
  | mark              -- bytes of a constant string: their row is marked, one place behind its last
  deriving Inhabited
def cConv (P : Program) (src dst : TypeId) : Option ConvK :=
  match P.underlying src, P.underlying dst with
  | some (.int _), some (.int k) => some (.int k)
  | some .string, some .string => some .same
  | some .string, some (.slice e) => match P.underlying e with
    | some (.int .u8) => some (.s2b e)
    | _ => none
  | some (.slice e), some .string => match P.underlying e with
    | some (.int .u8) => some .b2s
    | _ => none
  | some (.slice _), some (.slice e) => match src == dst, P.underlying e with
    | true, some (.int .u8) => some .mark
    | _, _ => none
  | _, _ => none

def toBytes : List Value → List UInt8 → Option (List UInt8)
  | [], acc => some acc.reverse
  | .int .u8 n :: r, acc => toBytes r (UInt8.ofNat n.toNat :: acc)
  | _, _ => none
def aB2s (x : Value) (h : AHeap) : Option Value :=
  match x with
  | .slice none 0 0 => some (.string .empty)
  | .slice (some ⟨m, o, none⟩) len _ =>
    if len = 0 then some (.string .empty) else
    match h.get m with
    | .row _ _ c => if o + len ≤ c.size then (toBytes (c.ext o len).toList []).map fun l => .string ⟨l.toArray⟩ else none
    | _ => none
  | _ => none
def aConv (k : ConvK) (x : Value) (h : AHeap) : Option (Value × AHeap) :=
  match k with
  | .int kd => match x with
    | .int _ n => some (.int kd (wrapF kd n), h)
    | _ => none
  | .same => match x with
    | .string s => some (.string s, h)
    | _ => none
  | .s2b _ => match x with
    | .string s => some (.slice (some ⟨h.next, 0, none⟩) s.size s.size, h.new (.row false 1 (mkRow true (byteCells s))))
    | _ => none
  | .b2s => (aB2s x h).map fun v => (v, h)
  | .mark => match x with
    | .slice (some ⟨m, o, none⟩) len cap => match h.get m with
      | .row false gr c => some (.slice (some ⟨m, o, none⟩) len cap, h.set m (.row false gr c))
      | _ => none
    | _ => none

theorem toBytes_ints : ∀ (l : List Value) (acc r : List UInt8), toBytes l acc = some r → ∃ ns : List Int, l = ns.map (Value.int .u8) ∧ r = acc.reverse ++ ns.map fun n => UInt8.ofNat n.toNat
  | [], acc, r, hb => by simp only [toBytes, Option.some.injEq] at hb; subst hb; exact ⟨[], rfl, by simp⟩
  | v :: l, acc, r, hb => by
    unfold toBytes at hb
    split at hb
    · rename_i e; cases e
    · rename_i acc' n l' e
      injection e with e1 e2
      subst e1; subst e2
      obtain ⟨ns, h1, h2⟩ := toBytes_ints _ _ _ hb
      exact ⟨n :: ns, by rw [h1]; rfl, by rw [h2]; simp⟩
    · cases hb

theorem foldl_push (ns : List Int) (s : ByteArray) : ns.foldl (fun r n => r.push (UInt8.ofNat n.toNat)) s = ⟨(s.data.toList ++ ns.map fun n => UInt8.ofNat n.toNat).toArray⟩ := by
  induction ns generalizing s with
  | nil => simp
  | cons n ns ih => simp only [List.foldl_cons, ih]; simp [ByteArray.push]

theorem VRL.ints {n : Nat} {ns : List Int} {k : IntKind} {l' : List Value} (hr : VRL n σ (ns.map (Value.int k)) l') : l' = ns.map (Value.int k) := by
  induction ns generalizing l' with
  | nil => exact hr.nil_inv
  | cons a ns ih =>
    obtain ⟨x', r, rfl, h1, h2⟩ := VRL.cons_inv (x := .int k a) (l := ns.map (Value.int k)) hr
    cases h1
    rw [ih h2]; rfl

/-- A constant string's bytes: the row is marked, one place behind its last. -/
theorem mark_run {t e0 e : TypeId} {m o len cap gr : Nat} {c : Cells} {x' : Value} (hI : Inv N0 w0 σ h w) (hs : P.underlying t = some (.slice e0)) (hd : P.underlying t = some (.slice e)) (he : P.underlying e = some (.int .u8))
    (hx : VR h.next σ (.slice (some ⟨m, o, none⟩) len cap) x') (hm : h.get m = .row false gr c) : Sim N0 w0 P σ h w (convert t t x') (.slice (some ⟨m, o, none⟩) len cap) (h.set m (.row false gr c)) := by
  have hform : ∃ (y : Nat) (sp : Option Nat) (l2 c2 : Nat), x' = .slice (some ⟨(σ m).blk, y, sp⟩) l2 c2 := by cases hx <;> exact ⟨_, _, _, _, rfl⟩
  obtain ⟨y, sp, l2, c2, rfl⟩ := hform
  have hobj := hI.obj m
  rw [hm] at hobj
  obtain ⟨cs, el, ⟨lo, hi⟩, h1, h2, hb, h3, h4, h5⟩ := hobj
  have hblt := (Array.getElem?_eq_some_iff.1 h1).1
  have hshape : w.shape? (σ m).blk = some (el, cs.size) := by unfold World.shape?; rw [h1]
  have hrun : (convert t t (.slice (some ⟨(σ m).blk, y, sp⟩) l2 c2)).run P w = .ok (.slice (some ⟨(σ m).blk, y, sp⟩) l2 c2) (w.freeze ⟨(σ m).blk, cs.size, none⟩ 1) := by
    simp [convert, run_underlying hd, run_underlying he, markStringish, hshape]
  obtain ⟨i1, i2⟩ := hI.write (w' := w.freeze ⟨(σ m).blk, cs.size, none⟩ 1) m (.row false gr c) (by rw [hm]; rfl)
    ⟨cs, el, if lo == hi then (cs.size, cs.size + 1) else (min lo cs.size, max hi (cs.size + 1)), by
      unfold World.freeze
      rw [if_neg (by decide)]
      simp only [Array.getElem?_modify]
      rw [if_pos trivial, h1]
      rfl, h2, hb, fun _ => by
        have h3 := h3 rfl
        simp only at h3
        by_cases hlh : lo = hi
        · right; rw [if_pos (by simpa using hlh)]; exact Nat.le_refl _
        · right; rw [if_neg (by simpa using hlh)]; simp only; omega, h4, h5⟩ rfl
    (by unfold World.freeze; rw [if_neg (by decide)]) (by unfold World.freeze; rw [if_neg (by decide)]) (by unfold World.freeze; rw [if_neg (by decide)])
    (by unfold World.freeze; rw [if_neg (by decide)]; simp)
    (fun b hb => by
      unfold World.freeze
      rw [if_neg (by decide)]
      simp only [Array.getElem?_modify]
      rw [if_neg (fun e => hb e.symm)])
  exact ⟨σ, _, _, hrun, hx, i1, i2⟩
theorem conv_run {src dst : TypeId} {k : ConvK} {x x' v : Value} {h' : AHeap} (hI : Inv N0 w0 σ h w) (hc : cConv P src dst = some k) (hx : VR h.next σ x x') (ha : aConv k x h = some (v, h')) :
    Sim N0 w0 P σ h w (convert src dst x') v h' := by
  unfold cConv at hc
  split at hc
  · rename_i k0 kd hs hd
    injection hc with hc; subst hc
    simp only [aConv] at ha
    split at ha
    · rename_i k1 n
      injection ha with ha; simp only [Prod.mk.injEq] at ha; obtain ⟨rfl, rfl⟩ := ha
      cases hx with
      | int =>
      exact Sim.same hI (by simp [convert, run_underlying hs, run_underlying hd, Conv.intToInt, wrapF_eq]) (.int _ _)
    · cases ha
  · rename_i hs hd
    injection hc with hc; subst hc
    simp only [aConv] at ha
    split at ha
    · injection ha with ha; simp only [Prod.mk.injEq] at ha; obtain ⟨rfl, rfl⟩ := ha
      cases hx with
      | str => exact Sim.same hI (by simp [convert, run_underlying hs, run_underlying hd]) (.str _)
    · cases ha
  · rename_i e hs hd
    split at hc
    · rename_i he
      injection hc with hc; subst hc
      simp only [aConv] at ha
      split at ha
      · rename_i s
        injection ha with ha; simp only [Prod.mk.injEq] at ha; obtain ⟨rfl, rfl⟩ := ha
        cases hx with
        | str =>
        have hrun := Lib.run_convert_string_bytes (P := P) w src dst e s hs hd he
        have hgc := need_le_grownCap w s.size 0 e
        have hIw : Inv N0 w0 σ h w.drew := hI.drawn _
        have hsz : (Lib.bytesCells w e s).size = grownCap w s.size 0 e := by
          simp only [Lib.bytesCells, Array.size_append, Array.size_map, Array.size_replicate]
          have : s.data.size = s.size := rfl
          omega
        have hworld : Lib.bytesWorld w e s = { w.drew with heap := w.drew.heap.push (.cells (Lib.bytesCells w e s) e ((Lib.bytesCells w e s).size, (Lib.bytesCells w e s).size + 1)) } := by
          unfold Lib.bytesWorld World.freeze
          rw [if_neg (by decide)]
          simp only [World.alloc, World.drew]
          congr 1
          apply Array.ext_getElem?
          intro j
          rw [Array.getElem?_modify, Array.getElem?_push, Array.getElem?_push]
          by_cases hj : j = w.heap.size
          · subst hj; simp
          · have : w.heap.size ≠ j := fun e => hj e.symm
            simp [hj, this]
        have hobj : (AObj.row false 1 (mkRow true (byteCells s))).at (h.next + 1) (σ.put h.next ⟨w.drew.heap.size, 0, some (1, grownCap w s.size 0 e), true, none⟩)
            { w.drew with heap := w.drew.heap.push (.cells (Lib.bytesCells w e s) e ((Lib.bytesCells w e s).size, (Lib.bytesCells w e s).size + 1)) } ⟨w.drew.heap.size, 0, some (1, grownCap w s.size 0 e), true, none⟩ := by
          have hlen : (mkRow true (byteCells s)).size = s.size := by rw [← Cells.length_toList, toList_mkRow, byteCells_length]
          refine ⟨Lib.bytesCells w e s, e, _, by show (w.drew.heap.push _)[w.drew.heap.size]? = _; rw [Array.getElem?_push, if_pos rfl], ?_, ?_, ?_, rfl, ?_⟩
          · intro i v hv
            rw [← Cells.get_toList, toList_mkRow] at hv
            have hi := (List.getElem?_eq_some_iff.1 hv).1
            rw [byteCells_length] at hi
            unfold byteCells at hv
            rw [List.getElem?_map] at hv
            cases hb : s.data.toList[i]? with
            | none => rw [hb] at hv; cases hv
            | some b =>
              rw [hb] at hv
              injection hv with hv; subst hv
              refine ⟨.int .u8 b.toNat, ?_, .int _ _, rfl⟩
              have hb' : s.data[i]? = some b := by simpa using hb
              have hi2 : i < s.data.size := hi
              show (Lib.bytesCells w e s)[0 + i]? = _
              simp only [Lib.bytesCells, Nat.zero_add]
              rw [Array.getElem?_append_left (by simpa using hi2), Array.getElem?_map, hb']
              rfl
          · rw [hlen]; show 0 + s.size ≤ _; omega
          · intro _; exact .inr (Nat.le_refl _)
          · intro es ext he2
            injection he2 with he2; simp only [Prod.mk.injEq] at he2; obtain ⟨rfl, rfl⟩ := he2
            rw [hlen]
            refine ⟨by omega, by omega, ?_⟩
            show 0 + _ ≤ _; omega
        obtain ⟨g1, g2⟩ := hIw.new _ _ _ rfl hobj
        refine ⟨σ.put h.next ⟨w.drew.heap.size, 0, some (1, grownCap w s.size 0 e), true, none⟩, .slice (some ⟨w.heap.size, 0, none⟩) s.size (grownCap w s.size 0 e), Lib.bytesWorld w e s, hrun, ?_, ?_, ?_⟩
        · have := VR.slg (n := h.next + 1) (σ := σ.put h.next ⟨w.drew.heap.size, 0, some (1, grownCap w s.size 0 e), true, none⟩) h.next 0 s.size s.size (grownCap w s.size 0 e) 1 (grownCap w s.size 0 e) ⟨by omega, by rw [Sig.put_same]⟩ (by rw [Sig.put_same]) (Nat.le_refl _) hgc (by omega)
          rw [Sig.put_same] at this
          exact this
        · rw [hworld]; exact g1
        · rw [hworld]; exact (Go'.drawn σ h w _).trans g2
      · cases ha
    · cases hc
  · rename_i e hs hd
    split at hc
    · rename_i he
      injection hc with hc; subst hc
      simp only [aConv, Option.map_eq_some_iff] at ha
      obtain ⟨v0, hv0, hpair⟩ := ha
      simp only [Prod.mk.injEq] at hpair; obtain ⟨rfl, rfl⟩ := hpair
      unfold aB2s at hv0
      split at hv0
      · injection hv0 with hv0; subst hv0
        cases hx with
        | nils => exact Sim.same hI (by rw [run_convert_bytes_string w src dst e none 0 0 hs he hd]; simp [Conv.bytesToString]) (.str _)
      · rename_i m o len cap
        split at hv0
        · rename_i hl0
          subst hl0
          injection hv0 with hv0; subst hv0
          have hform : ∃ A cap', x' = .slice (some A) 0 cap' := by cases hx <;> exact ⟨_, _, rfl⟩
          obtain ⟨A, cap', rfl⟩ := hform
          refine Sim.same hI (v' := .string .empty) ?_ (.str _)
          rw [run_convert_bytes_string w src dst e (some A) 0 cap' hs he hd]
          have := run_bytesToString (P := P) w A 0 cap' [] (by simp [loadCells, loadCellsFrom])
          simpa using this
        · rename_i hl0
          split at hv0
          · rename_i ro gr c hrow
            split at hv0
            · rename_i hsz
              rw [Option.map_eq_some_iff] at hv0
              obtain ⟨r, hr, rfl⟩ := hv0
              obtain ⟨ns, e1, e2⟩ := toBytes_ints _ _ _ hr
              obtain ⟨l', q1, q2⟩ := hI.loadCells (P := P) hrow hsz
              rw [e1] at q2
              have := q2.ints
              subst this
              obtain ⟨cap', rfl, hm⟩ := hx.slice_addr (by omega)
              refine Sim.same hI (v' := .string ⟨r.toArray⟩) ?_ (.str _)
              rw [run_convert_bytes_string w src dst e _ len cap' hs he hd, run_bytesToString w _ len cap' ns q1, foldl_push, e2]
              rfl
            · cases hv0
          · cases hv0
      · cases hv0
    · cases hc
  · rename_i e0 e hs hd
    split at hc
    · rename_i heq he
      injection hc with hc; subst hc
      have hsd : src = dst := by simpa using heq
      subst hsd
      simp only [aConv] at ha
      split at ha
      · rename_i m o len cap
        split at ha
        · rename_i gr c hm
          injection ha with ha; simp only [Prod.mk.injEq] at ha; obtain ⟨rfl, rfl⟩ := ha
          exact mark_run hI hs hd he hx hm
        · cases ha
      · cases ha
    · cases hc
  · cases hc

/-! ### maps -/
/-- Keys that are one plain value: the kind of findNow. -/
def keyOk (d : TypeDesc) (k : Value) : Bool :=
  match d, k with
  | .int _, .int _ _ | .string, .string _ | .bool, .bool _ => true
  | _, _ => false

theorem VR.key {n : Nat} {k k' : Value} {d : TypeDesc} (hk : keyOk d k = true) (hx : VR n σ k k') : k' = k := by
  cases hx <;> first | rfl | (cases d <;> simp [keyOk] at hk)

theorem findNow_rel {n : Nat} {d : TypeDesc} {k : Value} : ∀ (es es' : List MapEntry) (i : Nat) (r : Option (Nat × Value)), ER n σ es es' → Instr.findNow d k es i = some r →
    ∃ r', Instr.findNow d k es' i = some r' ∧ (match r, r' with | none, none => True | some (j, v), some (j', v') => j = j' ∧ VR n σ v v' | _, _ => False)
  | [], es', i, r, he, hf => by
    have : es' = [] := by have := he.1; exact List.length_eq_zero_iff.1 (by simpa using this.symm)
    subst this
    simp only [Instr.findNow, Option.some.injEq] at hf
    subst hf
    exact ⟨none, rfl, trivial⟩
  | e :: es, es', i, r, he, hf => by
    cases es' with
    | nil => have := he.1; simp at this
    | cons e' es' =>
      obtain ⟨h1, h2, h3⟩ := he.2 0 e e' rfl rfl
      have hrest : ER n σ es es' := ⟨by have := he.1; simpa using this, fun j a b ha hb => he.2 (j + 1) a b (by simpa using ha) (by simpa using hb)⟩
      simp only [Instr.findNow] at hf ⊢
      have hsame : Instr.sameNow d k e'.key = Instr.sameNow d k e.key ∨ Instr.sameNow d k e.key = none := by
        revert h1
        generalize e.key = a
        generalize e'.key = b
        intro h1
        cases h1 <;> first | exact .inl rfl | (refine .inr ?_; cases d <;> cases k <;> rfl)
      rcases hsame with hs | hs
      · rw [hs]
        cases hq : Instr.sameNow d k e.key with
        | none => rw [hq] at hf; cases hf
        | some b =>
          rw [hq] at hf
          cases b with
          | true =>
            simp only at hf ⊢
            injection hf with hf; subst hf
            exact ⟨_, rfl, rfl, h2⟩
          | false =>
            simp only at hf ⊢
            exact findNow_rel es es' (i + 1) r hrest hf
      · rw [hs] at hf; cases hf

structure MapK where
  key : TypeDesc
  zero : Value
  deriving Inhabited
def plainKey : TypeDesc → Bool
  | .int _ | .string | .bool => true
  | _ => false
def cMap (P : Program) (t : TypeId) : Option MapK :=
  match P.underlying t with
  | some (.map k e) => match P.underlying k, P.info? e with
    | some kd, some i => match i.zero with
      | some z => if plainKey kd = true ∧ closedV depthC z = true then some ⟨kd, z⟩ else none
      | none => none
    | _, _ => none
  | _ => none
theorem cMap_spec {t : TypeId} {mk : MapK} (hc : cMap P t = some mk) : ∃ k e i, P.underlying t = some (.map k e) ∧ P.underlying k = some mk.key ∧ plainKey mk.key = true ∧ P.info? e = some i ∧ i.zero = some mk.zero ∧ closedV depthC mk.zero = true := by
  unfold cMap at hc
  split at hc
  · rename_i k e hu
    split at hc
    · rename_i kd i hk hi
      split at hc
      · rename_i z hz
        split at hc
        · rename_i hcl
          injection hc with hc; subst hc
          exact ⟨k, e, i, hu, hk, hcl.1, hi, hz, hcl.2⟩
        · cases hc
      · cases hc
    · cases hc
  · cases hc

theorem checkKey_run {b : Bool} {n : Nat} {t : TypeId} {d : TypeDesc} {k : Value} (hu : P.underlying t = some d) (hp : plainKey d = true) : (Instr.checkKey b (n + 1) t k).run P w = .ok () w := by
  simp only [Instr.checkKey, Sem.run_bind, run_underlying hu, Result.andThen_ok]
  cases d <;> simp [plainKey] at hp <;> cases k <;> rfl

def aMakeMap (h : AHeap) : Value × AHeap := (.map (some h.next), h.new (.map [] 0))
theorem makeMap_run {t : TypeId} (hI : Inv N0 w0 σ h w) : Sim N0 w0 P σ h w (Instr.makeMap t none) (aMakeMap h).1 (aMakeMap h).2 := by
  obtain ⟨g1, g2⟩ := hI.new (.map [] 0) (.map #[] 0) none rfl (lp := none) ⟨#[], by simp, rfl, fun i e e' a => by simp at a⟩
  refine ⟨_, .map (some w.heap.size), _, by simp [Instr.makeMap], ?_, g1, g2⟩
  have := VR.map (n := h.next + 1) (σ := σ.put h.next ⟨w.heap.size, 0, none, true, none⟩) h.next ⟨by omega, by rw [Sig.put_same]⟩
  rw [Sig.put_same] at this
  exact this

def aLookup (mk : MapK) (ok : Bool) (x k : Value) (h : AHeap) : Option Value :=
  if keyOk mk.key k = true then
    match x with
    | .map none => some (if ok then .tuple #[mk.zero, .bool false] else mk.zero)
    | .map (some m) =>
      match h.get m with
      | .map es _ => match Instr.findNow mk.key k es 0 with
        | some (some (_, v)) => some (if ok then .tuple #[v, .bool true] else v)
        | some none => some (if ok then .tuple #[mk.zero, .bool false] else mk.zero)
        | none => none
      | _ => none
    | _ => none
  else none
theorem VR.pair {n : Nat} {v v' : Value} (hv : VR n σ v v') (b : Bool) : VR n σ (.tuple #[v, .bool b]) (.tuple #[v', .bool b]) := by
  have := VR.tup_list (VRL.cons hv (VRL.cons (VR.bool (n := n) (σ := σ) b) .nil))
  exact this
theorem lookup_run {t : TypeId} {mk : MapK} {ok : Bool} {x x' k k' v : Value} (hI : Inv N0 w0 σ h w) (hc : cMap P t = some mk) (hx : VR h.next σ x x') (hk : VR h.next σ k k') (ha : aLookup mk ok x k h = some v) :
    Sim N0 w0 P σ h w (Instr.lookup t x' k' ok) v h := by
  obtain ⟨kt, e, i, hu, hku, hp, hi, hz, hcl⟩ := cMap_spec hc
  unfold aLookup at ha
  split at ha
  · rename_i hko
    have hkk := hk.key hko
    subst hkk
    have hzv : VR h.next σ mk.zero mk.zero := VR.closed depthC _ hcl
    have hck : ∀ b, (Instr.checkKey b 10000 kt k').run P w = .ok () w := fun b => checkKey_run hku hp
    split at ha
    · injection ha with ha; subst ha
      cases hx with
      | nilm =>
      refine Sim.same hI (v' := if ok then .tuple #[mk.zero, .bool false] else mk.zero) ?_ (by split; exact hzv.pair false; exact hzv)
      have hfk : ∀ w : World, (Instr.findKey kt k' []).run P w = .ok none w := fun w => by simp [Instr.findKey, run_underlying hku, Instr.findNow]
      simp only [Instr.lookup, Sem.run_bind, run_underlying hu, Result.andThen_ok, Sem.run_pure, hck, hfk, run_zeroValue' hi hz]
    · rename_i m
      split at ha
      · rename_i es cl hm
        cases hx with
        | map _ hmn =>
        obtain ⟨es', e1, e2⟩ := hI.mapAt hm
        split at ha
        · rename_i j v0 hf
          injection ha with ha; subst ha
          obtain ⟨r', f1, f2⟩ := findNow_rel (σ := σ) es es'.toList 0 _ e2 hf
          cases r' with
          | none => exact f2.elim
          | some jv =>
            obtain ⟨j', v'⟩ := jv
            refine Sim.same hI (v' := if ok then .tuple #[v', .bool true] else v') ?_ (by split; exact f2.2.pair true; exact f2.2)
            have hfk : ∀ w : World, (Instr.findKey kt k' es'.toList).run P w = .ok (some (j', v')) w := fun w => by simp [Instr.findKey, run_underlying hku, f1]
            simp only [Instr.lookup, Sem.run_bind, run_underlying hu, Result.andThen_ok, Sem.run_pure, hck, hfk, run_getMap e1]
        · rename_i hf
          injection ha with ha; subst ha
          obtain ⟨r', f1, f2⟩ := findNow_rel (σ := σ) es es'.toList 0 _ e2 hf
          cases r' with
          | some jv => exact f2.elim
          | none =>
            refine Sim.same hI (v' := if ok then .tuple #[mk.zero, .bool false] else mk.zero) ?_ (by split; exact hzv.pair false; exact hzv)
            have hfk : ∀ w : World, (Instr.findKey kt k' es'.toList).run P w = .ok none w := fun w => by simp [Instr.findKey, run_underlying hku, f1]
            simp only [Instr.lookup, Sem.run_bind, run_underlying hu, Result.andThen_ok, Sem.run_pure, hck, hfk, run_getMap e1, run_zeroValue' hi hz]
        · cases ha
      · cases ha
    · cases ha
  · cases ha
end
end
end Go.AM
