import Derived.Test.YtoehafeeoggpkaaAM13
set_option linter.unusedVariables false
set_option linter.unusedSimpArgs false
/-! Part 14: operations, as they are compiled, and the one simulation of them all. -/
namespace Go.AM
noncomputable section
open Go.RowKit

inductive AOp where
  | mov (x : Operand)
  | pick (c a b : Operand)
  | alloc (zs : List Value)
  | box (x : Operand)
  | build (k : BuildK) (parts : List (Nat × Operand))
  | buildSlice (k : ElK) (len : Nat) (parts : List (Nat × Operand))
  | load (n : Option Nat) (a : Operand)
  | store (sz : Nat) (a x : Operand)
  | nilCheck (x : Operand)
  | bin (op : BinOp) (x y : Operand)
  | eqB (neg : Bool) (x y : Operand)
  | eqA (neg : Bool) (l : List (Nat × LeafK)) (x y : Operand)
  | eqN (neg : Bool) (k : NilK) (lit : Bool) (x y : Operand)
  | un (op : UnOp) (x : Operand)
  | conv (k : ConvK) (x : Operand)
  | iface (t : TypeId) (x : Operand)
  | mkfunc (fn : Fn) (first captured : List Operand)
  | makeMap
  | makeSlice (k : ElK) (len cap : Operand)
  | cut (k : CutK) (x : Operand) (lo hi mx : Option Operand)
  | faddr (off : Nat) (x : Operand)
  | field (n : Option Nat) (off : Nat) (x : Operand)
  | iaddr (arr : Option Nat) (es : Nat) (x i : Operand)
  | index (k : IndexK) (x i : Operand)
  | lookup (k : MapK) (ok : Bool) (x i : Operand)
  | mapPut (k : MapK) (m i v : Operand)
  | extract (x : Operand) (i : Nat)
  | append (k : ElK) (str : Bool) (s x : Operand)
  | copy (es : Nat) (d s : Operand)
  | len (k : LenK) (x : Operand)
  | minmax (mx : Bool) (x : Operand) (rest : List Operand)
  deriving Inhabited

def opdOk : Operand → Bool
  | .tmp _ | .func _ => true
  | .const v => closedV depthC v
  | .global _ => false

def unOpA (op : UnOp) (x : Value) : Option Value :=
  match op, x with
  | .neg, .int k n => some (.int k (wrapF k (0 - n)))
  | .xor, .int k n => (bitsF .xor k (if k.signed then -1 else hiK k) n).map (.int k)
  | .not, .bool b => some (.bool !b)
  | _, _ => none
def mm2 (mx : Bool) : Value → Value → Option Value
  | .int k x, .int _ y => some (.int k (if mx then (if y > x then y else x) else (if y < x then y else x)))
  | _, _ => none
def mmL (mx : Bool) : Value → List Value → Option Value
  | x, [] => some x
  | x, y :: r => match mm2 mx x y with
    | some z => mmL mx z r
    | none => none
def strShape (str : Bool) (x : Value) : Bool :=
  match str, x with
  | true, .string _ => true
  | false, .slice .. => true
  | _, _ => false

/-- An operation: its value (of none: nothing), and the heap behind it. pk: bytes are packed. -/
def aop (pk : Bool) (o : AOp) (ρ : Operand → Value) (h : AHeap) : Option (Value × AHeap) :=
  match o with
  | .mov x => some (ρ x, h)
  | .pick c a b => match ρ c with
    | .bool t => some (if t then ρ a else ρ b, h)
    | _ => none
  | .alloc zs => aNew pk zs h
  | .box x => aNew pk (ρ x).cells.toList h
  | .build k ps => (aBuild k (ps.map fun p => (p.1, ρ p.2))).map fun v => (v, h)
  | .buildSlice k n ps => aBuildSlice pk k n (ps.map fun p => (p.1, ρ p.2)) h
  | .load n a => (aLoad n (ρ a) h).map fun v => (v, h)
  | .store sz a x => (aStore sz (ρ a) (ρ x) h).map fun h' => (undef, h')
  | .nilCheck x => match ρ x with
    | .pointer (some a) => some (.pointer (some a), h)
    | .iface t v => some (.iface t v, h)
    | .func (.func f) a b => some (.func (.func f) a b, h)
    | _ => none
  | .bin op x y => match ρ x, ρ y with
    | .int k a, .int k' b => if isShift op then (aShift op k a b).map fun v => (v, h) else if k = k' then (aInt op k a b).map fun v => (v, h) else none
    | .string a, .string b => (aStr op a b).map fun v => (v, h)
    | _, _ => none
  | .eqB neg x y => match ρ x, ρ y with
    | .bool a, .bool b => some (.bool (if neg then !(a == b) else a == b), h)
    | _, _ => none
  | .eqA neg l x y => if isAggV (ρ x) = true ∧ isAggV (ρ y) = true then (aEqL (ρ x) (ρ y) l).map fun b => (.bool (if neg then !b else b), h) else none
  | .eqN neg k lit x y => (aNil k lit (ρ x) (ρ y)).map fun b => (.bool (if neg then !b else b), h)
  | .un op x => (unOpA op (ρ x)).map fun v => (v, h)
  | .conv k x => aConv k (ρ x) h
  | .iface t x => some (.iface t (ρ x), h)
  | .mkfunc fn a b => some (.func fn (a.map ρ).toArray (b.map ρ).toArray, h)
  | .makeMap => some (aMakeMap h)
  | .makeSlice k l c => aMake pk k (ρ l) (ρ c) h
  | .cut k x lo hi mx => (aCut k (ρ x) (lo.map ρ) (hi.map ρ) (mx.map ρ) h).map fun v => (v, h)
  | .faddr off x => match ρ x with
    | .pointer (some ⟨m, o, none⟩) => some (.pointer (some ⟨m, o + off, none⟩), h)
    | _ => none
  | .field n off x => (aField n off (ρ x)).map fun v => (v, h)
  | .iaddr arr es x i => (aIndexAddr arr es (ρ x) (ρ i)).map fun v => (v, h)
  | .index k x i => (aIndex k (ρ x) (ρ i)).map fun v => (v, h)
  | .lookup k ok x i => (aLookup k ok (ρ x) (ρ i) h).map fun v => (v, h)
  | .mapPut k m i v => (aMapPut k (ρ m) (ρ i) (ρ v) h).map fun h' => (undef, h')
  | .extract x i => (aExtract i (ρ x)).map fun v => (v, h)
  | .append k str s x => if strShape str (ρ x) = true then aAppend k (ρ s) (ρ x) h else none
  | .copy es d s => aCopy es (ρ d) (ρ s) h
  | .len k x => (aLen k (ρ x) h).map fun v => (v, h)
  | .minmax mx x r => (mmL mx (ρ x) (r.map ρ)).map fun v => (v, h)

def isConstO : Operand → Bool
  | .const _ => true
  | _ => false
def isEq : BinOp → Bool
  | .eql | .neq => true
  | _ => false

def isNeq : BinOp → Bool
  | .neq => true
  | _ => false

/-- What an operation is compiled to; calls are not among them, but the builtins are. -/
def compOp (P : Program) (op : Op) : Option AOp :=
  match op with
  | .move x | .assign x => if opdOk x then some (.mov x) else none
  | .pick c a b => if opdOk c && opdOk a && opdOk b then some (.pick c a b) else none
  | .alloc e => match P.info? e with
    | some i => match i.zero with
      | some z => if z.cells.toList.all (closedV depthC) then some (.alloc z.cells.toList) else none
      | none => none
    | none => none
  | .box e x => if opdOk x then some (.box x) else none
  | .build t ps => if ps.toList.all (fun p => opdOk p.2) then (cBuild P t).map fun k => .build k ps.toList else none
  | .buildSlice t n ps => if ps.toList.all (fun p => opdOk p.2) then (match P.underlying t with
    | some (.slice e) => (cElem P e).map fun k => .buildSlice k n ps.toList
    | _ => none) else none
  | .load t a => if opdOk a then (cLoad P t).map fun n => .load n a else none
  | .store t a x => if opdOk a && opdOk x then (P.info? t).map fun i => .store i.size a x else none
  | .nilCheck x => if opdOk x then some (.nilCheck x) else none
  | .binOp op t x y _ => if opdOk x && opdOk y then
      (match P.underlying t with
       | some (.int _) | some .string => some (.bin op x y)
       | some .bool => if isEq op then some (.eqB (isNeq op) x y) else none
       | some (.struct _) => if isEq op && !P.eqGuardType P.depth t then (cLeaves P 64 t).map fun l => .eqA (isNeq op) l x y else none
       | some (.array _ _) => if isEq op && !P.eqGuardType P.depth t then (cLeaves P 64 t).map fun l => .eqA (isNeq op) l x y else none
       | _ => if isEq op then (cNil P t).map fun k => .eqN (isNeq op) k (isConstO x || isConstO y) x y else none)
    else none
  | .unOp op _ x => if opdOk x then some (.un op x) else none
  | .convert s d x => if opdOk x then (cConv P s d).map fun k => .conv k x else none
  | .makeInterface t x => if opdOk x && P.concrete t then some (.iface t x) else none
  | .makeFunc fn a b => if plainFn fn && (a.toList.all opdOk && b.toList.all opdOk) then some (.mkfunc fn a.toList b.toList) else none
  | .makeMap t none => some .makeMap
  | .makeSlice t l c => if opdOk l && opdOk c then (match P.underlying t with
    | some (.slice e) => (cElem P e).map fun k => .makeSlice k l c
    | _ => none) else none
  | .slice t x lo hi mx => if opdOk x && lo.all opdOk && hi.all opdOk && mx.all opdOk then (cCut P t).map fun k => .cut k x lo hi mx else none
  | .fieldAddr s x f => if opdOk x then (match P.underlying s with
    | some (.struct fs) => match fs[f]? with
      | some fd => match P.info? fd.type with
        | some i => if i.size = 0 then none else some (.faddr fd.offset x)
        | none => none
      | none => none
    | _ => none) else none
  | .field s x f => if opdOk x then (match P.underlying s with
    | some (.struct fs) => match fs[f]? with
      | some fd => (cLoad P fd.type).map fun n => .field n fd.offset x
      | none => none
    | _ => none) else none
  | .indexAddr t x i => if opdOk x && opdOk i then (cIndexAddr P t).map fun k => .iaddr k.1 k.2 x i else none
  | .index t x i => if opdOk x && opdOk i then (cIndex P t).map fun k => .index k x i else none
  | .lookup t x i ok => if opdOk x && opdOk i then (cMap P t).map fun k => .lookup k ok x i else none
  | .mapUpdate t m i v | .insert t m i v => if opdOk m && opdOk i && opdOk v then (cMap P t).map fun k => .mapPut k m i v else none
  | .extract x i => if opdOk x then some (.extract x i) else none
  | .call { callee := .builtin b, args, argTypes } =>
    if args.toList.all opdOk then
    (match b, args.toList, argTypes.toList with
    | .append, [s, x], [t, tx] => match P.underlying t, P.underlying tx with
      | some (.slice e), some (.slice _) => (cElem P e).map fun k => .append k false s x
      | some (.slice e), some .string => (cElem P e).map fun k => .append k true s x
      | some (.slice _), some (.int _) => some (.un .plus s)
      | _, _ => none
    | .copy, [d, s], [t, _] => match P.underlying t with
      | some (.slice e) => (P.info? e).map fun i => .copy i.size d s
      | _ => none
    | .len, [x], [t] => (cLen P t).map fun k => .len k x
    | .max, x :: r, _ => some (.minmax true x r)
    | .min, x :: r, _ => some (.minmax false x r)
    | _, _, _ => none) else none
  | _ => none

/-- What the machine's step comes to. -/
def SimN (N0 : Nat) (w0 : World) (P : Program) (σ : Sig) (h : AHeap) (w : World) (s : Sem Next) (v : Value) (h' : AHeap) : Prop :=
  ∃ σ' v' w', (s.run P w = .ok (.value v') w' ∨ (s.run P w = .ok .skip w' ∧ v' = undef)) ∧ VR h'.next σ' v v' ∧ Inv N0 w0 σ' h' w' ∧ Go' σ h w σ' h' w'

section
variable {N0 : Nat} {w0 : World} {P : Program} {σ : Sig} {h : AHeap} {w : World}

theorem Sim.next {s : Sem Value} {v : Value} {h' : AHeap} (hs : Sim N0 w0 P σ h w s v h') : SimN N0 w0 P σ h w (do pure (.value (← s))) v h' := by
  obtain ⟨σ', v', w', h1, h2⟩ := hs
  exact ⟨σ', v', w', .inl (by simp only [Sem.run_bind, h1, Result.andThen_ok, Sem.run_pure]), h2⟩
theorem VR.undef {n : Nat} : VR n σ undef undef := .tup _ _ rfl (fun i v v' e => by simp at e)
theorem SimU.next {s : Sem Unit} {h' : AHeap} (hs : SimU N0 w0 P σ h w s h') : SimN N0 w0 P σ h w (do s; pure .skip) undef h' := by
  obtain ⟨σ', w', h1, h2, h3⟩ := hs
  exact ⟨σ', undef, w', .inr ⟨by simp only [Sem.run_bind, h1, Result.andThen_ok, Sem.run_pure], rfl⟩, VR.undef, h2, h3⟩

theorem VRL.map {n : Nat} {ρ ρ' : Operand → Value} (hρ : ∀ x, opdOk x = true → VR n σ (ρ x) (ρ' x)) : ∀ (l : List Operand), l.all opdOk = true → VRL n σ (l.map ρ) (l.map ρ')
  | [], _ => .nil
  | x :: l, hl => by
    simp only [List.all_cons, Bool.and_eq_true] at hl
    exact .cons (hρ x hl.1) (VRL.map hρ l hl.2)
theorem PR.map {n : Nat} {ρ ρ' : Operand → Value} (hρ : ∀ x, opdOk x = true → VR n σ (ρ x) (ρ' x)) (l : List (Nat × Operand)) (hl : l.all (fun p => opdOk p.2) = true) :
    PR n σ (l.map fun p => (p.1, ρ p.2)) (l.map fun p => (p.1, ρ' p.2)) := by
  refine ⟨by simp [List.map_map, Function.comp_def], ?_⟩
  have := VRL.map hρ (l.map (·.2)) (by simpa [List.all_map, Function.comp_def] using hl)
  simpa [List.map_map, Function.comp_def] using this
theorem OVR.map {n : Nat} {ρ ρ' : Operand → Value} (hρ : ∀ x, opdOk x = true → VR n σ (ρ x) (ρ' x)) (o : Option Operand) (ho : o.all opdOk = true) : OVR n σ (o.map ρ) (o.map ρ') := by
  cases o with
  | none => trivial
  | some x => exact hρ x (by simpa using ho)

theorem unOp_run {op : UnOp} {x x' v : Value} {n : Nat} (hx : VR n σ x x') (ha : unOpA op x = some v) : (Op.unary op x').run P w = .ok v w ∧ VR n σ v v := by
  unfold unOpA at ha
  split at ha
  · cases hx; injection ha with ha; subst ha; exact ⟨by simp [Op.unary, Op.intArith, wrapF_eq], .int _ _⟩
  · rename_i k i
    cases hx
    rw [Option.map_eq_some_iff] at ha
    obtain ⟨r, hr, rfl⟩ := ha
    refine ⟨?_, .int _ _⟩
    have e : (if k.signed = true then (-1 : Int) else hiK k) = if k.signed = true then -1 else k.max := by
      cases k <;> simp [IntKind.signed, hiK, IntKind.max, IntKind.bits]
    rw [e] at hr
    simp only [Op.unary]
    exact intBits_run (by rw [← bitsF_eq]; exact hr)
  · cases hx; injection ha with ha; subst ha; exact ⟨by simp [Op.unary], .bool _⟩
  · cases ha

theorem mm2_run {mx : Bool} {x y x' y' v : Value} {n : Nat} (hx : VR n σ x x') (hy : VR n σ y y') (ha : mm2 mx x y = some v) : ((if mx then Builtin.max2 x' y' else Builtin.min2 x' y')).run P w = .ok v w ∧ VR n σ v v := by
  unfold mm2 at ha
  split at ha
  · cases hx; cases hy; injection ha with ha; subst ha
    cases mx
    · exact ⟨by simp [Builtin.min2], .int _ _⟩
    · exact ⟨by simp [Builtin.max2], .int _ _⟩
  · cases ha
theorem mmL_run {mx : Bool} {n : Nat} : ∀ (l l' : List Value) (x x' v : Value), VR n σ x x' → VRL n σ l l' → mmL mx x l = some v → ∃ v', (l'.foldlM (fun a b => if mx then Builtin.max2 a b else Builtin.min2 a b) x').run P w = .ok v' w ∧ VR n σ v v'
  | [], l', x, x', v, hx, hl, ha => by
    rw [hl.nil_inv]
    simp only [mmL, Option.some.injEq] at ha
    subst ha
    exact ⟨x', by simp, hx⟩
  | y :: l, r, x, x', v, hx, hl, ha => by
    obtain ⟨y', l', rfl, h1, h2⟩ := hl.cons_inv
    simp only [mmL] at ha
    split at ha
    · rename_i z hz
      obtain ⟨r1, r2⟩ := mm2_run (P := P) (w := w) hx h1 hz
      obtain ⟨v', r3, r4⟩ := mmL_run l l' z z v r2 h2 ha
      exact ⟨v', by simp only [List.foldlM_cons, Sem.run_bind, r1, Result.andThen_ok, r3], r4⟩
    · cases ha
end
end
end Go.AM
