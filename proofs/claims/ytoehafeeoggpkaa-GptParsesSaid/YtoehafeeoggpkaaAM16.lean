import Derived.Test.YtoehafeeoggpkaaAM15
set_option linter.unusedVariables false
set_option linter.unusedSimpArgs false
/-! Part 16: the executor, and what the IR is compiled to. -/
namespace Go.AM
noncomputable section
open Go.RowKit

def aeval (T : Tr Value) : Operand → Value
  | .tmp t => (T.get t).getD undef
  | .const v => v
  | .global _ => undef
  | .func f => .func (.func f) #[] #[]

inductive RK where
  | plain (ao : AOp)
  | call (f : FuncId) (args : List Operand)
  | callv (f : Operand) (args : List Operand)
  | invoke (r : Operand) (mt : List (TypeId × FuncId)) (args : List Operand)
  | nilM (mt : List (TypeId × FuncId)) (name : String) (x : Operand)   -- a method value's nil check
  deriving Inhabited
structure ROp where
  dst : Option Nat
  guard : Option (Nat × Bool)
  op : RK
  deriving Inhabited

abbrev CallT := FuncId → List Value → AHeap → Option (Value × AHeap)
/-- What a call of a loop's yield comes to. -/
abbrev RoundT := Nat → List Value → AHeap → Option (Value × AHeap)
def noRound : RoundT := fun _ _ _ => none

def findT : List (TypeId × FuncId) → TypeId → Option FuncId
  | [], _ => none
  | (t, f) :: r, u => if t = u then some f else findT r u

def doOp (pk : Bool) (call : CallT) (rnd : RoundT) (o : RK) (ρ : Operand → Value) (h : AHeap) : Option (Value × AHeap) :=
  match o with
  | .plain ao => aop pk ao ρ h
  | .call f args => call f (args.map ρ) h
  | .callv f args => match ρ f with
    | .func (.func g) a b => call g (a.toList ++ args.map ρ ++ b.toList) h
    | .func (.yield m) _ _ => rnd m (args.map ρ) h
    | _ => none
  | .invoke r mt args => match ρ r with
    | .iface t v => match findT mt t with
      | some f => call f (v :: args.map ρ) h
      | none => none
    | _ => none
  | .nilM mt name x => match ρ x with
    | .func (.method nm) a b => if nm = name then (match (a[0]? : Option Value) with
      | some (.iface t v) => match findT mt t with
        | some _ => some (.func (.method nm) a b, h)
        | none => none
      | _ => none) else none
    | _ => none

def putT (T : Tr Value) (dst : Option Nat) (v : Value) : Tr Value :=
  match dst with
  | some d => T.set d v
  | none => T
def guardOn (T : Tr Value) (g : Option (Nat × Bool)) : Option Bool :=
  match g with
  | none => some true
  | some (t, b) => match T.get t with
    | some (.bool c) => some (c == b)
    | some (.tuple a) => if a.size = 0 then some false else none
    | _ => none

/-- Operations one behind the other. -/
def aSeq (pk : Bool) (call : CallT) (rnd : RoundT) : List ROp → Tr Value → AHeap → Option (Tr Value × AHeap)
  | [], T, h => some (T, h)
  | o :: r, T, h => match guardOn T o.guard with
    | some true => match doOp pk call rnd o.op (aeval T) h with
      | some (v, h') => aSeq pk call rnd r (putT T o.dst v) h'
      | none => none
    | some false => aSeq pk call rnd r (putT T o.dst undef) h
    | none => none

/-! ### a region whose order is open -/
inductive Cls where
  | pure | read | fresh | chain
  deriving Inhabited, DecidableEq
structure DOp where
  idx : Nat
  cls : Cls
  /-- of a fresh one: which of the numbers that are kept -/
  slot : Nat
  o : ROp
  /-- of a chain's: which reads must be as they were, behind it; which of the numbers are still kept -/
  re : List Nat
  pend : List Nat
  deriving Inhabited

mutual
def beqV : Nat → Value → Value → Bool
  | _, .bool a, .bool b => a == b
  | _, .int j a, .int k b => decide (j = k) && decide (a = b)
  | _, .string a, .string b => decide (a.data.toList = b.data.toList)
  | _, .pointer a, .pointer b => decide (a = b)
  | _, .slice a l c, .slice b m d => decide (a = b) && decide (l = m) && decide (c = d)
  | _, .map a, .map b => decide (a = b)
  | _, .nilFunc, .nilFunc => true
  | _, .nilIface, .nilIface => true
  | n + 1, .iface t v, .iface u x => decide (t = u) && beqV n v x
  | n + 1, .agg a, .agg b => beqL n a.toList b.toList
  | n + 1, .tuple a, .tuple b => beqL n a.toList b.toList
  | _, _, _ => false
def beqL : Nat → List Value → List Value → Bool
  | _, [], [] => true
  | n + 1, a :: r, b :: s => beqV n a b && beqL n r s
  | _, _, _ => false
end

structure DState where
  T : Tr Value
  /-- behind the last of the chain -/
  C : AHeap
  /-- with what is fresh since -/
  cur : AHeap
  /-- the reads so far -/
  rd : List (Nat × AOp × Tr Value × Value)

def recheck (pk : Bool) (h : AHeap) (js : List Nat) : List (Nat × AOp × Tr Value × Value) → Bool
  | [] => true
  | (j, ao, T, v) :: r => (if js.contains j then (match aop pk ao (aeval T) h with
      | some (v', _) => beqV 10000 v v'
      | none => false) else true) && recheck pk h js r

/-- s: the first of the numbers that are kept. -/
def dStep (pk : Bool) (call : CallT) (rnd : RoundT) (s : Nat) (d : DOp) (st : DState) : Option DState :=
  match guardOn st.T d.o.guard with
  | none => none
  | some false => some { st with T := putT st.T d.o.dst undef }
  | some true =>
    match d.cls, d.o.op with
    | .pure, .plain ao => match aop pk ao (aeval st.T) st.C with
      | some (v, _) => some { st with T := putT st.T d.o.dst v }
      | none => none
    | .read, .plain ao => match aop pk ao (aeval st.T) st.C with
      | some (v, _) => some { st with T := putT st.T d.o.dst v, rd := (d.idx, ao, st.T, v) :: st.rd }
      | none => none
    | .fresh, .plain ao => match aop pk ao (aeval st.T) ⟨s + d.slot, .leaf⟩ with
      | some (v, h') => if (st.cur.get (s + d.slot)).live then none else some { st with T := putT st.T d.o.dst v, cur := st.cur.set (s + d.slot) (h'.get (s + d.slot)) }
      | none => none
    | .chain, op => match doOp pk call rnd op (aeval st.T) st.cur with
      | some (v, h') => if recheck pk h' d.re st.rd && d.pend.all (fun k => !(h'.get (s + k)).live) then some { st with T := putT st.T d.o.dst v, C := h', cur := h' } else none
      | none => none
    | _, _ => none
def dRun (pk : Bool) (call : CallT) (rnd : RoundT) (s : Nat) : List DOp → DState → Option DState
  | [], st => some st
  | d :: r, st => match dStep pk call rnd s d st with
    | some st' => dRun pk call rnd s r st'
    | none => none
def aDraw (pk : Bool) (call : CallT) (rnd : RoundT) (k : Nat) (ds : List DOp) (T : Tr Value) (h : AHeap) : Option (Tr Value × AHeap) :=
  let h0 : AHeap := { h with next := h.next + k }
  match dRun pk call rnd h.next ds ⟨T, h0, h0, []⟩ with
  | some st => some (st.T, st.cur)
  | none => none

/-! ### code -/
inductive ACode where
  | skip
  | seq (ops : List ROp)
  | draw (k : Nat) (ds : List DOp)
  | both (a b : ACode)
  | cond (c : Operand) (a b : ACode)
  | block (id : Nat) (b : ACode)
  | loop (b : ACode)
  | exit (id : Nat)
  | ret
  /-- a range over a function: its value, the loop's variables, the assignments to them, the body -/
  | rangeF (it : Operand) (ps : List Nat) (as bd : ACode)
  deriving Inhabited
inductive AExit where
  | normal
  | exit (id : Nat)
  | ret
  deriving Inhabited, DecidableEq

abbrev Res := Option (AExit × Tr Value × AHeap)
def iter (f : Tr Value → AHeap → Res) : Nat → Tr Value → AHeap → Res
  | 0, _, _ => none
  | n + 1, T, h => match f T h with
    | some (.normal, T', h') => iter f n T' h'
    | r => r
/-- Parameters are laid into temporaries. -/
def putAll : List Nat → List Value → Tr Value → Tr Value
  | p :: ps, v :: vs, T => putAll ps vs (T.set p v)
  | _, _, T => T
/-- One round: the assignments; the body; what yield hands back. -/
def aRound (m : Nat) (ps : List Nat) (fa fb : Tr Value → AHeap → Res) (T : Tr Value) (rnd : RoundT) : RoundT := fun m' args h =>
  if m' = m then
    (match h.get m with
    | .loop .ready => if args.length = ps.length then
      match fa (putAll ps args T) h with
      | some (.normal, T1, h1) => match h1.get m with
        | .loop .ready => match fb T1 (h1.set m (.loop .busy)) with
          | some (e, _, h2) => match h2.get m, e with
            | .loop .busy, .normal => some (.bool true, h2.set m (.loop .ready))
            | .loop .busy, .ret => some (.bool false, h2.set m (.loop .ret))
            | .loop .busy, .exit id => some (.bool false, h2.set m (.loop (.exit id)))
            | _, _ => none
          | none => none
        | _ => none
      | _ => none
      else none
    | _ => none)
  else rnd m' args h
/-- L: so many rounds of a loop. -/
def exec (pk : Bool) (call : CallT) (callR : RoundT → CallT) (rnd : RoundT) (L : Nat) : ACode → Tr Value → AHeap → Res
  | .skip, T, h => some (.normal, T, h)
  | .seq ops, T, h => match aSeq pk call rnd ops T h with
    | some (T', h') => some (.normal, T', h')
    | none => none
  | .draw k ds, T, h => match aDraw pk call rnd k ds T h with
    | some (T', h') => some (.normal, T', h')
    | none => none
  | .both a b, T, h => match exec pk call callR rnd L a T h with
    | some (.normal, T', h') => exec pk call callR rnd L b T' h'
    | r => r
  | .cond c a b, T, h => match aeval T c with
    | .bool true => exec pk call callR rnd L a T h
    | .bool false => exec pk call callR rnd L b T h
    | _ => none
  | .block id b, T, h => match exec pk call callR rnd L b T h with
    | some (.exit i, T', h') => if i = id then some (.normal, T', h') else some (.exit i, T', h')
    | r => r
  | .loop b, T, h => iter (exec pk call callR rnd L b) L T h
  | .exit id, T, h => some (.exit id, T, h)
  | .ret, T, h => some (.ret, T, h)
  | .rangeF it ps as bd, T, h => match aeval T it with
    | .func (.func f) a b =>
      match callR (aRound h.next ps (exec pk call callR rnd L as) (exec pk call callR rnd L bd) T rnd) f (a.toList ++ .func (.yield h.next) #[] #[] :: b.toList) (h.new (.loop .ready)) with
      | some (_, h1) => match h1.get h.next with
        | .loop .ready => some (.normal, T, h1.set h.next .dead)
        | .loop .ret => some (.ret, T, h1.set h.next .dead)
        | .loop (.exit id) => some (.exit id, T, h1.set h.next .dead)
        | _ => none
      | none => none
    | _ => none

inductive ARes where
  | tmp (t : Nat)
  | cell (a : Nat) (n : Option Nat)
  deriving Inhabited
structure AFunc where
  nargs : Nat
  res : List ARes
  code : ACode
  deriving Inhabited
inductive AEntry where
  | code (f : AFunc)
  | prim (g : List Value → AHeap → Option (Value × AHeap))
  deriving Inhabited

def argsT : Nat → List Value → Tr Value → Tr Value
  | _, [], T => T
  | i, v :: r, T => argsT (i + 1) r (T.set i v)
def aRes (T : Tr Value) (h : AHeap) : List ARes → Option (List Value)
  | [] => some []
  | .tmp t :: r => match aRes T h r with
    | some l => some ((T.get t).getD undef :: l)
    | none => none
  | .cell a n :: r => match aLoad n ((T.get a).getD undef) h, aRes T h r with
    | some v, some l => some (v :: l)
    | _, _ => none
def oneOrTup : List Value → Value
  | [v] => v
  | l => .tuple l.toArray
def runF (pk : Bool) (call : CallT) (callR : RoundT → CallT) (rnd : RoundT) (L : Nat) (f : AFunc) (args : List Value) (h : AHeap) : Option (Value × AHeap) :=
  if args.length = f.nargs then
    match exec pk call callR rnd L f.code (argsT 0 args .leaf) h with
    | some (.normal, T, h') | some (.ret, T, h') => match aRes T h' f.res with
      | some l => some (oneOrTup l, h')
      | none => none
    | _ => none
  else none
/-- D: so deep. -/
def callFR (pk : Bool) (tab : FuncId → Option AEntry) (L : Nat) : Nat → RoundT → CallT
  | 0, _, _, _, _ => none
  | d + 1, rnd, f, args, h => match tab f with
    | some (.code af) => runF pk (callFR pk tab L d noRound) (callFR pk tab L d) rnd L af args h
    | some (.prim g) => g args h
    | none => none
def callF (pk : Bool) (tab : FuncId → Option AEntry) (L : Nat) (d : Nat) : CallT := callFR pk tab L d noRound

/-! ### compiling -/
def mtab (P : Program) (name : String) : List (TypeId × FuncId) :=
  (List.range P.types.size).filterMap fun t =>
    match P.info? t with
    | some i => match i.methods.find? (·.name == name) with
      | some m => match m.path.toList, m.func, P.underlying t with
        | [], some (f, true), some (.pointer _) => some (t, f)
        | [], some (_, false), some (.pointer _) => none
        | [], some (f, false), some _ => some (t, f)
        | _, _, _ => none
      | none => none
    | none => none
def callOk (P : Program) (f : FuncId) : Bool :=
  match P.funcs[f]? with
  | some fn => !(fn.name == "runtime.NumGoroutine") && fn.body.isSome
  | none => false
def compRK (P : Program) (op : Op) : Option RK :=
  match op with
  | .call { callee := .value (.func f), args, .. } => if callOk P f && args.toList.all opdOk then some (.call f args.toList) else none
  | .call { callee := .value (.tmp t), args, .. } => if args.toList.all opdOk then some (.callv (.tmp t) args.toList) else none
  | .call { callee := .invoke r name, args, .. } => if opdOk r && args.toList.all opdOk then some (.invoke r (mtab P name) args.toList) else none
  | op => (compOp P op).map .plain
/-- The name of the method whose value is checked. -/
def nilName (ops : Array Oper) (op : Op) : Option String :=
  match op with
  | .nilCheck (.tmp t) => ops.toList.findSome? fun o => if o.dst = some t then (match o.op with
    | .makeFunc (.method n) _ _ => some n
    | _ => none) else none
  | _ => none
def compNil (P : Program) (mn : Option String) (op : Op) : Option RK :=
  match mn, op with
  | some name, .nilCheck x => if opdOk x then some (.nilM (mtab P name) name x) else none
  | _, op => compRK P op
def compR (P : Program) (N : Nat) (ops : Array Oper) (o : Oper) : Option ROp :=
  match compNil P (nilName ops o.op) o.op with
  | none => none
  | some rk =>
    if o.dst.all (· < N) then
      match o.guard with
      | none => some ⟨o.dst, none, rk⟩
      | some (j, b) => match (ops[j]?).bind (·.dst) with
        | some t => if t < N then some ⟨o.dst, some (t, b), rk⟩ else none
        | none => none
    else none

def clsOf : RK → Cls
  | .plain ao => match ao with
    | .mov _ | .pick .. | .build .. | .nilCheck _ | .bin .. | .eqB .. | .eqA .. | .eqN .. | .un .. | .iface .. | .mkfunc .. | .faddr .. | .field .. | .iaddr .. | .index .. | .extract .. | .minmax .. => .pure
    | .conv k _ => match k with
      | .int _ | .same => .pure
      | .b2s => .read
      | .s2b _ => .fresh
      | .mark => .chain
    | .load .. | .lookup .. | .cut .. => .read
    | .len k _ => match k with
      | .map => .read
      | _ => .pure
    | .alloc _ | .box _ | .buildSlice .. | .makeSlice .. | .makeMap => .fresh
    | .store .. | .mapPut .. | .append .. | .copy .. => .chain
  | _ => .chain

/-- Which operations surely come ahead of each. -/
def ancs (ops : Array Oper) : List Nat :=
  ops.toList.foldl (init := []) fun acc o =>
    acc ++ [o.after.toList.foldl (fun s e => if Region.binds .any e then s ||| 2 ^ e.on ||| acc.getD e.on 0 else s) 0]

/-- The canonical order: what only reads or reckons comes early, what is fresh late. em: a mask of those that are out. -/
def ordGo (anc : List Nat) (cls : List Cls) : Nat → (rest : List Nat) → (em : Nat) → List Nat
  | 0, rest, _ => rest
  | f + 1, rest, em =>
    let isPR := fun i => cls.getD i .pure = .pure || cls.getD i .pure = .read
    match rest.find? (fun i => isPR i && (anc.getD i 0 &&& em) == anc.getD i 0) with
    | some i => i :: ordGo anc cls f (rest.filter (· != i)) (em ||| 2 ^ i)
    | none =>
      match rest.find? (fun i => cls.getD i .pure = .chain) with
      | some c =>
        let need := rest.filter fun i => (anc.getD c 0).testBit i
        need ++ c :: ordGo anc cls f (rest.filter fun i => !(anc.getD c 0).testBit i && i != c) (need.foldl (fun m i => m ||| 2 ^ i) (em ||| 2 ^ c))
      | none => rest

def namesO (o : Operand) : List Nat := match o with | .tmp t => [t] | _ => []
end
end Go.AM
