import Derived.Test.YtoehafeeoggpkaaAM16
set_option linter.unusedVariables false
set_option linter.unusedSimpArgs false
/-! Part 17: compiling regions, code, functions. -/
namespace Go.AM
noncomputable section
open Go.RowKit

def compRs (P : Program) (N : Nat) (ops : Array Oper) : List Oper → Option (List ROp)
  | [] => some []
  | o :: r => match compR P N ops o, compRs P N ops r with
    | some a, some b => some (a :: b)
    | _, _ => none

/-- The temporaries that an operation looks at: of its operation, of its guard. -/
def looks (ops : Array Oper) (o : Oper) : List Nat :=
  (o.op.operands.toList.flatMap namesO) ++ (match o.guard with
    | some (g, _) => ((ops[g]?).bind (·.dst)).toList
    | none => [])

/-- Is j's ancestor i? -/
def isAnc (anc : List Nat) (j i : Nat) : Bool := (anc.getD j 0).testBit i
def posOf : List DOp → Nat → Nat
  | [], _ => 0
  | d :: r, i => if d.idx = i then 0 else posOf r i + 1

def pairs {α : Type} (p : α → α → Bool) : List α → Bool
  | [] => true
  | a :: r => r.all (p a) && pairs p r

/-- What must hold of a canonical order. -/
def drawOk (ops : Array Oper) (anc : List Nat) (k : Nat) (ds : List DOp) : Bool :=
  let n := ops.size
  let dst := fun (i : Nat) => ((ops[i]?).bind (·.dst))
  let lk := fun (i : Nat) => looks ops (ops.getD i default)
  decide (ds.length = n) &&
  (List.range n).all (fun i => ds.any fun d => d.idx == i) &&
  ds.all (fun d => decide (d.idx < n) && decide (clsOf d.o.op = d.cls)) &&
  -- the edges, and what follows of them
  (List.range n).all (fun j => (ops.getD j default).after.toList.all fun e => !Region.binds .any e || decide (e.on < j)) &&
  (List.range n).all (fun j => (List.range n).all fun i => !isAnc anc j i || (ops.getD j default).after.toList.any fun e => Region.binds .any e && (e.on == i || isAnc anc e.on i)) &&
  -- the order keeps to them
  pairs (fun a b => !isAnc anc a.idx b.idx && a.idx != b.idx) ds &&
  -- no temporary is written and looked at, or written twice, in an open order
  (List.range n).all (fun j => (List.range n).all fun i => i == j || (match dst i with
    | some t => !((lk j).contains t || dst j == some t) || isAnc anc j i || isAnc anc i j
    | none => true)) &&
  -- (a before b in the order)
  pairs (fun a b =>
    (!(a.cls == .chain && b.cls == .chain) || isAnc anc b.idx a.idx) &&
    (!(a.cls == .fresh && b.cls == .chain) || isAnc anc b.idx a.idx) &&
    (!(a.cls == .chain && b.cls == .read) || isAnc anc b.idx a.idx) &&
    (!(a.cls == .read && b.cls == .chain) || isAnc anc b.idx a.idx || b.re.contains a.idx) &&
    (!(a.cls == .fresh && b.cls == .fresh) || a.slot != b.slot) &&
    (!(a.cls == .chain && b.cls == .fresh) || a.pend.contains b.slot)) ds &&
  ds.all (fun d => !(d.cls == .fresh) || decide (d.slot < k))

def mkDraw (ops : Array Oper) (rs : List ROp) : List Nat × Nat × List DOp :=
  let anc := ancs ops
  let cls := rs.map fun r => clsOf r.op
  let ord := ordGo anc cls (ops.size + 1) (List.range ops.size) 0
  let k := (ord.filter fun i => cls.getD i .pure = .fresh).length
  let step := fun (acc : List DOp × Nat × List Nat) (i : Nat) =>
    let c := cls.getD i .pure
    let re := if c = .chain then acc.2.2.filter (fun j => !isAnc anc i j) else []
    let pend := if c = .chain then (List.range k).filter (fun j => decide (acc.2.1 ≤ j)) else []
    (acc.1 ++ [⟨i, c, if c = .fresh then acc.2.1 else 0, rs.getD i default, re, pend⟩], if c = .fresh then acc.2.1 + 1 else acc.2.1, if c = .read then i :: acc.2.2 else acc.2.2)
  let r := ord.foldl step ([], 0, [])
  (anc, r.2.1, r.1)
def compDraw (P : Program) (N : Nat) (ops : Array Oper) : Option (Nat × List DOp) :=
  match compRs P N ops ops.toList with
  | some rs =>
    let m := mkDraw ops rs
    let ds := m.2.2.map fun d => { d with o := rs.getD d.idx default }
    if drawOk ops m.1 m.2.1 ds then some (m.2.1, ds) else none
  | none => none

/-- A region that only reads and reckons: one operation behind the other. -/
def flatD : List DOp → Bool
  | [] => true
  | d :: r => (match d.o.op with
    | .plain ao => decide (clsOf (.plain ao) = d.cls) && (decide (d.cls = .pure) || decide (d.cls = .read))
    | _ => false) && flatD r
/-- inR: within a round of a range over a function. -/
def compC (P : Program) (N : Nat) : Bool → Code → Option ACode
  | _, .skip => some .skip
  | _, .region _ ops false => (compRs P N ops ops.toList).map .seq
  | _, .region _ ops true => (compDraw P N ops).map fun p => if p.1 = 0 ∧ flatD p.2 = true then .seq (p.2.map (·.o)) else .draw p.1 p.2
  | r, .seq a b => match compC P N r a, compC P N r b with
    | some x, some y => some (.both x y)
    | _, _ => none
  | r, .cond c a b => if opdOk c then (match compC P N r a, compC P N r b with
    | some x, some y => some (.cond c x y)
    | _, _ => none) else none
  | r, .block id b => (compC P N r b).map (.block id)
  | r, .loop b => (compC P N r b).map .loop
  | _, .exit id => some (.exit id)
  | _, .ret => some .ret
  | false, .rangeFunc f ps as bd => if opdOk f && ps.toList.all (· < N) then (match compC P N true as, compC P N true bd with
    | some x, some y => some (.rangeF f ps.toList x y)
    | _, _ => none) else none
  | _, _ => none
def compRes (P : Program) : List ResultVar → Option (List ARes)
  | [] => some []
  | .tmp t :: r => (compRes P r).map (.tmp t :: ·)
  | .cell a t :: r => match cLoad P t, compRes P r with
    | some n, some l => some (.cell a n :: l)
    | _, _ => none
def compF (P : Program) (f : FuncId) : Option AFunc :=
  match P.funcs[f]? with
  | some fn =>
    if fn.params.size + fn.nfree ≤ fn.ntmps then
      match fn.body with
      | some b => match compC P fn.ntmps false b, compRes P fn.results.toList with
        | some c, some r => some ⟨fn.params.size + fn.nfree, r, c⟩
        | _, _ => none
      | none => none
    else none
  | none => none
/-! ### the classes -/
theorem pure_form {pk : Bool} {ao : AOp} {ρ : Operand → Value} {h h' : AHeap} {v : Value} (hc : clsOf (.plain ao) = .pure) (ha : aop pk ao ρ h = some (v, h')) (h2 : AHeap) : aop pk ao ρ h2 = some (v, h2) := by
  cases ao <;> simp only [clsOf, reduceCtorEq] at hc
  case conv k x =>
    cases k <;> simp only [reduceCtorEq] at hc
    · simp only [aop, aConv] at ha ⊢
      split at ha
      · injection ha with ha; simp only [Prod.mk.injEq] at ha; rw [ha.1]
      · cases ha
    · simp only [aop, aConv] at ha ⊢
      split at ha
      · injection ha with ha; simp only [Prod.mk.injEq] at ha; rw [ha.1]
      · cases ha
  case len k x =>
    cases k <;> simp only [reduceCtorEq] at hc <;> simp only [aop, aLen] at ha ⊢ <;> obtain ⟨v0, hv0, e⟩ := obind ha <;> simp only [Prod.mk.injEq] at e <;> obtain ⟨rfl, rfl⟩ := e <;> simp only [hv0, Option.map_some]
  all_goals
    simp only [aop] at ha ⊢
    first
      | (obtain ⟨v0, hv0, e⟩ := obind ha; simp only [Prod.mk.injEq] at e; obtain ⟨rfl, rfl⟩ := e; simp only [hv0, Option.map_some]; done)
      | (injection ha with ha; simp only [Prod.mk.injEq] at ha; rw [ha.1]; done)
      | (split at ha <;> first | (cases ha; done) | (injection ha with ha; simp only [Prod.mk.injEq] at ha; rw [ha.1]; done))
      | skip
  case bin op x y =>
    split at ha
    · split at ha
      · rename_i hs
        obtain ⟨v0, hv0, e⟩ := obind ha; simp only [Prod.mk.injEq] at e; obtain ⟨rfl, rfl⟩ := e; simp only [hv0, Option.map_some, if_pos hs]
      · rename_i hs
        split at ha
        · rename_i hk
          obtain ⟨v0, hv0, e⟩ := obind ha; simp only [Prod.mk.injEq] at e; obtain ⟨rfl, rfl⟩ := e; simp only [hv0, Option.map_some, if_pos hk, if_neg hs]
        · cases ha
    · obtain ⟨v0, hv0, e⟩ := obind ha; simp only [Prod.mk.injEq] at e; obtain ⟨rfl, rfl⟩ := e; simp only [hv0, Option.map_some]
    · cases ha
  case eqA neg l x y =>
    split at ha
    · rename_i hk
      obtain ⟨v0, hv0, e⟩ := obind ha; simp only [Prod.mk.injEq] at e; obtain ⟨rfl, rfl⟩ := e; simp only [hv0, Option.map_some, if_pos hk]
    · cases ha

/-- h2 has all that h has, and perhaps more. -/
def Sub (h h2 : AHeap) : Prop := ∀ m, h.get m = .dead ∨ h2.get m = h.get m
theorem Sub.row {h h2 : AHeap} (hs : Sub h h2) {m : Nat} {ro : Bool} {gr : Nat} {c : Cells} (e : h.get m = .row ro gr c) : h2.get m = .row ro gr c := by
  rcases hs m with h1 | h1
  · rw [e] at h1; cases h1
  · rw [h1, e]
theorem Sub.map {h h2 : AHeap} (hs : Sub h h2) {m : Nat} {es : List MapEntry} {cl : Nat} (e : h.get m = .map es cl) : h2.get m = .map es cl := by
  rcases hs m with h1 | h1
  · rw [e] at h1; cases h1
  · rw [h1, e]

theorem aLoad_mono {n : Option Nat} {a v : Value} {h h2 : AHeap} (hs : Sub h h2) (ha : aLoad n a h = some v) : aLoad n a h2 = some v := by
  unfold aLoad at ha ⊢
  split at ha
  · split at ha
    · rename_i hrow
      simp only [hs.row hrow]
      exact ha
    · cases ha
  · cases ha
theorem aCut_mono {k : CutK} {x v : Value} {lo hi mx : Option Value} {h h2 : AHeap} (hs : Sub h h2) (ha : aCut k x lo hi mx h = some v) : aCut k x lo hi mx h2 = some v := by
  cases k <;> simp only [aCut] at ha ⊢
  · exact ha
  · unfold aCutArr at ha ⊢
    split at ha
    · split at ha
      · rename_i hrow; simp only [hs.row hrow]; exact ha
      · cases ha
    · cases ha
  · unfold aCutSl at ha ⊢
    split at ha
    · exact ha
    · split at ha
      · rename_i hrow; simp only [hs.row hrow]; exact ha
      · cases ha
    · cases ha
theorem aB2s_mono {x v : Value} {h h2 : AHeap} (hs : Sub h h2) (ha : aB2s x h = some v) : aB2s x h2 = some v := by
  unfold aB2s at ha ⊢
  split at ha
  · exact ha
  · split at ha
    · rename_i h0; rw [if_pos h0]; exact ha
    · rename_i h0
      rw [if_neg h0]
      split at ha
      · rename_i hrow; simp only [hs.row hrow]; exact ha
      · cases ha
  · cases ha
theorem aLookup_mono {mk : MapK} {ok : Bool} {x k v : Value} {h h2 : AHeap} (hs : Sub h h2) (ha : aLookup mk ok x k h = some v) : aLookup mk ok x k h2 = some v := by
  unfold aLookup at ha ⊢
  split at ha
  · rename_i hk
    rw [if_pos hk]
    split at ha
    · exact ha
    · split at ha
      · rename_i hm; simp only [hs.map hm]; exact ha
      · cases ha
    · cases ha
  · cases ha
theorem aLen_mono {k : LenK} {x v : Value} {h h2 : AHeap} (hs : Sub h h2) (ha : aLen k x h = some v) : aLen k x h2 = some v := by
  cases k <;> simp only [aLen] at ha ⊢ <;> (first | exact ha | skip)
  split at ha
  · exact ha
  · split at ha
    · rename_i hm; simp only [hs.map hm]; exact ha
    · cases ha
  · cases ha

theorem read_form {pk : Bool} {ao : AOp} {ρ : Operand → Value} {h h' h2 : AHeap} {v : Value} (hc : clsOf (.plain ao) = .read) (hs : Sub h h2) (ha : aop pk ao ρ h = some (v, h')) : aop pk ao ρ h2 = some (v, h2) := by
  cases ao <;> simp only [clsOf, reduceCtorEq] at hc
  case load n a => simp only [aop] at ha ⊢; obtain ⟨v0, hv0, e⟩ := obind ha; simp only [Prod.mk.injEq] at e; obtain ⟨rfl, rfl⟩ := e; simp only [aLoad_mono hs hv0, Option.map_some]
  case cut k x lo hi mx => simp only [aop] at ha ⊢; obtain ⟨v0, hv0, e⟩ := obind ha; simp only [Prod.mk.injEq] at e; obtain ⟨rfl, rfl⟩ := e; simp only [aCut_mono hs hv0, Option.map_some]
  case lookup k ok x i => simp only [aop] at ha ⊢; obtain ⟨v0, hv0, e⟩ := obind ha; simp only [Prod.mk.injEq] at e; obtain ⟨rfl, rfl⟩ := e; simp only [aLookup_mono hs hv0, Option.map_some]
  case len k x => simp only [aop] at ha ⊢; obtain ⟨v0, hv0, e⟩ := obind ha; simp only [Prod.mk.injEq] at e; obtain ⟨rfl, rfl⟩ := e; simp only [aLen_mono hs hv0, Option.map_some]
  case conv k x =>
    cases k <;> simp only [reduceCtorEq] at hc
    simp only [aop, aConv] at ha ⊢
    obtain ⟨v0, hv0, e⟩ := obind ha; simp only [Prod.mk.injEq] at e; obtain ⟨rfl, rfl⟩ := e; simp only [aB2s_mono hs hv0, Option.map_some]


theorem dRun_flat {pk : Bool} {call : CallT} {rnd : RoundT} {s : Nat} : ∀ (ds : List DOp) (T : Tr Value) (h : AHeap) (rd : List (Nat × AOp × Tr Value × Value)) (T' : Tr Value) (h' : AHeap), flatD ds = true → aSeq pk call rnd (ds.map (·.o)) T h = some (T', h') →
    h' = h ∧ ∃ rd', dRun pk call rnd s ds ⟨T, h, h, rd⟩ = some ⟨T', h, h, rd'⟩
  | [], T, h, rd, T', h', hf, ha => by
    simp only [List.map_nil, aSeq, Option.some.injEq, Prod.mk.injEq] at ha
    obtain ⟨rfl, rfl⟩ := ha
    exact ⟨rfl, rd, rfl⟩
  | d :: r, T, h, rd, T', h', hf, ha => by
    simp only [flatD, Bool.and_eq_true] at hf
    obtain ⟨hf1, hf2⟩ := hf
    simp only [List.map_cons, aSeq] at ha
    simp only [dRun, dStep]
    split at hf1
    · rename_i ao hop
      simp only [Bool.and_eq_true, decide_eq_true_eq, Bool.or_eq_true] at hf1
      obtain ⟨hcl, hpr⟩ := hf1
      split at ha
      · rename_i hg
        rw [hg]
        simp only
        rw [hop] at ha ⊢
        simp only [doOp] at ha
        split at ha
        · rename_i v h1 hv
          rcases hpr with hp | hp
          · have h2 := pure_form (hcl.trans hp) hv h
            rw [hv] at h2
            simp only [Option.some.injEq, Prod.mk.injEq, true_and] at h2
            subst h2
            rw [hp]
            simp only [hv]
            exact dRun_flat r _ _ _ T' h' hf2 ha
          · have h2 := read_form (h2 := h) (hcl.trans hp) (fun m => .inr rfl) hv
            rw [hv] at h2
            simp only [Option.some.injEq, Prod.mk.injEq, true_and] at h2
            subst h2
            rw [hp]
            simp only [hv]
            exact dRun_flat r _ _ _ T' h' hf2 ha
        · cases ha
      · rename_i hg
        rw [hg]
        simp only
        exact dRun_flat r _ _ _ T' h' hf2 ha
      · cases ha
    · cases hf1
theorem aDraw_flat {pk : Bool} {call : CallT} {rnd : RoundT} {ds : List DOp} {T T' : Tr Value} {h h' : AHeap} (hf : flatD ds = true) (ha : aSeq pk call rnd (ds.map (·.o)) T h = some (T', h')) : aDraw pk call rnd 0 ds T h = some (T', h') := by
  obtain ⟨rfl, rd', h2⟩ := dRun_flat (s := h.next) ds T h [] T' h' hf ha
  simp only [aDraw]
  have e : ({ h' with next := h'.next + 0 } : AHeap) = h' := rfl
  rw [e, h2]
end
end Go.AM
