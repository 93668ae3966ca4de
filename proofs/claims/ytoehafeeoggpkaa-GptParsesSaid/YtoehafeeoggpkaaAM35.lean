import Derived.Test.YtoehafeeoggpkaaAM34
set_option linter.unusedVariables false
set_option linter.unusedSimpArgs false
/-! Part 35: the quick evaluator, once more: what an operation is, a place is, is found once (the kernel keeps it); numbers by fewer steps. -/
namespace Go.AM
noncomputable section
structure AccV where
  fn : Ev → Value
structure UpdV where
  fn : Ev → Value → Ev
def accT (k : Nat) : AccV := @Bool.rec (fun _ => Nat → AccV) (fun k => ⟨fun E => E.getS k⟩) (fun k => ⟨fun E => (RV1.g (Nat.mod k 16)).fn ((RV2.g (Nat.div k 16)).fn E.x)⟩) (Nat.ble k 255) k
def facc (o : Operand) : AccV := @Operand.rec (fun _ => AccV) (fun t => accT t) (fun v => ⟨fun _ => v⟩) (fun _ => ⟨fun _ => undef⟩) (fun f => ⟨fun _ => .func (.func f) #[] #[]⟩) o
theorem accT_eq (k : Nat) (E : Ev) : (accT k).fn E = E.get k := by
  unfold accT Ev.get
  cases Nat.ble k 255 <;> rfl
theorem facc_eq (o : Operand) (E : Ev) : (facc o).fn E = fval E o := by
  cases o with
  | tmp t => exact accT_eq t E
  | _ => rfl
def updT (k : Nat) : UpdV := @Bool.rec (fun _ => Nat → UpdV) (fun k => ⟨fun E v => E.setS k v⟩) (fun k => ⟨fun E v => ⟨(RV2.p (Nat.div k 16)).fn E.x ((RV1.p (Nat.mod k 16)).fn ((RV2.g (Nat.div k 16)).fn E.x) v), E.y⟩⟩) (Nat.ble k 255) k
def fupd (dst : Option Nat) : UpdV := @Option.rec Nat (fun _ => UpdV) ⟨fun E _ => E⟩ (fun d => updT d) dst
theorem fupd_eq (dst : Option Nat) (E : Ev) (v : Value) : (fupd dst).fn E v = putE E dst v := by
  cases dst with
  | none => rfl
  | some d =>
    show (updT d).fn E v = E.set d v
    unfold updT Ev.set
    cases Nat.ble d 255 <;> rfl

/-! ## numbers -/
def gII (x y : Value) (f : (IntKind → Int → IntKind → Int → R)) (e : R) : R := @Value.rec (fun _ => Value → (IntKind → Int → IntKind → Int → R) → R → R) (fun _ => Unit) (fun _ => Unit) (fun _ _y _f e => e) (fun k a y f e => @Value.rec (fun _ => IntKind → Int → (IntKind → Int → IntKind → Int → R) → R → R) (fun _ => Unit) (fun _ => Unit) (fun _ _k _a _f e => e) (fun k' b k a f _ => f k a k' b) (fun _ _ _k _a _f e => e) (fun _ _ _ _k _a _f e => e) (fun _ _k _a _f e => e) (fun _ _k _a _f e => e) (fun _ _ _ _k _a _f e => e) (fun _ _k _a _f e => e) (fun _ _k _a _f e => e) (fun _ _ _ _ _ _k _a _f e => e) (fun _k _a _f e => e) (fun _ _ _ _k _a _f e => e) (fun _k _a _f e => e) (fun _ _ _k _a _f e => e) (fun _ _ _k _a _f e => e) (fun _ _ => ()) () (fun _ _ _ _ => ()) y k a f e) (fun _ _ _y _f e => e) (fun _ _ _ _y _f e => e) (fun _ _y _f e => e) (fun _ _y _f e => e) (fun _ _ _ _y _f e => e) (fun _ _y _f e => e) (fun _ _y _f e => e) (fun _ _ _ _ _ _y _f e => e) (fun _y _f e => e) (fun _ _ _ _y _f e => e) (fun _y _f e => e) (fun _ _ _y _f e => e) (fun _ _ _y _f e => e) (fun _ _ => ()) () (fun _ _ _ _ => ()) x y f e
def fIIk (g : IntKind → IntKind → Nat → Nat → (Value → R) → R → R) (c : Value → R) (slow : R) (k : IntKind) (a : Int) (k' : IntKind) (b : Int) : R :=
  @Int.rec (fun _ => Int → IntKind → IntKind → (IntKind → IntKind → Nat → Nat → (Value → R) → R → R) → (Value → R) → R → R)
    (fun m b k k' g c slow => @Int.rec (fun _ => Nat → IntKind → IntKind → (IntKind → IntKind → Nat → Nat → (Value → R) → R → R) → (Value → R) → R → R) (fun n m k k' g c slow => g k k' m n c slow) (fun _ _ _ _ _ _ slow => slow) b m k k' g c slow)
    (fun _ _ _ _ _ _ slow => slow) a b k k' g c slow
theorem gII_eq {g : IntKind → IntKind → Nat → Nat → (Value → R) → R → R} {x y : Value} {c : Value → R} {slow : R} (h : ∀ k k' m n, x = .int k (.ofNat m) → y = .int k' (.ofNat n) → g k k' m n c slow = slow) : gII x y (fIIk g c slow) slow = slow := by
  cases x with
  | int k a =>
    cases y with
    | int k' b =>
      cases a with
      | ofNat m =>
        cases b with
        | ofNat n => exact h k k' m n rfl rfl
        | negSucc n => rfl
      | negSucc m => rfl
    | _ => rfl
  | _ => rfl
def capK2 (k k' : IntKind) : Nat := @Bool.rec (fun _ => IntKind → Nat) (fun _ => 0) (fun k => capK k) (Nat.beq (kTag k) (kTag k')) k
theorem capK2_same {k k' : IntKind} {s : Nat} (h : s < capK2 k k') : k = k' ∧ s < capK k := by
  unfold capK2 at h
  cases hb : Nat.beq (kTag k) (kTag k') with
  | false => rw [hb] at h; exact absurd h (Nat.not_lt_zero _)
  | true => rw [hb] at h; exact ⟨kTag_inj (Nat.eq_of_beq_eq_true hb), h⟩
def gOk (b : Bool) (s : Nat) (k : IntKind) (c : Value → R) (slow : R) : R :=
  @Bool.rec (fun _ => Nat → IntKind → (Value → R) → R → R) (fun _ _ _ slow => slow)
    (fun s k c _ => @Nat.rec (fun _ => IntKind → (Value → R) → R) (fun k c => c (.int k (.ofNat Nat.zero))) (fun p _ k c => c (.int k (.ofNat (Nat.succ p)))) s k c) b s k c slow
theorem gOk_eq {b : Bool} {s : Nat} {k : IntKind} {c : Value → R} {slow : R} (h : b = true → c (.int k (.ofNat s)) = slow) : gOk b s k c slow = slow := by
  cases b with
  | false => rfl
  | true => cases s <;> exact h rfl
def gAdd : IntKind → IntKind → Nat → Nat → (Value → R) → R → R := fun k k' m n c slow => gOk (Nat.ble (Nat.succ (Nat.add m n)) (capK2 k k')) (Nat.add m n) k c slow
def gSub : IntKind → IntKind → Nat → Nat → (Value → R) → R → R := fun k k' m n c slow => cond2 (Nat.ble n m) (gOk (Nat.ble (Nat.succ (Nat.sub m n)) (capK2 k k')) (Nat.sub m n) k c slow) slow
def gMul : IntKind → IntKind → Nat → Nat → (Value → R) → R → R := fun k k' m n c slow => gOk (Nat.ble (Nat.succ (Nat.mul m n)) (capK2 k k')) (Nat.mul m n) k c slow
def gCmp (b : Bool) (k k' : IntKind) (c : Value → R) (slow : R) : R :=
  @Bool.rec (fun _ => Bool → (Value → R) → R → R) (fun _ _ slow => slow) (fun b c _ => @Bool.rec (fun _ => (Value → R) → R) (fun c => c (.bool false)) (fun c => c (.bool true)) b c) (Nat.ble 1 (capK2 k k')) b c slow
def gEql : IntKind → IntKind → Nat → Nat → (Value → R) → R → R := fun k k' m n c slow => gCmp (Nat.beq m n) k k' c slow
def gNeq : IntKind → IntKind → Nat → Nat → (Value → R) → R → R := fun k k' m n c slow => gCmp (@Bool.rec (fun _ => Bool) true false (Nat.beq m n)) k k' c slow
def gLss : IntKind → IntKind → Nat → Nat → (Value → R) → R → R := fun k k' m n c slow => gCmp (Nat.ble (Nat.succ m) n) k k' c slow
def gLeq : IntKind → IntKind → Nat → Nat → (Value → R) → R → R := fun k k' m n c slow => gCmp (Nat.ble m n) k k' c slow
def gGtr : IntKind → IntKind → Nat → Nat → (Value → R) → R → R := fun k k' m n c slow => gCmp (Nat.ble (Nat.succ n) m) k k' c slow
def gGeq : IntKind → IntKind → Nat → Nat → (Value → R) → R → R := fun k k' m n c slow => gCmp (Nat.ble n m) k k' c slow
theorem gCmp_eq {b : Bool} {k k' : IntKind} {c : Value → R} {slow : R} (h : k = k' → c (.bool b) = slow) : gCmp b k k' c slow = slow := by
  unfold gCmp
  cases hb : Nat.ble 1 (capK2 k k') with
  | false => rfl
  | true =>
    have := (capK2_same (Nat.le_of_ble_eq_true hb : 0 < capK2 k k')).1
    cases b <;> exact h this
structure BinC where
  fn : Value → Value → (Value → R) → R → R
def binC (op : BinOp) : BinC :=
  @BinOp.rec (fun _ => BinC) ⟨fun x y c slow => gII x y (fIIk gAdd c slow) slow⟩ ⟨fun x y c slow => gII x y (fIIk gSub c slow) slow⟩ ⟨fun x y c slow => gII x y (fIIk gMul c slow) slow⟩
    ⟨fun x y c slow => fBin .quo x y c slow⟩ ⟨fun x y c slow => fBin .rem x y c slow⟩ ⟨fun x y c slow => fBin .and x y c slow⟩ ⟨fun x y c slow => fBin .or x y c slow⟩ ⟨fun x y c slow => fBin .xor x y c slow⟩
    ⟨fun x y c slow => fBin .shl x y c slow⟩ ⟨fun x y c slow => fBin .shr x y c slow⟩ ⟨fun x y c slow => fBin .andNot x y c slow⟩
    ⟨fun x y c slow => gII x y (fIIk gEql c slow) slow⟩ ⟨fun x y c slow => gII x y (fIIk gNeq c slow) slow⟩ ⟨fun x y c slow => gII x y (fIIk gLss c slow) slow⟩
    ⟨fun x y c slow => gII x y (fIIk gLeq c slow) slow⟩ ⟨fun x y c slow => gII x y (fIIk gGtr c slow) slow⟩ ⟨fun x y c slow => gII x y (fIIk gGeq c slow) slow⟩ op
theorem binC_eq (op : BinOp) (x y : Value) (k : Value → AHeap → R) (h : AHeap) : (binC op).fn x y (fun v => k v h) (onR (binV op x y h) k) = onR (binV op x y h) k := by
  have old := fBin_eq op x y k h
  cases op
  case add =>
    refine gII_eq fun kd k' m n hx hy => ?_
    refine gOk_eq fun hb => ?_
    have hb2 := capK2_same (Nat.le_of_ble_eq_true hb)
    obtain ⟨rfl, hs⟩ := hb2
    subst hx hy
    rw [binV_nat rfl]; simp only [aInt, ofN_add, wrapF_small hs, Option.map_some, onR_some]
  case sub =>
    refine gII_eq fun kd k' m n hx hy => ?_
    unfold gSub cond2
    cases e : Nat.ble n m with
    | false => rfl
    | true =>
      refine gOk_eq fun hb => ?_
      obtain ⟨rfl, hs⟩ := capK2_same (Nat.le_of_ble_eq_true hb)
      subst hx hy
      have e1 : (Int.ofNat m - Int.ofNat n) = Int.ofNat (Nat.sub m n) := by
        have := Nat.le_of_ble_eq_true e
        show ((m : Int) - (n : Int)) = ((m - n : Nat) : Int)
        omega
      rw [binV_nat rfl]; simp only [aInt, e1, wrapF_small hs, Option.map_some, onR_some]
  case mul =>
    refine gII_eq fun kd k' m n hx hy => gOk_eq fun hb => ?_
    obtain ⟨rfl, hs⟩ := capK2_same (Nat.le_of_ble_eq_true hb)
    subst hx hy
    have e1 : (Int.ofNat m * Int.ofNat n) = Int.ofNat (Nat.mul m n) := rfl
    rw [binV_nat rfl]; simp only [aInt, e1, wrapF_small hs, Option.map_some, onR_some]
  case eql =>
    refine gII_eq fun kd k' m n hx hy => gCmp_eq fun hk => ?_
    subst hk hx hy
    have e1 : Nat.beq m n = decide (Int.ofNat m = Int.ofNat n) := by rw [Bool.eq_iff_iff, Nat.beq_eq, decide_eq_true_iff]; exact ⟨fun h => by rw [h], fun h => Int.ofNat.inj h⟩
    rw [binV_nat rfl]; simp only [aInt, Option.map_some, onR_some, e1]
  case lss =>
    refine gII_eq fun kd k' m n hx hy => gCmp_eq fun hk => ?_
    subst hk hx hy
    have e1 : Nat.ble (Nat.succ m) n = decide (Int.ofNat m < Int.ofNat n) := by rw [Bool.eq_iff_iff, Nat.ble_eq, decide_eq_true_iff]; show m + 1 ≤ n ↔ (m : Int) < (n : Int); omega
    rw [binV_nat rfl]; simp only [aInt, Option.map_some, onR_some, e1]
  case leq =>
    refine gII_eq fun kd k' m n hx hy => gCmp_eq fun hk => ?_
    subst hk hx hy
    have e1 : Nat.ble m n = decide (Int.ofNat m ≤ Int.ofNat n) := by rw [Bool.eq_iff_iff, Nat.ble_eq, decide_eq_true_iff]; show m ≤ n ↔ (m : Int) ≤ (n : Int); omega
    rw [binV_nat rfl]; simp only [aInt, Option.map_some, onR_some, e1]
  case gtr =>
    refine gII_eq fun kd k' m n hx hy => gCmp_eq fun hk => ?_
    subst hk hx hy
    have e1 : Nat.ble (Nat.succ n) m = decide (Int.ofNat m > Int.ofNat n) := by rw [Bool.eq_iff_iff, Nat.ble_eq, decide_eq_true_iff]; show n + 1 ≤ m ↔ (n : Int) < (m : Int); omega
    rw [binV_nat rfl]; simp only [aInt, Option.map_some, onR_some, e1]
  case geq =>
    refine gII_eq fun kd k' m n hx hy => gCmp_eq fun hk => ?_
    subst hk hx hy
    have e1 : Nat.ble n m = decide (Int.ofNat m ≥ Int.ofNat n) := by rw [Bool.eq_iff_iff, Nat.ble_eq, decide_eq_true_iff]; show n ≤ m ↔ (n : Int) ≤ (m : Int); omega
    rw [binV_nat rfl]; simp only [aInt, Option.map_some, onR_some, e1]
  case neq =>
    refine gII_eq fun kd k' m n hx hy => gCmp_eq fun hk => ?_
    subst hk hx hy
    have e1 : Nat.beq m n = decide (Int.ofNat m = Int.ofNat n) := by
      rw [Bool.eq_iff_iff, Nat.beq_eq, decide_eq_true_iff]; exact ⟨fun h => by rw [h], fun h => Int.ofNat.inj h⟩
    rw [binV_nat rfl]
    simp only [aInt, Option.map_some, onR_some, e1]
    cases decide (Int.ofNat m = Int.ofNat n) <;> rfl
  all_goals exact old

/-! ## appending to rows of values -/
def vSlD (x : Value) (fn : Nat → Nat → R) (fs : Nat → Nat → Nat → Nat → R) (e : R) : R := @Value.rec (fun _ => (Nat → Nat → R) → (Nat → Nat → Nat → Nat → R) → R → R) (fun _ => Unit) (fun _ => Unit) (fun _ fn fs e => e) (fun _ _ fn fs e => e) (fun _ _ fn fs e => e) (fun _ _ _ fn fs e => e) (fun _ fn fs e => e) (fun _ fn fs e => e) (fun a l c fn fs e => @Option.rec Addr (fun _ => Nat → Nat → (Nat → Nat → R) → (Nat → Nat → Nat → Nat → R) → R → R) (fun l c fn fs e => fn l c) (fun a l c fn fs e => plainA (some a) (fun m o => fs m o l c) e) a l c fn fs e) (fun _ fn fs e => e) (fun _ fn fs e => e) (fun _ _ _ _ _ fn fs e => e) (fun fn fs e => e) (fun _ _ _ fn fs e => e) (fun fn fs e => e) (fun _ _ fn fs e => e) (fun _ _ fn fs e => e) (fun _ _ => ()) () (fun _ _ _ _ => ()) x fn fs e
theorem cond2_le {a b : Nat} {t e : R} (h : a ≤ b → t = e) : cond2 (Nat.ble a b) t e = e := by
  unfold cond2
  cases hb : Nat.ble a b with
  | false => rfl
  | true => exact h (Nat.le_of_ble_eq_true hb)
theorem cond2_beq {a b : Nat} {t e : R} (h : a = b → t = e) : cond2 (Nat.beq a b) t e = e := by
  unfold cond2
  cases hb : Nat.beq a b with
  | false => rfl
  | true => exact h (Nat.eq_of_beq_eq_true hb)
def onRowE (ob : AObj) (f : Bool → Nat → Cells → R) (e : R) : R := @AObj.rec (fun _ => (Bool → Nat → Cells → R) → R → R) (fun _ e => e) (fun ro gr c f _ => f ro gr c) (fun _ _ _ e => e) (fun _ _ e => e) ob f e
theorem onRowE_eq {ob : AObj} {f : Bool → Nat → Cells → R} {e : R} (h : ∀ ro gr c, ob = .row ro gr c → f ro gr c = e) : onRowE ob f e = e := by
  cases ob with
  | row ro gr c => exact h ro gr c rfl
  | _ => rfl
theorem onVals_eq {c : Cells} {f : List Value → R} {e : R} (h : ∀ l, c = .vals l → f l = e) : onVals c f e = e := by
  cases c with
  | vals l => exact h l rfl
  | bytes n len => rfl
def fAppNew (es n : Nat) (new : List Value) (h : AHeap) (k : Value → AHeap → R) : R := forceN h.next fun nx => forceL new fun new => forceH (h.new (.row false es (.vals new))) fun h => k (.slice (some ⟨nx, 0, none⟩) n n) h
theorem fAppNew_eq (es n : Nat) (new : List Value) (h : AHeap) (k : Value → AHeap → R) : fAppNew es n new h k = k (.slice (some ⟨h.next, 0, none⟩) n n) (h.new (.row false es (.vals new))) := by simp [fAppNew]
def fAppS2 (es : Nat) (f : List Value → Nat → R) (slow : R) (ox n : Nat) (lx : List Value) : R := cond2 (Nat.ble (Nat.add ox (Nat.mul n es)) (lLen lx)) (f (lTake (Nat.mul n es) (lDrop ox lx)) n) slow
def fAppS1 (es : Nat) (h : AHeap) (f : List Value → Nat → R) (slow : R) (mx ox n _c : Nat) : R := onRowE (h.get mx) (fun _ _ cx => onVals cx (fAppS2 es f slow ox n) slow) slow
def fAppSrc (es : Nat) (x : Value) (h : AHeap) (f : List Value → Nat → R) (slow : R) : R := vSl x (fAppS1 es h f slow) slow
theorem fAppSrc_eq {es : Nat} {x : Value} {h : AHeap} {f : List Value → Nat → R} {slow : R} (hf : ∀ l n, strShape false x = true → aSrc es x h = some (.vals l, n) → f l n = slow) : fAppSrc es x h f slow = slow := by
  unfold fAppSrc
  cases x with
  | slice a n c =>
    rw [vSl_s]
    refine plainA_eq (fun m o ha => ?_) (fun _ => rfl)
    subst ha
    refine onRowE_eq fun ro gr cx hr => onVals_eq fun lx hl => cond2_le fun hb => ?_
    subst hl
    rw [lTake_eq, lDrop_eq]
    refine hf _ _ rfl ?_
    simp only [aSrc, hr]
    rw [lLen_eq] at hb
    rw [if_pos (show o + n * es ≤ (Cells.vals lx).size from hb)]
    rfl
  | _ => rfl
def fAppN (es bytes : Nat) (h : AHeap) (k : Value → AHeap → R) (slow : R) (new : List Value) (n : Nat) (l c : Nat) : R :=
  cond2 (Nat.beq l 0) (cond2 (Nat.beq c 0) (cond2 (Nat.ble 1 n) (cond2 (Nat.ble (Nat.mul n bytes) 140737488355328) (cond2 (Nat.ble n 1099511627776) (cond2 (Nat.ble 1 es) (fAppNew es n new h k) slow) slow) slow) slow) slow) slow
def fAppO (es bytes : Nat) (h : AHeap) (k : Value → AHeap → R) (slow : R) (new : List Value) (n m o len cap : Nat) (ro : Bool) (gr : Nat) (c : Cells) : R :=
  cond2 ro slow (cond2 (Nat.beq gr es) (cond2 (Nat.ble 1 n) (cond2 (Nat.ble len cap) (cond2 (Nat.ble (Nat.mul (Nat.add len n) bytes) 140737488355328) (cond2 (Nat.ble (Nat.add len n) 1099511627776) (cond2 (Nat.ble 1 es)
    (onVals c (fun l => cond2 (Nat.ble (Nat.add o (Nat.mul len es)) (lLen l)) (fAppNew es (Nat.add len n) (lApp (lTake (Nat.mul len es) (lDrop o l)) new) (h.set m .dead) k) slow) slow) slow) slow) slow) slow) slow) slow)
def fApp (es bytes : Nat) (s x : Value) (h : AHeap) (k : Value → AHeap → R) (slow : R) : R :=
  fAppSrc es x h (fun new n => vSlD s (fAppN es bytes h k slow new n) (fun m o len cap => onRowE (h.get m) (fAppO es bytes h k slow new n m o len cap) slow) slow) slow
theorem fApp_eq (kk : ElK) (s x : Value) (h : AHeap) (k : Value → AHeap → R) : fApp kk.es kk.bytes s x h k (onR (if strShape false x = true then aAppend kk s x h else none) k) = onR (if strShape false x = true then aAppend kk s x h else none) k := by
  refine fAppSrc_eq fun new n hsh hsrc => ?_
  rw [if_pos hsh]
  cases s with
  | slice a len cap =>
    cases a with
    | none =>
      show fAppN kk.es kk.bytes h k _ new n len cap = _
      refine cond2_beq fun h1 => cond2_beq fun h2 => cond2_le fun h3 => cond2_le fun h4 => cond2_le fun h5 => cond2_le fun h6 => ?_
      subst h1 h2
      rw [fAppNew_eq]
      simp only [aAppend, hsrc]
      rw [if_neg (by omega), if_pos ⟨h4, h5, h6⟩]
      rfl
    | some a =>
      show plainA (some a) _ _ = _
      refine plainA_eq (fun m o ha => ?_) (fun _ => rfl)
      injection ha with ha
      subst ha
      refine onRowE_eq fun ro gr c hr => ?_
      unfold fAppO
      cases ro with
      | true => rfl
      | false =>
        refine cond2_beq fun h1 => cond2_le fun h2 => cond2_le fun h3 => cond2_le fun h4 => cond2_le fun h5 => cond2_le fun h6 => onVals_eq fun l hl => cond2_le fun h7 => ?_
        subst h1 hl
        rw [lLen_eq] at h7
        rw [fAppNew_eq, lApp_eq, lTake_eq, lDrop_eq]
        simp only [aAppend, hsrc, hr]
        rw [if_pos ⟨h3, h7, h4, h5, h6⟩, if_neg (by omega), if_neg (show ¬ kk.es = 0 by omega), if_pos (by simp)]
        rfl
  | _ => rfl

/-! ## cutting slices -/
def fBnd (o : Option Operand) (E : Ev) (d : Nat) (f : Nat → R) (slow : R) : R := @Option.rec Operand (fun _ => Ev → Nat → (Nat → R) → R → R) (fun E d f slow => f d) (fun x E d f slow => vInt ((facc x).fn E) (fun _ i => intNat i f slow) slow) o E d f slow
theorem fBnd_eq {o : Option Operand} {E : Ev} {d : Nat} {f : Nat → R} {slow : R} (h : ∀ n, (o.map (fval E) = none ∧ n = d) ∨ (∃ k, o.map (fval E) = some (.int k (.ofNat n))) → f n = slow) : fBnd o E d f slow = slow := by
  cases o with
  | none => exact h d (.inl ⟨rfl, rfl⟩)
  | some x =>
    show vInt ((facc x).fn E) _ slow = slow
    rw [facc_eq]
    cases hx : fval E x with
    | int k i =>
      cases i with
      | ofNat n => exact h n (.inr ⟨k, by simp [hx]⟩)
      | negSucc n => rfl
    | _ => rfl
def fCutD (es m o gr len cap : Nat) (h : AHeap) (k : Value → AHeap → R) (slow : R) (t l : Nat) : R :=
  cond2 (Nat.ble l t) (cond2 (Nat.ble t cap) (cond2 (Nat.ble len cap) (cond2 (Nat.ble (Nat.succ l) cap) (cond2 (@Bool.rec (fun _ => Bool) (Nat.beq gr es) true (Nat.beq gr 0))
    (forceN (Nat.add o (Nat.mul l es)) fun o => forceN (Nat.sub t l) fun n => forceN (Nat.sub cap l) fun c => k (.slice (some ⟨m, o, none⟩) n c) h) slow) slow) slow) slow) slow
def fCutSl (es : Nat) (x : Value) (lo hi : Option Operand) (E : Ev) (h : AHeap) (k : Value → AHeap → R) (slow : R) : R :=
  vSl x (fun m o len cap => onRowE (h.get m) (fun _ gr _ => fBnd hi E len (fun t => fBnd lo E 0 (fun l => fCutD es m o gr len cap h k slow t l) slow) slow) slow) slow
theorem cond2_if {b : Bool} {t e : R} (h : b = true → t = e) : cond2 b t e = e := by
  cases b with
  | false => rfl
  | true => exact h rfl
theorem fCutSl_eq (es : Nat) (x : Value) (lo hi : Option Operand) (E : Ev) (h : AHeap) (k : Value → AHeap → R) :
    fCutSl es x lo hi E h k (onR ((aCut (.sl es) x (lo.map (fval E)) (hi.map (fval E)) none h).map fun v => (v, h)) k) = onR ((aCut (.sl es) x (lo.map (fval E)) (hi.map (fval E)) none h).map fun v => (v, h)) k := by
  unfold fCutSl
  cases x with
  | slice a len cap =>
    rw [vSl_s]
    refine plainA_eq (fun m o ha => ?_) (fun _ => rfl)
    subst ha
    refine onRowE_eq fun ro gr c hr => fBnd_eq fun t ht => fBnd_eq fun l hl => ?_
    refine cond2_le fun h1 => cond2_le fun h2 => cond2_le fun h3 => cond2_le fun h4 => cond2_if fun h5 => ?_
    simp only [forceN_eq]
    have hgr : gr = 0 ∨ gr = es := by
      cases hb : Nat.beq gr 0 with
      | true => exact .inl (Nat.eq_of_beq_eq_true hb)
      | false => rw [hb] at h5; exact .inr (Nat.eq_of_beq_eq_true h5)
    have hbd : aBounds len cap (lo.map (fval E)) (hi.map (fval E)) none = some (l, t, cap) := by
      rcases ht with ⟨ht, rfl⟩ | ⟨kt, ht⟩ <;> rcases hl with ⟨hl, rfl⟩ | ⟨kl, hl⟩ <;> rw [ht, hl] <;> simp [aBounds, aBound, h1, h2]
    simp only [aCut, aCutSl, hr, hbd]
    rw [if_pos ⟨h2, h3, hgr⟩, if_neg (by omega)]
    rfl
  | _ => rfl

/-! ## operations -/
structure DoC where
  fn : Bool → Ev → AHeap → (Value → AHeap → R) → R
def slowC (ao : AOp) : DoC := ⟨fun pk E h k => fDo pk ao (fval E) h k⟩
def doC (ao : AOp) : DoC :=
  @AOp.rec (fun _ => DoC)
    (fun x => ⟨fun _ E h k => k ((facc x).fn E) h⟩)
    (fun c a b => ⟨fun _ E h k => vBool ((facc c).fn E) (k ((facc a).fn E) h) (k ((facc b).fn E) h) none⟩)
    (fun zs => slowC (.alloc zs)) (fun x => slowC (.box x)) (fun k ps => slowC (.build k ps)) (fun k n ps => slowC (.buildSlice k n ps))
    (fun n a => @Option.rec Nat (fun _ => Operand → DoC) (fun a => ⟨fun _ E h k => fLoad ((facc a).fn E) h k⟩) (fun n a => slowC (.load (some n) a)) n a)
    (fun sz a x => slowC (.store sz a x)) (fun x => slowC (.nilCheck x))
    (fun op x y => ⟨fun pk E h k => (binC op).fn ((facc x).fn E) ((facc y).fn E) (fun v => k v h) (fSlow pk (.bin op x y) (fval E) h k)⟩)
    (fun n x y => slowC (.eqB n x y)) (fun n l x y => slowC (.eqA n l x y)) (fun n k l x y => slowC (.eqN n k l x y)) (fun op x => slowC (.un op x)) (fun k x => slowC (.conv k x)) (fun t x => slowC (.iface t x))
    (fun f a b => slowC (.mkfunc f a b)) (slowC .makeMap) (fun k l c => slowC (.makeSlice k l c)) (fun ck x l u m => @CutK.rec (fun _ => Operand → Option Operand → Option Operand → Option Operand → DoC) (fun x l u m => slowC (.cut .str x l u m)) (fun n es x l u m => slowC (.cut (.arr n es) x l u m)) (fun es x l u m => @Option.rec Operand (fun _ => Nat → Operand → Option Operand → Option Operand → DoC) (fun es x l u => ⟨fun pk E h k => fCutSl es ((facc x).fn E) l u E h k (fSlow pk (.cut (.sl es) x l u none) (fval E) h k)⟩) (fun m es x l u => slowC (.cut (.sl es) x l u (some m))) m es x l u) ck x l u m)
    (fun off x => ⟨fun _ E h k => fFaddr off ((facc x).fn E) h k⟩)
    (fun n off x => slowC (.field n off x))
    (fun arr es x i => @Option.rec Nat (fun _ => Nat → Operand → Operand → DoC) (fun es x i => ⟨fun pk E h k => fIaddr es ((facc x).fn E) ((facc i).fn E) h k (fSlow pk (.iaddr none es x i) (fval E) h k)⟩) (fun n es x i => slowC (.iaddr (some n) es x i)) arr es x i)
    (fun k x i => slowC (.index k x i)) (fun k ok x i => slowC (.lookup k ok x i)) (fun k m i v => slowC (.mapPut k m i v))
    (fun x i => ⟨fun _ E h k => fExtract i ((facc x).fn E) h k⟩)
    (fun kk st s x => @Bool.rec (fun _ => ElK → Operand → Operand → DoC) (fun kk s x => ⟨fun pk E h k => fApp kk.es kk.bytes ((facc s).fn E) ((facc x).fn E) h k (fSlow pk (.append kk false s x) (fval E) h k)⟩) (fun kk s x => slowC (.append kk true s x)) st kk s x) (fun es d s => slowC (.copy es d s)) (fun k x => slowC (.len k x)) (fun mx x r => slowC (.minmax mx x r)) ao
theorem doC_eq (pk : Bool) (ao : AOp) (E : Ev) (h : AHeap) (k : Value → AHeap → R) : (doC ao).fn pk E h k = fDo pk ao (fval E) h k := by
  cases ao with
  | mov x => show k ((facc x).fn E) h = k (fval E x) h; rw [facc_eq]
  | pick c a b => show vBool ((facc c).fn E) (k ((facc a).fn E) h) (k ((facc b).fn E) h) none = vBool (fval E c) (k (fval E a) h) (k (fval E b) h) none; rw [facc_eq, facc_eq, facc_eq]
  | load n a =>
    cases n with
    | none => show fLoad ((facc a).fn E) h k = fLoad (fval E a) h k; rw [facc_eq]
    | some n => rfl
  | bin op x y =>
    show (binC op).fn ((facc x).fn E) ((facc y).fn E) (fun v => k v h) (fSlow pk (.bin op x y) (fval E) h k) = _
    rw [facc_eq, facc_eq, fSlow_eq, fDo_eq]
    exact binC_eq op (fval E x) (fval E y) k h
  | faddr off x => show fFaddr off ((facc x).fn E) h k = fFaddr off (fval E x) h k; rw [facc_eq]
  | iaddr arr es x i =>
    cases arr with
    | none =>
      show fIaddr es ((facc x).fn E) ((facc i).fn E) h k (fSlow pk (.iaddr none es x i) (fval E) h k) = _
      rw [facc_eq, facc_eq, fSlow_eq, fDo_eq]
      exact fIaddr_eq es (fval E x) (fval E i) h k
    | some n => rfl
  | append kk st s x =>
    cases st with
    | true => rfl
    | false =>
      show fApp kk.es kk.bytes ((facc s).fn E) ((facc x).fn E) h k (fSlow pk (.append kk false s x) (fval E) h k) = _
      rw [facc_eq, facc_eq, fSlow_eq, fDo_eq]
      exact fApp_eq kk (fval E s) (fval E x) h k
  | cut ck x l u m =>
    cases ck with
    | sl es =>
      cases m with
      | none =>
        show fCutSl es ((facc x).fn E) l u E h k (fSlow pk (.cut (.sl es) x l u none) (fval E) h k) = _
        rw [facc_eq, fSlow_eq, fDo_eq]
        exact fCutSl_eq es (fval E x) l u E h k
      | some m => rfl
    | _ => rfl
  | extract x i => show fExtract i ((facc x).fn E) h k = fExtract i (fval E x) h k; rw [facc_eq]
  | _ => rfl
structure OpC where
  fn : Bool → CallT → RoundT → Ev → AHeap → (Value → AHeap → R) → R
def opC (op : RK) : OpC :=
  @RK.rec (fun _ => OpC) (fun ao => ⟨fun pk _ _ E h k => (doC ao).fn pk E h k⟩) (fun f args => ⟨fun _ call _ E h k => onR (call f (lMap (fval E) args) h) k⟩)
    (fun f args => ⟨fun pk call rnd E h k => fOp pk call rnd (.callv f args) E h k⟩) (fun r mt args => ⟨fun pk call rnd E h k => fOp pk call rnd (.invoke r mt args) E h k⟩) (fun mt nm x => ⟨fun pk call rnd E h k => fOp pk call rnd (.nilM mt nm x) E h k⟩) op
theorem opC_eq (pk : Bool) (call : CallT) (rnd : RoundT) (op : RK) (E : Ev) (h : AHeap) (k : Value → AHeap → R) : (opC op).fn pk call rnd E h k = fOp pk call rnd op E h k := by
  cases op with
  | plain ao => exact doC_eq pk ao E h k
  | _ => rfl
structure StepC where
  fn : Bool → CallT → RoundT → (Ev → AHeap → KE → R) → Ev → AHeap → KE → R
def movA (ao : AOp) : Option Operand := @AOp.rec (fun _ => Option Operand) (fun x => some x) (fun _ _ _ => none) (fun _ => none) (fun _ => none) (fun _ _ => none) (fun _ _ _ => none) (fun _ _ => none) (fun _ _ _ => none) (fun _ => none) (fun _ _ _ => none) (fun _ _ _ => none) (fun _ _ _ _ => none) (fun _ _ _ _ _ => none) (fun _ _ => none) (fun _ _ => none) (fun _ _ => none) (fun _ _ _ => none) (none) (fun _ _ _ => none) (fun _ _ _ _ _ => none) (fun _ _ => none) (fun _ _ _ => none) (fun _ _ _ _ => none) (fun _ _ _ => none) (fun _ _ _ _ => none) (fun _ _ _ _ => none) (fun _ _ => none) (fun _ _ _ _ => none) (fun _ _ _ => none) (fun _ _ => none) (fun _ _ _ => none) ao
def movOf (op : RK) : Option Operand := @RK.rec (fun _ => Option Operand) (fun ao => movA ao) (fun _ _ => none) (fun _ _ => none) (fun _ _ _ => none) (fun _ _ _ => none) op
theorem movA_eq {ao : AOp} {x : Operand} (h : movA ao = some x) : ao = .mov x := by
  cases ao <;> first | (cases h; done) | (injection h with h; subst h; rfl)
theorem movOf_eq {op : RK} {x : Operand} (h : movOf op = some x) : op = .plain (.mov x) := by
  cases op with
  | plain ao => rw [movA_eq h]
  | _ => cases h
def stepN (o : ROp) : StepC :=
  @Option.rec Operand (fun _ => ROp → StepC) (fun o => ⟨fun pk call rnd ih E h k => (opC o.op).fn pk call rnd E h fun v h => ih ((fupd o.dst).fn E v) h k⟩)
    (fun x o => ⟨fun _ _ _ ih E h k => ih ((fupd o.dst).fn E ((facc x).fn E)) h k⟩) (movOf o.op) o
theorem stepN_eq (pk : Bool) (call : CallT) (rnd : RoundT) (o : ROp) (ih : Ev → AHeap → KE → R) (E : Ev) (h : AHeap) (k : KE) : (stepN o).fn pk call rnd ih E h k = (opC o.op).fn pk call rnd E h fun v h => ih ((fupd o.dst).fn E v) h k := by
  unfold stepN
  cases hm : movOf o.op with
  | none => rfl
  | some x =>
    rw [movOf_eq hm]
    rfl
def stepC (o : ROp) : StepC :=
  @Option.rec (Nat × Bool) (fun _ => ROp → StepC) (fun o => stepN o)
    (fun _ o => ⟨fun pk call rnd ih E h k => fGuard E o.guard ((opC o.op).fn pk call rnd E h fun v h => ih ((fupd o.dst).fn E v) h k) (ih ((fupd o.dst).fn E undef) h k)⟩) o.guard o
theorem stepC_eq (pk : Bool) (call : CallT) (rnd : RoundT) (o : ROp) (ih : Ev → AHeap → KE → R) (E : Ev) (h : AHeap) (k : KE) : (stepC o).fn pk call rnd ih E h k = fSeq1 pk call rnd o ih E h k := by
  obtain ⟨dst, g, op⟩ := o
  cases g with
  | none =>
    show (stepN ⟨dst, none, op⟩).fn pk call rnd ih E h k = fOp pk call rnd op E h fun v h => ih (putE E dst v) h k
    rw [stepN_eq, opC_eq]; simp only [fupd_eq]
  | some p =>
    show fGuard E (some p) ((opC op).fn pk call rnd E h fun v h => ih ((fupd dst).fn E v) h k) (ih ((fupd dst).fn E undef) h k) = fGuard E (some p) (fOp pk call rnd op E h fun v h => ih (putE E dst v) h k) (ih (putE E dst undef) h k)
    rw [opC_eq]; simp only [fupd_eq]
def qSeq (pk : Bool) (call : CallT) (rnd : RoundT) (ops : List ROp) : Ev → AHeap → KE → R :=
  @List.rec ROp (fun _ => Ev → AHeap → KE → R) (fun E h k => k E h) (fun o _ ih E h k => (stepC o).fn pk call rnd ih E h k) ops
theorem qSeq_eq (pk : Bool) (call : CallT) (rnd : RoundT) : ∀ (ops : List ROp) (E : Ev) (h : AHeap) (k : KE), qSeq pk call rnd ops E h k = fSeq pk call rnd ops E h k
  | [], E, h, k => rfl
  | o :: ops, E, h, k => by
    show (stepC o).fn pk call rnd (qSeq pk call rnd ops) E h k = fSeq1 pk call rnd o (fSeq pk call rnd ops) E h k
    rw [stepC_eq, show qSeq pk call rnd ops = fSeq pk call rnd ops from funext fun E => funext fun h => funext fun k => qSeq_eq pk call rnd ops E h k]
/-! ## regions whose order is open -/
structure DrC where
  fn : Bool → CallT → RoundT → Nat → Ev → AHeap → AHeap → RdF → KD → R
def noneC : DrC := ⟨fun _ _ _ _ _ _ _ _ _ => none⟩
def mainC (d : DOp) : DrC :=
  @Cls.rec (fun _ => DOp → DrC)
    (fun d => @RK.rec (fun _ => DOp → DrC) (fun ao d => ⟨fun pk _ _ _ E C cur rd k => (doC ao).fn pk E C fun v _ => k ((fupd d.o.dst).fn E v) C cur rd⟩) (fun _ _ _ => noneC) (fun _ _ _ => noneC) (fun _ _ _ _ => noneC) (fun _ _ _ _ => noneC) d.o.op d)
    (fun d => @RK.rec (fun _ => DOp → DrC) (fun ao d => ⟨fun pk _ _ _ E C cur rd k => (doC ao).fn pk E C fun v _ => k ((fupd d.o.dst).fn E v) C cur ((d.idx, ao, fval E, v) :: rd)⟩) (fun _ _ _ => noneC) (fun _ _ _ => noneC) (fun _ _ _ _ => noneC) (fun _ _ _ _ => noneC) d.o.op d)
    (fun d => ⟨fun pk _ _ s E C cur rd k => forceN (Nat.add s d.slot) fun b => fFresh b pk d.o.dst E C cur rd k d.o.op⟩)
    (fun d => ⟨fun pk call rnd s E C cur rd k => (opC d.o.op).fn pk call rnd E cur fun v h' => fCheck pk h' d.re rd (cond2 (fPend s h' d.pend) (k ((fupd d.o.dst).fn E v) h' h' rd) none)⟩) d.cls d
theorem mainC_eq (pk : Bool) (call : CallT) (rnd : RoundT) (s : Nat) (d : DOp) (E : Ev) (C cur : AHeap) (rd : RdF) (k : KD) : (mainC d).fn pk call rnd s E C cur rd k =
    (@Cls.rec (fun _ => R → R → R → R → R) (fun a b c d => a) (fun a b c d => b) (fun a b c d => c) (fun a b c d => d) d.cls
      (fPure pk d.o.dst E C cur rd k d.o.op) (fRead d.idx pk d.o.dst E C cur rd k d.o.op) (forceN (Nat.add s d.slot) fun b => fFresh b pk d.o.dst E C cur rd k d.o.op) (fChain s d.re d.pend pk call rnd d.o.dst E cur rd k d.o.op)) := by
  obtain ⟨idx, cls, slot, ⟨dst, g, op⟩, re, pend⟩ := d
  cases cls with
  | pure =>
    cases op with
    | plain ao =>
      show (doC ao).fn pk E C (fun v _ => k ((fupd dst).fn E v) C cur rd) = fDo pk ao (fval E) C fun v _ => k (putE E dst v) C cur rd
      rw [doC_eq]; simp only [fupd_eq]
    | _ => rfl
  | read =>
    cases op with
    | plain ao =>
      show (doC ao).fn pk E C (fun v _ => k ((fupd dst).fn E v) C cur ((idx, ao, fval E, v) :: rd)) = fDo pk ao (fval E) C fun v _ => k (putE E dst v) C cur ((idx, ao, fval E, v) :: rd)
      rw [doC_eq]; simp only [fupd_eq]
    | _ => rfl
  | fresh => rfl
  | chain =>
    show (opC op).fn pk call rnd E cur (fun v h' => fCheck pk h' re rd (cond2 (fPend s h' pend) (k ((fupd dst).fn E v) h' h' rd) none)) = fOp pk call rnd op E cur fun v h' => fCheck pk h' re rd (cond2 (fPend s h' pend) (k (putE E dst v) h' h' rd) none)
    rw [opC_eq]; simp only [fupd_eq]
def drawC (d : DOp) : DrC :=
  @Option.rec (Nat × Bool) (fun _ => DOp → DrC) (fun d => mainC d)
    (fun _ d => ⟨fun pk call rnd s E C cur rd k => fGuard E d.o.guard ((mainC d).fn pk call rnd s E C cur rd k) (k ((fupd d.o.dst).fn E undef) C cur rd)⟩) d.o.guard d
theorem drawC_eq (pk : Bool) (call : CallT) (rnd : RoundT) (s : Nat) (d : DOp) (E : Ev) (C cur : AHeap) (rd : RdF) (k : KD) : (drawC d).fn pk call rnd s E C cur rd k = fStep pk call rnd s d E C cur rd k := by
  have hm := mainC_eq pk call rnd s d E C cur rd k
  obtain ⟨idx, cls, slot, ⟨dst, g, op⟩, re, pend⟩ := d
  cases g with
  | none => exact hm
  | some p =>
    show fGuard E (some p) ((mainC ⟨idx, cls, slot, ⟨dst, some p, op⟩, re, pend⟩).fn pk call rnd s E C cur rd k) (k ((fupd dst).fn E undef) C cur rd) = _
    rw [hm, fupd_eq]; rfl
def qRun (pk : Bool) (call : CallT) (rnd : RoundT) (s : Nat) (ds : List DOp) : Ev → AHeap → AHeap → RdF → KE → R :=
  @List.rec DOp (fun _ => Ev → AHeap → AHeap → RdF → KE → R) (fun E _ cur _ k => k E cur) (fun d _ ih E C cur rd k => (drawC d).fn pk call rnd s E C cur rd fun E C cur rd => ih E C cur rd k) ds
theorem qRun_eq (pk : Bool) (call : CallT) (rnd : RoundT) (s : Nat) : ∀ (ds : List DOp), qRun pk call rnd s ds = fRun pk call rnd s ds
  | [] => rfl
  | d :: ds => by
    have ih := qRun_eq pk call rnd s ds
    funext E C cur rd k
    show (drawC d).fn pk call rnd s E C cur rd (fun E C cur rd => qRun pk call rnd s ds E C cur rd k) = fStep pk call rnd s d E C cur rd fun E C cur rd => fRun pk call rnd s ds E C cur rd k
    rw [drawC_eq, ih]
def qDraw (pk : Bool) (call : CallT) (rnd : RoundT) (s : Nat) (ds : List DOp) (E : Ev) (h : AHeap) (k : KE) : R :=
  @AHeap.rec (fun _ => R) (fun n t => forceN (Nat.add n s) fun n' => qRun pk call rnd n ds E ⟨n', t⟩ ⟨n', t⟩ [] k) h
theorem qDraw_eq (pk : Bool) (call : CallT) (rnd : RoundT) (s : Nat) (ds : List DOp) (E : Ev) (h : AHeap) (k : KE) : qDraw pk call rnd s ds E h k = fDraw pk call rnd s ds E h k := by
  obtain ⟨n, t⟩ := h
  simp only [qDraw, fDraw, qRun_eq]
def qCode (pk : Bool) (call : CallT) (callR : RoundT → CallT) (rnd : RoundT) (L : Nat) (c : ACode) : XK :=
  @ACode.rec (fun _ => CX)
    (fun pk call callR rnd L E h n x r => n E h)
    (fun ops pk call callR rnd L E h n x r => qSeq pk call rnd ops E h n)
    (fun s ds pk call callR rnd L E h n x r => qDraw pk call rnd s ds E h n)
    (fun a b ia ib pk call callR rnd L E h n x r => ia pk call callR rnd L E h (fun E h => ib pk call callR rnd L E h n x r) x r)
    (fun c a b ia ib pk call callR rnd L E h n x r => vBool ((facc c).fn E) (ia pk call callR rnd L E h n x r) (ib pk call callR rnd L E h n x r) none)
    (fun id b ib pk call callR rnd L E h n x r => ib pk call callR rnd L E h n (fBlk x n id) r)
    (fun b ib pk call callR rnd L E h n x r => fLoop (ib pk call callR rnd L) x r L E h)
    (fun id pk call callR rnd L E h n x r => x id E h)
    (fun pk call callR rnd L E h n x r => r E h)
    (fun it ps as bd ia ib pk call callR rnd L E h n x r => fRange it ps (ia pk call callR rnd L) (ib pk call callR rnd L) callR rnd E h n x r) c pk call callR rnd L
theorem qCode_eq (pk : Bool) (call : CallT) (callR : RoundT → CallT) (rnd : RoundT) (L : Nat) (c : ACode) : qCode pk call callR rnd L c = fCode pk call callR rnd L c := by
  induction c with
  | seq ops => funext E h n x r; exact qSeq_eq pk call rnd ops E h n
  | draw s ds => funext E h n x r; exact qDraw_eq pk call rnd s ds E h n
  | both a b iha ihb =>
    funext E h n x r
    show qCode pk call callR rnd L a E h (fun E h => qCode pk call callR rnd L b E h n x r) x r = fCode pk call callR rnd L a E h (fun E h => fCode pk call callR rnd L b E h n x r) x r
    rw [iha, ihb]
  | cond c a b iha ihb =>
    funext E h n x r
    show vBool ((facc c).fn E) (qCode pk call callR rnd L a E h n x r) (qCode pk call callR rnd L b E h n x r) none = vBool (fval E c) (fCode pk call callR rnd L a E h n x r) (fCode pk call callR rnd L b E h n x r) none
    rw [iha, ihb, facc_eq]
  | block id b ihb =>
    funext E h n x r
    show qCode pk call callR rnd L b E h n (fBlk x n id) r = fCode pk call callR rnd L b E h n (fBlk x n id) r
    rw [ihb]
  | loop b ihb =>
    funext E h n x r
    show fLoop (qCode pk call callR rnd L b) x r L E h = fLoop (fCode pk call callR rnd L b) x r L E h
    rw [ihb]
  | rangeF it ps as bd iha ihb =>
    funext E h n x r
    show fRange it ps (qCode pk call callR rnd L as) (qCode pk call callR rnd L bd) callR rnd E h n x r = fRange it ps (fCode pk call callR rnd L as) (fCode pk call callR rnd L bd) callR rnd E h n x r
    rw [iha, ihb]
  | _ => rfl
def qCallR (pk : Bool) (tab : FuncId → Option AEntry) (L D : Nat) : RoundT → CallT :=
  @Nat.rec (fun _ => RoundT → CallT) (fun _ _ _ _ => none) (fun _ ih rnd f args h => @Option.rec AEntry (fun _ => R) none (fun e => @AEntry.rec (fun _ => R)
    (fun af => @AFunc.rec (fun _ => R) (fun na res code => @Bool.rec (fun _ => R) none
      (qCode pk (ih noRound) ih rnd L code (fArgs args 0 .zero) h (fun E h => fRes E h res fun l => fFin l h) (fun _ _ _ => none) (fun E h => fRes E h res fun l => fFin l h)) (Nat.beq args.length na)) af)
    (fun g => g args h) e) (tab f)) D
theorem qCallR_eq (pk : Bool) (tab : FuncId → Option AEntry) (L : Nat) : ∀ D, qCallR pk tab L D = fCallR pk tab L D
  | 0 => rfl
  | D + 1 => by
    have ih := qCallR_eq pk tab L D
    funext rnd f args h
    show @Option.rec AEntry (fun _ => R) none (fun e => @AEntry.rec (fun _ => R)
      (fun af => @AFunc.rec (fun _ => R) (fun na res code => @Bool.rec (fun _ => R) none
        (qCode pk (qCallR pk tab L D noRound) (qCallR pk tab L D) rnd L code (fArgs args 0 .zero) h (fun E h => fRes E h res fun l => fFin l h) (fun _ _ _ => none) (fun E h => fRes E h res fun l => fFin l h)) (Nat.beq args.length na)) af)
      (fun g => g args h) e) (tab f) = _
    rw [ih]
    simp only [qCode_eq]
    rfl
/-- A closed run that the kernel has made, still more quickly. -/
theorem quick2 {tab : FuncId → Option AEntry} {L D : Nat} {f : FuncId} {b : Bool} (hr : fAns (qCallR true tab L D noRound f [] AHeap.empty) = some b) : ansB (callF true tab L D f [] AHeap.empty) = some b := by
  rw [qCallR_eq] at hr
  exact quick hr
end
end Go.AM
