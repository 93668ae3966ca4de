import Derived.Test.YtoehafeeoggpkaaAM33
set_option linter.unusedVariables false
set_option linter.unusedSimpArgs false
/-! Part 34: code, quickly; what it says of the executor. -/
namespace Go.AM
noncomputable section

theorem fDo_spec {pk : Bool} {ao : AOp} {ρ : Operand → Value} {h : AHeap} {k : Value → AHeap → R} {r : Value × AHeap} (hh : fDo pk ao ρ h k = some r) :
    ∃ v h', aop pk ao ρ h = some (v, h') ∧ k v h' = some r := by
  rw [fDo_eq] at hh; exact onR_spec hh

def lMap (ρ : Operand → Value) (l : List Operand) : List Value := @List.rec Operand (fun _ => List Value) [] (fun a _ ih => ρ a :: ih) l
theorem lMap_eq (ρ : Operand → Value) : ∀ l : List Operand, lMap ρ l = l.map ρ
  | [] => rfl
  | a :: l => congrArg (ρ a :: ·) (lMap_eq ρ l)
abbrev OT := Bool → CallT → RoundT → Ev → AHeap → (Value → AHeap → R) → R
def fOp (pk : Bool) (call : CallT) (rnd : RoundT) (op : RK) (E : Ev) (h : AHeap) (k : Value → AHeap → R) : R :=
  @RK.rec (fun _ => OT) (fun ao pk call rnd E h k => fDo pk ao (fval E) h k) (fun f args pk call rnd E h k => onR (call f (lMap (fval E) args) h) k)
    (fun f args pk call rnd E h k => onR (doOp pk call rnd (.callv f args) (fval E) h) k) (fun r mt args pk call rnd E h k => onR (doOp pk call rnd (.invoke r mt args) (fval E) h) k) (fun mt nm x pk call rnd E h k => onR (doOp pk call rnd (.nilM mt nm x) (fval E) h) k) op pk call rnd E h k

abbrev CT := FuncId → List Value → AHeap → Option (Value × AHeap)
def LeC (c c' : CT) : Prop := ∀ f a h r, c f a h = some r → c' f a h = some r
theorem doOp_mono {pk : Bool} {call call' : CallT} {rnd rnd' : RoundT} (hc : LeC call call') (hr : LeC rnd rnd') {op : RK} {ρ : Operand → Value} {h : AHeap} {r : Value × AHeap} (hh : doOp pk call rnd op ρ h = some r) :
    doOp pk call' rnd' op ρ h = some r := by
  cases op with
  | plain ao => exact hh
  | call f args => exact hc _ _ _ _ hh
  | callv f args =>
    simp only [doOp] at hh ⊢
    split at hh
    · exact hc _ _ _ _ hh
    · exact hr _ _ _ _ hh
    · cases hh
  | invoke r mt args =>
    simp only [doOp] at hh ⊢
    split at hh
    · split at hh
      · rename_i h1; exact hc _ _ _ _ hh
      · cases hh
    · cases hh
  | nilM mt nm x => exact hh
theorem fOp_spec {pk : Bool} {call call' : CallT} {rnd rnd' : RoundT} (hc : LeC call call') (hr : LeC rnd rnd') {op : RK} {E : Ev} {T : Tr Value} (hs : SimE E T) {h : AHeap} {k : Value → AHeap → R} {r : Value × AHeap}
    (hh : fOp pk call rnd op E h k = some r) : ∃ v h', doOp pk call' rnd' op (aeval T) h = some (v, h') ∧ k v h' = some r := by
  rw [← hs.val]
  cases op with
  | plain ao => exact fDo_spec hh
  | call f args =>
    obtain ⟨v, h', h1, h2⟩ := onR_spec hh
    rw [lMap_eq] at h1
    exact ⟨v, h', hc _ _ _ _ h1, h2⟩
  | callv f args =>
    obtain ⟨v, h', h1, h2⟩ := onR_spec hh
    exact ⟨v, h', doOp_mono hc hr h1, h2⟩
  | invoke r mt args =>
    obtain ⟨v, h', h1, h2⟩ := onR_spec hh
    exact ⟨v, h', doOp_mono hc hr h1, h2⟩
  | nilM mt nm x =>
    obtain ⟨v, h', h1, h2⟩ := onR_spec hh
    exact ⟨v, h', doOp_mono hc hr h1, h2⟩

def putE (E : Ev) (dst : Option Nat) (v : Value) : Ev := @Option.rec Nat (fun _ => Ev → Value → Ev) (fun E _ => E) (fun d E v => E.set d v) dst E v
theorem SimE.put {E : Ev} {T : Tr Value} (hs : SimE E T) (dst : Option Nat) (v : Value) : SimE (putE E dst v) (putT T dst v) := by
  cases dst with
  | none => exact hs
  | some d => exact hs.set d v
def fGuard (E : Ev) (g : Option (Nat × Bool)) (yes no : R) : R :=
  @Option.rec (Nat × Bool) (fun _ => Ev → R → R → R) (fun E yes no => yes) (fun p E yes no => @Prod.rec Nat Bool (fun _ => Ev → R → R → R) (fun t b E yes no => vBool (E.get t) (cond2 b yes no) (cond2 b no yes) none) p E yes no) g E yes no
theorem fGuard_spec {E : Ev} {T : Tr Value} (hs : SimE E T) {g : Option (Nat × Bool)} {yes no : R} {r : Value × AHeap} (hh : fGuard E g yes no = some r) :
    (guardOn T g = some true ∧ yes = some r) ∨ (guardOn T g = some false ∧ no = some r) := by
  cases g with
  | none => exact .inl ⟨rfl, hh⟩
  | some p =>
    obtain ⟨t, b⟩ := p
    have hh : vBool (E.get t) (cond2 b yes no) (cond2 b no yes) none = some r := hh
    rw [hs t] at hh
    simp only [guardOn]
    cases ht : T.get t with
    | none => rw [ht] at hh; cases hh
    | some v =>
      rw [ht] at hh
      cases v with
      | bool c => cases c <;> cases b <;> first | exact .inl ⟨rfl, hh⟩ | exact .inr ⟨rfl, hh⟩
      | _ => cases hh

abbrev KE := Ev → AHeap → R
def fSeq1 (pk : Bool) (call : CallT) (rnd : RoundT) (o : ROp) (ih : Ev → AHeap → KE → R) (E : Ev) (h : AHeap) (k : KE) : R :=
  fGuard E o.guard (fOp pk call rnd o.op E h fun v h => ih (putE E o.dst v) h k) (ih (putE E o.dst undef) h k)
def fSeq (pk : Bool) (call : CallT) (rnd : RoundT) (ops : List ROp) : Ev → AHeap → KE → R :=
  @List.rec ROp (fun _ => Ev → AHeap → KE → R) (fun E h k => k E h) (fun o _ ih E h k => fSeq1 pk call rnd o ih E h k) ops
theorem fSeq_spec {pk : Bool} {call call' : CallT} {rnd rnd' : RoundT} (hc : LeC call call') (hr : LeC rnd rnd') {k : KE} {r : Value × AHeap} : ∀ {ops : List ROp} {E : Ev} {T : Tr Value} (hs : SimE E T) {h : AHeap},
    fSeq pk call rnd ops E h k = some r → ∃ E' T' h', aSeq pk call' rnd' ops T h = some (T', h') ∧ SimE E' T' ∧ k E' h' = some r
  | [], E, T, hs, h, hh => ⟨E, T, h, rfl, hs, hh⟩
  | ⟨dst, g, op⟩ :: ops, E, T, hs, h, hh => by
    rcases fGuard_spec hs (hh : fGuard E g (fOp pk call rnd op E h fun v h => fSeq pk call rnd ops (putE E dst v) h k) (fSeq pk call rnd ops (putE E dst undef) h k) = some r) with ⟨h1, h2⟩ | ⟨h1, h2⟩
    · obtain ⟨v, h', h3, h4⟩ := fOp_spec hc hr hs h2
      obtain ⟨E', T', h'', h5, h6, h7⟩ := fSeq_spec hc hr (hs.put dst v) h4
      exact ⟨E', T', h'', by simp only [aSeq, h1, h3, h5], h6, h7⟩
    · obtain ⟨E', T', h'', h5, h6, h7⟩ := fSeq_spec hc hr (hs.put dst undef) h2
      exact ⟨E', T', h'', by simp only [aSeq, h1, h5], h6, h7⟩

/-! ## regions whose order is open -/
abbrev RdF := List (Nat × AOp × (Operand → Value) × Value)
def rdOf (l : List (Nat × AOp × Tr Value × Value)) : RdF := l.map fun p => (p.1, p.2.1, aeval p.2.2.1, p.2.2.2)
def memN (x : Nat) (l : List Nat) : Bool := @List.rec Nat (fun _ => Bool) false (fun a _ ih => @Bool.rec (fun _ => Bool → Bool) (fun ih => ih) (fun _ => true) (Nat.beq x a) ih) l
theorem memN_eq (x : Nat) : ∀ l : List Nat, memN x l = l.contains x
  | [] => rfl
  | a :: l => by
    show @Bool.rec (fun _ => Bool → Bool) (fun ih => ih) (fun _ => true) (Nat.beq x a) (memN x l) = _
    rw [memN_eq x l, List.contains_cons]
    cases h : Nat.beq x a with
    | true => rw [Nat.eq_of_beq_eq_true h]; simp
    | false =>
      have hne : ¬ x = a := fun e => by subst e; rw [Nat.beq_refl] at h; cases h
      simp [hne]
def fBeq (v v' : Value) (k : R) : R := fKK v v' (fun _ m n => cond2 (Nat.beq m n) k none) (cond2 (beqV 10000 v v') k none)
theorem fBeq_spec {v v' : Value} {k : R} {r : Value × AHeap} (h : fBeq v v' k = some r) : beqV 10000 v v' = true ∧ k = some r := by
  have key : fBeq v v' k = cond2 (beqV 10000 v v') k none := by
    refine fKK_eq fun kd m n hx hy => ?_
    subst hx hy
    have e : beqV 10000 (.int kd (Int.ofNat m)) (.int kd (Int.ofNat n)) = Nat.beq m n := by
      simp only [beqV, decide_true, Bool.true_and]
      rw [Bool.eq_iff_iff, Nat.beq_eq, decide_eq_true_iff]; exact ⟨fun h => Int.ofNat.inj h, fun h => by rw [h]⟩
    rw [e]
  rw [key] at h
  unfold cond2 at h
  cases hb : beqV 10000 v v' with
  | false => rw [hb] at h; cases h
  | true => rw [hb] at h; exact ⟨rfl, h⟩
def fCheck (pk : Bool) (h : AHeap) (js : List Nat) (l : RdF) (yes : R) : R :=
  @List.rec (Nat × AOp × (Operand → Value) × Value) (fun _ => R → R) (fun yes => yes) (fun p _ ih yes => cond2 (memN p.1 js) (fDo pk p.2.1 p.2.2.1 h fun v' _ => fBeq p.2.2.2 v' (ih yes)) (ih yes)) l yes
theorem fCheck_spec {pk : Bool} {h : AHeap} {js : List Nat} {yes : R} {r : Value × AHeap} : ∀ {l : List (Nat × AOp × Tr Value × Value)}, fCheck pk h js (rdOf l) yes = some r → recheck pk h js l = true ∧ yes = some r
  | [], hh => ⟨rfl, hh⟩
  | (j, ao, T, v) :: l, hh => by
    have hh : cond2 (memN j js) (fDo pk ao (aeval T) h fun v' _ => fBeq v v' (fCheck pk h js (rdOf l) yes)) (fCheck pk h js (rdOf l) yes) = some r := hh
    rw [memN_eq] at hh
    unfold cond2 at hh
    cases hb : js.contains j with
    | false =>
      rw [hb] at hh
      obtain ⟨h1, h2⟩ := fCheck_spec (l := l) hh
      exact ⟨by simp only [recheck, hb, h1]; rfl, h2⟩
    | true =>
      rw [hb] at hh
      obtain ⟨v', h', h3, h4⟩ := fDo_spec hh
      obtain ⟨h5, h6⟩ := fBeq_spec h4
      obtain ⟨h1, h2⟩ := fCheck_spec (l := l) h6
      exact ⟨by simp only [recheck, hb, h3, h5, h1]; rfl, h2⟩
def fPend (s : Nat) (h : AHeap) (l : List Nat) : Bool := @List.rec Nat (fun _ => Bool) true (fun j _ ih => @Bool.rec (fun _ => Bool → Bool) (fun ih => ih) (fun _ => false) (h.get (s + j)).live ih) l
theorem fPend_eq (s : Nat) (h : AHeap) : ∀ l : List Nat, fPend s h l = l.all (fun j => !(h.get (s + j)).live)
  | [] => rfl
  | j :: l => by
    show @Bool.rec (fun _ => Bool → Bool) (fun ih => ih) (fun _ => false) (h.get (s + j)).live (fPend s h l) = _
    rw [fPend_eq s h l, List.all_cons]
    cases (h.get (s + j)).live <;> rfl
abbrev KD := Ev → AHeap → AHeap → RdF → R
def fPure (pk : Bool) (dst : Option Nat) (E : Ev) (C cur : AHeap) (rd : RdF) (k : KD) (op : RK) : R :=
  @RK.rec (fun _ => Bool → Option Nat → Ev → AHeap → AHeap → RdF → KD → R) (fun ao pk dst E C cur rd k => fDo pk ao (fval E) C fun v _ => k (putE E dst v) C cur rd) (fun _ _ _ _ _ _ _ _ _ => none) (fun _ _ _ _ _ _ _ _ _ => none) (fun _ _ _ _ _ _ _ _ _ _ => none) (fun _ _ _ _ _ _ _ _ _ _ => none) op pk dst E C cur rd k
def fRead (idx : Nat) (pk : Bool) (dst : Option Nat) (E : Ev) (C cur : AHeap) (rd : RdF) (k : KD) (op : RK) : R :=
  @RK.rec (fun _ => Nat → Bool → Option Nat → Ev → AHeap → AHeap → RdF → KD → R) (fun ao idx pk dst E C cur rd k => fDo pk ao (fval E) C fun v _ => k (putE E dst v) C cur ((idx, ao, fval E, v) :: rd)) (fun _ _ _ _ _ _ _ _ _ _ => none) (fun _ _ _ _ _ _ _ _ _ _ => none) (fun _ _ _ _ _ _ _ _ _ _ _ => none) (fun _ _ _ _ _ _ _ _ _ _ _ => none) op idx pk dst E C cur rd k
def fFresh (b : Nat) (pk : Bool) (dst : Option Nat) (E : Ev) (C cur : AHeap) (rd : RdF) (k : KD) (op : RK) : R :=
  @RK.rec (fun _ => Nat → Bool → Option Nat → Ev → AHeap → AHeap → RdF → KD → R) (fun ao b pk dst E C cur rd k => fDo pk ao (fval E) ⟨b, .leaf⟩ fun v h' => cond2 (cur.get b).live none (k (putE E dst v) C (cur.set b (h'.get b)) rd)) (fun _ _ _ _ _ _ _ _ _ _ => none) (fun _ _ _ _ _ _ _ _ _ _ => none) (fun _ _ _ _ _ _ _ _ _ _ _ => none) (fun _ _ _ _ _ _ _ _ _ _ _ => none) op b pk dst E C cur rd k
def fChain (s : Nat) (re pend : List Nat) (pk : Bool) (call : CallT) (rnd : RoundT) (dst : Option Nat) (E : Ev) (cur : AHeap) (rd : RdF) (k : KD) (op : RK) : R :=
  fOp pk call rnd op E cur fun v h' => fCheck pk h' re rd (cond2 (fPend s h' pend) (k (putE E dst v) h' h' rd) none)
def fStep (pk : Bool) (call : CallT) (rnd : RoundT) (s : Nat) (d : DOp) (E : Ev) (C cur : AHeap) (rd : RdF) (k : KD) : R :=
  fGuard E d.o.guard
    (@Cls.rec (fun _ => R → R → R → R → R) (fun a b c d => a) (fun a b c d => b) (fun a b c d => c) (fun a b c d => d) d.cls
      (fPure pk d.o.dst E C cur rd k d.o.op) (fRead d.idx pk d.o.dst E C cur rd k d.o.op) (forceN (Nat.add s d.slot) fun b => fFresh b pk d.o.dst E C cur rd k d.o.op) (fChain s d.re d.pend pk call rnd d.o.dst E cur rd k d.o.op))
    (k (putE E d.o.dst undef) C cur rd)
theorem fStep_spec {pk : Bool} {call call' : CallT} {rnd rnd' : RoundT} (hc : LeC call call') (hr : LeC rnd rnd') {s : Nat} {d : DOp} {E : Ev} {st : DState} (hs : SimE E st.T) {k : KD} {r : Value × AHeap}
    (hh : fStep pk call rnd s d E st.C st.cur (rdOf st.rd) k = some r) :
    ∃ E' st', dStep pk call' rnd' s d st = some st' ∧ SimE E' st'.T ∧ k E' st'.C st'.cur (rdOf st'.rd) = some r := by
  obtain ⟨idx, cls, slot, ⟨dst, g, op⟩, re, pend⟩ := d
  rcases fGuard_spec hs hh with ⟨h1, h2⟩ | ⟨h1, h2⟩
  · cases cls with
    | pure =>
      cases op with
      | plain ao =>
        obtain ⟨v, h', h3, h4⟩ := fDo_spec h2
        rw [hs.val] at h3
        exact ⟨_, { st with T := putT st.T dst v }, by simp only [dStep, h1, h3], hs.put dst v, h4⟩
      | _ => cases h2
    | read =>
      cases op with
      | plain ao =>
        obtain ⟨v, h', h3, h4⟩ := fDo_spec h2
        rw [hs.val] at h3 h4
        exact ⟨_, { st with T := putT st.T dst v, rd := (idx, ao, st.T, v) :: st.rd }, by simp only [dStep, h1, h3], hs.put dst v, h4⟩
      | _ => cases h2
    | fresh =>
      have h3 : forceN (Nat.add s slot) (fun b => fFresh b pk dst E st.C st.cur (rdOf st.rd) k op) = some r := h2
      rw [forceN_eq] at h3
      have h4 : fFresh (s + slot) pk dst E st.C st.cur (rdOf st.rd) k op = some r := h3
      clear h2 h3
      cases op with
      | plain ao =>
        obtain ⟨v, h', h5, h6⟩ := fDo_spec h4
        rw [hs.val] at h5
        simp only [cond2] at h6
        cases hl : (st.cur.get (s + slot)).live with
        | true => rw [hl] at h6; cases h6
        | false =>
          rw [hl] at h6
          exact ⟨_, { st with T := putT st.T dst v, cur := st.cur.set (s + slot) (h'.get (s + slot)) }, by simp only [dStep, h1, h5, hl]; rfl, hs.put dst v, h6⟩
      | _ => cases h4
    | chain =>
      obtain ⟨v, h', h3, h4⟩ := fOp_spec hc hr hs h2
      obtain ⟨hb1, h5⟩ := fCheck_spec h4
      rw [fPend_eq] at h5
      unfold cond2 at h5
      cases hb2 : pend.all (fun j => !(h'.get (s + j)).live) with
      | false => rw [hb2] at h5; cases h5
      | true =>
        rw [hb2] at h5
        have hb : (recheck pk h' re st.rd && pend.all (fun j => !(h'.get (s + j)).live)) = true := by rw [hb1, hb2]; rfl
        refine ⟨_, { st with T := putT st.T dst v, C := h', cur := h' }, ?_, hs.put dst v, h5⟩
        simp only [dStep, h1]
        cases op <;> simp only [h3, hb, if_true]
  · exact ⟨_, { st with T := putT st.T dst undef }, by simp only [dStep, h1], hs.put dst undef, h2⟩
def fRun (pk : Bool) (call : CallT) (rnd : RoundT) (s : Nat) (ds : List DOp) : Ev → AHeap → AHeap → RdF → KE → R :=
  @List.rec DOp (fun _ => Ev → AHeap → AHeap → RdF → KE → R) (fun E _ cur _ k => k E cur) (fun d _ ih E C cur rd k => fStep pk call rnd s d E C cur rd fun E C cur rd => ih E C cur rd k) ds
theorem fRun_spec {pk : Bool} {call call' : CallT} {rnd rnd' : RoundT} (hc : LeC call call') (hr : LeC rnd rnd') {s : Nat} {k : KE} {r : Value × AHeap} : ∀ {ds : List DOp} {E : Ev} {st : DState} (hs : SimE E st.T),
    fRun pk call rnd s ds E st.C st.cur (rdOf st.rd) k = some r → ∃ E' st', dRun pk call' rnd' s ds st = some st' ∧ SimE E' st'.T ∧ k E' st'.cur = some r
  | [], E, st, hs, hh => ⟨E, st, rfl, hs, hh⟩
  | d :: ds, E, st, hs, hh => by
    obtain ⟨E1, st1, h1, h2, h3⟩ := fStep_spec hc hr hs (k := fun E C cur rd => fRun pk call rnd s ds E C cur rd k) hh
    obtain ⟨E2, st2, h4, h5, h6⟩ := fRun_spec hc hr h2 h3
    exact ⟨E2, st2, by simp only [dRun, h1, h4], h5, h6⟩
def fDraw (pk : Bool) (call : CallT) (rnd : RoundT) (s : Nat) (ds : List DOp) (E : Ev) (h : AHeap) (k : KE) : R :=
  @AHeap.rec (fun _ => R) (fun n t => forceN (Nat.add n s) fun n' => fRun pk call rnd n ds E ⟨n', t⟩ ⟨n', t⟩ [] k) h
theorem fDraw_spec {pk : Bool} {call call' : CallT} {rnd rnd' : RoundT} (hc : LeC call call') (hr : LeC rnd rnd') {s : Nat} {ds : List DOp} {E : Ev} {T : Tr Value} (hs : SimE E T) {h : AHeap} {k : KE} {r : Value × AHeap}
    (hh : fDraw pk call rnd s ds E h k = some r) : ∃ E' T' h', aDraw pk call' rnd' s ds T h = some (T', h') ∧ SimE E' T' ∧ k E' h' = some r := by
  obtain ⟨n, t⟩ := h
  simp only [fDraw, forceN_eq] at hh
  obtain ⟨E', st', h1, h2, h3⟩ := fRun_spec hc hr (st := ⟨T, ⟨n + s, t⟩, ⟨n + s, t⟩, []⟩) hs hh
  exact ⟨E', st'.T, st'.cur, by simp only [aDraw, h1], h2, h3⟩

/-! ## code -/
def putAllE : List Nat → List Value → Ev → Ev
  | p :: ps, v :: vs, E => putAllE ps vs (E.set p v)
  | _, _, E => E
theorem putAllE_sim : ∀ (ps : List Nat) (vs : List Value) (E : Ev) (T : Tr Value), SimE E T → SimE (putAllE ps vs E) (putAll ps vs T)
  | [], _, E, T, hs => by simpa [putAllE, putAll] using hs
  | _ :: _, [], E, T, hs => by simpa [putAllE, putAll] using hs
  | p :: ps, v :: vs, E, T, hs => putAllE_sim ps vs _ _ (hs.set p v)
abbrev XK := Ev → AHeap → KE → (Nat → KE) → KE → R
def fRound (m : Nat) (ps : List Nat) (fa fb : XK) (E : Ev) (rnd : RoundT) : RoundT := fun m' args h =>
  if m' = m then
    (match h.get m with
    | .loop .ready => if args.length = ps.length then
      fa (putAllE ps args E) h (fun E1 h1 => match h1.get m with
        | .loop .ready => fb E1 (h1.set m (.loop .busy))
            (fun _ h2 => match h2.get m with | .loop .busy => some (.bool true, h2.set m (.loop .ready)) | _ => none)
            (fun id _ h2 => match h2.get m with | .loop .busy => some (.bool false, h2.set m (.loop (.exit id))) | _ => none)
            (fun _ h2 => match h2.get m with | .loop .busy => some (.bool false, h2.set m (.loop .ret)) | _ => none)
        | _ => none) (fun _ _ _ => none) (fun _ _ => none)
      else none
    | _ => none)
  else rnd m' args h
abbrev CX := Bool → CallT → (RoundT → CallT) → RoundT → Nat → XK
def fBlk (x : Nat → KE) (n : KE) (id i : Nat) (E : Ev) (h : AHeap) : R := @Bool.rec (fun _ => Nat → (Nat → KE) → KE → Ev → AHeap → R) (fun i x n E h => x i E h) (fun i x n E h => n E h) (Nat.beq i id) i x n E h
def fLoop (ib : XK) (x : Nat → KE) (r : KE) (L : Nat) : KE := @Nat.rec (fun _ => XK → (Nat → KE) → KE → KE) (fun _ _ _ _ _ => none) (fun _ ih ib x r E h => ib E h (ih ib x r) x r) L ib x r
def fRange (it : Operand) (ps : List Nat) (ia ib : XK) (callR : RoundT → CallT) (rnd : RoundT) (E : Ev) (h : AHeap) (n : KE) (x : Nat → KE) (r : KE) : R :=
  match fval E it with
      | .func (.func f) a b => onR (callR (fRound h.next ps ia ib E rnd) f (a.toList ++ .func (.yield h.next) #[] #[] :: b.toList) (h.new (.loop .ready))) fun _ h1 => match h1.get h.next with
        | .loop .ready => n E (h1.set h.next .dead)
        | .loop .ret => r E (h1.set h.next .dead)
        | .loop (.exit id) => x id E (h1.set h.next .dead)
        | _ => none
      | _ => none
def fCode (pk : Bool) (call : CallT) (callR : RoundT → CallT) (rnd : RoundT) (L : Nat) (c : ACode) : XK :=
  @ACode.rec (fun _ => CX)
    (fun pk call callR rnd L E h n x r => n E h)
    (fun ops pk call callR rnd L E h n x r => fSeq pk call rnd ops E h n)
    (fun s ds pk call callR rnd L E h n x r => fDraw pk call rnd s ds E h n)
    (fun a b ia ib pk call callR rnd L E h n x r => ia pk call callR rnd L E h (fun E h => ib pk call callR rnd L E h n x r) x r)
    (fun c a b ia ib pk call callR rnd L E h n x r => vBool (fval E c) (ia pk call callR rnd L E h n x r) (ib pk call callR rnd L E h n x r) none)
    (fun id b ib pk call callR rnd L E h n x r => ib pk call callR rnd L E h n (fBlk x n id) r)
    (fun b ib pk call callR rnd L E h n x r => fLoop (ib pk call callR rnd L) x r L E h)
    (fun id pk call callR rnd L E h n x r => x id E h)
    (fun pk call callR rnd L E h n x r => r E h)
    (fun it ps as bd ia ib pk call callR rnd L E h n x r => fRange it ps (ia pk call callR rnd L) (ib pk call callR rnd L) callR rnd E h n x r) c pk call callR rnd L
def PostF (o : Res) (n : KE) (x : Nat → KE) (rr : KE) (res : Value × AHeap) : Prop :=
  ∃ e E' T' h', o = some (e, T', h') ∧ SimE E' T' ∧ (match e with | .normal => n E' h' | .exit i => x i E' h' | .ret => rr E' h') = some res
theorem fRound_le {m : Nat} {ps : List Nat} {fa fb : XK} {ga gb : Tr Value → AHeap → Res} {E : Ev} {T : Tr Value} {rnd rnd' : RoundT} (hs : SimE E T) (hr : LeC rnd rnd')
    (ha : ∀ E T h n x rr res, SimE E T → fa E h n x rr = some res → PostF (ga T h) n x rr res) (hb : ∀ E T h n x rr res, SimE E T → fb E h n x rr = some res → PostF (gb T h) n x rr res) :
    LeC (fRound m ps fa fb E rnd) (aRound m ps ga gb T rnd') := by
  intro m' args h res hh
  unfold fRound at hh
  unfold aRound
  split at hh
  · rename_i hm
    rw [if_pos hm]
    split at hh
    · rename_i hg0
      split at hh
      · rename_i hl
        simp only [hg0, hl, if_true]
        obtain ⟨e, E1, T1, h1, h2, h3, h4⟩ := ha _ _ _ _ _ _ _ (putAllE_sim _ _ _ _ hs) hh
        cases e with
        | normal =>
          simp only at h4
          split at h4
          · rename_i hg
            obtain ⟨e2, E2, T2, h5, h6, h7, h8⟩ := hb _ _ _ _ _ _ _ h3 h4
            cases e2 with
            | normal =>
              simp only at h8
              split at h8
              · rename_i hg2
                simp only [h2, hg, h6, hg2]; exact h8
              · cases h8
            | exit i =>
              simp only at h8
              split at h8
              · rename_i hg2
                simp only [h2, hg, h6, hg2]; exact h8
              · cases h8
            | ret =>
              simp only at h8
              split at h8
              · rename_i hg2
                simp only [h2, hg, h6, hg2]; exact h8
              · cases h8
          · cases h4
        | exit i => cases h4
        | ret => cases h4
      · cases hh
    · cases hh
  · rename_i hm
    rw [if_neg hm]
    exact hr _ _ _ _ hh
theorem fCode_spec {pk : Bool} {call call' : CallT} {callR callR' : RoundT → CallT} (hc : LeC call call') (hR : ∀ rnd rnd', LeC rnd rnd' → LeC (callR rnd) (callR' rnd')) {L : Nat} (c : ACode) :
    ∀ {rnd rnd' : RoundT} (hr : LeC rnd rnd') (E : Ev) (T : Tr Value) (h : AHeap) (n : KE) (x : Nat → KE) (rr : KE) (res : Value × AHeap), SimE E T →
      fCode pk call callR rnd L c E h n x rr = some res → PostF (exec pk call' callR' rnd' L c T h) n x rr res := by
  induction c with
  | skip => intro rnd rnd' hr E T h n x rr res hs hh; exact ⟨.normal, E, T, h, rfl, hs, hh⟩
  | seq ops =>
    intro rnd rnd' hr E T h n x rr res hs hh
    obtain ⟨E', T', h', h1, h2, h3⟩ := fSeq_spec hc hr hs hh
    exact ⟨.normal, E', T', h', by simp only [exec, h1], h2, h3⟩
  | draw s ds =>
    intro rnd rnd' hr E T h n x rr res hs hh
    obtain ⟨E', T', h', h1, h2, h3⟩ := fDraw_spec hc hr hs hh
    exact ⟨.normal, E', T', h', by simp only [exec, h1], h2, h3⟩
  | both a b iha ihb =>
    intro rnd rnd' hr E T h n x rr res hs hh
    obtain ⟨e, E1, T1, h1, h2, h3, h4⟩ := iha hr E T h (fun E h => fCode pk call callR rnd L b E h n x rr) x rr res hs hh
    cases e with
    | normal =>
      obtain ⟨e2, E2, T2, h5, h6, h7, h8⟩ := ihb hr E1 T1 h1 n x rr res h3 h4
      exact ⟨e2, E2, T2, h5, by simp only [exec, h2, h6], h7, h8⟩
    | exit i => exact ⟨.exit i, E1, T1, h1, by simp only [exec, h2], h3, h4⟩
    | ret => exact ⟨.ret, E1, T1, h1, by simp only [exec, h2], h3, h4⟩
  | cond c a b iha ihb =>
    intro rnd rnd' hr E T h n x rr res hs hh
    have hh : vBool (fval E c) (fCode pk call callR rnd L a E h n x rr) (fCode pk call callR rnd L b E h n x rr) none = some res := hh
    rw [hs.val] at hh
    unfold PostF
    simp only [exec]
    cases hv : aeval T c with
    | bool t =>
      rw [hv] at hh
      cases t with
      | true => exact iha hr E T h n x rr res hs hh
      | false => exact ihb hr E T h n x rr res hs hh
    | _ => rw [hv] at hh; cases hh
  | block id b ihb =>
    intro rnd rnd' hr E T h n x rr res hs hh
    obtain ⟨e, E1, T1, h1, h2, h3, h4⟩ := ihb hr E T h n _ rr res hs hh
    cases e with
    | normal => exact ⟨.normal, E1, T1, h1, by simp only [exec, h2], h3, h4⟩
    | exit i =>
      simp only [fBlk] at h4
      cases hi : Nat.beq i id with
      | true =>
        rw [hi] at h4
        exact ⟨.normal, E1, T1, h1, by simp only [exec, h2, Nat.eq_of_beq_eq_true hi, if_true], h3, h4⟩
      | false =>
        rw [hi] at h4
        have hne : ¬ i = id := fun e => by subst e; rw [Nat.beq_refl] at hi; cases hi
        exact ⟨.exit i, E1, T1, h1, by simp only [exec, h2, hne, if_false], h3, h4⟩
    | ret => exact ⟨.ret, E1, T1, h1, by simp only [exec, h2], h3, h4⟩
  | loop b ihb =>
    intro rnd rnd' hr E T h n x rr res hs hh
    have key : ∀ (m : Nat) (E : Ev) (T : Tr Value) (h : AHeap), SimE E T → fLoop (fCode pk call callR rnd L b) x rr m E h = some res →
        PostF (iter (exec pk call' callR' rnd' L b) m T h) n x rr res := by
      intro m
      induction m with
      | zero => intro E T h hs hh; cases hh
      | succ m ih =>
        intro E T h hs hh
        obtain ⟨e, E1, T1, h1, h2, h3, h4⟩ := ihb hr E T h _ x rr res hs hh
        cases e with
        | normal =>
          obtain ⟨e2, E2, T2, h5, h6, h7, h8⟩ := ih E1 T1 h1 h3 h4
          exact ⟨e2, E2, T2, h5, by simp only [iter, h2, h6], h7, h8⟩
        | exit i => exact ⟨.exit i, E1, T1, h1, by simp only [iter, h2], h3, h4⟩
        | ret => exact ⟨.ret, E1, T1, h1, by simp only [iter, h2], h3, h4⟩
    exact key L E T h hs hh
  | exit id => intro rnd rnd' hr E T h n x rr res hs hh; exact ⟨.exit id, E, T, h, rfl, hs, hh⟩
  | ret => intro rnd rnd' hr E T h n x rr res hs hh; exact ⟨.ret, E, T, h, rfl, hs, hh⟩
  | rangeF it ps as bd iha ihb =>
    intro rnd rnd' hr E T h n x rr res hs hh
    have hh : (match fval E it with
      | .func (.func f) a b => onR (callR (fRound h.next ps (fCode pk call callR rnd L as) (fCode pk call callR rnd L bd) E rnd) f (a.toList ++ .func (.yield h.next) #[] #[] :: b.toList) (h.new (.loop .ready))) fun _ h1 => match h1.get h.next with
        | .loop .ready => n E (h1.set h.next .dead)
        | .loop .ret => rr E (h1.set h.next .dead)
        | .loop (.exit id) => x id E (h1.set h.next .dead)
        | _ => none
      | _ => none) = some res := hh
    rw [hs.val] at hh
    unfold PostF
    simp only [exec]
    split at hh
    · rename_i f a b hv
      obtain ⟨v, h1, h2, h3⟩ := onR_spec hh
      have h2' := hR _ _ (fRound_le (m := h.next) (ps := ps) hs hr (fun E T h n x rr res hs hh => iha hr E T h n x rr res hs hh) (fun E T h n x rr res hs hh => ihb hr E T h n x rr res hs hh)) _ _ _ _ h2
      simp only [hv, h2']
      split at h3
      · rename_i hg; exact ⟨.normal, E, T, _, by simp only [hg], hs, h3⟩
      · rename_i hg; exact ⟨.ret, E, T, _, by simp only [hg], hs, h3⟩
      · rename_i id hg; exact ⟨.exit id, E, T, _, by simp only [hg], hs, h3⟩
      · cases h3
    · cases hh

/-! ## calls -/
def fArgs (l : List Value) : Nat → Ev → Ev := @List.rec Value (fun _ => Nat → Ev → Ev) (fun _ E => E) (fun v _ ih i E => ih (Nat.succ i) (E.set i v)) l
theorem fArgs_sim : ∀ {l : List Value} {i : Nat} {E : Ev} {T : Tr Value}, SimE E T → SimE (fArgs l i E) (argsT i l T)
  | [], i, E, T, hs => hs
  | v :: l, i, E, T, hs => fArgs_sim (l := l) (hs.set i v)
def fRes (E : Ev) (h : AHeap) (l : List ARes) : (List Value → R) → R :=
  @List.rec ARes (fun _ => (List Value → R) → R) (fun k => k []) (fun a _ ih k => @ARes.rec (fun _ => R) (fun t => ih fun l => k (E.get t :: l)) (fun t n => @Option.rec Value (fun _ => R) none (fun v => ih fun l => k (v :: l)) (aLoad n (E.get t) h)) a) l
theorem fRes_spec {E : Ev} {T : Tr Value} (hs : SimE E T) {h : AHeap} {r : Value × AHeap} : ∀ {l : List ARes} {k : List Value → R}, fRes E h l k = some r → ∃ vs, aRes T h l = some vs ∧ k vs = some r
  | [], k, hh => ⟨[], rfl, hh⟩
  | .tmp t :: l, k, hh => by
    obtain ⟨vs, h1, h2⟩ := fRes_spec hs (l := l) (k := fun l => k (E.get t :: l)) hh
    exact ⟨_, by simp only [aRes, h1, ← hs t], h2⟩
  | .cell t n :: l, k, hh => by
    have hh : @Option.rec Value (fun _ => R) none (fun v => fRes E h l fun l => k (v :: l)) (aLoad n (E.get t) h) = some r := hh
    cases hl : aLoad n (E.get t) h with
    | none => rw [hl] at hh; cases hh
    | some v =>
      rw [hl] at hh
      obtain ⟨vs, h1, h2⟩ := fRes_spec hs (l := l) (k := fun l => k (v :: l)) hh
      exact ⟨_, by simp only [aRes, ← hs t, hl, h1], h2⟩
def fFin (l : List Value) (h : AHeap) : R :=
  @List.rec Value (fun _ => R) (some (oneOrTup l, h)) (fun v r _ => @List.rec Value (fun _ => R) (forceV v fun v => some (v, h)) (fun _ _ _ => some (.tuple l.toArray, h)) r) l
theorem fFin_eq (l : List Value) (h : AHeap) : fFin l h = some (oneOrTup l, h) := by
  cases l with
  | nil => rfl
  | cons v r =>
    cases r with
    | nil =>
      have e : fFin [v] h = forceV v fun v => some (v, h) := rfl
      rw [e, forceV_eq]; rfl
    | cons w r => rfl
def fCallR (pk : Bool) (tab : FuncId → Option AEntry) (L D : Nat) : RoundT → CallT :=
  @Nat.rec (fun _ => RoundT → CallT) (fun _ _ _ _ => none) (fun _ ih rnd f args h => @Option.rec AEntry (fun _ => R) none (fun e => @AEntry.rec (fun _ => R)
    (fun af => @AFunc.rec (fun _ => R) (fun na res code => @Bool.rec (fun _ => R) none
      (fCode pk (ih noRound) ih rnd L code (fArgs args 0 .zero) h (fun E h => fRes E h res fun l => fFin l h) (fun _ _ _ => none) (fun E h => fRes E h res fun l => fFin l h)) (Nat.beq args.length na)) af)
    (fun g => g args h) e) (tab f)) D
theorem fCallR_le {pk : Bool} {tab : FuncId → Option AEntry} {L : Nat} : ∀ (D : Nat) (rnd rnd' : RoundT), LeC rnd rnd' → LeC (fCallR pk tab L D rnd) (callFR pk tab L D rnd')
  | 0, rnd, rnd', hr => fun f args h r hh => by cases hh
  | D + 1, rnd, rnd', hr => fun f args h r hh => by
    have ih := fCallR_le (pk := pk) (tab := tab) (L := L) D
    have hh : @Option.rec AEntry (fun _ => R) none (fun e => @AEntry.rec (fun _ => R)
      (fun af => @AFunc.rec (fun _ => R) (fun na res code => @Bool.rec (fun _ => R) none
        (fCode pk (fCallR pk tab L D noRound) (fCallR pk tab L D) rnd L code (fArgs args 0 .zero) h (fun E h => fRes E h res fun l => fFin l h) (fun _ _ _ => none) (fun E h => fRes E h res fun l => fFin l h)) (Nat.beq args.length na)) af)
      (fun g => g args h) e) (tab f) = some r := hh
    simp only [callFR]
    cases ht : tab f with
    | none => rw [ht] at hh; cases hh
    | some e =>
      rw [ht] at hh
      cases e with
      | prim g => exact hh
      | code af =>
        obtain ⟨na, res, code⟩ := af
        simp only at hh ⊢
        cases hb : Nat.beq args.length na with
        | false => rw [hb] at hh; cases hh
        | true =>
          rw [hb] at hh
          obtain ⟨e, E1, T1, h1, h2, h3, h4⟩ := fCode_spec (ih noRound noRound (fun _ _ _ _ h => h)) ih code hr _ _ _ _ _ _ _ (fArgs_sim (l := args) (i := 0) SimE.zero) hh
          simp only [runF, Nat.eq_of_beq_eq_true hb, if_true, h2]
          cases e with
          | normal =>
            obtain ⟨vs, h5, h6⟩ := fRes_spec h3 h4
            rw [fFin_eq] at h6
            simp only [h5]; exact h6
          | exit i => cases h4
          | ret =>
            obtain ⟨vs, h5, h6⟩ := fRes_spec h3 h4
            rw [fFin_eq] at h6
            simp only [h5]; exact h6
/-- A call, quickly. -/
def fCall (tab : FuncId → Option AEntry) (L D : Nat) (f : FuncId) (args : List Value) (h : AHeap) : R := fCallR true tab L D noRound f args h
theorem fCall_le {tab : FuncId → Option AEntry} {L D : Nat} {f : FuncId} {args : List Value} {h : AHeap} {r : Value × AHeap} (hh : fCall tab L D f args h = some r) : callF true tab L D f args h = some r :=
  fCallR_le D noRound noRound (fun _ _ _ _ h => h) f args h r hh
def fAns (o : R) : Option Bool := @Option.rec (Value × AHeap) (fun _ => Option Bool) none (fun p => ansB (some p)) o
theorem fAns_spec {o : R} {b : Bool} (h : fAns o = some b) : ansB o = some b := by cases o <;> exact h
/-- A closed run that the kernel has made quickly. -/
theorem quick {tab : FuncId → Option AEntry} {L D : Nat} {f : FuncId} {b : Bool} (hr : fAns (fCall tab L D f [] AHeap.empty) = some b) : ansB (callF true tab L D f [] AHeap.empty) = some b := by
  cases hc : fCall tab L D f [] AHeap.empty with
  | none => rw [hc] at hr; cases hr
  | some r => rw [fCall_le hc]; rw [hc] at hr; exact hr
end
end Go.AM
