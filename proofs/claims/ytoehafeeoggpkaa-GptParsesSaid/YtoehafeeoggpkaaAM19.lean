import Derived.Test.YtoehafeeoggpkaaAM18
import Derived.RangeFuncRecord
set_option linter.unusedVariables false
set_option linter.unusedSimpArgs false
/-! Part 19: regions, code, functions: the executor is sound, but for regions whose order is open (a hypothesis here). -/
namespace Go.AM
noncomputable section
open Go.RowKit

/-- A region whose order is open, soundly compiled. -/
def DrawSound (P : Program) (pk : Bool) (call : CallT) (N : Nat) : Prop :=
  ∀ (id : Nat) (ops : Array Oper) (k : Nat) (ds : List DOp), compDraw P N ops = some (k, ds) → ∀ (ro : Option Nat) (rnd : RoundT) (T T' : Tr Value) (h h' : AHeap), aDraw pk call rnd k ds T h = some (T', h') →
    ∀ (N0 : Nat) (w0 : World) (σ0 : Sig) (n0 : Nat) (σ : Sig) (w : World) (a : Act) (Q : Exit → Act → World → Prop), RoundOk P N0 w0 σ0 n0 rnd → n0 ≤ h.next → (∀ j, j < n0 → σ j = σ0 j) → Inv N0 w0 σ h w → TR N h.next σ T a.tmps →
      (∀ σ' w' tm', Inv N0 w0 σ' h' w' → TR N h'.next σ' T' tm' → Go' σ h w σ' h' w' → Q .normal { a with tmps := tm' } w') → (Code.region id ops true).wpIn (FW ro) 0 P Q a w

section
variable {N0 : Nat} {w0 : World} {P : Program} {N : Nat} {pk : Bool} {call : CallT}

theorem put_act (a : Act) (dst : Option Nat) (v : Value) : a.put dst v = { a with tmps := putA a.tmps dst v } := by
  cases dst <;> rfl

theorem compR_spec {ops : Array Oper} {o : Oper} {r : ROp} (hc : compR P N ops o = some r) : IsRK P o.op r.op ∧ r.dst = o.dst ∧ o.dst.all (· < N) = true ∧
    (match o.guard with | none => r.guard = none | some (j, want) => ∃ t, (ops[j]?).bind (·.dst) = some t ∧ t < N ∧ r.guard = some (t, want)) := by
  unfold compR at hc
  split at hc
  · cases hc
  · rename_i rk hrk
    have hrk := compNil_is hrk
    split at hc
    · rename_i hd
      split at hc
      · rename_i hg
        injection hc with hc; subst hc
        exact ⟨hrk, rfl, hd, by rw [hg]⟩
      · rename_i j b hg
        split at hc
        · rename_i t ht
          split at hc
          · rename_i htN
            injection hc with hc; subst hc
            exact ⟨hrk, rfl, hd, by rw [hg]; exact ⟨t, ht, htN, rfl⟩⟩
          · cases hc
        · cases hc
    · cases hc

theorem seq_wp {ro : Option Nat} {rnd : RoundT} {σ0 : Sig} {n0 : Nat} (hcs : CallSound P call) (hrd : RoundOk P N0 w0 σ0 n0 rnd) {ops : Array Oper} {Q : Exit → Act → World → Prop} : ∀ (l : List Oper) (rs : List ROp) (σ : Sig) (T T' : Tr Value) (h h' : AHeap) (a : Act) (w : World), compRs P N ops l = some rs → aSeq pk call rnd rs T h = some (T', h') →
    n0 ≤ h.next → (∀ j, j < n0 → σ j = σ0 j) → Inv N0 w0 σ h w → TR N h.next σ T a.tmps → (∀ σ' w' tm', Inv N0 w0 σ' h' w' → TR N h'.next σ' T' tm' → Go' σ h w σ' h' w' → Q .normal { a with tmps := tm' } w') → wpListIn (FW ro) 0 P ops Q l a w
  | [], rs, σ, T, T', h, h', a, w, hc, ha, hn0, hs0, hI, hT, hQ => by
    simp only [compRs, Option.some.injEq] at hc
    subst hc
    simp only [aSeq, Option.some.injEq, Prod.mk.injEq] at ha
    obtain ⟨rfl, rfl⟩ := ha
    exact hQ σ w a.tmps hI hT (.refl _ _ _)
  | o :: l, rs, σ, T, T', h, h', a, w, hc, ha, hn0, hs0, hI, hT, hQ => by
    simp only [compRs] at hc
    split at hc
    · rename_i r rs' hr hrs
      injection hc with hc; subst hc
      obtain ⟨h1, h2, h3, h4⟩ := compR_spec hr
      simp only [aSeq] at ha
      split at ha
      · rename_i hg
        have hw := guard_rel hT h4 hg
        split at ha
        · rename_i v hh hop
          simp only [wpListIn, hw, if_true]
          refine rk_wp hcs hrd hn0 hs0 h1 hI (fun x hx => hT.eval rfl hx) hop ?_
          intro σ' v' w' hv hI' hgo
          rw [put_act]
          rw [h2] at ha
          refine seq_wp hcs hrd l rs' σ' _ T' hh h' _ w' hrs ha (Nat.le_trans hn0 hgo.next) (fun j hj => (hgo.sig j (by omega)).trans (hs0 j hj)) hI' ((hT.go hgo).put hv h3) ?_
          intro σ2 w2 tm2 i1 i2 i3
          exact hQ σ2 w2 tm2 i1 i2 (hgo.trans i3)
        · cases ha
      · rename_i hg
        have hw := guard_rel hT h4 hg
        simp only [wpListIn, hw, Bool.false_eq_true, if_false]
        refine ⟨fun _ _ => trivial, ?_⟩
        rw [put_act]
        rw [h2] at ha
        exact seq_wp hcs hrd l rs' σ _ T' h h' _ w hrs ha hn0 hs0 hI (hT.put VR.undef h3) hQ
      · cases ha
    · cases hc

def exitOf : AExit → Exit
  | .normal => .normal
  | .exit id => .exit id
  | .ret => .ret

/-- The marks of loops over functions among the deferred calls: blocks beyond B, that are nobody's. -/
def DOK (B : Nat) (σ : Sig) (h : AHeap) (w : World) (ds : List Deferred) : Prop :=
  (∀ d ∈ ds, ∃ r, d.target = .collected r ∧ w.heap[r]? = some (.deferred (some [])) ∧ B ≤ r ∧ ¬ Owned σ h r) ∧ ds.Pairwise (fun a b => a.target ≠ b.target)
theorem DOK.nil {B : Nat} {σ : Sig} {h : AHeap} {w : World} : DOK B σ h w [] := ⟨fun d hd => (by cases hd), .nil⟩
theorem DOK.go {B : Nat} {σ σ' : Sig} {h h' : AHeap} {w w' : World} {ds : List Deferred} (d : DOK B σ h w ds) (g : Go' σ h w σ' h' w') : DOK B σ' h' w' ds := by
  refine ⟨fun x hx => ?_, d.2⟩
  obtain ⟨r, h1, h2, h3, h4⟩ := d.1 x hx
  have hlt : r < w.heap.size := (Array.getElem?_eq_some_iff.1 h2).1
  exact ⟨r, h1, by rw [g.frame r hlt h4]; exact h2, h3, fun ho => (g.own r ho).elim h4 (fun hh => by omega)⟩

/-- What is asked of the post. -/
def Post (N0 : Nat) (w0 : World) (N B : Nat) (σ : Sig) (h : AHeap) (w : World) (e : AExit) (T' : Tr Value) (h' : AHeap) (Q : Exit → Act → World → Prop) : Prop :=
  ∀ σ' w' tm' ds', Inv N0 w0 σ' h' w' → TR N h'.next σ' T' tm' → Go' σ h w σ' h' w' → DOK B σ' h' w' ds' → Q (exitOf e) { tmps := tm', defers := ds' } w'
theorem Post.go {B : Nat} {σ σ1 : Sig} {h h1 : AHeap} {w w1 : World} {e : AExit} {T' : Tr Value} {h' : AHeap} {Q : Exit → Act → World → Prop} (hp : Post N0 w0 N B σ h w e T' h' Q) (g : Go' σ h w σ1 h1 w1) :
    Post N0 w0 N B σ1 h1 w1 e T' h' Q := fun σ' w' tm' ds' i1 i2 i3 i4 => hp σ' w' tm' ds' i1 i2 (g.trans i3) i4

/-- What is known where code begins. -/
structure At (P : Program) (N0 : Nat) (w0 : World) (N B : Nat) (rnd : RoundT) (σ0 : Sig) (n0 : Nat) (σ : Sig) (h : AHeap) (w : World) (T : Tr Value) (a : Act) : Prop where
  rd : RoundOk P N0 w0 σ0 n0 rnd
  le0 : n0 ≤ h.next
  s0 : ∀ j, j < n0 → σ j = σ0 j
  low : N0 ≤ B
  high : B ≤ w.heap.size
  inv : Inv N0 w0 σ h w
  tmp : TR N h.next σ T a.tmps
  dfr : DOK B σ h w a.defers
theorem At.go {B n0 : Nat} {rnd : RoundT} {σ0 σ σ' : Sig} {h h' : AHeap} {w w' : World} {T T' : Tr Value} {a : Act} {tm' : Array Value} {ds' : List Deferred} (t : At P N0 w0 N B rnd σ0 n0 σ h w T a) (g : Go' σ h w σ' h' w') (i1 : Inv N0 w0 σ' h' w') (i2 : TR N h'.next σ' T' tm')
    (i3 : DOK B σ' h' w' ds') : At P N0 w0 N B rnd σ0 n0 σ' h' w' T' { tmps := tm', defers := ds' } :=
  ⟨t.rd, Nat.le_trans t.le0 g.next, fun j hj => (g.sig j (Nat.lt_of_lt_of_le hj t.le0)).trans (t.s0 j hj), t.low, Nat.le_trans t.high g.size, i1, i2, i3⟩

def SoundC (P : Program) (pk : Bool) (call : CallT) (callR : RoundT → CallT) (N L : Nat) (inR : Bool) (c : Code) (ac : ACode) : Prop :=
  ∀ (ro : Option Nat), (inR = false → ro = none) → ∀ (rnd : RoundT) (N0 : Nat) (w0 : World) (T : Tr Value) (h : AHeap) (e : AExit) (T' : Tr Value) (h' : AHeap), exec pk call callR rnd L ac T h = some (e, T', h') →
    ∀ (B : Nat) (σ0 : Sig) (n0 : Nat) (σ : Sig) (w : World) (a : Act) (Q : Exit → Act → World → Prop), At P N0 w0 N B rnd σ0 n0 σ h w T a →
    Post N0 w0 N B σ h w e T' h' Q → c.wpIn (FW ro) 0 P Q a w

theorem rounds_sound {callR : RoundT → CallT} {L : Nat} {inR : Bool} {c : Code} {ac : ACode} (hs : SoundC P pk call callR N L inR c ac) (ro : Option Nat) (hro : inR = false → ro = none) (rnd : RoundT) (N0 : Nat) (w0 : World) : ∀ (n : Nat) (T : Tr Value) (h : AHeap) (e : AExit) (T' : Tr Value) (h' : AHeap), iter (exec pk call callR rnd L ac) n T h = some (e, T', h') →
    ∀ (B : Nat) (σ0 : Sig) (n0 : Nat) (σ : Sig) (w : World) (a : Act) (Q : Exit → Act → World → Prop), At P N0 w0 N B rnd σ0 n0 σ h w T a → Post N0 w0 N B σ h w e T' h' Q → Code.roundsIn (FW ro) 0 P c Q n a w
  | 0, T, h, e, T', h', hi, B, σ0, n0, σ, w, a, Q, hA, hQ => by simp [iter] at hi
  | n + 1, T, h, e, T', h', hi, B, σ0, n0, σ, w, a, Q, hA, hQ => by
    rw [roundsIn_succ]
    simp only [iter] at hi
    cases hx : exec pk call callR rnd L ac T h with
    | none => rw [hx] at hi; cases hi
    | some r =>
      obtain ⟨e1, T1, h1⟩ := r
      rw [hx] at hi
      refine hs ro hro rnd N0 w0 T h e1 T1 h1 hx B σ0 n0 σ w a _ hA ?_
      intro σ' w' tm' ds' i1 i2 i3 i4
      cases e1 with
      | normal => exact rounds_sound hs ro hro rnd N0 w0 n T1 h1 e T' h' hi B σ0 n0 σ' w' _ Q (hA.go i3 i1 i2 i4) (hQ.go i3)
      | exit id =>
        simp only [Option.some.injEq, Prod.mk.injEq] at hi
        obtain ⟨rfl, rfl, rfl⟩ := hi
        exact hQ σ' w' tm' ds' i1 i2 i3 i4
      | ret =>
        simp only [Option.some.injEq, Prod.mk.injEq] at hi
        obtain ⟨rfl, rfl, rfl⟩ := hi
        exact hQ σ' w' tm' ds' i1 i2 i3 i4

/-- A call, of whatever function, that may call the yield of a loop that is under way. -/
def CallRSound (P : Program) (callR : RoundT → CallT) : Prop := ∀ rnd f args h r h', callR rnd f args h = some (r, h') → callOk P f = true ∧
  ∀ (N0 : Nat) (w0 : World) (σ : Sig) (w : World) (cargs : List Value), RoundOk P N0 w0 σ h.next rnd → Inv N0 w0 σ h w → VRL h.next σ args cargs →
    Calls P f cargs.toArray w fun e w' => ∃ σ' cr, e = .returned cr ∧ VR h'.next σ' r cr ∧ Inv N0 w0 σ' h' w' ∧ Go' σ h w σ' h' w'

theorem putAll_rel {n : Nat} {σ : Sig} : ∀ (ps : List Nat) (vs cs : List Value) (T : Tr Value) (tm : Array Value), ps.all (fun p => decide (p < N)) = true → TR N n σ T tm → VRL n σ vs cs → vs.length = ps.length →
    TR N n σ (putAll ps vs T) ((ps.zip cs).foldl (fun tmps p => tmps.setIfInBounds p.1 p.2) tm)
  | [], vs, cs, T, tm, _, h, _, _ => by simpa [putAll] using h
  | p :: ps, [], cs, T, tm, _, _, _, hl => by simp at hl
  | p :: ps, v :: vs, cs, T, tm, hp, h, hr, hl => by
    obtain ⟨c, cs', rfl, h1, h2⟩ := hr.cons_inv
    simp only [List.all_cons, Bool.and_eq_true] at hp
    have h3 := h.put (dst := some p) h1 (by simpa using hp.1)
    simp only [putAll, List.zip_cons_cons, List.foldl_cons]
    exact putAll_rel ps vs cs' _ _ hp.2 h3 h2 (by simpa using hl)

/-- An object of a loop's: its record. -/
theorem Inv.loopAt {σ : Sig} {h : AHeap} {w : World} {m : Nat} {st : LSt} {L : Loop} (hI : Inv N0 w0 σ h w) (hm : h.get m = .loop st) (hl : (σ m).lp = some L) : w.heap[(σ m).blk]? = some (.loop { L with state := st.st, pending := st.pend }) := by
  have := hI.obj m
  rw [hm] at this
  obtain ⟨L', h1, h2⟩ := this
  rw [hl] at h1; injection h1 with h1; subst h1
  exact h2
theorem Inv.loopPut {σ : Sig} {h : AHeap} {w : World} {m : Nat} {st : LSt} {L : Loop} (hI : Inv N0 w0 σ h w) (hm : h.get m = .loop st) (hl : (σ m).lp = some L) (st' : LSt) :
    Inv N0 w0 σ (h.set m (.loop st')) (w.putObj (σ m).blk (.loop { L with state := st'.st, pending := st'.pend })) ∧ Go' σ h w σ (h.set m (.loop st')) (w.putObj (σ m).blk (.loop { L with state := st'.st, pending := st'.pend })) := by
  have hlt : (σ m).blk < w.heap.size := hI.lt_size (by rw [hm]; rfl)
  exact hI.write m (.loop st') (by rw [hm]; rfl) ⟨L, hl, World.putObj_heap_same hlt⟩ rfl rfl rfl rfl World.putObj_size (fun b hb => World.putObj_heap_other hb)

theorem sig_of_go {σ σ' : Sig} {h h' : AHeap} {w w' : World} (g : Go' σ h w σ' h' w') {m : Nat} (hm : m < h.next) : σ' m = σ m := g.sig m hm

/-- One round of a loop, soundly compiled. -/
theorem round_sound {callR : RoundT → CallT} {L : Nat} {asg bdy : Code} {as bd : ACode} (hsA : SoundC P pk call callR N L true asg as) (hsB : SoundC P pk call callR N L true bdy bd)
    {ps : Array Nat} (hps : ps.toList.all (fun p => decide (p < N)) = true) {rnd : RoundT} {σ0 : Sig} {n0 : Nat} (hrd : RoundOk P N0 w0 σ0 n0 rnd)
    {T : Tr Value} {m : Nat} {σ1 : Sig} {n1 : Nat} (hn : n0 ≤ n1) (hs1 : ∀ j, j < n0 → σ1 j = σ0 j) (hm : m < n1) {Lp : Loop} (hlp : (σ1 m).lp = some Lp) (hpp : Lp.params = ps) (hpa : Lp.assign = asg) (hpb : Lp.body = bdy)
    (hT : TR N m σ1 T Lp.tmps) : RoundOk P N0 w0 σ1 n1 (aRound m ps.toList (exec pk call callR rnd L as) (exec pk call callR rnd L bd) T rnd) := by
  intro m' args h r h' hr σ w cargs hI hnh hsj hargs
  unfold aRound at hr
  split at hr
  · rename_i hmm
    subst hmm
    split at hr
    · rename_i hready
      split at hr
      · rename_i hlen
        split at hr
        · rename_i T1 h1 hfa
          split at hr
          · rename_i hready1
            split at hr
            · rename_i e T2 h2 hfb
              have hlpσ : (σ m').lp = some Lp := by rw [hsj m' hm]; exact hlp
              have hobj := hI.loopAt hready hlpσ
              have hmn : m' < h.next := Nat.lt_of_lt_of_le hm hnh
              have hcl : cargs.length = ps.toList.length := by rw [← hargs.1]; exact hlen
              refine ⟨Lp.fn, (Lp.params.zip cargs.toArray).foldl (fun tmps (p : Nat × Value) => tmps.setIfInBounds p.1 p.2) Lp.tmps, asg, bdy, ?_, ?_⟩
              · exact (run_yield (args := cargs.toArray) hobj (by simp only [hpp]; simpa using hcl)).trans (by simp only [hpa, hpb])
              · refine roundIn_of_wpIn (F := Fence.wide) trivial ?_
                -- the temporaries
                have hT0 : TR N h.next σ T Lp.tmps := hT.mono' (Nat.le_of_lt hmn) (fun j hj => hsj j (Nat.lt_trans hj.1 hm))
                have hT1 := putAll_rel ps.toList args cargs T Lp.tmps hps hT0 hargs hlen
                have hT2 : TR N h.next σ (putAll ps.toList args T) ((Lp.params.zip cargs.toArray).foldl (fun tmps (p : Nat × Value) => tmps.setIfInBounds p.1 p.2) Lp.tmps) := by
                  rw [hpp, ← Array.foldl_toList, Array.toList_zip]
                  exact hT1
                have hA : At P N0 w0 N w.heap.size rnd σ0 n0 σ h w (putAll ps.toList args T) { tmps := (Lp.params.zip cargs.toArray).foldl (fun tmps (p : Nat × Value) => tmps.setIfInBounds p.1 p.2) Lp.tmps, defers := [] } :=
                  ⟨hrd, Nat.le_trans hn hnh, fun j hj => (hsj j (Nat.lt_of_lt_of_le hj hn)).trans (hs1 j hj), hI.base, Nat.le_refl _, hI, hT2, DOK.nil⟩
                refine hsA (some (σ m').blk) (fun e => by cases e) rnd N0 w0 _ h .normal T1 h1 hfa w.heap.size σ0 n0 σ w _ _ hA ?_
                intro σ' w' tm' ds' i1 i2 i3 i4
                -- beginRound
                have hsm : σ' m' = σ m' := i3.sig m' hmn
                have hlp' : (σ' m').lp = some Lp := by rw [hsm]; exact hlpσ
                have hobj' := i1.loopAt hready1 hlp'
                rw [hsm] at hobj'
                obtain ⟨p1, p2⟩ := i1.loopPut hready1 hlp' .busy
                rw [hsm] at p1 p2
                refine ⟨_, run_beginRound hobj' rfl, ?_⟩
                have hgo1 := i3.trans p2
                have hmn1 : m' < h1.next := Nat.lt_of_lt_of_le hmn i3.next
                have hA2 : At P N0 w0 N w.heap.size rnd σ0 n0 σ' (h1.set m' (.loop .busy)) (w'.putObj (σ m').blk (.loop { Lp with state := .busy, pending := none })) T1 { tmps := tm', defers := ds' } :=
                  hA.go hgo1 p1 i2 (i4.go p2)
                refine hsB (some (σ m').blk) (fun e => by cases e) rnd N0 w0 T1 _ e T2 h2 hfb w.heap.size σ0 n0 σ' _ _ _ hA2 ?_
                intro σ2 w2 tm2 ds2 k1 k2 k3 k4
                have hsm2 : σ2 m' = σ m' := (k3.sig m' hmn1).trans hsm
                have hlp2 : (σ2 m').lp = some Lp := by rw [hsm2]; exact hlpσ
                have hgo2 := hgo1.trans k3
                have fin : ∀ (st' : LSt) (jump : Option Code) (hbusy : h2.get m' = .loop .busy) (hj : st'.pend = jump) (hst : st'.st = if jump.isNone then .ready else .done),
                    ∃ v w3, (Instr.endRound (σ m').blk jump).run P w2 = .ok v w3 ∧ (∃ σ' cr, Ending.returned v = .returned cr ∧ VR (h2.set m' (.loop st')).next σ' (.bool jump.isNone) cr ∧ Inv N0 w0 σ' (h2.set m' (.loop st')) w3 ∧ Go' σ h w σ' (h2.set m' (.loop st')) w3) := by
                  intro st' jump hbusy hj hst
                  have ho := k1.loopAt hbusy hlp2
                  obtain ⟨q1, q2⟩ := k1.loopPut hbusy hlp2 st'
                  rw [hsm2] at ho q1 q2
                  refine ⟨_, _, run_endRound jump ho, σ2, _, rfl, .bool _, ?_, ?_⟩
                  · rw [hj, hst] at q1; exact q1
                  · rw [hj, hst] at q2; exact hgo2.trans q2
                split at hr
                · rename_i hb2 _
                  simp only [Option.some.injEq, Prod.mk.injEq] at hr
                  obtain ⟨rfl, rfl⟩ := hr
                  exact fin .ready none (by assumption) rfl rfl
                · simp only [Option.some.injEq, Prod.mk.injEq] at hr
                  obtain ⟨rfl, rfl⟩ := hr
                  exact fin .ret (some .ret) (by assumption) rfl rfl
                · rename_i id _
                  simp only [Option.some.injEq, Prod.mk.injEq] at hr
                  obtain ⟨rfl, rfl⟩ := hr
                  exact fin (.exit id) (some (.exit id)) (by assumption) rfl rfl
                · cases hr
            · cases hr
          · cases hr
        · cases hr
      · cases hr
    · cases hr
  · exact hrd m' args h r h' hr σ w cargs hI (Nat.le_trans hn hnh) (fun j hj => (hsj j (Nat.lt_of_lt_of_le hj hn)).trans (hs1 j hj)) hargs

/-- A range over a function, at the outermost. -/
theorem rangeF_sound {callR : RoundT → CallT} (hcr : CallRSound P callR) {L : Nat} {g : Operand} {ps : Array Nat} {asg bdy : Code} {as bd : ACode} (hok : opdOk g = true) (hps : ps.toList.all (fun p => decide (p < N)) = true)
    (hsA : SoundC P pk call callR N L true asg as) (hsB : SoundC P pk call callR N L true bdy bd) : SoundC P pk call callR N L false (.rangeFunc g ps asg bdy) (.rangeF g ps.toList as bd) := by
  intro ro hro rnd N0 w0 T h e T' h' hx B σ0 n0 σ w a Q hA hQ
  have hro' := hro rfl
  subst hro'
  have hI := hA.inv
  have hev := hA.tmp.eval (a := a) rfl hok
  simp only [exec] at hx
  split at hx
  · rename_i f p q hp
    rw [hp] at hev
    have h2 : ∃ p' q', a.eval g = .func (.func f) p' q' ∧ VRL h.next σ p.toList p'.toList ∧ VRL h.next σ q.toList q'.toList := by
      generalize a.eval g = z at hev
      cases hev with
      | func _ _ _ p' _ q' hsp hsq hpv hqv => exact ⟨p', q', rfl, ⟨by simpa using hsp, fun i x x' e e' => hpv i x x' (by simpa using e) (by simpa using e')⟩, ⟨by simpa using hsq, fun i x x' e e' => hqv i x x' (by simpa using e) (by simpa using e')⟩⟩
    obtain ⟨p', q', h3, h4, h5⟩ := h2
    split at hx
    · rename_i v h1 hcall
      obtain ⟨hcok, hruns⟩ := hcr _ _ _ _ _ _ hcall
      refine wpIn_rangeFunc (F := FW none) fun fn _ => ?_
      -- the record and the block
      obtain ⟨w1, hw1⟩ : ∃ w1, w1 = (w.alloc (.deferred (some []))).alloc (.loop { state := .ready, pending := none, fn, tmps := a.tmps, params := ps, assign := asg, body := bdy, defers := w.heap.size }) := ⟨_, rfl⟩
      obtain ⟨Lp, hLp⟩ : ∃ Lp : Loop, Lp = { state := .ready, pending := none, fn, tmps := a.tmps, params := ps, assign := asg, body := bdy, defers := w.heap.size } := ⟨_, rfl⟩
      have hent := run_enterLoop_outer (P := P) (w := w) fn a.tmps ps asg bdy
      rw [← hLp] at hent hw1
      rw [← hw1] at hent
      have hres : (resolve a.eval (rangeCall g (w.heap.size + 1)) 0).run P w1 = .ok ⟨.fn (.func f) q', p' ++ #[.func (.yield (w.heap.size + 1)) #[] #[]]⟩ w1 := by
        have e1 : a.eval (.const (.func (.yield (w.heap.size + 1)) #[] #[])) = .func (.yield (w.heap.size + 1)) #[] #[] := rfl
        simp [resolve, rangeCall, h3, Deferred.ofValue, e1]
      refine ⟨w.heap.size + 1, [{ target := .collected w.heap.size, args := #[] }], w1, _, w1, f, p' ++ #[.func (.yield (w.heap.size + 1)) #[] #[]] ++ q', w1, hent, hres, fun _ _ => trivial, ?_, (fun hh => by cases hh), ?_⟩
      · simp only [invoke]
        exact callFunc_run hcok
      · -- the abstract state behind
        have hwa : Inv N0 w0 σ h (w.alloc (.deferred (some []))) := by
          refine hI.world ⟨rfl, rfl, rfl, by rw [World.size_alloc]; omega, fun k hk => ?_⟩ (fun m hl => ?_)
          · show (w.heap.push _)[k]? = w.heap[k]?
            rw [Array.getElem?_push, if_neg (by have := hI.base; omega)]
          · show (w.heap.push _)[_]? = w.heap[_]?
            rw [Array.getElem?_push, if_neg (by have := hI.lt_size hl; omega)]
        have hga : Go' σ h w σ h (w.alloc (.deferred (some []))) := by
          refine ⟨Nat.le_refl _, fun _ _ => rfl, by rw [World.size_alloc]; omega, fun b hb _ => ?_, fun b hb => .inl hb⟩
          show (w.heap.push _)[b]? = w.heap[b]?
          rw [Array.getElem?_push, if_neg (by omega)]
        have hsza : (w.alloc (.deferred (some []))).heap.size = w.heap.size + 1 := World.size_alloc _ _
        obtain ⟨n1, n2⟩ := hwa.new (.loop .ready) (.loop Lp) none rfl (lp := some Lp) (by
          refine ⟨Lp, rfl, ?_⟩
          show ((w.alloc (.deferred (some []))).heap.push (.loop Lp))[(w.alloc (.deferred (some []))).heap.size]? = _
          rw [Array.getElem?_push_size, hLp]
          rfl)
        rw [hsza] at n1 n2
        have hw1' : ({ w.alloc (.deferred (some [])) with heap := (w.alloc (.deferred (some []))).heap.push (.loop Lp) } : World) = w1 := by rw [hw1]; rfl
        rw [hw1'] at n1 n2
        obtain ⟨σ1, hσ1⟩ : ∃ σ1, σ1 = σ.put h.next ⟨w.heap.size + 1, 0, none, true, some Lp⟩ := ⟨_, rfl⟩
        rw [← hσ1] at n1 n2
        have hgo1 := hga.trans n2
        have hput : σ1 h.next = ⟨w.heap.size + 1, 0, none, true, some Lp⟩ := by rw [hσ1]; exact Sig.put_same _ _ _
        have hold : ∀ j, j < h.next → σ1 j = σ j := fun j hj => hgo1.sig j hj
        have hrd : RoundOk P N0 w0 σ1 (h.new (.loop .ready)).next (aRound h.next ps.toList (exec pk call callR rnd L as) (exec pk call callR rnd L bd) T rnd) := by
          refine round_sound hsA hsB hps hA.rd (Nat.le_trans hA.le0 (by simp)) (fun j hj => (hold j (Nat.lt_of_lt_of_le hj hA.le0)).trans (hA.s0 j hj)) (by simp) (by rw [hput]) (by rw [hLp]) (by rw [hLp]) (by rw [hLp]) ?_
          rw [hLp]
          exact hA.tmp.mono' (Nat.le_refl _) (fun j hj => hold j hj.1)
        have hargs : VRL (h.new (.loop .ready)).next σ1 (p.toList ++ Value.func (.yield h.next) #[] #[] :: q.toList) (p' ++ #[Value.func (.yield (w.heap.size + 1)) #[] #[]] ++ q').toList := by
          have y1 : VR (h.new (.loop .ready)).next σ1 (.func (.yield h.next) #[] #[]) (.func (.yield (w.heap.size + 1)) #[] #[]) := by
            have := VR.yld (n := (h.new (.loop .ready)).next) (σ := σ1) h.next ⟨by simp, by rw [hput]⟩
            rw [hput] at this; exact this
          have m4 := h4.mono' (n' := (h.new (.loop .ready)).next) (σ' := σ1) (by simp) (fun j hj => hold j hj.1)
          have m5 := h5.mono' (n' := (h.new (.loop .ready)).next) (σ' := σ1) (by simp) (fun j hj => hold j hj.1)
          have := m4.append (VRL.cons y1 m5)
          simpa using this
        have hc := hruns N0 w0 σ1 w1 _ hrd n1 hargs
        rw [Array.toArray_toList] at hc
        refine callsIn_wide.2 (hc.mono ?_)
        rintro e' w3 ⟨σ2, cr, rfl, _, k1, k2⟩
        -- the loop's end
        have hsm2 : σ2 h.next = ⟨w.heap.size + 1, 0, none, true, some Lp⟩ := (k2.sig h.next (by simp)).trans hput
        have hle : h.next < h1.next := Nat.lt_of_lt_of_le (by simp) k2.next
        have fin : ∀ (st : LSt), h1.get h.next = .loop st → st.st ≠ .busy → ∀ (e0 : AExit), some (e0, T, h1.set h.next .dead) = some (e, T', h') →
            (match st.pend with | none => e0 = .normal | some c => (c = .ret ∧ e0 = .ret) ∨ ∃ id, c = .exit id ∧ e0 = .exit id) →
            rangePost (FW none) 0 P (w.heap.size + 1) Q { a with defers := [{ target := .collected w.heap.size, args := #[] }] ++ a.defers } (.returned cr) w3 := by
          intro st hst hnb e0 hx hj
          simp only [Option.some.injEq, Prod.mk.injEq] at hx
          obtain ⟨rfl, rfl, rfl⟩ := hx
          have hobj := k1.loopAt hst (by rw [hsm2])
          rw [hsm2] at hobj
          simp only at hobj
          have hend := run_endLoop (P := P) hobj hnb
          simp only at hend
          -- the object is gone
          obtain ⟨w4, hw4⟩ : ∃ w4, w4 = w3.putObj (w.heap.size + 1) (.loop { Lp with state := .exhausted, pending := st.pend }) := ⟨_, rfl⟩
          rw [← hw4] at hend
          obtain ⟨d1, d2⟩ := k1.kill h.next hle
          have hother : ∀ k, k ≠ w.heap.size + 1 → w4.heap[k]? = w3.heap[k]? := fun k hk => by rw [hw4]; exact World.putObj_heap_other hk
          have hI4 : Inv N0 w0 σ2 (h1.set h.next .dead) w4 := by
            refine d1.world ⟨by rw [hw4]; rfl, by rw [hw4]; rfl, by rw [hw4]; rfl, by rw [hw4]; simp, fun k hk => hother k (by have := hI.base; omega)⟩ (fun m hl => ?_)
            refine hother _ ?_
            have hne : m ≠ h.next := fun e => by subst e; rw [AHeap.get_set, if_pos rfl] at hl; cases hl
            rw [AHeap.get_set, if_neg hne] at hl
            have := k1.inj h.next m (by rw [hst]; rfl) hl hne.symm
            rw [hsm2] at this
            exact fun e => this e.symm
          have hgo3 := hgo1.trans k2
          have hgo : Go' σ h w σ2 (h1.set h.next .dead) w4 := by
            refine ⟨hgo3.next, hgo3.sig, by rw [hw4]; simpa using hgo3.size, fun b hb hn => by rw [hother b (by omega)]; exact hgo3.frame b hb hn, ?_⟩
            intro b hb
            obtain ⟨m, hm, hmb⟩ := hb
            rw [AHeap.get_set] at hm
            split at hm
            · cases hm
            · exact hgo3.own b ⟨m, hm, hmb⟩
          have hTR : TR N (h1.set h.next .dead).next σ2 T a.tmps := hA.tmp.go hgo
          -- the marks
          have hd1 : w1.heap[w.heap.size]? = some (.deferred (some [])) := by
            rw [hw1]
            show ((w.heap.push _).push _)[_]? = _
            rw [Array.getElem?_push, if_neg (by simp)]
            simp
          have hnown : ¬ Owned σ1 (h.new (.loop .ready)) w.heap.size := by
            rintro ⟨m, hm, hb⟩
            by_cases e : m = h.next
            · subst e; rw [hput] at hb; simp at hb
            · rw [AHeap.get_new, if_neg e] at hm
              have hl : (h.get m).live = true := by revert hm; cases h.get m <;> simp [AObj.own, AObj.live]
              have h6 := hI.lt_size hl
              have h7 := hI.lt_next hl
              rw [hold m h7] at hb
              omega
          have hd0 : DOK B σ1 (h.new (.loop .ready)) w1 ([{ target := .collected w.heap.size, args := #[] }] ++ a.defers) := by
            have h6 := hA.dfr.go hgo1
            refine ⟨fun d hd => ?_, ?_⟩
            · rcases List.mem_append.1 hd with hd | hd
              · simp only [List.mem_singleton] at hd
                subst hd
                exact ⟨w.heap.size, rfl, hd1, hA.high, hnown⟩
              · exact h6.1 d hd
            · rw [List.singleton_append, List.pairwise_cons]
              refine ⟨fun d hd e => ?_, h6.2⟩
              obtain ⟨r, q1, q2, _⟩ := hA.dfr.1 d hd
              rw [q1] at e
              injection e with e
              have := (Array.getElem?_eq_some_iff.1 q2).1
              omega
          have hd4 : DOK B σ2 (h1.set h.next .dead) w4 ([{ target := .collected w.heap.size, args := #[] }] ++ a.defers) := by
            have h6 := hd0.go k2
            refine ⟨fun d hd => ?_, h6.2⟩
            obtain ⟨r, q1, q2, q3, q4⟩ := h6.1 d hd
            refine ⟨r, q1, ?_, q3, fun ho => q4 ?_⟩
            · rw [hother r ?_]; exact q2
              intro e
              subst e
              rw [hobj] at q2; cases q2
            · obtain ⟨m, hm, hmb⟩ := ho
              rw [AHeap.get_set] at hm
              split at hm
              · cases hm
              · exact ⟨m, hm, hmb⟩
          have hq := hQ σ2 w4 a.tmps _ hI4 hTR hgo hd4
          refine ⟨st.pend, w4, hend, ?_⟩
          cases hpd : st.pend with
          | none => rw [hpd] at hj; simp only at hj; subst hj; exact hq
          | some c =>
            rw [hpd] at hj
            rcases hj with ⟨rfl, rfl⟩ | ⟨id, rfl, rfl⟩
            · exact wpIn_ret hq
            · exact wpIn_exit hq
        split at hx
        · exact fin .ready (by assumption) (by simp [LSt.st]) .normal hx rfl
        · exact fin .ret (by assumption) (by simp [LSt.st]) .ret hx (.inl ⟨rfl, rfl⟩)
        · rename_i id _
          exact fin (.exit id) (by assumption) (by simp [LSt.st]) (.exit id) hx (.inr ⟨id, rfl, rfl⟩)
        · cases hx
    · cases hx
  · cases hx

end
end
end Go.AM
