import Derived.Test.YtoehafeeoggpkaaAM19
set_option linter.unusedVariables false
set_option linter.unusedSimpArgs false
/-! Part 19 B: code, functions: the executor is sound, but for regions whose order is open (a hypothesis here). -/
namespace Go.AM
noncomputable section
open Go.RowKit
section
variable {N0 : Nat} {w0 : World} {P : Program} {N : Nat} {pk : Bool} {call : CallT} {callR : RoundT → CallT}

theorem code_sound (hcs : CallSound P call) (hcr : CallRSound P callR) (hds : DrawSound P pk call N) (L : Nat) : ∀ (inR : Bool) (c : Code) (ac : ACode), compC P N inR c = some ac → SoundC P pk call callR N L inR c ac
  | inR, .skip, ac, hc => by
    simp only [compC, Option.some.injEq] at hc; subst hc
    intro ro hro rnd N0 w0 T h e T' h' hx B σ0 n0 σ w a Q hA hQ
    simp only [exec, Option.some.injEq, Prod.mk.injEq] at hx
    obtain ⟨rfl, rfl, rfl⟩ := hx
    exact wpIn_skip (hQ σ w a.tmps a.defers hA.inv hA.tmp (.refl _ _ _) hA.dfr)
  | inR, .region id ops false, ac, hc => by
    simp only [compC] at hc
    obtain ⟨rs, hrs, rfl⟩ := obind hc
    intro ro hro rnd N0 w0 T h e T' h' hx B σ0 n0 σ w a Q hA hQ
    simp only [exec] at hx
    split at hx
    · rename_i T1 h1 h2
      simp only [Option.some.injEq, Prod.mk.injEq] at hx
      obtain ⟨rfl, rfl, rfl⟩ := hx
      refine wpIn_region_list (seq_wp hcs hA.rd ops.toList rs σ T T1 h h1 a w hrs h2 hA.le0 hA.s0 hA.inv hA.tmp ?_)
      intro σ' w' tm' i1 i2 i3
      exact hQ σ' w' tm' a.defers i1 i2 i3 (hA.dfr.go i3)
    · cases hx
  | inR, .region id ops true, ac, hc => by
    simp only [compC] at hc
    obtain ⟨p, hp, he⟩ := obind hc
    intro ro hro rnd N0 w0 T h e T' h' hx B σ0 n0 σ w a Q hA hQ
    have key : ∀ T1 h1, aDraw pk call rnd p.1 p.2 T h = some (T1, h1) → e = .normal → T1 = T' → h1 = h' → (Code.region id ops true).wpIn (FW ro) 0 P Q a w := by
      intro T1 h1 h2 e1 e2 e3
      subst e1; subst e2; subst e3
      refine hds id ops p.1 p.2 hp ro rnd T T1 h h1 h2 N0 w0 σ0 n0 σ w a Q hA.rd hA.le0 hA.s0 hA.inv hA.tmp ?_
      intro σ' w' tm' i1 i2 i3
      exact hQ σ' w' tm' a.defers i1 i2 i3 (hA.dfr.go i3)
    split at he
    · rename_i hfl
      subst he
      simp only [exec] at hx
      split at hx
      · rename_i T1 h1 h2
        simp only [Option.some.injEq, Prod.mk.injEq] at hx
        obtain ⟨r1, r2, r3⟩ := hx
        exact key T1 h1 (by rw [hfl.1]; exact aDraw_flat hfl.2 h2) r1.symm r2 r3
      · cases hx
    · subst he
      simp only [exec] at hx
      split at hx
      · rename_i T1 h1 h2
        simp only [Option.some.injEq, Prod.mk.injEq] at hx
        obtain ⟨r1, r2, r3⟩ := hx
        exact key T1 h1 h2 r1.symm r2 r3
      · cases hx
  | inR, .seq x y, ac, hc => by
    simp only [compC] at hc
    split at hc
    · rename_i x' y' hx' hy'
      injection hc with hc; subst hc
      intro ro hro rnd N0 w0 T h e T' h' hx B σ0 n0 σ w a Q hA hQ
      simp only [exec] at hx
      split at hx
      · rename_i T1 h1 h2
        refine wpIn_seq (code_sound hcs hcr hds L inR x x' hx' ro hro rnd N0 w0 T h .normal T1 h1 h2 B σ0 n0 σ w a _ hA ?_)
        intro σ' w' tm' ds' i1 i2 i3 i4
        exact code_sound hcs hcr hds L inR y y' hy' ro hro rnd N0 w0 T1 h1 e T' h' hx B σ0 n0 σ' w' _ Q (hA.go i3 i1 i2 i4) (hQ.go i3)
      · rename_i hne
        refine wpIn_seq (code_sound hcs hcr hds L inR x x' hx' ro hro rnd N0 w0 T h e T' h' hx B σ0 n0 σ w a _ hA ?_)
        intro σ' w' tm' ds' i1 i2 i3 i4
        cases e with
        | normal => exact absurd hx (hne T' h')
        | exit id => exact hQ σ' w' tm' ds' i1 i2 i3 i4
        | ret => exact hQ σ' w' tm' ds' i1 i2 i3 i4
    · cases hc
  | inR, .cond cd x y, ac, hc => by
    simp only [compC] at hc
    split at hc
    · rename_i hok
      split at hc
      · rename_i x' y' hx' hy'
        injection hc with hc; subst hc
        intro ro hro rnd N0 w0 T h e T' h' hx B σ0 n0 σ w a Q hA hQ
        have hev := hA.tmp.eval (a := a) rfl hok
        simp only [exec] at hx
        split at hx
        · rename_i hb
          rw [hb] at hev
          have hev' : a.eval cd = .bool true := by generalize a.eval cd = z at hev; cases hev; rfl
          exact wpIn_cond_true hev' (code_sound hcs hcr hds L inR x x' hx' ro hro rnd N0 w0 T h e T' h' hx B σ0 n0 σ w a Q hA hQ)
        · rename_i hb
          rw [hb] at hev
          have hev' : a.eval cd = .bool false := by generalize a.eval cd = z at hev; cases hev; rfl
          exact wpIn_cond_false hev' (code_sound hcs hcr hds L inR y y' hy' ro hro rnd N0 w0 T h e T' h' hx B σ0 n0 σ w a Q hA hQ)
        · cases hx
      · cases hc
    · cases hc
  | inR, .block id b, ac, hc => by
    simp only [compC] at hc
    obtain ⟨b', hb', rfl⟩ := obind hc
    intro ro hro rnd N0 w0 T h e T' h' hx B σ0 n0 σ w a Q hA hQ
    simp only [exec] at hx
    split at hx
    · rename_i i T1 h1 h2
      refine wpIn_block (code_sound hcs hcr hds L inR b b' hb' ro hro rnd N0 w0 T h (.exit i) T1 h1 h2 B σ0 n0 σ w a _ hA ?_)
      intro σ' w' tm' ds' i1 i2 i3 i4
      split at hx
      · rename_i hi
        simp only [Option.some.injEq, Prod.mk.injEq] at hx
        obtain ⟨rfl, rfl, rfl⟩ := hx
        simp only [exitOf, Exit.inBlock, hi, if_true]
        exact hQ σ' w' tm' ds' i1 i2 i3 i4
      · rename_i hi
        simp only [Option.some.injEq, Prod.mk.injEq] at hx
        obtain ⟨rfl, rfl, rfl⟩ := hx
        simp only [exitOf, Exit.inBlock, hi, if_false]
        exact hQ σ' w' tm' ds' i1 i2 i3 i4
    · rename_i hne
      refine wpIn_block (code_sound hcs hcr hds L inR b b' hb' ro hro rnd N0 w0 T h e T' h' hx B σ0 n0 σ w a _ hA ?_)
      intro σ' w' tm' ds' i1 i2 i3 i4
      cases e with
      | normal => exact hQ σ' w' tm' ds' i1 i2 i3 i4
      | exit i => exact absurd hx (hne i T' h')
      | ret => exact hQ σ' w' tm' ds' i1 i2 i3 i4
  | inR, .loop b, ac, hc => by
    simp only [compC] at hc
    obtain ⟨b', hb', rfl⟩ := obind hc
    intro ro hro rnd N0 w0 T h e T' h' hx B σ0 n0 σ w a Q hA hQ
    simp only [exec] at hx
    exact wpIn_loop_rounds L (rounds_sound (code_sound hcs hcr hds L inR b b' hb') ro hro rnd N0 w0 L T h e T' h' hx B σ0 n0 σ w a Q hA hQ)
  | inR, .exit id, ac, hc => by
    simp only [compC, Option.some.injEq] at hc; subst hc
    intro ro hro rnd N0 w0 T h e T' h' hx B σ0 n0 σ w a Q hA hQ
    simp only [exec, Option.some.injEq, Prod.mk.injEq] at hx
    obtain ⟨rfl, rfl, rfl⟩ := hx
    exact wpIn_exit (hQ σ w a.tmps a.defers hA.inv hA.tmp (.refl _ _ _) hA.dfr)
  | inR, .ret, ac, hc => by
    simp only [compC, Option.some.injEq] at hc; subst hc
    intro ro hro rnd N0 w0 T h e T' h' hx B σ0 n0 σ w a Q hA hQ
    simp only [exec, Option.some.injEq, Prod.mk.injEq] at hx
    obtain ⟨rfl, rfl, rfl⟩ := hx
    exact wpIn_ret (hQ σ w a.tmps a.defers hA.inv hA.tmp (.refl _ _ _) hA.dfr)
  | false, .rangeFunc g ps asg bdy, ac, hc => by
    simp only [compC] at hc
    split at hc
    · rename_i hok
      simp only [Bool.and_eq_true] at hok
      split at hc
      · rename_i x y hx hy
        injection hc with hc; subst hc
        exact rangeF_sound hcr hok.1 hok.2 (code_sound hcs hcr hds L true asg x hx) (code_sound hcs hcr hds L true bdy y hy)
      · cases hc
    · cases hc
  | true, .rangeFunc .., ac, hc => by simp [compC] at hc
  | inR, .scope _, ac, hc => by cases inR <;> simp [compC] at hc
  | inR, .label _, ac, hc => by cases inR <;> simp [compC] at hc
  | inR, .goto _, ac, hc => by cases inR <;> simp [compC] at hc
  | inR, .refuse _, ac, hc => by cases inR <;> simp [compC] at hc

theorem argsT_get : ∀ (l : List Value) (i : Nat) (T : Tr Value) (j : Nat), (argsT i l T).get j = if i ≤ j ∧ j < i + l.length then l[j - i]? else T.get j
  | [], i, T, j => by simp only [argsT, List.length_nil]; rw [if_neg (by omega)]
  | v :: l, i, T, j => by
    simp only [argsT, argsT_get l (i + 1) _ j, Tr.get_set, List.length_cons]
    by_cases h1 : i + 1 ≤ j ∧ j < i + 1 + l.length
    · rw [if_pos h1, if_pos (by omega), show j - i = (j - (i + 1)) + 1 by omega, List.getElem?_cons_succ]
    · rw [if_neg h1]
      by_cases h2 : j = i
      · subst h2; rw [if_pos rfl, if_pos (by omega), Nat.sub_self]; rfl
      · rw [if_neg h2, if_neg (by omega)]

/-- What one result variable reads. -/
def resOne (tm : Array Value) : ResultVar → Sem Value
  | .tmp t => pure (tm.getD t undef)
  | .cell a t => do loadVar t (← asAddr (tm.getD a undef))
theorem res_run {σ : Sig} {h : AHeap} {w : World} {T : Tr Value} {tm : Array Value} (hI : Inv N0 w0 σ h w) (hT : TR N h.next σ T tm) : ∀ (rs : List ResultVar) (ar : List ARes) (l : List Value), compRes P rs = some ar → aRes T h ar = some l →
    ∃ l', (rs.mapM (resOne tm)).run P w = Result.ok l' w ∧ VRL h.next σ l l'
  | [], ar, l, hc, ha => by
    simp only [compRes, Option.some.injEq] at hc; subst hc
    simp only [aRes, Option.some.injEq] at ha; subst ha
    exact ⟨[], by simp, .nil⟩
  | ResultVar.tmp t :: rs, ar, l, hc, ha => by
    simp only [compRes] at hc
    obtain ⟨ar', har, rfl⟩ := obind hc
    simp only [aRes] at ha
    split at ha
    · rename_i l0 hl0
      injection ha with ha; subst ha
      obtain ⟨l', h1, h2⟩ := res_run hI hT rs ar' l0 har hl0
      exact ⟨tm.getD t undef :: l', by simp only [List.mapM_cons, resOne, Sem.run_bind, Sem.run_pure, Result.andThen_ok, h1], .cons (hT.2 t) h2⟩
    · cases ha
  | ResultVar.cell a t :: rs, ar, l, hc, ha => by
    simp only [compRes] at hc
    split at hc
    · rename_i n ar' hn har
      injection hc with hc; subst hc
      simp only [aRes] at ha
      split at ha
      · rename_i v l0 hv hl0
        injection ha with ha; subst ha
        obtain ⟨l', h1, h2⟩ := res_run hI hT rs ar' l0 har hl0
        obtain ⟨v', r1, r2⟩ := load_run0 (P := P) hI hn (hT.2 a) hv
        have hA : ∃ A, tm.getD a undef = .pointer (some A) := by
          unfold aLoad at hv
          split at hv
          · rename_i m o hm
            have := hT.2 a
            rw [hm] at this
            generalize tm.getD a undef = z at this
            cases this; exact ⟨_, rfl⟩
          · cases hv
        obtain ⟨A, hA⟩ := hA
        rw [hA] at r1
        have r1' : (loadVar t A).run P w = .ok v' w := by simpa [Instr.loadAt, Instr.sureAddr] using r1
        exact ⟨v' :: l', by simp only [List.mapM_cons, resOne, hA, asAddr, Sem.run_bind, Sem.run_pure, Result.andThen_ok, r1', h1], .cons r2 h2⟩
      · cases ha
    · cases hc

theorem results_run {σ : Sig} {h : AHeap} {w : World} {T : Tr Value} {tm : Array Value} {fn : Func} {ar : List ARes} {l : List Value} (hI : Inv N0 w0 σ h w) (hT : TR N h.next σ T tm) (hc : compRes P fn.results.toList = some ar) (ha : aRes T h ar = some l) :
    ∃ v', (results fn tm).run P w = .ok v' w ∧ VR h.next σ (oneOrTup l) v' := by
  obtain ⟨l', h1, h2⟩ := res_run (P := P) hI hT fn.results.toList ar l hc ha
  have e1 : (fn.results.mapM fun r => resOne tm r).run P w = Result.ok l'.toArray w := by
    rw [Array.mapM_eq_mapM_toList]
    simp [h1]
  have e2 : results fn tm = (do let vs ← fn.results.mapM (fun r => resOne tm r); pure (if h : vs.size = 1 then vs[0] else .tuple vs)) := by
    unfold results
    congr 1
  rw [e2]
  refine ⟨if h : l'.toArray.size = 1 then l'.toArray[0] else .tuple l'.toArray, by simp only [Sem.run_bind, e1, Result.andThen_ok, Sem.run_pure], ?_⟩
  have hlen := h2.1
  match l, l', h2 with
  | [], l', h2 =>
    have := h2.nil_inv; subst this
    exact VR.tup_list .nil
  | [x], l', h2 =>
    obtain ⟨x', r, rfl, h3, h4⟩ := h2.cons_inv
    have := h4.nil_inv; subst this
    exact h3
  | x :: y :: l, l', h2 =>
    obtain ⟨x', r, rfl, h3, h4⟩ := h2.cons_inv
    obtain ⟨y', r, rfl, h5, h6⟩ := h4.cons_inv
    have := VR.tup_list h2
    simpa [oneOrTup] using this

/-- The marks are taken, one by one; then the results are read. -/
theorem leaves_marks {fn : Func} {tm : Array Value} {R : Ending → World → Prop} {B : Nat} {σ : Sig} {h : AHeap} (hB : N0 ≤ B) : ∀ (ds : List Deferred) (w : World), Inv N0 w0 σ h w → DOK B σ h w ds →
    (∀ w', Inv N0 w0 σ h w' → (∀ σ0 h0 w00, w00.heap.size ≤ B → Go' σ0 h0 w00 σ h w → Go' σ0 h0 w00 σ h w') → ∃ v, (results fn tm).run P w' = .ok v w' ∧ R (.returned v) w') → LeavesInM (FW none) 0 P fn tm R ds .returning w
  | [], w, hI, hd, hR => hR w hI (fun _ _ _ _ g => g)
  | d :: ds, w, hI, hd, hR => by
    obtain ⟨r, h1, h2, h3, h4⟩ := hd.1 d (by simp)
    have hp := List.pairwise_cons.1 hd.2
    have hother : ∀ k, k ≠ r → (w.putObj r (.deferred none)).heap[k]? = w.heap[k]? := fun k hk => World.putObj_heap_other hk
    have hI' : Inv N0 w0 σ h (w.putObj r (.deferred none)) := by
      refine hI.world ⟨rfl, rfl, rfl, by simp, fun k hk => hother k (by omega)⟩ (fun m hl => hother _ ?_)
      intro e
      cases ho : (h.get m).own with
      | true => exact h4 ⟨m, ho, e⟩
      | false => have := hI.high m hl ho; omega
    refine ⟨(fun e => by cases e), .inl ⟨r, _, h1, run_takeDeferred h2, leaves_marks hB ds _ hI' ⟨fun x hx => ?_, hp.2⟩ ?_⟩⟩
    · obtain ⟨r', q1, q2, q3, q4⟩ := hd.1 x (by simp [hx])
      refine ⟨r', q1, ?_, q3, q4⟩
      rw [hother r' ?_]; exact q2
      intro e
      subst e
      exact hp.1 x hx (by rw [h1, q1])
    · intro w' hI'' hg
      refine hR w' hI'' (fun σ0 h0 w00 hw g => hg σ0 h0 w00 hw ?_)
      exact ⟨g.next, g.sig, by simpa using g.size, fun b hb hn => by rw [hother b (by omega)]; exact g.frame b hb hn, g.own⟩

theorem runF_sound (hcs : CallSound P call) (hcr : CallRSound P callR) (hds : ∀ N, DrawSound P pk call N) (L : Nat) {f : FuncId} {af : AFunc} (hc : compF P f = some af) {rnd : RoundT} {args : List Value} {h h' : AHeap} {r : Value} (hr : runF pk call callR rnd L af args h = some (r, h')) :
    ∀ (N0 : Nat) (w0 : World) (σ : Sig) (w : World) (cargs : List Value), RoundOk P N0 w0 σ h.next rnd → Inv N0 w0 σ h w → VRL h.next σ args cargs →
    Calls P f cargs.toArray w fun e w' => ∃ σ' cr, e = .returned cr ∧ VR h'.next σ' r cr ∧ Inv N0 w0 σ' h' w' ∧ Go' σ h w σ' h' w' := by
  unfold compF at hc
  split at hc
  · rename_i fn hf
    split at hc
    · rename_i hnt
      split at hc
      · rename_i b hb
        split at hc
        · rename_i c rr hcc hrr
          injection hc with hc; subst hc
          unfold runF at hr
          split at hr
          · rename_i hlen
            simp only at hlen
            intro N0 w0 σ w cargs hrd hI hargs
            have hsz : cargs.length = fn.params.size + fn.nfree := by rw [← hargs.1, hlen]
            have hT0 : TR fn.ntmps h.next σ (argsT 0 args .leaf) (cargs.toArray ++ Array.replicate (fn.ntmps - cargs.toArray.size) undef) := by
              refine ⟨by simp; omega, fun i => ?_⟩
              rw [argsT_get]
              simp only [Nat.zero_le, true_and, Nat.zero_add, Nat.sub_zero, Tr.get_leaf]
              by_cases hi : i < args.length
              · rw [if_pos hi]
                have hi2 : i < cargs.length := by rw [← hargs.1]; exact hi
                have := hargs.2 i _ _ (List.getElem?_eq_getElem hi) (List.getElem?_eq_getElem hi2)
                rw [List.getElem?_eq_getElem hi]
                simpa [Array.getD_eq_getD_getElem?, Array.getElem?_append, hi2] using this
              · rw [if_neg hi]
                have hi2 : ¬ i < cargs.length := by rw [← hargs.1]; exact hi
                have : (cargs.toArray ++ Array.replicate (fn.ntmps - cargs.toArray.size) undef).getD i undef = undef := by
                  simp only [Array.getD_eq_getD_getElem?, Array.getElem?_append]
                  rw [if_neg (by simpa using hi2)]
                  rw [Array.getElem?_replicate]
                  split <;> rfl
                rw [this]
                exact VR.undef
            have key : ∀ e T1 h1, exec pk call callR rnd L c (argsT 0 args .leaf) h = some (e, T1, h1) → (e = .normal ∨ e = .ret) → (∃ l, aRes T1 h1 rr = some l ∧ oneOrTup l = r ∧ h1 = h') →
                Calls P f cargs.toArray w fun e w' => ∃ σ' cr, e = .returned cr ∧ VR h'.next σ' r cr ∧ Inv N0 w0 σ' h' w' ∧ Go' σ h w σ' h' w' := by
              intro e T1 h1 hex he hl
              obtain ⟨l, hl1, rfl, rfl⟩ := hl
              refine callsIn_wide.1 (callsIn_of_wp_marks (F := FW none) (n := 0) hf hb trivial ?_ rfl)
              have hA : At P N0 w0 fn.ntmps w.heap.size rnd σ h.next σ h w (argsT 0 args .leaf) { tmps := cargs.toArray ++ Array.replicate (fn.ntmps - cargs.toArray.size) undef, defers := [] } :=
                ⟨hrd, Nat.le_refl _, fun _ _ => rfl, hI.base, Nat.le_refl _, hI, hT0, DOK.nil⟩
              refine code_sound hcs hcr (hds _) L false b c hcc none (fun _ => rfl) rnd N0 w0 _ h e T1 h1 hex w.heap.size σ h.next σ w _ _ hA ?_
              intro σ' w' tm' ds' i1 i2 i3 i4
              have fin : LeavesInM (FW none) 0 P fn tm' (fun e w' => ∃ σ' cr, e = .returned cr ∧ VR h1.next σ' (oneOrTup l) cr ∧ Inv N0 w0 σ' h1 w' ∧ Go' σ h w σ' h1 w') ds' .returning w' := by
                refine leaves_marks hI.base ds' w' i1 i4 ?_
                intro w2 hI2 hg2
                obtain ⟨v', q1, q2⟩ := results_run (P := P) hI2 i2 hrr hl1
                exact ⟨v', q1, σ', v', rfl, q2, hI2, hg2 σ h w (Nat.le_refl _) i3⟩
              rcases he with rfl | rfl
              · exact fin
              · exact fin
            split at hr
            · rename_i T1 h1 hex
              split at hr
              · rename_i l hl
                injection hr with hr; simp only [Prod.mk.injEq] at hr
                exact key _ T1 h1 hex (.inl rfl) ⟨l, hl, hr.1, hr.2⟩
              · cases hr
            · rename_i T1 h1 hex
              split at hr
              · rename_i l hl
                injection hr with hr; simp only [Prod.mk.injEq] at hr
                exact key _ T1 h1 hex (.inr rfl) ⟨l, hl, hr.1, hr.2⟩
              · cases hr
            · cases hr
          · cases hr
        · cases hc
      · cases hc
    · cases hc
  · cases hc

/-- A table of compiled functions, and of others that are known. -/
def TabSound (P : Program) (tab : FuncId → Option AEntry) : Prop :=
  ∀ f e, tab f = some e → callOk P f = true ∧ match e with
    | .code af => compF P f = some af
    | .prim g => ∀ args h r h', g args h = some (r, h') → Runs P f args h r h'

theorem CallRSound.plain {callR : RoundT → CallT} (h : CallRSound P callR) : CallSound P (callR noRound) := by
  intro f args h0 r h' hc
  obtain ⟨h1, h2⟩ := h _ _ _ _ _ _ hc
  exact ⟨h1, fun N0 w0 σ w cargs hI hv => h2 N0 w0 σ w cargs RoundOk.no hI hv⟩

theorem callFR_sound {tab : FuncId → Option AEntry} (ht : TabSound P tab) (hds : ∀ call, CallSound P call → ∀ N, DrawSound P pk call N) (L : Nat) : ∀ D, CallRSound P (callFR pk tab L D)
  | 0 => fun rnd f args h r h' hc => by simp [callFR] at hc
  | D + 1 => fun rnd f args h r h' hc => by
    have ih := callFR_sound ht hds L D
    simp only [callFR] at hc
    split at hc
    · rename_i af hf
      obtain ⟨h1, h2⟩ := ht f _ hf
      exact ⟨h1, runF_sound ih.plain ih (hds _ ih.plain) L h2 hc⟩
    · rename_i g hf
      obtain ⟨h1, h2⟩ := ht f _ hf
      exact ⟨h1, fun N0 w0 σ w cargs _ hI hv => h2 _ _ _ _ hc N0 w0 σ w cargs hI hv⟩
    · cases hc
theorem callF_sound {tab : FuncId → Option AEntry} (ht : TabSound P tab) (hds : ∀ call, CallSound P call → ∀ N, DrawSound P pk call N) (L D : Nat) : CallSound P (callF pk tab L D) := (callFR_sound ht hds L D).plain
end
end
end Go.AM
