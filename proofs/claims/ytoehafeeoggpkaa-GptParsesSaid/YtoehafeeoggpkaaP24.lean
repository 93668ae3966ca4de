import Derived.Test.YtoehafeeoggpkaaV24
import Derived.Test.YtoehafeeoggpkaaAM39
import Derived.Test.YtoehafeeoggpkaaM24
set_option linter.unusedVariables false
set_option linter.unusedSimpArgs false
set_option linter.unnecessarySimpa false
/-! Norm over the executor. -/
namespace Go.Proofs.Ytoehafeeoggpkaa.L24
open Go Go.Proofs Go.Shelf Go.RowKit Go.Lib Go.Sort Go.AM Go.Proofs.Ytoehafeeoggpkaa.AMC
set_option maxRecDepth 10000
noncomputable section
def tabS : Tr AEntry := (tab.set 77 (.prim qSort)).set 16 (.prim primTrue)
def tabF : FuncId → Option AEntry := fun f => tabS.get f
abbrev En (L d : Nat) : Env := ⟨tabF, L, d, noRound⟩
theorem tabF_ok : TabSound Try.prog tabF := tab_prim (tab_prim tabOk ok77.1 qSort_runs) ok16.1 (primTrue_runs laid_calls)
theorem tab16 : tabF 16 = some (.prim primTrue) := by rfl
theorem go16 (L d : Nat) (h : AHeap) : (En L (d + 1)).go 16 [] h = some (.bool true, h) := by
  simp only [Env.go, callFR, tab16, primTrue]
theorem tab77 : tabF 77 = some (.prim qSort) := by rfl
theorem go77 (L d : Nat) (args : List Value) (h : AHeap) : (En L (d + 1)).go 77 args h = qSort args h := by
  simp only [Env.go, callFR, tab77]
abbrev EK2 : ElK := ⟨2, 16, [.int .i64 0, .int .i64 0]⟩
/-- A slice of extents. -/
def ExS (h : AHeap) (v : Value) (d : List (Int × Int)) : Prop := SlAt h 2 v (encL d) d.length
theorem ExS.keep {N : Nat} {h h' : AHeap} {v : Value} {d : List (Int × Int)} (a : ExS h v d) (k : Keep N h h') (hN : h.next ≤ N) : ExS h' v d := SlAt.keep a k hN
theorem vals_of {C : Cells} {d : List (Int × Int)} (hd : d ≠ []) (h : C.toList = encL d) : C = .vals (encL d) := by
  cases C with
  | vals l => simp only [Cells.toList] at h; rw [h]
  | bytes n len =>
    cases d with
    | nil => exact absurd rfl hd
    | cons x d =>
      exfalso
      have h0 := congrArg (fun l => l[0]?) h
      cases len with
      | zero => simp [Cells.toList, encL] at h0
      | succ len => simp [Cells.toList, encL, byteV] at h0
theorem app_of {C1 C2 : Cells} {d : List (Int × Int)} (hd : d ≠ []) (h1 : C1.toList = []) (h2 : C2.toList = encL d) : C1.app C2 = .vals (encL d) := by
  apply vals_of hd
  rw [toList_app, h1, h2]; rfl
/-- What Clone hands back: nothing, or extents of its own. -/
def ExO (N : Nat) (h : AHeap) (v : Value) (d : List (Int × Int)) : Prop := (d = [] ∧ ∃ a c, v = .slice a 0 c) ∨ (d ≠ [] ∧ Own N h 2 v d.length (encL d))
theorem clone_spec (L d : Nat) (v : Value) (l : List (Int × Int)) (h : AHeap) (hv : ExS h v l) (hl : l.length < 1000000000) :
    ∃ r h', (En L (d + 1)).go 76 [v] h = some (r, h') ∧ ExO h.next h' r l ∧ Keep h.next h h' := by
  refine go_ex (R := fun r h' => ExO h.next h' r l ∧ Keep h.next h h') (show tabF 76 = some (.code a76) by rfl) rfl ?_
  unfold a76
  obtain ⟨C, hsrc, hC⟩ := hv.src
  rcases hv.2 with ⟨rfl, h0⟩ | ⟨m, off, cap, ro, gr, c, rfl, h2, h3, h4, h5, h6, h7⟩
  · have : l = [] := List.length_eq_zero_iff.1 h0
    subst this
    simp
    exact ⟨.inl ⟨rfl, none, 0, rfl⟩, Keep.refl _ _⟩
  · have bs : aBuildSlice true EK2 0 [] h = some (.slice (some ⟨h.next, 0, none⟩) 0 0, h.new (.row false 0 (mkRow true []))) := rfl
    have g0 : (h.new (.row false 0 (mkRow true []))).get h.next = .row false 0 (mkRow true []) := by rw [AHeap.get_new, if_pos rfl]
    have hk := (Keep.refl h.next h).new (Nat.le_refl _) (.row false 0 (mkRow true []))
    have hv2 : ExS (h.new (.row false 0 (mkRow true []))) (.slice (some ⟨m, off, none⟩) l.length cap) l := ExS.keep hv hk (Nat.le_refl _)
    obtain ⟨C2, hsrc2, hC2⟩ := hv2.src
    by_cases hd : l = []
    · subst hd
      have ap : aAppend EK2 (.slice (some ⟨h.next, 0, none⟩) 0 0) (.slice (some ⟨m, off, none⟩) 0 cap) (h.new (.row false 0 (mkRow true []))) = some (.slice (some ⟨h.next, 0, none⟩) 0 0, h.new (.row false 0 (mkRow true []))) := by
        have hs : aSrc EK2.es (.slice (some ⟨m, off, none⟩) 0 cap) (h.new (.row false 0 (mkRow true []))) = some (C2, 0) := hsrc2
        simp only [aAppend, hs, g0]
        rw [if_pos ⟨Nat.le_refl _, by simp, by simp, by simp, by simp⟩]
        simp
      simp [bs, ap]
      exact ⟨.inl ⟨rfl, _, _, rfl⟩, hk⟩
    · have h0 : 0 < l.length := List.length_pos_iff.2 hd
      have ap : aAppend EK2 (.slice (some ⟨h.next, 0, none⟩) 0 0) (.slice (some ⟨m, off, none⟩) l.length cap) (h.new (.row false 0 (mkRow true []))) = some (.slice (some ⟨h.next + 1, 0, none⟩) l.length l.length, (h.new (.row false 0 (mkRow true []))).new (.row false 2 (.vals (encL l)))) := by
        have hs : aSrc EK2.es (.slice (some ⟨m, off, none⟩) l.length cap) (h.new (.row false 0 (mkRow true []))) = some (C2, l.length) := hsrc2
        simp only [aAppend, hs, g0]
        rw [if_pos ⟨Nat.le_refl _, by simp, by simp; omega, by omega, by simp⟩, if_neg (by omega), if_pos trivial, if_neg (by omega)]
        have e : ((mkRow true []).ext 0 (0 * 2)).app C2 = .vals (encL l) := app_of hd (by rw [Cells.toList_ext (by simp)]; simp) hC2
        rw [e]
        simp
      simp [bs, ap]
      refine ⟨.inr ⟨hd, encL_len l ▸ by omega, .inr ⟨h0, h.next + 1, rfl, by omega, by simp, ?_⟩⟩, hk.new (by simp) _⟩
      rw [AHeap.get_new, if_pos (by simp)]
end
end Go.Proofs.Ytoehafeeoggpkaa.L24

set_option linter.unusedVariables false
set_option linter.unusedSimpArgs false
set_option linter.unnecessarySimpa false
/-! Norm over the executor. -/
namespace Go.Proofs.Ytoehafeeoggpkaa.L24
open Go Go.Proofs Go.Shelf Go.RowKit Go.Lib Go.Sort Go.AM Go.Proofs.Ytoehafeeoggpkaa.AMC
set_option maxRecDepth 10000
noncomputable section
def flat : List (Int × Int) → List Int
  | [] => []
  | x :: d => x.1 :: x.2 :: flat d
theorem encL_flat : ∀ d, encL d = (flat d).map (Value.int .i64)
  | [] => rfl
  | x :: d => by simp only [encL, flat, List.map_cons, encL_flat d]
theorem flat_len : ∀ d, (flat d).length = 2 * d.length
  | [] => rfl
  | x :: d => by simp only [flat, List.length_cons, flat_len d]; omega
theorem flat_app : ∀ a b, flat (a ++ b) = flat a ++ flat b
  | [], b => rfl
  | x :: a, b => by simp only [List.cons_append, flat, flat_app a b]
theorem encL_app (a b : List (Int × Int)) : encL (a ++ b) = encL a ++ encL b := by simp [encL_flat, flat_app]
theorem pairsL_enc : ∀ d, pairsL (encL d) = some d
  | [] => rfl
  | x :: d => by simp only [encL, pairsL, pairsL_enc d]
def sortE (l : List (Int × Int)) : List (Int × Int) := (pdqE l.toArray).toList
theorem sortE_len (l : List (Int × Int)) : (sortE l).length = l.length := by unfold sortE; rw [Array.length_toList, pdqE_size]; simp
/-- The parts that were found, the last one first; another one. -/
def nStep (out : List (Int × Int)) (x : Int × Int) : List (Int × Int) :=
  if x.2 ≤ x.1 then out else match out with
    | [] => [x]
    | y :: r => if x.1 ≤ y.2 then (y.1, if x.2 > y.2 then x.2 else y.2) :: r else x :: y :: r
def normR (l : List (Int × Int)) : List (Int × Int) := l.foldl nStep []
def normE (l : List (Int × Int)) : List (Int × Int) := (normR (sortE l)).reverse
theorem nStep_len (out : List (Int × Int)) (x : Int × Int) : (nStep out x).length ≤ out.length + 1 := by
  unfold nStep
  split
  · omega
  · split
    · simp
    · split <;> simp
theorem normR_take (l : List (Int × Int)) (i : Nat) (hi : i < l.length) : normR (l.take (i + 1)) = nStep (normR (l.take i)) l[i] := by
  unfold normR
  rw [List.take_add_one, List.foldl_append, List.getElem?_eq_getElem hi]
  rfl
theorem normR_len : ∀ (l : List (Int × Int)) (i : Nat), i ≤ l.length → (normR (l.take i)).length ≤ i
  | l, 0, _ => by simp [normR]
  | l, i + 1, h => by
    rw [normR_take l i (by omega)]
    have := nStep_len (normR (l.take i)) l[i]
    have := normR_len l i (by omega)
    omega
theorem qSort_own {h : AHeap} {m : Nat} {l : List (Int × Int)} (hl : l ≠ []) (hl2 : l.length < 1000000000) (g : h.get m = .row false 2 (.vals (encL l))) :
    qSort [.slice (some ⟨m, 0, none⟩) l.length l.length, .func (.func 78) #[] #[]] h = some (.tuple #[], h.set m (.row false 2 (.vals (encL (sortE l))))) := by
  have h0 : 0 < l.length := List.length_pos_iff.2 hl
  unfold qSort
  split
  · rename_i e
    simp only [List.cons.injEq, Value.slice.injEq] at e
    omega
  · rename_i a len cap gg x y hne e
    simp only [List.cons.injEq, Value.slice.injEq, Option.some.injEq, Value.func.injEq, Fn.func.injEq, and_true] at e
    obtain ⟨⟨rfl, rfl, rfl⟩, rfl, rfl, rfl⟩ := e
    rw [if_pos ⟨rfl, rfl, rfl, rfl, rfl, h0, hl2⟩]
    simp only [g, pairsL_enc, if_true]
    rfl
  · rename_i h1 h2
    exact absurd rfl (h2 _ _ _ _ _ _)
theorem qSort_nil {h : AHeap} {a : Option Addr} {c : Nat} : qSort [.slice a 0 c, .func (.func 78) #[] #[]] h = some (.tuple #[], h) := by
  unfold qSort
  rfl
/-- While the parts are gone through. -/
def NoI (v3 : Value) (s : List (Int × Int)) (hs : AHeap) (j : Nat) (T : Tr Value) (h' : AHeap) : Prop :=
  ∃ (i : Nat) (w : Value), j = s.length - i ∧ i ≤ s.length ∧ T.get 12 = some v3 ∧ T.get 13 = some (.int .i64 s.length) ∧ T.get 14 = some (.int .i64 i) ∧ T.get 4 = some w ∧ Own hs.next h' 2 w (normR (s.take i)).length (encL (normR (s.take i)).reverse) ∧ Keep hs.next hs h'
theorem ldx {h : AHeap} {m gr : Nat} {s : List (Int × Int)} (g : h.get m = .row false gr (.vals (encL s))) {i : Nat} (hi : i < s.length) : aLoad (some 2) (.pointer (some ⟨m, i * 2, none⟩)) h = some (.agg #[.int .i64 s[i].1, .int .i64 s[i].2]) := by
  have hl := encL_len s
  have hsz : i * 2 + 2 ≤ (Cells.vals (encL s)).size := by show _ ≤ (encL s).length; omega
  simp only [aLoad, g]
  rw [if_pos hsz]
  simp only [Cells.ext, Cells.toList]
  have e : (encL s).drop (i * 2) = encL (s.drop i) := by
    have h1 : s = s.take i ++ s.drop i := (List.take_append_drop i s).symm
    have h2 : (s.take i).length = i := by rw [List.length_take]; omega
    conv => lhs; rw [h1]
    rw [encL_app, List.drop_left' (by rw [encL_len, h2]; omega)]
  rw [e, List.drop_eq_getElem_cons hi]
  rfl
theorem rd_last (r : List (Int × Int)) (y : Int × Int) : rdI (flat (r.reverse ++ [y])) ((r.length * 2 + 1 : Nat) : Int) = y.2 := by
  unfold rdI
  rw [Int.toNat_natCast, List.getD_eq_getElem?_getD, flat_app, List.getElem?_append_right (by rw [flat_len, List.length_reverse]; omega), flat_len, List.length_reverse, show r.length * 2 + 1 - 2 * r.length = 1 by omega]
  rfl
theorem set_last (r : List (Int × Int)) (y : Int × Int) (z : Int) : (flat (r.reverse ++ [y])).set (r.length * 2 + 1) z = flat (r.reverse ++ [(y.1, z)]) := by
  rw [flat_app, flat_app, List.set_append_right _ _ (by rw [flat_len, List.length_reverse]; omega), flat_len, List.length_reverse, show r.length * 2 + 1 - 2 * r.length = 1 by omega]
  rfl
theorem storeJ {h : AHeap} {m gr : Nat} {r : List (Int × Int)} {y : Int × Int} (g : h.get m = .row false gr (.vals (encL (r.reverse ++ [y])))) (z : Int) :
    aStore 1 (.pointer (some ⟨m, r.length * 2 + 1, none⟩)) (.int .i64 z) h = some (h.set m (.row false gr (.vals (encL (r.reverse ++ [(y.1, z)]))))) := by
  have hl := flat_len (r.reverse ++ [y])
  simp only [List.length_append, List.length_reverse, List.length_singleton] at hl
  rw [encL_flat] at g
  rw [storeZ g (by omega) (by decide) z, set_last, ← encL_flat]
theorem skip0' (h : AHeap) : h.skip 0 = h := rfl
theorem lit2E (x y : Int) (h : AHeap) : aBuildSlice true EK2 1 [(0, .agg #[.int .i64 x, .int .i64 y])] h = some (.slice (some ⟨h.next, 0, none⟩) 1 1, h.new (.row false 0 (.vals [.int .i64 x, .int .i64 y]))) := rfl
theorem ownK {N : Nat} {h h' : AHeap} {es : Nat} {v : Value} {n : Nat} {l : List Value} (a : Own N h es v n l) (hn : h.next ≤ h'.next) (hg : ∀ m, N ≤ m → m < h.next → h'.get m = h.get m) : Own N h' es v n l := by
  refine ⟨a.1, ?_⟩
  rcases a.2 with ⟨h1, h2⟩ | ⟨h0, m, h1, h2, h3, h4⟩
  · exact .inl ⟨h1, h2⟩
  · exact .inr ⟨h0, m, h1, h2, by omega, (hg m h2 h3).trans h4⟩
theorem normR_cons {s : List (Int × Int)} {i : Nat} {y : Int × Int} {r : List (Int × Int)} (h : normR (s.take i) = y :: r) : encL (normR (s.take i)).reverse = encL (r.reverse ++ [y]) := by rw [h, List.reverse_cons]
set_option maxHeartbeats 4000000 in
theorem norm_spec (L d : Nat) (v : Value) (l : List (Int × Int)) (h : AHeap) (hv : ExS h v l) (hl : l.length < 1000000000) (hL : 1000000000 < L) :
    ∃ r h', (En L (d + 2)).go 62 [v] h = some (r, h') ∧ Own h.next h' 2 r (normE l).length (encL (normE l)) ∧ Keep h.next h h' := by
  refine go_ex (R := fun r h' => Own h.next h' 2 r (normE l).length (encL (normE l)) ∧ Keep h.next h h') (show tabF 62 = some (.code a62) by rfl) rfl ?_
  unfold a62
  obtain ⟨v1, h1, e1, o1, k1⟩ := clone_spec L d v l h hv hl
  have hsl := sortE_len l
  obtain ⟨h2, es, hv2, k2⟩ : ∃ h2, qSort [v1, .func (.func 78) #[] #[]] h1 = some (.tuple #[], h2) ∧ ((l = [] ∧ ∃ a c, v1 = .slice a 0 c) ∨ (l ≠ [] ∧ ∃ m, v1 = .slice (some ⟨m, 0, none⟩) l.length l.length ∧ m < h2.next ∧ h2.get m = .row false 2 (.vals (encL (sortE l))))) ∧ Keep h.next h h2 := by
    rcases o1 with ⟨hd, a, c, rfl⟩ | ⟨hd, ho⟩
    · exact ⟨h1, qSort_nil, .inl ⟨hd, a, c, rfl⟩, k1⟩
    · rcases ho.2 with ⟨h0, _⟩ | ⟨h0, m, rfl, m1, m2, g⟩
      · exact absurd (List.length_eq_zero_iff.1 h0) hd
      · exact ⟨_, qSort_own hd hl g, .inr ⟨hd, m, rfl, by rw [AHeap.next_set]; exact m2, by rw [AHeap.get_set, if_pos rfl]⟩, k1.set m1 m2 _⟩
  have n2 := k2.next
  have vl : ∃ a c, v1 = .slice a l.length c := by
    rcases hv2 with ⟨rfl, a, c, rfl⟩ | ⟨_, m, rfl, _⟩
    · exact ⟨a, c, rfl⟩
    · exact ⟨_, _, rfl⟩
  obtain ⟨a1, c1, ev⟩ := vl
  subst ev
  simp [e1, go77, es]
  refine W_loop (NoI (.slice a1 l.length c1) (sortE l) h2) (sortE l).length (by show _ < L; omega) ⟨0, .slice none 0 0, rfl, by omega, by simp, by rw [hsl]; simp, by simp, by simp, Own.nil _ _ _, Keep.refl _ _⟩ ?_
  rintro j T h' ⟨i, w, rfl, hi, t12, t13, t14, t4, ow, kk⟩
  rw [hsl] at t13
  by_cases hlt : i < (sortE l).length
  · obtain ⟨hne, m, em, m1, g⟩ : l ≠ [] ∧ ∃ m, (Value.slice a1 l.length c1) = .slice (some ⟨m, 0, none⟩) l.length l.length ∧ m < h2.next ∧ h2.get m = .row false 2 (.vals (encL (sortE l))) := by
      rcases hv2 with ⟨rfl, _⟩ | h
      · have : (sortE ([] : List (Int × Int))).length = 0 := sortE_len []
        omega
      · exact h
    have t12o := t12
    rw [em] at t12
    have g' := (kk.get m m1).trans g
    have lx := ldx g' hlt
    have hlt' : (i : Int) < l.length := by omega
    have al : aNew true [.int .i64 0, .int .i64 0] h' = some (.pointer (some ⟨h'.next, 0, none⟩), h'.new (.row false 0 (.vals [.int .i64 0, .int .i64 0]))) := by rfl
    obtain ⟨h3, e3, g3, k3, n3⟩ := store_new h' [.int .i64 0, .int .i64 0] #[.int .i64 (sortE l)[i].1, .int .i64 (sortE l)[i].2] 2 rfl rfl rfl
    have x0 := ld_cell g3 (i := 0) (v := .int .i64 (sortE l)[i].1) rfl
    have x1 := ld_cell g3 (i := 1) (v := .int .i64 (sortE l)[i].2) rfl
    have xa := ld_agg g3 (n := 2) rfl
    have st := normR_take (sortE l) i hlt
    have kk3 : Keep h2.next h2 h3 := kk.trans (k3.less kk.next)
    have ow3 : Own h2.next h3 2 w (normR ((sortE l).take i)).length (encL (normR ((sortE l).take i)).reverse) := ow.keep k3 (Nat.le_refl _)
    have nl := normR_len (sortE l) i hi
    have step : ∀ (T6 : Tr Value) (h6 : AHeap) (w6 : Value), T6.get 12 = some (.slice a1 l.length c1) → T6.get 13 = some (.int .i64 l.length) → T6.get 14 = some (.int .i64 (i + 1)) → T6.get 4 = some w6 → Own h2.next h6 2 w6 (nStep (normR ((sortE l).take i)) (sortE l)[i]).length (encL (nStep (normR ((sortE l).take i)) (sortE l)[i]).reverse) → Keep h2.next h2 h6 → ∃ j', j' < (sortE l).length - i ∧ NoI (.slice a1 l.length c1) (sortE l) h2 j' T6 h6 := fun T6 h6 w6 a12 a13 a14 a4 o6 k6 =>
      ⟨(sortE l).length - (i + 1), by omega, i + 1, w6, rfl, by omega, a12, by rw [hsl]; exact a13, by rw [a14]; simp, a4, by rw [st]; exact o6, k6⟩
    generalize normR ((sortE l).take i) = acc at ow3 nl step
    generalize (sortE l)[i] = x at lx e3 g3 x0 x1 xa step
    have ns : nStep acc x = nStep acc x := rfl
    by_cases hc : x.2 ≤ x.1
    · have e5 : nStep acc x = acc := by unfold nStep; rw [if_pos hc]
      rw [e5] at step
      simp (disch := omega) [t12, t13, t14, t4, hlt', aIndexSl_ok, lx, al, e3, x0, x1, hc, wrapF_i64]
      exact step _ _ w (by simp [t12o]) (by simp [t13]) (by simp) (by simp [t4]) ow3 kk3
    · cases acc with
      | nil =>
        have e5 : nStep [] x = [x] := by unfold nStep; rw [if_neg hc]
        rw [e5] at step
        rcases ow3.2 with ⟨_, rfl⟩ | ⟨h0, _⟩
        · have li := lit2E x.1 x.2 h3
          obtain ⟨h4, hh4⟩ : ∃ h4, h3.new (.row false 0 (.vals [.int .i64 x.1, .int .i64 x.2])) = h4 := ⟨_, rfl⟩
          rw [hh4] at li
          have k4 : Keep h3.next h3 h4 := by rw [← hh4]; exact (Keep.refl _ _).new (Nat.le_refl _) _
          have g4 : h4.get h3.next = .row false 0 (.vals [.int .i64 x.1, .int .i64 x.2]) := by rw [← hh4, AHeap.get_new, if_pos rfl]
          obtain ⟨w5, h5, e6, o5, k5⟩ := push_one (k := EK2) (ow3.keep k4 (Nat.le_refl _)) g4 rfl (by decide) (by have := kk3.next; have := k4.next; omega) (by simp) (by simp)
          have kk5 : Keep h2.next h2 h5 := kk3.trans ((k4.less kk3.next).trans k5)
          simp (disch := omega) [t12, t13, t14, t4, hlt', aIndexSl_ok, lx, al, e3, x0, x1, hc, wrapF_i64, xa, li, e6]
          exact step _ _ w5 (by simp [t12o]) (by simp [t13]) (by simp) (by simp) (by simpa [encL] using o5) kk5
        · simp at h0
      | cons y r =>
        rcases ow3.2 with ⟨h0, _⟩ | ⟨h0, mo, rfl, m3, m4, g4⟩
        · simp at h0
        rw [List.reverse_cons] at g4
        have ldl : aLoad none (.pointer (some ⟨mo, r.length * 2 + 1, none⟩)) h3 = some (.int .i64 y.2) := by
          have hr : RowI h3 .i64 mo 0 (flat (r.reverse ++ [y])) := ⟨false, 2, _, g4, fun q hq => by simp [Cells.get, encL_flat, hq]⟩
          have hfl := flat_len (r.reverse ++ [y])
          simp only [List.length_append, List.length_reverse, List.length_singleton] at hfl
          have := hr.rd (i := ((r.length * 2 + 1 : Nat) : Int)) (by omega) (by omega)
          rw [Int.toNat_natCast, Nat.zero_add, rd_last] at this
          exact this
        have hrl : r.length < 1000000000 := by
          have : (y :: r).length = r.length + 1 := rfl
          omega
        by_cases hc2 : x.1 ≤ y.2
        · have e5 : nStep (y :: r) x = (y.1, if x.2 > y.2 then x.2 else y.2) :: r := by unfold nStep; rw [if_neg hc]; simp only; rw [if_pos hc2]
          rw [e5] at step
          have sj := storeJ g4 (if x.2 > y.2 then x.2 else y.2)
          have kk5 : Keep h2.next h2 (h3.set mo (.row false 2 (.vals (encL (r.reverse ++ [(y.1, if x.2 > y.2 then x.2 else y.2)]))))) := kk3.set m3 m4 _
          simp (disch := omega) [t12, t13, t14, t4, hlt', aIndexSl_ok, lx, al, e3, x0, x1, hc, hc2, wrapF_i64, ldl, skip0', mmL, mm2, sj]
          refine step _ _ (.slice (some ⟨mo, 0, none⟩) (r.length + 1) (r.length + 1)) (by simp [t12o]) (by simp [t13]) (by simp) (by simp [t4]) ⟨by rw [encL_len]; simp; omega, .inr ⟨by simp, mo, rfl, m3, by simpa using m4, ?_⟩⟩ kk5
          rw [AHeap.get_set, if_pos rfl, List.reverse_cons]
        · have e5 : nStep (y :: r) x = x :: y :: r := by unfold nStep; rw [if_neg hc]; simp only; rw [if_neg hc2]
          rw [e5] at step
          have li := lit2E x.1 x.2 h3
          obtain ⟨h4, hh4⟩ : ∃ h4, h3.new (.row false 0 (.vals [.int .i64 x.1, .int .i64 x.2])) = h4 := ⟨_, rfl⟩
          rw [hh4] at li
          have k4 : Keep h3.next h3 h4 := by rw [← hh4]; exact (Keep.refl _ _).new (Nat.le_refl _) _
          have g5 : h4.get h3.next = .row false 0 (.vals [.int .i64 x.1, .int .i64 x.2]) := by rw [← hh4, AHeap.get_new, if_pos rfl]
          obtain ⟨w5, h5, e6, o5, k5⟩ := push_one (k := EK2) (ow3.keep k4 (Nat.le_refl _)) g5 rfl (by decide) (by have := kk3.next; have := k4.next; omega) (by simp; omega) (by omega)
          have kk5 : Keep h2.next h2 h5 := kk3.trans ((k4.less kk3.next).trans k5)
          simp only [List.length_cons] at e6
          simp (disch := omega) [t12, t13, t14, t4, hlt', aIndexSl_ok, lx, al, e3, x0, x1, hc, hc2, wrapF_i64, ldl, xa, li, e6]
          exact step _ _ w5 (by simp [t12o]) (by simp [t13]) (by simp) (by simp) (by simpa [encL, encL_app] using o5) kk5
  · have hie : i = (sortE l).length := by omega
    subst hie
    rw [List.take_length] at ow
    simp [t12, t13, t14, t4, hsl]
    refine ⟨?_, k2.trans (kk.less n2)⟩
    have : (normE l).length = (normR (sortE l)).length := by simp [normE]
    rw [this]
    obtain ⟨ol, orr⟩ := ow
    refine ⟨ol, ?_⟩
    rcases orr with h0 | ⟨h0, m, h3, h4, h5⟩
    · exact .inl h0
    · exact .inr ⟨h0, m, h3, by omega, h5⟩
end
end Go.Proofs.Ytoehafeeoggpkaa.L24

set_option linter.unusedVariables false
set_option linter.unusedSimpArgs false
set_option linter.unnecessarySimpa false
/-! Bytes and Apart over the executor. -/
namespace Go.Proofs.Ytoehafeeoggpkaa.L24
open Go Go.Proofs Go.Shelf Go.RowKit Go.Lib Go.Sort Go.AM Go.Proofs.Ytoehafeeoggpkaa.AMC
set_option maxRecDepth 10000
noncomputable section
def addW (a : Int) (x : Int × Int) : Int := wrapF .i64 (a + wrapF .i64 (x.2 - x.1))
def sumW (l : List (Int × Int)) : Int := l.foldl addW 0
theorem sumW_take (l : List (Int × Int)) (i : Nat) (hi : i < l.length) : sumW (l.take (i + 1)) = addW (sumW (l.take i)) l[i] := by
  unfold sumW
  rw [List.take_add_one, List.foldl_append, List.getElem?_eq_getElem hi]
  rfl
abbrev asB : ACode := .seq [⟨(some 5), none, .plain (.alloc [(.int .i64 0), (.int .i64 0)])⟩, ⟨none, none, .plain (.store 2 (.tmp 5) (.tmp 9))⟩]
abbrev bdB : ACode := .block 1 (.seq [⟨(some 10), none, .plain (.load none (.tmp 3))⟩, ⟨(some 11), none, .plain (.faddr 1 (.tmp 5))⟩, ⟨(some 12), none, .plain (.load none (.tmp 11))⟩, ⟨(some 13), none, .plain (.faddr 0 (.tmp 5))⟩, ⟨(some 14), none, .plain (.load none (.tmp 13))⟩, ⟨(some 15), none, .plain (.bin .sub (.tmp 12) (.tmp 14))⟩, ⟨(some 16), none, .plain (.bin .add (.tmp 10) (.tmp 15))⟩, ⟨none, none, .plain (.store 1 (.tmp 3) (.tmp 16))⟩])
/-- What a round leaves. -/
structure Rnd (ma : Nat) (acc : Int) (h h2 : AHeap) : Prop where
  acc : h2.get ma = .row false 0 (.vals [.int .i64 acc])
  get : ∀ k, k < h.next → k ≠ ma → h2.get k = h.get k
  next : h.next ≤ h2.next
  wf : Wf h → Wf h2
theorem st1 {h : AHeap} {m : Nat} {a : Int} (g : h.get m = .row false 0 (.vals [.int .i64 a])) (b : Int) : aStore 1 (.pointer (some ⟨m, 0, none⟩)) (.int .i64 b) h = some (h.set m (.row false 0 (.vals [.int .i64 b]))) :=
  storeZ (Z := [a]) g (by simp) (by decide) b
theorem round_spec (E : Env) (T : Tr Value) (mm ma : Nat) (i acc : Int) (x : Int × Int) (h : AHeap) (t3 : T.get 3 = some (.pointer (some ⟨ma, 0, none⟩))) (hm : h.get mm = .loop .ready) (hma : h.get ma = .row false 0 (.vals [.int .i64 acc])) (hne : ma ≠ mm) (h1 : ma < h.next) (h2 : mm < h.next) :
    ∃ h2, E.rnd1 mm [8, 9] asB bdB T mm [.int .i64 i, .agg #[.int .i64 x.1, .int .i64 x.2]] h = some (.bool true, h2) ∧ Rnd ma (addW acc x) h h2 := by
  have al : aNew true [.int .i64 0, .int .i64 0] h = some (.pointer (some ⟨h.next, 0, none⟩), h.new (.row false 0 (.vals [.int .i64 0, .int .i64 0]))) := by rfl
  obtain ⟨h3, e3, g3, k3, n3⟩ := store_new h [.int .i64 0, .int .i64 0] #[.int .i64 x.1, .int .i64 x.2] 2 rfl rfl rfl
  have hm3 : h3.get mm = .loop .ready := (k3.get mm h2).trans hm
  have ha3 := (k3.get ma h1).trans hma
  refine round_ok (T1 := ((T.set 8 (.int .i64 i)).set 9 (.agg #[.int .i64 x.1, .int .i64 x.2])).set 5 (.pointer (some ⟨h.next, 0, none⟩))) (h1 := h3) hm rfl ?_ hm3 ?_
  · simp [putAll, al, e3]
  · have gb : (h3.set mm (.loop .busy)).get h.next = .row false 0 (.vals [.int .i64 x.1, .int .i64 x.2]) := by rw [AHeap.get_set, if_neg (by omega)]; exact g3
    have ga : (h3.set mm (.loop .busy)).get ma = .row false 0 (.vals [.int .i64 acc]) := by rw [AHeap.get_set, if_neg hne]; exact ha3
    have la := ld_cell ga (i := 0) rfl
    have l0 := ld_cell gb (i := 0) rfl
    have l1 := ld_cell gb (i := 1) rfl
    have st := st1 ga (addW acc x)
    have st' : aStore 1 (.pointer (some ⟨ma, 0, none⟩)) (.int .i64 (wrapF .i64 (acc + wrapF .i64 (x.2 - x.1)))) (h3.set mm (.loop .busy)) = some ((h3.set mm (.loop .busy)).set ma (.row false 0 (.vals [.int .i64 (addW acc x)]))) := st
    simp [t3, la, l0, l1, st']
    refine ⟨by rw [AHeap.get_set, if_neg (fun e => hne e.symm), AHeap.get_set, if_pos rfl], ?_, ?_, ?_, ?_⟩
    · rw [AHeap.get_set, if_neg hne, AHeap.get_set, if_pos rfl]
    · intro k hk hk2
      rw [AHeap.get_set]
      by_cases e : k = mm
      · rw [if_pos e, e, hm]
      · rw [if_neg e, AHeap.get_set, if_neg hk2, AHeap.get_set, if_neg e]; exact k3.get k hk
    · show h.next ≤ h3.next; omega
    · intro hw
      exact (((k3.wf hw).set (by omega) _).set (by show ma < h3.next; omega) _).set (by show mm < h3.next; omega) _
theorem cvO_y {E : Env} {m : Nat} {a b : Array Value} {args : List Value} {h : AHeap} : cvO E (.func (.yield m) a b) args h = E.rnd m args h := rfl
/-- While All goes on. -/
def AlI (w y : Value) (q : List (Int × Int)) (ma : Nat) (h1 : AHeap) (j : Nat) (T : Tr Value) (h' : AHeap) : Prop :=
  ∃ i : Nat, j = q.length - i ∧ i ≤ q.length ∧ T.get 0 = some y ∧ T.get 6 = some w ∧ T.get 7 = some (.int .i64 q.length) ∧ T.get 8 = some (.int .i64 i) ∧ Rnd ma (sumW (q.take i)) h1 h'
theorem Own.row {N : Nat} {h : AHeap} {v : Value} {q : List (Int × Int)} (a : Own N h 2 v q.length (encL q)) (h0 : 0 < q.length) : ∃ m, v = .slice (some ⟨m, 0, none⟩) q.length q.length ∧ N ≤ m ∧ m < h.next ∧ h.get m = .row false 2 (.vals (encL q)) := by
  rcases a.2 with ⟨h1, _⟩ | ⟨_, m, h1, h2, h3, h4⟩
  · omega
  · exact ⟨m, h1, h2, h3, h4⟩
theorem Own.val {N : Nat} {h : AHeap} {v : Value} {q : List (Int × Int)} (a : Own N h 2 v q.length (encL q)) : ∃ x c, v = .slice x q.length c := by
  rcases a.2 with ⟨h1, h2⟩ | ⟨_, m, h1, _⟩
  · exact ⟨none, 0, by rw [h1]; exact h2⟩
  · exact ⟨_, _, h1⟩
set_option maxHeartbeats 1000000 in
theorem all_spec (L d : Nat) (rnd rnd' : RoundT) (mb mm ma : Nat) (v : Value) (s : List (Int × Int)) (h : AHeap) (hL : 1000000000 < L) (hb : h.get mb = .row false 0 (.vals [v])) (hv : ExS h v s) (hl : s.length < 1000000000) (hmm : h.get mm = .loop .ready) (hma : h.get ma = .row false 0 (.vals [.int .i64 0]))
    (b1 : mb < h.next) (b2 : mm < h.next) (b3 : ma < h.next) (hne : ma ≠ mm)
    (hR : ∀ (i acc : Int) (x : Int × Int) (h' : AHeap), h'.get mm = .loop .ready → h'.get ma = .row false 0 (.vals [.int .i64 acc]) → ma < h'.next → mm < h'.next → ∃ h2, rnd mm [.int .i64 i, .agg #[.int .i64 x.1, .int .i64 x.2]] h' = some (.bool true, h2) ∧ Rnd ma (addW acc x) h' h2) :
    ∃ r h', (⟨tabF, L, d + 3, rnd'⟩ : Env).goR rnd 94 [.func (.yield mm) #[] #[], .pointer (some ⟨mb, 0, none⟩)] h = some (r, h') ∧ Rnd ma (sumW (normE s)) h h' := by
  refine goR_ex (R := fun r h' => Rnd ma (sumW (normE s)) h h') (show tabF 94 = some (.code a94) by rfl) rfl ?_
  unfold a94
  obtain ⟨w, h1, e1, o1, k1⟩ := norm_spec L d v s h hv hl hL
  have e1' : (⟨tabF, L, d + 2, rnd⟩ : Env).go 62 [v] h = some (w, h1) := e1
  clear e1
  have lb : aLoad none (.pointer (some ⟨mb, 0, none⟩)) h = some v := ld_cell hb rfl
  obtain ⟨xw, cw, ew⟩ := Own.val o1
  have n1 := k1.next
  have nl : (normE s).length ≤ s.length := by
    have := normR_len (sortE s) (sortE s).length (Nat.le_refl _)
    rw [List.take_length] at this
    simp only [normE, List.length_reverse]
    rw [sortE_len] at this
    exact this
  simp [lb, e1', ew]
  refine W_loop (AlI (.slice xw (normE s).length cw) (.func (.yield mm) #[] #[]) (normE s) ma h1) (normE s).length (by show _ < L; omega)
    ⟨0, rfl, by omega, by simp, by simp, by simp, by simp, ⟨by rw [k1.get ma b3]; exact hma, fun _ _ _ => rfl, Nat.le_refl _, fun hw => hw⟩⟩ ?_
  rintro j T h' ⟨i, rfl, hi, t0, t6, t7, t8, rr⟩
  by_cases hlt : i < (normE s).length
  · obtain ⟨mo, em, m1, m2, g⟩ := Own.row o1 (by omega)
    rw [ew] at em
    have t6o := t6
    rw [em] at t6
    have g' := (rr.get mo m2 (by omega)).trans g
    have lx := ldx g' hlt
    have al : aNew true [.int .i64 0, .int .i64 0] h' = some (.pointer (some ⟨h'.next, 0, none⟩), h'.new (.row false 0 (.vals [.int .i64 0, .int .i64 0]))) := by rfl
    have sm := sumW_take (normE s) i hlt
    generalize (normE s)[i] = x at lx sm
    obtain ⟨h3, e3, g3, k3, n3⟩ := store_new h' [.int .i64 0, .int .i64 0] #[.int .i64 x.1, .int .i64 x.2] 2 rfl rfl rfl
    have xa := ld_agg g3 (n := 2) rfl
    have rn := rr.next
    obtain ⟨h4, e4, r4⟩ := hR i (sumW ((normE s).take i)) x h3 (by rw [k3.get mm (by omega), rr.get mm (by omega) (fun e => hne e.symm), k1.get mm b2]; exact hmm) (by rw [k3.get ma (by omega)]; exact rr.acc) (by omega) (by omega)
    have hlt' : (i : Int) < (normE s).length := by omega
    simp (disch := omega) [t0, t6, t7, t8, hlt', aIndexSl_ok, lx, al, e3, xa, WS_cv, cvO_y, e4, wrapF_i64]
    refine ⟨(normE s).length - (i + 1), by omega, i + 1, rfl, by omega, by simp [t0], by simp [t6o], by simp [t7], by simp, ⟨by rw [sm]; exact r4.acc, fun k hk hk2 => by rw [r4.get k (by omega) hk2, k3.get k (by omega), rr.get k hk hk2], by have := r4.next; omega, fun hw => r4.wf (k3.wf (rr.wf hw))⟩⟩
  · have hie : i = (normE s).length := by omega
    subst hie
    rw [List.take_length] at rr
    simp [t0, t6, t7, t8]
    exact ⟨rr.acc, fun k hk hk2 => by rw [rr.get k (by omega) hk2, k1.get k hk], by have := rr.next; omega, fun hw => rr.wf (k1.wf hw)⟩
theorem range_spec (L d : Nat) (mb ma : Nat) (v : Value) (s : List (Int × Int)) (h : AHeap) (hL : 1000000000 < L) (hb : h.get mb = .row false 0 (.vals [v])) (hv : ExS h v s) (hl : s.length < 1000000000) (hma : h.get ma = .row false 0 (.vals [.int .i64 0]))
    (b1 : mb < h.next) (b3 : ma < h.next) (T : Tr Value) (Q : AExit → Tr Value → AHeap → Prop) (t3 : T.get 3 = some (.pointer (some ⟨ma, 0, none⟩))) (t7 : T.get 7 = some (.func (.func 94) #[] #[.pointer (some ⟨mb, 0, none⟩)]))
    (hQ : ∀ h', h'.get ma = .row false 0 (.vals [.int .i64 (sumW (normE s))]) → (∀ k, k < h.next → k ≠ ma → h'.get k = h.get k) → h.next ≤ h'.next → (Wf h → Wf h') → Q .normal T h') : W (En L (d + 3)) (.rangeF (.tmp 7) [8, 9] asB bdB) Q T h := by
  have hk := (Keep.refl h.next h).new (Nat.le_refl _) (.loop .ready)
  have g : ∀ k, k < h.next → (h.new (.loop .ready)).get k = h.get k := fun k hk => by rw [AHeap.get_new, if_neg (by omega)]
  have gm : (h.new (.loop .ready)).get h.next = .loop .ready := by rw [AHeap.get_new, if_pos rfl]
  have hn : (h.new (.loop .ready)).next = h.next + 1 := rfl
  obtain ⟨r, h', e, rr⟩ := all_spec L d ((En L (d + 3)).rnd1 h.next [8, 9] asB bdB T) noRound mb h.next ma v s (h.new (.loop .ready)) hL ((g mb b1).trans hb) (ExS.keep hv hk (Nat.le_refl _)) hl gm ((g ma b3).trans hma) (by omega) (by omega) (by omega) (by omega)
    (fun i acc x h' h1 h2 h3 h4 => round_spec (En L (d + 3)) T h.next ma i acc x h' t3 h1 h2 (by omega) h3 h4)
  have rn := rr.next
  refine W_rangeF (f := 94) (a := #[]) (b := #[.pointer (some ⟨mb, 0, none⟩)]) (r := r) (h1 := h') (by simp [t7]) e (by rw [rr.get h.next (by omega) (by omega)]; exact gm) ?_
  refine hQ _ (by rw [AHeap.get_set, if_neg (by omega)]; exact rr.acc) (fun k hk hk2 => by rw [AHeap.get_set, if_neg (by omega), rr.get k (by omega) hk2, g k hk]) (by show h.next ≤ h'.next; omega) (fun hw => (rr.wf (hw.new _)).set (by omega) _)
theorem all82 (L d : Nat) (a : Option Addr) (n c : Nat) (h : AHeap) : (En L (d + 1)).go 80 [.slice a n c] h = some (.func (.func 94) #[] #[.pointer (some ⟨h.next, 0, none⟩)], h.new (.row false 0 (.vals [.slice a n c]))) := by
  refine go_of (show tabF 80 = some (.code a80) by rfl) rfl ?_
  unfold a80
  have bx : aNew true (Value.slice a n c).cells.toList h = some (.pointer (some ⟨h.next, 0, none⟩), h.new (.row false 0 (.vals [.slice a n c]))) := rfl
  simp [bx]
theorem bytes_spec (L d : Nat) (v : Value) (s : List (Int × Int)) (h : AHeap) (hv : ExS h v s) (hl : s.length < 1000000000) (hL : 1000000000 < L) :
    ∃ r h', (En L (d + 4)).go 63 [v] h = some (r, h') ∧ r = .int .i64 (sumW (normE s)) ∧ Keep h.next h h' := by
  refine go_ex (R := fun r h' => r = .int .i64 (sumW (normE s)) ∧ Keep h.next h h') (show tabF 63 = some (.code a63) by rfl) rfl ?_
  unfold a63
  obtain ⟨x, c, ev⟩ : ∃ x c, v = .slice x s.length c := by
    rcases hv.2 with ⟨h1, h2⟩ | ⟨m, off, cap, ro, gr, c, h1, _⟩
    · exact ⟨none, 0, by rw [h1, h2]⟩
    · exact ⟨_, _, h1⟩
  have al : aNew true [.int .i64 0] h = some (.pointer (some ⟨h.next, 0, none⟩), h.new (.row false 0 (.vals [.int .i64 0]))) := by rfl
  have ga : (h.new (.row false 0 (.vals [.int .i64 0]))).get h.next = .row false 0 (.vals [.int .i64 0]) := by rw [AHeap.get_new, if_pos rfl]
  have st := st1 ga 0
  obtain ⟨h1, hh1⟩ : ∃ h1, (h.new (.row false 0 (.vals [.int .i64 0]))).set h.next (.row false 0 (.vals [.int .i64 0])) = h1 := ⟨_, rfl⟩
  rw [hh1] at st
  have k1 : Keep h.next h h1 := by rw [← hh1]; exact ((Keep.refl _ _).new (Nat.le_refl _) _).set (Nat.le_refl _) (by rw [AHeap.next_new]; omega) _
  have n1 : h1.next = h.next + 1 := by rw [← hh1, AHeap.next_set, AHeap.next_new]
  have g1 : h1.get h.next = .row false 0 (.vals [.int .i64 0]) := by rw [← hh1, AHeap.get_set, if_pos rfl]
  have c82 := all82 L (d + 2) x s.length c h1
  obtain ⟨h2, hh2⟩ : ∃ h2, h1.new (.row false 0 (.vals [.slice x s.length c])) = h2 := ⟨_, rfl⟩
  rw [hh2] at c82
  have k2 : Keep h1.next h1 h2 := by rw [← hh2]; exact (Keep.refl _ _).new (Nat.le_refl _) _
  have n2 : h2.next = h1.next + 1 := by rw [← hh2, AHeap.next_new]
  have g2 : h2.get h1.next = .row false 0 (.vals [.slice x s.length c]) := by rw [← hh2, AHeap.get_new, if_pos rfl]
  have hv2 : ExS h2 v s := ExS.keep (ExS.keep hv k1 (Nat.le_refl _)) k2 (Nat.le_refl _)
  rw [ev] at hv2
  subst ev
  simp [al, st, c82]
  refine range_spec L d h1.next h.next (.slice x s.length c) s h2 hL g2 hv2 hl (by rw [k2.get _ (by omega)]; exact g1) (by omega) (by omega) _ _ (by simp) (by simp) ?_
  intro h' q1 q2 q3 q4
  have la := ld_cell q1 (i := 0) rfl
  simp [la]
  exact ⟨by omega, fun k hk => by rw [q2 k (by omega) (by omega), k2.get k (by omega), k1.get k hk], fun hw => q4 (k2.wf (k1.wf hw))⟩
end
end Go.Proofs.Ytoehafeeoggpkaa.L24

set_option linter.unusedVariables false
set_option linter.unusedSimpArgs false
set_option linter.unnecessarySimpa false
/-! Apart over the executor. -/
namespace Go.Proofs.Ytoehafeeoggpkaa.L24
open Go Go.Proofs Go.Shelf Go.RowKit Go.Lib Go.Sort Go.AM Go.Proofs.Ytoehafeeoggpkaa.AMC
set_option maxRecDepth 10000
noncomputable section
def addP (a : Int) (x : Int × Int) : Int := wrapF .i64 (a + (if wrapF .i64 (x.2 - x.1) > 0 then wrapF .i64 (x.2 - x.1) else 0))
def lenW (l : List (Int × Int)) : Int := l.foldl addP 0
theorem lenW_take (l : List (Int × Int)) (i : Nat) (hi : i < l.length) : lenW (l.take (i + 1)) = addP (lenW (l.take i)) l[i] := by
  unfold lenW
  rw [List.take_add_one, List.foldl_append, List.getElem?_eq_getElem hi]
  rfl
def apartB (l : List (Int × Int)) : Bool := decide (sumW (normE (normE l)) = lenW l)
/-- Rows of extents, wherever they begin. -/
theorem ldy {h : AHeap} {m off cap gr : Nat} {ro : Bool} {c : Cells} {s : List (Int × Int)} (g : h.get m = .row ro gr c) (hsz : off + s.length * 2 ≤ c.size) (hc : (c.toList.drop off).take (s.length * 2) = encL s) {i : Nat} (hi : i < s.length) : aLoad (some 2) (.pointer (some ⟨m, off + i * 2, none⟩)) h = some (.agg #[.int .i64 s[i].1, .int .i64 s[i].2]) := by
  have h2 : off + i * 2 + 2 ≤ c.size := by omega
  simp only [aLoad, g]
  rw [if_pos h2, Cells.toList_ext h2]
  have e : (encL s).drop (i * 2) = encL (s.drop i) := by
    have h1 : s = s.take i ++ s.drop i := (List.take_append_drop i s).symm
    have h3 : (s.take i).length = i := by rw [List.length_take]; omega
    conv => lhs; rw [h1]
    rw [encL_app, List.drop_left' (by rw [encL_len, h3]; omega)]
  have e2 : (c.toList.drop (off + i * 2)).take 2 = ((encL s).drop (i * 2)).take 2 := by
    rw [← hc, List.drop_take, List.drop_drop, List.take_take]
    congr 1
    omega
  rw [e2, e, List.drop_eq_getElem_cons hi]
  rfl
def ApI (v : Value) (s : List (Int × Int)) (h : AHeap) (j : Nat) (T : Tr Value) (h' : AHeap) : Prop :=
  ∃ i : Nat, j = s.length - i ∧ i ≤ s.length ∧ T.get 0 = some v ∧ T.get 6 = some v ∧ T.get 7 = some (.int .i64 s.length) ∧ T.get 8 = some (.int .i64 i) ∧ T.get 3 = some (.int .i64 (lenW (s.take i))) ∧ Keep h.next h h'
theorem norm_len (s : List (Int × Int)) : (normE s).length ≤ s.length := by
  have := normR_len (sortE s) (sortE s).length (Nat.le_refl _)
  rw [List.take_length] at this
  simp only [normE, List.length_reverse]
  rw [sortE_len] at this
  exact this
theorem ownEx {N : Nat} {h : AHeap} {v : Value} {q : List (Int × Int)} (a : Own N h 2 v q.length (encL q)) : ExS h v q := by
  refine ⟨a.1, ?_⟩
  rcases a.2 with ⟨h1, h2⟩ | ⟨h0, m, h1, h2, h3, h4⟩
  · exact .inl ⟨h2, h1⟩
  · refine .inr ⟨m, 0, q.length, false, 2, _, h1, Nat.le_refl _, h3, h4, .inr rfl, ?_, ?_⟩
    · show 0 + q.length * 2 ≤ (encL q).length; rw [encL_len]; omega
    · show ((encL q).drop 0).take (q.length * 2) = _
      rw [List.drop_zero, List.take_of_length_le (by rw [encL_len]; omega)]
set_option maxHeartbeats 1000000 in
theorem apart_spec (L d : Nat) (v : Value) (s : List (Int × Int)) (h : AHeap) (hv : ExS h v s) (hl : s.length < 1000000000) (hL : 1000000000 < L) :
    ∃ r h', (En L (d + 5)).go 38 [v] h = some (r, h') ∧ r = .bool (apartB s) ∧ Keep h.next h h' := by
  refine go_ex (R := fun r h' => r = .bool (apartB s) ∧ Keep h.next h h') (show tabF 38 = some (.code a38) by rfl) rfl ?_
  unfold a38
  obtain ⟨x, c, ev⟩ : ∃ x c, v = .slice x s.length c := by
    rcases hv.2 with ⟨h1, h2⟩ | ⟨m, off, cap, ro, gr, c, h1, _⟩
    · exact ⟨none, 0, by rw [h1, h2]⟩
    · exact ⟨_, _, h1⟩
  simp [ev]
  refine W_loop (ApI v s h) s.length (by show _ < L; omega) ⟨0, rfl, by omega, by simp [ev], by simp [ev], by simp, by simp, by simp [lenW], Keep.refl _ _⟩ ?_
  rintro j T h' ⟨i, rfl, hi, t0, t6, t7, t8, t3, kk⟩
  by_cases hlt : i < s.length
  · rcases hv.2 with ⟨_, h2⟩ | ⟨m, off, cap, ro, gr, cs, em, hcap, hm, g, hgr, hsz, hcc⟩
    · omega
    have t6o := t6
    rw [em] at t6
    have g' := (kk.get m hm).trans g
    have lx := ldy (cap := cap) g' hsz hcc hlt
    have al : aNew true [.int .i64 0, .int .i64 0] h' = some (.pointer (some ⟨h'.next, 0, none⟩), h'.new (.row false 0 (.vals [.int .i64 0, .int .i64 0]))) := by rfl
    have sm := lenW_take s i hlt
    generalize s[i] = y at lx sm
    obtain ⟨h3, e3, g3, k3, n3⟩ := store_new h' [.int .i64 0, .int .i64 0] #[.int .i64 y.1, .int .i64 y.2] 2 rfl rfl rfl
    have x0 := ld_cell g3 (i := 0) (v := .int .i64 y.1) rfl
    have x1 := ld_cell g3 (i := 1) (v := .int .i64 y.2) rfl
    have hlt' : (i : Int) < s.length := by omega
    simp (disch := omega) [wrapF_i64 (n := (i : Int) + 1) (by omega) (by omega), t0, t6, t7, t8, t3, hlt', aIndexSl_ok, lx, al, e3, x0, x1, mmL, mm2]
    refine ⟨s.length - (i + 1), by omega, i + 1, rfl, by omega, by simp [t0], by simp [t6o], by simp [t7], by simp, ?_, kk.trans (k3.less kk.next)⟩
    rw [sm]; simp [addP]
  · have hie : i = s.length := by omega
    subst hie
    rw [List.take_length] at t3
    obtain ⟨r1, h1, e1, o1, k1⟩ := norm_spec L (d + 2) v s h' (ExS.keep hv kk (Nat.le_refl _)) hl hL
    obtain ⟨r2, h2, e2, rfl, k2⟩ := bytes_spec L d r1 (normE s) h1 (ownEx o1) (by have := norm_len s; omega) hL
    simp [t0, t6, t7, t8, t3, e1, e2]
    exact ⟨rfl, (kk.trans (k1.less kk.next)).trans (k2.less (Nat.le_trans kk.next k1.next))⟩
end
end Go.Proofs.Ytoehafeeoggpkaa.L24

set_option linter.unusedVariables false
set_option linter.unusedSimpArgs false
set_option linter.unnecessarySimpa false
/-! Noughts, parts of bytes. -/
namespace Go.Proofs.Ytoehafeeoggpkaa.L24
open Go Go.Proofs Go.Shelf Go.RowKit Go.Lib Go.Sort Go.AM Go.Proofs.Ytoehafeeoggpkaa.AMC
set_option maxRecDepth 10000
noncomputable section
def zeroB (l : List Int) : Bool := decide (∀ i : Nat, i < l.length → rdI l i = 0)
theorem zeroB_no {l : List Int} {i : Nat} (hi : i < l.length) (h : rdI l i ≠ 0) : zeroB l = false := decide_eq_false fun a => h (a i hi)
theorem zero_spec (L d : Nat) (v : Value) (l : List Int) (h : AHeap) (hv : SlB h v l) (hl : l.length < 1000000000) (hL : 1000000000 < L) :
    (En L (d + 1)).go 65 [v] h = some (.bool (zeroB l), h) := by
  have ex : ∃ r h', (En L (d + 1)).go 65 [v] h = some (r, h') ∧ r = .bool (zeroB l) ∧ h' = h := by
    refine go_ex (R := fun r h' => r = .bool (zeroB l) ∧ h' = h) (show tabF 65 = some (.code a65) by rfl) rfl ?_
    unfold a65
    obtain ⟨x, c, ev⟩ := hv.val
    simp [ev]
    refine W_loop (fun j T h' => ∃ i : Nat, j = l.length - i ∧ i ≤ l.length ∧ T.get 5 = some v ∧ T.get 6 = some (.int .i64 l.length) ∧ T.get 7 = some (.int .i64 i) ∧ (∀ k : Nat, k < i → rdI l k = 0) ∧ h' = h) l.length (by show _ < L; omega) ⟨0, rfl, by omega, by simp [ev], by simp, by simp, by omega, rfl⟩ ?_
    rintro j T h' ⟨i, rfl, hi, t5, t6, t7, hz, rfl⟩
    by_cases hlt : i < l.length
    · obtain ⟨m, off, cap, em, hm, hr⟩ := hv.row (by omega)
      have hlt' : (i : Int) < l.length := by omega
      have t5o := t5
      rw [em] at t5
      have rd := hr.rd (i := (i : Int)) (by omega) hlt'
      rw [Int.toNat_natCast] at rd
      by_cases h0 : rdI l i = 0
      · simp (disch := omega) [t5, t6, t7, hlt', aIndexSl_ok, rd, h0, wrapF_i64 (n := (i : Int) + 1) (by omega) (by omega)]
        refine ⟨l.length - (i + 1), by omega, i + 1, rfl, by omega, em.symm, by simp, ?_⟩
        intro k hk
        by_cases e : k = i
        · rw [e]; exact h0
        · exact hz k (by omega)
      · simp (disch := omega) [t5, t6, t7, hlt', aIndexSl_ok, rd, h0, wrapF_i64]
        exact (zeroB_no hlt h0)
    · have hie : i = l.length := by omega
      subst hie
      simp [t5, t6, t7]
      exact (decide_eq_true hz)
  obtain ⟨r, h', e, rfl, rfl⟩ := ex
  exact e
theorem isZero_spec (L d : Nat) (v : Value) (l : List Int) (h : AHeap) (hv : SlB h v l) (hl : l.length < 1000000000) (hL : 1000000000 < L) :
    (En L (d + 1)).go 45 [v] h = some (.bool (zeroB l), h) := by
  have ex : ∃ r h', (En L (d + 1)).go 45 [v] h = some (r, h') ∧ r = .bool (zeroB l) ∧ h' = h := by
    refine go_ex (R := fun r h' => r = .bool (zeroB l) ∧ h' = h) (show tabF 45 = some (.code a45) by rfl) rfl ?_
    unfold a45
    obtain ⟨x, c, ev⟩ := hv.val
    simp
    refine W_loop (fun j T h' => ∃ i : Nat, j = l.length - i ∧ i ≤ l.length ∧ T.get 0 = some v ∧ T.get 3 = some (.int .i64 i) ∧ (∀ k : Nat, k < i → rdI l k = 0) ∧ h' = h) l.length (by show _ < L; omega) ⟨0, rfl, by omega, by simp, by simp, by omega, rfl⟩ ?_
    rintro j T h' ⟨i, rfl, hi, t0, t3, hz, rfl⟩
    by_cases hlt : i < l.length
    · obtain ⟨m, off, cap, em, hm, hr⟩ := hv.row (by omega)
      have hlt' : (i : Int) < l.length := by omega
      have t0o := t0
      rw [em] at t0
      have rd := hr.rd (i := (i : Int)) (by omega) hlt'
      rw [Int.toNat_natCast] at rd
      by_cases h0 : rdI l i = 0
      · simp (disch := omega) [t0, t3, hlt', aIndexSl_ok, rd, h0, wrapF_i64 (n := (i : Int) + 1) (by omega) (by omega)]
        refine ⟨l.length - (i + 1), by omega, i + 1, rfl, by omega, em.symm, by simp, ?_⟩
        intro k hk
        by_cases e : k = i
        · rw [e]; exact h0
        · exact hz k (by omega)
      · simp (disch := omega) [t0, t3, hlt', aIndexSl_ok, rd, h0, wrapF_i64]
        exact (zeroB_no hlt h0)
    · have hie : i = l.length := by omega
      subst hie
      rw [ev] at t0
      simp [t0, t3]
      exact (decide_eq_true hz)
  obtain ⟨r, h', e, rfl, rfl⟩ := ex
  exact e
abbrev EK1 : ElK := ⟨1, 1, [.int .u8 0]⟩
theorem OwnB.nil (N : Nat) (h : AHeap) : OwnB N h (.slice none 0 0) [] := OwnS.nil N h 1
theorem cutB {h : AHeap} {v : Value} {l : List Int} (a : SlB h v l) {lo hi : Option Value} (i j : Nat) (hlo : (lo = none ∧ i = 0) ∨ ∃ k, lo = some (.int k i)) (hhi : (hi = none ∧ j = l.length) ∨ ∃ k, hi = some (.int k j)) (hij : i ≤ j) (hj : j ≤ l.length) :
    ∃ v', aCut (.sl 1) v lo hi none h = some v' ∧ SlB h v' ((l.drop i).take (j - i)) := SlB.cut a hlo hhi hij hj
/-- Part. -/
theorem part_spec (L d : Nat) (v : Value) (l : List Int) (at_ n : Nat) (h : AHeap) (hs : SlB h v l) (hl : l.length < 1099511627776) (hn : at_ + n ≤ l.length) :
    ∃ r h', (En L (d + 1)).go 47 [v, .int .i64 at_, .int .i64 n] h = some (r, h') ∧ OwnB h.next h' r ((l.drop at_).take n) ∧ Keep h.next h h' := by
  refine go_ex (R := fun r h' => OwnB h.next h' r ((l.drop at_).take n) ∧ Keep h.next h h') (show tabF 47 = some (.code a47) by rfl) rfl ?_
  unfold a47
  obtain ⟨v1, c1, s1⟩ := cutB hs (lo := some (.int .i64 at_)) (hi := some (.int .i64 (at_ + n))) at_ (at_ + n) (.inr ⟨_, rfl⟩) (.inr ⟨_, by rw [Int.natCast_add]⟩) (by omega) (by omega)
  rw [Nat.add_sub_cancel_left] at s1
  obtain ⟨x1, q1, rfl⟩ := s1.val
  have e1 : ((l.drop at_).take n).length = n := by rw [List.length_take, List.length_drop]; omega
  rw [e1] at c1 s1
  obtain ⟨v2, h2, c2, o2, k2⟩ := OwnB.append (k := EK1) (OwnB.nil h.next h) s1 rfl rfl (Nat.le_refl _) (by simp; omega)
  simp (disch := omega) [wrapF_i64, c1, c2]
  exact ⟨by simpa using o2, k2⟩
end
end Go.Proofs.Ytoehafeeoggpkaa.L24

set_option linter.unusedVariables false
set_option linter.unusedSimpArgs false
set_option linter.unnecessarySimpa false
/-! A table's entries, tables: their cells. -/
namespace Go.Proofs.Ytoehafeeoggpkaa.L24
open Go Go.Proofs Go.Shelf Go.RowKit Go.Lib Go.Sort Go.AM Go.Proofs.Ytoehafeeoggpkaa.AMC
set_option maxRecDepth 10000
noncomputable section
/-! ### rows of elements of any kind -/
def flatC {α : Type} (enc : α → List Value) : List α → List Value
  | [] => []
  | x :: l => enc x ++ flatC enc l
theorem flatC_app {α : Type} (enc : α → List Value) : ∀ a b, flatC enc (a ++ b) = flatC enc a ++ flatC enc b
  | [], b => rfl
  | x :: a, b => by simp only [List.cons_append, flatC, flatC_app enc a b, List.append_assoc]
theorem flatC_len {α : Type} {enc : α → List Value} {es : Nat} : ∀ {l : List α}, (∀ x ∈ l, (enc x).length = es) → (flatC enc l).length = l.length * es
  | [], _ => by simp [flatC]
  | x :: l, h => by
    simp only [flatC, List.length_append, List.length_cons, h x (List.mem_cons_self ..), flatC_len (l := l) (fun y hy => h y (List.mem_cons_of_mem _ hy)), Nat.succ_mul]
    omega
theorem flatC_drop {α : Type} {enc : α → List Value} {es : Nat} {l : List α} (h : ∀ x ∈ l, (enc x).length = es) {i : Nat} (hi : i < l.length) : (flatC enc l).drop (i * es) = enc l[i] ++ flatC enc (l.drop (i + 1)) := by
  have e1 : l = l.take i ++ l.drop i := (List.take_append_drop i l).symm
  have e2 : (flatC enc (l.take i)).length = i * es := by
    rw [flatC_len (fun x hx => h x (List.mem_of_mem_take hx)), List.length_take, Nat.min_eq_left (by omega)]
  conv => lhs; rw [e1]
  rw [flatC_app, List.drop_left' e2, List.drop_eq_getElem_cons hi]
  rfl
/-- A slice of elements. -/
def SlC {α : Type} (enc : α → List Value) (es : Nat) (h : AHeap) (v : Value) (l : List α) : Prop := SlAt h es v (flatC enc l) l.length
theorem SlC.keep {α : Type} {enc : α → List Value} {es N : Nat} {h h' : AHeap} {v : Value} {l : List α} (a : SlC enc es h v l) (k : Keep N h h') (hN : h.next ≤ N) : SlC enc es h' v l := SlAt.keep a k hN
theorem SlC.val {α : Type} {enc : α → List Value} {es : Nat} {h : AHeap} {v : Value} {l : List α} (a : SlC enc es h v l) : ∃ x c, v = .slice x l.length c := by
  rcases a.2 with ⟨h1, h2⟩ | ⟨m, off, cap, ro, gr, c, h1, _⟩
  · exact ⟨none, 0, by rw [h1, h2]⟩
  · exact ⟨_, _, h1⟩
theorem SlC.at {α : Type} {enc : α → List Value} {es : Nat} {h : AHeap} {v : Value} {l : List α} (a : SlC enc es h v l) (he : ∀ x ∈ l, (enc x).length = es) (h0 : 0 < l.length) : ∃ m off cap, v = .slice (some ⟨m, off, none⟩) l.length cap ∧ m < h.next ∧ (∀ (h' : AHeap) (i : Nat) (hi : i < l.length), h'.get m = h.get m → aLoad (some es) (.pointer (some ⟨m, off + i * es, none⟩)) h' = some (.agg (enc l[i]).toArray)) ∧ (∀ (h' : AHeap) (i j : Nat) (u : Value) (hi : i < l.length), h'.get m = h.get m → j < es → (enc l[i])[j]? = some u → aLoad none (.pointer (some ⟨m, off + i * es + j, none⟩)) h' = some u) := by
  rcases a.2 with ⟨h1, h2⟩ | ⟨m, off, cap, ro, gr, c, h1, h2, h3, h4, h5, h6, h7⟩
  · omega
  have key : ∀ i (hi : i < l.length), off + i * es + es ≤ c.size ∧ (c.toList.drop (off + i * es)).take es = enc l[i] := by
    intro i hi
    have hm : i * es + es ≤ l.length * es := by
      have := Nat.mul_le_mul_right es (show i + 1 ≤ l.length by omega)
      rw [Nat.succ_mul] at this; exact this
    refine ⟨by omega, ?_⟩
    have e : (c.toList.drop (off + i * es)).take es = ((flatC enc l).drop (i * es)).take es := by
      rw [← h7, List.drop_take, List.drop_drop, List.take_take]
      congr 1
      omega
    rw [e, flatC_drop he hi, List.take_left' (he _ (List.getElem_mem hi))]
  refine ⟨m, off, cap, h1, h3, ?_, ?_⟩
  · intro h' i hi g
    obtain ⟨k1, k2⟩ := key i hi
    simp only [aLoad, g, h4]
    rw [if_pos k1, Cells.toList_ext k1, k2]
  · intro h' i j u hi g hj hu
    obtain ⟨k1, k2⟩ := key i hi
    simp only [aLoad, g, h4]
    rw [← k2, List.getElem?_take, if_pos hj, List.getElem?_drop, ] at hu
    rw [Cells.get_toList] at *
    rw [hu]
/-! ### entries -/
structure Ent where
  ids : List Int
  a : Int
  b : Int
  rest : List Int
structure Ent.Ok (e : Ent) : Prop where
  i : e.ids.length = 32
  r : e.rest.length = 80
  bi : Byt e.ids
  br : Byt e.rest
def Ent.cells (e : Ent) : List Value := byV e.ids ++ (.int .i64 e.a :: .int .i64 e.b :: byV e.rest)
theorem Ent.Ok.len {e : Ent} (o : e.Ok) : e.cells.length = 114 := by simp [Ent.cells, o.i, o.r]
theorem byV_one (l : List Int) : (byV l).all AM.one = true := by
  induction l with
  | nil => rfl
  | cons x l ih => simpa [byV, AM.one] using ih
theorem Ent.one (e : Ent) : e.cells.all AM.one = true := by
  rw [Ent.cells, List.all_append, List.all_cons, List.all_cons, byV_one, byV_one]; rfl
theorem Ent.Ok.c32 {e : Ent} (o : e.Ok) : e.cells[32]? = some (.int .i64 e.a) := by
  rw [Ent.cells, List.getElem?_append_right (by simp [o.i])]; simp [o.i]
theorem Ent.Ok.c33 {e : Ent} (o : e.Ok) : e.cells[33]? = some (.int .i64 e.b) := by
  rw [Ent.cells, List.getElem?_append_right (by simp [o.i])]; simp [o.i]
theorem pack_no : ∀ (l : List Int) (k : IntKind) (x : Int) (r : List Value), k ≠ .u8 → pack (byV l ++ .int k x :: r) = none
  | [], k, x, r, hk => by cases k <;> simp [byV, pack] at hk ⊢
  | y :: l, k, x, r, hk => by
    have ih := pack_no l k x r hk
    cases y with
    | ofNat n =>
      by_cases h : n < 256
      · simp only [byV, List.map_cons, List.cons_append, pack, if_pos h]; rw [show List.map (Value.int .u8) l = byV l from rfl, ih]; rfl
      · simp only [byV, List.map_cons, List.cons_append, pack, if_neg h]
    | negSucc n => rfl
theorem Ent.row (e : Ent) : mkRow true e.cells = .vals e.cells := by
  unfold mkRow
  rw [if_pos rfl, Ent.cells, pack_no e.ids .i64 e.a _ (by decide)]
def Z114 : List Value := [.int .u8 0, .int .u8 0, .int .u8 0, .int .u8 0, .int .u8 0, .int .u8 0, .int .u8 0, .int .u8 0, .int .u8 0, .int .u8 0, .int .u8 0, .int .u8 0, .int .u8 0, .int .u8 0, .int .u8 0, .int .u8 0, .int .u8 0, .int .u8 0, .int .u8 0, .int .u8 0, .int .u8 0, .int .u8 0, .int .u8 0, .int .u8 0, .int .u8 0, .int .u8 0, .int .u8 0, .int .u8 0, .int .u8 0, .int .u8 0, .int .u8 0, .int .u8 0, .int .i64 0, .int .i64 0, .int .u8 0, .int .u8 0, .int .u8 0, .int .u8 0, .int .u8 0, .int .u8 0, .int .u8 0, .int .u8 0, .int .u8 0, .int .u8 0, .int .u8 0, .int .u8 0, .int .u8 0, .int .u8 0, .int .u8 0, .int .u8 0, .int .u8 0, .int .u8 0, .int .u8 0, .int .u8 0, .int .u8 0, .int .u8 0, .int .u8 0, .int .u8 0, .int .u8 0, .int .u8 0, .int .u8 0, .int .u8 0, .int .u8 0, .int .u8 0, .int .u8 0, .int .u8 0, .int .u8 0, .int .u8 0, .int .u8 0, .int .u8 0, .int .u8 0, .int .u8 0, .int .u8 0, .int .u8 0, .int .u8 0, .int .u8 0, .int .u8 0, .int .u8 0, .int .u8 0, .int .u8 0, .int .u8 0, .int .u8 0, .int .u8 0, .int .u8 0, .int .u8 0, .int .u8 0, .int .u8 0, .int .u8 0, .int .u8 0, .int .u8 0, .int .u8 0, .int .u8 0, .int .u8 0, .int .u8 0, .int .u8 0, .int .u8 0, .int .u8 0, .int .u8 0, .int .u8 0, .int .u8 0, .int .u8 0, .int .u8 0, .int .u8 0, .int .u8 0, .int .u8 0, .int .u8 0, .int .u8 0, .int .u8 0, .int .u8 0, .int .u8 0, .int .u8 0, .int .u8 0, .int .u8 0, .int .u8 0]
theorem Z114_len : Z114.length = 114 := rfl
theorem new114 (h : AHeap) : aNew true [.int .u8 0, .int .u8 0, .int .u8 0, .int .u8 0, .int .u8 0, .int .u8 0, .int .u8 0, .int .u8 0, .int .u8 0, .int .u8 0, .int .u8 0, .int .u8 0, .int .u8 0, .int .u8 0, .int .u8 0, .int .u8 0, .int .u8 0, .int .u8 0, .int .u8 0, .int .u8 0, .int .u8 0, .int .u8 0, .int .u8 0, .int .u8 0, .int .u8 0, .int .u8 0, .int .u8 0, .int .u8 0, .int .u8 0, .int .u8 0, .int .u8 0, .int .u8 0, .int .i64 0, .int .i64 0, .int .u8 0, .int .u8 0, .int .u8 0, .int .u8 0, .int .u8 0, .int .u8 0, .int .u8 0, .int .u8 0, .int .u8 0, .int .u8 0, .int .u8 0, .int .u8 0, .int .u8 0, .int .u8 0, .int .u8 0, .int .u8 0, .int .u8 0, .int .u8 0, .int .u8 0, .int .u8 0, .int .u8 0, .int .u8 0, .int .u8 0, .int .u8 0, .int .u8 0, .int .u8 0, .int .u8 0, .int .u8 0, .int .u8 0, .int .u8 0, .int .u8 0, .int .u8 0, .int .u8 0, .int .u8 0, .int .u8 0, .int .u8 0, .int .u8 0, .int .u8 0, .int .u8 0, .int .u8 0, .int .u8 0, .int .u8 0, .int .u8 0, .int .u8 0, .int .u8 0, .int .u8 0, .int .u8 0, .int .u8 0, .int .u8 0, .int .u8 0, .int .u8 0, .int .u8 0, .int .u8 0, .int .u8 0, .int .u8 0, .int .u8 0, .int .u8 0, .int .u8 0, .int .u8 0, .int .u8 0, .int .u8 0, .int .u8 0, .int .u8 0, .int .u8 0, .int .u8 0, .int .u8 0, .int .u8 0, .int .u8 0, .int .u8 0, .int .u8 0, .int .u8 0, .int .u8 0, .int .u8 0, .int .u8 0, .int .u8 0, .int .u8 0, .int .u8 0, .int .u8 0, .int .u8 0, .int .u8 0] h = some (.pointer (some ⟨h.next, 0, none⟩), h.new (.row false 0 (.vals Z114))) := rfl
/-- An entry in a box of its own. -/
def EBox (h : AHeap) (m : Nat) (e : Ent) : Prop := h.get m = .row false 0 (.vals e.cells)
theorem Ent.Ok.store {e : Ent} (o : e.Ok) (h : AHeap) : ∃ H, aStore 114 (.pointer (some ⟨h.next, 0, none⟩)) (.agg e.cells.toArray) (h.new (.row false 0 (.vals Z114))) = some H ∧ EBox H h.next e ∧ Keep h.next h H ∧ H.next = h.next + 1 := by
  obtain ⟨H, h1, h2, h3⟩ := store_new h Z114 e.cells.toArray 114 (by simp [o.len]) Z114_len (by simpa using e.one)
  exact ⟨H, h1, by simpa [EBox] using h2, h3⟩
theorem Ent.box (e : Ent) (h : AHeap) : aNew true (Value.agg e.cells.toArray).cells.toList h = some (.pointer (some ⟨h.next, 0, none⟩), h.new (.row false 0 (.vals e.cells))) := by
  have e1 : (Value.agg e.cells.toArray).cells.toList = e.cells := rfl
  rw [e1]
  unfold aNew
  rw [if_pos e.one, Ent.row]
theorem Ent.Ok.l32 {e : Ent} (o : e.Ok) {h : AHeap} {m : Nat} (g : EBox h m e) : aLoad none (.pointer (some ⟨m, 32, none⟩)) h = some (.int .i64 e.a) := ld_cell g o.c32
theorem Ent.Ok.l33 {e : Ent} (o : e.Ok) {h : AHeap} {m : Nat} (g : EBox h m e) : aLoad none (.pointer (some ⟨m, 33, none⟩)) h = some (.int .i64 e.b) := ld_cell g o.c33
theorem Ent.Ok.lall {e : Ent} (o : e.Ok) {h : AHeap} {m : Nat} (g : EBox h m e) : aLoad (some 114) (.pointer (some ⟨m, 0, none⟩)) h = some (.agg e.cells.toArray) := ld_agg g o.len
/-- Bytes of a box, as a slice. -/
theorem box_sl {h : AHeap} {m o n : Nat} {c : List Value} (g : h.get m = .row false 0 (.vals c)) (hm : m < h.next) (l : List Int) (hl : l.length = n) (hc : (c.drop o).take n = byV l) (ho : o + n ≤ c.length) (cap : Nat) (hcap : n ≤ cap) : SlB h (.slice (some ⟨m, o, none⟩) n cap) l := by
  subst hl
  exact ⟨by simp, .inr ⟨m, o, cap, false, 0, .vals c, rfl, hcap, hm, g, .inl rfl, by simpa [Cells.size] using ho, by simpa [Cells.toList] using hc⟩⟩
theorem empty_spec (L d : Nat) (e : Ent) (o : e.Ok) (h : AHeap) (hL : 1000000000 < L) :
    ∃ h', (En L (d + 2)).go 43 [.agg e.cells.toArray] h = some (.bool (zeroB (e.ids.take 16)), h') ∧ Keep h.next h h' := by
  have ex : ∃ r h', (En L (d + 2)).go 43 [.agg e.cells.toArray] h = some (r, h') ∧ r = .bool (zeroB (e.ids.take 16)) ∧ Keep h.next h h' := by
    refine go_ex (R := fun r h' => r = .bool (zeroB (e.ids.take 16)) ∧ Keep h.next h h') (show tabF 43 = some (.code a43) by rfl) rfl ?_
    unfold a43
    have eb := Ent.box e h
    obtain ⟨h1, hh1⟩ : ∃ h1, h.new (.row false 0 (.vals e.cells)) = h1 := ⟨_, rfl⟩
    rw [hh1] at eb
    have k1 : Keep h.next h h1 := by rw [← hh1]; exact (Keep.refl _ _).new (Nat.le_refl _) _
    have g1 : EBox h1 h.next e := by rw [← hh1]; simp [EBox, AHeap.get_new]
    have n1 : h.next < h1.next := by rw [← hh1]; simp
    have sl : SlB h1 (.slice (some ⟨h.next, 0, none⟩) 16 32) (e.ids.take 16) := box_sl g1 n1 _ (by simp [o.i]) (by rw [List.drop_zero, Ent.cells, List.take_append_of_le_length (by simp [o.i]), byV_take]) (by rw [o.len]; omega) 32 (by omega)
    have ct : aCut (.arr 32 1) (.pointer (some ⟨h.next, 0, none⟩)) none (some (.int .i64 16)) none h1 = some (.slice (some ⟨h.next, 0, none⟩) 16 32) := by
      simp only [aCut, aCutArr, g1, show h1.get h.next = .row false 0 (.vals e.cells) from g1]; rfl
    have zs := zero_spec L d _ _ h1 sl (by simp [o.i]) hL
    simp [eb, ct, zs]
    exact k1
  obtain ⟨r, h', h1, rfl, h2⟩ := ex
  exact ⟨h', h1, h2⟩
/-! ### tables -/
structure Tb where
  s : Int
  a : Int
  b : Int
  id : List Int
  sl : Value
  at_ : Int
  be : Int
def Tb.cells (t : Tb) : List Value := .int .i64 t.s :: .int .i64 t.a :: .int .i64 t.b :: (byV t.id ++ [t.sl, .int .i64 t.at_, .int .i64 t.be])
structure Tb.Ok (t : Tb) : Prop where
  i : t.id.length = 16
  b : Byt t.id
  s : ∃ a n c, t.sl = .slice a n c
theorem Tb.Ok.len {t : Tb} (o : t.Ok) : t.cells.length = 22 := by simp [Tb.cells, o.i]
theorem Tb.Ok.c19 {t : Tb} (o : t.Ok) : t.cells[19]? = some t.sl := by
  simp only [Tb.cells, List.getElem?_cons_succ]; rw [List.getElem?_append_right (by simp [o.i])]; simp [o.i]
theorem Tb.Ok.c20 {t : Tb} (o : t.Ok) : t.cells[20]? = some (.int .i64 t.at_) := by
  simp only [Tb.cells, List.getElem?_cons_succ]; rw [List.getElem?_append_right (by simp [o.i])]; simp [o.i]
theorem Tb.Ok.c21 {t : Tb} (o : t.Ok) : t.cells[21]? = some (.int .i64 t.be) := by
  simp only [Tb.cells, List.getElem?_cons_succ]; rw [List.getElem?_append_right (by simp [o.i])]; simp [o.i]
theorem Tb.Ok.one {t : Tb} (o : t.Ok) : t.cells.all AM.one = true := by
  obtain ⟨a, n, c, e⟩ := o.s
  simp only [Tb.cells, e, List.all_cons, List.all_append, byV_one]; rfl
def TBox (h : AHeap) (m : Nat) (t : Tb) : Prop := h.get m = .row false 0 (.vals t.cells)
theorem Tb.Ok.box {t : Tb} (o : t.Ok) (h : AHeap) : aNew true (Value.agg t.cells.toArray).cells.toList h = some (.pointer (some ⟨h.next, 0, none⟩), h.new (.row false 0 (.vals t.cells))) := by
  have e1 : (Value.agg t.cells.toArray).cells.toList = t.cells := rfl
  rw [e1]
  unfold aNew
  rw [if_pos o.one]
  rfl
theorem Tb.Ok.nbox {t : Tb} (o : t.Ok) (h : AHeap) : ∃ h1, aNew true (Value.agg t.cells.toArray).cells.toList h = some (.pointer (some ⟨h.next, 0, none⟩), h1) ∧ TBox h1 h.next t ∧ Keep h.next h h1 ∧ h1.next = h.next + 1 :=
  ⟨_, o.box h, by simp [TBox, AHeap.get_new], (Keep.refl _ _).new (Nat.le_refl _) _, by simp⟩
theorem TBox.l0 {t : Tb} {h : AHeap} {m : Nat} (g : TBox h m t) : aLoad none (.pointer (some ⟨m, 0, none⟩)) h = some (.int .i64 t.s) := ld_cell g rfl
theorem TBox.l1 {t : Tb} {h : AHeap} {m : Nat} (g : TBox h m t) : aLoad none (.pointer (some ⟨m, 1, none⟩)) h = some (.int .i64 t.a) := ld_cell g rfl
theorem TBox.l2 {t : Tb} {h : AHeap} {m : Nat} (g : TBox h m t) : aLoad none (.pointer (some ⟨m, 2, none⟩)) h = some (.int .i64 t.b) := ld_cell g rfl
theorem Tb.Ok.l19 {t : Tb} (o : t.Ok) {h : AHeap} {m : Nat} (g : TBox h m t) : aLoad none (.pointer (some ⟨m, 19, none⟩)) h = some t.sl := ld_cell g o.c19
theorem Tb.Ok.l20 {t : Tb} (o : t.Ok) {h : AHeap} {m : Nat} (g : TBox h m t) : aLoad none (.pointer (some ⟨m, 20, none⟩)) h = some (.int .i64 t.at_) := ld_cell g o.c20
theorem Tb.Ok.l21 {t : Tb} (o : t.Ok) {h : AHeap} {m : Nat} (g : TBox h m t) : aLoad none (.pointer (some ⟨m, 21, none⟩)) h = some (.int .i64 t.be) := ld_cell g o.c21
theorem Tb.Ok.lall {t : Tb} (o : t.Ok) {h : AHeap} {m : Nat} (g : TBox h m t) : aLoad (some 22) (.pointer (some ⟨m, 0, none⟩)) h = some (.agg t.cells.toArray) := ld_agg g o.len
theorem TBox.keep {t : Tb} {N : Nat} {h h' : AHeap} {m : Nat} (g : TBox h m t) (k : Keep N h h') (hm : m < N) : TBox h' m t := (k.get m hm).trans g
end
end Go.Proofs.Ytoehafeeoggpkaa.L24

set_option linter.unusedVariables false
set_option linter.unusedSimpArgs false
set_option linter.unnecessarySimpa false
/-! Check comes to an end; light; rows. -/
namespace Go.Proofs.Ytoehafeeoggpkaa.L24
open Go Go.Proofs Go.Shelf Go.RowKit Go.Lib Go.Sort Go.AM Go.Proofs.Ytoehafeeoggpkaa.AMC
set_option maxRecDepth 10000
noncomputable section
/-- A slice of entries; where there are none it may lie anywhere. -/
def SlZ (h : AHeap) (v : Value) (l : List Ent) : Prop := (∃ x c, v = .slice x l.length c) ∧ (l.length ≠ 0 → SlC Ent.cells 114 h v l)
theorem SlZ.keep {N : Nat} {h h' : AHeap} {v : Value} {l : List Ent} (a : SlZ h v l) (k : Keep N h h') (hN : h.next ≤ N) : SlZ h' v l := ⟨a.1, fun e => (a.2 e).keep k hN⟩
theorem SlZ.val {h : AHeap} {v : Value} {l : List Ent} (a : SlZ h v l) : ∃ x c, v = .slice x l.length c := a.1
theorem SlZ.at {h : AHeap} {v : Value} {l : List Ent} (a : SlZ h v l) (he : ∀ x ∈ l, (Ent.cells x).length = 114) (h0 : 0 < l.length) : ∃ m off cap, v = .slice (some ⟨m, off, none⟩) l.length cap ∧ m < h.next ∧ (∀ (h' : AHeap) (i : Nat) (hi : i < l.length), h'.get m = h.get m → aLoad (some 114) (.pointer (some ⟨m, off + i * 114, none⟩)) h' = some (.agg (Ent.cells l[i]).toArray)) ∧ (∀ (h' : AHeap) (i j : Nat) (u : Value) (hi : i < l.length), h'.get m = h.get m → j < 114 → (Ent.cells l[i])[j]? = some u → aLoad none (.pointer (some ⟨m, off + i * 114 + j, none⟩)) h' = some u) := (a.2 (by omega)).at he h0
theorem aEqL_some {x y : Value} : ∀ (l : List (Nat × LeafK)), (∀ p ∈ l, ∃ b, cellEq p.2 (cellAt x p.1) (cellAt y p.1) = some b) → ∃ b, aEqL x y l = some b
  | [], _ => ⟨true, rfl⟩
  | (i, k) :: r, h => by
    obtain ⟨b1, h1⟩ := h _ (List.mem_cons_self ..)
    obtain ⟨b2, h2⟩ := aEqL_some r fun p hp => h p (List.mem_cons_of_mem _ hp)
    exact ⟨b1 && b2, by simp only [aEqL, h1, h2]⟩
theorem Ent.Ok.cell {e : Ent} (o : e.Ok) {i : Nat} (hi : i < 114) : ∃ x, e.cells[i]? = some (.int (if i = 32 ∨ i = 33 then .i64 else .u8) x) := by
  by_cases h1 : i < 32
  · have : i < e.ids.length := by rw [o.i]; exact h1
    exact ⟨e.ids[i], by rw [Ent.cells, List.getElem?_append_left (by simpa using this), if_neg (by omega)]; simp [byV, this]⟩
  · by_cases h2 : i = 32
    · subst h2; exact ⟨_, o.c32⟩
    · by_cases h3 : i = 33
      · subst h3; exact ⟨_, o.c33⟩
      · have : i - 34 < e.rest.length := by rw [o.r]; omega
        refine ⟨e.rest[i - 34], ?_⟩
        rw [Ent.cells, List.getElem?_append_right (by rw [byV_length, o.i]; omega), byV_length, o.i, if_neg (by omega)]
        obtain ⟨j, rfl⟩ : ∃ j, i = j + 34 := ⟨i - 34, by omega⟩
        have e3 : j + 34 - 32 = j + 1 + 1 := by omega
        rw [e3, List.getElem?_cons_succ, List.getElem?_cons_succ]
        simp only [Nat.add_sub_cancel] at this ⊢
        simp [byV, this]
def zeroE : Ent := ⟨List.replicate 32 0, 0, 0, List.replicate 80 0⟩
theorem zeroE_ok : zeroE.Ok := ⟨rfl, rfl, by intro x hx; have := List.eq_of_mem_replicate hx; omega, by intro x hx; have := List.eq_of_mem_replicate hx; omega⟩
theorem zeroE_cells : zeroE.cells = Z114 := rfl
theorem leaves : ([(0, .int), (1, .int), (2, .int), (3, .int), (4, .int), (5, .int), (6, .int), (7, .int), (8, .int), (9, .int), (10, .int), (11, .int), (12, .int), (13, .int), (14, .int), (15, .int), (16, .int), (17, .int), (18, .int), (19, .int), (20, .int), (21, .int), (22, .int), (23, .int), (24, .int), (25, .int), (26, .int), (27, .int), (28, .int), (29, .int), (30, .int), (31, .int), (32, .int), (33, .int), (34, .int), (35, .int), (36, .int), (37, .int), (38, .int), (39, .int), (40, .int), (41, .int), (42, .int), (43, .int), (44, .int), (45, .int), (46, .int), (47, .int), (48, .int), (49, .int), (50, .int), (51, .int), (52, .int), (53, .int), (54, .int), (55, .int), (56, .int), (57, .int), (58, .int), (59, .int), (60, .int), (61, .int), (62, .int), (63, .int), (64, .int), (65, .int), (66, .int), (67, .int), (68, .int), (69, .int), (70, .int), (71, .int), (72, .int), (73, .int), (74, .int), (75, .int), (76, .int), (77, .int), (78, .int), (79, .int), (80, .int), (81, .int), (82, .int), (83, .int), (84, .int), (85, .int), (86, .int), (87, .int), (88, .int), (89, .int), (90, .int), (91, .int), (92, .int), (93, .int), (94, .int), (95, .int), (96, .int), (97, .int), (98, .int), (99, .int), (100, .int), (101, .int), (102, .int), (103, .int), (104, .int), (105, .int), (106, .int), (107, .int), (108, .int), (109, .int), (110, .int), (111, .int), (112, .int), (113, .int)] : List (Nat × LeafK)) = (List.range 114).map fun i => (i, LeafK.int) := rfl
theorem Ent.Ok.eqE {e e2 : Ent} (o : e.Ok) (o2 : e2.Ok) : ∃ b, aEqL (.agg e.cells.toArray) (.agg e2.cells.toArray) [(0, .int), (1, .int), (2, .int), (3, .int), (4, .int), (5, .int), (6, .int), (7, .int), (8, .int), (9, .int), (10, .int), (11, .int), (12, .int), (13, .int), (14, .int), (15, .int), (16, .int), (17, .int), (18, .int), (19, .int), (20, .int), (21, .int), (22, .int), (23, .int), (24, .int), (25, .int), (26, .int), (27, .int), (28, .int), (29, .int), (30, .int), (31, .int), (32, .int), (33, .int), (34, .int), (35, .int), (36, .int), (37, .int), (38, .int), (39, .int), (40, .int), (41, .int), (42, .int), (43, .int), (44, .int), (45, .int), (46, .int), (47, .int), (48, .int), (49, .int), (50, .int), (51, .int), (52, .int), (53, .int), (54, .int), (55, .int), (56, .int), (57, .int), (58, .int), (59, .int), (60, .int), (61, .int), (62, .int), (63, .int), (64, .int), (65, .int), (66, .int), (67, .int), (68, .int), (69, .int), (70, .int), (71, .int), (72, .int), (73, .int), (74, .int), (75, .int), (76, .int), (77, .int), (78, .int), (79, .int), (80, .int), (81, .int), (82, .int), (83, .int), (84, .int), (85, .int), (86, .int), (87, .int), (88, .int), (89, .int), (90, .int), (91, .int), (92, .int), (93, .int), (94, .int), (95, .int), (96, .int), (97, .int), (98, .int), (99, .int), (100, .int), (101, .int), (102, .int), (103, .int), (104, .int), (105, .int), (106, .int), (107, .int), (108, .int), (109, .int), (110, .int), (111, .int), (112, .int), (113, .int)] = some b := by
  refine aEqL_some _ fun p hp => ?_
  rw [leaves] at hp
  obtain ⟨i, hi, rfl⟩ := List.mem_map.1 hp
  have hi := List.mem_range.1 hi
  obtain ⟨x, hx⟩ := o.cell hi
  obtain ⟨y, hy⟩ := o2.cell hi
  refine ⟨decide (x = y), ?_⟩
  simp only [cellAt, Array.getD_eq_getD_getElem?, List.getElem?_toArray, hx, hy, Option.getD_some, cellEq, if_true]
theorem bz : aBuild (.str [(.int .u8 0), (.int .u8 0), (.int .u8 0), (.int .u8 0), (.int .u8 0), (.int .u8 0), (.int .u8 0), (.int .u8 0), (.int .u8 0), (.int .u8 0), (.int .u8 0), (.int .u8 0), (.int .u8 0), (.int .u8 0), (.int .u8 0), (.int .u8 0), (.int .u8 0), (.int .u8 0), (.int .u8 0), (.int .u8 0), (.int .u8 0), (.int .u8 0), (.int .u8 0), (.int .u8 0), (.int .u8 0), (.int .u8 0), (.int .u8 0), (.int .u8 0), (.int .u8 0), (.int .u8 0), (.int .u8 0), (.int .u8 0), (.int .i64 0), (.int .i64 0), (.int .u8 0), (.int .u8 0), (.int .u8 0), (.int .u8 0), (.int .u8 0), (.int .u8 0), (.int .u8 0), (.int .u8 0), (.int .u8 0), (.int .u8 0), (.int .u8 0), (.int .u8 0), (.int .u8 0), (.int .u8 0), (.int .u8 0), (.int .u8 0), (.int .u8 0), (.int .u8 0), (.int .u8 0), (.int .u8 0), (.int .u8 0), (.int .u8 0), (.int .u8 0), (.int .u8 0), (.int .u8 0), (.int .u8 0), (.int .u8 0), (.int .u8 0), (.int .u8 0), (.int .u8 0), (.int .u8 0), (.int .u8 0), (.int .u8 0), (.int .u8 0), (.int .u8 0), (.int .u8 0), (.int .u8 0), (.int .u8 0), (.int .u8 0), (.int .u8 0), (.int .u8 0), (.int .u8 0), (.int .u8 0), (.int .u8 0), (.int .u8 0), (.int .u8 0), (.int .u8 0), (.int .u8 0), (.int .u8 0), (.int .u8 0), (.int .u8 0), (.int .u8 0), (.int .u8 0), (.int .u8 0), (.int .u8 0), (.int .u8 0), (.int .u8 0), (.int .u8 0), (.int .u8 0), (.int .u8 0), (.int .u8 0), (.int .u8 0), (.int .u8 0), (.int .u8 0), (.int .u8 0), (.int .u8 0), (.int .u8 0), (.int .u8 0), (.int .u8 0), (.int .u8 0), (.int .u8 0), (.int .u8 0), (.int .u8 0), (.int .u8 0), (.int .u8 0), (.int .u8 0), (.int .u8 0), (.int .u8 0), (.int .u8 0), (.int .u8 0)] [(0, 32), (32, 1), (33, 1), (34, 80)]) [] = some (.agg Z114.toArray) := rfl
def rowsN (n : Nat) : Int := ((n : Int) * 128 + 511) / 512
theorem rows_spec (L d : Nat) (t : Tb) (o : t.Ok) (l : List Ent) (h : AHeap) (hs : SlZ h t.sl l) (hl : l.length < 1000000) :
    ∃ h', (En L (d + 1)).go 42 [.agg t.cells.toArray] h = some (.int .i64 (rowsN l.length), h') ∧ Keep h.next h h' := by
  have ex : ∃ r h', (En L (d + 1)).go 42 [.agg t.cells.toArray] h = some (r, h') ∧ r = .int .i64 (rowsN l.length) ∧ Keep h.next h h' := by
    refine go_ex (R := fun r h' => r = .int .i64 (rowsN l.length) ∧ Keep h.next h h') (show tabF 42 = some (.code a42) by rfl) rfl ?_
    unfold a42
    obtain ⟨h1, e1, g1, k1, n1⟩ := o.nbox h
    have l19 := o.l19 g1
    obtain ⟨x, c, ev⟩ := hs.val
    rw [ev] at l19
    simp (disch := omega) [e1, l19, wrapF_i64, Int.tdiv_eq_ediv_of_nonneg]
    exact ⟨by unfold rowsN; congr 1; omega, k1⟩
  obtain ⟨r, h', h1, rfl, h2⟩ := ex
  exact ⟨h', h1, h2⟩
theorem light_spec (L d : Nat) (t : Tb) (o : t.Ok) (n : Nat) (h : AHeap) (hs : ∃ x c, t.sl = .slice x n c) :
    ∃ h', (En L (d + 1)).go 15 [.agg t.cells.toArray] h = some (.bool (decide ((n : Int) ≤ 140)), h') ∧ Keep h.next h h' := by
  have ex : ∃ r h', (En L (d + 1)).go 15 [.agg t.cells.toArray] h = some (r, h') ∧ r = .bool (decide ((n : Int) ≤ 140)) ∧ Keep h.next h h' := by
    refine go_ex (R := fun r h' => r = .bool (decide ((n : Int) ≤ 140)) ∧ Keep h.next h h') (show tabF 15 = some (.code a15) by rfl) rfl ?_
    unfold a15
    obtain ⟨h1, e1, g1, k1, n1⟩ := o.nbox h
    have l19 := o.l19 g1
    obtain ⟨x, c, ev⟩ := hs
    rw [ev] at l19
    simp (disch := omega) [e1, l19, wrapF_i64]
    exact k1
  obtain ⟨r, h', h1, rfl, h2⟩ := ex
  exact ⟨h', h1, h2⟩
end
end Go.Proofs.Ytoehafeeoggpkaa.L24

set_option linter.unusedVariables false
set_option linter.unusedSimpArgs false
set_option linter.unnecessarySimpa false
/-! Check comes to an end. -/
namespace Go.Proofs.Ytoehafeeoggpkaa.L24
open Go Go.Proofs Go.Shelf Go.RowKit Go.Lib Go.Sort Go.AM Go.Proofs.Ytoehafeeoggpkaa.AMC
set_option maxRecDepth 10000
noncomputable section
theorem b2E (x y : Int) : aBuild (.str [.int .i64 0, .int .i64 0] [(0, 1), (1, 1)]) [(0, .int .i64 x), (1, .int .i64 y)] = some (.agg #[.int .i64 x, .int .i64 y]) := rfl
def ChI (t : Tb) (m : Nat) (n : Nat) (hs : AHeap) (j : Nat) (T : Tr Value) (h' : AHeap) : Prop :=
  ∃ (i : Nat) (w : Value) (q : List (Int × Int)), j = n - i ∧ i ≤ n ∧ q.length ≤ i ∧ T.get 1 = some (.pointer (some ⟨m, 0, none⟩)) ∧ T.get 86 = some t.sl ∧ T.get 87 = some (.int .i64 n) ∧ T.get 88 = some (.int .i64 i) ∧ T.get 4 = some w ∧ Own hs.next h' 2 w q.length (encL q) ∧ Keep hs.next hs h'
theorem ownEx' {N : Nat} {h : AHeap} {v : Value} {q : List (Int × Int)} (a : Own N h 2 v q.length (encL q)) : ExS h v q := ownEx a
end
end Go.Proofs.Ytoehafeeoggpkaa.L24

set_option linter.unusedVariables false
set_option linter.unusedSimpArgs false
set_option linter.unnecessarySimpa false
/-! Check, in plain words. -/
namespace Go.Proofs.Ytoehafeeoggpkaa.L24
open Go Go.Proofs Go.Shelf Go.RowKit Go.Lib Go.Sort Go.AM Go.Proofs.Ytoehafeeoggpkaa.AMC
set_option maxRecDepth 10000
noncomputable section
def isZ (e : Ent) : Bool := zeroB e.ids && (decide (e.a = 0) && (decide (e.b = 0) && zeroB e.rest))
theorem aEqL_int {x y : Value} {f g : Nat → Int} {kk : Nat → IntKind} : ∀ (l : List Nat), (∀ i ∈ l, cellAt x i = .int (kk i) (f i) ∧ cellAt y i = .int (kk i) (g i)) → aEqL x y (l.map fun i => (i, LeafK.int)) = some (l.all fun i => decide (f i = g i))
  | [], _ => rfl
  | i :: l, h => by
    obtain ⟨h1, h2⟩ := h i (List.mem_cons_self ..)
    have ih := aEqL_int l fun j hj => h j (List.mem_cons_of_mem _ hj)
    simp only [List.map_cons, aEqL, h1, h2, cellEq, if_true, ih, List.all_cons]
def cellNo (e : Ent) (i : Nat) : Int := if i < 32 then rdI e.ids i else if i = 32 then e.a else if i = 33 then e.b else rdI e.rest (i - 34 : Nat)
theorem byV_at {l : List Int} {i : Nat} (h : i < l.length) : (byV l)[i]? = some (.int .u8 (rdI l i)) := by
  simp [byV, rdI, h]
theorem Ent.Ok.cellN {e : Ent} (o : e.Ok) {i : Nat} (hi : i < 114) : e.cells[i]? = some (.int (if i = 32 ∨ i = 33 then .i64 else .u8) (cellNo e i)) := by
  unfold cellNo
  by_cases h1 : i < 32
  · rw [Ent.cells, List.getElem?_append_left (by rw [byV_length, o.i]; exact h1), byV_at (by rw [o.i]; exact h1), if_neg (by omega), if_pos h1]
  · rw [if_neg h1]
    by_cases h2 : i = 32
    · subst h2; exact o.c32
    · rw [if_neg h2]
      by_cases h3 : i = 33
      · subst h3; exact o.c33
      · rw [if_neg h3, if_neg (by omega)]
        obtain ⟨j, rfl⟩ : ∃ j, i = j + 34 := ⟨i - 34, by omega⟩
        rw [Ent.cells, List.getElem?_append_right (by rw [byV_length, o.i]; omega), byV_length, o.i]
        have e3 : j + 34 - 32 = j + 1 + 1 := by omega
        rw [e3, List.getElem?_cons_succ, List.getElem?_cons_succ, byV_at (by rw [o.r]; omega)]
        simp
theorem isZ_iff {e : Ent} (o : e.Ok) : isZ e = true ↔ ∀ i, i < 114 → cellNo e i = 0 := by
  simp only [isZ, zeroB, Bool.and_eq_true, decide_eq_true_eq, o.i, o.r]
  constructor
  · rintro ⟨h1, h2, h3, h4⟩ i hi
    unfold cellNo
    split
    · exact h1 i (by assumption)
    · split
      · exact h2
      · split
        · exact h3
        · exact h4 _ (by omega)
  · intro h
    refine ⟨fun i hi => ?_, ?_, ?_, fun i hi => ?_⟩
    · have := h i (by omega)
      rw [cellNo, if_pos hi] at this; exact this
    · have := h 32 (by omega)
      rw [cellNo, if_neg (by omega), if_pos rfl] at this; exact this
    · have := h 33 (by omega)
      rw [cellNo, if_neg (by omega), if_neg (by omega), if_pos rfl] at this; exact this
    · have := h (i + 34) (by omega)
      rw [cellNo, if_neg (by omega), if_neg (by omega), if_neg (by omega), Nat.add_sub_cancel] at this; exact this
theorem cellN_zero (i : Nat) (hi : i < 114) : cellNo zeroE i = 0 := by
  have : isZ zeroE = true := by
    have z : ∀ n, zeroB (List.replicate n 0) = true := by
      intro n
      unfold zeroB
      rw [decide_eq_true_eq]
      intro i hi
      rw [List.length_replicate] at hi
      simp [rdI, List.getD_eq_getElem?_getD, List.getElem?_replicate, hi]
    simp only [isZ, zeroE, z]
    rfl
  exact (isZ_iff zeroE_ok).1 this i hi
theorem Ent.Ok.eqZ {e : Ent} (o : e.Ok) : aEqL (.agg e.cells.toArray) (.agg Z114.toArray) [(0, .int), (1, .int), (2, .int), (3, .int), (4, .int), (5, .int), (6, .int), (7, .int), (8, .int), (9, .int), (10, .int), (11, .int), (12, .int), (13, .int), (14, .int), (15, .int), (16, .int), (17, .int), (18, .int), (19, .int), (20, .int), (21, .int), (22, .int), (23, .int), (24, .int), (25, .int), (26, .int), (27, .int), (28, .int), (29, .int), (30, .int), (31, .int), (32, .int), (33, .int), (34, .int), (35, .int), (36, .int), (37, .int), (38, .int), (39, .int), (40, .int), (41, .int), (42, .int), (43, .int), (44, .int), (45, .int), (46, .int), (47, .int), (48, .int), (49, .int), (50, .int), (51, .int), (52, .int), (53, .int), (54, .int), (55, .int), (56, .int), (57, .int), (58, .int), (59, .int), (60, .int), (61, .int), (62, .int), (63, .int), (64, .int), (65, .int), (66, .int), (67, .int), (68, .int), (69, .int), (70, .int), (71, .int), (72, .int), (73, .int), (74, .int), (75, .int), (76, .int), (77, .int), (78, .int), (79, .int), (80, .int), (81, .int), (82, .int), (83, .int), (84, .int), (85, .int), (86, .int), (87, .int), (88, .int), (89, .int), (90, .int), (91, .int), (92, .int), (93, .int), (94, .int), (95, .int), (96, .int), (97, .int), (98, .int), (99, .int), (100, .int), (101, .int), (102, .int), (103, .int), (104, .int), (105, .int), (106, .int), (107, .int), (108, .int), (109, .int), (110, .int), (111, .int), (112, .int), (113, .int)] = some (isZ e) := by
  rw [leaves, ← zeroE_cells]
  have key := aEqL_int (x := .agg e.cells.toArray) (y := .agg zeroE.cells.toArray) (f := cellNo e) (g := cellNo zeroE) (kk := fun i => if i = 32 ∨ i = 33 then .i64 else .u8) (List.range 114) fun i hi => by
    have hi := List.mem_range.1 hi
    have h1 := o.cellN hi
    have h2 := zeroE_ok.cellN hi
    constructor
    · simp only [cellAt, Array.getD_eq_getD_getElem?, List.getElem?_toArray, h1, Option.getD_some]
    · simp only [cellAt, Array.getD_eq_getD_getElem?, List.getElem?_toArray, h2, Option.getD_some]
  rw [key]
  congr 1
  rw [Bool.eq_iff_iff, isZ_iff o, List.all_eq_true]
  constructor
  · intro h i hi
    have := h i (List.mem_range.2 hi)
    rw [decide_eq_true_eq, cellN_zero i hi] at this
    exact this
  · intro h i hi
    have hi := List.mem_range.1 hi
    rw [decide_eq_true_eq, cellN_zero i hi]
    exact h i hi
/-- Check's rest, of entries and of extents before them. -/
def chkE (t : Tb) : List Ent → List (Int × Int) → Int
  | [], q => if (32 : Int) < q.length then 3 else if apartB q = true then 0 else 14
  | e :: l, q => if zeroB (e.ids.take 16) = true then (if isZ e = true then chkE t l q else 11) else if e.a < t.a ∨ t.b < e.b ∨ e.b < e.a then 4 else chkE t l (q ++ [(e.a, e.b + 1)])
def chkV (t : Tb) (l : List Ent) : Int :=
  if t.s < 6 ∨ 32768 < t.s ∨ (l.length : Int) < 1 ∨ 128 < (l.length : Int) then 11
  else if t.at_ < 2 ∨ t.s - 1 - rowsN l.length < t.at_ ∨ t.a < t.at_ + rowsN l.length ∨ t.s - 1 < t.a ∨ t.b < t.a - 1 ∨ t.be ≤ t.b ∨ t.s - 1 - rowsN l.length < t.be then 4
  else chkE t l []
theorem chkV_def (t : Tb) (l : List Ent) : chkV t l = (if t.s < 6 ∨ 32768 < t.s ∨ (l.length : Int) < 1 ∨ 128 < (l.length : Int) then 11
  else if t.at_ < 2 ∨ t.s - 1 - rowsN l.length < t.at_ ∨ t.a < t.at_ + rowsN l.length ∨ t.s - 1 < t.a ∨ t.b < t.a - 1 ∨ t.be ≤ t.b ∨ t.s - 1 - rowsN l.length < t.be then 4
  else chkE t l []) := rfl
end
end Go.Proofs.Ytoehafeeoggpkaa.L24

set_option linter.unusedVariables false
set_option linter.unusedSimpArgs false
set_option linter.unnecessarySimpa false
/-! Check, with its value. -/
namespace Go.Proofs.Ytoehafeeoggpkaa.L24
open Go Go.Proofs Go.Shelf Go.RowKit Go.Lib Go.Sort Go.AM Go.Proofs.Ytoehafeeoggpkaa.AMC
set_option maxRecDepth 10000
noncomputable section
def CvI (t : Tb) (m : Nat) (l : List Ent) (hs : AHeap) (j : Nat) (T : Tr Value) (h' : AHeap) : Prop :=
  ∃ (i : Nat) (w : Value) (q : List (Int × Int)), j = l.length - i ∧ i ≤ l.length ∧ chkV t l = chkE t (l.drop i) q ∧ q.length ≤ i ∧ T.get 1 = some (.pointer (some ⟨m, 0, none⟩)) ∧ T.get 86 = some t.sl ∧ T.get 87 = some (.int .i64 l.length) ∧ T.get 88 = some (.int .i64 i) ∧ T.get 4 = some w ∧ Own hs.next h' 2 w q.length (encL q) ∧ Keep hs.next hs h'
set_option maxHeartbeats 4000000 in
theorem check_val (L d : Nat) (t : Tb) (o : t.Ok) (l : List Ent) (hl : ∀ e ∈ l, e.Ok) (h : AHeap) (hs : SlZ h t.sl l) (hn : l.length < 1000000) (hL : 1000000000 < L) :
    ∃ r h', (En L (d + 6)).go 17 [.agg t.cells.toArray] h = some (r, h') ∧ r = .int .i64 (chkV t l) ∧ Keep h.next h h' := by
  refine go_ex (R := fun r h' => r = .int .i64 (chkV t l) ∧ Keep h.next h h') (show tabF 17 = some (.code a17) by rfl) rfl ?_
  unfold a17
  obtain ⟨h1, e1, g1, k1, n1⟩ := o.nbox h
  obtain ⟨x, c, ev⟩ := hs.val
  have l0 := g1.l0
  have l1 := g1.l1
  have l2 := g1.l2
  have l19 := o.l19 g1
  have l20 := o.l20 g1
  have l21 := o.l21 g1
  have lall := o.lall g1
  have hs1 := hs.keep k1 (Nat.le_refl _)
  obtain ⟨h2, e2, k2⟩ := rows_spec L (d + 4) t o l h1 hs1 hn
  have g2 := g1.keep k2 (by omega)
  have hs2 := hs1.keep k2 (Nat.le_refl _)
  have m0 := g2.l0
  have m1 := g2.l1
  have m2 := g2.l2
  have m20 := o.l20 g2
  have m21 := o.l21 g2
  have mall := o.lall g2
  obtain ⟨h3, e3, k3⟩ := rows_spec L (d + 4) t o l h2 hs2 hn
  have g3 := g2.keep k3 (by have := k2.next; omega)
  have hs3 := hs2.keep k3 (Nat.le_refl _)
  have n0 := g3.l0
  have n1' := g3.l1
  have n2 := g3.l2
  have n20 := o.l20 g3
  have n21 := o.l21 g3
  have n19 := o.l19 g3
  have nall := o.lall g3
  obtain ⟨h4, e4, k4⟩ := rows_spec L (d + 4) t o l h3 hs3 hn
  have g4 := g3.keep k4 (by have := k2.next; have := k3.next; omega)
  have hs4 := hs3.keep k4 (Nat.le_refl _)
  have p0 := g4.l0
  have p1 := g4.l1
  have p2 := g4.l2
  have p20 := o.l20 g4
  have p21 := o.l21 g4
  have p19 := o.l19 g4
  have kk1 : Keep h.next h h1 := k1
  have kk2 : Keep h.next h h2 := k1.trans (k2.less k1.next)
  have kk3 : Keep h.next h h3 := kk2.trans (k3.less kk2.next)
  have kk4 : Keep h.next h h4 := kk3.trans (k4.less kk3.next)
  have l19o := l19
  rw [ev] at l19 n19 p19
  have hR : 0 ≤ rowsN l.length ∧ rowsN l.length ≤ 1000000000 := by unfold rowsN; omega
  have hcv := chkV_def t l
  generalize rowsN l.length = R at e2 e3 e4 hR hcv
  generalize hV : chkV t l = V at hcv ⊢
  by_cases c1 : t.s < 6
  · simp (disch := omega) [e1, l19, l0, c1, wrapF_i64]
    exact ⟨by rw [hcv, if_pos (by omega)], kk1⟩
  by_cases c2 : 32768 < t.s
  · simp (disch := omega) [e1, l19, l0, c1, c2, wrapF_i64]
    exact ⟨by rw [hcv, if_pos (by omega)], kk1⟩
  by_cases c3 : (l.length : Int) < 1
  · simp (disch := omega) [e1, l19, l0, c1, c2, c3, wrapF_i64]
    exact ⟨by rw [hcv, if_pos (by omega)], kk1⟩
  by_cases c4 : 128 < (l.length : Int)
  · simp (disch := omega) [e1, l19, l0, c1, c2, c3, c4, wrapF_i64]
    exact ⟨by rw [hcv, if_pos (by omega)], kk1⟩
  by_cases c5 : t.at_ < 2
  · simp (disch := omega) [e1, l19, l0, l20, c1, c2, c3, c4, c5, wrapF_i64, skip0']
    exact ⟨by rw [hcv, if_neg (by omega), if_pos (by omega)], kk1⟩
  by_cases c6 : t.s - 1 - R < t.at_
  · simp (disch := omega) [e1, l19, l0, l20, lall, m0, m20, e2, c1, c2, c3, c4, c5, c6, wrapF_i64, skip0']
    exact ⟨by rw [hcv, if_neg (by omega), if_pos (by omega)], kk2⟩
  by_cases c7 : t.a < t.at_ + R
  · simp (disch := omega) [e1, l19, l0, l1, l20, lall, m0, m1, m20, mall, n1', n20, e2, e3, c1, c2, c3, c4, c5, c6, c7, wrapF_i64, skip0']
    exact ⟨by rw [hcv, if_neg (by omega), if_pos (by omega)], kk3⟩
  by_cases c8 : t.s - 1 < t.a
  · simp (disch := omega) [e1, l19, l0, l1, l20, lall, m0, m1, m20, mall, n0, n1', n20, e2, e3, c1, c2, c3, c4, c5, c6, c7, c8, wrapF_i64, skip0']
    exact ⟨by rw [hcv, if_neg (by omega), if_pos (by omega)], kk3⟩
  by_cases c9 : t.b < t.a - 1
  · simp (disch := omega) [e1, l19, l0, l1, l20, lall, m0, m1, m20, mall, n0, n1', n2, n20, e2, e3, c1, c2, c3, c4, c5, c6, c7, c8, c9, wrapF_i64, skip0']
    exact ⟨by rw [hcv, if_neg (by omega), if_pos (by omega)], kk3⟩
  by_cases c10 : t.be ≤ t.b
  · simp (disch := omega) [e1, l19, l0, l1, l20, lall, m0, m1, m20, mall, n0, n1', n2, n20, n21, e2, e3, c1, c2, c3, c4, c5, c6, c7, c8, c9, c10, wrapF_i64, skip0']
    exact ⟨by rw [hcv, if_neg (by omega), if_pos (by omega)], kk3⟩
  by_cases c11 : t.s - 1 - R < t.be
  · simp (disch := omega) [e1, l19, l0, l1, l20, lall, m0, m1, m20, mall, n0, n1', n2, n20, n21, nall, p0, p21, e2, e3, e4, c1, c2, c3, c4, c5, c6, c7, c8, c9, c10, c11, wrapF_i64, skip0']
    exact ⟨by rw [hcv, if_neg (by omega), if_pos (by omega)], kk4⟩
  rw [if_neg (by omega), if_neg (by omega)] at hcv
  simp (disch := omega) [e1, l19, l0, l1, l20, lall, m0, m1, m20, mall, n0, n1', n2, n20, n21, nall, p0, p21, p19, e2, e3, e4, c1, c2, c3, c4, c5, c6, c7, c8, c9, c10, c11, wrapF_i64, skip0']
  refine W_loop (CvI t h.next l h4) l.length (by show _ < L; omega) ⟨0, .slice none 0 0, [], rfl, by omega, by rw [hV, hcv]; rfl, by simp, by simp, by simp [ev], by simp, by simp, by simp, Own.nil _ _ _, Keep.refl _ _⟩ ?_
  rintro j T h' ⟨i, w, q, rfl, hi, hcq, hq, t1, t86, t87, t88, t4, ow, kk⟩
  have g5 := g4.keep kk (by have := k2.next; have := k3.next; have := k4.next; omega)
  have kk5 : Keep h.next h h' := kk4.trans (kk.less kk4.next)
  have hlt1 : h.next < h'.next := by have := kk.next; have := k4.next; have := k3.next; have := k2.next; omega
  rw [hV] at hcq
  by_cases hlt : i < l.length
  · rw [List.drop_eq_getElem_cons hlt] at hcq
    have hlt' : (i : Int) < l.length := by omega
    have oe : (l[i]).Ok := hl _ (List.getElem_mem hlt)
    obtain ⟨m, off, cap, em, hm, ld, _⟩ := (hs4.keep kk (Nat.le_refl _)).at (fun e he => (hl e he).len) (by omega)
    have lx := ld h' i hlt rfl
    obtain ⟨h6, e6, b6, k6, n6⟩ := oe.store h'
    have n114 := new114 h'
    generalize hen : l[i] = e at lx oe e6 b6 hcq
    unfold chkE at hcq
    have x32 := oe.l32 b6
    have x33 := oe.l33 b6
    have xall := oe.lall b6
    obtain ⟨h7, e7, k7⟩ := empty_spec L (d + 3) e oe h6 hL
    have b7 : EBox h7 h'.next e := (k7.get _ (by omega)).trans b6
    have y32 := oe.l32 b7
    have y33 := oe.l33 b7
    have yall := oe.lall b7
    have g7 : TBox h7 h.next t := (g5.keep k6 hlt1).keep k7 (by have := k6.next; omega)
    have z1 := g7.l1
    have z2 := g7.l2
    have k57 : Keep h'.next h' h7 := k6.trans (k7.less k6.next)
    have kk7 : Keep h4.next h4 h7 := kk.trans (k57.less kk.next)
    have t86o := t86
    rw [em] at t86
    have step : ∀ (T6 : Tr Value) (h6 : AHeap) (w6 : Value) (q6 : List (Int × Int)), V = chkE t (l.drop (i + 1)) q6 → q6.length ≤ i + 1 → T6.get 1 = some (.pointer (some ⟨h.next, 0, none⟩)) → T6.get 86 = some t.sl → T6.get 87 = some (.int .i64 l.length) → T6.get 88 = some (.int .i64 (i + 1)) → T6.get 4 = some w6 → Own h4.next h6 2 w6 q6.length (encL q6) → Keep h4.next h4 h6 → ∃ j', j' < l.length - i ∧ CvI t h.next l h4 j' T6 h6 := fun T6 h6 w6 q6 av a0 a1 a86 a87 a88 a4 o6 k6 =>
      ⟨l.length - (i + 1), by omega, i + 1, w6, q6, rfl, by omega, hV.trans av, a0, a1, a86, a87, by rw [a88]; simp, a4, o6, k6⟩
    have ow7 : Own h4.next h7 2 w q.length (encL q) := ow.keep k57 (Nat.le_refl _)
    by_cases hz : zeroB (e.ids.take 16) = true
    · have eb := oe.eqZ
      generalize hbb : isZ e = b at eb hcq
      rw [if_pos hz] at hcq
      rw [hz] at e7
      cases b with
      | true =>
        simp (disch := omega) [t1, t86, t87, t88, t4, hlt', aIndexSl_ok, lx, n114, e6, xall, e7, yall, bz, eb, isAggV, wrapF_i64]
        exact step _ _ w q (by rw [hcq, if_pos rfl]) (by omega) (by simp [t1]) (by simp [t86, em]) (by simp [t87]) (by simp) (by simp [t4]) ow7 kk7
      | false =>
        simp (disch := omega) [t1, t86, t87, t88, t4, hlt', aIndexSl_ok, lx, n114, e6, xall, e7, yall, bz, eb, isAggV, wrapF_i64]
        exact ⟨by rw [hcq, if_neg (by decide)], kk4.trans (kk7.less kk4.next)⟩
    · rw [if_neg hz] at hcq
      rw [Bool.not_eq_true] at hz
      rw [hz] at e7
      by_cases d1 : e.a < t.a
      · simp (disch := omega) [t1, t86, t87, t88, t4, hlt', aIndexSl_ok, lx, n114, e6, xall, e7, y32, y33, z1, z2, d1, wrapF_i64]
        exact ⟨by rw [hcq, if_pos (by omega)], kk4.trans (kk7.less kk4.next)⟩
      by_cases d2 : t.b < e.b
      · simp (disch := omega) [t1, t86, t87, t88, t4, hlt', aIndexSl_ok, lx, n114, e6, xall, e7, y32, y33, z1, z2, d1, d2, wrapF_i64]
        exact ⟨by rw [hcq, if_pos (by omega)], kk4.trans (kk7.less kk4.next)⟩
      by_cases d3 : e.b < e.a
      · simp (disch := omega) [t1, t86, t87, t88, t4, hlt', aIndexSl_ok, lx, n114, e6, xall, e7, y32, y33, z1, z2, d1, d2, d3, wrapF_i64]
        exact ⟨by rw [hcq, if_pos (by omega)], kk4.trans (kk7.less kk4.next)⟩
      rw [if_neg (by omega)] at hcq
      have hew : wrapF .i64 (e.b + 1) = e.b + 1 := wrapF_i64 (by omega) (by omega)
      have li := lit2E e.a (e.b + 1) h7
      obtain ⟨h8, hh8⟩ : ∃ h8, h7.new (.row false 0 (.vals [.int .i64 e.a, .int .i64 (e.b + 1)])) = h8 := ⟨_, rfl⟩
      rw [hh8] at li
      have k8 : Keep h7.next h7 h8 := by rw [← hh8]; exact (Keep.refl _ _).new (Nat.le_refl _) _
      have g8 : h8.get h7.next = .row false 0 (.vals [.int .i64 e.a, .int .i64 (e.b + 1)]) := by rw [← hh8, AHeap.get_new, if_pos rfl]
      obtain ⟨w9, h9, e9, o9, k9⟩ := push_one (k := EK2) (ow7.keep k8 (Nat.le_refl _)) g8 rfl (by decide) (by have := kk7.next; have := k8.next; omega) (by show (q.length + 1) * 16 ≤ _; omega) (by omega)
      have kk9 : Keep h4.next h4 h9 := kk7.trans ((k8.less kk7.next).trans k9)
      simp (disch := omega) [t1, t86, t87, t88, t4, hlt', aIndexSl_ok, lx, n114, e6, xall, e7, y32, y33, z1, z2, d1, d2, d3, b2E, hew, li, e9, wrapF_i64 (n := (i : Int) + 1) (by omega) (by omega)]
      exact step _ _ w9 (q ++ [(e.a, e.b + 1)]) hcq (by simp; omega) (by simp [t1]) (by simp [t86, em]) (by simp [t87]) (by simp) (by simp) (by simpa [encL, encL_app] using o9) kk9
  · have hie : i = l.length := by omega
    subst hie
    rw [List.drop_length] at hcq
    unfold chkE at hcq
    obtain ⟨r1, h6, e6, rfl, k6⟩ := apart_spec L (d) w q h' (ownEx ow) (by omega) hL
    obtain ⟨xw, cw, rfl⟩ := Own.val ow
    by_cases d1 : (32 : Int) < q.length
    · simp [t1, t86, t87, t88, t4, d1]
      exact ⟨by rw [hcq, if_pos d1], kk5⟩
    · cases hb : apartB q with
      | true =>
        rw [hb] at e6 hcq
        rw [if_neg d1] at hcq
        simp [t1, t86, t87, t88, t4, d1, e6]
        exact ⟨by rw [hcq]; rfl, kk5.trans (k6.less kk5.next)⟩
      | false =>
        rw [hb] at e6 hcq
        rw [if_neg d1] at hcq
        simp [t1, t86, t87, t88, t4, d1, e6]
        exact ⟨by rw [hcq]; rfl, kk5.trans (k6.less kk5.next)⟩
end
end Go.Proofs.Ytoehafeeoggpkaa.L24

