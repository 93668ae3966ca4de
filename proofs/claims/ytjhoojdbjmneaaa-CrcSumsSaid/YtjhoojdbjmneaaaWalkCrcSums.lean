import Derived.Test.YtjhoojdbjmneaaaCrcSumMath
/-! CrcSums, walked. -/
namespace Go.Proofs.Ytjhoojdbjmneaaa.PCrcOvers
open Go.RowKit Go.Proofs.YtjhoojdbjmneaaaW.PrintWords Go.Proofs.YtjhoojdbjmneaaaW.PrintLast Go.Proofs.YtjhoojdbjmneaaaW.PrintMore
attribute [local go_sem] max2_int min2_int max_two min_two max_three min_three max_four min_four   -- for this text's walks alone
set_option linter.unusedVariables false
set_option linter.unusedSimpArgs false
theorem C_one {w : World} {b' : Nat} {e' : TypeId} {fz' : Nat × Nat} {A : Option Addr} {c : Nat} {l : List Int} (h : (Kd.int .u8).C w A l.length l) (hc : l.length ≤ c)
    (h' : w.heap[b']? = some (.cells #[.slice A l.length c] e' fz')) :
    (Kd.slice 5 (Kd.int .u8)).C w (some ⟨b', 0, none⟩) 1 [l] := by
  refine ⟨rfl, by decide, fun _ => ⟨_, rfl, fun j p hj => ?_⟩⟩
  cases j with
  | succ j => simp at hj
  | zero =>
    simp at hj; subst hj
    refine ⟨[.slice A l.length c], rfl, ⟨_, _, rfl, hc, h⟩, fun i u hu => ?_⟩
    cases i with
    | succ i => simp at hu
    | zero => simp at hu; subst hu; simp [Addr.add, World.cell?, h']
theorem alloc1 (w : World) (o : Obj) : (w.alloc o).heap[w.heap.size]? = some o := by
  show (w.heap.push o)[w.heap.size]? = some o
  rw [Array.getElem?_push, if_pos rfl]

set_option maxHeartbeats 8000000 in
set_option maxRecDepth 100000 in
theorem sums_walk (A0 : Option Addr) (c0 : Nat) (l0 : List Int) (w : World) (S : Int) (hr0 : (Kd.int .u8).C w A0 l0.length l0) (hc0 : l0.length ≤ c0)
    (hk : ∀ W : World, Calls Try.prog 8 #[] W fun e w' => e = .returned (.bool true) ∧ Below W.heap.size W w')
    (hs : l0.length ≤ 150 → ∀ (W : World) (b' : Nat), W.heap[b']? = some (.cells #[.slice A0 l0.length c0] 22 (0, 0)) → (Kd.int .u8).C W A0 l0.length l0 →
      Calls Try.prog 9 #[.slice (some ⟨b', 0, none⟩) 1 1] W fun e w' => e = .returned (.int .u32 S) ∧ Drawn0 W w')
    (hr : l0.length ≤ 150 → ∀ (W : World), (Kd.int .u8).C W A0 l0.length l0 → Calls Try.prog 10 #[.slice A0 l0.length c0] W fun e w' => e = .returned (.int .u32 S) ∧ Below W.heap.size W w')
    (hf : l0.length ≤ 150 → ∀ (W : World), (Kd.int .u8).C W A0 l0.length l0 → Calls Try.prog 11 #[.slice A0 l0.length c0] W fun e w' => e = .returned (.int .u32 S) ∧ Drawn0 W w') :
    Calls Try.prog 3 #[.slice A0 l0.length c0] w fun e w' => e = .returned (.bool true) ∧ Below w.heap.size w w' := by
  by_cases c3 : (l0.length : Int) > 150
  · have c3b0 : decide (150 < (l0.length : Int)) = true := decide_eq_true c3
    have c3b1 : decide (150 < l0.length) = true := decide_eq_true (by omega)
    clear c3 hs hr hf
    go_enter Try.func3, Try.ntmps3
    go_wp2_with (first | ((with_reducible refine gate_callee (f := 8) rfl ?_); refine goesL_ (some 6) rfl rfl Try.func8 (by kernel_rfl) rfl #[] rfl (by (try simp only [List.map_toArray, List.map_cons, List.map_nil]); first | done | rfl) ?_; (with_reducible refine (hk _).mono ?_); rintro e w5 ⟨rfl, hb⟩; refine ⟨_, rfl, ?_⟩))
    go_ret
    exact ⟨rfl, hb⟩
  · have c3b0 : decide (150 < (l0.length : Int)) = false := decide_eq_false (by omega)
    have c3b1 : decide (150 < l0.length) = false := decide_eq_false (by omega)
    have hs := hs (by omega)
    have hr := hr (by omega)
    have hf := hf (by omega)
    clear c3
    go_enter Try.func3, Try.ntmps3
    go_wp2_with (first | ((with_reducible refine gate_callee (f := 8) rfl ?_); refine goesL_ (some 7) rfl rfl Try.func8 (by kernel_rfl) rfl #[] rfl (by (try simp only [List.map_toArray, List.map_cons, List.map_nil]); first | done | rfl) ?_; (with_reducible refine (hk _).mono ?_); rintro e w5 ⟨rfl, hb⟩; refine ⟨_, rfl, ?_⟩) | (go_at_call 9; refine stop_ ?_))
    unfold Stop
    have hC5 := Kd.C_below hr0 hb
    refine (hs _ w5.heap.size (alloc1 _ _) (Kd.C_alloc hC5 _)).mono ?_
    rintro e w' ⟨rfl, ⟨nd, rfl⟩⟩
    go_wp2_with (first | (go_at_call 10; refine stop_ ?_))
    unfold Stop
    refine (hr _ (Kd.C_drewN (Kd.C_alloc hC5 _) _)).mono ?_
    rintro e w7 ⟨rfl, hb7⟩
    have hB1 : Below w.heap.size w ((w5.alloc (.cells #[.slice A0 l0.length c0] 22)).drewN nd) := pw_below_drewN (below_alloc hb _) _
    have hB7 := below_step hB1 hb7
    have hC7 := Kd.C_below hr0 hB7
    clear hb7 hB1 hC5 hs
    go_wp2_with (first | (go_at_call 11; refine stop_ ?_))
    unfold Stop
    refine (hf _ hC7).mono ?_
    rintro e w' ⟨rfl, ⟨nd2, rfl⟩⟩
    have hC8 := Kd.C_drewN hC7 nd2
    go_wp2_with (first | (go_at_call 10; refine stop_ ?_))
    unfold Stop
    refine (hr _ hC8).mono ?_
    rintro e w9 ⟨rfl, hb9⟩
    have hB9 := below_step (pw_below_drewN hB7 nd2) hb9
    clear hb9 hB7 hb hC7 hC8 hr hf
    go_wp2
    go_ret
    exact ⟨by first | rfl | simp, hB9⟩

open Go.Proofs.Ytjhoojdbjmneaaa.CrcMath in
/-- CrcSums returns true. -/
theorem sums_calls (A0 : Option Addr) (c0 : Nat) (l0 : List Int) (w : World) (hr0 : (Kd.int .u8).C w A0 l0.length l0) (hc0 : l0.length ≤ c0) (hb : Bytes l0) :
    Calls Try.prog 3 #[.slice A0 l0.length c0] w fun e w' => e = .returned (.bool true) ∧ Below w.heap.size w w' := by
  obtain ⟨k, hk⟩ : ∃ k : Nat, 100000 ≤ k := ⟨100000, Nat.le_refl _⟩
  have hsum : l0.length ≤ 150 → crc_Sum.f k [l0] = some ((compl (feed 4294967295 l0) : Nat) : Int) := fun hl => by
    obtain ⟨k, rfl⟩ : ∃ k', k = k' + 1 + 1 := ⟨k - 2, by omega⟩
    unfold crc_Sum.f
    rw [crc_Sum.l0, if_pos (by simp), if_pos (by simp), if_pos (by simp), show rd_L1 [l0] 0 = l0 from rfl]
    have := More_f (k + 1) 0 l0 hb (by omega) (by omega) (by decide)
    rw [show (0 : Int) = ((0 : Nat) : Int) from rfl, this, Option.bind_some]
    rw [crc_Sum.l0, if_neg (by simp [wrap64])]
    rfl
  exact sums_walk A0 c0 l0 w _ hr0 hc0 (fun W => fettlelaw02_known.calls k true W (known_f k (by omega)))
    (fun hl W b' h1 h2 => crc_Sum.calls k (some ⟨b', 0, none⟩) 1 [l0] _ W (C_one h2 hc0 h1) (Nat.le_refl _) (hsum hl))
    (fun hl W h => fettleref02_Sum.calls k A0 c0 l0 _ W h hc0 (RefSum_f k l0 hb (by omega) (by omega)))
    (fun hl W h => fettleref02_Fast.calls k A0 c0 l0 _ W h hc0 (Fast_f k l0 hb (by omega) (by omega)))
open Go.Proofs.Ytjhoojdbjmneaaa.CrcMath in
theorem sums_of_row (a0 : Option Addr) (len0 cap0 : Nat) (z0 : List Int) (w : World) (w0 : (a0 = none ∧ len0 = 0 ∧ cap0 = 0 ∧ z0 = []) ∨ ∃ x, a0 = some x ∧ len0 ≤ cap0 ∧ cap0 ≤ maxLen ∧ z0.length = cap0 ∧ (∀ i, i < z0.length → w.cell? (x.add i) = some (.int .u8 (z0.getD i 0))) ∧ ∀ n ∈ z0, (Lit.int .u8 n).wf = true) :
    Calls Try.prog 3 #[.slice a0 len0 cap0] w fun e w' => e = .returned (.bool true) ∧ Below w.heap.size w w' := by
  obtain ⟨l0, rfl, hr0, hm0, hw0, hc0⟩ := ReadsInt.ofRowC w0
  exact sums_calls _ _ l0 w (Kd.C_of_reads (d := (0 : Int)) (h1 := fun _ => rfl) hr0) hc0 (Bytes.of hw0)
end Go.Proofs.Ytjhoojdbjmneaaa.PCrcOvers
