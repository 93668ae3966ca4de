import Derived.Test.YtoehafeeoggpkaaU24
set_option linter.unusedVariables false
set_option linter.unusedSimpArgs false
set_option linter.unnecessarySimpa false
/-! The sort as a primitive is sound. -/
namespace Go.Proofs.Ytoehafeeoggpkaa.L24
open Go Go.Proofs Go.Shelf Go.RowKit Go.Lib Go.Sort Go.AM Go.Proofs.Ytoehafeeoggpkaa.AMC
theorem flat_int (d : Array (Int × Int)) (t : Nat) (h : t < d.size * 2) : ∃ z : Int, (flatK encE 2 d)[t]! = .int .i64 z := by
  rw [get_flatK _ _ _ _ h]
  have : t % 2 = 0 ∨ t % 2 = 1 := by omega
  rcases this with e | e <;> rw [e]
  · exact ⟨_, rfl⟩
  · exact ⟨_, rfl⟩
theorem goB {σ : Sig} {h : AHeap} {w w' : World} (hb : Below w.heap.size w w') : Go' σ h w σ h w' := ⟨Nat.le_refl _, fun _ _ => rfl, hb.size, fun b hlt _ => hb.block b hlt, fun b ho => .inl ho⟩
theorem sort_core {N0 : Nat} {w0 : World} {σ : Sig} {h : AHeap} {w : World} (hI : Inv N0 w0 σ h w) {b gr cap : Nat} {d : List (Int × Int)} (hg : h.get b = .row false gr (.vals (encL d))) (hd : d.length < 1000000000) :
    Calls Try.prog 77 #[.slice (some ⟨(σ b).blk, (σ b).base + 0, none⟩) d.length cap, .func (.func 78) #[] #[]] w fun e w' =>
      ∃ σ' cr, e = .returned cr ∧ VR (h.set b (.row false gr (.vals (encL (pdqE d.toArray).toList)))).next σ' (.tuple #[]) cr ∧ Inv N0 w0 σ' (h.set b (.row false gr (.vals (encL (pdqE d.toArray).toList)))) w' ∧ Go' σ h w σ' (h.set b (.row false gr (.vals (encL (pdqE d.toArray).toList)))) w' := by
  have hobj := hI.obj b
  rw [hg] at hobj
  obtain ⟨cs, el, ⟨lo, hi⟩, c1, c2, c3, c4, c5, c6⟩ := hobj
  have hlen := encL_len d
  have hsz : (Cells.vals (encL d)).size = 2 * d.length := hlen
  rw [hsz] at c3
  have hblk : (σ b).blk < w.heap.size := (Array.getElem?_eq_some_iff.1 c1).1
  have hH : HoldsK encE 2 w (σ b).blk ((σ b).base + 0) d.toArray := by
    intro j hj
    rw [size_flatK] at hj
    have hj2 : j < 2 * d.length := by simp at hj; omega
    obtain ⟨z, hz⟩ := flat_int d.toArray j hj
    have fg := flat_get d j hj2
    obtain ⟨v', e1, e2, e3⟩ := c2 j _ fg
    rw [hz] at e2
    cases e2
    refine ⟨?_, ?_⟩
    · rw [cell_of c1, Nat.add_zero, e1]; show _ = some (id (flatK encE 2 d.toArray)[j]!); rw [hz]; rfl
    · unfold World.frozen?
      rw [c1]
      have := c4 rfl
      simp only at this
      show (decide (lo ≤ (σ b).base + 0 + j) && decide ((σ b).base + 0 + j < hi)) = false
      rw [Bool.and_eq_false_iff]
      rcases this with h1 | h1
      · by_cases h2 : lo ≤ (σ b).base + 0 + j
        · right; exact decide_eq_false (by omega)
        · left; exact decide_eq_false h2
      · left; exact decide_eq_false (by omega)
  have sc := sort_calls (σ b).blk ((σ b).base + 0) cap d.toArray w hH hblk (by simp; omega)
  rw [show d.toArray.size = d.length by simp] at sc
  refine sc.mono ?_
  rintro e w' ⟨rfl, n, os, rfl⟩
  have hps : (pdqE d.toArray).size = d.length := by rw [pdqE_size]; simp
  have B1 : Below w.heap.size w (Sort.ahead w n) := ⟨rfl, rfl, rfl, Nat.le_refl _, fun _ _ => rfl⟩
  have I1 : Inv N0 w0 σ h (Sort.ahead w n) := hI.world (B1.mono hI.base) (fun m hl => rfl)
  have hl2 := encL_len (pdqE d.toArray).toList
  have hl2' : (pdqE d.toArray).toList.length = d.length := by simpa using hps
  have hheap : (putRowK encE 2 (Sort.ahead w n) (σ b).blk ((σ b).base + 0) (pdqE d.toArray)).heap[(σ b).blk]? = some (.cells (putCells id ((σ b).base + 0) (flatK encE 2 (pdqE d.toArray)) cs) el (lo, hi)) := by
    unfold putRowK putRow mapBlock
    have c1' : (Sort.ahead w n).heap[(σ b).blk]? = some (.cells cs el (lo, hi)) := c1
    simp only [Array.getElem?_modify, if_true, c1', Option.map_some]
    rfl
  obtain ⟨I2, G2⟩ := I1.write (w' := putRowK encE 2 (Sort.ahead w n) (σ b).blk ((σ b).base + 0) (pdqE d.toArray)) b (.row false gr (.vals (encL (pdqE d.toArray).toList))) (by rw [hg]; rfl)
    (by
      refine ⟨_, el, (lo, hi), hheap, ?_, ?_, ?_, c5, ?_⟩
      · intro i v hv
        have hi2 : i < 2 * (pdqE d.toArray).toList.length := by
          have := (List.getElem?_eq_some_iff.1 (show (encL (pdqE d.toArray).toList)[i]? = some v from hv)).1
          omega
        have fg := flat_get (pdqE d.toArray).toList i hi2
        rw [Array.toArray_toList] at fg
        have hv' : (encL (pdqE d.toArray).toList)[i]? = some v := hv
        rw [fg] at hv'
        injection hv' with hv'
        obtain ⟨z, hz⟩ := flat_int (pdqE d.toArray) i (by rw [hps]; omega)
        rw [hz] at hv'
        subst hv'
        refine ⟨.int .i64 z, ?_, .int _ _, rfl⟩
        have hic : (σ b).base + i < cs.size := by omega
        unfold putCells
        rw [Array.getElem?_mapIdx, Array.getElem?_eq_getElem hic, Option.map_some, if_pos ⟨by omega, by rw [size_flatK, hps]; omega⟩]
        show some (id (flatK encE 2 (pdqE d.toArray))[(σ b).base + i - ((σ b).base + 0)]!) = _
        rw [show (σ b).base + i - ((σ b).base + 0) = i by omega, hz]; rfl
      · show (σ b).base + (encL (pdqE d.toArray).toList).length ≤ _
        unfold putCells
        rw [Array.size_mapIdx]; omega
      · intro _
        have := c4 rfl
        unfold putCells
        rw [Array.size_mapIdx]; exact this
      · intro es ext he
        obtain ⟨q1, q2, q3⟩ := c6 es ext he
        refine ⟨q1, ?_, ?_⟩
        · show (encL (pdqE d.toArray).toList).length ≤ ext
          rw [hsz] at q2; omega
        · unfold putCells; rw [Array.size_mapIdx]; exact q3) rfl rfl rfl rfl (by unfold putRowK; simp) (by
      intro k hk
      unfold putRowK putRow mapBlock
      simp only [Array.getElem?_modify]
      rw [if_neg (fun e => hk e.symm)])
  have B3 : Below (putRowK encE 2 (Sort.ahead w n) (σ b).blk ((σ b).base + 0) (pdqE d.toArray)).heap.size (putRowK encE 2 (Sort.ahead w n) (σ b).blk ((σ b).base + 0) (pdqE d.toArray)) (sortWorldK encE 2 w (σ b).blk ((σ b).base + 0) n (pdqE d.toArray) os) :=
    ⟨rfl, rfl, rfl, by show _ ≤ (Sort.grow _ os).heap.size; rw [size_grow]; omega, fun k hk => by
      show (_ ++ os)[k]? = _
      rw [Array.getElem?_append_left hk]⟩
  have I3 := I2.world (B3.mono I2.base) (fun m hl => B3.block _ (I2.lt_size hl))
  exact ⟨σ, .tuple #[], rfl, .tup _ _ rfl (fun i v v' e => by simp at e), I3, ((goB B1).trans G2).trans (goB B3)⟩
theorem qSort_runs : ∀ args h r h', qSort args h = some (r, h') → Runs Try.prog 77 args h r h' := by
  intro args h r h' hq
  unfold qSort at hq
  split at hq
  · rename_i a c g x y
    split at hq
    · rename_i hc
      obtain ⟨rfl, hx, hy⟩ := hc
      simp only [Option.some.injEq, Prod.mk.injEq] at hq
      obtain ⟨rfl, rfl⟩ := hq
      exact go_runs (L := 0 + 10) (D := 0 + 3) follows tabOk (sort_0 0 0 a c _ h)
    · cases hq
  · rename_i a len cap g x y hne
    split at hq
    · rename_i hc
      obtain ⟨rfl, hx, hy, h1, h2, h3, h4⟩ := hc
      obtain rfl : x = #[] := Array.eq_empty_of_size_eq_zero hx
      obtain rfl : y = #[] := Array.eq_empty_of_size_eq_zero hy
      obtain ⟨b, o, sp⟩ := a
      simp only at h1 h2
      subst h1; subst h2
      split at hq
      · rename_i gr l hg
        split at hq
        · rename_i d hd
          have hl := pairsL_eq l.length l d (Nat.le_refl _) hd
          subst hl
          split at hq
          · rename_i hlen
            simp only [Option.some.injEq, Prod.mk.injEq] at hq
            obtain ⟨rfl, rfl⟩ := hq
            subst hlen
            intro N0 w0 σ w cargs hI hv
            obtain ⟨s1, r1, rfl, v1, hv1⟩ := hv.cons_inv
            obtain ⟨s2, r2, rfl, v2, hv2⟩ := hv1.cons_inv
            have := hv2.nil_inv
            subst this
            have hf : s2 = .func (.func 78) #[] #[] := by
              cases v2 with
              | func f hf a a' b b' ha hb hav hbv =>
                have e1 : a' = #[] := Array.eq_empty_of_size_eq_zero (by simpa using ha.symm)
                have e2 : b' = #[] := Array.eq_empty_of_size_eq_zero (by simpa using hb.symm)
                rw [e1, e2]
            subst hf
            have hs : ∀ (nn : Nat), 0 < nn → VR h.next σ (.slice (some ⟨b, 0, none⟩) nn cap) s1 → ∃ cap', s1 = .slice (some ⟨(σ b).blk, (σ b).base + 0, none⟩) nn cap' := by
              intro nn hp v
              cases v with
              | sl => exact ⟨_, rfl⟩
              | slg => exact ⟨_, rfl⟩
              | sle => exact absurd hp (Nat.lt_irrefl 0)
            replace hs := hs d.length h3 v1
            obtain ⟨cap', rfl⟩ := hs
            exact sort_core hI hg h4
          · cases hq
        · cases hq
      · cases hq
    · cases hq
  · cases hq
end Go.Proofs.Ytoehafeeoggpkaa.L24
