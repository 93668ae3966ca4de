import Derived.Test.YtgapfoaklgganaaP16
set_option linter.unusedVariables false
set_option linter.unusedSimpArgs false
set_option linter.unnecessarySimpa false
/-! The sector with the counts. -/
namespace Go.Proofs.Ytgapfoaklgganaa.L16
open Go Go.AM Go.Proofs.Ytgapfoaklgganaa.AMC
set_option maxRecDepth 10000
abbrev z512 : List Int := List.replicate 512 0
def cntL (f n : Int) : List Int := wth (wth (wth (wth (wth z512 0 (by4 1096897106)) 484 (by4 1631679090)) 488 (by4 f)) 492 (by4 n)) 508 (by4 2857697280)
theorem by4_len (v : Int) : (by4 v).length = 4 := rfl
theorem wth4_len {l : List Int} {a : Nat} (v : Int) (h : a + 4 ≤ l.length) : (wth l a (by4 v)).length = l.length := wth_len (by rw [by4_len]; exact h)
theorem z512_byt : Byt z512 := by intro x hx; rw [List.mem_replicate] at hx; omega
theorem cntL_len (f n : Int) : (cntL f n).length = 512 := by
  unfold cntL
  simp [wth, by4]
theorem cntL_byt (f n : Int) : Byt (cntL f n) := wth_byt (wth_byt (wth_byt (wth_byt (wth_byt z512_byt (by4_byt _)) (by4_byt _)) (by4_byt _)) (by4_byt _)) (by4_byt _)
theorem rd_wth {l p : List Int} {a : Nat} (h : a + p.length ≤ l.length) (i : Nat) : rdI (wth l a p) (i : Int) = if i < a then rdI l i else if i < a + p.length then rdI p ((i - a : Nat) : Int) else rdI l i := by
  have h1 : (l.take a).length = a := by simp; omega
  unfold rdI wth
  simp only [Int.toNat_natCast]
  by_cases c1 : i < a
  · rw [if_pos c1]
    simp only [List.getD_eq_getElem?_getD]
    rw [List.append_assoc, List.getElem?_append_left (by omega), List.getElem?_take, if_pos c1]
  · rw [if_neg c1]
    by_cases c2 : i < a + p.length
    · rw [if_pos c2]
      simp only [List.getD_eq_getElem?_getD]
      rw [List.append_assoc, List.getElem?_append_right (by omega), h1, List.getElem?_append_left (by omega)]
    · rw [if_neg c2]
      simp only [List.getD_eq_getElem?_getD]
      rw [List.getElem?_append_right (by simp; omega)]
      simp only [List.length_append, h1, List.getElem?_drop]
      congr 2; omega
theorem le4_same {l : List Int} {a : Nat} (v : Int) (h : a + 4 ≤ l.length) (h0 : 0 ≤ v) (h1 : v < 4294967296) : le4 (wth l a (by4 v)) (a : Int) = v := by
  have e := fun i => rd_wth (l := l) (p := by4 v) (a := a) (by rw [by4_len]; exact h) i
  have e0 := e a
  have e1 := e (a + 1)
  have e2 := e (a + 2)
  have e3 := e (a + 3)
  rw [if_neg (by omega), if_pos (by rw [by4_len]; omega)] at e0 e1 e2 e3
  rw [show a - a = 0 by omega] at e0
  rw [show a + 1 - a = 1 by omega] at e1
  rw [show a + 2 - a = 2 by omega] at e2
  rw [show a + 3 - a = 3 by omega] at e3
  unfold le4
  rw [e0, show (a : Int) + 1 = ((a + 1 : Nat) : Int) by omega, e1, show (a : Int) + 2 = ((a + 2 : Nat) : Int) by omega, e2, show (a : Int) + 3 = ((a + 3 : Nat) : Int) by omega, e3]
  show v % 256 + 256 * (v / 256 % 256) + 65536 * (v / 256 / 256 % 256) + 16777216 * (v / 256 / 256 / 256 % 256) = v
  omega
theorem le4_other {l : List Int} {a b : Nat} (v : Int) (h : a + 4 ≤ l.length) (hb : b + 4 ≤ a ∨ a + 4 ≤ b) : le4 (wth l a (by4 v)) (b : Int) = le4 l b := by
  have e := fun i => rd_wth (l := l) (p := by4 v) (a := a) (by rw [by4_len]; exact h) i
  have key : ∀ i, i < 4 → rdI (wth l a (by4 v)) ((b + i : Nat) : Int) = rdI l ((b + i : Nat) : Int) := by
    intro i hi
    rw [e]
    by_cases c : b + i < a
    · rw [if_pos c]
    · rw [if_neg c, if_neg (by rw [by4_len]; omega)]
  unfold le4
  have k0 := key 0 (by omega)
  have k1 := key 1 (by omega)
  have k2 := key 2 (by omega)
  have k3 := key 3 (by omega)
  simp only [Int.natCast_add] at k0 k1 k2 k3
  have a0 : ((b : Int) + ((0 : Nat) : Int)) = b := by omega
  rw [a0] at k0
  have f1 : ((1 : Nat) : Int) = 1 := rfl
  have f2 : ((2 : Nat) : Int) = 2 := rfl
  have f3 : ((3 : Nat) : Int) = 3 := rfl
  rw [f1] at k1; rw [f2] at k2; rw [f3] at k3
  rw [k0, k1, k2, k3]
theorem z512_len : z512.length = 512 := by simp
theorem cnt_le (f n : Int) (hf : 0 ≤ f ∧ f ≤ 4294967295) (hn : 0 ≤ n ∧ n ≤ 4294967295) :
    le4 (cntL f n) 0 = 1096897106 ∧ le4 (cntL f n) 484 = 1631679090 ∧ le4 (cntL f n) 488 = f ∧ le4 (cntL f n) 492 = n ∧ le4 (cntL f n) 508 = 2857697280 := by
  have l0 := z512_len
  have l1 : (wth z512 0 (by4 1096897106)).length = 512 := by rw [wth4_len _ (by omega)]; exact l0
  have l2 : (wth (wth z512 0 (by4 1096897106)) 484 (by4 1631679090)).length = 512 := by rw [wth4_len _ (by omega)]; exact l1
  have l3 : (wth (wth (wth z512 0 (by4 1096897106)) 484 (by4 1631679090)) 488 (by4 f)).length = 512 := by rw [wth4_len _ (by omega)]; exact l2
  have l4 : (wth (wth (wth (wth z512 0 (by4 1096897106)) 484 (by4 1631679090)) 488 (by4 f)) 492 (by4 n)).length = 512 := by rw [wth4_len _ (by omega)]; exact l3
  unfold cntL
  have o5 := fun b hb => le4_other (l := wth (wth (wth (wth z512 0 (by4 1096897106)) 484 (by4 1631679090)) 488 (by4 f)) 492 (by4 n)) (a := 508) (b := b) 2857697280 (by omega) hb
  have o4 := fun b hb => le4_other (l := wth (wth (wth z512 0 (by4 1096897106)) 484 (by4 1631679090)) 488 (by4 f)) (a := 492) (b := b) n (by omega) hb
  have o3 := fun b hb => le4_other (l := wth (wth z512 0 (by4 1096897106)) 484 (by4 1631679090)) (a := 488) (b := b) f (by omega) hb
  have o2 := fun b hb => le4_other (l := wth z512 0 (by4 1096897106)) (a := 484) (b := b) 1631679090 (by omega) hb
  refine ⟨?_, ?_, ?_, ?_, ?_⟩
  · exact (o5 0 (by omega)).trans ((o4 0 (by omega)).trans ((o3 0 (by omega)).trans ((o2 0 (by omega)).trans (le4_same (l := z512) (a := 0) _ (by omega) (by omega) (by omega)))))
  · exact (o5 484 (by omega)).trans ((o4 484 (by omega)).trans ((o3 484 (by omega)).trans (le4_same (a := 484) _ (by omega) (by omega) (by omega))))
  · exact (o5 488 (by omega)).trans ((o4 488 (by omega)).trans (le4_same (a := 488) _ (by omega) (by omega) (by omega)))
  · exact (o5 492 (by omega)).trans (le4_same (a := 492) _ (by omega) (by omega) (by omega))
  · exact le4_same (a := 508) _ (by omega) (by omega) (by omega)

def box2 (f n : Int) : AObj := .row false 0 (.vals [.int .i64 f, .int .i64 n])
abbrev cntV (f n : Int) : Value := .agg #[.int .i64 f, .int .i64 n]
theorem box2_new (f n : Int) (h : AHeap) : aNew true (cntV f n).cells.toList h = some (.pointer (some ⟨h.next, 0, none⟩), h.new (box2 f n)) := by
  simp [aNew, cntV, Value.cells, box2, one]
theorem box2_get (f n : Int) (h : AHeap) : (h.new (box2 f n)).get h.next = .row false 0 (.vals [.int .i64 f, .int .i64 n]) := by rw [AHeap.get_new, if_pos rfl]; rfl
def okC (f n : Int) : Prop := 0 ≤ f ∧ f ≤ 4294967295 ∧ 0 ≤ n ∧ n ≤ 4294967295
theorem putc_bad (L d : Nat) (f n : Int) (h : AHeap) (hb : ¬ okC f n) :
    (En L (d + 1)).go 29 [cntV f n] h = some (.tuple #[.slice none 0 0, .int .i64 4], h.new (box2 f n)) := by
  refine go_of (show tabF 29 = some (.code a29) by rfl) rfl ?_
  unfold a29
  have g := box2_get f n h
  have c0 := ld_cell g (i := 0) rfl
  have c1 := ld_cell g (i := 1) rfl
  unfold okC at hb
  by_cases h1 : f < 0
  · simp (disch := omega) [box2_new, c0, c1, h1]
  · by_cases h2 : 4294967295 < f
    · simp (disch := omega) [box2_new, c0, c1, h1, h2]
    · by_cases h3 : n < 0
      · simp (disch := omega) [box2_new, c0, c1, h1, h2, h3]
      · have h4 : 4294967295 < n := by omega
        simp (disch := omega) [box2_new, c0, c1, h1, h2, h3, h4]
end Go.Proofs.Ytgapfoaklgganaa.L16
