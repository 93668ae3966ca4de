import Derived.Test.YtgapfoaklgganaaX16
set_option linter.unusedVariables false
set_option linter.unusedSimpArgs false
set_option linter.unnecessarySimpa false
/-! A boot is read from a sector. -/
namespace Go.Proofs.Ytgapfoaklgganaa.L16
open Go Go.AM Go.Proofs.Ytgapfoaklgganaa.AMC
set_option maxRecDepth 10000
def layL (b : List Int) : List (Nat × List Int) → List Int
  | [] => b
  | (a, p) :: ps => layL (wth b a p) ps
def rdL : List (Nat × List Int) → Int → Nat → Int
  | [], d, _ => d
  | (a, p) :: ps, d, i => rdL ps (if i < a then d else if i < a + p.length then rdI p ((i - a : Nat) : Int) else d) i
theorem rd_layL (i : Nat) : ∀ (ps : List (Nat × List Int)) (b : List Int), (∀ q ∈ ps, q.1 + q.2.length ≤ b.length) → rdI (layL b ps) (i : Int) = rdL ps (rdI b i) i
  | [], b, h => rfl
  | (a, p) :: ps, b, h => by
    have h1 : a + p.length ≤ b.length := h (a, p) (by simp)
    show rdI (layL (wth b a p) ps) (i : Int) = rdL ps _ i
    rw [rd_layL i ps (wth b a p) (fun q hq => by rw [wth_len h1]; exact h q (by simp [hq])), rd_wth h1]
def bps (e a t s g r i c : Int) : List (Nat × List Int) := [(11, (by2 512)), (13, [e]), (14, (by2 a)), (16, [t]), (17, z4), (22, z2), (32, (by4 s)), (36, (by4 g)), (40, z4), (44, (by4 r)), (48, (by2 i)), (50, (by2 c)), (82, sig), (510, [85, 170])]
theorem bootL_lay (b : List Int) (e a t s g r i c : Int) : bootL b e a t s g r i c = layL b (bps e a t s g r i c) := rfl
theorem bps_fit {b : List Int} (e a t s g r i c : Int) (hb : b.length = 512) : ∀ q ∈ bps e a t s g r i c, q.1 + q.2.length ≤ b.length := by
  intro q hq
  simp only [bps, List.mem_cons, List.not_mem_nil, or_false] at hq
  rcases hq with rfl | rfl | rfl | rfl | rfl | rfl | rfl | rfl | rfl | rfl | rfl | rfl | rfl | rfl <;> simp only [by2_len, by4_len, List.length_cons, List.length_nil] <;> omega
structure Rd (B : List Int) (e a t s g r i c : Int) : Prop where
  x510 : rdI B 510 = 85
  x511 : rdI B 511 = 170
  x13 : rdI B 13 = e
  x16 : rdI B 16 = t
  x11 : le2 B 11 = 512
  x14 : le2 B 14 = a
  x17 : le2 B 17 = 0
  x19 : le2 B 19 = 0
  x22 : le2 B 22 = 0
  x32 : le4 B 32 = s
  x36 : le4 B 36 = g
  x40 : le4 B 40 = 0
  x44 : le4 B 44 = r
  x48 : le2 B 48 = i
  x50 : le2 B 50 = c
  sg : (B.drop 82).take 8 = sig
theorem bootL_rd {b : List Int} {e a t s g r i c : Int} (hb : b.length = 512) (hr : Rng e a t s g r i c) : Rd (bootL b e a t s g r i c) e a t s g r i c := by
  have hl := bootL_len e a t s g r i c hb
  have R : ∀ k : Nat, rdI (bootL b e a t s g r i c) (k : Int) = rdL (bps e a t s g r i c) (rdI b k) k := fun k => by rw [bootL_lay]; exact rd_layL k _ b (bps_fit e a t s g r i c hb)
  obtain ⟨e0, e1, t0, t1, s0, s1, g0, g1, a0, a1, i0, i1, c0, c1, r0, r1⟩ := hr
  generalize bootL b e a t s g r i c = B at R hl
  refine ⟨R 510, R 511, R 13, R 16, ?_, ?_, ?_, ?_, ?_, ?_, ?_, ?_, ?_, ?_, ?_, ?_⟩
  · have h0 : rdI B 11 = 512 % 256 := R 11
    have h1 : rdI B (11 + 1) = 512 / 256 % 256 := R 12
    unfold le2; rw [h0, h1]; omega
  · have h0 : rdI B 14 = a % 256 := R 14
    have h1 : rdI B (14 + 1) = a / 256 % 256 := R 15
    unfold le2; rw [h0, h1]; omega
  · have h0 : rdI B (17) = 0 := R 17
    have h1 : rdI B (17 + 1) = 0 := R 18
    unfold le2; rw [h0, h1]; rfl
  · have h0 : rdI B (19) = 0 := R 19
    have h1 : rdI B (19 + 1) = 0 := R 20
    unfold le2; rw [h0, h1]; rfl
  · have h0 : rdI B (22) = 0 := R 22
    have h1 : rdI B (22 + 1) = 0 := R 23
    unfold le2; rw [h0, h1]; rfl
  · have h0 : rdI B (32) = s % 256 := R 32
    have h1 : rdI B (32 + 1) = s / 256 % 256 := R 33
    have h2 : rdI B (32 + 2) = s / 256 / 256 % 256 := R 34
    have h3 : rdI B (32 + 3) = s / 256 / 256 / 256 % 256 := R 35
    unfold le4; rw [h0, h1, h2, h3]; omega
  · have h0 : rdI B (36) = g % 256 := R 36
    have h1 : rdI B (36 + 1) = g / 256 % 256 := R 37
    have h2 : rdI B (36 + 2) = g / 256 / 256 % 256 := R 38
    have h3 : rdI B (36 + 3) = g / 256 / 256 / 256 % 256 := R 39
    unfold le4; rw [h0, h1, h2, h3]; omega
  · have h0 : rdI B (40) = 0 := R 40
    have h1 : rdI B (40 + 1) = 0 := R 41
    have h2 : rdI B (40 + 2) = 0 := R 42
    have h3 : rdI B (40 + 3) = 0 := R 43
    unfold le4; rw [h0, h1, h2, h3]; rfl
  · have h0 : rdI B (44) = r % 256 := R 44
    have h1 : rdI B (44 + 1) = r / 256 % 256 := R 45
    have h2 : rdI B (44 + 2) = r / 256 / 256 % 256 := R 46
    have h3 : rdI B (44 + 3) = r / 256 / 256 / 256 % 256 := R 47
    unfold le4; rw [h0, h1, h2, h3]; omega
  · have h0 : rdI B 48 = i % 256 := R 48
    have h1 : rdI B (48 + 1) = i / 256 % 256 := R 49
    unfold le2; rw [h0, h1]; omega
  · have h0 : rdI B 50 = c % 256 := R 50
    have h1 : rdI B (50 + 1) = c / 256 % 256 := R 51
    unfold le2; rw [h0, h1]; omega
  · apply List.ext_getElem
    · simp [hl]
    · intro k h1 h2
      simp only [List.length_cons, List.length_nil] at h2
      have key : ∀ j, j < 8 → (B[82 + j]?).getD 0 = sig.getD j 0 := by
        intro j hj
        have : j = 0 ∨ j = 1 ∨ j = 2 ∨ j = 3 ∨ j = 4 ∨ j = 5 ∨ j = 6 ∨ j = 7 := by omega
        have e1 : ∀ n : Nat, rdI B (n : Int) = (B[n]?).getD 0 := fun n => by simp [rdI]
        rw [← e1]
        rcases this with rfl | rfl | rfl | rfl | rfl | rfl | rfl | rfl
        · exact R 82
        · exact R 83
        · exact R 84
        · exact R 85
        · exact R 86
        · exact R 87
        · exact R 88
        · exact R 89
      have kk := key k (by omega)
      rw [List.getElem?_eq_getElem (by omega)] at kk
      rw [List.getElem_take, List.getElem_drop]
      simp only [Option.getD_some] at kk
      rw [kk, List.getD_eq_getElem?_getD, List.getElem?_eq_getElem h2]
      rfl
end Go.Proofs.Ytgapfoaklgganaa.L16
