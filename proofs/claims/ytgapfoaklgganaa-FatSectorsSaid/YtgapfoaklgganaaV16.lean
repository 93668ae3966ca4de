import Derived.Test.YtgapfoaklgganaaU16
set_option linter.unusedVariables false
set_option linter.unusedSimpArgs false
set_option linter.unnecessarySimpa false
/-! A boot, put into a sector: by the program, by the document. -/
namespace Go.Proofs.Ytgapfoaklgganaa.L16
open Go Go.AM Go.Proofs.Ytgapfoaklgganaa.AMC
set_option maxRecDepth 10000
abbrev z4 : List Int := [0, 0, 0, 0]
abbrev z2 : List Int := [0, 0]
abbrev sig : List Int := [70, 65, 84, 51, 50, 32, 32, 32]
theorem by2_len (v : Int) : (by2 v).length = 2 := rfl
def bootL (b : List Int) (e a t s g r i c : Int) : List Int := (wth (wth (wth (wth (wth (wth (wth (wth (wth (wth (wth (wth (wth (wth b 11 (by2 512)) 13 [e]) 14 (by2 a)) 16 [t]) 17 z4) 22 z2) 32 (by4 s)) 36 (by4 g)) 40 z4) 44 (by4 r)) 48 (by2 i)) 50 (by2 c)) 82 sig) 510 [85, 170])
def progL (b : List Int) (e a t s g r i c : Int) : List Int := (wth (wth (wth (wth (wth (wth (wth (wth (wth (wth (wth (wth (wth (wth (wth (wth b 11 (by2 512)) 13 [e]) 16 [t]) 14 (by2 a)) 17 (by2 0)) 19 (by2 0)) 22 (by2 0)) 32 (by4 s)) 36 (by4 g)) 40 (by4 0)) 44 (by4 r)) 48 (by2 i)) 50 (by2 c)) 82 sig) 510 [85]) 511 [170])
theorem progL_eq (b : List Int) (e a t s g r i c : Int) (hb : b.length = 512) : progL b e a t s g r i c = bootL b e a t s g r i c := by
  have q0 := hb
  have q1 : (wth b 11 (by2 512)).length = 512 := by rw [wth_len (by simp only [q0, by2_len, by4_len, List.length_cons, List.length_nil]; omega)]; exact q0
  have q2 : (wth (wth b 11 (by2 512)) 13 [e]).length = 512 := by rw [wth_len (by simp only [q1, by2_len, by4_len, List.length_cons, List.length_nil]; omega)]; exact q1
  have q3 : (wth (wth (wth b 11 (by2 512)) 13 [e]) 16 [t]).length = 512 := by rw [wth_len (by simp only [q2, by2_len, by4_len, List.length_cons, List.length_nil]; omega)]; exact q2
  have q4 : (wth (wth (wth (wth b 11 (by2 512)) 13 [e]) 16 [t]) 14 (by2 a)).length = 512 := by rw [wth_len (by simp only [q3, by2_len, by4_len, List.length_cons, List.length_nil]; omega)]; exact q3
  have q5 : (wth (wth (wth (wth (wth b 11 (by2 512)) 13 [e]) 16 [t]) 14 (by2 a)) 17 (by2 0)).length = 512 := by rw [wth_len (by simp only [q4, by2_len, by4_len, List.length_cons, List.length_nil]; omega)]; exact q4
  have q6 : (wth (wth (wth (wth (wth (wth b 11 (by2 512)) 13 [e]) 16 [t]) 14 (by2 a)) 17 (by2 0)) 19 (by2 0)).length = 512 := by rw [wth_len (by simp only [q5, by2_len, by4_len, List.length_cons, List.length_nil]; omega)]; exact q5
  have q7 : (wth (wth (wth (wth (wth (wth (wth b 11 (by2 512)) 13 [e]) 16 [t]) 14 (by2 a)) 17 (by2 0)) 19 (by2 0)) 22 (by2 0)).length = 512 := by rw [wth_len (by simp only [q6, by2_len, by4_len, List.length_cons, List.length_nil]; omega)]; exact q6
  have q8 : (wth (wth (wth (wth (wth (wth (wth (wth b 11 (by2 512)) 13 [e]) 16 [t]) 14 (by2 a)) 17 (by2 0)) 19 (by2 0)) 22 (by2 0)) 32 (by4 s)).length = 512 := by rw [wth_len (by simp only [q7, by2_len, by4_len, List.length_cons, List.length_nil]; omega)]; exact q7
  have q9 : (wth (wth (wth (wth (wth (wth (wth (wth (wth b 11 (by2 512)) 13 [e]) 16 [t]) 14 (by2 a)) 17 (by2 0)) 19 (by2 0)) 22 (by2 0)) 32 (by4 s)) 36 (by4 g)).length = 512 := by rw [wth_len (by simp only [q8, by2_len, by4_len, List.length_cons, List.length_nil]; omega)]; exact q8
  have q10 : (wth (wth (wth (wth (wth (wth (wth (wth (wth (wth b 11 (by2 512)) 13 [e]) 16 [t]) 14 (by2 a)) 17 (by2 0)) 19 (by2 0)) 22 (by2 0)) 32 (by4 s)) 36 (by4 g)) 40 (by4 0)).length = 512 := by rw [wth_len (by simp only [q9, by2_len, by4_len, List.length_cons, List.length_nil]; omega)]; exact q9
  have q11 : (wth (wth (wth (wth (wth (wth (wth (wth (wth (wth (wth b 11 (by2 512)) 13 [e]) 16 [t]) 14 (by2 a)) 17 (by2 0)) 19 (by2 0)) 22 (by2 0)) 32 (by4 s)) 36 (by4 g)) 40 (by4 0)) 44 (by4 r)).length = 512 := by rw [wth_len (by simp only [q10, by2_len, by4_len, List.length_cons, List.length_nil]; omega)]; exact q10
  have q12 : (wth (wth (wth (wth (wth (wth (wth (wth (wth (wth (wth (wth b 11 (by2 512)) 13 [e]) 16 [t]) 14 (by2 a)) 17 (by2 0)) 19 (by2 0)) 22 (by2 0)) 32 (by4 s)) 36 (by4 g)) 40 (by4 0)) 44 (by4 r)) 48 (by2 i)).length = 512 := by rw [wth_len (by simp only [q11, by2_len, by4_len, List.length_cons, List.length_nil]; omega)]; exact q11
  have q13 : (wth (wth (wth (wth (wth (wth (wth (wth (wth (wth (wth (wth (wth b 11 (by2 512)) 13 [e]) 16 [t]) 14 (by2 a)) 17 (by2 0)) 19 (by2 0)) 22 (by2 0)) 32 (by4 s)) 36 (by4 g)) 40 (by4 0)) 44 (by4 r)) 48 (by2 i)) 50 (by2 c)).length = 512 := by rw [wth_len (by simp only [q12, by2_len, by4_len, List.length_cons, List.length_nil]; omega)]; exact q12
  have q14 : (wth (wth (wth (wth (wth (wth (wth (wth (wth (wth (wth (wth (wth (wth b 11 (by2 512)) 13 [e]) 16 [t]) 14 (by2 a)) 17 (by2 0)) 19 (by2 0)) 22 (by2 0)) 32 (by4 s)) 36 (by4 g)) 40 (by4 0)) 44 (by4 r)) 48 (by2 i)) 50 (by2 c)) 82 sig).length = 512 := by rw [wth_len (by simp only [q13, by2_len, by4_len, List.length_cons, List.length_nil]; omega)]; exact q13
  have c1 : (wth (wth (wth (wth b 11 (by2 512)) 13 [e]) 16 [t]) 14 (by2 a)) = (wth (wth (wth (wth b 11 (by2 512)) 13 [e]) 14 (by2 a)) 16 [t]) := (wth_comm (l := (wth (wth b 11 (by2 512)) 13 [e])) (p := by2 a) (q := [t]) (a := 14) (b := 16) (by simp [by2]) (by rw [q2]; simp)).symm
  have m1 : (wth (wth (wth (wth (wth (wth b 11 (by2 512)) 13 [e]) 14 (by2 a)) 16 [t]) 17 (by2 0)) 19 (by2 0)) = (wth (wth (wth (wth (wth b 11 (by2 512)) 13 [e]) 14 (by2 a)) 16 [t]) 17 z4) := wth_wth (l := (wth (wth (wth (wth b 11 (by2 512)) 13 [e]) 14 (by2 a)) 16 [t])) (a := 17) (p := by2 0) (q := by2 0) (by rw [← c1, q4]; simp [by2])
  unfold progL bootL
  rw [c1, m1]
  have q : (wth (wth (wth (wth (wth (wth (wth (wth (wth (wth (wth (wth (wth b 11 (by2 512)) 13 [e]) 14 (by2 a)) 16 [t]) 17 z4) 22 z2) 32 (by4 s)) 36 (by4 g)) 40 z4) 44 (by4 r)) 48 (by2 i)) 50 (by2 c)) 82 sig).length = 512 := by have := q14; rw [c1, m1] at this; exact this
  exact wth_wth (l := (wth (wth (wth (wth (wth (wth (wth (wth (wth (wth (wth (wth (wth b 11 (by2 512)) 13 [e]) 14 (by2 a)) 16 [t]) 17 z4) 22 z2) 32 (by4 s)) 36 (by4 g)) 40 z4) 44 (by4 r)) 48 (by2 i)) 50 (by2 c)) 82 sig)) (a := 510) (p := [85]) (q := [170]) (by rw [q]; simp)
theorem bootL_len {b : List Int} (e a t s g r i c : Int) (hb : b.length = 512) : (bootL b e a t s g r i c).length = 512 := by
  have q0 := hb
  have q1 : (wth b 11 (by2 512)).length = 512 := by rw [wth_len (by simp only [q0, by2_len, by4_len, List.length_cons, List.length_nil]; omega)]; exact q0
  have q2 : (wth (wth b 11 (by2 512)) 13 [e]).length = 512 := by rw [wth_len (by simp only [q1, by2_len, by4_len, List.length_cons, List.length_nil]; omega)]; exact q1
  have q3 : (wth (wth (wth b 11 (by2 512)) 13 [e]) 14 (by2 a)).length = 512 := by rw [wth_len (by simp only [q2, by2_len, by4_len, List.length_cons, List.length_nil]; omega)]; exact q2
  have q4 : (wth (wth (wth (wth b 11 (by2 512)) 13 [e]) 14 (by2 a)) 16 [t]).length = 512 := by rw [wth_len (by simp only [q3, by2_len, by4_len, List.length_cons, List.length_nil]; omega)]; exact q3
  have q5 : (wth (wth (wth (wth (wth b 11 (by2 512)) 13 [e]) 14 (by2 a)) 16 [t]) 17 z4).length = 512 := by rw [wth_len (by simp only [q4, by2_len, by4_len, List.length_cons, List.length_nil]; omega)]; exact q4
  have q6 : (wth (wth (wth (wth (wth (wth b 11 (by2 512)) 13 [e]) 14 (by2 a)) 16 [t]) 17 z4) 22 z2).length = 512 := by rw [wth_len (by simp only [q5, by2_len, by4_len, List.length_cons, List.length_nil]; omega)]; exact q5
  have q7 : (wth (wth (wth (wth (wth (wth (wth b 11 (by2 512)) 13 [e]) 14 (by2 a)) 16 [t]) 17 z4) 22 z2) 32 (by4 s)).length = 512 := by rw [wth_len (by simp only [q6, by2_len, by4_len, List.length_cons, List.length_nil]; omega)]; exact q6
  have q8 : (wth (wth (wth (wth (wth (wth (wth (wth b 11 (by2 512)) 13 [e]) 14 (by2 a)) 16 [t]) 17 z4) 22 z2) 32 (by4 s)) 36 (by4 g)).length = 512 := by rw [wth_len (by simp only [q7, by2_len, by4_len, List.length_cons, List.length_nil]; omega)]; exact q7
  have q9 : (wth (wth (wth (wth (wth (wth (wth (wth (wth b 11 (by2 512)) 13 [e]) 14 (by2 a)) 16 [t]) 17 z4) 22 z2) 32 (by4 s)) 36 (by4 g)) 40 z4).length = 512 := by rw [wth_len (by simp only [q8, by2_len, by4_len, List.length_cons, List.length_nil]; omega)]; exact q8
  have q10 : (wth (wth (wth (wth (wth (wth (wth (wth (wth (wth b 11 (by2 512)) 13 [e]) 14 (by2 a)) 16 [t]) 17 z4) 22 z2) 32 (by4 s)) 36 (by4 g)) 40 z4) 44 (by4 r)).length = 512 := by rw [wth_len (by simp only [q9, by2_len, by4_len, List.length_cons, List.length_nil]; omega)]; exact q9
  have q11 : (wth (wth (wth (wth (wth (wth (wth (wth (wth (wth (wth b 11 (by2 512)) 13 [e]) 14 (by2 a)) 16 [t]) 17 z4) 22 z2) 32 (by4 s)) 36 (by4 g)) 40 z4) 44 (by4 r)) 48 (by2 i)).length = 512 := by rw [wth_len (by simp only [q10, by2_len, by4_len, List.length_cons, List.length_nil]; omega)]; exact q10
  have q12 : (wth (wth (wth (wth (wth (wth (wth (wth (wth (wth (wth (wth b 11 (by2 512)) 13 [e]) 14 (by2 a)) 16 [t]) 17 z4) 22 z2) 32 (by4 s)) 36 (by4 g)) 40 z4) 44 (by4 r)) 48 (by2 i)) 50 (by2 c)).length = 512 := by rw [wth_len (by simp only [q11, by2_len, by4_len, List.length_cons, List.length_nil]; omega)]; exact q11
  have q13 : (wth (wth (wth (wth (wth (wth (wth (wth (wth (wth (wth (wth (wth b 11 (by2 512)) 13 [e]) 14 (by2 a)) 16 [t]) 17 z4) 22 z2) 32 (by4 s)) 36 (by4 g)) 40 z4) 44 (by4 r)) 48 (by2 i)) 50 (by2 c)) 82 sig).length = 512 := by rw [wth_len (by simp only [q12, by2_len, by4_len, List.length_cons, List.length_nil]; omega)]; exact q12
  have q14 : (wth (wth (wth (wth (wth (wth (wth (wth (wth (wth (wth (wth (wth (wth b 11 (by2 512)) 13 [e]) 14 (by2 a)) 16 [t]) 17 z4) 22 z2) 32 (by4 s)) 36 (by4 g)) 40 z4) 44 (by4 r)) 48 (by2 i)) 50 (by2 c)) 82 sig) 510 [85, 170]).length = 512 := by rw [wth_len (by simp only [q13, by2_len, by4_len, List.length_cons, List.length_nil]; omega)]; exact q13
  exact q14
theorem bootL_byt {b : List Int} (e a t s g r i c : Int) (hb : Byt b) (he : 0 ≤ e ∧ e < 256) (ht : 0 ≤ t ∧ t < 256) : Byt (bootL b e a t s g r i c) := by
  have f1 : ∀ x : Int, 0 ≤ x ∧ x < 256 → Byt [x] := by intro x hx y hy; simp at hy; subst hy; exact hx
  have f4 : Byt z4 := by intro y hy; simp at hy; omega
  have f2 : Byt z2 := by intro y hy; simp at hy; omega
  have f8 : Byt sig := by intro y hy; simp at hy; omega
  have f9 : Byt [85, 170] := by intro y hy; simp at hy; omega
  unfold bootL
  exact wth_byt (wth_byt (wth_byt (wth_byt (wth_byt (wth_byt (wth_byt (wth_byt (wth_byt (wth_byt (wth_byt (wth_byt (wth_byt (wth_byt (hb) (by2_byt _)) (f1 _ he)) (by2_byt _)) (f1 _ ht)) (f4)) (f2)) (by4_byt _)) (by4_byt _)) (f4)) (by4_byt _)) (by2_byt _)) (by2_byt _)) (f8)) (f9)
structure Rng (e a t s g r i c : Int) : Prop where
  e0 : 1 ≤ e
  e1 : e ≤ 8
  t0 : 1 ≤ t
  t1 : t ≤ 2
  s0 : 1 ≤ s
  s1 : s ≤ 32768
  g0 : 1 ≤ g
  g1 : g ≤ s
  a0 : 2 ≤ a
  a1 : a ≤ 64
  i0 : 1 ≤ i
  i1 : i < a
  c0 : 0 ≤ c
  c1 : c < a
  r0 : 2 ≤ r
  r1 : r ≤ 200001
theorem chk_rng {e a t s g r i c : Int} (h : chk e a t s g r i c = 0) : Rng e a t s g r i c := by
  unfold chk at h
  split at h
  · omega
  · rename_i h1
    split at h
    · omega
    · rename_i h2
      split at h
      · omega
      · split at h
        · omega
        · rename_i h3
          have hb : cluF e a t s g ≤ 200000 := by
            have b1 : 0 ≤ t * g := Int.mul_nonneg (by omega) (by omega)
            have b2 : t * g ≤ 80000 := by
              have : t * g ≤ 2 * g := Int.mul_le_mul_of_nonneg_right (by omega) (by omega)
              omega
            have := Int.natAbs_tdiv_le_natAbs (s - datF a t g) (max 1 e)
            have hd : datF a t g = a + t * g := rfl
            unfold cluF
            omega
          exact ⟨by omega, by omega, by omega, by omega, by omega, by omega, by omega, by omega, by omega, by omega, by omega, by omega, by omega, by omega, by omega, by omega⟩
theorem cutFrom {h : AHeap} {m n : Nat} {ro : Bool} {gr : Nat} {c : Cells} (hg : h.get m = .row ro gr c) (hgr : gr = 1 ∨ gr = 0) {a : Nat} {ai : Int} (hai : ai = a) (ha : a < n) :
    aCut (.sl 1) (.slice (some ⟨m, 0, none⟩) n n) (some (.int .i64 ai)) none none h = some (.slice (some ⟨m, a, none⟩) (n - a) (n - a)) := by
  subst hai
  simp only [aCut, aCutSl, hg]
  have hb : aBounds n n (some (.int .i64 a)) none none = some (a, n, n) := by
    simp [aBounds, aBound]
    omega
  rw [hb]
  simp only
  rw [if_pos ⟨Nat.le_refl _, Nat.le_refl _, hgr.symm⟩, if_neg (by omega)]
  simp
theorem patch (L d : Nat) (l p : List Int) (m a : Nat) (ai : Int) (hai : ai = a) (x : Value) (N : Nat) (h : AHeap) (hv : OwnB N h (.slice (some ⟨m, 0, none⟩) l.length l.length) l) (hp : SlB h x p) (h0 : 0 < p.length) (hl : l.length < 1099511627776) (ha : a + p.length ≤ l.length) :
    ∃ r h', (En L (d + 2)).go 64 [.slice (some ⟨m, 0, none⟩) l.length l.length, .int .i64 ai, x] h = some (r, h') ∧ r = .bool true ∧ OwnB N h' (.slice (some ⟨m, 0, none⟩) l.length l.length) (wth l a p) ∧ Keep N h h' ∧ Only (.slice (some ⟨m, 0, none⟩) l.length l.length) h h' := by
  refine go_ex (R := fun r h' => r = .bool true ∧ OwnB N h' (.slice (some ⟨m, 0, none⟩) l.length l.length) (wth l a p) ∧ Keep N h h' ∧ Only (.slice (some ⟨m, 0, none⟩) l.length l.length) h h') (show tabF 64 = some (.code a64) by rfl) rfl ?_
  unfold a64
  have hin := in_spec L d (some ⟨m, 0, none⟩) l.length l.length ai p.length h (by omega)
  rw [decide_eq_true (by omega)] at hin
  obtain ⟨h', hc, ho, hk, hu⟩ := copyB (m := m) (o := 0) (cap := 0) hv hp h0 ha rfl
  rcases hv.2 with ⟨q1, q2⟩ | ⟨m', c, gr, q1, q2, q3, q4, q5, q6⟩
  · omega
  injection q1 with q1; injection q1 with q1; injection q1 with q1
  subst q1
  have hcut := cutFrom (n := l.length) q4 q5 hai (show a < l.length by omega)
  obtain ⟨xx, xc, rfl⟩ := hp.val
  simp (disch := omega) [hin, hcut, hc]
  exact ⟨ho, hk, hu⟩
theorem lit8 (h : AHeap) : aBuildSlice true ⟨1, 1, [.int .u8 0]⟩ 8 [(0, .int .u8 70), (1, .int .u8 65), (2, .int .u8 84), (3, .int .u8 51), (4, .int .u8 50), (5, .int .u8 32), (6, .int .u8 32), (7, .int .u8 32)] h = some (.slice (some ⟨h.next, 0, none⟩) 8 8, h.new (.row false 0 (mkRow true (byV sig)))) := rfl
theorem row_sl (h : AHeap) (l : List Int) (h0 : 0 < l.length) : SlB (h.new (.row false 0 (mkRow true (byV l)))) (.slice (some ⟨h.next, 0, none⟩) l.length l.length) l :=
  ⟨by simp, .inr ⟨h.next, 0, l.length, false, 0, mkRow true (byV l), rfl, by simp, by simp, by rw [AHeap.get_new, if_pos rfl], .inl rfl, by rw [← Cells.length_toList, toList_mkRow]; simp, by rw [toList_mkRow, List.drop_zero, List.take_of_length_le (by simp)]⟩⟩
end Go.Proofs.Ytgapfoaklgganaa.L16
