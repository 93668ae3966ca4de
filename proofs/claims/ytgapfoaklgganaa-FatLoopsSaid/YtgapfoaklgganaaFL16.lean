import Derived.Test.YtgapfoaklgganaaUZ16
import Derived.Test.YtgapfoaklgganaaAM37
import Derived.Test.YtgapfoaklgganaaG16
set_option linter.unusedVariables false
set_option linter.unusedSimpArgs false
set_option linter.unnecessarySimpa false
/-! FatLoops: the volume that is made first, by the kernel. -/
namespace Go.Proofs.Ytgapfoaklgganaa.L16
open Go Go.AM Go.Proofs.Ytgapfoaklgganaa.AMC
noncomputable section
def q40 : Option (Value × AHeap) := qCallR true tabF 100000 60 noRound 40 [.int .i64 150, .int .i64 1] AHeap.empty
def q45 (v : Value) (h : AHeap) : Option (Value × AHeap) := qCallR true tabF 100000 60 noRound 45 [v] h
/-- The volume's bytes, its first sector, what that says. -/
structure Pre where
  v : Value
  h1 : AHeap
  w : Value
  h2 : AHeap
  m : Nat
  n : Nat
def rowN : AObj → Option Nat
  | .row false gr (.bytes n 76800) => if gr ≤ 1 then some n else none
  | _ => none
def slL : List Value → Option Nat
  | [.slice (some x) l c, .int k z] => if x.off = 0 ∧ x.spot = none ∧ l = 76800 ∧ c = 76800 ∧ k = .i64 ∧ z = 0 then some x.block else none
  | _ => none
def slM : Value → Option Nat
  | .tuple a => slL a.toList
  | _ => none
def pre : Option Pre :=
  match q40 with
  | none => none
  | some (v, h1) => match slM v with
    | none => none
    | some m => match q45 (.slice (some ⟨m, 0, none⟩) 512 76800) h1 with
      | none => none
      | some (w, h2) => match rowN (h1.get m), rowN (h2.get m) with
        | some _, some n => some ⟨v, h1, w, h2, m, n⟩
        | _, _ => none
def intsL : List Value → Option (List Int)
  | [] => some []
  | .int k n :: r => if k = .i64 then (intsL r).map (n :: ·) else none
  | _ => none
def okL : List Value → Bool
  | [.agg b, .int k z] => decide (k = .i64 ∧ z = 0 ∧ intsL b.toList = some [1, 4, 2, 150, 2, 2, 1, 2])
  | _ => false
def okW : Value → Bool
  | .tuple a => okL a.toList
  | _ => false
theorem intsL_eq : ∀ (l : List Value) (r : List Int), intsL l = some r → l = r.map (Value.int .i64)
  | [], r, h => by simp only [intsL, Option.some.injEq] at h; subst h; rfl
  | v :: l, r, h => by
    unfold intsL at h
    split at h
    · rename_i e; cases e
    · rename_i k n l' e
      injection e with e1 e2
      subst e1; subst e2
      split at h
      · rename_i hk
        subst hk
        cases hr : intsL l with
        | none => rw [hr] at h; cases h
        | some r' =>
          rw [hr] at h
          simp only [Option.map_some, Option.some.injEq] at h
          subst h
          rw [intsL_eq l r' hr]; rfl
      · cases h
    · cases h
def preB (f : Nat → Bool) : Bool := match pre with
  | none => false
  | some p => okW p.w && (wfB p.h2 && f p.n)
/-- What stands where, of what is looked at. -/
def places : List (Nat × Nat) := [(510, 85), (511, 170), (13, 1), (16, 2), (11, 0), (12, 2), (14, 4), (15, 0), (17, 0), (18, 0), (19, 0), (20, 0), (22, 0), (23, 0), (32, 150), (33, 0), (34, 0), (35, 0), (36, 2), (37, 0), (38, 0), (39, 0), (40, 0), (41, 0), (42, 0), (43, 0), (44, 2), (45, 0), (46, 0), (47, 0), (48, 1), (49, 0), (50, 2), (51, 0), (82, 70), (83, 65), (84, 84), (85, 51), (86, 50), (87, 32), (88, 32), (89, 32),
  (512, 82), (513, 82), (514, 97), (515, 65), (996, 114), (997, 114), (998, 65), (999, 97), (1004, 3), (1005, 0), (1006, 0), (1007, 0), (1020, 0), (1021, 0), (1022, 85), (1023, 170)]
def byt (n i : Nat) : Nat := n >>> (8 * i) % 256
def fN (n : Nat) : Bool := places.all (fun p => Nat.beq (byt n p.1) p.2) && ((List.range 512).all (fun i => Nat.beq (byt n (1024 + i)) (byt n i)) && (List.range 1024).all fun i => Nat.beq (byt n (3072 + i)) (byt n (2048 + i)))
set_option maxRecDepth 100000 in
theorem pre_ok : preB fN = true := by kernel_rfl
theorem rowN_eq {o : AObj} {n : Nat} (h : rowN o = some n) : ∃ gr, o = .row false gr (.bytes n 76800) ∧ gr ≤ 1 := by
  unfold rowN at h
  split at h
  · rename_i gr n'
    split at h
    · rename_i hg; injection h with h; subst h; exact ⟨gr, rfl, hg⟩
    · cases h
  · cases h
theorem arr_eq {a : Array Value} {l : List Value} (h : a.toList = l) : a = l.toArray := by apply Array.ext'; simpa using h
theorem slM_eq {v : Value} {m : Nat} (h : slM v = some m) : v = .tuple #[.slice (some ⟨m, 0, none⟩) 76800 76800, .int .i64 0] := by
  unfold slM at h
  split at h
  · rename_i a
    unfold slL at h
    split at h
    · rename_i x l c k z e
      split at h
      · rename_i hc
        obtain ⟨h1, h2, h3, h4, h5, h6⟩ := hc
        injection h with h
        obtain ⟨b, o, s⟩ := x
        simp only at h h1 h2
        subst h; subst h1; subst h2; subst h3; subst h4; subst h5; subst h6
        rw [arr_eq e]
      · cases h
    · cases h
  · cases h
theorem okW_eq {w : Value} (h : okW w = true) : w = .tuple #[btV 1 4 2 150 2 2 1 2, .int .i64 0] := by
  unfold okW at h
  split at h
  · rename_i a
    unfold okL at h
    split at h
    · rename_i b k z e
      obtain ⟨h1, h2, h3⟩ := of_decide_eq_true h
      subst h1; subst h2
      rw [arr_eq e, arr_eq (intsL_eq _ _ h3)]
      rfl
    · cases h
  · cases h
theorem cut512 {h : AHeap} {m gr n : Nat} (g : h.get m = .row false gr (.bytes n 76800)) (hg : gr ≤ 1) : aCut (.sl 1) (.slice (some ⟨m, 0, none⟩) 76800 76800) none (some (.int .i64 512)) none h = some (.slice (some ⟨m, 0, none⟩) 512 76800) := by
  have hb : aBounds 76800 76800 none (some (.int .i64 512)) none = some (0, 512, 76800) := by decide +kernel
  have h1 : gr = 0 ∨ gr = 1 := by omega
  simp only [aCut, aCutSl, g, hb]
  rw [if_pos ⟨by decide, Nat.le_refl _, h1⟩]
  simp
/-- The volume that is made, and what its first sector says. -/
theorem pre_spec : ∃ (m N gr : Nat) (h1 h2 : AHeap), (En 100000 60).go 40 [.int .i64 150, .int .i64 1] AHeap.empty = some (.tuple #[.slice (some ⟨m, 0, none⟩) 76800 76800, .int .i64 0], h1) ∧
    (En 100000 60).go 45 [.slice (some ⟨m, 0, none⟩) 512 76800] h1 = some (.tuple #[btV 1 4 2 150 2 2 1 2, .int .i64 0], h2) ∧ Wf h2 ∧ h2.get m = .row false gr (.bytes N 76800) ∧ gr ≤ 1 ∧ m < h2.next ∧ fN N = true ∧ aCut (.sl 1) (.slice (some ⟨m, 0, none⟩) 76800 76800) none (some (.int .i64 512)) none h1 = some (.slice (some ⟨m, 0, none⟩) 512 76800) := by
  have hp := pre_ok
  unfold preB at hp
  split at hp
  · cases hp
  · rename_i p he
    simp only [Bool.and_eq_true] at hp
    obtain ⟨p1, p2, p3⟩ := hp
    unfold pre at he
    split at he
    · cases he
    · rename_i v h1 e40
      split at he
      · cases he
      · rename_i m em
        split at he
        · cases he
        · rename_i w h2 e45
          split at he
          · rename_i n0 n er0 er
            injection he with he
            subst he
            obtain ⟨gr, g1, g2⟩ := rowN_eq er
            obtain ⟨gr0, g3, g4⟩ := rowN_eq er0
            have hw := wfB_wf p2
            refine ⟨m, n, gr, h1, h2, ?_, ?_, hw, g1, g2, ?_, p3, cut512 g3 g4⟩
            · rw [← slM_eq em]; exact q_go e40
            · rw [← okW_eq p1]; exact q_go e45
            · refine Nat.lt_of_not_le fun hle => ?_
              have := hw m hle
              rw [g1] at this; cases this
          · cases he
end
end Go.Proofs.Ytgapfoaklgganaa.L16

set_option linter.unusedVariables false
set_option linter.unusedSimpArgs false
set_option linter.unnecessarySimpa false
/-! FatLoops: what stands where behind the table's change. -/
namespace Go.Proofs.Ytgapfoaklgganaa.L16
open Go Go.AM Go.Proofs.Ytgapfoaklgganaa.AMC
set_option maxRecDepth 10000
def sec (l : List Int) (a k : Nat) : List Int := (l.drop a).take k
theorem sec_len {l : List Int} {a k : Nat} (h : a + k ≤ l.length) : (sec l a k).length = k := by simp [sec]; omega
theorem sec_byt {l : List Int} {a k : Nat} (h : Byt l) : Byt (sec l a k) := fun x hx => h x (List.mem_of_mem_drop (List.mem_of_mem_take hx))
theorem rd_sec {l : List Int} {a k i : Nat} (hi : i < k) : rdI (sec l a k) (i : Int) = rdI l ((a + i : Nat) : Int) := by
  unfold rdI sec
  simp only [Int.toNat_natCast, List.getD_eq_getElem?_getD, List.getElem?_take, List.getElem?_drop]
  rw [if_pos hi]
theorem ext_rd {a b : List Int} (hl : a.length = b.length) (h : ∀ i, i < a.length → rdI a (i : Int) = rdI b (i : Int)) : a = b := by
  apply List.ext_getElem hl
  intro i h1 h2
  have := h i h1
  unfold rdI at this
  simp only [Int.toNat_natCast, List.getD_eq_getElem?_getD, List.getElem?_eq_getElem h1, List.getElem?_eq_getElem h2] at this
  simpa using this
/-- The disk: the volume, its two tables changed, the count unknown. -/
def dL (D : List Int) (t : List Int) : List Int := wth (wth (wth D 2060 t) 3084 t) 1000 (by4 4294967295)
section
variable {N : List Int} {t : List Int}
structure Fn (D : List Int) : Prop where
  len : D.length = 76800
  bt : Byt D
  pl : ∀ p ∈ places, rdI D (p.1 : Int) = p.2
  cp : ∀ i, i < 512 → rdI D ((1024 + i : Nat) : Int) = rdI D (i : Int)
  tw : ∀ i, i < 1024 → rdI D ((3072 + i : Nat) : Int) = rdI D ((2048 + i : Nat) : Int)
theorem fN_fn {N : Nat} (h : fN N = true) : Fn (lN N 76800) := by
  simp only [fN, Bool.and_eq_true, List.all_eq_true, List.mem_range] at h
  have hp : ∀ p ∈ places, p.1 < 76800 := by decide
  refine ⟨lN_len _ _, lN_byt _ _, fun p hp' => ?_, fun i hi => ?_, fun i hi => ?_⟩
  · rw [lN_rd _ _ _ (hp p hp')]; exact congrArg Nat.cast (Nat.eq_of_beq_eq_true (h.1 p hp'))
  · rw [lN_rd _ _ _ (by omega), lN_rd _ _ _ (by omega)]; exact congrArg Nat.cast (Nat.eq_of_beq_eq_true (h.2.1 i hi))
  · rw [lN_rd _ _ _ (by omega), lN_rd _ _ _ (by omega)]; exact congrArg Nat.cast (Nat.eq_of_beq_eq_true (h.2.2 i hi))
theorem dL_len (hf : Fn N) (ht : t.length ≤ 400) : (dL N t).length = 76800 := by
  have h0 := hf.len
  have h1 : (wth N 2060 t).length = 76800 := by rw [wth_len (by omega)]; exact h0
  have h2 : (wth (wth N 2060 t) 3084 t).length = 76800 := by rw [wth_len (by omega)]; exact h1
  unfold dL
  rw [wth_len (by rw [by4_len]; omega)]; exact h2
theorem dL_byt (hf : Fn N) (hb : Byt t) : Byt (dL N t) := wth_byt (wth_byt (wth_byt hf.bt hb) hb) (by4_byt _)
theorem dL_rd (hf : Fn N) (ht : t.length ≤ 400) (i : Nat) (hi : i < 76800) : rdI (dL N t) (i : Int) =
    if 1000 ≤ i ∧ i < 1004 then 255 else if 2060 ≤ i ∧ i < 2060 + t.length then rdI t ((i - 2060 : Nat) : Int) else if 3084 ≤ i ∧ i < 3084 + t.length then rdI t ((i - 3084 : Nat) : Int) else rdI N (i : Int) := by
  have h0 := hf.len
  have h1 : (wth N 2060 t).length = 76800 := by rw [wth_len (by omega)]; exact h0
  have h2 : (wth (wth N 2060 t) 3084 t).length = 76800 := by rw [wth_len (by omega)]; exact h1
  unfold dL
  rw [rd_wth (by rw [by4_len]; omega), rd_wth (by omega), rd_wth (by omega), by4_len]
  generalize rdI N (i : Int) = x
  by_cases c1 : 1000 ≤ i ∧ i < 1004
  · rw [if_neg (by omega), if_pos (by omega), if_pos c1]
    have : i = 1000 ∨ i = 1001 ∨ i = 1002 ∨ i = 1003 := by omega
    rcases this with rfl | rfl | rfl | rfl <;> rfl
  · rw [if_neg c1]
    by_cases c2 : 2060 ≤ i ∧ i < 2060 + t.length
    · rw [if_pos c2, if_neg (by omega), if_neg (by omega), if_pos (by omega), if_neg (by omega), if_pos (by omega)]
    · rw [if_neg c2]
      by_cases c3 : 3084 ≤ i ∧ i < 3084 + t.length
      · rw [if_pos c3, if_neg (by omega), if_neg (by omega), if_neg (by omega), if_pos (by omega)]
      · rw [if_neg c3]
        repeat' split
        all_goals first | rfl | (exfalso; omega)
theorem places_lt : ∀ p ∈ places, p.1 < 1000 ∨ 1004 ≤ p.1 ∧ p.1 < 2048 := by decide
theorem dL_pl (hf : Fn N) (ht : t.length ≤ 400) : ∀ p ∈ places, rdI (dL N t) (p.1 : Int) = p.2 := by
  intro p hp
  have h1 := places_lt p hp
  rw [dL_rd hf ht _ (by omega), if_neg (by omega), if_neg (by omega), if_neg (by omega), hf.pl p hp]
theorem first_rd (hf : Fn N) (ht : t.length ≤ 400) : Rd (sec (dL N t) 0 512) 1 4 2 150 2 2 1 2 := by
  have P := dL_pl (t := t) hf ht
  have R : ∀ i v : Nat, (i, v) ∈ places → i < 512 → rdI (sec (dL N t) 0 512) (i : Int) = v := fun i v hp hi => by
    rw [rd_sec hi, Nat.zero_add]; exact P (i, v) hp
  refine ⟨R 510 85 (by decide) (by decide), R 511 170 (by decide) (by decide), R 13 1 (by decide) (by decide), R 16 2 (by decide) (by decide), ?_, ?_, ?_, ?_, ?_, ?_, ?_, ?_, ?_, ?_, ?_, ?_⟩
  · have a := R 11 0 (by decide) (by decide); have b := R 12 2 (by decide) (by decide)
    unfold le2; exact (by rw [show (11 : Int) + 1 = ((12 : Nat) : Int) by rfl, b]; rw [show (11 : Int) = ((11 : Nat) : Int) by rfl, a]; rfl)
  · have a := R 14 4 (by decide) (by decide); have b := R 15 0 (by decide) (by decide)
    unfold le2; exact (by rw [show (14 : Int) + 1 = ((15 : Nat) : Int) by rfl, b]; rw [show (14 : Int) = ((14 : Nat) : Int) by rfl, a]; rfl)
  · have a := R 17 0 (by decide) (by decide); have b := R 18 0 (by decide) (by decide)
    unfold le2; exact (by rw [show (17 : Int) + 1 = ((18 : Nat) : Int) by rfl, b]; rw [show (17 : Int) = ((17 : Nat) : Int) by rfl, a]; rfl)
  · have a := R 19 0 (by decide) (by decide); have b := R 20 0 (by decide) (by decide)
    unfold le2; exact (by rw [show (19 : Int) + 1 = ((20 : Nat) : Int) by rfl, b]; rw [show (19 : Int) = ((19 : Nat) : Int) by rfl, a]; rfl)
  · have a := R 22 0 (by decide) (by decide); have b := R 23 0 (by decide) (by decide)
    unfold le2; exact (by rw [show (22 : Int) + 1 = ((23 : Nat) : Int) by rfl, b]; rw [show (22 : Int) = ((22 : Nat) : Int) by rfl, a]; rfl)
  · have a := R 32 150 (by decide) (by decide); have b := R 33 0 (by decide) (by decide); have c := R 34 0 (by decide) (by decide); have d := R 35 0 (by decide) (by decide)
    unfold le4; exact (by rw [show (32 : Int) + 1 = ((33 : Nat) : Int) by rfl, b, show (32 : Int) + 2 = ((34 : Nat) : Int) by rfl, c, show (32 : Int) + 3 = ((35 : Nat) : Int) by rfl, d]; rw [show (32 : Int) = ((32 : Nat) : Int) by rfl, a]; rfl)
  · have a := R 36 2 (by decide) (by decide); have b := R 37 0 (by decide) (by decide); have c := R 38 0 (by decide) (by decide); have d := R 39 0 (by decide) (by decide)
    unfold le4; exact (by rw [show (36 : Int) + 1 = ((37 : Nat) : Int) by rfl, b, show (36 : Int) + 2 = ((38 : Nat) : Int) by rfl, c, show (36 : Int) + 3 = ((39 : Nat) : Int) by rfl, d]; rw [show (36 : Int) = ((36 : Nat) : Int) by rfl, a]; rfl)
  · have a := R 40 0 (by decide) (by decide); have b := R 41 0 (by decide) (by decide); have c := R 42 0 (by decide) (by decide); have d := R 43 0 (by decide) (by decide)
    unfold le4; exact (by rw [show (40 : Int) + 1 = ((41 : Nat) : Int) by rfl, b, show (40 : Int) + 2 = ((42 : Nat) : Int) by rfl, c, show (40 : Int) + 3 = ((43 : Nat) : Int) by rfl, d]; rw [show (40 : Int) = ((40 : Nat) : Int) by rfl, a]; rfl)
  · have a := R 44 2 (by decide) (by decide); have b := R 45 0 (by decide) (by decide); have c := R 46 0 (by decide) (by decide); have d := R 47 0 (by decide) (by decide)
    unfold le4; exact (by rw [show (44 : Int) + 1 = ((45 : Nat) : Int) by rfl, b, show (44 : Int) + 2 = ((46 : Nat) : Int) by rfl, c, show (44 : Int) + 3 = ((47 : Nat) : Int) by rfl, d]; rw [show (44 : Int) = ((44 : Nat) : Int) by rfl, a]; rfl)
  · have a := R 48 1 (by decide) (by decide); have b := R 49 0 (by decide) (by decide)
    unfold le2; exact (by rw [show (48 : Int) + 1 = ((49 : Nat) : Int) by rfl, b]; rw [show (48 : Int) = ((48 : Nat) : Int) by rfl, a]; rfl)
  · have a := R 50 2 (by decide) (by decide); have b := R 51 0 (by decide) (by decide)
    unfold le2; exact (by rw [show (50 : Int) + 1 = ((51 : Nat) : Int) by rfl, b]; rw [show (50 : Int) = ((50 : Nat) : Int) by rfl, a]; rfl)
  · have hl : (sec (dL N t) 0 512).length = 512 := sec_len (by rw [dL_len hf ht]; omega)
    apply ext_rd
    · simp [hl]
    · intro i hi
      have hi8 : i < 8 := by simp [hl] at hi; omega
      show rdI (sec (sec (dL N t) 0 512) 82 8) (i : Int) = _
      rw [rd_sec hi8]
      have : i = 0 ∨ i = 1 ∨ i = 2 ∨ i = 3 ∨ i = 4 ∨ i = 5 ∨ i = 6 ∨ i = 7 := by omega
      rcases this with rfl | rfl | rfl | rfl | rfl | rfl | rfl | rfl
      · exact R 82 70 (by decide) (by decide)
      · exact R 83 65 (by decide) (by decide)
      · exact R 84 84 (by decide) (by decide)
      · exact R 85 51 (by decide) (by decide)
      · exact R 86 50 (by decide) (by decide)
      · exact R 87 32 (by decide) (by decide)
      · exact R 88 32 (by decide) (by decide)
      · exact R 89 32 (by decide) (by decide)
theorem copy_eq (hf : Fn N) (ht : t.length ≤ 400) : sec (dL N t) 1024 512 = sec (dL N t) 0 512 := by
  have hl := dL_len hf ht
  apply ext_rd (by rw [sec_len (by omega), sec_len (by omega)])
  intro i hi
  rw [sec_len (by omega)] at hi
  rw [rd_sec hi, rd_sec hi, dL_rd hf ht _ (by omega), dL_rd hf ht _ (by omega), if_neg (by omega), if_neg (by omega), if_neg (by omega), if_neg (by omega), if_neg (by omega), if_neg (by omega), hf.cp i hi, Nat.zero_add]
theorem twin_eq (hf : Fn N) (ht : t.length ≤ 400) : sec (dL N t) 3072 1024 = sec (dL N t) 2048 1024 := by
  have hl := dL_len hf ht
  apply ext_rd (by rw [sec_len (by omega), sec_len (by omega)])
  intro i hi
  rw [sec_len (by omega)] at hi
  have A := dL_rd hf ht (3072 + i) (by omega)
  rw [if_neg (by omega), if_neg (by omega)] at A
  have B := dL_rd hf ht (2048 + i) (by omega)
  rw [if_neg (by omega)] at B
  rw [rd_sec hi, rd_sec hi, A, B]
  by_cases c : 12 ≤ i ∧ i < 12 + t.length
  · rw [if_pos (by omega), if_pos (by omega), show 3072 + i - 3084 = 2048 + i - 2060 by omega]
  · rw [if_neg (by omega), if_neg (by omega), if_neg (by omega), hf.tw i hi]
theorem le4_nat (l : List Int) (i : Nat) {v0 v1 v2 v3 : Int} (h0 : rdI l (i : Int) = v0) (h1 : rdI l ((i + 1 : Nat) : Int) = v1) (h2 : rdI l ((i + 2 : Nat) : Int) = v2) (h3 : rdI l ((i + 3 : Nat) : Int) = v3) : le4 l (i : Int) = v0 + 256 * v1 + 65536 * v2 + 16777216 * v3 := by
  unfold le4
  rw [← h0, ← h1, ← h2, ← h3]; rfl
theorem info_le (hf : Fn N) (ht : t.length ≤ 400) : le4 (sec (dL N t) 512 512) 0 = 1096897106 ∧ le4 (sec (dL N t) 512 512) 484 = 1631679090 ∧ le4 (sec (dL N t) 512 512) 488 = 4294967295 ∧ le4 (sec (dL N t) 512 512) 492 = 3 ∧ le4 (sec (dL N t) 512 512) 508 = 2857697280 := by
  have P := dL_pl (t := t) hf ht
  have R : ∀ i v : Nat, (512 + i, v) ∈ places → i < 512 → rdI (sec (dL N t) 512 512) (i : Int) = v := fun i v hp hi => by
    rw [rd_sec hi]; exact P (512 + i, v) hp
  have Q : ∀ i : Nat, 488 ≤ i → i < 492 → rdI (sec (dL N t) 512 512) (i : Int) = 255 := fun i h1 h2 => by
    rw [rd_sec (by omega), dL_rd hf ht _ (by omega), if_pos (by omega)]
  generalize sec (dL N t) 512 512 = B at R Q
  refine ⟨?_, ?_, ?_, ?_, ?_⟩
  · have e : (0 : Int) = ((0 : Nat) : Int) := rfl
    rw [e, le4_nat _ 0 (R 0 82 (by decide) (by decide)) (R 1 82 (by decide) (by decide)) (R 2 97 (by decide) (by decide)) (R 3 65 (by decide) (by decide))]
    decide
  · have e : (484 : Int) = ((484 : Nat) : Int) := rfl
    rw [e, le4_nat _ 484 (R 484 114 (by decide) (by decide)) (R 485 114 (by decide) (by decide)) (R 486 65 (by decide) (by decide)) (R 487 97 (by decide) (by decide))]
    decide
  · have e : (488 : Int) = ((488 : Nat) : Int) := rfl
    rw [e, le4_nat _ 488 (Q 488 (by decide) (by decide)) (Q 489 (by decide) (by decide)) (Q 490 (by decide) (by decide)) (Q 491 (by decide) (by decide))]
    decide
  · have e : (492 : Int) = ((492 : Nat) : Int) := rfl
    rw [e, le4_nat _ 492 (R 492 3 (by decide) (by decide)) (R 493 0 (by decide) (by decide)) (R 494 0 (by decide) (by decide)) (R 495 0 (by decide) (by decide))]
    decide
  · have e : (508 : Int) = ((508 : Nat) : Int) := rfl
    rw [e, le4_nat _ 508 (R 508 0 (by decide) (by decide)) (R 509 0 (by decide) (by decide)) (R 510 85 (by decide) (by decide)) (R 511 170 (by decide) (by decide))]
    decide
theorem table_le (hf : Fn N) (ht : t.length ≤ 400) (i : Nat) (hi : 4 * i + 4 ≤ t.length) : le4 (sec (dL N t) 2048 1024) ((4 * (3 + i) : Nat) : Int) = le4 t ((4 * i : Nat) : Int) := by
  have R : ∀ j, j < 4 → rdI (sec (dL N t) 2048 1024) ((4 * (3 + i) + j : Nat) : Int) = rdI t ((4 * i + j : Nat) : Int) := fun j hj => by
    rw [rd_sec (by omega), dL_rd hf ht _ (by omega), if_neg (by omega), if_pos (by omega), show 2048 + (4 * (3 + i) + j) - 2060 = 4 * i + j by omega]
  have r0 := R 0 (by omega)
  have r1 := R 1 (by omega)
  have r2 := R 2 (by omega)
  have r3 := R 3 (by omega)
  simp only [Int.natCast_add] at r0 r1 r2 r3
  unfold le4
  have e0 : ∀ x : Int, x + ((0 : Nat) : Int) = x := fun x => by omega
  rw [e0, e0] at r0
  have f1 : ((1 : Nat) : Int) = 1 := rfl
  have f2 : ((2 : Nat) : Int) = 2 := rfl
  have f3 : ((3 : Nat) : Int) = 3 := rfl
  rw [f1] at r1; rw [f2] at r2; rw [f3] at r3
  rw [r0, r1, r2, r3]
end
end Go.Proofs.Ytgapfoaklgganaa.L16

set_option linter.unusedVariables false
set_option linter.unusedSimpArgs false
set_option linter.unnecessarySimpa false
/-! FatLoops: bytes as a disk; the table is read. -/
namespace Go.Proofs.Ytgapfoaklgganaa.L16
open Go Go.AM Go.Proofs.Ytgapfoaklgganaa.AMC
set_option maxRecDepth 10000
theorem msize (L d : Nat) (a : Option Addr) (len cap : Nat) (h : AHeap) : (En L (d + 1)).go 154 [.slice a len cap] h = some (.int .i64 len, h) := by
  refine go_of (show tabF 154 = some (.code a154) by rfl) rfl ?_
  unfold a154
  simp
theorem mread (L d : Nat) (v : Value) (l : List Int) (at_ n : Nat) (h : AHeap) (hs : SlB h v l) (hl : l.length < 1099511627776) (hn : at_ + n ≤ l.length) :
    ∃ r h', (En L (d + 2)).go 153 [v, .int .i64 at_, .int .i64 n] h = some (r, h') ∧ ∃ b, r = .tuple #[b, .int .i64 0] ∧ OwnB h.next h' b (sec l at_ n) ∧ Keep h.next h h' := by
  refine go_ex (R := fun r h' => ∃ b, r = .tuple #[b, .int .i64 0] ∧ OwnB h.next h' b (sec l at_ n) ∧ Keep h.next h h') (show tabF 153 = some (.code a153) by rfl) rfl ?_
  unfold a153
  obtain ⟨v1, c1, s1⟩ := cutB hs (lo := some (.int .i64 at_)) (hi := some (.int .i64 (at_ + n))) at_ (at_ + n) (.inr ⟨_, rfl⟩) (.inr ⟨_, by rw [Int.natCast_add]⟩) (by omega) (by omega)
  rw [Nat.add_sub_cancel_left] at s1
  obtain ⟨x1, q1, rfl⟩ := s1.val
  obtain ⟨xv, qv, ev⟩ := hs.val
  have e2 : ((l.drop at_).take n).length = n := by rw [List.length_take, List.length_drop]; omega
  rw [e2] at c1 s1
  obtain ⟨v2, h2, c2, o2, k2⟩ := OwnB.append (k := EK1) (OwnB.nil h.next h) s1 rfl rfl (Nat.le_refl _) (by simp; omega)
  have ms := msize L d xv l.length qv h
  have d1 : ¬ ((at_ : Int) < 0) := by omega
  have d2 : ¬ ((n : Int) < 0) := by omega
  have d3 : ¬ ((l.length : Int) < at_) := by omega
  have d4 : ¬ ((l.length : Int) - at_ < n) := by omega
  subst ev
  simp (disch := omega) [wrapF_i64, ms, d1, d2, d3, d4, c1, c2]
  exact ⟨by simpa [sec] using o2, k2⟩
theorem and_mask {x : Int} (h0 : 0 ≤ x) (h1 : x < 4294967296) : bitsF .and .u32 x 268435455 = some (x % 268435456) := by
  obtain ⟨a, rfl⟩ := Int.eq_ofNat_of_zero_le h0
  show (match (Int.ofNat a), (Int.ofNat 268435455) with | .ofNat a, .ofNat b => if a < capK .u32 ∧ b < capK .u32 then (bitsNat .and a b).map Int.ofNat else bitsSlow .and .u32 (.ofNat a) (.ofNat b) | x, y => bitsSlow .and .u32 x y) = _
  simp only
  rw [if_pos ⟨by simp only [capK]; omega, by simp [capK]⟩]
  have e : a &&& 268435455 = a % 268435456 := by
    have := Nat.and_two_pow_sub_one_eq_mod a 28
    simpa using this
  have e' : Nat.land a 268435455 = a % 268435456 := e
  simp only [bitsNat, Option.map_some, e']
  show some (((a % 268435456 : Nat)) : Int) = some (((a : Nat) : Int) % 268435456)
  rw [Int.natCast_emod]; rfl
/-- A number is stored. -/
theorem storeI {h : AHeap} {m gr : Nat} {k : IntKind} {Z : List Int} (g : h.get m = .row false gr (.vals (Z.map (Value.int k)))) {i : Nat} (hi : i < Z.length) (hk : k ≠ .u8) (y : Int) :
    aStore 1 (.pointer (some ⟨m, i, none⟩)) (.int k y) h = some (h.set m (.row false gr (.vals ((Z.set i y).map (Value.int k))))) := by
  have hc : (Value.int k y).cells = #[.int k y] := rfl
  have hsz : i + 1 ≤ (Cells.vals (Z.map (Value.int k))).size := by show _ ≤ (Z.map (Value.int k)).length; simp; omega
  simp only [aStore, g, hc]
  rw [if_pos ⟨rfl, hsz, rfl⟩]
  have : cellsOf (.int k y) = .vals [.int k y] := by cases k <;> first | rfl | exact absurd rfl hk
  rw [this]
  have key : (Cells.vals (Z.map (Value.int k))).blit i (.vals [.int k y]) = .vals ((Z.set i y).map (Value.int k)) := by
    simp only [Cells.blit, Cells.ext, Cells.app, Cells.size]
    rw [List.map_set, List.set_eq_take_append_cons_drop, if_pos (by simpa using hi)]
    congr 1
    rw [List.drop_zero, List.take_of_length_le (l := List.drop (i + [Value.int k y].length) _) (by simp), List.append_assoc]
    rfl
  rw [key]
end Go.Proofs.Ytgapfoaklgganaa.L16

set_option linter.unusedVariables false
set_option linter.unusedSimpArgs false
set_option linter.unnecessarySimpa false
/-! FatLoops: the table is read. -/
namespace Go.Proofs.Ytgapfoaklgganaa.L16
open Go Go.AM Go.Proofs.Ytgapfoaklgganaa.AMC
set_option maxRecDepth 10000
theorem mreadi (L d : Nat) (v : Value) (l : List Int) (at_ n : Nat) (ai ni : Int) (ha : ai = at_) (hni : ni = n) (h : AHeap) (hs : SlB h v l) (hl : l.length < 1099511627776) (hn : at_ + n ≤ l.length) :
    ∃ b h', (En L (d + 2)).go 153 [v, .int .i64 ai, .int .i64 ni] h = some (.tuple #[b, .int .i64 0], h') ∧ OwnB h.next h' b (sec l at_ n) ∧ Keep h.next h h' := by
  subst ha; subst hni
  obtain ⟨r, h', e, b, rfl, o, k⟩ := mread L d v l at_ n h hs hl hn
  exact ⟨b, h', e, o, k⟩
abbrev mtR : List (TypeId × FuncId) := [(74, 151), (82, 153)]
theorem inv153 (L d : Nat) (v : Value) (args : List Value) (h : AHeap) : invO (En L d) (.iface 82 v) mtR args h = (En L d).go 153 (v :: args) h := rfl
theorem nil153 (v : Value) (h : AHeap) : nilO (.func (.method "Read") #[.iface 82 v] #[]) mtR "Read" h = some (.func (.method "Read") #[.iface 82 v] #[], h) := by
  unfold nilO; simp [findT]
def vol (x : Value) (f n : Int) : List Value := [.int .i64 1, .int .i64 4, .int .i64 2, .int .i64 150, .int .i64 2, .int .i64 2, .int .i64 1, .int .i64 2, x, .int .i64 f, .int .i64 n]
structure VolAt (h : AHeap) (m : Nat) (x : Value) (f n : Int) : Prop where
  get : h.get m = .row false 0 (.vals (vol x f n))
section
variable {h : AHeap} {m : Nat} {x : Value} {f n : Int}
theorem VolAt.l1 (a : VolAt h m x f n) : aLoad none (.pointer (some ⟨m, 1, none⟩)) h = some (.int .i64 4) := ld_cell a.get rfl
theorem VolAt.l2 (a : VolAt h m x f n) : aLoad none (.pointer (some ⟨m, 2, none⟩)) h = some (.int .i64 2) := ld_cell a.get rfl
theorem VolAt.l4 (a : VolAt h m x f n) : aLoad none (.pointer (some ⟨m, 4, none⟩)) h = some (.int .i64 2) := ld_cell a.get rfl
theorem VolAt.l8 (a : VolAt h m x f n) : aLoad none (.pointer (some ⟨m, 8, none⟩)) h = some x := ld_cell a.get rfl
theorem VolAt.l9 (a : VolAt h m x f n) : aLoad none (.pointer (some ⟨m, 9, none⟩)) h = some (.int .i64 f) := ld_cell a.get rfl
theorem VolAt.lb (a : VolAt h m x f n) : aLoad (some 8) (.pointer (some ⟨m, 0, none⟩)) h = some (btV 1 4 2 150 2 2 1 2) := by
  simp only [aLoad, a.get]; rfl
theorem VolAt.keep {h' : AHeap} (a : VolAt h m x f n) (e : h'.get m = h.get m) : VolAt h' m x f n := ⟨e.trans a.get⟩
theorem VolAt.st8 (a : VolAt h m x f n) (y : Value) (hy : one y = true) (hc : y.cells = #[y]) (hp : cellsOf y = .vals [y]) : aStore 1 (.pointer (some ⟨m, 8, none⟩)) y h = some (h.set m (.row false 0 (.vals (vol y f n)))) := by
  simp only [aStore, a.get, hc, hp]
  rw [if_pos ⟨rfl, (show 9 ≤ (vol x f n).length from Nat.le_of_ble_eq_true rfl), by simp [hy]⟩]
  rfl
end
theorem zeros_u32 (n : Nat) (ni : Int) (hni : ni = n) (h : AHeap) (hn : n ≤ 1000000) : aMake true ⟨1, 4, [.int .u32 0]⟩ (.int .i64 ni) (.int .i64 ni) h = some (.slice (some ⟨h.next, 0, none⟩) n n, h.new (.row false 0 (.vals ((List.replicate n (0 : Int)).map (Value.int .u32))))) := by
  subst hni
  simp only [aMake]
  rw [if_pos (by simp; omega)]
  have e : mkZero true 1 [.int .u32 0] n = .vals ((List.replicate n (0 : Int)).map (Value.int .u32)) := by
    have : mkZero true 1 [.int .u32 0] n = .vals (azeros 1 [.int .u32 0] n) := rfl
    rw [this]
    congr 1
    apply List.ext_getElem?
    intro i
    rw [get_azeros]
    simp only [List.getElem?_map, List.getElem?_replicate, Nat.mul_one]
    split <;> simp [Nat.mod_one]
  rw [Int.toNat_natCast, e]
theorem ownRow {N : Nat} {h : AHeap} {v : Value} {l : List Int} (a : OwnB N h v l) (h0 : 0 < l.length) : ∃ m, v = .slice (some ⟨m, 0, none⟩) l.length l.length ∧ N ≤ m ∧ m < h.next ∧ RowI h .u8 m 0 l := by
  rcases a.2 with ⟨h1, h2⟩ | ⟨m, c, gr, h1, h2, h3, h4, h5, h6⟩
  · omega
  · refine ⟨m, h1, h2, h3, false, gr, c, h4, fun i hi => ?_⟩
    rw [Nat.zero_add, ← Cells.get_toList, h6]
    simp [byV, hi]
/-- What the table says. -/
def nx (T : List Int) (j : Nat) : Int := le4 T ((4 * j : Nat) : Int) % 268435456
/-- While the table is read. -/
def TabI (mv mb mN : Nat) (H5 : AHeap) (B : List Int) (j : Nat) (T : Tr Value) (h' : AHeap) : Prop :=
  ∃ (i : Nat) (Z : List Int), j = 144 - i ∧ 2 ≤ i ∧ i ≤ 144 ∧ T.get 0 = some (.pointer (some ⟨mv, 0, none⟩)) ∧ T.get 6 = some (.slice (some ⟨mb, 0, none⟩) 1024 1024) ∧ T.get 10 = some (.int .i64 i) ∧ h'.next = H5.next ∧ (∀ k, k ≠ mN → h'.get k = H5.get k) ∧ Wf h' ∧ h'.get mN = .row false 0 (.vals (Z.map (Value.int .u32))) ∧ Z.length = 144 ∧ ∀ j : Nat, 2 ≤ j → j < i → rdI Z (j : Int) = nx B j
set_option maxHeartbeats 2000000 in
theorem table_yes (L d : Nat) (l : List Int) (v : Value) (mv : Nat) (f n : Int) (h : AHeap) (hw : Wf h) (hs : SlB h v l) (hb : Byt l) (hl : l.length = 76800) (hv : mv < h.next) (gv : VolAt h mv (.slice none 0 0) f n) (htw : sec l 3072 1024 = sec l 2048 1024) :
    ∃ r h', (En (L + 1000) (d + 6)).go 78 [.pointer (some ⟨mv, 0, none⟩), .iface 82 v] h = some (r, h') ∧ r = .int .i64 0 ∧ ∃ mN, VolAt h' mv (.slice (some ⟨mN, 0, none⟩) 144 144) f n ∧ mN < h'.next ∧ h.next ≤ mN ∧ (∀ k, k < h.next → k ≠ mv → h'.get k = h.get k) ∧ h.next ≤ h'.next ∧ Wf h' ∧ ∃ Z : List Int, h'.get mN = .row false 0 (.vals (Z.map (Value.int .u32))) ∧ Z.length = 144 ∧ ∀ j : Nat, 2 ≤ j → j < 144 → rdI Z (j : Int) = nx (sec l 2048 1024) j := by
  refine go_ex (R := fun r h' => r = .int .i64 0 ∧ ∃ mN, VolAt h' mv (.slice (some ⟨mN, 0, none⟩) 144 144) f n ∧ mN < h'.next ∧ h.next ≤ mN ∧ (∀ k, k < h.next → k ≠ mv → h'.get k = h.get k) ∧ h.next ≤ h'.next ∧ Wf h' ∧ ∃ Z : List Int, h'.get mN = .row false 0 (.vals (Z.map (Value.int .u32))) ∧ Z.length = 144 ∧ ∀ j : Nat, 2 ≤ j → j < 144 → rdI Z (j : Int) = nx (sec l 2048 1024) j) (show tabF 78 = some (.code a78) by rfl) rfl ?_
  unfold a78
  obtain ⟨b1, h1, e1, o1, k1⟩ := mreadi (L + 1000) (d + 3) v l 2048 1024 2048 1024 rfl rfl h hs (by omega) (by omega)
  have gv1 := gv.keep (k1.get mv hv)
  obtain ⟨b2, h2, e2, o2, k2⟩ := mreadi (L + 1000) (d + 3) v l 3072 1024 3072 1024 rfl rfl h1 (hs.keep k1 (Nat.le_refl _)) (by omega) (by omega)
  have n1 := k1.next
  have n2 := k2.next
  have gv2 := gv1.keep (k2.get mv (by omega))
  rw [htw] at o2
  have o1' := o1.keep k2 (Nat.le_refl _)
  have s1 := o1'.sl.str
  have s2 := o2.sl.str
  obtain ⟨_, h3, e3, rfl, k3⟩ := clus44 (L + 1000) (d + 3) 1 4 2 150 2 2 1 2 h2 (by omega) (by omega) (by omega) (by omega) (by omega) (by omega) (by omega) (by omega) (by omega) (by omega)
  rw [show cluF 1 4 2 150 2 = 142 by decide] at e3
  have n3 := k3.next
  have gv3 := gv2.keep (k3.get mv (by omega))
  have hz := zeros_u32 144 144 rfl h3 (by omega)
  obtain ⟨H4, hH4⟩ : ∃ H4, h3.new (.row false 0 (.vals ((List.replicate 144 (0 : Int)).map (Value.int .u32)))) = H4 := ⟨_, rfl⟩
  rw [hH4] at hz
  have g4 : ∀ k, k < h3.next → H4.get k = h3.get k := fun k hk => by rw [← hH4, AHeap.get_new, if_neg (by omega)]
  have z4 : H4.get h3.next = .row false 0 (.vals ((List.replicate 144 (0 : Int)).map (Value.int .u32))) := by rw [← hH4, AHeap.get_new, if_pos rfl]
  have n4 : H4.next = h3.next + 1 := by rw [← hH4, AHeap.next_new]
  have w4 : Wf H4 := by rw [← hH4]; exact (k3.wf (k2.wf (k1.wf hw))).new _
  have gv4 := gv3.keep (g4 mv (by omega))
  have st := gv4.st8 (.slice (some ⟨h3.next, 0, none⟩) 144 144) rfl rfl rfl
  obtain ⟨H5, hH5⟩ : ∃ H5, H4.set mv (.row false 0 (.vals (vol (.slice (some ⟨h3.next, 0, none⟩) 144 144) f n))) = H5 := ⟨_, rfl⟩
  rw [hH5] at st
  have n5 : H5.next = h3.next + 1 := by rw [← hH5, AHeap.next_set, n4]
  have g5 : ∀ k, k ≠ mv → H5.get k = H4.get k := fun k hk => by rw [← hH5, AHeap.get_set, if_neg hk]
  have gv5 : VolAt H5 mv (.slice (some ⟨h3.next, 0, none⟩) 144 144) f n := ⟨by rw [← hH5, AHeap.get_set, if_pos rfl]⟩
  have w5 : Wf H5 := by rw [← hH5]; exact w4.set (by omega) _
  obtain ⟨mb, eb, hb1, hb2, rb⟩ := ownRow o1 (by rw [sec_len (by omega)]; omega)
  rw [sec_len (by omega)] at eb
  have rb5 : RowI H5 .u8 mb 0 (sec l 2048 1024) := rb.of_get (by rw [g5 mb (by omega), g4 mb (by omega), k3.get mb (by omega), k2.get mb (by omega)])
  have gk : ∀ k, k < h.next → k ≠ mv → H5.get k = h.get k := fun k hk hk2 => by rw [g5 k hk2, g4 k (by omega), k3.get k (by omega), k2.get k (by omega), k1.get k hk]
  have wl := mread (L + 1000)
  clear wl
  subst eb
  simp (disch := omega) [skip0, gv.l1, gv.l4, gv1.l1, gv1.l4, gv1.l2, gv2.l1, gv2.l4, gv2.l2, gv2.lb, gv4.l8, nil153, inv153, e1, e2, s1, s2, aStr, wrapF_i64, e3, hz, st, WD_nilM, WD_inv]
  refine W_loop (TabI mv mb h3.next H5 (sec l 2048 1024)) 142 (by show 142 < L + 1000; omega)
    ⟨2, List.replicate 144 0, rfl, by omega, by omega, by simp, by simp, by simp, rfl, fun _ _ => rfl, w5, by rw [g5 _ (by omega)]; exact z4, by simp, fun j h1 h2 => by omega⟩ ?_
  rintro j T h' ⟨i, Z, rfl, hi2, hi3, t0, t6, t10, hnx, hk, hw', hg, hZ, hr⟩
  have vl := gv5.keep (hk mv (by omega))
  by_cases hi : i < 144
  · have ru := rb5.of_get (hk mb (by omega))
    have u : (En (L + 1000) (d + 5)).go 68 [.slice (some ⟨mb, 0, none⟩) 1024 1024, .int .i64 (4 * (i : Int))] h' = some (.tuple #[.int .u32 (le4 (sec l 2048 1024) (4 * (i : Int))), .bool true], h') :=
      u32_yes (L + 990) (d + 2) mb 0 1024 (4 * (i : Int)) (sec l 2048 1024) 1024 (sec_len (by omega)) h' (by rw [sec_len (by omega)]; omega) ru (sec_byt hb) (by omega) (by rw [sec_len (by omega)]; omega)
    have bd := le4_bd (sec_byt (a := 2048) (k := 1024) hb) (4 * (i : Int))
    have am := and_mask bd.1 bd.2
    have si := storeI hg (i := i) (by omega) (by decide) (le4 (sec l 2048 1024) (4 * (i : Int)) % 268435456)
    have hi' : (i : Int) < 144 := by omega
    simp (disch := omega) [t0, t6, t10, vl.l8, u, am, si, aIndexSl_ok, wrapF_i64, hi, hi']
    refine ⟨144 - (i + 1), by omega, i + 1, Z.set i (le4 (sec l 2048 1024) (4 * (i : Int)) % 268435456), rfl, by omega, by omega, by simp [t0], by simp [t6], by simp, hnx, fun k hk2 => by rw [AHeap.get_set, if_neg hk2]; exact hk k hk2, hw'.set (by rw [hnx]; omega) _, by rw [AHeap.get_set, if_pos rfl, List.map_set], by simpa using hZ, fun j h1 h2 => ?_⟩
    by_cases hj : j = i
    · subst hj
      unfold rdI nx
      rw [Int.toNat_natCast, List.getD_eq_getElem?_getD, List.getElem?_set, if_pos rfl, if_pos (by omega), Int.natCast_mul]
      rfl
    · have := hr j h1 (by omega)
      rw [← this]
      unfold rdI
      rw [Int.toNat_natCast, List.getD_eq_getElem?_getD, List.getD_eq_getElem?_getD, List.getElem?_set, if_neg (by omega)]
  · have he : i = 144 := by omega
    subst he
    simp [t0, t6, t10, vl.l8]
    exact ⟨h3.next, vl, by omega, by omega, fun k hk1 hk2 => by rw [hk k (by omega)]; exact gk k hk1 hk2, by omega, hw', Z, hg, hZ, hr⟩
end Go.Proofs.Ytgapfoaklgganaa.L16

set_option linter.unusedVariables false
set_option linter.unusedSimpArgs false
set_option linter.unnecessarySimpa false
/-! FatLoops: the volume is opened. -/
namespace Go.Proofs.Ytgapfoaklgganaa.L16
open Go Go.AM Go.Proofs.Ytgapfoaklgganaa.AMC
set_option maxRecDepth 10000
abbrev mtS : List (TypeId × FuncId) := [(17, 148), (74, 152), (82, 154)]
theorem inv154 (L d : Nat) (v : Value) (args : List Value) (h : AHeap) : invO (En L d) (.iface 82 v) mtS args h = (En L d).go 154 (v :: args) h := rfl
theorem bldV : aBuild (.str [.int .i64 0, .int .i64 0, .int .i64 0, .int .i64 0, .int .i64 0, .int .i64 0, .int .i64 0, .int .i64 0, .slice none 0 0, .int .i64 0, .int .i64 0] [(0, 8), (8, 1), (9, 2)]) [(0, btV 1 4 2 150 2 2 1 2)] = some (.agg (vol (.slice none 0 0) 0 0).toArray) := by kernel_rfl
theorem newV (h : AHeap) : aNew true (Value.agg (vol (.slice none 0 0) 0 0).toArray).cells.toList h = some (.pointer (some ⟨h.next, 0, none⟩), h.new (.row false 0 (.vals (vol (.slice none 0 0) 0 0)))) := by rfl
theorem VolAt.st9 {h : AHeap} {m : Nat} {x : Value} {f n : Int} (a : VolAt h m x f n) (f' n' : Int) : aStore 2 (.pointer (some ⟨m, 9, none⟩)) (.agg #[.int .i64 f', .int .i64 n']) h = some (h.set m (.row false 0 (.vals (vol x f' n')))) := by
  have hc : (Value.agg #[.int .i64 f', .int .i64 n']).cells = #[.int .i64 f', .int .i64 n'] := rfl
  simp only [aStore, a.get, hc]
  rw [if_pos ⟨rfl, (show 11 ≤ (vol x f n).length from Nat.le_of_ble_eq_true rfl), rfl⟩]
  rfl
set_option maxHeartbeats 2000000 in
theorem open_yes (L d : Nat) (l : List Int) (v : Value) (h : AHeap) (hw : Wf h) (hs : SlB h v l) (hb : Byt l) (hl : l.length = 76800) (hR : Rd (sec l 0 512) 1 4 2 150 2 2 1 2) (hcp : sec l 1024 512 = sec l 0 512)
    (i0 : le4 (sec l 512 512) 0 = 1096897106) (i1 : le4 (sec l 512 512) 484 = 1631679090) (i2 : le4 (sec l 512 512) 488 = 4294967295) (i3 : le4 (sec l 512 512) 492 = 3) (i4 : le4 (sec l 512 512) 508 = 2857697280) (htw : sec l 3072 1024 = sec l 2048 1024) :
    ∃ r h', (En (L + 1000) (d + 7)).go 41 [.iface 82 v] h = some (r, h') ∧ ∃ mv mN, r = .tuple #[.pointer (some ⟨mv, 0, none⟩), .int .i64 0] ∧ VolAt h' mv (.slice (some ⟨mN, 0, none⟩) 144 144) 4294967295 3 ∧ mv < h'.next ∧ mN < h'.next ∧ Wf h' ∧ ∃ Z : List Int, h'.get mN = .row false 0 (.vals (Z.map (Value.int .u32))) ∧ Z.length = 144 ∧ ∀ j : Nat, 2 ≤ j → j < 144 → rdI Z (j : Int) = nx (sec l 2048 1024) j := by
  refine go_ex (R := fun r h' => ∃ mv mN, r = .tuple #[.pointer (some ⟨mv, 0, none⟩), .int .i64 0] ∧ VolAt h' mv (.slice (some ⟨mN, 0, none⟩) 144 144) 4294967295 3 ∧ mv < h'.next ∧ mN < h'.next ∧ Wf h' ∧ ∃ Z : List Int, h'.get mN = .row false 0 (.vals (Z.map (Value.int .u32))) ∧ Z.length = 144 ∧ ∀ j : Nat, 2 ≤ j → j < 144 → rdI Z (j : Int) = nx (sec l 2048 1024) j) (show tabF 41 = some (.code a41) by rfl) rfl ?_
  unfold a41
  obtain ⟨b1, h1, e1, o1, k1⟩ := mreadi (L + 1000) (d + 4) v l 0 512 0 512 rfl rfl h hs (by omega) (by omega)
  have w1 := k1.wf hw
  have n1 := k1.next
  have ls : ∀ a k, a + k ≤ 76800 → (sec l a k).length = k := fun a k hk => sec_len (by omega)
  obtain ⟨_, h2, e2, rfl, k2⟩ := parseb (L + 990) (d + 2) (sec l 0 512) 1 4 2 150 2 2 1 2 b1 h1 w1 o1.sl (sec_byt hb) (ls 0 512 (by omega)) hR (by decide)
  have w2 := k2.wf w1
  have n2 := k2.next
  have hal : aNew true [.int .i64 0, .int .i64 0, .int .i64 0, .int .i64 0, .int .i64 0, .int .i64 0, .int .i64 0, .int .i64 0] h2 = some (.pointer (some ⟨h2.next, 0, none⟩), h2.new (.row false 0 (.vals (btL 0 0 0 0 0 0 0 0)))) := by rfl
  obtain ⟨h3, e3, g3, k3, n3⟩ := store_new h2 (btL 0 0 0 0 0 0 0 0) (btL 1 4 2 150 2 2 1 2).toArray 8 rfl rfl rfl
  have w3 := k3.wf w2
  have ld : ∀ (H : AHeap), H.get h2.next = h3.get h2.next → aLoad none (.pointer (some ⟨h2.next, 3, none⟩)) H = some (.int .i64 150) ∧ aLoad none (.pointer (some ⟨h2.next, 7, none⟩)) H = some (.int .i64 2) ∧ aLoad none (.pointer (some ⟨h2.next, 6, none⟩)) H = some (.int .i64 1) ∧ aLoad (some 8) (.pointer (some ⟨h2.next, 0, none⟩)) H = some (btV 1 4 2 150 2 2 1 2) := fun H e => by
    have g := e.trans g3
    exact ⟨ld_cell g rfl, ld_cell g rfl, ld_cell g rfl, ld_agg g (n := 8) rfl⟩
  obtain ⟨l33, l37, _, _⟩ := ld h3 rfl
  obtain ⟨xv, qv, ev⟩ := hs.val
  have ms := msize (L + 1000) (d + 5) xv l.length qv h3
  rw [← ev, hl] at ms
  have k03 : Keep h.next h h3 := k1.trans ((k2.less n1).trans (k3.less (by omega)))
  obtain ⟨b2, h4, e4, o4, k4⟩ := mreadi (L + 1000) (d + 4) v l 1024 512 1024 512 rfl rfl h3 (hs.keep k03 (Nat.le_refl _)) (by omega) (by omega)
  have n4 := k4.next
  have w4 := k4.wf w3
  rw [hcp] at o4
  have k14 : Keep h1.next h1 h4 := k2.trans ((k3.less n2).trans (k4.less (by omega)))
  have s1 := (o1.keep k14 (Nat.le_refl _)).sl.str
  have s2 := o4.sl.str
  obtain ⟨_, _, _, l48⟩ := ld h4 (k4.get _ (by omega))
  obtain ⟨h5, hh5⟩ : ∃ h5, h4.new (.row false 0 (.vals (vol (.slice none 0 0) 0 0))) = h5 := ⟨_, rfl⟩
  have nv := newV h4
  rw [hh5] at nv
  have k5 : Keep h4.next h4 h5 := by rw [← hh5]; exact (Keep.refl _ _).new (Nat.le_refl _) _
  have v5 : VolAt h5 h4.next (.slice none 0 0) 0 0 := ⟨by rw [← hh5, AHeap.get_new, if_pos rfl]⟩
  have n5 : h5.next = h4.next + 1 := by rw [← hh5, AHeap.next_new]
  have w5 := k5.wf w4
  obtain ⟨_, _, l56, _⟩ := ld h5 (by rw [k5.get _ (by omega), k4.get _ (by omega)])
  have k05 : Keep h.next h h5 := k03.trans ((k4.less (by omega)).trans (k5.less (by omega)))
  obtain ⟨b3, h6, e6, o6, k6⟩ := mreadi (L + 1000) (d + 4) v l 512 512 512 512 rfl rfl h5 (hs.keep k05 (Nat.le_refl _)) (by omega) (by omega)
  have n6 := k6.next
  have w6 := k6.wf w5
  obtain ⟨_, h7, e7, rfl, k7⟩ := parsec (L + 990) (d + 2) b3 (sec l 512 512) 4294967295 3 h6 o6.sl (sec_byt hb) (ls 512 512 (by omega)) i0 i1 i2 i3 i4
  have n7 := k7.next
  have w7 := k7.wf w6
  have v7 := (v5.keep (k6.get _ (by omega))).keep (k7.get _ (by omega))
  have st := v7.st9 4294967295 3
  obtain ⟨h8, hh8⟩ : ∃ h8, h7.set h4.next (.row false 0 (.vals (vol (.slice none 0 0) 4294967295 3))) = h8 := ⟨_, rfl⟩
  rw [hh8] at st
  have v8 : VolAt h8 h4.next (.slice none 0 0) 4294967295 3 := ⟨by rw [← hh8, AHeap.get_set, if_pos rfl]⟩
  have n8 : h8.next = h7.next := by rw [← hh8, AHeap.next_set]
  have w8 : Wf h8 := by rw [← hh8]; exact w7.set (by omega) _
  have k08 : Keep h.next h h8 := by
    rw [← hh8]
    exact (k05.trans ((k6.less (by omega)).trans (k7.less (by omega)))).set (by omega) (by omega) _
  obtain ⟨_, h9, e9, rfl, mN, v9, m1, m2, gk, n9, w9, Z, z1, z2, z3⟩ := table_yes L d l v h4.next 4294967295 3 h8 w8 (hs.keep k08 (Nat.le_refl _)) hb hl (by omega) v8 htw
  have p1 : (En (L + 1000) (d + 6)).go 27 [b1] h1 = some (.tuple #[btV 1 4 2 150 2 2 1 2, .int .i64 0], h2) := e2
  have p2 : (En (L + 1000) (d + 6)).go 30 [b3] h6 = some (.tuple #[cntV 4294967295 3, .int .i64 0], h7) := e7
  clear e2 e7
  have q150 : wrapF .i64 150 = 150 := by decide
  have q1024 : wrapF .i64 1024 = 1024 := by decide
  have q512 : wrapF .i64 512 = 512 := by decide
  simp (disch := omega) [WS_inv, WD_inv, inv153, inv154, e1, p1, hal, e3, l33, l37, ms, e4, s1, s2, aStr, l48, bldV, nv, l56, e6, p2, st, e9, v9.l9, skip0, q150, q1024, q512]
  exact ⟨mN, v9, by omega, m1, w9, Z, z1, z2, z3⟩
end Go.Proofs.Ytgapfoaklgganaa.L16

set_option linter.unusedVariables false
set_option linter.unusedSimpArgs false
set_option linter.unnecessarySimpa false
/-! FatLoops: the chain. -/
namespace Go.Proofs.Ytgapfoaklgganaa.L16
open Go Go.AM Go.Proofs.Ytgapfoaklgganaa.AMC
set_option maxRecDepth 10000
def outL (i : Nat) : List Int := (List.range i).map fun j => ((3 + j : Nat) : Int)
theorem outL_succ (i : Nat) : outL (i + 1) = outL i ++ [((3 + i : Nat) : Int)] := by simp [outL, List.range_succ]
theorem outL_len (i : Nat) : (outL i).length = i := by simp [outL]
theorem outL_mem (i : Nat) (x : Int) : x ∈ outL i ↔ ∃ j, j < i ∧ x = ((3 + j : Nat) : Int) := by
  simp only [outL, List.mem_map, List.mem_range]
  constructor
  · rintro ⟨j, h1, h2⟩; exact ⟨j, h1, h2.symm⟩
  · rintro ⟨j, h1, h2⟩; exact ⟨j, h1, h2.symm⟩
theorem ownOf {N : Nat} {h h' : AHeap} {es : Nat} {v : Value} {n : Nat} {l : List Value} (a : Own N h es v n l) (hn : h.next ≤ h'.next) (hg : ∀ m, N ≤ m → m < h.next → h'.get m = h.get m) : Own N h' es v n l := by
  refine ⟨a.1, ?_⟩
  rcases a.2 with ⟨h1, h2⟩ | ⟨h0, m, h1, h2, h3, h4⟩
  · exact .inl ⟨h1, h2⟩
  · exact .inr ⟨h0, m, h1, h2, by omega, (hg m h2 h3).trans h4⟩
theorem litI (x : Int) (h : AHeap) : aBuildSlice true ⟨1, 8, [.int .i64 0]⟩ 1 [(0, .int .i64 x)] h = some (.slice (some ⟨h.next, 0, none⟩) 1 1, h.new (.row false 0 (.vals [.int .i64 x]))) := rfl
/-- What the table says of the chain. -/
def chn (n k : Nat) (ends : Bool) (i : Nat) : Int := if i + 1 = n then (if ends then 268435455 else ((3 + k : Nat) : Int)) else ((3 + i + 1 : Nat) : Int)
/-- While the chain is gone along. -/
def ChI (mv mm N n k : Nat) (ends : Bool) (h : AHeap) (j : Nat) (T : Tr Value) (h' : AHeap) : Prop :=
  ∃ (i : Nat) (w : Value) (x : Int), j = n + 1 - i ∧ i ≤ n ∧ (i = n → ends = false) ∧ T.get 0 = some (.pointer (some ⟨mv, 0, none⟩)) ∧ T.get 2 = some (.map none) ∧ T.get 8 = some w ∧ T.get 9 = some (.map (some mm)) ∧ T.get 10 = some (.int .i64 x) ∧ x = (if i = n then ((3 + k : Nat) : Int) else ((3 + i : Nat) : Int)) ∧
    Keep mm h h' ∧ mm < h'.next ∧ SetI h' mm (outL i) ∧ Own N h' 1 w i ((outL i).map (Value.int .i64))
/-- While the clusters are marked, where nothing is. -/
def ChJ (mo n : Nat) (h : AHeap) (j : Nat) (T : Tr Value) (h' : AHeap) : Prop :=
  ∃ a : Nat, j = n - a ∧ a ≤ n ∧ T.get 2 = some (.map none) ∧ T.get 8 = some (.slice (some ⟨mo, 0, none⟩) n n) ∧ T.get 63 = some (.slice (some ⟨mo, 0, none⟩) n n) ∧ T.get 64 = some (.int .i64 n) ∧ T.get 65 = some (.int .i64 a) ∧ h' = h
theorem rowI_of {h : AHeap} {m gr : Nat} {k : IntKind} {Z : List Int} (g : h.get m = .row false gr (.vals (Z.map (Value.int k)))) : RowI h k m 0 Z :=
  ⟨false, gr, _, g, fun i hi => by simp [Cells.get, hi]⟩
set_option maxHeartbeats 2000000 in
theorem chain_spec (L d : Nat) (mv mN n k : Nat) (ends : Bool) (Z : List Int) (f nn : Int) (h : AHeap) (hv : mv < h.next) (hN : mN < h.next) (gv : VolAt h mv (.slice (some ⟨mN, 0, none⟩) 144 144) f nn) (gz : h.get mN = .row false 0 (.vals (Z.map (Value.int .u32)))) (hZ : Z.length = 144)
    (hn1 : 1 ≤ n) (hn : n ≤ 100) (hk : k < n) (hc : ∀ i, i < n → rdI Z ((3 + i : Nat) : Int) = chn n k ends i) :
    ∃ r h', (En (L + 1000) (d + 1)).go 47 [.pointer (some ⟨mv, 0, none⟩), .int .i64 3, .map none] h = some (r, h') ∧
      ((ends = false ∧ r = .tuple #[.slice none 0 0, .int .i64 13]) ∨ (ends = true ∧ ∃ mo, r = .tuple #[.slice (some ⟨mo, 0, none⟩) n n, .int .i64 0] ∧ RowI h' .i64 mo 0 (outL n))) := by
  refine go_ex (R := fun r h' => (ends = false ∧ r = .tuple #[.slice none 0 0, .int .i64 13]) ∨ (ends = true ∧ ∃ mo, r = .tuple #[.slice (some ⟨mo, 0, none⟩) n n, .int .i64 0] ∧ RowI h' .i64 mo 0 (outL n))) (show tabF 47 = some (.code a47) by rfl) rfl ?_
  unfold a47
  simp [aMakeMap]
  refine W_loop (ChI mv h.next (h.next + 1) n k ends h) (n + 1) (by show n + 1 < L + 1000; omega)
    ⟨0, .slice none 0 0, 3, by omega, by omega, by omega, by simp, by simp, by simp, by simp, by simp, by rw [if_neg (by omega)]; rfl, (Keep.refl _ _).new (Nat.le_refl _) _, by rw [AHeap.next_new]; omega, SetI.new h, Own.nil _ _ _⟩ ?_
  rintro j T h' ⟨i, w, x, rfl, hi, hie, t0, t2, t8, t9, t10, hx, hk', hm, hS, hO⟩
  have gv' := gv.keep (hk'.get mv hv)
  have gz' : h'.get mN = .row false 0 (.vals (Z.map (Value.int .u32))) := (hk'.get mN hN).trans gz
  have x2 : ¬ x < 2 := by rw [hx]; split <;> omega
  have x3 : ¬ (144 : Int) ≤ x := by rw [hx]; split <;> omega
  have lk := hS.look x
  by_cases hin : i = n
  · subst hin
    rw [if_pos rfl] at hx
    have hmem : x ∈ outL i := (outL_mem i x).2 ⟨k, hk, hx⟩
    rw [if_pos hmem] at lk
    have he := hie rfl
    subst he
    simp [t0, t2, t8, t9, t10, x2, x3, gv'.l8, lk]
  · rw [if_neg hin] at hx
    have hnm : x ∉ outL i := fun hm => by
      obtain ⟨j, h1, h2⟩ := (outL_mem i x).1 hm
      omega
    rw [if_neg hnm] at lk
    obtain ⟨o, pe, pS⟩ := hS.put hnm
    have hb := outL_len i
    have q1 : Keep h.next h (h'.set h.next o) := hk'.set (Nat.le_refl _) hm _
    have li := litI x (h'.set h.next o)
    obtain ⟨h2, hh2⟩ : ∃ h2, (h'.set h.next o).new (.row false 0 (.vals [.int .i64 x])) = h2 := ⟨_, rfl⟩
    rw [hh2] at li
    have n2 : h2.next = h'.next + 1 := by rw [← hh2, AHeap.next_new, AHeap.next_set]
    have q2 : Keep h.next h h2 := by rw [← hh2]; exact q1.new (by have := hk'.next; omega) _
    have g2 : h2.get (h'.set h.next o).next = .row false 0 (.vals [.int .i64 x]) := by rw [← hh2, AHeap.get_new, if_pos rfl]
    have gg : ∀ m, m < h'.next → m ≠ h.next → h2.get m = h'.get m := fun m h1 h3 => by rw [← hh2, AHeap.get_new, if_neg (by rw [AHeap.next_set]; omega), AHeap.get_set, if_neg h3]
    have gmm : h2.get h.next = (h'.set h.next o).get h.next := by rw [← hh2, AHeap.get_new, if_neg (by rw [AHeap.next_set]; omega)]
    rw [AHeap.next_set] at li g2
    have hO2 : Own (h.next + 1) h2 1 w i ((outL i).map (Value.int .i64)) := ownOf hO (by omega) (fun m h1 h3 => gg m h3 (by omega))
    obtain ⟨v3, h3, e3, o3, k3⟩ := push_one (k := ⟨1, 8, [.int .i64 0]⟩) hO2 g2 rfl (by decide) (by omega) (by simp; omega) (by omega)
    have n3 := k3.next
    have q3 : Keep h.next h h3 := q2.trans (k3.less (by omega))
    have S3 : SetI h3 h.next (outL (i + 1)) := by
      rw [outL_succ, ← hx]
      exact (pS.of_get gmm).of_get (k3.get _ (by omega))
    have O3 : Own (h.next + 1) h3 1 v3 (i + 1) ((outL (i + 1)).map (Value.int .i64)) := by
      rw [outL_succ, ← hx, List.map_append]; exact o3
    have gv3 := gv.keep (q3.get mv hv)
    have gz3 : h3.get mN = .row false 0 (.vals (Z.map (Value.int .u32))) := (q3.get mN hN).trans gz
    have ldz := (rowI_of gz3).rd (i := x) (by omega) (by rw [hZ]; omega)
    have hy : rdI Z x = chn n k ends i := by rw [hx]; exact hc i (by omega)
    rw [hy] at ldz
    have xt : x.toNat = 3 + i := by omega
    rw [xt, Nat.zero_add] at ldz
    by_cases hl : i + 1 = n ∧ ends = true
    · obtain ⟨hl1, hl2⟩ := hl
      have hch : chn n k ends i = 268435455 := by unfold chn; rw [if_pos hl1, if_pos hl2]
      rw [hch] at ldz
      rw [hl1] at O3
      obtain ⟨mo, ev, m1, m2, ro⟩ := O3.rowI (by omega)
      subst ev
      simp (disch := omega) [t0, t2, t8, t9, t10, x2, x3, gv'.l8, lk, look_nil, pe, li, e3, gv3.l8, aIndexSl_ok, xt, ldz]
      refine W_loop (ChJ mo n h3) n (by show n < L + 1000; omega) ⟨0, by omega, by omega, by simp [t2], by simp, by simp, by simp, by simp, rfl⟩ ?_
      rintro j T' h4 ⟨a, rfl, ha, u2, u8, u63, u64, u65, hh⟩
      have hh' := hh.symm
      subst hh'
      by_cases han : a < n
      · have rd := ro.rd (i := (a : Int)) (by omega) (by rw [outL_len]; omega)
        rw [Int.toNat_natCast, Nat.zero_add] at rd
        simp (disch := omega) [u2, u8, u63, u64, u65, han, aIndexSl_ok, rd, wrapF_i64]
        exact ⟨n - (a + 1), by omega, a + 1, rfl, by omega, by simp [u2], by simp [u8], by simp [u63], by simp [u64], by simp, rfl⟩
      · simp [u2, u8, u63, u64, u65, han]
        exact ⟨hl2, ro⟩
    · have hch : 3 ≤ chn n k ends i ∧ chn n k ends i < 1000 ∧ chn n k ends i = (if i + 1 = n then ((3 + k : Nat) : Int) else ((3 + (i + 1) : Nat) : Int)) := by
        unfold chn
        by_cases h1 : i + 1 = n
        · rw [if_pos h1, if_pos h1]
          have : ends = false := by cases ends with | false => rfl | true => exact absurd ⟨h1, rfl⟩ hl
          rw [this]
          simp; omega
        · rw [if_neg h1, if_neg h1]; simp; omega
      obtain ⟨c1, c2, c3⟩ := hch
      have hlf : i + 1 = n → ends = false := fun h1 => by cases ends with | false => rfl | true => exact absurd ⟨h1, rfl⟩ hl
      generalize chn n k ends i = y at ldz c1 c2 c3
      have y1 : ¬ (268435448 : Int) ≤ y := by omega
      have y2 : ¬ y = 0 := by omega
      have y3 : ¬ y = 268435447 := by omega
      simp (disch := omega) [t0, t2, t8, t9, t10, x2, x3, gv'.l8, lk, look_nil, pe, li, e3, gv3.l8, aIndexSl_ok, xt, ldz, y1, y2, y3, wrapF_i64]
      exact ⟨n + 1 - (i + 1), by omega, i + 1, v3, y, rfl, by omega, hlf, by simp [t0], by simp [t2], by simp, by simp [t9], by simp, c3, q3, by omega, S3, O3⟩
end Go.Proofs.Ytgapfoaklgganaa.L16

set_option linter.unusedVariables false
set_option linter.unusedSimpArgs false
set_option linter.unnecessarySimpa false
/-! FatLoops over the executor. -/
namespace Go.Proofs.Ytgapfoaklgganaa.L16
open Go Go.AM Go.Proofs.Ytgapfoaklgganaa.AMC
set_option maxRecDepth 10000
/-- The table's bytes that are laid. -/
def tl (n k : Nat) (ends : Bool) : Nat → List Int
  | 0 => []
  | i + 1 => tl n k ends i ++ by4 (chn n k ends i)
theorem tl_len (n k : Nat) (ends : Bool) : ∀ i, (tl n k ends i).length = 4 * i
  | 0 => rfl
  | i + 1 => by simp only [tl, List.length_append, tl_len n k ends i, by4_len]; omega
theorem tl_byt (n k : Nat) (ends : Bool) : ∀ i, Byt (tl n k ends i)
  | 0 => fun x hx => by cases hx
  | i + 1 => fun x hx => by
    rcases List.mem_append.1 hx with h | h
    · exact tl_byt n k ends i x h
    · exact by4_byt _ x h
theorem chn_bd (n k : Nat) (ends : Bool) (i : Nat) (hk : k ≤ 100) (hi : i ≤ 100) : 0 ≤ chn n k ends i ∧ chn n k ends i < 268435456 := by
  unfold chn; split
  · split <;> omega
  · omega
theorem tl_rd (n k : Nat) (ends : Bool) : ∀ m i j, i < m → j < 4 → rdI (tl n k ends m) ((4 * i + j : Nat) : Int) = rdI (by4 (chn n k ends i)) (j : Int)
  | 0, i, j, hi, _ => by omega
  | m + 1, i, j, hi, hj => by
    have hl := tl_len n k ends m
    by_cases h : i < m
    · rw [← tl_rd n k ends m i j h hj]
      unfold rdI
      simp only [Int.toNat_natCast, List.getD_eq_getElem?_getD, tl]
      rw [List.getElem?_append_left (by omega)]
    · have : i = m := by omega
      subst this
      unfold rdI
      simp only [Int.toNat_natCast, List.getD_eq_getElem?_getD, tl]
      rw [List.getElem?_append_right (by omega), hl, show 4 * i + j - 4 * i = j by omega]
theorem tl_le (n k : Nat) (ends : Bool) (m i : Nat) (hk : k ≤ 100) (hi : i < m) (hm : m ≤ 100) : le4 (tl n k ends m) ((4 * i : Nat) : Int) = chn n k ends i := by
  have bd := chn_bd n k ends i hk (by omega)
  rw [le4_nat _ (4 * i) (tl_rd n k ends m i 0 hi (by omega)) (tl_rd n k ends m i 1 hi (by omega)) (tl_rd n k ends m i 2 hi (by omega)) (tl_rd n k ends m i 3 hi (by omega))]
  generalize chn n k ends i = v at bd
  show v % 256 + 256 * (v / 256 % 256) + 65536 * (v / 256 / 256 % 256) + 16777216 * (v / 256 / 256 / 256 % 256) = v
  omega
/-- While the table's bytes are laid. -/
def TlI (v : Value) (mb n k : Nat) (ends : Bool) (h3 : AHeap) (j : Nat) (T : Tr Value) (h' : AHeap) : Prop :=
  ∃ (i : Nat) (w : Value), j = n - i ∧ i ≤ n ∧ T.get 2 = some (.bool ends) ∧ T.get 7 = some (.int .i64 n) ∧ T.get 8 = some (.int .i64 k) ∧ T.get 9 = some v ∧ T.get 11 = some (.pointer (some ⟨mb, 0, none⟩)) ∧ T.get 13 = some w ∧ T.get 14 = some (.int .i64 i) ∧ Keep h3.next h3 h' ∧ OwnB h3.next h' w (tl n k ends i)
/-- While they are put into both tables. -/
def dI (D t : List Int) : Nat → List Int
  | 0 => D
  | 1 => wth D 2060 t
  | _ => wth (wth D 2060 t) 3084 t
theorem dI_one (D t : List Int) : dI D t 1 = wth (dI D t 0) 2060 t := rfl
theorem dI_two (D t : List Int) : dI D t 2 = wth (dI D t 1) 3084 t := rfl
theorem dL_two (D t : List Int) : dL D t = wth (dI D t 2) 1000 (by4 4294967295) := rfl
def PtI (mb n k : Nat) (ends : Bool) (D : List Int) (w : Value) (h3 : AHeap) (j : Nat) (T : Tr Value) (h' : AHeap) : Prop :=
  ∃ (i : Nat) (v : Value), j = 2 - i ∧ i ≤ 2 ∧ T.get 2 = some (.bool ends) ∧ T.get 7 = some (.int .i64 n) ∧ T.get 8 = some (.int .i64 k) ∧ T.get 9 = some v ∧ T.get 11 = some (.pointer (some ⟨mb, 0, none⟩)) ∧ T.get 13 = some w ∧ T.get 16 = some (.int .i64 i) ∧ Keep h3.next h3 h' ∧ SlB h' w (tl n k ends n) ∧ SlB h' v (dI D (tl n k ends n) i)
/-- While what is answered is looked at. -/
def LkI (mo n : Nat) (h : AHeap) (j : Nat) (T : Tr Value) (h' : AHeap) : Prop :=
  ∃ a : Nat, j = n - a ∧ a ≤ n ∧ T.get 7 = some (.int .i64 n) ∧ T.get 19 = some (.slice (some ⟨mo, 0, none⟩) n n) ∧ T.get 21 = some (.int .i64 a) ∧ h' = h
set_option maxHeartbeats 4000000 in
theorem law_loops (long back : Int) (ends : Bool) : ∃ r h', (En 100000 61).go 8 [.int .i64 long, .int .i64 back, .bool ends] AHeap.empty = some (r, h') ∧ r = .bool true := by
  refine go_ex (R := fun r _ => r = .bool true) (show tabF 8 = some (.code a8) by rfl) rfl ?_
  unfold a8
  obtain ⟨m, N, gr, h1, h2, e1, e2, w2, g2, hgr, hm, hf, hcut⟩ := pre_spec
  have hFn := fN_fn hf
  have u0 : 0 ≤ wrapF .u64 long ∧ wrapF .u64 long < 18446744073709551616 := by rw [wrapF_mod_u64]; omega
  have u1 : 0 ≤ wrapF .u64 back ∧ wrapF .u64 back < 18446744073709551616 := by rw [wrapF_mod_u64]; omega
  obtain ⟨n, hn, hn1, hn2⟩ : ∃ n : Nat, 1 + (wrapF .u64 long).tmod 100 = (n : Int) ∧ 1 ≤ n ∧ n ≤ 100 := by
    rw [Int.tmod_eq_emod_of_nonneg u0.1]
    exact ⟨(1 + wrapF .u64 long % 100).toNat, by omega, by omega, by omega⟩
  obtain ⟨k, hk, hkn⟩ : ∃ k : Nat, (wrapF .u64 back).tmod (n : Int) = (k : Int) ∧ k < n := by
    rw [Int.tmod_eq_emod_of_nonneg u1.1]
    have a := Int.emod_nonneg (wrapF .u64 back) (b := n) (by omega)
    have b := Int.emod_lt_of_pos (wrapF .u64 back) (b := n) (by omega)
    exact ⟨(wrapF .u64 back % n).toNat, by omega, by omega⟩
  have hn' : 1 + wrapF .i64 ((wrapF .u64 long).tmod 100) = n := by rw [wrapF_i64 (by omega) (by omega)]; exact hn
  have hal : aNew true [.int .i64 0, .int .i64 0, .int .i64 0, .int .i64 0, .int .i64 0, .int .i64 0, .int .i64 0, .int .i64 0] h2 = some (.pointer (some ⟨h2.next, 0, none⟩), h2.new (.row false 0 (.vals (btL 0 0 0 0 0 0 0 0)))) := by rfl
  obtain ⟨h3, e3, g3, k3, n3⟩ := store_new h2 (btL 0 0 0 0 0 0 0 0) (btL 1 4 2 150 2 2 1 2).toArray 8 rfl rfl rfl
  have w3 := k3.wf w2
  have g21 := go21 100000 59 AHeap.empty
  have d0 : ¬ n = 0 := by omega
  simp (disch := omega) [g21, wrapF_i64, wrapF_u64, hn, hk, e1, hcut, e2, hal, e3, d0]
  have ld : ∀ (H : AHeap), H.get h2.next = h3.get h2.next → aLoad none (.pointer (some ⟨h2.next, 1, none⟩)) H = some (.int .i64 4) ∧ aLoad none (.pointer (some ⟨h2.next, 2, none⟩)) H = some (.int .i64 2) ∧ aLoad none (.pointer (some ⟨h2.next, 4, none⟩)) H = some (.int .i64 2) := fun H e => by
    have g := e.trans g3
    exact ⟨ld_cell g rfl, ld_cell g rfl, ld_cell g rfl⟩
  have sD : SlB h3 (.slice (some ⟨m, 0, none⟩) 76800 76800) (lN N 76800) := by
    have g := (k3.get m hm).trans g2
    refine ⟨by rw [byV_length, lN_len], .inr ⟨m, 0, 76800, false, gr, _, by rw [lN_len], by rw [lN_len]; exact Nat.le_refl _, by omega, g, by omega, by rw [lN_len]; exact Nat.le_refl _, ?_⟩⟩
    rw [List.drop_zero, ← byV_lN, List.take_of_length_le (by rw [byV_length, Nat.mul_one]; exact Nat.le_refl _)]
  have hDl := hFn.len
  generalize lN N 76800 = D at hFn sD hDl
  refine W_loop (TlI (.slice (some ⟨m, 0, none⟩) 76800 76800) h2.next n k ends h3) n (by show n < 100000; omega)
    ⟨0, .slice none 0 0, by omega, by omega, by simp, by simp, by simp, by simp, by simp, by simp, by simp, Keep.refl _ _, OwnB.nil _ _⟩ ?_
  rintro j T h' ⟨i, w, rfl, hi, t2, t7, t8, t9, t11, t13, t14, kk, ow⟩
  by_cases hin : i < n
  · have cb := chn_bd n k ends i (by omega) (by omega)
    obtain ⟨b, h5, e5, ob, k5⟩ := bytes4 99990 59 (chn n k ends i) h' cb.1 (by omega)
    have e5' : (En 100000 60).go 46 [.int .u64 (chn n k ends i), .int .i64 4] h' = some (b, h5) := e5
    clear e5
    obtain ⟨xb, qb, rfl⟩ := ob.sl.val
    have hl := tl_len n k ends i
    obtain ⟨v6, h6, e6, o6, k6⟩ := OwnB.append (k := EK1) (ow.keep k5 (Nat.le_refl _)) ob.sl rfl rfl (by have := kk.next; have := k5.next; omega) (by rw [by4_len]; omega)
    simp only [by4_len] at e5' e6
    have kk6 : Keep h3.next h3 h6 := kk.trans ((k5.less kk.next).trans k6)
    have fin : ∀ T6 : Tr Value, T6.get 2 = some (.bool ends) → T6.get 7 = some (.int .i64 n) → T6.get 8 = some (.int .i64 k) → T6.get 9 = some (.slice (some ⟨m, 0, none⟩) 76800 76800) → T6.get 11 = some (.pointer (some ⟨h2.next, 0, none⟩)) → T6.get 13 = some v6 → T6.get 14 = some (.int .i64 (i + 1)) → ∃ j', j' < n - i ∧ TlI (.slice (some ⟨m, 0, none⟩) 76800 76800) h2.next n k ends h3 j' T6 h6 := fun T6 a2 a7 a8 a9 a11 a13 a14 =>
      ⟨n - (i + 1), by omega, i + 1, v6, rfl, by omega, a2, a7, a8, a9, a11, a13, by rw [a14]; simp, kk6, o6⟩
    by_cases hl1 : i + 1 = n
    · have c1 : ((i : Int) = (n : Int) - 1) = True := eq_true (by omega)
      by_cases he : ends = true
      · have hc : chn n k ends i = 268435455 := by unfold chn; rw [if_pos hl1, if_pos he]
        rw [hc] at e5'
        subst he
        simp (disch := omega) [t2, t7, t8, t9, t11, t13, t14, hin, c1, wrapF_i64, wrapF_u64, e5', e6]
        exact fin _ (by simp [t2]) (by simp [t7]) (by simp [t8]) (by simp [t9]) (by simp [t11]) (by simp) (by simp)
      · have he' : ends = false := by simpa using he
        have hc : chn n k ends i = 3 + (k : Int) := by unfold chn; rw [if_pos hl1, if_neg he]; omega
        rw [hc] at e5'
        subst he'
        simp (disch := omega) [t2, t7, t8, t9, t11, t13, t14, hin, c1, wrapF_i64, wrapF_u64, e5', e6]
        exact fin _ (by simp [t2]) (by simp [t7]) (by simp [t8]) (by simp [t9]) (by simp [t11]) (by simp) (by simp)
    · have c1 : ¬ (i : Int) = (n : Int) - 1 := by omega
      have hc : chn n k ends i = 3 + (i : Int) + 1 := by unfold chn; rw [if_neg hl1]; omega
      rw [hc] at e5'
      simp (disch := omega) [t2, t7, t8, t9, t11, t13, t14, hin, c1, wrapF_i64, wrapF_u64, e5', e6]
      exact fin _ (by simp [t2]) (by simp [t7]) (by simp [t8]) (by simp [t9]) (by simp [t11]) (by simp) (by simp)
  · have hie : i = n := by omega
    subst hie
    have tlen := tl_len i k ends i
    have tbyt := tl_byt i k ends i
    simp (disch := omega) [t2, t7, t8, t9, t11, t13, t14]
    refine W_loop (PtI h2.next i k ends D w h3) 2 (by show 2 < 100000; omega)
      ⟨0, _, by omega, by omega, by simp [t2], by simp [t7], by simp [t8], by simp [t9], by simp [t11], by simp [t13], by simp, kk, ow.sl, sD.keep kk (Nat.le_refl _)⟩ ?_
    rintro j T2 h4 ⟨a, v, rfl, ha, u2, u7, u8, u9, u11, u13, u16, kk4, sw, sv⟩
    obtain ⟨l1, l2, l4⟩ := ld h4 (kk4.get _ (by omega))
    obtain ⟨xw, qw, ew⟩ := sw.val
    have hlen : ∀ b, (dI D (tl i k ends i) b).length = 76800 := fun b => by
      have a1 : (wth D 2060 (tl i k ends i)).length = 76800 := by rw [wth_len (by omega)]; exact hDl
      match b with
      | 0 => exact hDl
      | 1 => exact a1
      | b + 2 => exact (wth_len (by omega)).trans a1
    by_cases ha2 : a < 2
    · have h01 : a = 0 ∨ a = 1 := by omega
      rcases h01 with rfl | rfl
      · obtain ⟨v5, h5, e5, o5, k5⟩ := with_i 100000 59 v w _ _ 2060 2060 rfl h4 sv sw (by rw [hlen]; omega) (by rw [hlen]; omega)
        simp (disch := omega) [u2, u7, u8, u9, u11, u13, u16, l1, l2, l4, wrapF_i64, e5]
        exact ⟨2 - 1, by omega, 1, v5, rfl, by omega, by simp [u2], by simp [u7], by simp [u8], by simp, by simp [u11], by simp [u13], by simp, kk4.trans (k5.less kk4.next), sw.keep k5 (Nat.le_refl _), by rw [dI_one]; exact o5.sl⟩
      · obtain ⟨v5, h5, e5, o5, k5⟩ := with_i 100000 59 v w _ _ 3084 3084 rfl h4 sv sw (by rw [hlen]; omega) (by rw [hlen]; omega)
        simp (disch := omega) [u2, u7, u8, u9, u11, u13, u16, l1, l2, l4, wrapF_i64, e5]
        exact ⟨2, v5, rfl, by omega, by simp [u2], by simp [u7], by simp [u8], by simp, by simp [u11], by simp [u13], by simp, kk4.trans (k5.less kk4.next), sw.keep k5 (Nat.le_refl _), by rw [dI_two]; exact o5.sl⟩
    · have hae : a = 2 := by omega
      subst hae
      obtain ⟨b6, h6, e6, ob6, k6⟩ := bytes4 99990 59 4294967295 h4 (by omega) (by omega)
      have e6' : (En 100000 60).go 46 [.int .u64 4294967295, .int .i64 4] h4 = some (b6, h6) := e6
      clear e6
      have hd2 := hlen 2
      obtain ⟨v7, h7, e7, o7, k7⟩ := with_i 100000 59 v b6 (dI D (tl i k ends i) 2) (by4 4294967295) 1000 1000 rfl h6 (sv.keep k6 (Nat.le_refl _)) ob6.sl (by omega) (by rw [by4_len]; omega)
      have sd : SlB h7 v7 (dL D (tl i k ends i)) := by rw [dL_two]; exact o7.sl
      have w7 : Wf h7 := k7.wf (k6.wf (kk4.wf w3))
      obtain ⟨i0, i1, i2, i3, i4⟩ := info_le (t := tl i k ends i) hFn (by omega)
      obtain ⟨_, h8, e8, mv, mN, rfl, gv, gv1, gN, w8, Z, z1, z2, z3⟩ := open_yes 99000 53 _ v7 h7 w7 sd (dL_byt hFn tbyt) (dL_len hFn (by omega)) (first_rd hFn (by omega)) (copy_eq hFn (by omega)) i0 i1 i2 i3 i4 (twin_eq hFn (by omega))
      have hc : ∀ a, a < i → rdI Z ((3 + a : Nat) : Int) = chn i k ends a := fun a ha => by
        rw [z3 (3 + a) (by omega) (by omega)]
        unfold nx
        rw [table_le hFn (by omega) a (by omega), tl_le i k ends i a (by omega) ha (by omega)]
        have := chn_bd i k ends a (by omega) (by omega)
        omega
      obtain ⟨r9, h9, e9, h9r⟩ := chain_spec 99000 59 mv mN i k ends Z 4294967295 3 h8 gv1 gN gv z1 z2 (by omega) (by omega) hkn hc
      have e8' : (En 100000 60).go 41 [.iface 82 v7] h7 = some (.tuple #[.pointer (some ⟨mv, 0, none⟩), .int .i64 0], h8) := e8
      have e9' : (En 100000 60).go 47 [.pointer (some ⟨mv, 0, none⟩), .int .i64 3, .map none] h8 = some (r9, h9) := e9
      clear e8 e9
      rcases h9r with ⟨he, rfl⟩ | ⟨he, mo, rfl, ro⟩
      · subst he
        simp (disch := omega) [u2, u7, u8, u9, u11, u13, u16, l1, l2, l4, wrapF_i64, e6', e7, e8', e9']
      · subst he
        simp (disch := omega) [u2, u7, u8, u9, u11, u13, u16, l1, l2, l4, wrapF_i64, e6', e7, e8', e9']
        refine W_loop (LkI mo i h9) i (by show i < 100000; omega) ⟨0, by omega, by omega, by simp [u7], by simp, by simp, rfl⟩ ?_
        rintro j T3 h10 ⟨a, rfl, ha, x7, x19, x21, hh⟩
        have hh' := hh.symm
        subst hh'
        by_cases hai : a < i
        · have rd := ro.rd (i := (a : Int)) (by omega) (by rw [outL_len]; omega)
          rw [Int.toNat_natCast, Nat.zero_add] at rd
          have ra : rdI (outL i) (a : Int) = 3 + (a : Int) := by
            unfold rdI outL
            rw [Int.toNat_natCast, List.getD_eq_getElem?_getD, List.getElem?_map, List.getElem?_range hai]
            simp
          rw [ra] at rd
          simp (disch := omega) [x7, x19, x21, hai, aIndexSl_ok, rd, wrapF_i64]
          exact ⟨i - (a + 1), by omega, a + 1, rfl, by omega, by simp [x7], by simp [x19], by simp, rfl⟩
        · simp [x7, x19, x21, hai]
end Go.Proofs.Ytgapfoaklgganaa.L16

