import Derived.Test.YtoehafeeoggpkaaAM37
import Derived.Test.YtoehafeeoggpkaaAM35
set_option linter.unusedVariables false
set_option linter.unusedSimpArgs false
set_option linter.unnecessarySimpa false
/-! Part 38: the sum of bytes, as a primitive. -/
namespace Go.AM
noncomputable section
set_option maxRecDepth 10000
/-- A bit goes through. -/
def crcT (s : Nat) : Nat := if s % 2 = 1 then (s / 2) ^^^ 3988292384 else s / 2
def crcI : Nat → Nat → Nat
  | 0, s => s
  | n + 1, s => crcI n (crcT s)
def crcS (s b : Nat) : Nat := crcI 8 (s ^^^ b)
def crcF (s : Nat) (l : List Int) : Nat := l.foldl (fun s x => crcS s x.toNat) s
theorem crcI_succ : ∀ n s, crcI (n + 1) s = crcT (crcI n s)
  | 0, s => rfl
  | n + 1, s => by show crcI (n + 1) (crcT s) = _; rw [crcI_succ n (crcT s)]; rfl
theorem xor_lt {a b : Nat} (ha : a < 4294967296) (hb : b < 4294967296) : a ^^^ b < 4294967296 := Nat.xor_lt_two_pow (n := 32) ha hb
theorem crcT_lt {s : Nat} (h : s < 4294967296) : crcT s < 4294967296 := by
  unfold crcT
  split
  · exact xor_lt (by omega) (by omega)
  · omega
theorem crcI_lt : ∀ n {s : Nat}, s < 4294967296 → crcI n s < 4294967296
  | 0, _, h => h
  | n + 1, _, h => crcI_lt n (crcT_lt h)
theorem crcS_lt {s b : Nat} (h : s < 4294967296) (hb : b < 256) : crcS s b < 4294967296 := crcI_lt 8 (xor_lt h (by omega))
theorem xorF {a b : Nat} (ha : a < 4294967296) (hb : b < 4294967296) : bitsF .xor .u32 (a : Int) (b : Int) = some ((a ^^^ b : Nat) : Int) := by
  show (match (Int.ofNat a), (Int.ofNat b) with | .ofNat a, .ofNat b => if a < capK .u32 ∧ b < capK .u32 then (bitsNat .xor a b).map Int.ofNat else bitsSlow .xor .u32 (.ofNat a) (.ofNat b) | x, y => bitsSlow .xor .u32 x y) = _
  simp only
  rw [if_pos ⟨by simp only [capK]; omega, by simp only [capK]; omega⟩]
  rfl
theorem and1 {a : Nat} (ha : a < 4294967296) : bitsF .and .u32 (a : Int) 1 = some ((a % 2 : Nat) : Int) := by
  show (match (Int.ofNat a), (Int.ofNat 1) with | .ofNat a, .ofNat b => if a < capK .u32 ∧ b < capK .u32 then (bitsNat .and a b).map Int.ofNat else bitsSlow .and .u32 (.ofNat a) (.ofNat b) | x, y => bitsSlow .and .u32 x y) = _
  simp only
  rw [if_pos ⟨by simp only [capK]; omega, by simp only [capK]; omega⟩]
  have e : Nat.land a 1 = a % 2 := Nat.and_one_is_mod a
  simp only [bitsNat, Option.map_some, e]
  rfl
def stepA : AFunc := ⟨2, [.tmp 4],
  (.both (.seq [⟨(some 4), none, .plain (.mov (.const (.int .u32 0)))⟩])
  (.both (.seq [⟨(some 5), none, .plain (.mov (.tmp 0))⟩,
     ⟨(some 6), none, .plain (.mov (.tmp 1))⟩,
     ⟨(some 7), none, .plain (.conv (.int .u32) (.tmp 6))⟩,
     ⟨(some 8), none, .plain (.bin .xor (.tmp 5) (.tmp 7))⟩,
     ⟨(some 0), none, .plain (.mov (.tmp 8))⟩])
  (.both (.both (.seq [⟨(some 9), none, .plain (.mov (.const (.int .i64 0)))⟩])
   (.block 0 (.loop (.both (.seq [⟨(some 10), none, .plain (.bin .lss (.tmp 9) (.const (.int .i64 8)))⟩])
     (.both (.cond (.tmp 10)
       .skip
       (.exit 0))
     (.both (.block 1 (.both (.seq [⟨(some 11), none, .plain (.mov (.tmp 0))⟩,
          ⟨(some 12), none, .plain (.bin .and (.tmp 11) (.const (.int .u32 1)))⟩,
          ⟨(some 13), none, .plain (.bin .eql (.tmp 12) (.const (.int .u32 1)))⟩])
       (.cond (.tmp 13)
        (.seq [⟨(some 14), none, .plain (.mov (.tmp 0))⟩,
          ⟨(some 15), none, .plain (.bin .shr (.tmp 14) (.const (.int .u64 1)))⟩,
          ⟨(some 16), none, .plain (.bin .xor (.tmp 15) (.const (.int .u32 3988292384)))⟩,
          ⟨(some 0), none, .plain (.mov (.tmp 16))⟩])
        (.seq [⟨(some 17), none, .plain (.mov (.tmp 0))⟩,
          ⟨(some 18), none, .plain (.bin .shr (.tmp 17) (.const (.int .u64 1)))⟩,
          ⟨(some 0), none, .plain (.mov (.tmp 18))⟩]))))
     (.seq [⟨(some 19), none, .plain (.bin .add (.tmp 9) (.const (.int .i64 1)))⟩,
       ⟨(some 9), none, .plain (.mov (.tmp 19))⟩])))))))
  (.both (.seq [⟨(some 20), none, .plain (.mov (.tmp 0))⟩,
     ⟨(some 4), none, .plain (.mov (.tmp 20))⟩])
  .ret))))⟩
def fastA : AFunc := ⟨1, [.tmp 2],
  (.both (.seq [⟨(some 2), none, .plain (.mov (.const (.int .u32 0)))⟩])
  (.both (.seq [⟨(some 3), none, .plain (.mov (.const (.int .u32 4294967295)))⟩])
  (.both (.both (.seq [⟨(some 4), none, .plain (.mov (.const (.int .i64 0)))⟩])
   (.block 0 (.loop (.both (.both (.seq [⟨(some 7), none, .plain (.mov (.tmp 4))⟩,
         ⟨(some 8), none, .plain (.mov (.tmp 0))⟩,
         ⟨(some 9), none, .plain (.len .sl (.tmp 8))⟩,
         ⟨(some 10), none, .plain (.bin .lss (.tmp 7) (.tmp 9))⟩])
      (.cond (.tmp 10)
       .skip
       (.exit 0)))
     (.both (.block 1 (.both (.seq [⟨(some 13), none, .plain (.mov (.tmp 3))⟩,
          ⟨(some 14), none, .plain (.mov (.tmp 0))⟩,
          ⟨(some 15), none, .plain (.mov (.tmp 4))⟩,
          ⟨(some 16), none, .plain (.iaddr none 1 (.tmp 14) (.tmp 15))⟩,
          ⟨(some 17), none, .plain (.load none (.tmp 16))⟩,
          ⟨(some 18), none, .plain (.conv (.int .u32) (.tmp 17))⟩,
          ⟨(some 19), none, .plain (.bin .xor (.tmp 13) (.tmp 18))⟩,
          ⟨(some 3), none, .plain (.mov (.tmp 19))⟩])
       (.both (.seq [⟨(some 5), none, .plain (.mov (.const (.int .i64 0)))⟩])
       (.block 2 (.loop (.both (.both (.seq [⟨(some 20), none, .plain (.mov (.tmp 5))⟩,
             ⟨(some 21), none, .plain (.bin .lss (.tmp 20) (.const (.int .i64 8)))⟩])
          (.cond (.tmp 21)
           .skip
           (.exit 2)))
         (.both (.block 3 (.both (.seq [⟨(some 24), none, .plain (.mov (.tmp 3))⟩,
              ⟨(some 25), none, .plain (.bin .rem (.tmp 24) (.const (.int .u32 2)))⟩,
              ⟨(some 6), none, .plain (.mov (.tmp 25))⟩])
           (.both (.seq [⟨(some 26), none, .plain (.mov (.tmp 3))⟩,
              ⟨(some 27), none, .plain (.bin .quo (.tmp 26) (.const (.int .u32 2)))⟩,
              ⟨(some 3), none, .plain (.mov (.tmp 27))⟩])
           (.both (.seq [⟨(some 28), none, .plain (.mov (.tmp 6))⟩,
              ⟨(some 29), none, .plain (.bin .eql (.tmp 28) (.const (.int .u32 1)))⟩])
           (.cond (.tmp 29)
            (.seq [⟨(some 30), none, .plain (.mov (.tmp 3))⟩,
              ⟨(some 31), none, .plain (.bin .xor (.tmp 30) (.const (.int .u32 3988292384)))⟩,
              ⟨(some 3), none, .plain (.mov (.tmp 31))⟩])
            .skip)))))
         (.seq [⟨(some 22), none, .plain (.mov (.tmp 5))⟩,
           ⟨(some 23), none, .plain (.bin .add (.tmp 22) (.const (.int .i64 1)))⟩,
           ⟨(some 5), none, .plain (.mov (.tmp 23))⟩]))))))))
     (.seq [⟨(some 11), none, .plain (.mov (.tmp 4))⟩,
       ⟨(some 12), none, .plain (.bin .add (.tmp 11) (.const (.int .i64 1)))⟩,
       ⟨(some 4), none, .plain (.mov (.tmp 12))⟩]))))))
  (.both (.seq [⟨(some 32), none, .plain (.mov (.tmp 3))⟩,
     ⟨(some 33), none, .plain (.bin .sub (.const (.int .u32 4294967295)) (.tmp 32))⟩,
     ⟨(some 2), none, .plain (.mov (.tmp 33))⟩])
  .ret))))⟩
def StepI (x : Nat) (j : Nat) (T : Tr Value) (h' : AHeap) (h : AHeap) : Prop := ∃ i : Nat, j = 8 - i ∧ i ≤ 8 ∧ T.get 0 = some (.int .u32 (crcI i x : Nat)) ∧ T.get 9 = some (.int .i64 i) ∧ h' = h
theorem step_go {tab : FuncId → Option AEntry} {L d : Nat} {f : FuncId} (ht : tab f = some (.code stepA)) (s b : Nat) (h : AHeap) (hs : s < 4294967296) (hb : b < 256) :
    (⟨tab, L + 100, d + 1, noRound⟩ : Env).go f [.int .u32 s, .int .u8 b] h = some (.int .u32 (crcS s b : Nat), h) := by
  refine go_of ht rfl ?_
  unfold stepA
  have wb : wrapF .u32 (b : Int) = b := wrapF_u32 (by omega) (by omega)
  have x0 := xorF hs (b := b) (by omega)
  simp [wb, x0]
  refine W_loop (fun j T h' => StepI (s ^^^ b) j T h' h) 8 (by show 8 < L + 100; omega) ⟨0, rfl, by omega, by simp [crcI], by simp, rfl⟩ ?_
  rintro j T h' ⟨i, rfl, hi, t0, t9, hh⟩
  have hh' := hh.symm
  subst hh'
  have lt := crcI_lt i (xor_lt hs (b := b) (by omega))
  by_cases hi8 : i < 8
  · have hi' : (i : Int) < 8 := by omega
    have a1 := and1 lt
    by_cases ho : crcI i (s ^^^ b) % 2 = 1
    · have x1 := xorF (a := crcI i (s ^^^ b) / 2) (b := 3988292384) (by omega) (by omega)
      have e1 : crcI (i + 1) (s ^^^ b) = (crcI i (s ^^^ b) / 2) ^^^ 3988292384 := by rw [crcI_succ]; unfold crcT; rw [if_pos ho]
      rw [ho] at a1
      have e2 : ((crcI i (s ^^^ b) : Nat) : Int) / 2 = ((crcI i (s ^^^ b) / 2 : Nat) : Int) := by omega
      have x1' : bitsF .xor .u32 (((crcI i (s ^^^ b) : Nat) : Int) / 2) 3988292384 = some (((crcI i (s ^^^ b) / 2) ^^^ 3988292384 : Nat) : Int) := by rw [e2]; exact x1
      simp (disch := omega) [t0, t9, hi', a1, shrF_div, wrapF_u32, wrapF_i64, x1']
      exact ⟨8 - (i + 1), by omega, i + 1, rfl, by omega, by rw [e1]; simp, by simp, rfl⟩
    · have ho' : crcI i (s ^^^ b) % 2 = 0 := by omega
      have e1 : crcI (i + 1) (s ^^^ b) = crcI i (s ^^^ b) / 2 := by rw [crcI_succ]; unfold crcT; rw [if_neg ho]
      rw [ho'] at a1
      simp (disch := omega) [t0, t9, hi', a1, shrF_div, wrapF_u32, wrapF_i64]
      exact ⟨8 - (i + 1), by omega, i + 1, rfl, by omega, by rw [e1]; simp, by simp, rfl⟩
  · have : i = 8 := by omega
    subst this
    simp [t0, t9, crcS]
/-- Along the bytes. -/
def FastO (v : Value) (l : List Int) (h : AHeap) (j : Nat) (T : Tr Value) (h' : AHeap) : Prop := ∃ i : Nat, j = l.length - i ∧ i ≤ l.length ∧ T.get 0 = some v ∧ T.get 3 = some (.int .u32 (crcF 4294967295 (l.take i) : Nat)) ∧ T.get 4 = some (.int .i64 i) ∧ h' = h
def FastN (v : Value) (i x : Nat) (h : AHeap) (j : Nat) (T : Tr Value) (h' : AHeap) : Prop := ∃ k : Nat, j = 8 - k ∧ k ≤ 8 ∧ T.get 0 = some v ∧ T.get 3 = some (.int .u32 (crcI k x : Nat)) ∧ T.get 4 = some (.int .i64 i) ∧ T.get 5 = some (.int .i64 k) ∧ h' = h
theorem crcF_lt : ∀ (l : List Int) {s : Nat}, s < 4294967296 → Byt l → crcF s l < 4294967296
  | [], s, h, _ => h
  | x :: l, s, h, hb => by
    have := hb x (by simp)
    exact crcF_lt l (crcS_lt h (by omega)) (fun y hy => hb y (by simp [hy]))
theorem crcF_take (s : Nat) (l : List Int) (i : Nat) (hi : i < l.length) : crcF s (l.take (i + 1)) = crcS (crcF s (l.take i)) (rdI l i).toNat := by
  unfold crcF rdI
  rw [List.take_add_one, List.foldl_append, List.getElem?_eq_getElem hi, Int.toNat_natCast, List.getD_eq_getElem?_getD, List.getElem?_eq_getElem hi]
  rfl
set_option maxHeartbeats 1000000 in
theorem fast_go {tab : FuncId → Option AEntry} {L d : Nat} {f : FuncId} (ht : tab f = some (.code fastA)) (v : Value) (l : List Int) (h : AHeap) (hv : SlB h v l) (hb : Byt l) (hl : l.length < L) (hl2 : l.length < 1000000000) :
    (⟨tab, L + 100, d + 1, noRound⟩ : Env).go f [v] h = some (.int .u32 (4294967295 - (crcF 4294967295 l : Nat)), h) := by
  refine go_of ht rfl ?_
  unfold fastA
  obtain ⟨xv, qv, ev⟩ := hv.val
  simp
  refine W_loop (FastO v l h) l.length (by show l.length < L + 100; omega) ⟨0, by omega, by omega, by simp, by simp [crcF], by simp, rfl⟩ ?_
  rintro j T h' ⟨i, rfl, hi, t0, t3, t4, hh⟩
  have hh' := hh.symm
  subst hh'
  have lt := crcF_lt (l.take i) (s := 4294967295) (by omega) (fun y hy => hb y (List.mem_of_mem_take hy))
  by_cases hlt : i < l.length
  · obtain ⟨m, off, cap, ev2, hm, hr⟩ := hv.row (by omega)
    have rd := hr.rd (i := (i : Int)) (by omega) (by omega)
    rw [Int.toNat_natCast] at rd
    have bd := hb.rd (i : Int)
    obtain ⟨b, hb2⟩ := Int.eq_ofNat_of_zero_le bd.1
    rw [hb2] at rd bd
    have wb : wrapF .u32 (b : Int) = b := wrapF_u32 (by omega) (by omega)
    have x0 := xorF lt (b := b) (by omega)
    have ct := crcF_take 4294967295 l i hlt
    rw [hb2, Int.toNat_natCast] at ct
    generalize crcF 4294967295 (l.take i) = y at t3 lt x0 ct
    rw [ev2] at t0
    simp (disch := omega) [t0, t3, t4, hlt, aIndexSl_ok, rd, wb, x0]
    refine W_loop (FastN v i (y ^^^ b) h) 8 (by show 8 < L + 100; omega) ⟨0, rfl, by omega, by simp [t0, ev2], by simp [crcI], by simp [t4], by simp, rfl⟩ ?_
    rintro j T2 h2 ⟨k, rfl, hk, u0, u3, u4, u5, hh⟩
    have hh' := hh.symm
    subst hh'
    have lt2 := crcI_lt k (xor_lt lt (b := b) (by omega))
    by_cases hk8 : k < 8
    · have hk' : (k : Int) < 8 := by omega
      have td : ((crcI k (y ^^^ b) : Nat) : Int).tdiv 2 = ((crcI k (y ^^^ b) : Nat) : Int) / 2 := Int.tdiv_eq_ediv_of_nonneg (by omega)
      by_cases ho : crcI k (y ^^^ b) % 2 = 1
      · have x1 := xorF (a := crcI k (y ^^^ b) / 2) (b := 3988292384) (by omega) (by omega)
        have e2 : ((crcI k (y ^^^ b) : Nat) : Int) / 2 = ((crcI k (y ^^^ b) / 2 : Nat) : Int) := by omega
        have x1' : bitsF .xor .u32 (((crcI k (y ^^^ b) : Nat) : Int) / 2) 3988292384 = some (((crcI k (y ^^^ b) / 2) ^^^ 3988292384 : Nat) : Int) := by rw [e2]; exact x1
        have e1 : crcI (k + 1) (y ^^^ b) = (crcI k (y ^^^ b) / 2) ^^^ 3988292384 := by rw [crcI_succ]; unfold crcT; rw [if_pos ho]
        have tm : ((crcI k (y ^^^ b) : Nat) : Int).tmod 2 = 1 := by rw [Int.tmod_eq_emod_of_nonneg (by omega)]; omega
        simp (disch := omega) [u0, u3, u4, u5, hk', tm, td, wrapF_u32, wrapF_i64, x1']
        exact ⟨8 - (k + 1), by omega, k + 1, rfl, by omega, by simp [u0], by rw [e1]; simp, by simp [u4], by simp, rfl⟩
      · have e1 : crcI (k + 1) (y ^^^ b) = crcI k (y ^^^ b) / 2 := by rw [crcI_succ]; unfold crcT; rw [if_neg ho]
        have tm : ((crcI k (y ^^^ b) : Nat) : Int).tmod 2 = 0 := by rw [Int.tmod_eq_emod_of_nonneg (by omega)]; omega
        simp (disch := omega) [u0, u3, u4, u5, hk', tm, td, wrapF_u32, wrapF_i64]
        exact ⟨8 - (k + 1), by omega, k + 1, rfl, by omega, by simp [u0], by rw [e1]; simp, by simp [u4], by simp, rfl⟩
    · have : k = 8 := by omega
      subst this
      simp (disch := omega) [u0, u3, u4, u5, wrapF_i64]
      exact ⟨l.length - (i + 1), by omega, i + 1, rfl, by omega, by simp [u0], by rw [ct]; simp [u3, crcS], by simp, rfl⟩
  · have hie : i = l.length := by omega
    subst hie
    rw [List.take_length] at t3 lt
    rw [ev] at t0
    simp (disch := omega) [t0, t3, t4, wrapF_u32]
/-- A run over a sound table says what a call does. -/
theorem go_runs {P : Program} {tab : FuncId → Option AEntry} (hm : P.follows .mixedOrders = true) (ht : TabSound P tab) {L D : Nat} {f : FuncId} {args : List Value} {h h' : AHeap} {r : Value}
    (hr : (⟨tab, L, D, noRound⟩ : Env).go f args h = some (r, h')) : Runs P f args h r h' := by
  have hs := ((callFR_sound (pk := true) ht (fun call hcs N => draw_sound hm hcs N) L D) noRound f args h r h' hr).2
  intro N0 w0 σ w cargs hI hv
  exact hs N0 w0 σ w cargs RoundOk.no hI hv
/-- The same, number by number. -/
def crcIq : Nat → Nat → (Nat → R) → R
  | 0, s, k => k s
  | n + 1, s, k => forceN (crcT s) fun s => crcIq n s k
theorem crcIq_eq : ∀ n s k, crcIq n s k = k (crcI n s)
  | 0, s, k => rfl
  | n + 1, s, k => by unfold crcIq; rw [forceN_eq, crcIq_eq n]; rfl
def crcFq : List Int → Nat → (Nat → R) → R
  | [], s, k => k s
  | x :: l, s, k => forceN (s ^^^ x.toNat) fun s => crcIq 8 s fun s => crcFq l s k
theorem crcFq_eq : ∀ l s k, crcFq l s k = k (crcF s l)
  | [], s, k => rfl
  | x :: l, s, k => by unfold crcFq; rw [forceN_eq, crcIq_eq, crcFq_eq l]; rfl
def qStep (args : List Value) (h : AHeap) : Option (Value × AHeap) :=
  match args with
  | [.int .u32 s, .int .u8 c] => if 0 ≤ s ∧ s < 4294967296 ∧ 0 ≤ c ∧ c < 256 then forceN (s.toNat ^^^ c.toNat) fun x => crcIq 8 x fun n => some (.int .u32 n, h) else none
  | _ => none
theorem qStep_runs {P : Program} {tab : FuncId → Option AEntry} (hm : P.follows .mixedOrders = true) (ht : TabSound P tab) {f : FuncId} (hf : tab f = some (.code stepA)) : ∀ args h r h', qStep args h = some (r, h') → Runs P f args h r h' := by
  intro args h r h' hq
  unfold qStep at hq
  split at hq
  · rename_i s c
    split at hq
    · rename_i hc
      rw [forceN_eq, crcIq_eq] at hq
      simp only [Option.some.injEq, Prod.mk.injEq] at hq
      obtain ⟨rfl, rfl⟩ := hq
      have := step_go (L := 0) (d := 0) hf s.toNat c.toNat h (by omega) (by omega)
      rw [Int.toNat_of_nonneg hc.1, Int.toNat_of_nonneg hc.2.2.1] at this
      exact go_runs hm ht this
    · cases hq
  · cases hq
def toInts : List Value → Option (List Int)
  | [] => some []
  | .int .u8 b :: r => if 0 ≤ b ∧ b < 256 then (match toInts r with | some l => some (b :: l) | none => none) else none
  | _ => none
theorem toInts_eq : ∀ (l : List Value) (r : List Int), toInts l = some r → l = byV r ∧ Byt r
  | [], r, h => by simp only [toInts, Option.some.injEq] at h; subst h; exact ⟨rfl, fun x hx => by cases hx⟩
  | v :: l, r, h => by
    unfold toInts at h
    split at h
    · rename_i e; cases e
    · rename_i b l' e
      injection e with e1 e2
      subst e1; subst e2
      split at h
      · rename_i hb
        split at h
        · rename_i r' hr
          injection h with h; subst h
          obtain ⟨h1, h2⟩ := toInts_eq l r' hr
          exact ⟨by rw [h1]; rfl, fun x hx => by
            rcases List.mem_cons.1 hx with rfl | hx
            · exact hb
            · exact h2 x hx⟩
        · cases h
      · cases h
    · cases h
def bytesOf (v : Value) (h : AHeap) : Option (List Int) :=
  match v with
  | .slice none 0 0 => some []
  | .slice (some a) len cap => if a.spot = none ∧ len ≤ cap ∧ a.block < h.next ∧ len < 1000000 then (match h.get a.block with
    | .row _ gr c => if (gr = 0 ∨ gr = 1) ∧ a.off + len ≤ c.size then toInts (c.ext a.off len).toList else none
    | _ => none) else none
  | _ => none
theorem bytesOf_eq {v : Value} {h : AHeap} {l : List Int} (hq : bytesOf v h = some l) : SlB h v l ∧ Byt l ∧ l.length < 1000000 := by
  unfold bytesOf at hq
  split at hq
  · injection hq with hq; subst hq
    exact ⟨SlAt.nil h 1, (fun x hx => by cases hx), by decide⟩
  · rename_i a len cap
    split at hq
    · rename_i hc
      obtain ⟨h1, h2, h3, h4⟩ := hc
      split at hq
      · rename_i ro gr c hg
        split at hq
        · rename_i hc2
          obtain ⟨e1, e2⟩ := toInts_eq _ _ hq
          obtain ⟨b, o, sp⟩ := a
          simp only at h1 h3 hg hc2 e1
          subst h1
          have hl : l.length = len := by
            have := congrArg List.length e1
            rw [byV_length, Cells.length_toList, Cells.size_ext hc2.2] at this
            exact this.symm
          rw [Cells.toList_ext hc2.2] at e1
          subst hl
          exact ⟨⟨by simp, .inr ⟨b, o, cap, ro, gr, c, rfl, h2, h3, hg, hc2.1, by omega, by rw [Nat.mul_one]; exact e1⟩⟩, e2, h4⟩
        · cases hq
      · cases hq
    · cases hq
  · cases hq
def qFast (args : List Value) (h : AHeap) : Option (Value × AHeap) :=
  match args with
  | [v] => match bytesOf v h with
    | some l => crcFq l 4294967295 fun n => forceN (4294967295 - n) fun n => some (.int .u32 n, h)
    | none => none
  | _ => none
theorem qFast_runs {P : Program} {tab : FuncId → Option AEntry} (hm : P.follows .mixedOrders = true) (ht : TabSound P tab) {f : FuncId} (hf : tab f = some (.code fastA)) : ∀ args h r h', qFast args h = some (r, h') → Runs P f args h r h' := by
  intro args h r h' hq
  unfold qFast at hq
  split at hq
  · rename_i v
    split at hq
    · rename_i l hl
      rw [crcFq_eq, forceN_eq] at hq
      simp only [Option.some.injEq, Prod.mk.injEq] at hq
      obtain ⟨rfl, rfl⟩ := hq
      obtain ⟨h1, h2, h3⟩ := bytesOf_eq hl
      have lt := crcF_lt l (s := 4294967295) (by omega) h2
      have := fast_go (L := 1000000) (d := 0) hf v l h h1 h2 h3 (by omega)
      rw [show (4294967295 : Int) - (crcF 4294967295 l : Nat) = ((4294967295 - crcF 4294967295 l : Nat) : Int) by omega] at this
      exact go_runs hm ht this
    · cases hq
  · cases hq
end
end Go.AM
