import Derived.Test.YtjhoojdbjmneaaaPureCrcGoes
import Derived.Test.YtjhoojdbjmneaaaCrcSumMath
import Derived.Test.YtjhoojdbjmneaaaPCrcTurnsy
/-! Bits that are turned within 32 turn the sum, in plain numbers. -/
namespace Go.Proofs.Ytjhoojdbjmneaaa.CrcMath
open Go.RowKit Go.Proofs.Ytjhoojdbjmneaaa.PCrcOvers Go.Proofs.YtjhoojdbjmneaaaW.PrintWords Go.Proofs.YtjhoojdbjmneaaaW.PrintLast
set_option linter.unusedVariables false
set_option linter.unusedSimpArgs false
theorem low_val : ∀ (w : List Nat), Bits w → low w.length (val w) = w
  | [], _ => rfl
  | b :: r, h => by
    have hb := h b (by simp)
    show (b + 2 * val r) % 2 :: low r.length ((b + 2 * val r) / 2) = b :: r
    rw [show (b + 2 * val r) % 2 = b by omega, show (b + 2 * val r) / 2 = val r by omega, low_val r (fun x hx => h x (by simp [hx]))]
theorem feedb_row (w : List Nat) (s : Nat) (h : Bits w) : feedb s w = iter w.length (s ^^^ val w) := by
  rw [iter_feedb _ s (val w) (val_lt w h), low_val w h]
theorem feedb_split : ∀ (r : List Nat) (x y : Nat), feedb (x ^^^ y) r = feedb x r ^^^ iter r.length y
  | [], x, y => rfl
  | b :: r, x, y => by
    show feedb (T ((x ^^^ y) ^^^ b)) r = feedb (T (x ^^^ b)) r ^^^ iter r.length (T y)
    rw [xrc, T_xor, feedb_split r]
/-- A row of bits, some of 32 in a row turned: another end. -/
theorem feedb_turn (s : Nat) (pre w post : List Nat) (p : Nat) (hw : w.length = 32) (hb : Bits w) (hp : p < 4294967296) (hp0 : p ≠ 0) :
    feedb s (pre ++ flips w p ++ post) ≠ feedb s (pre ++ w ++ post) := by
  intro h
  rw [feedb_append, feedb_append, feedb_append, feedb_append, feedb_row _ _ (flips_bits w p), feedb_row w _ hb, flips_length, hw,
    val_flips w p hb (by rw [hw]; exact hp), ← Nat.xor_assoc, iter_xor, feedb_split] at h
  have h2 : iter post.length (iter 32 p) = 0 := by
    have := congrArg (fun z => feedb (iter 32 (feedb s pre ^^^ val w)) post ^^^ z) h
    simp only [← Nat.xor_assoc, Nat.xor_self, Nat.zero_xor] at this
    exact this
  exact hp0 (iter_inj0 32 hp (iter_inj0 _ (iter_lt 32 hp) h2))
theorem low_turn : ∀ (m n x : Nat) (P Q : List Nat) (b : Nat), low n x = P ++ b :: Q → P.length = m → low n (x ^^^ 2 ^ m) = P ++ (1 - b) :: Q
  | m, 0, x, P, Q, b, h, hP => by simp [low] at h
  | 0, n + 1, x, P, Q, b, h, hP => by
    have : P = [] := List.length_eq_zero_iff.1 hP
    subst this
    simp only [low, List.nil_append, List.cons.injEq] at h
    have h1 := xmod x 1
    have h2 : (x ^^^ 1) / 2 = x / 2 ^^^ 1 / 2 := Nat.xor_div_two
    rw [show 1 / 2 = 0 from rfl, Nat.xor_zero] at h2
    show (x ^^^ 1) % 2 :: low n ((x ^^^ 1) / 2) = (1 - b) :: Q
    rw [h2, h.2]
    congr 1
    omega
  | m + 1, n + 1, x, [], Q, b, h, hP => by simp at hP
  | m + 1, n + 1, x, p :: P, Q, b, h, hP => by
    simp only [low, List.cons_append, List.cons.injEq] at h
    have h1 := xmod x (2 ^ (m + 1))
    have h2 : (x ^^^ 2 ^ (m + 1)) / 2 = x / 2 ^^^ 2 ^ (m + 1) / 2 := Nat.xor_div_two
    have e1 : 2 ^ (m + 1) / 2 = 2 ^ m := by rw [Nat.pow_succ]; omega
    have e2 : 2 ^ (m + 1) % 2 = 0 := by rw [Nat.pow_succ]; omega
    rw [e1] at h2
    show (x ^^^ 2 ^ (m + 1)) % 2 :: low n ((x ^^^ 2 ^ (m + 1)) / 2) = p :: (P ++ (1 - b) :: Q)
    rw [h2, low_turn m n (x / 2) P Q b h.2 (by simpa using hP)]
    congr 1
    omega
/-- A byte's bit turned: that bit of the row. -/
theorem bitsOf_turn : ∀ (c : List Int) (j m : Nat) (x : Int) (P Q : List Nat) (b : Nat), c[j]? = some x → m < 8 → bitsOf c = P ++ b :: Q → P.length = 8 * j + m →
    bitsOf (c.set j ((x.toNat ^^^ 2 ^ m : Nat) : Int)) = P ++ (1 - b) :: Q
  | [], j, m, x, P, Q, b, hx, hm, h, hP => by simp at hx
  | y :: c, 0, m, x, P, Q, b, hx, hm, h, hP => by
    simp at hx; subst hx
    have hl := low_length 8 y.toNat
    -- the bit lies in the first byte
    have hsp : low 8 y.toNat = P ++ b :: (low 8 y.toNat).drop (m + 1) := by
      have h1 : (low 8 y.toNat ++ bitsOf c).take (m + 1) = (low 8 y.toNat).take (m + 1) := by rw [List.take_append_of_le_length (by omega)]
      have h2 : (P ++ b :: Q).take (m + 1) = P ++ [b] := by
        rw [show P ++ b :: Q = (P ++ [b]) ++ Q by simp, List.take_left' (by simp; omega)]
      have h3 : (low 8 y.toNat).take (m + 1) = P ++ [b] := by rw [← h1, ← h2]; congr 1
      rw [show P ++ b :: (low 8 y.toNat).drop (m + 1) = (P ++ [b]) ++ (low 8 y.toNat).drop (m + 1) by simp, ← h3, List.take_append_drop]
    have hQ : (low 8 y.toNat).drop (m + 1) ++ bitsOf c = Q := by
      have h1 : (low 8 y.toNat ++ bitsOf c) = P ++ b :: ((low 8 y.toNat).drop (m + 1) ++ bitsOf c) := (congrArg (· ++ bitsOf c) hsp).trans (by simp)
      have h2 : P ++ b :: ((low 8 y.toNat).drop (m + 1) ++ bitsOf c) = P ++ b :: Q := h1.symm.trans h
      simpa using h2
    have ht := low_turn m 8 y.toNat P _ b hsp (by simpa using hP)
    show low 8 (((y.toNat ^^^ 2 ^ m : Nat) : Int)).toNat ++ bitsOf c = _
    rw [Int.toNat_natCast, ht, ← hQ]; simp
  | y :: c, j + 1, m, x, P, Q, b, hx, hm, h, hP => by
    have hl := low_length 8 y.toNat
    obtain ⟨P', hP'⟩ : ∃ P', P = low 8 y.toNat ++ P' := by
      refine ⟨P.drop 8, ?_⟩
      have h1 : (low 8 y.toNat ++ bitsOf c).take 8 = low 8 y.toNat := List.take_left' hl
      have h2 : (P ++ b :: Q).take 8 = P.take 8 := by rw [List.take_append_of_le_length (by omega)]
      have h3 : P.take 8 = low 8 y.toNat := by rw [← h1, ← h2]; congr 1; exact h.symm
      rw [← h3, List.take_append_drop]
    subst hP'
    have h' : bitsOf c = P' ++ b :: Q := by
      have : low 8 y.toNat ++ bitsOf c = low 8 y.toNat ++ (P' ++ b :: Q) := by
        rw [← List.append_assoc]; exact h
      exact List.append_cancel_left this
    have := bitsOf_turn c j m x P' Q b (by simpa using hx) hm h' (by simp [hl] at hP; omega)
    show low 8 y.toNat ++ bitsOf (c.set j _) = _
    rw [this]; simp
theorem shl8 (m : Nat) (hm : m < 8) : shl .u8 1 (m : Int) = ((2 ^ m : Nat) : Int) := by
  have : m = 0 ∨ m = 1 ∨ m = 2 ∨ m = 3 ∨ m = 4 ∨ m = 5 ∨ m = 6 ∨ m = 7 := by omega
  rcases this with rfl | rfl | rfl | rfl | rfl | rfl | rfl | rfl <;> decide
theorem shr32 (p i : Nat) (hi : i < 32) : shr .u32 (p : Int) (i : Int) = ((p / 2 ^ i : Nat) : Int) := by
  show (p : Int) / 2 ^ min (i : Int).toNat 32 = _
  rw [Int.toNat_natCast, Nat.min_eq_left (by omega)]
  simp
theorem rd_get (c : List Int) (j : Nat) (hj : j < c.length) : rd c (j : Int) = c[j] := by simp [rd, List.getD, List.getElem?_eq_getElem hj]
theorem bit_on (b q : Nat) (hb : b < 2) (ho : ((q % 2 : Nat) : Int) = 1) : (b + q % 2) % 2 = 1 - b := by omega
theorem bit_off (b q : Nat) (hb : b < 2) (ho : ¬ ((q % 2 : Nat) : Int) = 1) : (b + q % 2) % 2 = b := by omega
theorem pos_facts (a i len : Nat) (h : a + i < 8 * len) (hl : len ≤ 400) (hi : i < 32) :
    wrap64 ((a : Int) + (i : Int)) = ((a + i : Nat) : Int) ∧ wrap64 (Int.tdiv ((a + i : Nat) : Int) 8) = (((a + i) / 8 : Nat) : Int) ∧ Int.tmod ((a + i : Nat) : Int) 8 = (((a + i) % 8 : Nat) : Int) ∧
    wrap64 ((i : Int) + 1) = ((i + 1 : Nat) : Int) ∧ (a + i) / 8 < len ∧ (((a + i) / 8 : Nat) : Int) < (len : Int) ∧ 8 * ((a + i) / 8) + (a + i) % 8 = a + i := by
  refine ⟨?_, ?_, ?_, ?_, ?_, ?_, ?_⟩
  · rw [wrap_id _ (by omega) (by omega)]; omega
  · rw [Int.tdiv_eq_ediv_of_nonneg (by omega), wrap_id _ (by omega) (by omega)]; omega
  · rw [Int.tmod_eq_emod_of_nonneg (by omega)]; omega
  · rw [wrap_id _ (by omega) (by omega)]; omega
  · omega
  · omega
  · omega
theorem turns_l0 (l : List Int) (hl : Bytes l) (hm : l.length ≤ 400) (at_ p : Nat) (hp : p < 4294967296) (hat : at_ + 32 ≤ 8 * l.length) (Tt : List Nat)
    (hne : feedb 4294967295 Tt ≠ feedb 4294967295 (bitsOf l)) :
    ∀ (n : Nat), n ≤ 32 → ∀ (c : List Int) (P w post : List Nat), Bytes c → c.length = l.length → bitsOf c = P ++ w ++ post → P.length = at_ + (32 - n) → w.length = n → Bits w →
    P ++ flips w (p / 2 ^ (32 - n)) ++ post = Tt → ∀ (k : Nat), n + 1000 ≤ k →
    fettlelaw02_CrcTurns.l0 k l (at_ : Int) (p : Int) c ((32 - n : Nat) : Int) = some true
  | 0, hn, c, P, w, post, hc, hcl, hb, hP, hw, hbw, hT, k + 1, hk => by
    have : w = [] := List.length_eq_zero_iff.1 hw
    subst this
    have hTc : bitsOf c = Tt := by rw [hb, ← hT]; rfl
    have S := fun (x : List Int) (hx : Bytes x) (hl : x.length ≤ 400) => Sum_f k [x] 400 (by omega) (by simp) (fun y hy => by
      simp at hy; subst hy; exact ⟨hx, hl⟩) (by simp; omega)
    rw [fettlelaw02_CrcTurns.l0, if_neg (by omega), S c hc (by omega), S l hl hm]
    simp only [Option.bind_some, List.flatten_cons, List.flatten_nil, List.append_nil]
    congr 1
    rw [bne_iff_ne]
    intro h
    have h2 : csum c = csum l := by exact_mod_cast h
    unfold csum at h2
    have h3 : feed 4294967295 c = feed 4294967295 l := by
      have e1 := compl_compl _ (feed_lt c hc (show 4294967295 < 4294967296 by decide))
      have e2 := compl_compl _ (feed_lt l hl (show 4294967295 < 4294967296 by decide))
      rw [← e1, ← e2, h2]
    rw [feed_bits c _ hc, feed_bits l _ hl, hTc] at h3
    exact hne h3
  | n + 1, hn, c, P, b :: w, post, hc, hcl, hb, hP, hw, hbw, hT, k + 1, hk => by
    have hb1 : b < 2 := hbw b (by simp)
    simp only [List.length_cons, Nat.add_right_cancel_iff] at hw
    obtain ⟨i, hi⟩ : ∃ i, i = 32 - (n + 1) := ⟨_, rfl⟩
    have hi1 : 32 - n = i + 1 := by omega
    rw [← hi] at hP hT ⊢
    obtain ⟨q, hq⟩ : ∃ q, q = p / 2 ^ i := ⟨_, rfl⟩
    have hq1 : p / 2 ^ (i + 1) = q / 2 := by rw [hq, Nat.div_div_eq_div_mul, ← Nat.pow_succ]
    have hqlt : q < 4294967296 := by rw [hq]; exact Nat.lt_of_le_of_lt (Nat.div_le_self _ _) hp
    rw [← hq] at hT
    simp only [flips] at hT
    have hi32 : i < 32 := by omega
    obtain ⟨e1, e2, e3, e4, hj, hjI, hpos⟩ := pos_facts at_ i c.length (by omega) (by omega) hi32
    have hPi : P.length = 8 * ((at_ + i) / 8) + (at_ + i) % 8 := by rw [hpos, hP]
    have hP1 : ∀ b' : Nat, (P ++ [b']).length = at_ + (i + 1) := fun b' => by simp [hP]; omega
    have hkk : n + 1000 ≤ k := by omega
    clear hk
    have hx := hc c[(at_ + i) / 8] (List.getElem_mem hj)
    have hrd : rd c (((at_ + i) / 8 : Nat) : Int) = c[(at_ + i) / 8] := rd_get c _ hj
    obtain ⟨x, hxe⟩ : ∃ x, x = c[(at_ + i) / 8] := ⟨_, rfl⟩
    rw [← hxe] at hx hrd
    have hxg : c[(at_ + i) / 8]? = some x := by rw [hxe]; exact List.getElem?_eq_getElem hj
    have hm8 : (at_ + i) % 8 < 8 := Nat.mod_lt _ (by decide)
    have hx8 : Go.bits .xor .u8 x ((2 ^ ((at_ + i) % 8) : Nat) : Int) = ((x.toNat ^^^ 2 ^ ((at_ + i) % 8) : Nat) : Int) := by
      obtain ⟨x', rfl⟩ := Int.eq_ofNat_of_zero_le hx.1
      exact xor8 x' _ (by omega) (Nat.pow_lt_pow_right (by decide) hm8)
    have ih := fun (c' : List Int) (b' : Nat) => turns_l0 l hl hm at_ p hp hat Tt hne n (by omega) c' (P ++ [b']) w post
    rw [hi1, hq1] at ih
    rw [fettlelaw02_CrcTurns.l0, if_pos (show (i : Int) < 32 by exact_mod_cast hi32), if_pos (Int.natCast_nonneg i), shr32 p i hi32, ← hq, and1N q hqlt, e1, e2, e3, e4]
    by_cases ho : ((q % 2 : Nat) : Int) = 1
    · rw [if_pos ho, if_pos (Int.natCast_nonneg _), if_pos hjI, if_pos (Int.natCast_nonneg _), hrd, shl8 _ hm8, hx8, Int.toNat_natCast]
      have ht := bitsOf_turn c ((at_ + i) / 8) ((at_ + i) % 8) x P (w ++ post) b hxg hm8 (by rw [hb]; simp) hPi
      refine ih _ (1 - b) ?_ (by simp [hcl]) (by rw [ht]; simp) (hP1 _) hw (fun z hz => hbw z (by simp [hz])) ?_ k hkk
      · intro y hy
        rcases List.mem_or_eq_of_mem_set hy with hy | hy
        · exact hc y hy
        · have : x.toNat ^^^ 2 ^ ((at_ + i) % 8) < 2 ^ 8 := Nat.xor_lt_two_pow (by omega) (Nat.pow_lt_pow_right (by decide) hm8)
          omega
      · rw [← hT, bit_on b q hb1 ho]; simp
    · rw [if_neg ho]
      refine ih c b hc hcl (by rw [hb]; simp) (hP1 _) hw (fun z hz => hbw z (by simp [hz])) ?_ k hkk
      rw [← hT, bit_off b q hb1 ho]; simp
/-- CrcTurns, plainly. -/
theorem turns_f (l : List Int) (a : Int) (p : Nat) (hl : Bytes l) (hp : p < 4294967296) : ∃ k, fettlelaw02_CrcTurns.f k l a (p : Int) = some true := by
  obtain ⟨k, hk⟩ : ∃ k : Nat, 100000 ≤ k := ⟨100000, Nat.le_refl _⟩
  refine ⟨k, ?_⟩
  have hK := known_f k (by omega)
  have jt : fettlelaw02_CrcTurns.j0 k l a (p : Int) true = some true := by
    obtain ⟨k, rfl⟩ : ∃ k', k = k' + 1 := ⟨k - 1, by omega⟩
    rw [fettlelaw02_CrcTurns.j0, if_pos rfl, known_f k (by omega), Option.bind_some]
  unfold fettlelaw02_CrcTurns.f
  rw [hK, Option.bind_some, if_pos rfl]
  by_cases c1 : (l.length : Int) < 5
  · rw [if_pos c1]; exact jt
  rw [if_neg c1]
  by_cases c2 : (l.length : Int) > 400
  · rw [if_pos c2]; exact jt
  rw [if_neg c2]
  by_cases c3 : p = 0
  · subst c3; exact jt
  have c3' : ((p : Int) == 0) = false := by rw [beq_eq_false_iff_ne]; omega
  rw [c3']
  obtain ⟨k, rfl⟩ : ∃ k', k = k' + 1 := ⟨k - 1, by omega⟩
  have hL5 : 5 ≤ l.length := by omega
  have hL4 : l.length ≤ 400 := by omega
  clear c1 c2 jt hK c3'
  have hw : wrap64 (wrap64 (8 * (l.length : Int)) - 32) = 8 * (l.length : Int) - 32 := by
    rw [wrap_id (8 * (l.length : Int)) (by omega) (by omega), wrap_id _ (by omega) (by omega)]
  have hu : IntKind.u64.wrap (8 * (l.length : Int) - 32) = 8 * (l.length : Int) - 32 := by rw [wrapU']; omega
  obtain ⟨j, hj1, hj2⟩ : ∃ j : Nat, wrap64 (Int.tmod (IntKind.u64.wrap a) (8 * (l.length : Int) - 32)) = (j : Int) ∧ j + 32 ≤ 8 * l.length := by
    have h0 : 0 ≤ IntKind.u64.wrap a := by rw [wrapU']; omega
    have hpz := Int.emod_nonneg (IntKind.u64.wrap a) (show 8 * (l.length : Int) - 32 ≠ 0 by omega)
    have hq := Int.emod_lt_of_pos (IntKind.u64.wrap a) (show (0 : Int) < 8 * (l.length : Int) - 32 by omega)
    refine ⟨(IntKind.u64.wrap a % (8 * (l.length : Int) - 32)).toNat, ?_, by omega⟩
    rw [Int.tmod_eq_emod_of_nonneg h0, wrap_id _ (by omega) (by omega)]; omega
  have hpart : fettleref01_Part.f l 0 (l.length : Int) = some l := by
    unfold fettleref01_Part.f
    have : wrap64 (0 + (l.length : Int)) = l.length := by rw [wrap_id _ (by omega) (by omega)]; omega
    rw [this, if_pos (by omega), if_pos (by omega), if_pos (by omega)]
    simp
    omega
  rw [fettlelaw02_CrcTurns.j0, if_neg (by decide), hw, hu, if_neg (by omega), hpart, Option.bind_some, hj1]
  have hbl := bitsOf_length l
  -- the row of bits in three
  obtain ⟨P, w, post, hsp, hP, hwl⟩ : ∃ P w post, bitsOf l = P ++ w ++ post ∧ P.length = j ∧ w.length = 32 := by
    refine ⟨(bitsOf l).take j, ((bitsOf l).drop j).take 32, ((bitsOf l).drop j).drop 32, ?_, ?_, ?_⟩
    · rw [List.append_assoc, List.take_append_drop, List.take_append_drop]
    · rw [List.length_take]; omega
    · rw [List.length_take, List.length_drop]; omega
  have hbw : Bits w := fun x hx => bitsOf_bits l x (by rw [hsp]; simp [hx])
  have hne : feedb 4294967295 (P ++ flips w p ++ post) ≠ feedb 4294967295 (bitsOf l) := by
    rw [hsp]; exact feedb_turn _ P w post p hwl hbw hp c3
  exact turns_l0 l hl hL4 j p hp hj2 _ hne 32 (by omega) l P w post hl rfl hsp (by omega) hwl hbw (by simp) k (by omega)
end Go.Proofs.Ytjhoojdbjmneaaa.CrcMath
