import Derived.Test.YtoehafeeoggpkaaAM30
set_option linter.unusedVariables false
set_option linter.unusedSimpArgs false
set_option linter.unnecessarySimpa false
/-! Part 31: slices in reasoning: cut, appended, compared, stored into. -/
namespace Go.AM
noncomputable section
open Go.RowKit

theorem Cells.toList_len (c : Cells) : c.toList.length = c.size := c.length_toList
theorem Cells.toList_ext {c : Cells} {o n : Nat} (h : o + n ≤ c.size) : (c.ext o n).toList = (c.toList.drop o).take n := by
  apply List.ext_getElem?
  intro i
  rw [Cells.get_toList, Cells.get_ext h]
  by_cases hi : i < n
  · rw [if_pos hi, List.getElem?_take, if_pos hi, List.getElem?_drop, Cells.get_toList]
  · rw [if_neg hi, List.getElem?_take, if_neg hi]
theorem Cells.toList_blit {c p : Cells} {o : Nat} (h : o + p.size ≤ c.size) : (c.blit o p).toList = c.toList.take o ++ p.toList ++ c.toList.drop (o + p.size) := by
  unfold Cells.blit
  rw [toList_app, toList_app, Cells.toList_ext (by omega), Cells.toList_ext (by omega)]
  congr 1
  rw [List.take_of_length_le]
  rw [List.length_drop, Cells.length_toList]
  omega

/-- A slice that reads n elements of es cells. -/
def SlAt (h : AHeap) (es : Nat) (v : Value) (l : List Value) (n : Nat) : Prop :=
  l.length = n * es ∧ ((v = .slice none 0 0 ∧ n = 0) ∨
    ∃ m off cap ro gr c, v = .slice (some ⟨m, off, none⟩) n cap ∧ n ≤ cap ∧ m < h.next ∧ h.get m = .row ro gr c ∧ (gr = 0 ∨ gr = es) ∧ off + n * es ≤ c.size ∧ (c.toList.drop off).take (n * es) = l)
theorem SlAt.nil (h : AHeap) (es : Nat) : SlAt h es (.slice none 0 0) [] 0 := ⟨by simp, .inl ⟨rfl, rfl⟩⟩
theorem SlAt.keep {N : Nat} {h h' : AHeap} {es : Nat} {v : Value} {l : List Value} {n : Nat} (a : SlAt h es v l n) (k : Keep N h h') (hN : h.next ≤ N) : SlAt h' es v l n := by
  refine ⟨a.1, ?_⟩
  rcases a.2 with h1 | ⟨m, off, cap, ro, gr, c, h1, h2, h3, h4, h5⟩
  · exact .inl h1
  · exact .inr ⟨m, off, cap, ro, gr, c, h1, h2, Nat.lt_of_lt_of_le h3 k.next, (k.get m (by omega)).trans h4, h5⟩
theorem SlAt.len {h : AHeap} {es : Nat} {v : Value} {l : List Value} {n : Nat} (a : SlAt h es v l n) : aLen .sl v h = some (.int .i64 n) := by
  rcases a.2 with ⟨rfl, rfl⟩ | ⟨m, off, cap, ro, gr, c, rfl, _⟩ <;> rfl
theorem SlAt.src {h : AHeap} {es : Nat} {v : Value} {l : List Value} {n : Nat} (a : SlAt h es v l n) : ∃ C : Cells, aSrc es v h = some (C, n) ∧ C.toList = l := by
  rcases a.2 with ⟨rfl, rfl⟩ | ⟨m, off, cap, ro, gr, c, rfl, h2, h3, h4, h5, h6, h7⟩
  · have := a.1
    simp at this
    exact ⟨.vals [], rfl, by rw [this]; rfl⟩
  · refine ⟨c.ext off (n * es), ?_, by rw [Cells.toList_ext h6]; exact h7⟩
    simp only [aSrc, h4]
    rw [if_pos h6]
/-- A part. -/
theorem SlAt.cut {h : AHeap} {es : Nat} {v : Value} {l : List Value} {n : Nat} (a : SlAt h es v l n) {lo hi : Option Value} {i j : Nat} (hlo : (lo = none ∧ i = 0) ∨ ∃ k, lo = some (.int k i)) (hhi : (hi = none ∧ j = n) ∨ ∃ k, hi = some (.int k j)) (hij : i ≤ j) (hj : j ≤ n) :
    ∃ v', aCut (.sl es) v lo hi none h = some v' ∧ SlAt h es v' ((l.drop (i * es)).take ((j - i) * es)) (j - i) := by
  have hll := a.1
  have hle1 : i * es ≤ j * es := Nat.mul_le_mul_right _ hij
  have hle2 : j * es ≤ n * es := Nat.mul_le_mul_right _ hj
  have hsub : (j - i) * es = j * es - i * es := Nat.sub_mul _ _ _
  have hlen : ((l.drop (i * es)).take ((j - i) * es)).length = (j - i) * es := by
    rw [List.length_take, List.length_drop, hsub]; omega
  have bnd : ∀ cap, n ≤ cap → aBounds n cap lo hi none = some (i, j, cap) := by
    intro cap hcap
    have b1 : ∀ (k : IntKind) (y : Nat), j ≤ y → aBound (.int k (j : Int)) y = some j := by intro k y hy; simp only [aBound]; rw [if_pos (by omega)]; rfl
    have b2 : ∀ (k : IntKind) (y : Nat), i ≤ y → aBound (.int k (i : Int)) y = some i := by intro k y hy; simp only [aBound]; rw [if_pos (by omega)]; rfl
    rcases hlo with ⟨rfl, rfl⟩ | ⟨k, rfl⟩ <;> rcases hhi with ⟨rfl, rfl⟩ | ⟨k', rfl⟩
    · rfl
    · simp only [aBounds, b1 k' cap (by omega)]
    · simp only [aBounds, b2 k j hij, Option.map_some]
    · simp only [aBounds, b1 k' cap (by omega), b2 k j hij, Option.map_some]
  rcases a.2 with ⟨rfl, rfl⟩ | ⟨m, off, cap, ro, gr, c, rfl, h2, h3, h4, h5, h6, h7⟩
  · have hj0 : j = 0 := by omega
    have hi0 : i = 0 := by omega
    subst hj0; subst hi0
    refine ⟨.slice none 0 0, ?_, by simpa using hlen, .inl ⟨rfl, rfl⟩⟩
    simp only [aCut, aCutSl, bnd 0 (Nat.le_refl _)]
  · have hcut : aCut (.sl es) (.slice (some ⟨m, off, none⟩) n cap) lo hi none h = some (.slice (some ⟨m, if cap = i ∧ gr = 0 then off else off + i * es, none⟩) (j - i) (cap - i)) := by
      simp only [aCut, aCutSl, h4, bnd cap h2]
      rw [if_pos ⟨by omega, h2, h5⟩]
    refine ⟨_, hcut, hlen, .inr ⟨m, _, cap - i, ro, gr, c, rfl, by omega, h3, h4, h5, ?_, ?_⟩⟩
    · split
      · rename_i hc
        have : j - i = 0 := by omega
        rw [this]; omega
      · omega
    · split
      · rename_i hc
        have : j - i = 0 := by omega
        rw [this]; simp
      · rw [← h7, List.drop_take, List.drop_drop, List.take_take]
        congr 1
        omega

/-- A slice of the function's own, from N on, as a whole; gr: es where it was grown, 0 where it was made. -/
def OwnS (N : Nat) (h : AHeap) (es : Nat) (v : Value) (n : Nat) (l : List Value) : Prop :=
  l.length = n * es ∧ ((n = 0 ∧ v = .slice none 0 0) ∨ (∃ m c gr, v = .slice (some ⟨m, 0, none⟩) n n ∧ N ≤ m ∧ m < h.next ∧ h.get m = .row false gr c ∧ (gr = es ∨ gr = 0) ∧ c.toList = l))
theorem OwnS.nil (N : Nat) (h : AHeap) (es : Nat) : OwnS N h es (.slice none 0 0) 0 [] := ⟨by simp, .inl ⟨rfl, rfl⟩⟩
theorem OwnS.keep {N M : Nat} {h h' : AHeap} {es : Nat} {v : Value} {n : Nat} {l : List Value} (a : OwnS N h es v n l) (k : Keep M h h') (hM : h.next ≤ M) : OwnS N h' es v n l := by
  refine ⟨a.1, ?_⟩
  rcases a.2 with h1 | ⟨m, c, gr, h1, h2, h3, h4, h5⟩
  · exact .inl h1
  · exact .inr ⟨m, c, gr, h1, h2, Nat.lt_of_lt_of_le h3 k.next, (k.get m (by omega)).trans h4, h5⟩
theorem OwnS.sl {N : Nat} {h : AHeap} {es : Nat} {v : Value} {n : Nat} {l : List Value} (a : OwnS N h es v n l) : SlAt h es v l n := by
  refine ⟨a.1, ?_⟩
  rcases a.2 with ⟨h1, h2⟩ | ⟨m, c, gr, h1, h2, h3, h4, h5, h6⟩
  · exact .inl ⟨h2, h1⟩
  · have hs : c.size = n * es := by rw [← Cells.length_toList, h6]; exact a.1
    refine .inr ⟨m, 0, n, false, gr, c, h1, Nat.le_refl _, h3, h4, h5.symm, by omega, ?_⟩
    rw [List.drop_zero, h6, List.take_of_length_le (by rw [a.1]; exact Nat.le_refl _)]
theorem OwnS.less {N M : Nat} {h : AHeap} {es : Nat} {v : Value} {n : Nat} {l : List Value} (a : OwnS N h es v n l) (hM : M ≤ N) : OwnS M h es v n l := by
  refine ⟨a.1, ?_⟩
  rcases a.2 with h1 | ⟨m, c, gr, h1, h2, h3⟩
  · exact .inl h1
  · exact .inr ⟨m, c, gr, h1, by omega, h3⟩
/-- One behind the other. -/
theorem OwnS.append {k : ElK} {h : AHeap} {N : Nat} {v x : Value} {n n2 : Nat} {l l2 : List Value} (a : OwnS N h k.es v n l) (b : SlAt h k.es x l2 n2) (hes : 0 < k.es) (hN : N ≤ h.next)
    (hb : (n + n2) * k.bytes ≤ 140737488355328) (hn : n + n2 ≤ 1099511627776) :
    ∃ v' h', aAppend k v x h = some (v', h') ∧ OwnS N h' k.es v' (n + n2) (l ++ l2) ∧ Keep N h h' := by
  obtain ⟨C, hsrc, hC⟩ := b.src
  have hl2 := b.1
  rcases a.2 with ⟨rfl, rfl⟩ | ⟨m0, c, gr, rfl, h1, h2, h3, h4, h5⟩
  · have hl : l = [] := by have := a.1; simp at this; exact this
    subst hl
    by_cases h0 : n2 = 0
    · subst h0
      have : l2 = [] := by simp at hl2; exact hl2
      subst this
      refine ⟨.slice none 0 0, h, ?_, OwnS.nil N h k.es, Keep.refl N h⟩
      simp only [aAppend, hsrc, if_true]
    · refine ⟨.slice (some ⟨h.next, 0, none⟩) n2 n2, h.new (.row false k.es C), ?_, ⟨by simp [hl2], .inr ⟨h.next, C, k.es, by simp, hN, by simp, by rw [AHeap.get_new, if_pos rfl], .inl rfl, by rw [hC]; rfl⟩⟩, (Keep.refl N h).new hN _⟩
      simp only [aAppend, hsrc]
      rw [if_neg h0, if_pos ⟨by simpa using hb, by omega, hes⟩]
  · have hll := a.1
    have hcs : c.size = n * k.es := by rw [← Cells.length_toList, h5]; exact hll
    by_cases h0 : n2 = 0
    · subst h0
      have : l2 = [] := by simp at hl2; exact hl2
      subst this
      refine ⟨.slice (some ⟨m0, 0, none⟩) n n, h, ?_, ?_, Keep.refl N h⟩
      · simp only [aAppend, hsrc, h3]
        rw [if_pos ⟨Nat.le_refl _, by omega, hb, hn, hes⟩]
        simp
      · rw [List.append_nil]; exact a
    · have hmul : (n + n2) * k.es = n * k.es + n2 * k.es := Nat.add_mul _ _ _
      have hex : ((c.ext 0 (n * k.es)).app C).toList = l ++ l2 := by
        rw [toList_app, Cells.toList_ext (by omega), List.drop_zero, h5, hC, List.take_of_length_le (by omega)]
      by_cases hg : gr = 0
      · refine ⟨.slice (some ⟨h.next, 0, none⟩) (n + n2) (n + n2), h.new (.row false k.es ((c.ext (0) (n * k.es)).app C)), ?_, ⟨by simp [hl2, hll, hmul], .inr ⟨h.next, _, k.es, rfl, hN, by simp, by rw [AHeap.get_new, if_pos rfl], .inl rfl, hex⟩⟩, (Keep.refl N h).new hN _⟩
        simp only [aAppend, hsrc, h3]
        rw [if_pos ⟨Nat.le_refl _, by omega, hb, hn, hes⟩, if_neg h0, if_pos hg, if_neg (by omega)]
      · have hg2 : gr = k.es := by rcases h4 with h | h; exact h; exact absurd h hg
        refine ⟨.slice (some ⟨h.next, 0, none⟩) (n + n2) (n + n2), (h.set m0 .dead).new (.row false k.es ((c.ext 0 (n * k.es)).app C)), ?_, ⟨by simp [hl2, hll, hmul], .inr ⟨h.next, _, k.es, rfl, hN, by simp, by rw [AHeap.get_new, if_pos (AHeap.next_set _ _ _).symm], .inl rfl, hex⟩⟩, ((Keep.refl N h).set h1 h2 _).new hN _⟩
        simp only [aAppend, hsrc, h3]
        rw [if_pos ⟨Nat.le_refl _, by omega, hb, hn, hes⟩, if_neg h0, if_neg hg, if_pos ⟨hg2, trivial⟩]

/-! ### bytes -/
/-- The bytes of a list, as values. -/
def byV (l : List Int) : List Value := l.map (Value.int .u8)
@[simp] theorem byV_length (l : List Int) : (byV l).length = l.length := by simp [byV]
theorem byV_append (a b : List Int) : byV (a ++ b) = byV a ++ byV b := by simp [byV]
theorem byV_take (l : List Int) (n : Nat) : (byV l).take n = byV (l.take n) := by simp [byV, List.map_take]
theorem byV_drop (l : List Int) (n : Nat) : (byV l).drop n = byV (l.drop n) := by simp [byV, List.map_drop]
/-- A slice of bytes. -/
def SlB (h : AHeap) (v : Value) (l : List Int) : Prop := SlAt h 1 v (byV l) l.length
theorem SlB.keep {N : Nat} {h h' : AHeap} {v : Value} {l : List Int} (a : SlB h v l) (k : Keep N h h') (hN : h.next ≤ N) : SlB h' v l := SlAt.keep a k hN
theorem SlB.row {h : AHeap} {v : Value} {l : List Int} (a : SlB h v l) (h0 : 0 < l.length) : ∃ m off cap, v = .slice (some ⟨m, off, none⟩) l.length cap ∧ m < h.next ∧ RowI h .u8 m off l := by
  rcases a.2 with ⟨_, h1⟩ | ⟨m, off, cap, ro, gr, c, h1, h2, h3, h4, h5, h6, h7⟩
  · omega
  · refine ⟨m, off, cap, h1, h3, ro, gr, c, h4, fun i hi => ?_⟩
    have : ((c.toList.drop off).take (l.length * 1))[i]? = (byV l)[i]? := by rw [h7]
    rw [List.getElem?_take, if_pos (by omega), List.getElem?_drop, Cells.get_toList] at this
    rw [this]
    simp [byV, hi]
theorem SlB.val {h : AHeap} {v : Value} {l : List Int} (a : SlB h v l) : ∃ x cap, v = .slice x l.length cap := by
  rcases a.2 with ⟨h1, h2⟩ | ⟨m, off, cap, ro, gr, c, h1, _⟩
  · exact ⟨none, 0, by rw [h1, h2]⟩
  · exact ⟨_, _, h1⟩
def OwnB (N : Nat) (h : AHeap) (v : Value) (l : List Int) : Prop := OwnS N h 1 v l.length (byV l)
theorem OwnB.sl {N : Nat} {h : AHeap} {v : Value} {l : List Int} (a : OwnB N h v l) : SlB h v l := OwnS.sl a
theorem OwnB.keep {N M : Nat} {h h' : AHeap} {v : Value} {l : List Int} (a : OwnB N h v l) (k : Keep M h h') (hM : h.next ≤ M) : OwnB N h' v l := OwnS.keep a k hM
theorem OwnB.append {k : ElK} {h : AHeap} {N : Nat} {v x : Value} {l l2 : List Int} (a : OwnB N h v l) (b : SlB h x l2) (hk : k.es = 1) (hk2 : k.bytes = 1) (hN : N ≤ h.next) (hn : l.length + l2.length ≤ 1099511627776) :
    ∃ v' h', aAppend k v x h = some (v', h') ∧ OwnB N h' v' (l ++ l2) ∧ Keep N h h' := by
  obtain ⟨es, bytes, zs⟩ := k
  simp only at hk hk2
  subst hk; subst hk2
  obtain ⟨v', h', e1, e2, e3⟩ := OwnS.append (k := ⟨1, 1, zs⟩) a b (by simp) hN (by simp only; omega) hn
  refine ⟨v', h', e1, ?_, e3⟩
  show OwnS N h' 1 v' (l ++ l2).length (byV (l ++ l2))
  rw [List.length_append, byV_append]; exact e2
theorem SlB.cut {h : AHeap} {v : Value} {l : List Int} (a : SlB h v l) {lo hi : Option Value} {i j : Nat} (hlo : (lo = none ∧ i = 0) ∨ ∃ k, lo = some (.int k i)) (hhi : (hi = none ∧ j = l.length) ∨ ∃ k, hi = some (.int k j)) (hij : i ≤ j) (hj : j ≤ l.length) :
    ∃ v', aCut (.sl 1) v lo hi none h = some v' ∧ SlB h v' ((l.drop i).take (j - i)) := by
  obtain ⟨v', e1, e2⟩ := SlAt.cut a hlo hhi hij hj
  refine ⟨v', e1, ?_⟩
  have hl : ((l.drop i).take (j - i)).length = j - i := by rw [List.length_take, List.length_drop]; omega
  show SlAt h 1 v' (byV _) _
  rw [hl]
  simp only [Nat.mul_one, byV_drop, byV_take] at e2
  exact e2
/-- As a string. -/
def strOf (l : List Int) : ByteArray := ⟨(l.map fun n => UInt8.ofNat n.toNat).toArray⟩
theorem toBytes_by : ∀ (l : List Int) (acc : List UInt8), toBytes (byV l) acc = some (acc.reverse ++ l.map fun n => UInt8.ofNat n.toNat)
  | [], acc => by simp [byV, toBytes]
  | x :: l, acc => by
    show toBytes (.int .u8 x :: byV l) acc = _
    simp only [toBytes, toBytes_by l]
    simp
theorem SlB.str {h : AHeap} {v : Value} {l : List Int} (a : SlB h v l) : aB2s v h = some (.string (strOf l)) := by
  rcases a.2 with ⟨rfl, h2⟩ | ⟨m, off, cap, ro, gr, c, rfl, h2, h3, h4, h5, h6, h7⟩
  · have : l = [] := List.length_eq_zero_iff.1 h2
    subst this
    rfl
  · simp only [aB2s]
    by_cases h0 : l.length = 0
    · rw [if_pos h0]
      have : l = [] := List.length_eq_zero_iff.1 h0
      subst this
      rfl
    · rw [if_neg h0]
      simp only [h4]
      rw [if_pos (by omega), Cells.toList_ext (by omega)]
      rw [Nat.mul_one] at h7
      rw [h7, toBytes_by]
      rfl
theorem strOf_inj {a b : List Int} (ha : Byt a) (hb : Byt b) : (strOf a).data.toList = (strOf b).data.toList ↔ a = b := by
  constructor
  · intro h
    simp only [strOf] at h
    have : ∀ (a b : List Int), Byt a → Byt b → (a.map fun n => UInt8.ofNat n.toNat) = (b.map fun n => UInt8.ofNat n.toNat) → a = b := by
      intro a
      induction a with
      | nil => intro b _ _ h; cases b <;> simp at h ⊢
      | cons x a ih =>
        intro b ha hb h
        cases b with
        | nil => simp at h
        | cons y b =>
          simp only [List.map_cons, List.cons.injEq] at h
          have h1 := ha x (by simp)
          have h2 := hb y (by simp)
          have h3 : (UInt8.ofNat x.toNat).toNat = (UInt8.ofNat y.toNat).toNat := by rw [h.1]
          simp only [UInt8.toNat_ofNat'] at h3
          rw [ih b (fun z hz => ha z (by simp [hz])) (fun z hz => hb z (by simp [hz])) h.2]
          congr 1
          omega
    exact this a b ha hb h
  · rintro rfl; rfl
/-- A byte is stored. -/
theorem OwnB.store {N : Nat} {h : AHeap} {v : Value} {l : List Int} (a : OwnB N h v l) (i : Nat) (hi : i < l.length) (x : Int) :
    ∃ m h', v = .slice (some ⟨m, 0, none⟩) l.length l.length ∧ aStore 1 (.pointer (some ⟨m, i, none⟩)) (.int .u8 x) h = some h' ∧ OwnB N h' v (l.set i x) ∧ Keep N h h' ∧ h'.next = h.next ∧ ∀ k, k ≠ m → h'.get k = h.get k := by
  rcases a.2 with ⟨h1, h2⟩ | ⟨m, c, gr, h1, h2, h3, h4, h5, h6⟩
  · omega
  · have hs : c.size = l.length := by rw [← Cells.length_toList, h6]; simp
    have hc : (Value.int .u8 x).cells = #[.int .u8 x] := rfl
    refine ⟨m, h.set m (.row false gr (c.blit i (cellsOf (.int .u8 x)))), h1, ?_, ?_, (Keep.refl N h).set h2 h3 _, rfl, fun k hk => by rw [AHeap.get_set, if_neg hk]⟩
    · simp only [aStore, h4, hc]
      rw [if_pos ⟨rfl, by omega, rfl⟩]
    · refine ⟨by simp, .inr ⟨m, _, gr, by rw [h1]; simp, h2, by simpa using h3, by rw [AHeap.get_set, if_pos rfl], h5, ?_⟩⟩
      have hp : (cellsOf (.int .u8 x)).size = 1 := rfl
      have hpl : (cellsOf (.int .u8 x)).toList = [.int .u8 x] := rfl
      rw [Cells.toList_blit (by omega), h6, hp, hpl]
      apply List.ext_getElem?
      intro j
      simp only [byV, List.map_set]
      rw [List.getElem?_set]
      by_cases hj : j < i
      · rw [if_neg (by omega), List.append_assoc, List.getElem?_append_left (by simp; omega), List.getElem?_take, if_pos hj]
      · rw [List.append_assoc, List.getElem?_append_right (by simp; omega)]
        simp only [List.length_take, List.length_map]
        rw [Nat.min_eq_left (by omega)]
        by_cases hj2 : j = i
        · subst hj2; simp [hi]
        · rw [if_neg (by omega), List.getElem?_append_right (by simp; omega), List.getElem?_drop]
          congr 1
          simp; omega
section
variable {N0 : Nat} {w0 : World} {σ : Sig} {h : AHeap} {w : World}
/-- A slice of numbers that came in, as a slice. -/
theorem Inv.addSl (hI : Inv N0 w0 σ h w) {k : IntKind} {P : Program} {r : Reach} {base : Nat} {e : TypeId} (hN : N0 = w.heap.size) (a : Option Addr) (len cap : Nat) (zs : List Int)
    (hz : (a = none ∧ len = 0 ∧ cap = 0 ∧ zs = []) ∨ ∃ x, a = some x ∧ len ≤ cap ∧ cap ≤ maxLen ∧ zs.length = cap ∧ (∀ i, i < zs.length → w.cell? (x.add i) = some (.int k (zs.getD i 0))) ∧ ∀ n ∈ zs, (Lit.int k n).wf = true)
    (hok : ∀ x, a = some x → World.has P w r base x e cap) :
    ∃ σ' h' a', Adds N0 w0 σ h w σ' h' ∧ VR h'.next σ' (.slice a' len cap) (.slice a len cap) ∧ SlAt h' 1 (.slice a' len cap) ((zs.take len).map (Value.int k)) len ∧ (zs.take len).length = len := by
  rcases hz with ⟨rfl, rfl, rfl, rfl⟩ | ⟨x, rfl, hl, hm, hzl, hcell, hwf⟩
  · exact ⟨σ, h, none, Adds.refl hI, .nils, SlAt.nil _ _, rfl⟩
  · obtain ⟨_, hspot, row, cells, hshape, _⟩ := hok x rfl
    obtain ⟨b, off, spot⟩ := x
    simp only at hspot
    subst hspot
    have hcells : ∃ cs el fz, w.heap[b]? = some (.cells cs el fz) := by
      unfold World.shape? at hshape
      split at hshape
      · rename_i cs el fz hh
        exact ⟨cs, el, _, by assumption⟩
      · cases hshape
    obtain ⟨cs, el, fz, hc⟩ := hcells
    have hb : b < N0 := by rw [hN]; exact (Array.getElem?_eq_some_iff.1 hc).1
    by_cases hcap : cap = 0
    · subst hcap
      have hlen : len = 0 := by omega
      subst hlen
      obtain ⟨i1, i2⟩ := hI.addRo (base := 0) hb hc [] (some (1, 0)) (by intro i v e; simp at e) (by simp) (by intro es ext e; injection e with e; simp only [Prod.mk.injEq] at e; obtain ⟨rfl, rfl⟩ := e; simp)
      refine ⟨_, _, some ⟨h.next, 0, none⟩, ⟨i1, (Keep.refl _ _).new (Nat.le_refl _) _, i2⟩, ?_, ⟨by simp, .inr ⟨h.next, 0, 0, true, grOf (some (1, 0)), .vals [], rfl, Nat.le_refl _, by simp, by rw [AHeap.get_new, if_pos rfl], .inr rfl, by simp [Cells.size], by simp [Cells.toList]⟩⟩, by simp⟩
      have := VR.sle (sp := none) (n := (h.new (.row true (grOf (some (1, 0))) (.vals []))).next) (σ := σ.put h.next ⟨b, 0, some (1, 0), true, none⟩) h.next 0 off 1 0 ⟨by simp, by rw [Sig.put_same]⟩ (by rw [Sig.put_same])
      rw [Sig.put_same] at this
      exact this
    · have cellAt : ∀ i, i < zs.length → cs[off + i]? = some (.int k (zs.getD i 0)) := by
        intro i hi
        have := hcell i hi
        rw [add_mk, cell_of hc] at this
        exact this
      have hsz : off + zs.length ≤ cs.size := by
        have := cellAt (zs.length - 1) (by omega)
        have := (Array.getElem?_eq_some_iff.1 this).1
        omega
      obtain ⟨i1, i2⟩ := hI.addRo (base := off) hb hc (zs.map (Value.int k)) none (by
        intro i v e
        rw [List.getElem?_map] at e
        cases hg : zs[i]? with
        | none => rw [hg] at e; cases e
        | some z =>
          rw [hg] at e
          simp only [Option.map_some, Option.some.injEq] at e
          subst e
          have hi : i < zs.length := (List.getElem?_eq_some_iff.1 hg).1
          refine ⟨_, cellAt i hi, ?_, rfl⟩
          rw [List.getD_eq_getElem?_getD, hg]
          exact .int k z) (by simpa using hsz) (by intro es ext e; cases e)
      refine ⟨_, _, some ⟨h.next, 0, none⟩, ⟨i1, (Keep.refl _ _).new (Nat.le_refl _) _, i2⟩, ?_, ⟨by simp; omega, .inr ⟨h.next, 0, cap, true, 0, .vals (zs.map (Value.int k)), rfl, hl, by simp, by rw [AHeap.get_new, if_pos rfl]; rfl, .inl rfl, by simp [Cells.size]; omega, by simp [Cells.toList, List.map_take]⟩⟩, by simp; omega⟩
      have := VR.sl (n := (h.new (.row true (grOf none) (.vals (zs.map (Value.int k))))).next) (σ := σ.put h.next ⟨b, off, none, true, none⟩) h.next 0 len cap ⟨by simp, by rw [Sig.put_same]⟩ (by rw [Sig.put_same])
      rw [Sig.put_same] at this
      exact this
end
end
end Go.AM
