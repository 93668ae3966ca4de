import Derived.Test.YtoehafeeoggpkaaAM28
set_option linter.unusedVariables false
set_option linter.unusedSimpArgs false
/-! Part 29: heaps that grow; rows that are pushed onto. -/
namespace Go.AM
noncomputable section
open Go.RowKit

/-- Nothing lies beyond the next number. -/
def Wf (h : AHeap) : Prop := ∀ m, h.next ≤ m → h.get m = .dead
/-- All below N lies as it lay. -/
structure Keep (N : Nat) (h h' : AHeap) : Prop where
  next : h.next ≤ h'.next
  get : ∀ m, m < N → h'.get m = h.get m
  wf : Wf h → Wf h'
theorem Keep.refl (N : Nat) (h : AHeap) : Keep N h h := ⟨Nat.le_refl _, fun _ _ => rfl, fun h => h⟩
theorem Keep.trans {N : Nat} {h h' h'' : AHeap} (a : Keep N h h') (b : Keep N h' h'') : Keep N h h'' := ⟨Nat.le_trans a.next b.next, fun m hm => (b.get m hm).trans (a.get m hm), fun w => b.wf (a.wf w)⟩
theorem Wf.new {h : AHeap} (w : Wf h) (o : AObj) : Wf (h.new o) := fun m hm => by
  rw [AHeap.next_new] at hm; rw [AHeap.get_new, if_neg (by omega)]; exact w m (by omega)
theorem Wf.set {h : AHeap} (w : Wf h) {k : Nat} (hk : k < h.next) (o : AObj) : Wf (h.set k o) := fun m hm => by
  rw [AHeap.next_set] at hm; rw [AHeap.get_set, if_neg (by omega)]; exact w m hm
theorem Wf.skip {h : AHeap} (w : Wf h) (k : Nat) : Wf (h.skip k) := fun m hm => by
  rw [AHeap.next_skip] at hm; rw [AHeap.get_skip]; exact w m (by omega)
theorem Keep.new {N : Nat} {h h' : AHeap} (a : Keep N h h') (hN : N ≤ h.next) (o : AObj) : Keep N h (h'.new o) := ⟨by rw [AHeap.next_new]; have := a.next; omega, fun m hm => by rw [AHeap.get_new, if_neg (by have := a.next; omega)]; exact a.get m hm, fun w => (a.wf w).new o⟩
theorem Keep.set {N : Nat} {h h' : AHeap} (a : Keep N h h') {k : Nat} (hk : N ≤ k) (hk2 : k < h'.next) (o : AObj) : Keep N h (h'.set k o) := ⟨a.next, fun m hm => by rw [AHeap.get_set, if_neg (by omega)]; exact a.get m hm, fun w => (a.wf w).set hk2 o⟩
theorem Keep.skip {N : Nat} {h h' : AHeap} (a : Keep N h h') (k : Nat) : Keep N h (h'.skip k) := ⟨by rw [AHeap.next_skip]; have := a.next; omega, a.get, fun w => (a.wf w).skip k⟩
theorem Keep.less {N M : Nat} {h h' : AHeap} (a : Keep N h h') (hM : M ≤ N) : Keep M h h' := ⟨a.next, fun m hm => a.get m (by omega), a.wf⟩
theorem RowI.skip {h : AHeap} {k : IntKind} {m off : Nat} {l : List Int} (hr : RowI h k m off l) (j : Nat) : RowI (h.skip j) k m off l := hr.of_get rfl
theorem RowI.keep {N : Nat} {h h' : AHeap} {k : IntKind} {m off : Nat} {l : List Int} (hr : RowI h k m off l) (a : Keep N h h') (hm : m < N) : RowI h' k m off l := hr.of_get (a.get m hm)

/-- A row of the function's own, from N on, that is pushed onto: n elements of es cells. -/
def Own (N : Nat) (h : AHeap) (es : Nat) (v : Value) (n : Nat) (l : List Value) : Prop :=
  l.length = n * es ∧ ((n = 0 ∧ v = .slice none 0 0) ∨ (0 < n ∧ ∃ m, v = .slice (some ⟨m, 0, none⟩) n n ∧ N ≤ m ∧ m < h.next ∧ h.get m = .row false es (.vals l)))
theorem Own.nil (N : Nat) (h : AHeap) (es : Nat) : Own N h es (.slice none 0 0) 0 [] := ⟨by simp, .inl ⟨rfl, rfl⟩⟩
theorem Own.keep {N M : Nat} {h h' : AHeap} {es : Nat} {v : Value} {n : Nat} {l : List Value} (a : Own N h es v n l) (k : Keep M h h') (hM : h.next ≤ M) : Own N h' es v n l := by
  refine ⟨a.1, ?_⟩
  rcases a.2 with ⟨h1, h2⟩ | ⟨h0, m, h1, h2, h3, h4⟩
  · exact .inl ⟨h1, h2⟩
  · exact .inr ⟨h0, m, h1, h2, Nat.lt_of_lt_of_le h3 k.next, (k.get m (by omega)).trans h4⟩
theorem Own.len {N : Nat} {h : AHeap} {es : Nat} {v : Value} {n : Nat} {l : List Value} (a : Own N h es v n l) : aLen .sl v h = some (.int .i64 n) := by
  rcases a.2 with ⟨rfl, rfl⟩ | ⟨h0, m, rfl, _⟩ <;> rfl

theorem Own.rowI {N : Nat} {h : AHeap} {es : Nat} {v : Value} {n : Nat} {k : IntKind} {F : List Int} (a : Own N h es v n (F.map (Value.int k))) (hn : 0 < n) : ∃ m, v = .slice (some ⟨m, 0, none⟩) n n ∧ N ≤ m ∧ m < h.next ∧ RowI h k m 0 F := by
  rcases a.2 with ⟨rfl, _⟩ | ⟨_, m, h1, h2, h3, h4⟩
  · omega
  · refine ⟨m, h1, h2, h3, false, es, _, h4, fun i hi => ?_⟩
    simp only [Cells.get, Nat.zero_add, List.getElem?_map, List.getElem?_eq_getElem hi, Option.map_some]
theorem ext_vals (l : List Value) (o n : Nat) : (Cells.vals l).ext o n = .vals ((l.drop o).take n) := rfl
theorem app_vals (a b : List Value) : (Cells.vals a).app (.vals b) = .vals (a ++ b) := rfl

/-- One element is pushed. -/
theorem push_one {k : ElK} {h : AHeap} {N : Nat} {v : Value} {n : Nat} {l vs : List Value} {m : Nat} (ho : Own N h k.es v n l) (hm : h.get m = .row false 0 (.vals vs)) (hvs : vs.length = k.es) (hes : 0 < k.es) (hN : N ≤ h.next)
    (hb : (n + 1) * k.bytes ≤ 140737488355328) (hn : n + 1 ≤ 1099511627776) :
    ∃ v' h', aAppend k v (.slice (some ⟨m, 0, none⟩) 1 1) h = some (v', h') ∧ Own N h' k.es v' (n + 1) (l ++ vs) ∧ Keep N h h' := by
  have hsrc : aSrc k.es (.slice (some ⟨m, 0, none⟩) 1 1) h = some (.vals vs, 1) := by
    simp only [aSrc, hm]
    rw [if_pos (by simp [Cells.size, hvs])]
    simp only [ext_vals, List.drop_zero, Nat.one_mul]
    rw [List.take_of_length_le (by omega)]
  rcases ho.2 with ⟨rfl, rfl⟩ | ⟨h0, m0, rfl, h1, h2, h3⟩
  · have hl : l = [] := by have := ho.1; simp at this; exact this
    subst hl
    refine ⟨.slice (some ⟨h.next, 0, none⟩) 1 1, h.new (.row false k.es (.vals vs)), ?_, ⟨by simp [hvs], .inr ⟨by omega, h.next, rfl, hN, by simp, ?_⟩⟩, (Keep.refl N h).new hN _⟩
    · simp only [aAppend, hsrc]
      rw [if_neg (by omega), if_pos ⟨by omega, by omega, hes⟩]
    · rw [AHeap.get_new, if_pos rfl]; simp
  · have hll := ho.1
    refine ⟨.slice (some ⟨h.next, 0, none⟩) (n + 1) (n + 1), (h.set m0 .dead).new (.row false k.es (.vals (l ++ vs))), ?_, ⟨by simp [hvs, hll, Nat.add_mul], .inr ⟨by omega, h.next, rfl, hN, by simp, ?_⟩⟩, ((Keep.refl N h).set h1 h2 _).new hN _⟩
    · simp only [aAppend, hsrc, h3]
      rw [if_pos ⟨Nat.le_refl _, by simp [Cells.size, hll], hb, hn, hes⟩, if_neg (by omega), if_neg (by omega), if_pos ⟨trivial, trivial⟩]
      simp only [ext_vals, List.drop_zero, app_vals]
      rw [List.take_of_length_le (by omega)]
    · rw [AHeap.get_new, if_pos (AHeap.next_set _ _ _).symm]
/-- What a run of three numbers is built of. -/
theorem build3 (a b c : Int) (k1 k2 k3 : IntKind) (z1 z2 z3 : Value) : aBuild (.str [z1, z2, z3] [(0, 1), (1, 1), (2, 1)]) [(0, .int k1 a), (1, .int k2 b), (2, .int k3 c)] = some (.agg #[.int k1 a, .int k2 b, .int k3 c]) := rfl

/-! ### boxes -/
attribute [simp] get_new_self

@[simp] theorem mkRow_i64 {x : Int} {r : List Value} : mkRow true (.int .i64 x :: r) = .vals (.int .i64 x :: r) := rfl
@[simp] theorem mkRow_u64 {x : Int} {r : List Value} : mkRow true (.int .u64 x :: r) = .vals (.int .u64 x :: r) := rfl
@[simp] theorem mkRow_u32 {x : Int} {r : List Value} : mkRow true (.int .u32 x :: r) = .vals (.int .u32 x :: r) := rfl
@[simp] theorem mkRow_i32 {x : Int} {r : List Value} : mkRow true (.int .i32 x :: r) = .vals (.int .i32 x :: r) := rfl
@[simp] theorem mkRow_u16 {x : Int} {r : List Value} : mkRow true (.int .u16 x :: r) = .vals (.int .u16 x :: r) := rfl
@[simp] theorem mkRow_bool {b : Bool} {r : List Value} : mkRow true (.bool b :: r) = .vals (.bool b :: r) := rfl
@[simp] theorem mkRow_slice {a : Option Addr} {l c : Nat} {r : List Value} : mkRow true (.slice a l c :: r) = .vals (.slice a l c :: r) := rfl
@[simp] theorem mkRow_string {b : ByteArray} {r : List Value} : mkRow true (.string b :: r) = .vals (.string b :: r) := rfl
@[simp] theorem mkRow_ptr {a : Option Addr} {r : List Value} : mkRow true (.pointer a :: r) = .vals (.pointer a :: r) := rfl
@[simp] theorem mkRow_nilI {r : List Value} : mkRow true (.nilIface :: r) = .vals (.nilIface :: r) := rfl
@[simp] theorem mkRow_iface {t : TypeId} {v : Value} {r : List Value} : mkRow true (.iface t v :: r) = .vals (.iface t v :: r) := rfl
/-- A new box, whose whole is written. -/
theorem store_new (h : AHeap) (old : List Value) (vs : Array Value) (sz : Nat) (h1 : vs.size = sz) (h2 : old.length = sz) (h3 : vs.toList.all one = true) :
    ∃ H, aStore sz (.pointer (some ⟨h.next, 0, none⟩)) (.agg vs) (h.new (.row false 0 (.vals old))) = some H ∧ H.get h.next = .row false 0 (.vals vs.toList) ∧ Keep h.next h H ∧ H.next = h.next + 1 := by
  refine ⟨(h.new (.row false 0 (.vals old))).set h.next (.row false 0 (.vals vs.toList)), ?_, by rw [AHeap.get_set, if_pos rfl], ((Keep.refl _ h).new (Nat.le_refl _) _).set (Nat.le_refl _) (by simp) _, rfl⟩
  have g : (h.new (.row false 0 (.vals old))).get h.next = .row false 0 (.vals old) := by rw [AHeap.get_new, if_pos rfl]
  have hc : (Value.agg vs).cells = vs := rfl
  simp only [aStore, g, hc]
  rw [if_pos ⟨h1, by simp only [Cells.size]; omega, h3⟩]
  have hl : vs.toList.length = sz := by simpa using h1
  simp only [cellsOf, hc, Cells.blit, Cells.ext, Cells.app, Cells.size, Cells.toList]
  simp [h1, h2]
/-- A box under a number that was kept, whose whole is written. -/
theorem store_set (G : AHeap) (m : Nat) (old : List Value) (vs : Array Value) (sz : Nat) (h1 : vs.size = sz) (h2 : old.length = sz) (h3 : vs.toList.all one = true) :
    ∃ H, aStore sz (.pointer (some ⟨m, 0, none⟩)) (.agg vs) (G.set m (.row false 0 (.vals old))) = some H ∧ H.get m = .row false 0 (.vals vs.toList) ∧ H.next = G.next ∧
      ∀ (N : Nat) (h : AHeap), Keep N h G → N ≤ m → m < G.next → Keep N h H := by
  refine ⟨(G.set m (.row false 0 (.vals old))).set m (.row false 0 (.vals vs.toList)), ?_, by rw [AHeap.get_set, if_pos rfl], rfl, fun N h k hN hm => (k.set hN hm _).set hN hm _⟩
  have g : (G.set m (.row false 0 (.vals old))).get m = .row false 0 (.vals old) := by rw [AHeap.get_set, if_pos rfl]
  have hc : (Value.agg vs).cells = vs := rfl
  simp only [aStore, g, hc]
  rw [if_pos ⟨h1, by simp only [Cells.size]; omega, h3⟩]
  have hl : vs.toList.length = sz := by simpa using h1
  simp only [cellsOf, hc, Cells.blit, Cells.ext, Cells.app, Cells.size, Cells.toList]
  simp [h1, h2]
theorem ld_cell {H : AHeap} {m : Nat} {ro : Bool} {gr : Nat} {l : List Value} (g : H.get m = .row ro gr (.vals l)) {i : Nat} {v : Value} (hi : l[i]? = some v) : aLoad none (.pointer (some ⟨m, i, none⟩)) H = some v := by
  simp only [aLoad, g, Cells.get, hi]
theorem ld_agg {H : AHeap} {m : Nat} {ro : Bool} {gr n : Nat} {l : List Value} (g : H.get m = .row ro gr (.vals l)) (hn : l.length = n) : aLoad (some n) (.pointer (some ⟨m, 0, none⟩)) H = some (.agg l.toArray) := by
  simp only [aLoad, g, Cells.size, Cells.ext, Cells.toList, List.drop_zero]
  rw [if_pos (by omega), List.take_of_length_le (by omega)]
/-- A literal of one element of three numbers. -/
theorem lit3 (a b c : Int) (n : Nat) (h : AHeap) : aBuildSlice true ⟨3, n, [.int .i64 0, .int .i64 0, .int .i64 0]⟩ 1 [(0, .agg #[.int .i64 a, .int .i64 b, .int .i64 c])] h =
    some (.slice (some ⟨h.next, 0, none⟩) 1 1, h.new (.row false 0 (.vals [.int .i64 a, .int .i64 b, .int .i64 c]))) := rfl

/-- A function, by its code: something is answered, of which R is true. -/
theorem go_ex {tab : FuncId → Option AEntry} {L d : Nat} {f : FuncId} {af : AFunc} (ht : tab f = some (.code af)) {args : List Value} {h : AHeap} {R : Value → AHeap → Prop} (hn : args.length = af.nargs)
    (hw : W ⟨tab, L, d, noRound⟩ af.code (fun e T' h1 => (e = .normal ∨ e = .ret) ∧ ∃ l, aRes T' h1 af.res = some l ∧ R (oneOrTup l) h1) (argsT 0 args .leaf) h) :
    ∃ r h', (⟨tab, L, d + 1, noRound⟩ : Env).go f args h = some (r, h') ∧ R r h' := by
  obtain ⟨e, T', h1, hr, he, l, hl, hR⟩ := hw
  refine ⟨oneOrTup l, h1, ?_, hR⟩
  simp only [Env.go, callFR, ht, runF, hn, if_true]
  simp only [Env.run] at hr
  rw [hr]
  rcases he with rfl | rfl
  · simp only [hl]
  · simp only [hl]
end
end Go.AM
