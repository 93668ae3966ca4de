import Derived.Test.YtoehafeeoggpkaaP24
set_option linter.unusedVariables false
set_option linter.unusedSimpArgs false
set_option linter.unnecessarySimpa false
/-! The document's tables. -/
namespace Go.Proofs.Ytoehafeeoggpkaa.L24
open Go Go.Proofs Go.Shelf Go.RowKit Go.Lib Go.Sort Go.AM Go.Proofs.Ytoehafeeoggpkaa.AMC
set_option maxRecDepth 10000
noncomputable section
/-- The document's entries, tables. -/
abbrev REnt := Value × Int × Int × Value
def rEnc (p : REnt) : List Value := [p.1, .int .i64 p.2.1, .int .i64 p.2.2.1, p.2.2.2]
def RL (h : AHeap) (rl : List REnt) (l : List Ent) : Prop :=
  rl.length = l.length ∧ ∀ i (h1 : i < rl.length) (h2 : i < l.length), rl[i].2.1 = l[i].a ∧ rl[i].2.2.1 = l[i].b ∧ SlB h rl[i].1 l[i].ids ∧ SlB h rl[i].2.2.2 l[i].rest
theorem RL.keep {N : Nat} {h h' : AHeap} {rl : List REnt} {l : List Ent} (a : RL h rl l) (k : Keep N h h') (hN : h.next ≤ N) : RL h' rl l :=
  ⟨a.1, fun i h1 h2 => ⟨(a.2 i h1 h2).1, (a.2 i h1 h2).2.1, (a.2 i h1 h2).2.2.1.keep k hN, (a.2 i h1 h2).2.2.2.keep k hN⟩⟩
def r7 (s a b : Int) (vi vl : Value) (at_ be : Int) : List Value := [.int .i64 s, .int .i64 a, .int .i64 b, vi, vl, .int .i64 at_, .int .i64 be]
theorem r7_box {s a b : Int} {vi vl : Value} {at_ be : Int} (h1 : AM.one vi = true) (h2 : AM.one vl = true) (h : AHeap) : ∃ H, aNew true (Value.agg (r7 s a b vi vl at_ be).toArray).cells.toList h = some (.pointer (some ⟨h.next, 0, none⟩), H) ∧ H.get h.next = .row false 0 (.vals (r7 s a b vi vl at_ be)) ∧ Keep h.next h H ∧ H.next = h.next + 1 := by
  have e1 : (Value.agg (r7 s a b vi vl at_ be).toArray).cells.toList = r7 s a b vi vl at_ be := rfl
  have e2 : (r7 s a b vi vl at_ be).all AM.one = true := by simp only [r7, List.all_cons, h1, h2]; rfl
  have e3 : mkRow true (r7 s a b vi vl at_ be) = .vals (r7 s a b vi vl at_ be) := rfl
  rw [e1]
  unfold aNew
  rw [if_pos e2, e3]
  exact ⟨_, rfl, by rw [AHeap.get_new, if_pos rfl], (Keep.refl _ _).new (Nat.le_refl _) _, by simp⟩
theorem slC_one {α : Type} {enc : α → List Value} {es : Nat} {h : AHeap} {v : Value} {l : List α} (a : SlC enc es h v l) : AM.one v = true := by
  obtain ⟨x, c, e⟩ := a.val
  rw [e]; rfl
theorem slB_one {h : AHeap} {v : Value} {l : List Int} (a : SlB h v l) : AM.one v = true := by
  obtain ⟨x, c, e⟩ := a.val
  rw [e]; rfl
end
end Go.Proofs.Ytoehafeeoggpkaa.L24

set_option linter.unusedVariables false
set_option linter.unusedSimpArgs false
set_option linter.unnecessarySimpa false
/-! The document's table of a table. -/
namespace Go.Proofs.Ytoehafeeoggpkaa.L24
open Go Go.Proofs Go.Shelf Go.RowKit Go.Lib Go.Sort Go.AM Go.Proofs.Ytoehafeeoggpkaa.AMC
set_option maxRecDepth 10000
noncomputable section
/-- An element behind a slice of the function's own: nothing but that slice's row is touched. -/
theorem push_two {k : ElK} {h : AHeap} {N : Nat} {v : Value} {n : Nat} {l vs : List Value} {m : Nat} (ho : Own N h k.es v n l) (hm : h.get m = .row false 0 (.vals vs)) (hvs : vs.length = k.es) (hes : 0 < k.es) (hN : N ≤ h.next)
    (hb : (n + 1) * k.bytes ≤ 140737488355328) (hn : n + 1 ≤ 1099511627776) :
    ∃ v' h', aAppend k v (.slice (some ⟨m, 0, none⟩) 1 1) h = some (v', h') ∧ Own N h' k.es v' (n + 1) (l ++ vs) ∧ Keep N h h' ∧ (∀ j, j < h.next → (∀ m0 o n c, v = .slice (some ⟨m0, o, none⟩) n c → j ≠ m0) → h'.get j = h.get j) := by
  have hsrc : aSrc k.es (.slice (some ⟨m, 0, none⟩) 1 1) h = some (.vals vs, 1) := by
    simp only [aSrc, hm]
    rw [if_pos (by simp [Cells.size, hvs])]
    simp only [ext_vals, List.drop_zero, Nat.one_mul]
    rw [List.take_of_length_le (by omega)]
  rcases ho.2 with ⟨rfl, rfl⟩ | ⟨h0, m0, rfl, h1, h2, h3⟩
  · have hl : l = [] := by have := ho.1; simp at this; exact this
    subst hl
    refine ⟨.slice (some ⟨h.next, 0, none⟩) 1 1, h.new (.row false k.es (.vals vs)), ?_, ⟨by simp [hvs], .inr ⟨by omega, h.next, rfl, hN, by simp, ?_⟩⟩, (Keep.refl N h).new hN _, ?_⟩
    · simp only [aAppend, hsrc]
      rw [if_neg (by omega), if_pos ⟨by omega, by omega, hes⟩]
    · rw [AHeap.get_new, if_pos rfl]; simp
    · intro j hj _
      rw [AHeap.get_new, if_neg (by omega)]
  · have hll := ho.1
    refine ⟨.slice (some ⟨h.next, 0, none⟩) (n + 1) (n + 1), (h.set m0 .dead).new (.row false k.es (.vals (l ++ vs))), ?_, ⟨by simp [hvs, hll, Nat.add_mul], .inr ⟨by omega, h.next, rfl, hN, by simp, ?_⟩⟩, ((Keep.refl N h).set h1 h2 _).new hN _, ?_⟩
    · simp only [aAppend, hsrc, h3]
      rw [if_pos ⟨Nat.le_refl _, by simp [Cells.size, hll], hb, hn, hes⟩, if_neg (by omega), if_neg (by omega), if_pos ⟨trivial, trivial⟩]
      simp only [ext_vals, List.drop_zero, app_vals]
      rw [List.take_of_length_le (by omega)]
    · rw [AHeap.get_new, if_pos (AHeap.next_set _ _ _).symm]
    · intro j hj hne
      rw [AHeap.get_new, if_neg (by rw [AHeap.next_set]; omega), AHeap.get_set, if_neg (hne _ _ _ _ rfl)]
theorem slB_move {h h' : AHeap} {v : Value} {l : List Int} (a : SlB h v l) (hn : h.next ≤ h'.next) (hg : ∀ m o n c, v = .slice (some ⟨m, o, none⟩) n c → m < h.next → h'.get m = h.get m) : SlB h' v l := by
  refine ⟨a.1, ?_⟩
  rcases a.2 with h1 | ⟨m, off, cap, ro, gr, c, h1, h2, h3, h4, h5⟩
  · exact .inl h1
  · exact .inr ⟨m, off, cap, ro, gr, c, h1, h2, Nat.lt_of_lt_of_le h3 hn, (hg m _ _ _ h1 h3).trans h4, h5⟩
theorem sb_ne {h : AHeap} {v : Value} {l : List Int} (a : SlB h v l) (h0 : 0 < l.length) {m gr : Nat} {ro : Bool} {c : List Value} (g : h.get m = .row ro gr (.vals c)) (hc : ∀ x ∈ c, ∀ y, x ≠ .int .u8 y) : ∀ m' o n k, v = .slice (some ⟨m', o, none⟩) n k → m' ≠ m := by
  intro m' o n k e em
  obtain ⟨m2, off, cap, e2, _, ro2, gr2, c2, g2, hr⟩ := a.row h0
  rw [e] at e2
  simp only [Value.slice.injEq, Option.some.injEq, Addr.mk.injEq] at e2
  obtain ⟨⟨rfl, _, _⟩, _⟩ := e2
  subst em
  rw [g] at g2
  simp only [AObj.row.injEq] at g2
  obtain ⟨_, _, rfl⟩ := g2
  have := hr 0 h0
  simp only [Cells.get] at this
  exact hc _ (List.mem_of_getElem? this) _ rfl
theorem slB_set {h : AHeap} {v : Value} {l : List Int} (a : SlB h v l) {s : Nat} (hd : h.get s = .dead) (o : AObj) : SlB (h.set s o) v l := by
  refine ⟨a.1, ?_⟩
  rcases a.2 with h1 | ⟨m, off, cap, ro, gr, c, h1, h2, h3, h4, h5⟩
  · exact .inl h1
  · refine .inr ⟨m, off, cap, ro, gr, c, h1, h2, h3, ?_, h5⟩
    rw [AHeap.get_set, if_neg (by intro e; rw [e, hd] at h4; cases h4)]
    exact h4
theorem store_at {h : AHeap} {m : Nat} {old : List Value} (g : h.get m = .row false 0 (.vals old)) (vs : Array Value) (sz : Nat) (h1 : vs.size = sz) (h2 : old.length = sz) (h3 : vs.toList.all AM.one = true) :
    aStore sz (.pointer (some ⟨m, 0, none⟩)) (.agg vs) h = some (h.set m (.row false 0 (.vals vs.toList))) := by
  have hc : (Value.agg vs).cells = vs := rfl
  simp only [aStore, g, hc]
  rw [if_pos ⟨h1, by simp only [Cells.size]; omega, h3⟩]
  have hl : vs.toList.length = sz := by simpa using h1
  simp only [cellsOf, hc, Cells.blit, Cells.ext, Cells.app, Cells.size, Cells.toList]
  simp [h1, h2]
theorem new7 (h : AHeap) : aNew true [.int .i64 0, .int .i64 0, .int .i64 0, .slice none 0 0, .slice none 0 0, .int .i64 0, .int .i64 0] h = some (.pointer (some ⟨h.next, 0, none⟩), h.new (.row false 0 (.vals (r7 0 0 0 (.slice none 0 0) (.slice none 0 0) 0 0)))) := rfl
theorem b7E (s a b : Int) (x : Option Addr) (n c : Nat) (at_ be : Int) : aBuild (.str [.int .i64 0, .int .i64 0, .int .i64 0, .slice none 0 0, .slice none 0 0, .int .i64 0, .int .i64 0] [(0, 1), (1, 1), (2, 1), (3, 1), (4, 1), (5, 1), (6, 1)]) [(0, .int .i64 s), (1, .int .i64 a), (2, .int .i64 b), (3, .slice x n c), (5, .int .i64 at_), (6, .int .i64 be)] = some (.agg (r7 s a b (.slice x n c) (.slice none 0 0) at_ be).toArray) := by kernel_rfl
theorem b4R (a b : Int) (x y : Option Addr) (n c n2 c2 : Nat) : aBuild (.str [.slice none 0 0, .int .i64 0, .int .i64 0, .slice none 0 0] [(0, 1), (1, 1), (2, 1), (3, 1)]) [(0, .slice x n c), (1, .int .i64 a), (2, .int .i64 b), (3, .slice y n2 c2)] = some (.agg #[.slice x n c, .int .i64 a, .int .i64 b, .slice y n2 c2]) := by kernel_rfl
abbrev EKR : ElK := ⟨4, 64, [.slice none 0 0, .int .i64 0, .int .i64 0, .slice none 0 0]⟩
theorem lit4R (a b : Int) (x y : Option Addr) (n c n2 c2 : Nat) (h : AHeap) : aBuildSlice true EKR 1 [(0, .agg #[.slice x n c, .int .i64 a, .int .i64 b, .slice y n2 c2])] h = some (.slice (some ⟨h.next, 0, none⟩) 1 1, h.new (.row false 0 (.vals [.slice x n c, .int .i64 a, .int .i64 b, .slice y n2 c2]))) := by kernel_rfl
theorem st7 {h : AHeap} {m : Nat} {s a b : Int} {vi vl : Value} {at_ be : Int} (g : h.get m = .row false 0 (.vals (r7 s a b vi vl at_ be))) (x : Option Addr) (n c : Nat) : aStore 1 (.pointer (some ⟨m, 4, none⟩)) (.slice x n c) h = some (h.set m (.row false 0 (.vals (r7 s a b vi (.slice x n c) at_ be)))) := by
  have hc : (Value.slice x n c).cells = #[.slice x n c] := rfl
  simp only [aStore, g, hc]
  rw [if_pos ⟨rfl, by show 4 + 1 ≤ 7; omega, rfl⟩]
  rfl
def RS (rl : List REnt) : Prop := ∀ p ∈ rl, (∃ x n c, p.1 = .slice x n c) ∧ (∃ x n c, p.2.2.2 = .slice x n c)
theorem RS.no : ∀ {rl : List REnt}, RS rl → ∀ x ∈ flatC rEnc rl, ∀ y, x ≠ .int .u8 y
  | [], _, x, hx, y => by cases hx
  | p :: rl, h, x, hx, y => by
    rcases List.mem_append.1 hx with hx | hx
    · obtain ⟨⟨_, _, _, e1⟩, ⟨_, _, _, e2⟩⟩ := h p (List.mem_cons_self ..)
      simp only [rEnc, e1, e2, List.mem_cons, List.not_mem_nil, or_false] at hx
      rcases hx with rfl | rfl | rfl | rfl <;> intro e <;> cases e
    · exact RS.no (fun q hq => h q (List.mem_cons_of_mem _ hq)) x hx y
theorem r7_no {s a b : Int} {x y : Option Addr} {n c n2 c2 : Nat} {at_ be : Int} : ∀ v ∈ r7 s a b (.slice x n c) (.slice y n2 c2) at_ be, ∀ z, v ≠ .int .u8 z := by
  intro v hv z
  simp only [r7, List.mem_cons, List.not_mem_nil, or_false] at hv
  rcases hv with rfl | rfl | rfl | rfl | rfl | rfl | rfl <;> intro e <;> cases e
theorem ownSl {N es : Nat} {h : AHeap} {v : Value} {n : Nat} {l : List Value} (a : Own N h es v n l) : ∃ x c, v = .slice x n c := by
  rcases a.2 with ⟨h1, h2⟩ | ⟨_, m, h1, _⟩
  · exact ⟨none, 0, by rw [h1]; exact h2⟩
  · exact ⟨_, _, h1⟩
/-- A box's bytes, all of them, as a slice. -/
theorem cut_arr {h : AHeap} {m o k : Nat} {c : Cells} (g : h.get m = .row false 0 c) : aCut (.arr k 1) (.pointer (some ⟨m, o, none⟩)) none none none h = some (.slice (some ⟨m, if k = 0 then o else o + 0 * 1, none⟩) (k - 0) (k - 0)) := by
  simp only [aCut, aCutArr, g]; rfl
theorem ent_ids {e : Ent} (o : e.Ok) {h : AHeap} {m : Nat} (g : EBox h m e) (hm : m < h.next) : SlB h (.slice (some ⟨m, 0, none⟩) 32 32) e.ids :=
  box_sl g hm _ o.i (by rw [List.drop_zero, Ent.cells, List.take_append_of_le_length (by simp [o.i]), byV_take, List.take_of_length_le (by rw [o.i]; omega)]) (by rw [o.len]; omega) 32 (by omega)
theorem ent_rest {e : Ent} (o : e.Ok) {h : AHeap} {m : Nat} (g : EBox h m e) (hm : m < h.next) : SlB h (.slice (some ⟨m, 34, none⟩) 80 80) e.rest := by
  refine box_sl g hm _ o.r ?_ (by rw [o.len]; omega) 80 (by omega)
  have e1 : e.cells.drop 34 = byV e.rest := by
    rw [Ent.cells, List.drop_append, List.drop_of_length_le (by simp [o.i]), byV_length, o.i]; rfl
  rw [e1, List.take_of_length_le (by simp [o.r])]
theorem tb_id {t : Tb} (o : t.Ok) {h : AHeap} {m : Nat} (g : TBox h m t) (hm : m < h.next) : SlB h (.slice (some ⟨m, 3, none⟩) 16 16) t.id := by
  refine box_sl g hm _ o.i ?_ (by rw [o.len]; omega) 16 (by omega)
  have e1 : t.cells.drop 3 = byV t.id ++ [t.sl, .int .i64 t.at_, .int .i64 t.be] := rfl
  rw [e1, List.take_append_of_le_length (by simp [o.i]), List.take_of_length_le (by simp [o.i])]
theorem beqL_all : ∀ (l : List Value) (n : Nat), l.length ≤ n → (∀ v ∈ l, (∃ k x, v = .int k x) ∨ ∃ a m c, v = .slice a m c) → beqL n l l = true
  | [], n, _, _ => beqL_nil
  | v :: l, 0, h, _ => by simp at h
  | v :: l, n + 1, h, hv => by
    refine beqL_cons ?_ (beqL_all l n (by simpa using h) fun u hu => hv u (List.mem_cons_of_mem _ hu))
    rcases hv v (List.mem_cons_self ..) with ⟨k, x, rfl⟩ | ⟨a, m, c, rfl⟩
    · exact beqV_int
    · exact beqV_slice
theorem Tb.beq {t : Tb} (o : t.Ok) (hs : ∃ x n c, t.sl = .slice x n c) : beqV 10000 (.agg t.cells.toArray) (.agg t.cells.toArray) = true := by
  refine beqV_agg (n := 9999) (beqL_all _ _ (by show t.cells.length ≤ _; rw [o.len]; omega) ?_)
  intro v hv
  have hv : v ∈ t.cells := hv
  simp only [Tb.cells, byV, List.mem_cons, List.mem_append, List.mem_map, List.not_mem_nil, or_false] at hv
  rcases hv with rfl | rfl | rfl | ⟨z, _, rfl⟩ | rfl | rfl | rfl
  · exact .inl ⟨_, _, rfl⟩
  · exact .inl ⟨_, _, rfl⟩
  · exact .inl ⟨_, _, rfl⟩
  · exact .inl ⟨_, _, rfl⟩
  · exact .inr hs
  · exact .inl ⟨_, _, rfl⟩
  · exact .inl ⟨_, _, rfl⟩
end
end Go.Proofs.Ytoehafeeoggpkaa.L24

set_option linter.unusedVariables false
set_option linter.unusedSimpArgs false
set_option linter.unnecessarySimpa false
/-! The document's table of a table. -/
namespace Go.Proofs.Ytoehafeeoggpkaa.L24
open Go Go.Proofs Go.Shelf Go.RowKit Go.Lib Go.Sort Go.AM Go.Proofs.Ytoehafeeoggpkaa.AMC
set_option maxRecDepth 10000
noncomputable section
theorem store_set' (G : AHeap) (m : Nat) (old : List Value) (vs : Array Value) (sz : Nat) (h1 : vs.size = sz) (h2 : old.length = sz) (h3 : vs.toList.all AM.one = true) :
    ∃ H, aStore sz (.pointer (some ⟨m, 0, none⟩)) (.agg vs) (G.set m (.row false 0 (.vals old))) = some H ∧ H.get m = .row false 0 (.vals vs.toList) ∧ H.next = G.next ∧
      (∀ (N : Nat) (h : AHeap), Keep N h G → N ≤ m → m < G.next → Keep N h H) ∧ ∀ j, j ≠ m → H.get j = G.get j := by
  have g : (G.set m (.row false 0 (.vals old))).get m = .row false 0 (.vals old) := by rw [AHeap.get_set, if_pos rfl]
  refine ⟨(G.set m (.row false 0 (.vals old))).set m (.row false 0 (.vals vs.toList)), store_at g vs sz h1 h2 h3, by rw [AHeap.get_set, if_pos rfl], rfl, fun N h k hN hm => (k.set hN hm _).set hN hm _, fun j hj => by rw [AHeap.get_set, if_neg hj, AHeap.get_set, if_neg hj]⟩
def OfI (t : Tb) (l : List Ent) (vi : Value) (m1 m2 m3 : Nat) (hs : AHeap) (j : Nat) (T : Tr Value) (h' : AHeap) : Prop :=
  ∃ (i : Nat) (w : Value) (rl : List REnt), j = l.length - i ∧ i ≤ l.length ∧ T.get 1 = some (.pointer (some ⟨m1, 0, none⟩)) ∧ T.get 2 = some (.pointer (some ⟨m2, 0, none⟩)) ∧ T.get 3 = some (.pointer (some ⟨m3, 0, none⟩)) ∧ T.get 4 = some (.int .i64 i) ∧ Own (m3 + 1) h' 4 w rl.length (flatC rEnc rl) ∧ RS rl ∧ rl.length = i ∧ RL h' rl (l.take i) ∧ SlB h' vi t.id ∧ h'.get m3 = .row false 0 (.vals (r7 t.s t.a t.b vi w t.at_ t.be)) ∧ m3 < h'.next ∧ Keep m3 hs h'
set_option maxHeartbeats 4000000 in
theorem of_spec (L d : Nat) (t : Tb) (o : t.Ok) (l : List Ent) (hl : ∀ e ∈ l, e.Ok) (h : AHeap) (hw : Wf h) (hs : SlZ h t.sl l) (hn : l.length < 1000000) (hL : 1000000000 < L) :
    ∃ r h', (En L (d + 2)).go 19 [.agg t.cells.toArray] h = some (r, h') ∧ (∃ vi vl rl, r = .agg (r7 t.s t.a t.b vi vl t.at_ t.be).toArray ∧ SlB h' vi t.id ∧ SlC rEnc 4 h' vl rl ∧ RL h' rl l) ∧ Keep h.next h h' := by
  refine go_ex (R := fun r h' => (∃ vi vl rl, r = .agg (r7 t.s t.a t.b vi vl t.at_ t.be).toArray ∧ SlB h' vi t.id ∧ SlC rEnc 4 h' vl rl ∧ RL h' rl l) ∧ Keep h.next h h') (show tabF 19 = some (.code a19) by rfl) rfl ?_
  unfold a19
  obtain ⟨h1, e1, g1, k1, n1⟩ := o.nbox h
  have a2 := new7 h1
  obtain ⟨h2, hh2⟩ : ∃ h2, h1.new (.row false 0 (.vals (r7 0 0 0 (.slice none 0 0) (.slice none 0 0) 0 0))) = h2 := ⟨_, rfl⟩
  rw [hh2] at a2
  have k2 : Keep h1.next h1 h2 := by rw [← hh2]; exact (Keep.refl _ _).new (Nat.le_refl _) _
  have n2 : h2.next = h1.next + 1 := by rw [← hh2]; simp
  have gz : h2.get h1.next = .row false 0 (.vals (r7 0 0 0 (.slice none 0 0) (.slice none 0 0) 0 0)) := by rw [← hh2, AHeap.get_new, if_pos rfl]
  have g2 : TBox h2 h.next t := g1.keep k2 (by omega)
  have kk2 : Keep h.next h h2 := k1.trans (k2.less k1.next)
  have hw2 : Wf h2 := kk2.wf hw
  have hd2 : h2.get h2.next = .dead := hw2 _ (Nat.le_refl _)
  have g2s : TBox (h2.skip 1) h.next t := g2
  have q0 := g2s.l0
  have q1 := g2s.l1
  have q2 := g2s.l2
  have q20 := o.l20 g2s
  have q21 := o.l21 g2s
  have ct := cut_arr (k := 16) (o := 3) g2s
  simp only [Nat.zero_mul, Nat.add_zero, ite_self, Nat.sub_zero] at ct
  have sid : SlB (h2.skip 1) (.slice (some ⟨h.next, 3, none⟩) 16 16) t.id := tb_id o g2s (by rw [AHeap.next_skip]; omega)
  obtain ⟨vi, h3, e3, o3, k3⟩ := part_spec L d _ _ 0 16 (h2.skip 1) sid (by rw [o.i]; omega) (by rw [o.i]; omega)
  have sv3 : SlB h3 vi t.id := by
    have := o3.sl
    rwa [List.drop_zero, List.take_of_length_le (by rw [o.i]; omega)] at this
  obtain ⟨xi, ci, evi⟩ := sv3.val
  have hge3 : ∀ m' o' n' c', vi = .slice (some ⟨m', o', none⟩) n' c' → h2.next + 1 ≤ m' := by
    intro m' o' n' c' e'
    rcases o3.2 with ⟨_, e1⟩ | ⟨m2, _, _, e1, hg, _⟩
    · rw [e1] at e'; cases e'
    · rw [e1] at e'
      simp only [Value.slice.injEq, Option.some.injEq, Addr.mk.injEq] at e'
      rw [AHeap.next_skip] at hg
      omega
  subst evi
  generalize t.id.length = ni at e3 o3 sv3 hge3
  have g3 : TBox h3 h.next t := g2s.keep k3 (by rw [AHeap.next_skip]; omega)
  have p0 := g3.l0
  have p1 := g3.l1
  have p2 := g3.l2
  have p20 := o.l20 g3
  have p21 := o.l21 g3
  have n3 : h2.next < h3.next := by have := k3.next; rw [AHeap.next_skip] at this; omega
  have hd3 : h3.get h2.next = .dead := (k3.get h2.next (by rw [AHeap.next_skip]; omega)).trans hd2
  have k03 : Keep h2.next h2 h3 := ((Keep.refl _ _).skip 1).trans (k3.less (by rw [AHeap.next_skip]; omega))
  obtain ⟨h4, e4, g4, n4, k4, f4⟩ := store_set' h3 h2.next (r7 0 0 0 (.slice none 0 0) (.slice none 0 0) 0 0) (r7 t.s t.a t.b (.slice xi ni ci) (.slice none 0 0) t.at_ t.be).toArray 7 rfl rfl rfl
  have kk4 : Keep h2.next h2 h4 := k4 h2.next h2 k03 (Nat.le_refl _) n3
  have sv4 : SlB h4 (.slice xi ni ci) t.id := by
    refine slB_move sv3 (by omega) ?_
    intro m' o' n' c' e' _
    have := hge3 m' o' n' c' e'
    exact f4 m' (by omega)
  have e3' : (En L (d + 1)).go 47 [.slice (some ⟨h.next, 3, none⟩) 16 16, .int .i64 0, .int .i64 16] (h2.skip 1) = some (.slice xi ni ci, h3) := e3
  obtain ⟨x, c, ev⟩ := hs.val
  simp (disch := omega) [e1, a2, q0, q1, q2, q20, q21, ct, e3', p0, p1, p2, p20, p21, hd3, AObj.live, AHeap.get_skip, b7E, new7, e4, skip0']
  refine W_loop (OfI t l (.slice xi ni ci) h.next h1.next h2.next h2) l.length (by show _ < L; omega) ⟨0, .slice none 0 0, [], rfl, by omega, by simp, by simp, by simp, by simp, Own.nil _ _ _, (by intro p hp; cases hp), rfl, ⟨by simp, by intro i a b; simp at a⟩, sv4, g4, by omega, kk4⟩ ?_
  rintro j T h' ⟨i, w, rl, rfl, hi, t1, t2, t3, t4, ow, rs, hri, hrl, svi, gm, hm3, kk⟩
  have kk5 : Keep h.next h h' := kk2.trans (kk.less kk2.next)
  have g5 : TBox h' h.next t := g2.keep kk (by omega)
  have l19 := o.l19 g5
  obtain ⟨xw, cw, rfl⟩ := ownSl ow
  have lw : aLoad none (.pointer (some ⟨h2.next, 4, none⟩)) h' = some (.slice xw rl.length cw) := ld_cell gm rfl
  by_cases hlt : i < l.length
  · have hlt' : (i : Int) < l.length := by omega
    have oe : (l[i]).Ok := hl _ (List.getElem_mem hlt)
    obtain ⟨m, off, cap, em, hm, ld, _⟩ := (hs.keep kk5 (Nat.le_refl _)).at (fun e he => (hl e he).len) (by omega)
    have lx := ld h' i hlt rfl
    obtain ⟨h6, e6, b6, k6, n6⟩ := oe.store h'
    have n114 := new114 h'
    have tk : l.take (i + 1) = l.take i ++ [l[i]] := by rw [List.take_add_one, List.getElem?_eq_getElem hlt]; rfl
    generalize l[i] = e at lx oe e6 b6 tk
    have b6s : EBox (h6.skip 1) h'.next e := b6
    have x32 := oe.l32 b6s
    have x33 := oe.l33 b6s
    have c32 := cut_arr (k := 32) (o := 0) b6s
    have c80 := cut_arr (k := 80) (o := 34) b6s
    simp only [Nat.zero_mul, Nat.add_zero, ite_self, Nat.sub_zero] at c32 c80
    have hd6 : h6.get h6.next = .dead := ((kk5.trans (k6.less kk5.next)).wf hw) _ (Nat.le_refl _)
    have lw6 : aLoad none (.pointer (some ⟨h2.next, 4, none⟩)) (h6.skip 1) = some (.slice xw rl.length cw) := ld_cell (H := h6.skip 1) (show (h6.skip 1).get h2.next = _ from (k6.get _ hm3).trans gm) rfl
    obtain ⟨r1, h7, e7, o7, k7⟩ := part_spec L d _ _ 0 32 (h6.skip 1) (ent_ids oe b6s (by rw [AHeap.next_skip]; omega)) (by rw [oe.i]; omega) (by rw [oe.i]; omega)
    have b7 : EBox h7 h'.next e := (k7.get _ (by rw [AHeap.next_skip]; omega)).trans b6s
    have y32 := oe.l32 b7
    have y33 := oe.l33 b7
    have d80 := cut_arr (k := 80) (o := 34) b7
    simp only [Nat.zero_mul, Nat.add_zero, ite_self, Nat.sub_zero] at d80
    have hd7 : h7.get h6.next = .dead := (k7.get _ (by rw [AHeap.next_skip]; omega)).trans hd6
    have gm7 : h7.get h2.next = .row false 0 (.vals (r7 t.s t.a t.b (.slice xi ni ci) (.slice xw rl.length cw) t.at_ t.be)) := (k7.get _ (by rw [AHeap.next_skip]; omega)).trans ((k6.get _ hm3).trans gm)
    have lw7 : aLoad none (.pointer (some ⟨h2.next, 4, none⟩)) h7 = some (.slice xw rl.length cw) := ld_cell gm7 rfl
    have n7 : h6.next < h7.next := by have := k7.next; rw [AHeap.next_skip] at this; omega
    obtain ⟨r2, h8, e8, o8, k8⟩ := part_spec L d _ _ 0 80 h7 (ent_rest oe b7 (by omega)) (by rw [oe.r]; omega) (by rw [oe.r]; omega)
    have b8 : EBox h8 h'.next e := (k8.get _ (by omega)).trans b7
    have z32 := oe.l32 b8
    have z33 := oe.l33 b8
    have hd8 : h8.get h6.next = .dead := (k8.get _ n7).trans hd7
    have gm8 := (k8.get h2.next (by omega)).trans gm7
    have lw8 : aLoad none (.pointer (some ⟨h2.next, 4, none⟩)) h8 = some (.slice xw rl.length cw) := ld_cell gm8 rfl
    have i0 : (e.ids.drop 0).take 32 = e.ids := by rw [List.drop_zero, List.take_of_length_le (by rw [oe.i]; omega)]
    rw [i0] at o7
    have s7 := o7.sl
    obtain ⟨x1, c1, rfl⟩ := s7.val
    have i80 : (e.rest.drop 0).take 80 = e.rest := by rw [List.drop_zero, List.take_of_length_le (by rw [oe.r]; omega)]
    rw [i80] at o8
    have s8r := o8.sl
    obtain ⟨x2, c2, rfl⟩ := s8r.val
    generalize hnr : e.rest.length = nr at e8 s8r
    have s8 := s7.keep k8 (Nat.le_refl _)
    have s9 := slB_set s8 hd8 (.row false 0 (.vals [.slice x1 e.ids.length c1, .int .i64 e.a, .int .i64 e.b, .slice x2 nr c2]))
    have s9r := slB_set s8r hd8 (.row false 0 (.vals [.slice x1 e.ids.length c1, .int .i64 e.a, .int .i64 e.b, .slice x2 nr c2]))
    have n8 : h7.next ≤ h8.next := k8.next
    have k68 : Keep h6.next h6 h8 := ((Keep.refl h6.next h6).skip 1).trans ((k7.less (by rw [AHeap.next_skip]; omega)).trans (k8.less (by omega)))
    have k58 : Keep h'.next h' h8 := k6.trans (k68.less (by omega))
    have k9 : Keep h'.next h' (h8.set h6.next (.row false 0 (.vals [.slice x1 e.ids.length c1, .int .i64 e.a, .int .i64 e.b, .slice x2 nr c2]))) := k58.set (by omega) (by omega) _
    have n9 : (h8.set h6.next (.row false 0 (.vals [.slice x1 e.ids.length c1, .int .i64 e.a, .int .i64 e.b, .slice x2 nr c2]))).next = h8.next := AHeap.next_set _ _ _
    have g9 : (h8.set h6.next (.row false 0 (.vals [.slice x1 e.ids.length c1, .int .i64 e.a, .int .i64 e.b, .slice x2 nr c2]))).get h6.next = .row false 0 (.vals [.slice x1 e.ids.length c1, .int .i64 e.a, .int .i64 e.b, .slice x2 nr c2]) := by rw [AHeap.get_set, if_pos rfl]
    have gm9 := (k9.get h2.next hm3).trans gm
    have ow9 := ow.keep k9 (Nat.le_refl _)
    have rl9 := hrl.keep k9 (Nat.le_refl _)
    have svi9 := svi.keep k9 (Nat.le_refl _)
    obtain ⟨w10, h10, e10, o10, k10, f10⟩ := push_two (k := EKR) ow9 g9 rfl (by decide) (by rw [n9]; omega) (by show (rl.length + 1) * 64 ≤ _; omega) (by omega)
    obtain ⟨G, hG⟩ : ∃ G, h8.set h6.next (.row false 0 (.vals [.slice x1 e.ids.length c1, .int .i64 e.a, .int .i64 e.b, .slice x2 nr c2])) = G := ⟨_, rfl⟩
    rw [hG] at s9 s9r k9 n9 g9 gm9 ow9 rl9 svi9 e10 f10 k10
    have gm10 : h10.get h2.next = .row false 0 (.vals (r7 t.s t.a t.b (.slice xi ni ci) (.slice xw rl.length cw) t.at_ t.be)) := by
      refine (f10 _ (by omega) ?_).trans gm9
      intro m0 o0 n0 c0 ew
      rcases ow9.2 with ⟨h0, ew2⟩ | ⟨h0, m9, ew2, a1, _⟩
      · rw [ew] at ew2; cases ew2
      · rw [ew] at ew2
        simp only [Value.slice.injEq, Option.some.injEq, Addr.mk.injEq] at ew2
        omega
    obtain ⟨x10, c10, rfl⟩ := ownSl o10
    have st10 := st7 gm10 x10 (rl.length + 1) c10
    have n10 : G.next ≤ h10.next := k10.next
    have mv : ∀ v ids, 0 < ids.length → SlB G v ids → SlB (h10.set h2.next (.row false 0 (.vals (r7 t.s t.a t.b (.slice xi ni ci) (.slice x10 (rl.length + 1) c10) t.at_ t.be)))) v ids := by
      intro v ids h0 sv
      refine slB_move sv (by rw [AHeap.next_set]; exact n10) ?_
      intro m' o' n' c' ev' hlt'
      rw [AHeap.get_set, if_neg (fun e => sb_ne sv h0 gm9 r7_no _ _ _ _ ev' e)]
      refine f10 _ hlt' ?_
      intro m0 o0 n0 c0 ew
      rcases ow9.2 with ⟨hz, ew2⟩ | ⟨hz, m9, ew2, _, _, gw⟩
      · rw [ew] at ew2; cases ew2
      · rw [ew] at ew2
        simp only [Value.slice.injEq, Option.some.injEq, Addr.mk.injEq] at ew2
        rw [ew2.1.1]
        exact sb_ne sv h0 gw rs.no _ _ _ _ ev'
    have k11 : Keep h2.next h2 (h10.set h2.next (.row false 0 (.vals (r7 t.s t.a t.b (.slice xi ni ci) (.slice x10 (rl.length + 1) c10) t.at_ t.be)))) :=
      ((kk.trans (k9.less (by omega))).trans (k10.less (by omega))).set (Nat.le_refl _) (by omega) _
    have rl11 : RL (h10.set h2.next (.row false 0 (.vals (r7 t.s t.a t.b (.slice xi ni ci) (.slice x10 (rl.length + 1) c10) t.at_ t.be)))) (rl ++ [(.slice x1 e.ids.length c1, e.a, e.b, .slice x2 nr c2)]) (l.take (i + 1)) := by
      rw [tk]
      refine ⟨by rw [List.length_append, List.length_append, rl9.1]; rfl, ?_⟩
      intro k h1 h2
      by_cases hk : k < rl.length
      · have hk2 : k < (l.take i).length := by rw [← rl9.1]; exact hk
        obtain ⟨a1, a2, a3, a4⟩ := rl9.2 k hk hk2
        rw [List.getElem_append_left hk, List.getElem_append_left hk2]
        exact ⟨a1, a2, mv _ _ (by rw [(hl _ (List.mem_of_mem_take (List.getElem_mem hk2))).i]; omega) a3, mv _ _ (by rw [(hl _ (List.mem_of_mem_take (List.getElem_mem hk2))).r]; omega) a4⟩
      · have hk3 : k = rl.length := by rw [List.length_append] at h1; simp at h1; omega
        have hk4 : ¬ k < (l.take i).length := by rw [← rl9.1]; exact hk
        rw [List.getElem_append_right (by omega), List.getElem_append_right (by omega)]
        simp only [List.getElem_singleton]
        exact ⟨trivial, trivial, mv _ _ (by rw [oe.i]; omega) s9, mv _ _ (by rw [oe.r]; omega) s9r⟩
    have o11 : Own (h2.next + 1) (h10.set h2.next (.row false 0 (.vals (r7 t.s t.a t.b (.slice xi ni ci) (.slice x10 (rl.length + 1) c10) t.at_ t.be)))) 4 (.slice x10 (rl.length + 1) c10) (rl.length + 1) (flatC rEnc (rl ++ [(.slice x1 e.ids.length c1, e.a, e.b, .slice x2 nr c2)])) := by
      have := ownK (h' := h10.set h2.next (.row false 0 (.vals (r7 t.s t.a t.b (.slice xi ni ci) (.slice x10 (rl.length + 1) c10) t.at_ t.be)))) o10 (by rw [AHeap.next_set]; omega) (fun m hm _ => by rw [AHeap.get_set, if_neg (by omega)])
      simpa [flatC_app, flatC, rEnc] using this
    have rs11 : RS (rl ++ [(.slice x1 e.ids.length c1, e.a, e.b, .slice x2 nr c2)]) := by
      intro p hp
      rcases List.mem_append.1 hp with hp | hp
      · exact rs p hp
      · rw [List.mem_singleton] at hp; subst hp; exact ⟨⟨_, _, _, rfl⟩, ⟨_, _, _, rfl⟩⟩
    have g11 : (h10.set h2.next (.row false 0 (.vals (r7 t.s t.a t.b (.slice xi ni ci) (.slice x10 (rl.length + 1) c10) t.at_ t.be)))).get h2.next = .row false 0 (.vals (r7 t.s t.a t.b (.slice xi ni ci) (.slice x10 (rl.length + 1) c10) t.at_ t.be)) := by rw [AHeap.get_set, if_pos rfl]
    have e7' : (En L (d + 1)).go 47 [.slice (some ⟨h'.next, 0, none⟩) 32 32, .int .i64 0, .int .i64 32] (h6.skip 1) = some (.slice x1 e.ids.length c1, h7) := e7
    have e8' : (En L (d + 1)).go 47 [.slice (some ⟨h'.next, 34, none⟩) 80 80, .int .i64 0, .int .i64 80] h7 = some (.slice x2 nr c2, h8) := e8
    have rl11l : (rl ++ [((.slice x1 e.ids.length c1 : Value), e.a, e.b, (.slice x2 nr c2 : Value))]).length = rl.length + 1 := by simp
    rw [em] at l19
    simp (disch := omega) [t1, t2, t3, t4, l19, hlt', aIndexSl_ok, lx, n114, e6, lw6, c32, x32, x33, c80, e7', d80, y33, y32, lw7, hd7, AObj.live, e8', z33, z32, lw8, hd8, AHeap.get_skip, b4R, lit4R, hG, e10, st10, skip0', wrapF_i64 (n := (i : Int) + 1) (by omega) (by omega)]
    exact ⟨l.length - (i + 1), by omega, i + 1, .slice x10 (rl.length + 1) c10, _, rfl, by omega, by simp [t1], by simp [t2], by simp [t3], by simp, by rw [rl11l]; exact o11, rs11, by rw [rl11l]; omega, rl11, mv _ _ (by rw [o.i]; omega) svi9, g11, by rw [AHeap.next_set]; omega, k11⟩
  · have hie : i = l.length := by omega
    subst hie
    have gz5 := (kk.get h1.next (by omega)).trans gz
    have lm := ld_agg gm (n := 7) rfl
    have sf := store_at gz5 (r7 t.s t.a t.b (.slice xi ni ci) (.slice xw rl.length cw) t.at_ t.be).toArray 7 rfl rfl rfl
    rw [ev] at l19
    have kf : Keep h.next h (h'.set h1.next (.row false 0 (.vals (r7 t.s t.a t.b (.slice xi ni ci) (.slice xw rl.length cw) t.at_ t.be)))) := kk5.set (by omega) (by omega) _
    have lf : aLoad (some 7) (.pointer (some ⟨h1.next, 0, none⟩)) (h'.set h1.next (.row false 0 (.vals (r7 t.s t.a t.b (.slice xi ni ci) (.slice xw rl.length cw) t.at_ t.be)))) = some (.agg (r7 t.s t.a t.b (.slice xi ni ci) (.slice xw rl.length cw) t.at_ t.be).toArray) := ld_agg (by rw [AHeap.get_set, if_pos rfl]) rfl
    rw [List.take_length] at hrl
    have hrl2 : RL (h'.set h1.next (.row false 0 (.vals (r7 t.s t.a t.b (.slice xi ni ci) (.slice xw rl.length cw) t.at_ t.be)))) rl l := by
      refine ⟨hrl.1, fun k a1 a2 => ?_⟩
      obtain ⟨b1, b2, b3, b4⟩ := hrl.2 k a1 a2
      refine ⟨b1, b2, slB_move b3 (by rw [AHeap.next_set]; omega) ?_, slB_move b4 (by rw [AHeap.next_set]; omega) ?_⟩
      · intro m' o' n' c' ev' hlt'
        rw [AHeap.get_set, if_neg (fun e => sb_ne b3 (by rw [(hl _ (List.getElem_mem a2)).i]; omega) gz5 r7_no _ _ _ _ ev' e)]
      · intro m' o' n' c' ev' hlt'
        rw [AHeap.get_set, if_neg (fun e => sb_ne b4 (by rw [(hl _ (List.getElem_mem a2)).r]; omega) gz5 r7_no _ _ _ _ ev' e)]
    have sl2 : SlC rEnc 4 (h'.set h1.next (.row false 0 (.vals (r7 t.s t.a t.b (.slice xi ni ci) (.slice xw rl.length cw) t.at_ t.be)))) (.slice xw rl.length cw) rl := by
      have o2 := ownK (h' := h'.set h1.next (.row false 0 (.vals (r7 t.s t.a t.b (.slice xi ni ci) (.slice xw rl.length cw) t.at_ t.be)))) ow (by rw [AHeap.next_set]; omega) (fun m hm _ => by rw [AHeap.get_set, if_neg (by omega)])
      refine ⟨o2.1, ?_⟩
      rcases o2.2 with ⟨a1, a2⟩ | ⟨a0, m, a1, a2, a3, a4⟩
      · exact .inl ⟨a2, a1⟩
      · refine .inr ⟨m, 0, rl.length, false, 4, _, a1, Nat.le_refl _, a3, a4, .inr rfl, ?_, ?_⟩
        · show 0 + rl.length * 4 ≤ (flatC rEnc rl).length; rw [o2.1]; omega
        · show ((flatC rEnc rl).drop 0).take (rl.length * 4) = _
          rw [List.drop_zero, List.take_of_length_le (by rw [o2.1]; omega)]
    have svi2 : SlB (h'.set h1.next (.row false 0 (.vals (r7 t.s t.a t.b (.slice xi ni ci) (.slice xw rl.length cw) t.at_ t.be)))) (.slice xi ni ci) t.id := by
      refine slB_move svi (by rw [AHeap.next_set]; omega) ?_
      intro m' o' n' c' ev' hlt'
      rw [AHeap.get_set, if_neg (fun e => sb_ne svi (by rw [o.i]; omega) gz5 r7_no _ _ _ _ ev' e)]
    simp [t1, t2, t3, t4, l19, lm, sf, lf]
    exact ⟨⟨_, _, rfl, svi2, rl, sl2, hrl2⟩, kf⟩
end
end Go.Proofs.Ytoehafeeoggpkaa.L24

set_option linter.unusedVariables false
set_option linter.unusedSimpArgs false
set_option linter.unnecessarySimpa false
/-! What Apart says: no two have a byte in common. -/
namespace Go.Proofs.Ytoehafeeoggpkaa.L24
open Go Go.Proofs Go.Shelf Go.RowKit Go.Lib Go.Sort Go.AM Go.Proofs.Ytoehafeeoggpkaa.AMC
set_option maxRecDepth 10000
noncomputable section
theorem sortE_perm (l : List (Int × Int)) : (sortE l).Perm l := by
  have h := (pdq_sorts (ltOf cmpE) swoE l.toArray 0 l.toArray.size (Lib.bitLen l.toArray.size) true true (Nat.zero_le _) (Nat.le_refl _) (Or.inl rfl)).1
  have hs := h.1
  have hp := h.2.2
  have e1 : (pdqE l.toArray).extract 0 l.toArray.size = pdqE l.toArray := by
    rw [show l.toArray.size = (pdqE l.toArray).size from hs.symm]; simp
  have e2 : l.toArray.extract 0 l.toArray.size = l.toArray := by simp
  change (((pdqE l.toArray).extract 0 l.toArray.size).toList).Perm _ at hp
  rw [e1, e2] at hp
  exact hp
theorem sortE_sorted (l : List (Int × Int)) : (sortE l).Pairwise fun x y => x.1 ≤ y.1 := by
  have h := (pdq_sorts (ltOf cmpE) swoE l.toArray 0 l.toArray.size (Lib.bitLen l.toArray.size) true true (Nat.zero_le _) (Nat.le_refl _) (Or.inl rfl)).2
  have hsz : (pdqE l.toArray).size = l.toArray.size := pdqE_size _
  rw [List.pairwise_iff_getElem]
  intro i j hi hj hij
  have hl : (sortE l).length = (pdqE l.toArray).size := by simp [sortE]
  have := h i j (Nat.zero_le _) hij (by omega)
  change ltOf cmpE (pdqE l.toArray)[j]! (pdqE l.toArray)[i]! = false at this
  rw [ltE] at this
  have hj2 : j < (pdqE l.toArray).size := by omega
  have hi2 : i < (pdqE l.toArray).size := by omega
  rw [getElem!_pos _ j hj2, getElem!_pos _ i hi2] at this
  simp only [decide_eq_false_iff_not, Int.not_lt] at this
  simpa [sortE] using this
/-- No byte in common. -/
def Dis (x y : Int × Int) : Prop := x.2 ≤ y.1 ∨ y.2 ≤ x.1
theorem Dis.symm {x y : Int × Int} (h : Dis x y) : Dis y x := Or.symm h
def lenS : List (Int × Int) → Int
  | [] => 0
  | x :: l => (x.2 - x.1) + lenS l
theorem lenS_app : ∀ a b, lenS (a ++ b) = lenS a + lenS b
  | [], b => by simp [lenS]
  | x :: a, b => by simp only [List.cons_append, lenS, lenS_app a b]; omega
theorem lenS_perm {a b : List (Int × Int)} (h : a.Perm b) : lenS a = lenS b := by
  induction h with
  | nil => rfl
  | cons x _ ih => simp only [lenS, ih]
  | swap x y l => simp only [lenS]; omega
  | trans _ _ h1 h2 => exact h1.trans h2
theorem lenS_rev (l : List (Int × Int)) : lenS l.reverse = lenS l := lenS_perm (List.reverse_perm l)
/-- What is found so far, behind so many parts that rise. -/
structure Nrm (out done : List (Int × Int)) : Prop where
  pw : out.Pairwise fun a b => b.2 < a.1
  pos : ∀ y ∈ out, y.1 < y.2
  le : lenS out ≤ lenS done
  eq : lenS out = lenS done ↔ done.Pairwise Dis
  nil : out = [] → done = []
  frm : ∀ y ∈ out, ∃ z ∈ done, z.1 = y.1
  to : ∀ y ∈ out, ∃ z ∈ done, z.2 = y.2
  top : ∀ y ∈ out.head?, ∀ z ∈ done, z.2 ≤ y.2
theorem Nrm.step {out done : List (Int × Int)} {x : Int × Int} (a : Nrm out done) (hx : x.1 < x.2) (hs : ∀ z ∈ done, z.1 ≤ x.1) : Nrm (nStep out x) (done ++ [x]) := by
  have hpw : (done ++ [x]).Pairwise Dis ↔ done.Pairwise Dis ∧ ∀ z ∈ done, z.2 ≤ x.1 := by
    rw [List.pairwise_append]
    constructor
    · rintro ⟨h1, _, h3⟩
      refine ⟨h1, fun z hz => ?_⟩
      have := h3 z hz x (List.mem_singleton.2 rfl)
      have := hs z hz
      unfold Dis at *
      omega
    · rintro ⟨h1, h2⟩
      refine ⟨h1, List.pairwise_singleton _ _, fun z hz y hy => ?_⟩
      rw [List.mem_singleton] at hy
      subst hy
      exact .inl (h2 z hz)
  have hlen : lenS (done ++ [x]) = lenS done + (x.2 - x.1) := by rw [lenS_app]; simp [lenS]
  unfold nStep
  rw [if_neg (by omega)]
  cases out with
  | nil =>
    have hd := a.nil rfl
    subst hd
    exact ⟨List.pairwise_singleton _ _, by intro y hy; rw [List.mem_singleton] at hy; subst hy; exact hx, by simp, by simp, by simp, by intro y hy; exact ⟨y, by simpa using hy, rfl⟩, by intro y hy; exact ⟨y, by simpa using hy, rfl⟩, by intro y hy z hz; simp at hy hz; subst hy; subst hz; exact Int.le_refl _⟩
  | cons y r =>
    simp only
    obtain ⟨hp1, hp2⟩ := List.pairwise_cons.1 a.pw
    obtain ⟨z1, hz1, ez1⟩ := a.frm y (List.mem_cons_self ..)
    obtain ⟨z2, hz2, ez2⟩ := a.to y (List.mem_cons_self ..)
    have hyx : y.1 ≤ x.1 := by rw [← ez1]; exact hs z1 hz1
    have hyp := a.pos y (List.mem_cons_self ..)
    have htop := a.top y (by simp)
    have hle := a.le
    have hall : (∀ z ∈ done, z.2 ≤ x.1) ↔ y.2 ≤ x.1 := by
      constructor
      · intro h; rw [← ez2]; exact h z2 hz2
      · intro h z hz; have := htop z hz; omega
    simp only [lenS] at hle
    have heq := a.eq
    simp only [lenS] at heq
    by_cases hc : x.1 ≤ y.2
    · rw [if_pos hc]
      refine ⟨List.pairwise_cons.2 ⟨fun b hb => hp1 b hb, hp2⟩, ?_, ?_, ?_, by simp, ?_, ?_, ?_⟩
      · intro b hb
        rcases List.mem_cons.1 hb with rfl | hb
        · simp only; split <;> omega
        · exact a.pos b (List.mem_cons_of_mem _ hb)
      · rw [hlen]; simp only [lenS]; split <;> omega
      · rw [hlen, hpw, hall, ← heq]; simp only [lenS]; split <;> omega
      · intro b hb
        rcases List.mem_cons.1 hb with rfl | hb
        · exact ⟨z1, List.mem_append_left _ hz1, ez1⟩
        · obtain ⟨z, hz, e⟩ := a.frm b (List.mem_cons_of_mem _ hb); exact ⟨z, List.mem_append_left _ hz, e⟩
      · intro b hb
        rcases List.mem_cons.1 hb with rfl | hb
        · simp only
          split
          · exact ⟨x, List.mem_append_right _ (List.mem_singleton.2 rfl), rfl⟩
          · exact ⟨z2, List.mem_append_left _ hz2, ez2⟩
        · obtain ⟨z, hz, e⟩ := a.to b (List.mem_cons_of_mem _ hb); exact ⟨z, List.mem_append_left _ hz, e⟩
      · intro b hb z hz
        simp only [List.head?_cons, Option.mem_def, Option.some.injEq] at hb
        subst hb
        simp only
        rcases List.mem_append.1 hz with hz | hz
        · have := htop z hz; split <;> omega
        · rw [List.mem_singleton] at hz; subst hz; split <;> omega
    · rw [if_neg hc]
      refine ⟨List.pairwise_cons.2 ⟨?_, a.pw⟩, ?_, ?_, ?_, by simp, ?_, ?_, ?_⟩
      · intro b hb
        rcases List.mem_cons.1 hb with rfl | hb
        · omega
        · have := hp1 b hb; omega
      · intro b hb
        rcases List.mem_cons.1 hb with rfl | hb
        · exact hx
        · exact a.pos b hb
      · rw [hlen]; simp only [lenS]; omega
      · rw [hlen, hpw, hall, ← heq]; simp only [lenS]; omega
      · intro b hb
        rcases List.mem_cons.1 hb with rfl | hb
        · exact ⟨b, List.mem_append_right _ (List.mem_singleton.2 rfl), rfl⟩
        · obtain ⟨z, hz, e⟩ := a.frm b hb; exact ⟨z, List.mem_append_left _ hz, e⟩
      · intro b hb
        rcases List.mem_cons.1 hb with rfl | hb
        · exact ⟨b, List.mem_append_right _ (List.mem_singleton.2 rfl), rfl⟩
        · obtain ⟨z, hz, e⟩ := a.to b hb; exact ⟨z, List.mem_append_left _ hz, e⟩
      · intro b hb z hz
        simp only [List.head?_cons, Option.mem_def, Option.some.injEq] at hb
        subst hb
        rcases List.mem_append.1 hz with hz | hz
        · have := htop z hz; omega
        · rw [List.mem_singleton] at hz; subst hz; exact Int.le_refl _
theorem nrm_fold : ∀ (rest out done : List (Int × Int)), Nrm out done → (∀ x ∈ rest, x.1 < x.2) → (done ++ rest).Pairwise (fun x y => x.1 ≤ y.1) → Nrm (rest.foldl nStep out) (done ++ rest)
  | [], out, done, a, _, _ => by simpa using a
  | x :: rest, out, done, a, hp, hs => by
    have h1 : ∀ z ∈ done, z.1 ≤ x.1 := fun z hz => (List.pairwise_append.1 hs).2.2 z hz x (List.mem_cons_self ..)
    have := nrm_fold rest (nStep out x) (done ++ [x]) (a.step (hp x (List.mem_cons_self ..)) h1) (fun y hy => hp y (List.mem_cons_of_mem _ hy)) (by simpa using hs)
    simpa using this
theorem norm_nrm (l : List (Int × Int)) (hp : ∀ x ∈ l, x.1 < x.2) : Nrm (normR (sortE l)) (sortE l) := by
  have h0 : Nrm [] [] := ⟨List.Pairwise.nil, by simp, Int.le_refl _, by simp, by simp, by simp, by simp, by simp⟩
  have := nrm_fold (sortE l) [] [] h0 (fun x hx => hp x ((sortE_perm l).mem_iff.1 hx)) (by simpa using sortE_sorted l)
  simpa [normR] using this
theorem normE_spec (l : List (Int × Int)) (hp : ∀ x ∈ l, x.1 < x.2) : (lenS (normE l) = lenS l ↔ l.Pairwise Dis) ∧ (normE l).Pairwise Dis ∧ (∀ x ∈ normE l, x.1 < x.2 ∧ (∃ z ∈ l, z.1 = x.1) ∧ ∃ z ∈ l, z.2 = x.2) := by
  have n := norm_nrm l hp
  have pm := sortE_perm l
  refine ⟨?_, ?_, ?_⟩
  · unfold normE
    rw [lenS_rev, ← lenS_perm pm, n.eq]
    exact pm.pairwise_iff (fun {x y} h => Dis.symm h)
  · unfold normE
    rw [List.pairwise_reverse]
    exact n.pw.imp fun {a b} h => .inl (Int.le_of_lt h)
  · intro x hx
    have hx : x ∈ normR (sortE l) := by unfold normE at hx; exact List.mem_reverse.1 hx
    obtain ⟨z, hz, e⟩ := n.frm x hx
    obtain ⟨z2, hz2, e2⟩ := n.to x hx
    exact ⟨n.pos x hx, ⟨z, pm.mem_iff.1 hz, e⟩, ⟨z2, pm.mem_iff.1 hz2, e2⟩⟩
/-- Small enough that nothing is cut off. -/
def Sml (l : List (Int × Int)) : Prop := ∀ x ∈ l, x.1 < x.2 ∧ 0 ≤ x.1 ∧ x.2 ≤ 1099511627776
theorem sum_fold (l : List (Int × Int)) : ∀ (a : Int) (n : Nat), Sml l → 0 ≤ a → a ≤ n * 1099511627776 → n + l.length ≤ 1000000 → l.foldl addW a = a + lenS l ∧ l.foldl addP a = a + lenS l := by
  induction l with
  | nil => intro a n _ _ _ _; simp [lenS]
  | cons x l ih =>
    intro a n h h0 h1 h2
    obtain ⟨b1, b2, b3⟩ := h x (List.mem_cons_self ..)
    rw [List.length_cons] at h2
    have e1 : wrapF .i64 (x.2 - x.1) = x.2 - x.1 := wrapF_i64 (by omega) (by omega)
    have e2 : wrapF .i64 (a + (x.2 - x.1)) = a + (x.2 - x.1) := wrapF_i64 (by omega) (by omega)
    have ih := ih (a + (x.2 - x.1)) (n + 1) (fun y hy => h y (List.mem_cons_of_mem _ hy)) (by omega) (by omega) (by omega)
    have p0 : x.2 - x.1 > 0 := by omega
    rw [List.foldl_cons, List.foldl_cons]
    have a1 : addW a x = a + (x.2 - x.1) := by unfold addW; rw [e1, e2]
    have a2 : addP a x = a + (x.2 - x.1) := by unfold addP; rw [e1, if_pos p0, e2]
    rw [a1, a2, ih.1, ih.2]
    have : lenS (x :: l) = (x.2 - x.1) + lenS l := rfl
    rw [this]
    constructor <;> omega
theorem normE_len (l : List (Int × Int)) : (normE l).length ≤ l.length := norm_len l
/-- Apart: no two have a byte in common. -/
theorem apartB_iff (l : List (Int × Int)) (h : Sml l) (hn : l.length ≤ 1000000) : apartB l = true ↔ l.Pairwise Dis := by
  have hp : ∀ x ∈ l, x.1 < x.2 := fun x hx => (h x hx).1
  obtain ⟨a1, a2, a3⟩ := normE_spec l hp
  have s1 : Sml (normE l) := by
    intro x hx
    obtain ⟨b1, ⟨z, hz, e⟩, ⟨z2, hz2, e2⟩⟩ := a3 x hx
    have := h z hz
    have := h z2 hz2
    omega
  obtain ⟨c1, c2, c3⟩ := normE_spec (normE l) fun x hx => (s1 x hx).1
  have s2 : Sml (normE (normE l)) := by
    intro x hx
    obtain ⟨b1, ⟨z, hz, e⟩, ⟨z2, hz2, e2⟩⟩ := c3 x hx
    have := s1 z hz
    have := s1 z2 hz2
    omega
  have n1 := normE_len l
  have n2 := normE_len (normE l)
  have e1 := (sum_fold (normE (normE l)) 0 0 s2 (by omega) (by omega) (by omega)).1
  have e2 := (sum_fold l 0 0 h (by omega) (by omega) (by omega)).2
  unfold apartB sumW lenW
  rw [decide_eq_true_iff, e1, e2, Int.zero_add, Int.zero_add, c1.2 a2]
  exact a1
end
end Go.Proofs.Ytoehafeeoggpkaa.L24

set_option linter.unusedVariables false
set_option linter.unusedSimpArgs false
/-! The document's places where something begins or ends: two extents. -/
namespace Go.Proofs.Ytoehafeeoggpkaa.L24
open Go Go.Proofs Go.AM
def putL : List Int → Int → List Int
  | [], n => [n]
  | x :: l, n => if n ≤ x then (if n < x then n :: x :: l else x :: l) else x :: putL l n
theorem putL_lt {n : Int} : ∀ {a : List Int} (b : List Int), (∀ z ∈ a, z < n) → putL (a ++ b) n = a ++ putL b n
  | [], b, _ => rfl
  | x :: a, b, h => by
    have h1 := h x (List.mem_cons_self ..)
    rw [List.cons_append, putL, if_neg (by omega), putL_lt b (fun z hz => h z (List.mem_cons_of_mem _ hz))]; rfl
theorem putL_ge {n : Int} : ∀ {a : List Int} (b : List Int), (∃ z ∈ a, n ≤ z) → putL (a ++ b) n = putL a n ++ b
  | [], b, h => by obtain ⟨z, hz, _⟩ := h; cases hz
  | x :: a, b, h => by
    by_cases h1 : n ≤ x
    · by_cases h2 : n < x
      · simp only [List.cons_append, putL, if_pos h1, if_pos h2]
      · simp only [List.cons_append, putL, if_pos h1, if_neg h2]
    · obtain ⟨z, hz, hn⟩ := h
      rcases List.mem_cons.1 hz with rfl | hz
      · exact absurd hn h1
      · simp only [List.cons_append, putL, if_neg h1, putL_ge b ⟨z, hz, hn⟩]
theorem putL_mem {n z : Int} : ∀ {l : List Int}, z ∈ putL l n ↔ z = n ∨ z ∈ l
  | [] => by simp [putL]
  | x :: l => by
    have ih := putL_mem (n := n) (z := z) (l := l)
    unfold putL
    split
    · split
      · simp
      · have : n = x := by omega
        subst this
        simp
    · simp only [List.mem_cons, ih]
      constructor
      · rintro (h | h | h)
        · exact .inr (.inl h)
        · exact .inl h
        · exact .inr (.inr h)
      · rintro (h | h | h)
        · exact .inr (.inl h)
        · exact .inl h
        · exact .inr (.inr h)
theorem putL_sorted {n : Int} : ∀ {l : List Int}, l.Pairwise (· < ·) → (putL l n).Pairwise (· < ·)
  | [], _ => by simp [putL]
  | x :: l, h => by
    obtain ⟨h1, h2⟩ := List.pairwise_cons.1 h
    unfold putL
    split
    · split
      · refine List.pairwise_cons.2 ⟨?_, h⟩
        intro z hz
        rcases List.mem_cons.1 hz with rfl | hz
        · assumption
        · have := h1 z hz; omega
      · exact h
    · refine List.pairwise_cons.2 ⟨?_, putL_sorted h2⟩
      intro z hz
      rcases putL_mem.1 hz with rfl | hz
      · omega
      · exact h1 z hz
def marks2 (x y : Int × Int) : List Int := putL (putL (putL (putL [] x.1) x.2) y.1) y.2
def inE (x : Int × Int) (z : Int) : Bool := decide (x.1 ≤ z ∧ z < x.2)
theorem marks2_sorted (x y : Int × Int) : (marks2 x y).Pairwise (· < ·) := putL_sorted (putL_sorted (putL_sorted (putL_sorted List.Pairwise.nil)))
theorem marks2_mem {x y : Int × Int} {z : Int} : z ∈ marks2 x y ↔ z = y.2 ∨ z = y.1 ∨ z = x.2 ∨ z = x.1 := by
  simp only [marks2, putL_mem, List.not_mem_nil, or_false]
theorem sorted_ex {l : List Int} (hs : l.Pairwise (· < ·)) {a b : Int} (ha : a ∈ l) (hb : b ∈ l) (hab : a < b) : ∃ i, ∃ h : i + 1 < l.length, l[i] = a := by
  obtain ⟨i, hi, rfl⟩ := List.getElem_of_mem ha
  obtain ⟨k, hk, rfl⟩ := List.getElem_of_mem hb
  refine ⟨i, ?_, rfl⟩
  rw [List.pairwise_iff_getElem] at hs
  by_cases c : i < k
  · omega
  · exfalso
    by_cases e : k = i
    · subst e; omega
    · have := hs k i hk hi (by omega); omega
theorem both_iff {x y : Int × Int} (hx : x.1 < x.2) (hy : y.1 < y.2) : (∃ i, ∃ h : i + 1 < (marks2 x y).length, inE x (marks2 x y)[i] = true ∧ inE y (marks2 x y)[i] = true) ↔ ¬ Dis x y := by
  constructor
  · rintro ⟨i, h, h1, h2⟩
    simp only [inE, decide_eq_true_eq] at h1 h2
    unfold Dis
    omega
  · intro h
    unfold Dis at h
    by_cases c : x.1 ≤ y.1
    · obtain ⟨i, hi, e⟩ := sorted_ex (marks2_sorted x y) (a := y.1) (b := y.2) (marks2_mem.2 (.inr (.inl rfl))) (marks2_mem.2 (.inl rfl)) hy
      refine ⟨i, hi, ?_⟩
      rw [e]
      simp only [inE, decide_eq_true_eq]; omega
    · obtain ⟨i, hi, e⟩ := sorted_ex (marks2_sorted x y) (a := x.1) (b := x.2) (marks2_mem.2 (.inr (.inr (.inr rfl)))) (marks2_mem.2 (.inr (.inr (.inl rfl)))) hx
      refine ⟨i, hi, ?_⟩
      rw [e]
      simp only [inE, decide_eq_true_eq]; omega
end Go.Proofs.Ytoehafeeoggpkaa.L24

set_option linter.unusedVariables false
set_option linter.unusedSimpArgs false
set_option linter.unnecessarySimpa false
/-! The document's sets: marks. -/
namespace Go.Proofs.Ytoehafeeoggpkaa.L24
open Go Go.Proofs Go.Shelf Go.RowKit Go.Lib Go.Sort Go.AM Go.Proofs.Ytoehafeeoggpkaa.AMC
set_option maxRecDepth 10000
noncomputable section
abbrev EKI : ElK := ⟨1, 8, [.int .i64 0]⟩
def encI (z : Int) : List Value := [.int .i64 z]
theorem lit1I (z : Int) (h : AHeap) : aBuildSlice true EKI 1 [(0, .int .i64 z)] h = some (.slice (some ⟨h.next, 0, none⟩) 1 1, h.new (.row false 0 (.vals [.int .i64 z]))) := rfl
theorem ownC {α : Type} {enc : α → List Value} {es N : Nat} {h : AHeap} {v : Value} {l : List α} (a : Own N h es v l.length (flatC enc l)) : SlC enc es h v l := by
  refine ⟨a.1, ?_⟩
  rcases a.2 with ⟨h1, h2⟩ | ⟨h0, m, h1, h2, h3, h4⟩
  · exact .inl ⟨h2, h1⟩
  · refine .inr ⟨m, 0, l.length, false, es, _, h1, Nat.le_refl _, h3, h4, .inr rfl, ?_, ?_⟩
    · show 0 + l.length * es ≤ (flatC enc l).length; rw [a.1]; omega
    · show ((flatC enc l).drop 0).take (l.length * es) = _
      rw [List.drop_zero, List.take_of_length_le (by rw [a.1]; omega)]
theorem pushC {α : Type} {enc : α → List Value} {k : ElK} {N : Nat} {h : AHeap} {w : Value} {out : List α} (ow : Own N h k.es w out.length (flatC enc out)) (hN : N ≤ h.next) (x : α) (hx : (enc x).length = k.es) (hes : 0 < k.es) (hb : (out.length + 1) * k.bytes ≤ 140737488355328) (hn : out.length + 1 ≤ 1099511627776) :
    ∃ w' h', aAppend k w (.slice (some ⟨h.next, 0, none⟩) 1 1) (h.new (.row false 0 (.vals (enc x)))) = some (w', h') ∧ Own N h' k.es w' (out ++ [x]).length (flatC enc (out ++ [x])) ∧ Keep N h h' := by
  have k8 : Keep h.next h (h.new (.row false 0 (.vals (enc x)))) := (Keep.refl _ _).new (Nat.le_refl _) _
  have g8 : (h.new (.row false 0 (.vals (enc x)))).get h.next = .row false 0 (.vals (enc x)) := by rw [AHeap.get_new, if_pos rfl]
  obtain ⟨w', h', e, o, kk⟩ := push_one (k := k) (ow.keep k8 (Nat.le_refl _)) g8 hx hes (by rw [AHeap.next_new]; omega) hb hn
  exact ⟨w', h', e, by simpa [flatC_app, flatC] using o, (k8.less hN).trans kk⟩
theorem pushI {N : Nat} {h : AHeap} {w : Value} {out : List Int} (ow : Own N h 1 w out.length (flatC encI out)) (hN : N ≤ h.next) (hl : out.length < 1000000000) (z : Int) :
    ∃ w' h', aAppend EKI w (.slice (some ⟨h.next, 0, none⟩) 1 1) (h.new (.row false 0 (.vals [.int .i64 z]))) = some (w', h') ∧ Own N h' 1 w' (out ++ [z]).length (flatC encI (out ++ [z])) ∧ Keep N h h' :=
  pushC (k := EKI) ow hN z rfl (by decide) (by show _ * 8 ≤ _; omega) (by omega)
def PuI (v : Value) (l : List Int) (z : Int) (hs : AHeap) (j : Nat) (T : Tr Value) (h' : AHeap) : Prop :=
  ∃ (i : Nat) (w : Value) (b : Bool) (out : List Int), j = l.length - i ∧ i ≤ l.length ∧ T.get 0 = some v ∧ T.get 1 = some (.int .i64 z) ∧ T.get 5 = some w ∧ T.get 6 = some (.bool b) ∧ T.get 7 = some (.int .i64 i) ∧ ((b = false ∧ (∀ y ∈ l.take i, y < z) ∧ out = l.take i) ∨ (b = true ∧ (∃ y ∈ l.take i, z ≤ y) ∧ out = putL (l.take i) z)) ∧ out.length ≤ 2 * i ∧ Own hs.next h' 1 w out.length (flatC encI out) ∧ Keep hs.next hs h'
set_option maxHeartbeats 4000000 in
theorem put_spec (L d : Nat) (v : Value) (l : List Int) (z : Int) (h : AHeap) (hs : SlC encI 1 h v l) (hl : l.length < 1000000) (hL : 1000000000 < L) :
    ∃ r h', (En L (d + 1)).go 95 [v, .int .i64 z] h = some (r, h') ∧ Own h.next h' 1 r (putL l z).length (flatC encI (putL l z)) ∧ Keep h.next h h' := by
  refine go_ex (R := fun r h' => Own h.next h' 1 r (putL l z).length (flatC encI (putL l z)) ∧ Keep h.next h h') (show tabF 95 = some (.code a95) by rfl) rfl ?_
  unfold a95
  obtain ⟨x, c, ev⟩ := hs.val
  simp
  refine W_loop (PuI v l z h) l.length (by show _ < L; omega) ⟨0, .slice none 0 0, false, [], rfl, by omega, by simp, by simp, by simp, by simp, by simp, .inl ⟨rfl, by simp, by simp⟩, by simp, Own.nil _ _ _, Keep.refl _ _⟩ ?_
  rintro j T h' ⟨i, w, b, out, rfl, hi, t0, t1, t5, t6, t7, hb, ho, ow, kk⟩
  by_cases hlt : i < l.length
  · have hlt' : (i : Int) < l.length := by omega
    obtain ⟨m, off, cap, em, hm, _, ld⟩ := hs.at (enc := encI) (es := 1) (fun e he => rfl) (by omega)
    rw [em] at t0
    have tk : l.take (i + 1) = l.take i ++ [l[i]] := by rw [List.take_add_one, List.getElem?_eq_getElem hlt]; rfl
    have ldx : ∀ H : AHeap, Keep h.next h H → aLoad none (.pointer (some ⟨m, off + i, none⟩)) H = some (.int .i64 l[i]) := fun H g => by simpa using ld H i 0 (.int .i64 l[i]) hlt (g.get m hm) (by omega) rfl
    have d0 := ldx h' kk
    have step : ∀ (T6 : Tr Value) (h6 : AHeap) (w6 : Value) (b6 : Bool) (out6 : List Int), T6.get 0 = some (.slice (some ⟨m, off, none⟩) l.length cap) → T6.get 1 = some (.int .i64 z) → T6.get 5 = some w6 → T6.get 6 = some (.bool b6) → T6.get 7 = some (.int .i64 (i + 1)) → ((b6 = false ∧ (∀ y ∈ l.take i ++ [l[i]], y < z) ∧ out6 = l.take i ++ [l[i]]) ∨ (b6 = true ∧ (∃ y ∈ l.take i ++ [l[i]], z ≤ y) ∧ out6 = putL (l.take i ++ [l[i]]) z)) → out6.length ≤ 2 * (i + 1) → Own h.next h6 1 w6 out6.length (flatC encI out6) → Keep h.next h h6 → ∃ j', j' < l.length - i ∧ PuI v l z h j' T6 h6 := fun T6 h6 w6 b6 out6 a0 a1 a5 a6 a7 ab al o6 k6 =>
      ⟨l.length - (i + 1), by omega, i + 1, w6, b6, out6, rfl, by omega, by rw [a0, em], a1, a5, a6, by rw [a7]; simp, by rw [tk]; exact ab, al, o6, k6⟩
    generalize l[i] = y at d0 ldx step
    generalize l.take i = pre at hb step
    have n1 := wrapF_i64 (n := (i : Int) + 1) (by omega) (by omega)
    obtain ⟨wy, hy, ey, oy, ky⟩ := pushI ow kk.next (by omega) y
    have kky := kk.trans ky
    rcases hb with ⟨rfl, hall, rfl⟩ | ⟨rfl, hex, rfl⟩
    · by_cases h1 : z ≤ y
      · by_cases h2 : z < y
        · obtain ⟨w1, q1, e1, o1, k1⟩ := pushI ow kk.next (by omega) z
          have kk1 := kk.trans k1
          have d1 := ldx q1 kk1
          obtain ⟨w2, q2, e2, o2, k2⟩ := pushI o1 kk1.next (by simp; omega) y
          simp (disch := omega) [t0, t1, t5, t6, t7, hlt', aIndexSl_ok, d0, d1, h1, h2, lit1I, e1, e2, n1]
          refine step _ _ w2 true _ (by simp [t0]) (by simp [t1]) (by simp) (by simp) (by simp) (.inr ⟨rfl, ⟨y, by simp, h1⟩, ?_⟩) (by simp; omega) o2 (kk1.trans k2)
          rw [putL_lt _ hall, putL, if_pos h1, if_pos h2]; simp
        · simp (disch := omega) [t0, t1, t5, t6, t7, hlt', aIndexSl_ok, d0, h1, h2, lit1I, ey, n1]
          refine step _ _ wy true _ (by simp [t0]) (by simp [t1]) (by simp) (by simp) (by simp) (.inr ⟨rfl, ⟨y, by simp, h1⟩, ?_⟩) (by simp; omega) oy kky
          rw [putL_lt _ hall, putL, if_pos h1, if_neg h2]
      · simp (disch := omega) [t0, t1, t5, t6, t7, hlt', aIndexSl_ok, d0, h1, lit1I, ey, n1]
        refine step _ _ wy false _ (by simp [t0]) (by simp [t1]) (by simp) (by simp [t6]) (by simp) (.inl ⟨rfl, ?_, rfl⟩) (by simp; omega) oy kky
        intro q hq
        rcases List.mem_append.1 hq with hq | hq
        · exact hall q hq
        · rw [List.mem_singleton.1 hq]; omega
    · simp (disch := omega) [t0, t1, t5, t6, t7, hlt', aIndexSl_ok, d0, lit1I, ey, n1]
      obtain ⟨q, hq, hz⟩ := hex
      refine step _ _ wy true _ (by simp [t0]) (by simp [t1]) (by simp) (by simp [t6]) (by simp) (.inr ⟨rfl, ⟨q, List.mem_append_left _ hq, hz⟩, ?_⟩) (by simp; omega) oy kky
      rw [putL_ge _ ⟨q, hq, hz⟩]
  · have hie : i = l.length := by omega
    subst hie
    rw [ev] at t0
    rw [List.take_length] at hb
    rcases hb with ⟨rfl, hall, rfl⟩ | ⟨rfl, hex, rfl⟩
    · obtain ⟨w1, q1, e1, o1, k1⟩ := pushI ow kk.next (by omega) z
      simp (disch := omega) [t0, t1, t5, t6, t7, lit1I, e1]
      have e : putL out z = out ++ [z] := by
        have := putL_lt (n := z) [] hall
        rw [List.append_nil] at this
        rw [this]; rfl
      rw [e]
      exact ⟨by simpa using o1, kk.trans k1⟩
    · simp (disch := omega) [t0, t1, t5, t6, t7]
      exact ⟨ow, kk⟩
theorem putL_len (l : List Int) (z : Int) : (putL l z).length ≤ l.length + 1 := by
  induction l with
  | nil => simp [putL]
  | cons x l ih =>
    unfold putL
    split
    · split <;> simp
    · simp; omega
def putE (m : List Int) (x : Int × Int) : List Int := putL (putL m x.1) x.2
def marksS (m : List Int) (s : List (Int × Int)) : List Int := s.foldl putE m
def marksF (ss : List (List (Int × Int))) : List Int := ss.foldl marksS []
theorem marksF_two (x y : Int × Int) : marksF [[x], [y]] = marks2 x y := rfl
theorem marksS_take (m : List Int) (s : List (Int × Int)) {k : Nat} (hk : k < s.length) : marksS m (s.take (k + 1)) = putE (marksS m (s.take k)) s[k] := by
  unfold marksS
  rw [List.take_add_one, List.foldl_append, List.getElem?_eq_getElem hk]
  rfl
theorem marksF_take (ss : List (List (Int × Int))) {k : Nat} (hk : k < ss.length) : marksF (ss.take (k + 1)) = marksS (marksF (ss.take k)) ss[k] := by
  unfold marksF
  rw [List.take_add_one, List.foldl_append, List.getElem?_eq_getElem hk]
  rfl
theorem marksS_len (m : List Int) (s : List (Int × Int)) : (marksS m s).length ≤ m.length + 2 * s.length := by
  induction s generalizing m with
  | nil => simp [marksS]
  | cons x s ih =>
    have := ih (putE m x)
    have h1 := putL_len m x.1
    have h2 := putL_len (putL m x.1) x.2
    simp only [marksS, List.foldl_cons, List.length_cons] at this ⊢
    unfold putE at this ⊢
    omega
theorem marksF_len : ∀ (ss : List (List (Int × Int))) (B : Nat), (∀ s ∈ ss, s.length ≤ B) → ∀ k, k ≤ ss.length → (marksF (ss.take k)).length ≤ 2 * (B * k)
  | ss, B, h, 0, _ => by simp [marksF]
  | ss, B, h, k + 1, hk => by
    rw [marksF_take ss (by omega)]
    have h1 := marksS_len (marksF (ss.take k)) ss[k]
    have h2 := marksF_len ss B h k (by omega)
    have h3 := h _ (List.getElem_mem (l := ss) (n := k) (by omega))
    rw [Nat.mul_succ]
    omega
theorem encL_flatC : ∀ d, encL d = flatC encE d
  | [] => rfl
  | x :: d => by simp only [encL, flatC, encE, encL_flatC d]; rfl
theorem ExS.at {h : AHeap} {v : Value} {d : List (Int × Int)} (a : ExS h v d) (h0 : 0 < d.length) : ∃ m off cap, v = .slice (some ⟨m, off, none⟩) d.length cap ∧ m < h.next ∧ (∀ (h' : AHeap) (i : Nat) (hi : i < d.length), h'.get m = h.get m → aLoad (some 2) (.pointer (some ⟨m, off + i * 2, none⟩)) h' = some (.agg #[.int .i64 d[i].1, .int .i64 d[i].2])) ∧ (∀ (h' : AHeap) (i : Nat) (hi : i < d.length), h'.get m = h.get m → aLoad none (.pointer (some ⟨m, off + i * 2, none⟩)) h' = some (.int .i64 d[i].1)) ∧ (∀ (h' : AHeap) (i : Nat) (hi : i < d.length), h'.get m = h.get m → aLoad none (.pointer (some ⟨m, off + i * 2 + 1, none⟩)) h' = some (.int .i64 d[i].2)) := by
  have a' : SlC encE 2 h v d := by unfold SlC; rw [← encL_flatC]; exact a
  obtain ⟨m, off, cap, em, hm, l1, l2⟩ := a'.at (fun _ _ => rfl) h0
  exact ⟨m, off, cap, em, hm, fun h' i hi g => l1 h' i hi g, fun h' i hi g => l2 h' i 0 _ hi g (by omega) rfl, fun h' i hi g => l2 h' i 1 _ hi g (by omega) rfl⟩
theorem ExS.val {h : AHeap} {v : Value} {d : List (Int × Int)} (a : ExS h v d) : ∃ x c, v = .slice x d.length c := by
  rcases a.2 with ⟨h1, h2⟩ | ⟨m, off, cap, ro, gr, c, h1, _⟩
  · exact ⟨none, 0, by rw [h1, h2]⟩
  · exact ⟨_, _, h1⟩
end
end Go.Proofs.Ytoehafeeoggpkaa.L24

set_option linter.unusedVariables false
set_option linter.unusedSimpArgs false
set_option linter.unnecessarySimpa false
/-! The document's sets: marks of lists, a byte in a set, parts that touch. -/
namespace Go.Proofs.Ytoehafeeoggpkaa.L24
open Go Go.Proofs Go.Shelf Go.RowKit Go.Lib Go.Sort Go.AM Go.Proofs.Ytoehafeeoggpkaa.AMC
set_option maxRecDepth 10000
noncomputable section
theorem ownM {N : Nat} {h : AHeap} {es : Nat} {v : Value} {n : Nat} {l : List Value} (a : Own N h es v n l) {M : Nat} (hM : M ≤ N) : Own M h es v n l := by
  refine ⟨a.1, ?_⟩
  rcases a.2 with h1 | ⟨h0, m, h1, h2, h3⟩
  · exact .inl h1
  · exact .inr ⟨h0, m, h1, by omega, h3⟩
def encV (x : Value) : List Value := [x]
def MkO (v : Value) (vs : List Value) (ss : List (List (Int × Int))) (h : AHeap) (j : Nat) (T : Tr Value) (h' : AHeap) : Prop :=
  ∃ (i : Nat) (w : Value), j = vs.length - i ∧ i ≤ vs.length ∧ T.get 0 = some v ∧ T.get 3 = some w ∧ T.get 4 = some (.int .i64 i) ∧ Own h.next h' 1 w (marksF (ss.take i)).length (flatC encI (marksF (ss.take i))) ∧ Keep h.next h h'
def MkI (v : Value) (i : Nat) (m0 : List Int) (s : List (Int × Int)) (h : AHeap) (j : Nat) (T : Tr Value) (h' : AHeap) : Prop :=
  ∃ (k : Nat) (w : Value), j = s.length - k ∧ k ≤ s.length ∧ T.get 0 = some v ∧ T.get 3 = some w ∧ T.get 4 = some (.int .i64 i) ∧ T.get 5 = some (.int .i64 k) ∧ Own h.next h' 1 w (marksS m0 (s.take k)).length (flatC encI (marksS m0 (s.take k))) ∧ Keep h.next h h'
set_option maxHeartbeats 4000000 in
theorem marks_spec (L d : Nat) (v : Value) (vs : List Value) (ss : List (List (Int × Int))) (h : AHeap) (hs : SlC encV 1 h v vs) (hlen : vs.length = ss.length) (hvl : vs.length < 1000000) (hx : ∀ i (h1 : i < vs.length) (h2 : i < ss.length), ExS h vs[i] ss[i]) (B : Nat) (hB : ∀ s ∈ ss, s.length ≤ B) (hl : B * ss.length < 100000) (hL : 1000000000 < L) :
    ∃ r h', (En L (d + 2)).go 82 [v] h = some (r, h') ∧ Own h.next h' 1 r (marksF ss).length (flatC encI (marksF ss)) ∧ Keep h.next h h' := by
  refine go_ex (R := fun r h' => Own h.next h' 1 r (marksF ss).length (flatC encI (marksF ss)) ∧ Keep h.next h h') (show tabF 82 = some (.code a82) by rfl) rfl ?_
  unfold a82
  obtain ⟨x, c, ev⟩ := hs.val
  simp
  refine W_loop (MkO v vs ss h) vs.length (by show _ < L; omega) ⟨0, .slice none 0 0, rfl, by omega, by simp, by simp, by simp, Own.nil _ _ _, Keep.refl _ _⟩ ?_
  rintro j T h' ⟨i, w, rfl, hi, t0, t3, t4, ow, kk⟩
  by_cases hlt : i < vs.length
  · have hlt' : (i : Int) < vs.length := by omega
    obtain ⟨m, off, cap, em, hm, _, ld⟩ := hs.at (enc := encV) (es := 1) (fun e he => rfl) (by omega)
    rw [em] at t0
    have tk := marksF_take ss (k := i) (by omega)
    have ldx : ∀ H : AHeap, Keep h.next h H → aLoad none (.pointer (some ⟨m, off + i, none⟩)) H = some vs[i] := fun H g => by simpa using ld H i 0 vs[i] hlt (g.get m hm) (by omega) rfl
    have ex := hx i hlt (by omega)
    have bl := hB ss[i] (List.getElem_mem _)
    have ml := marksF_len ss B hB i (by omega)
    have mb : B * i ≤ B * ss.length := Nat.mul_le_mul_left _ (by omega)
    have mb1 : B * (i + 1) ≤ B * ss.length := Nat.mul_le_mul_left _ (by omega)
    rw [Nat.mul_succ] at mb1
    have hl2 := hl
    generalize B * i = p at ml mb1
    generalize B * ss.length = q at mb1 hl2
    clear mb
    have step : ∀ (T6 : Tr Value) (h6 : AHeap) (w6 : Value), T6.get 0 = some (.slice (some ⟨m, off, none⟩) vs.length cap) → T6.get 3 = some w6 → T6.get 4 = some (.int .i64 (i + 1)) → Own h.next h6 1 w6 (marksS (marksF (ss.take i)) ss[i]).length (flatC encI (marksS (marksF (ss.take i)) ss[i])) → Keep h.next h h6 → ∃ j', j' < vs.length - i ∧ MkO v vs ss h j' T6 h6 := fun T6 h6 w6 a0 a3 a4 o6 k6 =>
      ⟨vs.length - (i + 1), by omega, i + 1, w6, rfl, by omega, by rw [a0, em], a3, by rw [a4]; simp, by rw [tk]; exact o6, k6⟩
    generalize vs[i] = vi at ldx ex
    generalize ss[i] = s at ex bl step
    generalize hm0 : marksF (ss.take i) = m0 at ow step ml
    obtain ⟨xi, ci, evi⟩ := ex.val
    have d0 := ldx h' kk
    simp (disch := omega) [t0, t3, t4, hlt', aIndexSl_ok, d0]
    refine W_loop (MkI v i m0 s h) s.length (by show _ < L; omega) ⟨0, w, rfl, by omega, by simp [t0, em], by simp [t3], by simp [t4], by simp, by simpa [marksS] using ow, kk⟩ ?_
    rintro j T h' ⟨k, w, rfl, hk, t0, t3, t4, t5, ow, kk⟩
    rw [em] at t0
    have d0 := ldx h' kk
    have msl := marksS_len m0 (s.take k)
    rw [List.length_take, Nat.min_eq_left hk] at msl
    by_cases hlt2 : k < s.length
    · have hlt2' : (k : Int) < s.length := by omega
      obtain ⟨m2, off2, cap2, em2, hm2, _, x1, x2⟩ := ex.at (by omega)
      have ts := marksS_take m0 s hlt2
      have step2 : ∀ (T6 : Tr Value) (h6 : AHeap) (w6 : Value), T6.get 0 = some (.slice (some ⟨m, off, none⟩) vs.length cap) → T6.get 3 = some w6 → T6.get 4 = some (.int .i64 i) → T6.get 5 = some (.int .i64 (k + 1)) → Own h.next h6 1 w6 (putE (marksS m0 (s.take k)) s[k]).length (flatC encI (putE (marksS m0 (s.take k)) s[k])) → Keep h.next h h6 → ∃ j', j' < s.length - k ∧ MkI v i m0 s h j' T6 h6 := fun T6 h6 w6 a0 a3 a4 a5 o6 k6 =>
        ⟨s.length - (k + 1), by omega, k + 1, w6, rfl, by omega, by rw [a0, em], a3, a4, by rw [a5]; simp, by rw [ts]; exact o6, k6⟩
      have y1 := x1 h' k hlt2 (kk.get m2 hm2)
      generalize hmm : marksS m0 (s.take k) = mk at ow step2 msl
      obtain ⟨w1, h1, e1, o1, k1⟩ := put_spec L d w mk s[k].1 h' (ownC ow) (by omega) hL
      have kk1 := kk.trans (k1.less kk.next)
      have y2 := x2 h1 k hlt2 (kk1.get m2 hm2)
      have d1 := ldx h1 kk1
      have pl := putL_len mk s[k].1
      obtain ⟨w2, h2, e2, o2, k2⟩ := put_spec L d w1 _ s[k].2 h1 (ownC o1) (by omega) hL
      have kk2 := kk1.trans (k2.less kk1.next)
      rw [em2] at d0 d1
      simp (disch := omega) [t0, t3, t4, t5, hlt', hlt2', aIndexSl_ok, d0, d1, y1, y2, e1, e2, wrapF_i64 (n := (k : Int) + 1) (by omega) (by omega)]
      exact step2 _ _ w2 (by simp [t0]) (by simp) (by simp [t4]) (by simp) (ownM o2 (Nat.le_trans kk.next k1.next)) kk2
    · have hke : k = s.length := by omega
      subst hke
      rw [List.take_length] at ow
      rw [evi] at d0
      simp (disch := omega) [t0, t3, t4, t5, hlt', aIndexSl_ok, d0, wrapF_i64 (n := (i : Int) + 1) (by omega) (by omega)]
      exact step _ _ w (by simp [t0]) (by simp [t3]) (by simp) ow kk
  · have hie : i = vs.length := by omega
    subst hie
    rw [hlen, List.take_length] at ow
    rw [ev] at t0
    simp (disch := omega) [t0, t3, t4]
    exact ⟨ow, kk⟩
def hasB (s : List (Int × Int)) (z : Int) : Bool := s.any fun x => inE x z
set_option maxHeartbeats 1000000 in
theorem has_spec (L d : Nat) (v : Value) (s : List (Int × Int)) (z : Int) (h : AHeap) (hv : ExS h v s) (hl : s.length < 1000000) (hL : 1000000000 < L) :
    (En L (d + 1)).go 83 [v, .int .i64 z] h = some (.bool (hasB s z), h) := by
  have ex : ∃ r h', (En L (d + 1)).go 83 [v, .int .i64 z] h = some (r, h') ∧ r = .bool (hasB s z) ∧ h' = h := by
    refine go_ex (R := fun r h' => r = .bool (hasB s z) ∧ h' = h) (show tabF 83 = some (.code a83) by rfl) rfl ?_
    unfold a83
    obtain ⟨x, c, ev⟩ := hv.val
    simp
    refine W_loop (fun j T h' => ∃ i : Nat, j = s.length - i ∧ i ≤ s.length ∧ T.get 0 = some v ∧ T.get 1 = some (.int .i64 z) ∧ T.get 5 = some (.int .i64 i) ∧ hasB (s.take i) z = false ∧ h' = h) s.length (by show _ < L; omega) ⟨0, rfl, by omega, by simp, by simp, by simp, rfl, rfl⟩ ?_
    rintro j T h' ⟨i, rfl, hi, t0, t1, t5, hz, rfl⟩
    by_cases hlt : i < s.length
    · have hlt' : (i : Int) < s.length := by omega
      obtain ⟨m, off, cap, em, hm, _, x1, x2⟩ := hv.at (by omega)
      rw [em] at t0
      have y1 := x1 h' i hlt rfl
      have y2 := x2 h' i hlt rfl
      have tk : hasB (s.take (i + 1)) z = inE s[i] z := by
        rw [List.take_add_one, List.getElem?_eq_getElem hlt]
        unfold hasB at hz ⊢
        rw [List.any_append, hz]; simp
      have hall : inE s[i] z = true → hasB s z = true := fun e => List.any_eq_true.2 ⟨s[i], List.getElem_mem hlt, e⟩
      generalize s[i] = x at y1 y2 tk hall
      by_cases c1 : x.1 ≤ z
      · by_cases c2 : z < x.2
        · simp (disch := omega) [t0, t1, t5, hlt', aIndexSl_ok, y1, y2, c1, c2, wrapF_i64 (n := (i : Int) + 1) (by omega) (by omega)]
          exact hall (decide_eq_true ⟨c1, c2⟩)
        · simp (disch := omega) [t0, t1, t5, hlt', aIndexSl_ok, y1, y2, c1, c2, wrapF_i64 (n := (i : Int) + 1) (by omega) (by omega)]
          exact ⟨s.length - (i + 1), by omega, i + 1, rfl, by omega, em.symm, by simp, by rw [tk]; exact decide_eq_false (fun a => c2 a.2)⟩
      · simp (disch := omega) [t0, t1, t5, hlt', aIndexSl_ok, y1, y2, c1, wrapF_i64 (n := (i : Int) + 1) (by omega) (by omega)]
        exact ⟨s.length - (i + 1), by omega, i + 1, rfl, by omega, em.symm, by simp, by rw [tk]; exact decide_eq_false (fun a => c1 a.1)⟩
    · have hie : i = s.length := by omega
      subst hie
      rw [List.take_length] at hz
      rw [ev] at t0
      simp [t0, t1, t5]
      exact hz
  obtain ⟨r, h', e, rfl, rfl⟩ := ex
  exact e
end
end Go.Proofs.Ytoehafeeoggpkaa.L24

set_option linter.unusedVariables false
set_option linter.unusedSimpArgs false
set_option linter.unnecessarySimpa false
/-! The document's sets: parts that touch are joined; what is in both. -/
namespace Go.Proofs.Ytoehafeeoggpkaa.L24
open Go Go.Proofs Go.Shelf Go.RowKit Go.Lib Go.Sort Go.AM Go.Proofs.Ytoehafeeoggpkaa.AMC
set_option maxRecDepth 10000
noncomputable section
def jStep (out : List (Int × Int)) (x : Int × Int) : List (Int × Int) := match out with
  | [] => [x]
  | y :: r => if y.2 = x.1 then (y.1, x.2) :: r else x :: y :: r
def joinR (l : List (Int × Int)) : List (Int × Int) := l.foldl jStep []
def joinL (l : List (Int × Int)) : List (Int × Int) := (joinR l).reverse
theorem jStep_len (out : List (Int × Int)) (x : Int × Int) : 0 < (jStep out x).length ∧ (jStep out x).length ≤ out.length + 1 := by
  unfold jStep
  split
  · simp
  · split <;> simp
theorem joinR_take (l : List (Int × Int)) {i : Nat} (hi : i < l.length) : joinR (l.take (i + 1)) = jStep (joinR (l.take i)) l[i] := by
  unfold joinR
  rw [List.take_add_one, List.foldl_append, List.getElem?_eq_getElem hi]
  rfl
theorem joinR_len (l : List (Int × Int)) : ∀ i, i ≤ l.length → (joinR (l.take i)).length ≤ i
  | 0, _ => by simp [joinR]
  | i + 1, h => by
    rw [joinR_take l (by omega)]
    have := jStep_len (joinR (l.take i)) l[i]
    have := joinR_len l i (by omega)
    omega
theorem joinL_pos (l : List (Int × Int)) : 0 < (joinL l).length ↔ 0 < l.length := by
  unfold joinL
  rw [List.length_reverse]
  constructor
  · intro h
    have := joinR_len l l.length (Nat.le_refl _)
    rw [List.take_length] at this
    omega
  · intro h
    have e := joinR_take l (i := l.length - 1) (by omega)
    rw [show l.length - 1 + 1 = l.length by omega, List.take_length] at e
    rw [e]
    exact (jStep_len _ _).1
def JoI (v : Value) (s : List (Int × Int)) (hs : AHeap) (j : Nat) (T : Tr Value) (h' : AHeap) : Prop :=
  ∃ (i : Nat) (w : Value), j = s.length - i ∧ i ≤ s.length ∧ T.get 0 = some v ∧ T.get 4 = some (.int .i64 i) ∧ T.get 3 = some w ∧ Own hs.next h' 2 w (joinR (s.take i)).length (encL (joinR (s.take i)).reverse) ∧ Keep hs.next hs h'
theorem pushX {N : Nat} {h : AHeap} {w : Value} {out : List (Int × Int)} (ow : Own N h 2 w out.length (encL out)) (hN : N ≤ h.next) (hl : out.length < 1000000000) (a b : Int) :
    ∃ w' h', aAppend EK2 w (.slice (some ⟨h.next, 0, none⟩) 1 1) (h.new (.row false 0 (.vals [.int .i64 a, .int .i64 b]))) = some (w', h') ∧ Own N h' 2 w' (out ++ [(a, b)]).length (encL (out ++ [(a, b)])) ∧ Keep N h h' := by
  rw [encL_flatC] at ow
  obtain ⟨w', h', e, o, k⟩ := pushC (k := EK2) (enc := encE) ow hN (a, b) rfl (by decide) (by show _ * 16 ≤ _; omega) (by omega)
  exact ⟨w', h', e, by rw [encL_flatC]; exact o, k⟩
set_option maxHeartbeats 4000000 in
theorem joined_spec (L d : Nat) (v : Value) (s : List (Int × Int)) (h : AHeap) (hv : ExS h v s) (hl : s.length < 1000000) (hL : 1000000000 < L) :
    ∃ r h', (En L (d + 1)).go 84 [v] h = some (r, h') ∧ Own h.next h' 2 r (joinL s).length (encL (joinL s)) ∧ Keep h.next h h' := by
  refine go_ex (R := fun r h' => Own h.next h' 2 r (joinL s).length (encL (joinL s)) ∧ Keep h.next h h') (show tabF 84 = some (.code a84) by rfl) rfl ?_
  unfold a84
  obtain ⟨x, c, ev⟩ := hv.val
  simp
  refine W_loop (JoI v s h) s.length (by show _ < L; omega) ⟨0, .slice none 0 0, rfl, by omega, by simp, by simp, by simp, Own.nil _ _ _, Keep.refl _ _⟩ ?_
  rintro j T h' ⟨i, w, rfl, hi, t0, t4, t3, ow, kk⟩
  by_cases hlt : i < s.length
  · have hlt' : (i : Int) < s.length := by omega
    obtain ⟨m, off, cap, em, hm, x0, x1, x2⟩ := hv.at (by omega)
    rw [em] at t0
    have y0 := x0 h' i hlt (kk.get m hm)
    have y1 := x1 h' i hlt (kk.get m hm)
    have y2 := x2 h' i hlt (kk.get m hm)
    have tk := joinR_take s hlt
    have nl := joinR_len s i hi
    have step : ∀ (T6 : Tr Value) (h6 : AHeap) (w6 : Value), T6.get 0 = some (.slice (some ⟨m, off, none⟩) s.length cap) → T6.get 4 = some (.int .i64 (i + 1)) → T6.get 3 = some w6 → Own h.next h6 2 w6 (jStep (joinR (s.take i)) s[i]).length (encL (jStep (joinR (s.take i)) s[i]).reverse) → Keep h.next h h6 → ∃ j', j' < s.length - i ∧ JoI v s h j' T6 h6 := fun T6 h6 w6 a0 a4 a3 o6 k6 =>
      ⟨s.length - (i + 1), by omega, i + 1, w6, rfl, by omega, by rw [a0, em], by rw [a4]; simp, a3, by rw [tk]; exact o6, k6⟩
    generalize joinR (s.take i) = acc at ow step nl
    generalize s[i] = x at y0 y1 y2 step
    cases acc with
    | nil =>
      rcases ow.2 with ⟨_, rfl⟩ | ⟨h0, _⟩
      · obtain ⟨w1, h1, e1, o1, k1⟩ := pushX (out := []) ow kk.next (by simp) x.1 x.2
        simp (disch := omega) [t0, t4, t3, hlt', aIndexSl_ok, y0, lit2E, e1, wrapF_i64 (n := (i : Int) + 1) (by omega) (by omega)]
        exact step _ _ w1 (by simp [t0]) (by simp) (by simp) (by simpa [jStep] using o1) (kk.trans k1)
      · simp at h0
    | cons y r =>
      have hrl : r.length < 1000000 := by
        have : (y :: r).length = r.length + 1 := rfl
        omega
      rcases ow.2 with ⟨h0, _⟩ | ⟨h0, mo, rfl, m3, m4, g4⟩
      · simp at h0
      rw [List.reverse_cons] at g4
      have ldl : aLoad none (.pointer (some ⟨mo, r.length * 2 + 1, none⟩)) h' = some (.int .i64 y.2) := by
        have hr : RowI h' .i64 mo 0 (flat (r.reverse ++ [y])) := ⟨false, 2, _, g4, fun q hq => by simp [Cells.get, encL_flat, hq]⟩
        have hfl := flat_len (r.reverse ++ [y])
        simp only [List.length_append, List.length_reverse, List.length_singleton] at hfl
        have := hr.rd (i := ((r.length * 2 + 1 : Nat) : Int)) (by omega) (by omega)
        rw [Int.toNat_natCast, Nat.zero_add, rd_last] at this
        exact this
      by_cases hc : y.2 = x.1
      · have e5 : jStep (y :: r) x = (y.1, x.2) :: r := by unfold jStep; simp only; rw [if_pos hc]
        rw [e5] at step
        have sj := storeJ g4 x.2
        have kk5 : Keep h.next h (h'.set mo (.row false 2 (.vals (encL (r.reverse ++ [(y.1, x.2)]))))) := kk.set m3 m4 _
        rw [hc] at ldl
        simp (disch := omega) [t0, t4, t3, hlt', aIndexSl_ok, y0, y1, y2, ldl, sj, wrapF_i64]
        refine step _ _ (.slice (some ⟨mo, 0, none⟩) (r.length + 1) (r.length + 1)) (by simp [t0]) (by simp) (by simp [t3]) ⟨by rw [encL_len]; simp; omega, .inr ⟨by simp, mo, rfl, m3, by simpa using m4, ?_⟩⟩ kk5
        rw [AHeap.get_set, if_pos rfl, List.reverse_cons]
      · have e5 : jStep (y :: r) x = x :: y :: r := by unfold jStep; simp only; rw [if_neg hc]
        rw [e5] at step
        obtain ⟨w1, h1, e1, o1, k1⟩ := pushX (out := (y :: r).reverse) (by simpa using ow) kk.next (by simp; omega) x.1 x.2
        simp (disch := omega) [t0, t4, t3, hlt', aIndexSl_ok, y0, y1, ldl, hc, lit2E, e1, wrapF_i64]
        exact step _ _ w1 (by simp [t0]) (by simp) (by simp) (by simpa using o1) (kk.trans k1)
  · have hie : i = s.length := by omega
    subst hie
    rw [List.take_length] at ow
    rw [ev] at t0
    simp [t0, t4, t3]
    exact ⟨by unfold joinL; rw [List.length_reverse]; exact ow, kk⟩
end
end Go.Proofs.Ytoehafeeoggpkaa.L24

