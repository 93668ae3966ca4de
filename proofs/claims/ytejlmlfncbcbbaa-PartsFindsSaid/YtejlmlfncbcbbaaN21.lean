import Derived.Test.YtejlmlfncbcbbaaC21
import Derived.Test.YtejlmlfncbcbbaaAM31
import Derived.Test.YtejlmlfncbcbbaaAM34
set_option linter.unusedVariables false
set_option linter.unusedSimpArgs false
set_option linter.unnecessarySimpa false
/-! PartsFinds over the executor. -/
namespace Go.Proofs.Ytejlmlfncbcbbaa.L21
open Go Go.AM Go.Proofs.Ytejlmlfncbcbbaa.AMC
noncomputable def tabF : FuncId → Option AEntry := fun f => (tab.set 4 (.prim primTrue)).get f
noncomputable abbrev En (L d : Nat) : Env := ⟨tabF, L, d, noRound⟩
theorem tab4 : tabF 4 = some (.prim primTrue) := by rfl
theorem go4 (L d : Nat) (h : AHeap) : (En L (d + 1)).go 4 [] h = some (.bool true, h) := by
  simp only [Env.go, callFR, tab4, primTrue]
set_option maxRecDepth 10000
def z31 : List Value := [(.int .i64 0), (.slice none 0 0), (.slice none 0 0), (.slice none 0 0), (.slice none 0 0), (.slice none 0 0), (.int .i64 0), (.int .i64 0), (.bool false), (.int .i64 0), (.int .i64 0), (.int .i64 0), (.int .u8 0), (.int .u8 0), (.int .u8 0), (.int .u8 0), (.int .u8 0), (.int .u8 0), (.int .u8 0), (.int .u8 0), (.int .u8 0), (.int .u8 0), (.int .u8 0), (.int .u8 0), (.int .u8 0), (.int .u8 0), (.int .u8 0), (.int .u8 0), (.slice none 0 0), (.int .i64 0), (.int .i64 0)]
theorem bld31 : aBuild (.str [(.int .i64 0), (.slice none 0 0), (.slice none 0 0), (.slice none 0 0), (.slice none 0 0), (.slice none 0 0), (.int .i64 0), (.int .i64 0), (.bool false), (.int .i64 0), (.int .i64 0), (.int .i64 0), (.int .u8 0), (.int .u8 0), (.int .u8 0), (.int .u8 0), (.int .u8 0), (.int .u8 0), (.int .u8 0), (.int .u8 0), (.int .u8 0), (.int .u8 0), (.int .u8 0), (.int .u8 0), (.int .u8 0), (.int .u8 0), (.int .u8 0), (.int .u8 0), (.slice none 0 0), (.int .i64 0), (.int .i64 0)] [(0, 1), (1, 1), (2, 1), (3, 1), (4, 5), (9, 22)]) [] = some (.agg z31.toArray) := by kernel_rfl
theorem new31 (h : AHeap) : aNew true [(.int .i64 0), (.slice none 0 0), (.slice none 0 0), (.slice none 0 0), (.slice none 0 0), (.slice none 0 0), (.int .i64 0), (.int .i64 0), (.bool false), (.int .i64 0), (.int .i64 0), (.int .i64 0), (.int .u8 0), (.int .u8 0), (.int .u8 0), (.int .u8 0), (.int .u8 0), (.int .u8 0), (.int .u8 0), (.int .u8 0), (.int .u8 0), (.int .u8 0), (.int .u8 0), (.int .u8 0), (.int .u8 0), (.int .u8 0), (.int .u8 0), (.int .u8 0), (.slice none 0 0), (.int .i64 0), (.int .i64 0)] h = some (.pointer (some ⟨h.next, 0, none⟩), h.new (.row false 0 (.vals z31))) := by rfl
theorem parse_nil (L d : Nat) (h : AHeap) : ∃ r h', (En L (d + 1)).go 6 [.nilIface] h = some (r, h') ∧ r = .tuple #[.agg z31.toArray, .int .i64 2] ∧ Keep h.next h h' := by
  refine go_ex (R := fun r h' => r = .tuple #[.agg z31.toArray, .int .i64 2] ∧ Keep h.next h h') (show tabF 6 = some (.code a6) by rfl) rfl ?_
  unfold a6
  obtain ⟨H, e1, e2, e3, e4⟩ := store_new h z31 z31.toArray 31 rfl rfl rfl
  simp [new31, bld31, e1, ld_agg (n := 31) e2 rfl]
  exact e3
def z4 : List Value := [.string ⟨#[]⟩, .int .i64 0, .int .i64 0, .slice none 0 0]
theorem new4 (h : AHeap) : aNew true [.string ⟨#[]⟩, .int .i64 0, .int .i64 0, .slice none 0 0] h = some (.pointer (some ⟨h.next, 0, none⟩), h.new (.row false 0 (.vals z4))) := by rfl
theorem bld4 : aBuild (.str [.string ⟨#[]⟩, .int .i64 0, .int .i64 0, .slice none 0 0] [(0, 1), (1, 1), (2, 1), (3, 1)]) [] = some (.agg z4.toArray) := by kernel_rfl
theorem bld2 : aBuild (.str [.int .i64 0, .int .i64 0] [(0, 1), (1, 1)]) [] = some (.agg #[.int .i64 0, .int .i64 0]) := by kernel_rfl
theorem box4 (h : AHeap) : aNew true (Value.agg z4.toArray).cells.toList h = some (.pointer (some ⟨h.next, 0, none⟩), h.new (.row false 0 (.vals z4))) := by rfl
theorem box2 (h : AHeap) : aNew true (Value.agg #[.int .i64 0, .int .i64 0]).cells.toList h = some (.pointer (some ⟨h.next, 0, none⟩), h.new (.row false 0 (.vals [.int .i64 0, .int .i64 0]))) := by rfl
theorem window_nil (L d : Nat) (h : AHeap) : ∃ r h', (En L (d + 1)).go 7 [.nilIface, .agg #[.int .i64 0, .int .i64 0]] h = some (r, h') ∧ r = .tuple #[.nilIface, .int .i64 2] ∧ Keep h.next h h' := by
  refine go_ex (R := fun r h' => r = .tuple #[.nilIface, .int .i64 2] ∧ Keep h.next h h') (show tabF 7 = some (.code a7) by rfl) rfl ?_
  unfold a7
  simp [box2]
  exact (Keep.refl _ _).new (Nat.le_refl _) _
theorem content_nil (L d : Nat) (h : AHeap) : ∃ r h', (En L (d + 1)).go 8 [.nilIface, .agg z4.toArray] h = some (r, h') ∧ r = .tuple #[.slice none 0 0, .int .i64 2] ∧ Keep h.next h h' := by
  refine go_ex (R := fun r h' => r = .tuple #[.slice none 0 0, .int .i64 2] ∧ Keep h.next h h') (show tabF 8 = some (.code a8) by rfl) rfl ?_
  unfold a8
  simp [box4]
  exact (Keep.refl _ _).new (Nat.le_refl _) _
/-- A path: its name, kind, size, and its runs. -/
structure PathA where
  s : ByteArray
  k : Int
  z : Int
  a : Option Addr
  n : Nat
  c : Nat
def PathA.cells (p : PathA) : List Value := [.string p.s, .int .i64 p.k, .int .i64 p.z, .slice p.a p.n p.c]
def rowP : List PathA → List Value
  | [] => []
  | p :: l => p.cells ++ rowP l
theorem rowP_len : ∀ l : List PathA, (rowP l).length = 4 * l.length
  | [] => rfl
  | p :: l => by simp only [rowP, List.length_append, rowP_len l, List.length_cons, PathA.cells, List.length_nil]; omega
theorem rowP_drop : ∀ (l : List PathA) (i : Nat) (hi : i < l.length), ∃ r, (rowP l).drop (i * 4) = l[i].cells ++ r
  | p :: l, 0, _ => ⟨rowP l, rfl⟩
  | p :: l, i + 1, hi => by
    obtain ⟨r, hr⟩ := rowP_drop l i (by simpa using hi)
    refine ⟨r, ?_⟩
    have : (i + 1) * 4 = 4 + i * 4 := by omega
    rw [this, ← List.drop_drop]
    exact hr
theorem ldP {h : AHeap} {m : Nat} {ro : Bool} {gr : Nat} {l : List PathA} (g : h.get m = .row ro gr (.vals (rowP l))) {i : Nat} (hi : i < l.length) : aLoad (some 4) (.pointer (some ⟨m, i * 4, none⟩)) h = some (.agg l[i].cells.toArray) := by
  obtain ⟨r, hr⟩ := rowP_drop l i hi
  have hl := rowP_len l
  have hsz : i * 4 + 4 ≤ (Cells.vals (rowP l)).size := by show _ ≤ (rowP l).length; omega
  simp only [aLoad, g]
  rw [if_pos hsz]
  simp only [Cells.ext, Cells.toList, hr]
  rfl
theorem rowP_get (l : List PathA) (i j : Nat) (hi : i < l.length) (hj : j < 4) : (rowP l)[i * 4 + j]? = l[i].cells[j]? := by
  obtain ⟨r, hr⟩ := rowP_drop l i hi
  rw [← List.getElem?_drop, hr, List.getElem?_append_left (by simpa [PathA.cells] using hj)]
theorem ldPj {h : AHeap} {m : Nat} {ro : Bool} {gr : Nat} {l : List PathA} (g : h.get m = .row ro gr (.vals (rowP l))) {i j : Nat} (hi : i < l.length) (hj : j < 4) : aLoad none (.pointer (some ⟨m, i * 4 + j, none⟩)) h = l[i].cells[j]? := by
  simp only [aLoad, g, Cells.get, rowP_get l i j hi hj]
/-- The first of a name. -/
def findP (nm : ByteArray) : List PathA → Option PathA
  | [] => none
  | p :: l => if p.s.data.toList = nm.data.toList then some p else findP nm l
theorem findP_step (nm : ByteArray) (l : List PathA) (i : Nat) (hi : i < l.length) : findP nm (l.drop i) = if l[i].s.data.toList = nm.data.toList then some l[i] else findP nm (l.drop (i + 1)) := by
  rw [List.drop_eq_getElem_cons hi]; rfl
def ansP : Option PathA → Value
  | some p => .tuple #[.agg p.cells.toArray, .bool true]
  | none => .tuple #[.agg z4.toArray, .bool false]
theorem find_spec (L d m cap : Nat) (ro : Bool) (gr : Nat) (a : Option Addr) (l : List PathA) (nm : ByteArray) (h : AHeap) (hl : l.length < 1000000) (hL : l.length < L) (ha : l.length = 0 ∨ a = some ⟨m, 0, none⟩ ∧ m < h.next ∧ h.get m = .row ro gr (.vals (rowP l))) :
    ∃ r h', (En L (d + 1)).go 5 [.slice a l.length cap, .string nm] h = some (r, h') ∧ r = ansP (findP nm l) ∧ Keep h.next h h' := by
  refine go_ex (R := fun r h' => r = ansP (findP nm l) ∧ Keep h.next h h') (show tabF 5 = some (.code a5) by rfl) rfl ?_
  unfold a5
  simp [new4]
  refine W_loop (fun j T h' => ∃ i : Nat, j = l.length - i ∧ i ≤ l.length ∧ T.get 8 = some (.slice a l.length cap) ∧ T.get 1 = some (.string nm) ∧ T.get 4 = some (.pointer (some ⟨h.next, 0, none⟩)) ∧ T.get 9 = some (.int .i64 l.length) ∧ T.get 10 = some (.int .i64 i) ∧ Keep h.next h h' ∧ h.next < h'.next ∧ h'.get h.next = .row false 0 (.vals z4) ∧ findP nm l = findP nm (l.drop i)) l.length (by simpa using hL) ⟨0, by simp, by omega, by simp, by simp, by simp, by simp, by simp, (Keep.refl _ _).new (Nat.le_refl _) _, by rw [AHeap.next_new]; omega, by rw [AHeap.get_new, if_pos rfl], rfl⟩ ?_
  rintro j T h' ⟨i, rfl, hi, t8, t1, t4, t9, t10, hk, hx, hg, hf⟩
  by_cases hlt : i < l.length
  · rcases ha with h0 | ⟨rfl, hm, g⟩
    · omega
    have g' : h'.get m = .row ro gr (.vals (rowP l)) := by rw [hk.get m hm]; exact g
    obtain ⟨H, e1, e2, e3, e4⟩ := store_new h' z4 l[i].cells.toArray 4 rfl rfl rfl
    have e5 := ld_cell e2 (i := 0) (v := .string l[i].s) rfl
    have hH : H.get h.next = .row false 0 (.vals z4) := by rw [e3.get _ hx]; exact hg
    by_cases hs : l[i].s.data.toList = nm.data.toList
    · have e6 := ld_agg (n := 4) e2 rfl
      obtain ⟨H2, f1, f2, f3⟩ : ∃ H2, aStore 4 (.pointer (some ⟨h.next, 0, none⟩)) (.agg l[i].cells.toArray) H = some H2 ∧ H2.get h.next = .row false 0 (.vals l[i].cells) ∧ Keep h.next h H2 := by
        refine ⟨H.set h.next (.row false 0 (.vals l[i].cells)), ?_, by rw [AHeap.get_set, if_pos rfl], ((hk.trans (e3.less (Nat.le_of_lt hx))).set (Nat.le_refl _) (by omega) _)⟩
        have hc : (Value.agg l[i].cells.toArray).cells = l[i].cells.toArray := rfl
        simp only [aStore, hH, hc]
        rw [if_pos ⟨rfl, by simp [Cells.size, z4], rfl⟩]
        rfl
      have f4 := ld_agg (n := 4) f2 rfl
      simp (disch := omega) [t8, t1, t4, t9, t10, hlt, new4, ldP g' hlt, aIndexSl_ok, e1, e5, e6, f1, f4, aStr, hs]
      refine ⟨?_, f3⟩
      rw [hf, findP_step nm l i hlt, if_pos hs]; rfl
    · simp (disch := omega) [t8, t1, t4, t9, t10, hlt, new4, ldP g' hlt, aIndexSl_ok, e1, e5, aStr, hs, wrapF_i64]
      refine ⟨l.length - (i + 1), by omega, i + 1, rfl, by omega, rfl, hk.trans (e3.less (Nat.le_of_lt hx)), by omega, hH, ?_⟩
      rw [hf, findP_step nm l i hlt, if_neg hs]
  · have hie : i = l.length := by omega
    obtain ⟨H2, f1, f2, f3⟩ : ∃ H2, aStore 4 (.pointer (some ⟨h.next, 0, none⟩)) (.agg z4.toArray) h' = some H2 ∧ H2.get h.next = .row false 0 (.vals z4) ∧ Keep h.next h H2 := by
      refine ⟨h'.set h.next (.row false 0 (.vals z4)), ?_, by rw [AHeap.get_set, if_pos rfl], (hk.set (Nat.le_refl _) hx _)⟩
      have hc : (Value.agg z4.toArray).cells = z4.toArray := rfl
      simp only [aStore, hg, hc]
      rw [if_pos ⟨rfl, by simp [Cells.size, z4], rfl⟩]
      rfl
    have f4 := ld_agg (n := 4) f2 rfl
    simp [t8, t1, t4, t9, t10, hlt, bld4, f1, f4]
    refine ⟨?_, f3⟩
    rw [hf, hie, List.drop_length]; rfl
end Go.Proofs.Ytejlmlfncbcbbaa.L21
