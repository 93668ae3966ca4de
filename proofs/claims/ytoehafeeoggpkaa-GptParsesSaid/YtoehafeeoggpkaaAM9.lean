import Derived.Test.YtoehafeeoggpkaaAM8
set_option linter.unusedVariables false
set_option linter.unusedSimpArgs false
/-! Part 9: appending, copying, lengths. -/
namespace Go.AM
noncomputable section
open Go.RowKit

/-- What is appended, or copied from: its cells, how many elements. -/
def aSrc (es : Nat) (x : Value) (h : AHeap) : Option (Cells × Nat) :=
  match x with
  | .slice none 0 0 => some (.vals [], 0)
  | .slice (some ⟨m, o, none⟩) len _ =>
    match h.get m with
    | .row _ _ c => if o + len * es ≤ c.size then some (c.ext o (len * es), len) else none
    | _ => if len = 0 then some (.vals [], 0) else none
  | .string s => if es = 1 then some (mkRow true (byteCells s), s.size) else none
  | _ => none

/-- The kind of what is appended: a slice, or a string. -/
def srcOk (P : Program) (tx : TypeId) (x : Value) : Bool :=
  match P.underlying tx, x with
  | some (.slice _), .slice .. => true
  | some .string, .string _ => true
  | _, _ => false

section
variable {N0 : Nat} {w0 : World} {P : Program} {σ : Sig} {h : AHeap} {w : World}

theorem byteCells_closed (s : ByteArray) : (byteCells s).all (closedV depthC) = true := by
  rw [List.all_eq_true]; intro x hx
  unfold byteCells at hx
  obtain ⟨b, _, rfl⟩ := List.mem_map.1 hx
  rfl

theorem src_rel {es : Nat} {tx : TypeId} {x x' : Value} {c : Cells} {n : Nat} (hI : Inv N0 w0 σ h w) (hx : VR h.next σ x x') (hk : srcOk P tx x = true) (ha : aSrc es x h = some (c, n)) :
    ∃ news, Src P es tx x' n news w ∧ VRL h.next σ c.toList news := by
  unfold aSrc at ha
  split at ha
  · injection ha with ha; simp only [Prod.mk.injEq] at ha; obtain ⟨rfl, rfl⟩ := ha
    cases hx with
    | nils =>
    unfold srcOk at hk
    split at hk
    · rename_i hu _; exact ⟨[], Src.ofNil w hu 0, .nil⟩
    · rename_i e; cases e
    · cases hk
  · rename_i m o len cap
    split at ha
    · rename_i ro gr cc hrow
      split at ha
      · rename_i hle
        injection ha with ha; simp only [Prod.mk.injEq] at ha; obtain ⟨rfl, rfl⟩ := ha
        obtain ⟨l', h1, h2, h3⟩ := hI.cellsAt hrow hle
        have hlen : l'.length = len * es := by rw [← h1.1, Cells.length_toList, Cells.size_ext hle]
        have hu : ∃ e, P.underlying tx = some (.slice e) := by
          unfold srcOk at hk
          split at hk
          · rename_i hu _; exact ⟨_, hu⟩
          · rename_i e; cases e
          · cases hk
        obtain ⟨e, hu⟩ := hu
        refine ⟨l', ?_, h1⟩
        cases hx with
        | sl _ _ _ _ hm hr => exact Src.ofSlice w hu _ len cap l' hlen (fun j u hj => by rw [add_mk]; exact h2 j u hj) h3
        | slg _ _ _ _ cap' es2 ext hm hr hl hcp he => exact Src.ofSlice w hu _ len cap' l' hlen (fun j u hj => by rw [add_mk]; exact h2 j u hj) h3
        | sle _ _ p es2 ext hm hr =>
          have : l' = [] := List.length_eq_zero_iff.1 (by rw [hlen]; simp)
          subst this
          exact Src.ofSlice w hu _ 0 0 [] (by simp) (fun j u hj => by simp at hj) (fun v hv => by cases hv)
      · cases ha
    · split at ha
      · rename_i h0
        injection ha with ha; simp only [Prod.mk.injEq] at ha; obtain ⟨rfl, rfl⟩ := ha
        subst h0
        have hu : ∃ e, P.underlying tx = some (.slice e) := by
          unfold srcOk at hk
          split at hk
          · rename_i hu _; exact ⟨_, hu⟩
          · rename_i e; cases e
          · cases hk
        obtain ⟨e, hu⟩ := hu
        refine ⟨[], ?_, .nil⟩
        cases hx with
        | sl _ _ _ _ hm hr => exact Src.ofSlice w hu _ 0 cap [] (by simp) (fun j u hj => by simp at hj) (fun v hv => by cases hv)
        | slg _ _ _ _ cap' es2 ext hm hr hl hcp he => exact Src.ofSlice w hu _ 0 cap' [] (by simp) (fun j u hj => by simp at hj) (fun v hv => by cases hv)
        | sle _ _ p es2 ext hm hr => exact Src.ofSlice w hu _ 0 0 [] (by simp) (fun j u hj => by simp at hj) (fun v hv => by cases hv)
      · cases ha
  · rename_i s
    split at ha
    · rename_i he
      subst he
      injection ha with ha; simp only [Prod.mk.injEq] at ha; obtain ⟨rfl, rfl⟩ := ha
      cases hx with
      | str =>
      have hu : P.underlying tx = some .string := by
        unfold srcOk at hk
        split at hk
        · rename_i e; cases e
        · rename_i hu _; exact hu
        · cases hk
      exact ⟨byteCells s, Src.ofString w hu s, by rw [toList_mkRow]; exact VRL.closed depthC _ (byteCells_closed s)⟩
    · cases ha
  · cases ha

theorem src_size {es : Nat} {x : Value} {c : Cells} {n : Nat} (ha : aSrc es x h = some (c, n)) : c.size = n * es := by
  unfold aSrc at ha
  split at ha
  · injection ha with ha; simp only [Prod.mk.injEq] at ha; obtain ⟨rfl, rfl⟩ := ha; simp [Cells.size]
  · split at ha
    · split at ha
      · rename_i hle
        injection ha with ha; simp only [Prod.mk.injEq] at ha; obtain ⟨rfl, rfl⟩ := ha
        exact Cells.size_ext hle
      · cases ha
    · split at ha
      · injection ha with ha; simp only [Prod.mk.injEq] at ha; obtain ⟨rfl, rfl⟩ := ha; simp [Cells.size]
      · cases ha
  · split at ha
    · rename_i s he
      injection ha with ha; simp only [Prod.mk.injEq] at ha; obtain ⟨rfl, rfl⟩ := ha
      rw [← Cells.length_toList, toList_mkRow, byteCells_length, he, Nat.mul_one]
    · cases ha
  · cases ha

def aAppend (k : ElK) (s x : Value) (h : AHeap) : Option (Value × AHeap) :=
  match aSrc k.es x h with
  | none => none
  | some (new, n) =>
    match s with
    | .slice none 0 0 =>
      if n = 0 then some (.slice none 0 0, h)
      else if n * k.bytes ≤ 140737488355328 ∧ n ≤ 1099511627776 ∧ 0 < k.es then some (.slice (some ⟨h.next, 0, none⟩) n n, h.new (.row false k.es new)) else none
    | .slice (some ⟨m, o, none⟩) len cap =>
      match h.get m with
      | .row ro gr c =>
        if len ≤ cap ∧ o + len * k.es ≤ c.size ∧ (len + n) * k.bytes ≤ 140737488355328 ∧ len + n ≤ 1099511627776 ∧ 0 < k.es then
          if n = 0 then some (s, h)
          else if gr = 0 then
            if len + n ≤ cap then
              if ro = false ∧ o + (len + n) * k.es ≤ c.size then some (.slice (some ⟨m, o, none⟩) (len + n) cap, h.set m (.row false 0 (c.blit (o + len * k.es) new))) else none
            else some (.slice (some ⟨h.next, 0, none⟩) (len + n) (len + n), h.new (.row false k.es ((c.ext o (len * k.es)).app new)))
          else if gr = k.es ∧ ro = false then some (.slice (some ⟨h.next, 0, none⟩) (len + n) (len + n), (h.set m .dead).new (.row false k.es ((c.ext o (len * k.es)).app new)))
          else none
        else none
      | _ => none
    | _ => none

theorem toList_app (a b : Cells) : (a.app b).toList = a.toList ++ b.toList := by
  apply List.ext_getElem?
  intro j
  rw [Cells.get_toList, Cells.get_app, List.getElem?_append, Cells.length_toList, Cells.get_toList, Cells.get_toList]

/-- The row that an append without room makes. -/
theorem Inv.newGrown (hI : Inv N0 w0 σ h w) (c : Cells) (l : List Value) (es room : Nat) (rest : List Value) (el : TypeId) (hr : VRL h.next σ c.toList l) (hone : ∀ v ∈ l, v.oneCell' = true) (hes : 0 < es) (hroom : room * es = l.length + rest.length) :
    ∃ σ', Inv N0 w0 σ' (h.new (.row false es c)) { w with heap := w.heap.push (.cells (l ++ rest).toArray el) } ∧ Go' σ h w σ' (h.new (.row false es c)) { w with heap := w.heap.push (.cells (l ++ rest).toArray el) } ∧
      σ' h.next = ⟨w.heap.size, 0, some (es, room * es), true, none⟩ := by
  have hlen : l.length = c.size := by rw [← hr.1, Cells.length_toList]
  refine ⟨_, (hI.new (.row false es c) (.cells (l ++ rest).toArray el) (some (es, room * es)) rfl (lp := none) ?_).1, (hI.new (.row false es c) (.cells (l ++ rest).toArray el) (some (es, room * es)) rfl (lp := none) ?_).2, Sig.put_same _ _ _⟩ <;>
  · refine ⟨(l ++ rest).toArray, el, (0, 0), by simp, ?_, ?_, ?_, rfl, ?_⟩
    · intro i v hv
      obtain ⟨v', e, hv'⟩ := hr.get (by rw [Cells.get_toList]; exact hv)
      have hi := (List.getElem?_eq_some_iff.1 e).1
      exact ⟨v', by rw [Nat.zero_add, List.getElem?_toArray, List.getElem?_append_left hi]; exact e, hv'.mono (by omega) (fun m hm => Sig.put_ne _ _ (by omega)), hone v' (List.mem_of_getElem? e)⟩
    · simp; omega
    · intro _; exact .inl rfl
    · intro es' ext he
      injection he with he; simp only [Prod.mk.injEq] at he
      obtain ⟨rfl, rfl⟩ := he
      refine ⟨hes, by omega, by simp; omega⟩

theorem size_zeroCells (zs : Array Value) (n : Nat) : (Builtin.zeroCells zs n).size = n * zs.size := by simp [Builtin.zeroCells]
theorem need_le_grownCap (w : World) (need old : Nat) (e : TypeId) : need ≤ grownCap w need old e := by
  unfold grownCap Question.cut; simp

/-- The arm of append that makes a new row, over whatever was there. -/
theorem append_grow {t tx ty e : TypeId} {k : ElK} {s' x' : Value} {base : Option Addr} {sLen sCap : Nat} {old new cl : Cells} {olds news : List Value} {n : Nat} (hI : Inv N0 w0 σ h w) (hcells : cl.toList = old.toList ++ new.toList) (ht : P.underlying t = some (.slice e)) (hk : cElem P e = some k)
    (hs' : s' = .slice base sLen sCap) (hsrc : Src P k.es tx x' n news w) (hnew : VRL h.next σ new.toList news) (hold : VRL h.next σ old.toList olds) (ho1 : ∀ v ∈ olds, v.oneCell' = true) (hos : olds.length = sLen * k.es)
    (hrun : ∀ w' : World, w'.heap = w.heap → (Builtin.firstCells k.es sLen (.slice base sLen sCap)).run P w' = .ok olds.toArray w') (hg : sCap < sLen + n) (hb : (sLen + n) * k.bytes ≤ 140737488355328) (hsm : sLen + n ≤ 1099511627776) (hes : 0 < k.es) :
    Sim N0 w0 P σ h w (Builtin.append_ #[t, tx] ty #[s', x']) (.slice (some ⟨h.next, 0, none⟩) (sLen + n) (sLen + n)) (h.new (.row false k.es cl)) := by
  obtain ⟨i, z, hi, hz, hzs, hkk, hcl, hon⟩ := cElem_spec hk
  have hke : k.es = i.size := by rw [hkk]
  have hkb : k.bytes = i.bytes := by rw [hkk]
  subst hs'
  have hrun2 := run_append_grow_src (P := P) w t tx ty e i z ht hi hz base sLen sCap olds (by rw [← hke]; exact hrun w.drew rfl) x' n news (by rw [← hke]; exact hsrc) hg (by omega) (growslice_fits hg (by rw [← hkb]; exact hb))
  have hgc := need_le_grownCap w (sLen + n) sCap e
  have hIw : Inv N0 w0 σ h w.drew := hI.drawn _
  obtain ⟨σ', g1, g2, g3⟩ := hIw.newGrown cl (olds ++ news) k.es (grownCap w (sLen + n) sCap e) (Builtin.zeroCells z.cells (grownCap w (sLen + n) sCap e - (sLen + n))).toList e
    (by rw [hcells]; exact hold.append hnew)
    (fun v hv => (List.mem_append.1 hv).elim (ho1 v) (hsrc.one v)) hes
    (by
      have e3 := size_zeroCells z.cells (grownCap w (sLen + n) sCap e - (sLen + n))
      rw [← Array.length_toList] at e3
      rw [e3, hzs, ← hke, List.length_append, hos, hsrc.newsLen, ← Nat.add_mul, ← Nat.add_mul]
      congr 1; omega)
  refine ⟨σ', _, _, hrun2, ?_, ?_, ?_⟩
  · have := VR.slg (n := h.next + 1) (σ := σ') h.next 0 (sLen + n) (sLen + n) (grownCap w (sLen + n) sCap e) k.es (grownCap w (sLen + n) sCap e * k.es) ⟨by omega, by rw [g3]⟩ (by rw [g3]) (Nat.le_refl _) hgc (by omega)
    rw [g3] at this
    exact this
  · have e2 : (olds ++ news ++ (Builtin.zeroCells z.cells (grownCap w (sLen + n) sCap e - (sLen + n))).toList).toArray = (olds ++ news).toArray ++ Builtin.zeroCells z.cells (grownCap w (sLen + n) sCap e - (sLen + n)) := by
      apply Array.ext'; simp
    rw [e2] at g1
    exact g1
  · have e2 : (olds ++ news ++ (Builtin.zeroCells z.cells (grownCap w (sLen + n) sCap e - (sLen + n))).toList).toArray = (olds ++ news).toArray ++ Builtin.zeroCells z.cells (grownCap w (sLen + n) sCap e - (sLen + n)) := by
      apply Array.ext'; simp
    rw [e2] at g2
    exact (Go'.drawn σ h w _).trans g2

theorem append_room_run (t tx ty e : TypeId) (i : TypeInfo) (ht : P.underlying t = some (.slice e)) (hi : P.info? e = some i) (b off sLen sCap : Nat) (x : Value) (n : Nat) (news : List Value) (hs : Src P i.size tx x n news w)
    (hroom : sLen + n ≤ sCap) {w' : World} (hst : (storeCells ⟨b, off + sLen * i.size, none⟩ news).run P w = .ok () w') :
    (Builtin.append_ #[t, tx] ty #[.slice (some ⟨b, off, none⟩) sLen sCap, x]).run P w = .ok (.slice (some ⟨b, off, none⟩) (sLen + n) sCap) w' := by
  rcases hs.kind with ⟨e', hk⟩ | hk <;> simp [Builtin.append_, run_underlying ht, run_underlying hk, sizeOf, typeInfo, hi, hs.len, hroom, hs.cells, Addr.add_lit, hst]

theorem append_none_run (t tx ty e : TypeId) (i : TypeInfo) (ht : P.underlying t = some (.slice e)) (hi : P.info? e = some i) (base : Option Addr) (sLen sCap : Nat) (x : Value) (hs : Src P i.size tx x 0 [] w) (hle : sLen ≤ sCap) :
    (Builtin.append_ #[t, tx] ty #[.slice base sLen sCap, x]).run P w = .ok (.slice base sLen sCap) w := by
  rcases hs.kind with ⟨e', hk⟩ | hk <;> cases base <;> simp [Builtin.append_, run_underlying ht, run_underlying hk, sizeOf, typeInfo, hi, hs.len, hle, hs.cells, storeCells]

theorem append_run {t tx ty e : TypeId} {k : ElK} {s s' x x' v : Value} {h' : AHeap} (hI : Inv N0 w0 σ h w) (ht : P.underlying t = some (.slice e)) (hk : cElem P e = some k) (hs : VR h.next σ s s') (hx : VR h.next σ x x')
    (hsk : srcOk P tx x = true) (ha : aAppend k s x h = some (v, h')) : Sim N0 w0 P σ h w (Builtin.append_ #[t, tx] ty #[s', x']) v h' := by
  obtain ⟨i, z, hi, hz, hzs, hkk, hcl, hon⟩ := cElem_spec hk
  have hke : k.es = i.size := by rw [hkk]
  unfold aAppend at ha
  split at ha
  · cases ha
  · rename_i new n hsrc
    obtain ⟨news, hS, hnew⟩ := src_rel hI hx hsk hsrc
    have hnsz := src_size hsrc
    have hS' : Src P i.size tx x' n news w := by rw [← hke]; exact hS
    split at ha
    · cases hs with
      | nils =>
      split at ha
      · rename_i hn0
        subst hn0
        injection ha with ha; simp only [Prod.mk.injEq] at ha; obtain ⟨rfl, rfl⟩ := ha
        have hnil : news = [] := List.length_eq_zero_iff.1 (by rw [hS.newsLen]; simp)
        subst hnil
        exact Sim.same hI (append_none_run t tx ty e i ht hi none 0 0 x' hS' (Nat.le_refl _)) .nils
      · split at ha
        · rename_i hn0 hb
          injection ha with ha; simp only [Prod.mk.injEq] at ha; obtain ⟨rfl, rfl⟩ := ha
          have := append_grow (ty := ty) (cl := new) (old := .vals []) (olds := []) (sLen := 0) (sCap := 0) (base := none) (n := n) hI (by simp [Cells.toList]) ht hk rfl hS hnew .nil (fun v hv => by cases hv) (by simp)
            (fun w' _ => by simp [Builtin.firstCells]) (by omega) (by simpa using hb.1) (by omega) hb.2.2
          simp only [Nat.zero_add] at this
          exact this
        · cases ha
    · rename_i m o len cap
      split at ha
      · rename_i ro gr c hrow
        split at ha
        · rename_i hb
          obtain ⟨hlc, hsz, hby, hsm, hes⟩ := hb
          -- what the machine's slice is
          have hform : ∃ A cap', s' = .slice (some A) len cap' ∧ len ≤ cap' := by
            cases hs with
            | sl _ _ _ _ hm hr => exact ⟨_, _, rfl, hlc⟩
            | slg _ _ _ _ cap' es2 ext hm hr hl hcp he => exact ⟨_, _, rfl, by omega⟩
            | sle _ _ p es2 ext hm hr => exact ⟨_, _, rfl, by omega⟩
          obtain ⟨olds, q1, q2, q3⟩ := hI.cellsAt hrow hsz
          have holen : olds.length = len * k.es := by rw [← q1.1, Cells.length_toList, Cells.size_ext hsz]
          have hfirst : ∀ (A : Addr) (cap' : Nat), (A = ⟨(σ m).blk, (σ m).base + o, none⟩ ∨ len = 0) → ∀ w' : World, w'.heap = w.heap → (Builtin.firstCells k.es len (.slice (some A) len cap')).run P w' = .ok olds.toArray w' := by
            intro A cap' hA w' hw'
            refine run_firstCells_some w' k.es len A len cap' olds holen ?_
            intro j u hj
            rcases hA with hA | hA
            · subst hA
              rw [add_mk]
              have := q2 j u hj
              simp only [World.cell?, hw'] at this ⊢
              exact this
            · subst hA
              have : olds = [] := List.length_eq_zero_iff.1 (by rw [holen]; simp)
              subst this; simp at hj
          split at ha
          · rename_i hn0
            subst hn0
            injection ha with ha; simp only [Prod.mk.injEq] at ha; obtain ⟨rfl, rfl⟩ := ha
            obtain ⟨A, cap', rfl, hle⟩ := hform
            have hnil : news = [] := List.length_eq_zero_iff.1 (by rw [hS.newsLen]; simp)
            subst hnil
            exact Sim.same hI (append_none_run t tx ty e i ht hi (some A) len cap' x' hS' hle) hs
          · rename_i hn0
            split at ha
            · rename_i hg0
              subst hg0
              have hroom := hI.room0 hrow
              cases hs with
              | slg _ _ _ _ cap' es2 ext hm hr hl hcp he => rw [hroom] at hr; cases hr
              | sle _ _ p es2 ext hm hr => rw [hroom] at hr; cases hr
              | sl _ _ _ _ hm hr =>
              split at ha
              · rename_i hfit
                split at ha
                · rename_i hro
                  obtain ⟨hro, hroomy⟩ := hro
                  subst hro
                  injection ha with ha; simp only [Prod.mk.injEq] at ha; obtain ⟨rfl, rfl⟩ := ha
                  have hmul : (len + n) * k.es = len * k.es + n * k.es := Nat.add_mul _ _ _
                  obtain ⟨w', r1, r2, r3⟩ := hI.storeCells (P := P) hrow (o := o + len * k.es) (p := new) hnew (by omega) hS.one
                  refine ⟨σ, .slice (some ⟨(σ m).blk, (σ m).base + o, none⟩) (len + n) cap, w', ?_, .sl m o _ _ hm hroom, r2, r3⟩
                  exact append_room_run t tx ty e i ht hi _ _ len cap x' n news hS' hfit (by rw [← hke, Nat.add_assoc]; exact r1)
                · cases ha
              · rename_i hfit
                injection ha with ha; simp only [Prod.mk.injEq] at ha; obtain ⟨rfl, rfl⟩ := ha
                exact append_grow (ty := ty) (old := c.ext o (len * k.es)) hI (toList_app _ _) ht hk rfl hS hnew q1 q3 holen (hfirst _ _ (.inl rfl)) (by omega) hby hsm hes
            · rename_i hg0
              split at ha
              · rename_i hge
                obtain ⟨hge, hro⟩ := hge
                subst hge
                subst hro
                injection ha with ha; simp only [Prod.mk.injEq] at ha; obtain ⟨rfl, rfl⟩ := ha
                obtain ⟨ext, hroom⟩ := hI.roomS hrow hg0
                have hown : (h.get m).own = true := by rw [hrow]; rfl
                have hlive : (h.get m).live = true := by rw [hrow]; rfl
                have hmn := hI.lt_next hlive
                -- a new row, and the old one is forgotten
                have grow : ∀ (A : Addr) (cap' : Nat), s' = .slice (some A) len cap' → (A = ⟨(σ m).blk, (σ m).base + o, none⟩ ∨ len = 0) → cap' < len + n →
                    Sim N0 w0 P σ h w (Builtin.append_ #[t, tx] ty #[s', x']) (.slice (some ⟨h.next, 0, none⟩) (len + n) (len + n)) ((h.set m .dead).new (.row false k.es ((c.ext o (len * k.es)).app new))) := by
                  intro A cap' hse hA hcap
                  obtain ⟨k1, k2⟩ := hI.kill m hmn
                  obtain ⟨σ', v', w', s1, s2, s3, s4⟩ := append_grow (ty := ty) (old := c.ext o (len * k.es)) k1 (toList_app _ _) ht hk hse hS hnew q1 q3 holen (hfirst A cap' hA) hcap hby hsm hes
                  exact ⟨σ', v', w', s1, s2, s3, k2.trans s4⟩
                cases hs with
                | sl _ _ _ _ hm hr => rw [hroom] at hr; cases hr
                | sle _ _ p es2 ext2 hm hr => exact grow _ 0 rfl (.inr rfl) (by omega)
                | slg _ _ _ _ cap' es2 ext2 hm hr hl hcp he =>
                  rw [hroom] at hr; injection hr with hr; simp only [Prod.mk.injEq] at hr
                  obtain ⟨rfl, rfl⟩ := hr
                  by_cases hfit : len + n ≤ cap'
                  · -- it grows where it lies
                    have hobj := hI.obj m
                    rw [hrow] at hobj
                    obtain ⟨cs, el, fz, o1, o2, o3, o4, o5, o6⟩ := hobj
                    obtain ⟨_, o7, o8⟩ := o6 _ _ hroom
                    have hmul : (len + n) * k.es = len * k.es + n * k.es := Nat.add_mul _ _ _
                    have hmul2 : (len + n) * k.es ≤ cap' * k.es := Nat.mul_le_mul_right _ hfit
                    have hnl : news.length = n * k.es := hS.newsLen
                    obtain ⟨cs', p1, p2, p3⟩ := run_storeCells0 (P := P) news (σ m).blk ((σ m).base + o + len * k.es) w cs el fz o1 (fun j _ hj => by have := o4 rfl; omega) (by omega) hS.one
                    have hblt := (Array.getElem?_eq_some_iff.1 o1).1
                    have hput : ∀ j, j < h.next → (σ.put h.next ⟨(σ m).blk, (σ m).base + o, some (k.es, ext - o), true, none⟩) j = σ j := fun j hj => Sig.put_ne _ _ (by omega)
                    obtain ⟨t1, t2⟩ := hI.regrow m (.row false k.es ((c.ext o (len * k.es)).app new)) ⟨(σ m).blk, (σ m).base + o, some (k.es, ext - o), true, none⟩
                      (w' := { w with heap := w.heap.setIfInBounds (σ m).blk (.cells cs' el fz) }) hown rfl rfl
                      (by
                        refine ⟨cs', el, fz, by simp [hblt], ?_, ?_, ?_, rfl, ?_⟩
                        · intro j v hv
                          show ∃ v', cs'[(σ m).base + o + j]? = some v' ∧ VR _ _ v v' ∧ v'.oneCell' = true
                          rw [Cells.get_app, Cells.size_ext hsz] at hv
                          rw [p2]
                          split at hv
                          · rename_i hj
                            rw [Cells.get_ext hsz, if_pos hj] at hv
                            obtain ⟨v', a1, a2, a3⟩ := o2 _ v hv
                            rw [if_neg (by omega), show (σ m).base + o + j = (σ m).base + (o + j) by omega]
                            exact ⟨v', a1, a2.mono (by omega) hput, a3⟩
                          · rename_i hj
                            have hjs := Cells.get_some hv
                            rw [hnsz] at hjs
                            rw [if_pos (by omega), show (σ m).base + o + j - ((σ m).base + o + len * k.es) = j - len * k.es by omega]
                            obtain ⟨v', a1, a2⟩ := hnew.get (by rw [Cells.get_toList]; exact hv)
                            exact ⟨v', a1, a2.mono (by omega) hput, hS.one v' (List.mem_of_getElem? a1)⟩
                        · rw [Cells.size_app, Cells.size_ext hsz, hnsz, p1]; show (σ m).base + o + _ ≤ _; omega
                        · intro _; rw [p1]; exact o4 rfl
                        · intro es2 ext2 he2
                          injection he2 with he2; simp only [Prod.mk.injEq] at he2
                          obtain ⟨rfl, rfl⟩ := he2
                          rw [Cells.size_app, Cells.size_ext hsz, hnsz, p1]
                          refine ⟨hes, by omega, ?_⟩
                          show (σ m).base + o + (ext - o) ≤ cs.size
                          omega)
                      rfl rfl rfl (by simp) (fun b hb => by
                        show (w.heap.setIfInBounds _ _)[b]? = _
                        rw [Array.getElem?_setIfInBounds, if_neg (fun e => hb e.symm)])
                    refine ⟨_, .slice (some ⟨(σ m).blk, (σ m).base + o, none⟩) (len + n) cap', _, append_room_run t tx ty e i ht hi _ _ len cap' x' n news hS' hfit (by rw [← hke]; exact p3), ?_, t1, t2⟩
                    have := VR.slg (n := h.next + 1) (σ := σ.put h.next ⟨(σ m).blk, (σ m).base + o, some (k.es, ext - o), true, none⟩) h.next 0 (len + n) (len + n) cap' k.es (ext - o) ⟨by omega, by rw [Sig.put_same]⟩ (by rw [Sig.put_same]) (Nat.le_refl _) hfit (by omega)
                    rw [Sig.put_same] at this
                    exact this
                  · exact grow _ cap' rfl (.inl rfl) (by omega)
              · cases ha
        · cases ha
      · cases ha
    · cases ha
end
end
end Go.AM
