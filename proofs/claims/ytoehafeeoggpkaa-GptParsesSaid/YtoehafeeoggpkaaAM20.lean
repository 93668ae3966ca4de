import Derived.Test.YtoehafeeoggpkaaAM19B
set_option linter.unusedVariables false
set_option linter.unusedSimpArgs false
/-! Part 20: lemmas for regions whose order is open. -/
namespace Go.AM
noncomputable section
open Go.RowKit

theorem pairs_spec {α : Type} {p : α → α → Bool} : ∀ {l : List α}, pairs p l = true → ∀ (pre : List α) (a : α) (post : List α), l = pre ++ a :: post → ∀ b ∈ post, p a b = true
  | [], _, pre, a, post, h, b, hb => by simp at h
  | x :: l, hp, pre, a, post, h, b, hb => by
    simp only [pairs, Bool.and_eq_true] at hp
    cases pre with
    | nil =>
      simp only [List.nil_append, List.cons.injEq] at h
      obtain ⟨rfl, rfl⟩ := h
      exact List.all_eq_true.1 hp.1 b hb
    | cons y pre =>
      simp only [List.cons_append, List.cons.injEq] at h
      exact pairs_spec hp.2 pre a post h.2 b hb
/-- a before b. -/
theorem pairs_mid {α : Type} {p : α → α → Bool} {l pre post : List α} {b : α} (hp : pairs p l = true) (h : l = pre ++ b :: post) : ∀ a ∈ pre, p a b = true := by
  intro a ha
  obtain ⟨x, y, rfl⟩ := List.append_of_mem ha
  exact pairs_spec hp x a (y ++ b :: post) (by rw [h]; simp) b (by simp)

theorem compRs_get {P : Program} {N : Nat} {ops : Array Oper} : ∀ (l : List Oper) (rs : List ROp), compRs P N ops l = some rs → rs.length = l.length ∧ ∀ (i : Nat) (o : Oper), l[i]? = some o → ∃ r, rs[i]? = some r ∧ compR P N ops o = some r
  | [], rs, h => by simp only [compRs, Option.some.injEq] at h; subst h; exact ⟨rfl, fun i o e => by simp at e⟩
  | x :: l, rs, h => by
    simp only [compRs] at h
    split at h
    · rename_i a b ha hb
      injection h with h; subst h
      obtain ⟨h1, h2⟩ := compRs_get l b hb
      refine ⟨by simp [h1], fun i o e => ?_⟩
      cases i with
      | zero => simp at e; subst e; exact ⟨a, rfl, ha⟩
      | succ i => simp at e; obtain ⟨r, h3, h4⟩ := h2 i o e; exact ⟨r, by simpa using h3, h4⟩
    · cases h

/-! ### operations look at their operands alone -/
theorem map_congr' {ρ ρ' : Operand → Value} {l : List Operand} (h : ∀ x ∈ l, ρ x = ρ' x) : l.map ρ = l.map ρ' := List.map_congr_left h
theorem pmap_congr {ρ ρ' : Operand → Value} {l : List (Nat × Operand)} (h : ∀ p ∈ l, ρ p.2 = ρ' p.2) : (l.map fun p => (p.1, ρ p.2)) = l.map fun p => (p.1, ρ' p.2) :=
  List.map_congr_left fun p hp => by rw [h p hp]

theorem compOp_congr {P : Program} {pk : Bool} {op : Op} {ao : AOp} {ρ ρ' : Operand → Value} {h : AHeap} (hc : compOp P op = some ao) (hρ : ∀ x ∈ op.operands, ρ x = ρ' x) : aop pk ao ρ h = aop pk ao ρ' h := by
  cases op <;> simp only [compOp] at hc <;> (first | (cases hc; done) | skip) <;> simp only [Op.operands] at hρ
  case move x => split at hc <;> (first | (cases hc; done) | skip); injection hc with hc; subst hc; simp only [aop, hρ x (by simp)]
  case assign x => split at hc <;> (first | (cases hc; done) | skip); injection hc with hc; subst hc; simp only [aop, hρ x (by simp)]
  case pick c a b => split at hc <;> (first | (cases hc; done) | skip); injection hc with hc; subst hc; simp only [aop, hρ c (by simp), hρ a (by simp), hρ b (by simp)]
  case alloc e =>
    split at hc <;> (first | (cases hc; done) | skip)
    split at hc <;> (first | (cases hc; done) | skip)
    split at hc <;> (first | (cases hc; done) | skip)
    injection hc with hc; subst hc; rfl
  case box e x => split at hc <;> (first | (cases hc; done) | skip); injection hc with hc; subst hc; simp only [aop, hρ x (by simp)]
  case build t ps =>
    split at hc <;> (first | (cases hc; done) | skip)
    obtain ⟨k, hk, rfl⟩ := obind hc
    have : (ps.toList.map fun p => (p.1, ρ p.2)) = ps.toList.map fun p => (p.1, ρ' p.2) := pmap_congr fun p hp => hρ p.2 (by simp; exact ⟨p.1, by simpa using hp⟩)
    simp only [aop, this]
  case buildSlice t n ps =>
    split at hc <;> (first | (cases hc; done) | skip)
    split at hc <;> (first | (cases hc; done) | skip)
    obtain ⟨k, hk, rfl⟩ := obind hc
    have : (ps.toList.map fun p => (p.1, ρ p.2)) = ps.toList.map fun p => (p.1, ρ' p.2) := pmap_congr fun p hp => hρ p.2 (by simp; exact ⟨p.1, by simpa using hp⟩)
    simp only [aop, this]
  case load t a => split at hc <;> (first | (cases hc; done) | skip); obtain ⟨k, hk, rfl⟩ := obind hc; simp only [aop, hρ a (by simp)]
  case store t a x => split at hc <;> (first | (cases hc; done) | skip); obtain ⟨k, hk, rfl⟩ := obind hc; simp only [aop, hρ a (by simp), hρ x (by simp)]
  case nilCheck x => split at hc <;> (first | (cases hc; done) | skip); injection hc with hc; subst hc; simp only [aop, hρ x (by simp)]
  case binOp op t x y yt =>
    have h1 := hρ x (by simp)
    have h2 := hρ y (by simp)
    split at hc <;> (first | (cases hc; done) | skip)
    split at hc
    · injection hc with hc; subst hc; simp only [aop, h1, h2]
    · injection hc with hc; subst hc; simp only [aop, h1, h2]
    · split at hc <;> (first | (cases hc; done) | skip); injection hc with hc; subst hc; simp only [aop, h1, h2]
    · split at hc <;> (first | (cases hc; done) | skip); obtain ⟨k, hk, rfl⟩ := obind hc; simp only [aop, h1, h2]
    · split at hc <;> (first | (cases hc; done) | skip); obtain ⟨k, hk, rfl⟩ := obind hc; simp only [aop, h1, h2]
    · split at hc <;> (first | (cases hc; done) | skip); obtain ⟨k, hk, rfl⟩ := obind hc; simp only [aop, h1, h2]
  case unOp op t x => split at hc <;> (first | (cases hc; done) | skip); injection hc with hc; subst hc; simp only [aop, hρ x (by simp)]
  case convert s d x => split at hc <;> (first | (cases hc; done) | skip); obtain ⟨k, hk, rfl⟩ := obind hc; simp only [aop, hρ x (by simp)]
  case makeInterface t x => split at hc <;> (first | (cases hc; done) | skip); injection hc with hc; subst hc; simp only [aop, hρ x (by simp)]
  case makeFunc fn a b =>
    split at hc <;> (first | (cases hc; done) | skip); injection hc with hc; subst hc
    have e1 : a.toList.map ρ = a.toList.map ρ' := map_congr' fun x hx => hρ x (by simp; exact .inl (by simpa using hx))
    have e2 : b.toList.map ρ = b.toList.map ρ' := map_congr' fun x hx => hρ x (by simp; exact .inr (by simpa using hx))
    simp only [aop, e1, e2]
  case makeMap t r => cases r <;> (first | (cases hc; done) | skip); injection hc with hc; subst hc; rfl
  case makeSlice t l c =>
    split at hc <;> (first | (cases hc; done) | skip)
    split at hc <;> (first | (cases hc; done) | skip)
    obtain ⟨k, hk, rfl⟩ := obind hc; simp only [aop, hρ l (by simp), hρ c (by simp)]
  case slice t x lo hi mx =>
    split at hc <;> (first | (cases hc; done) | skip)
    obtain ⟨k, hk, rfl⟩ := obind hc
    have e : ∀ o : Option Operand, (∀ y, o = some y → ρ y = ρ' y) → o.map ρ = o.map ρ' := fun o ho => by cases o with | none => rfl | some y => simp [ho y rfl]
    have e1 := e lo (fun y hy => hρ y (by subst hy; simp))
    have e2 := e hi (fun y hy => hρ y (by subst hy; simp))
    have e3 := e mx (fun y hy => hρ y (by subst hy; simp))
    simp only [aop, hρ x (by simp), e1, e2, e3]
  case fieldAddr s x f =>
    split at hc <;> (first | (cases hc; done) | skip)
    split at hc <;> (first | (cases hc; done) | skip)
    split at hc <;> (first | (cases hc; done) | skip)
    split at hc <;> (first | (cases hc; done) | skip)
    split at hc <;> (first | (cases hc; done) | skip)
    injection hc with hc; subst hc; simp only [aop, hρ x (by simp)]
  case field s x f =>
    split at hc <;> (first | (cases hc; done) | skip)
    split at hc <;> (first | (cases hc; done) | skip)
    split at hc <;> (first | (cases hc; done) | skip)
    obtain ⟨k, hk, rfl⟩ := obind hc; simp only [aop, hρ x (by simp)]
  case indexAddr t x i => split at hc <;> (first | (cases hc; done) | skip); obtain ⟨k, hk, rfl⟩ := obind hc; simp only [aop, hρ x (by simp), hρ i (by simp)]
  case index t x i => split at hc <;> (first | (cases hc; done) | skip); obtain ⟨k, hk, rfl⟩ := obind hc; simp only [aop, hρ x (by simp), hρ i (by simp)]
  case lookup t x i ok => split at hc <;> (first | (cases hc; done) | skip); obtain ⟨k, hk, rfl⟩ := obind hc; simp only [aop, hρ x (by simp), hρ i (by simp)]
  case mapUpdate t m i x => split at hc <;> (first | (cases hc; done) | skip); obtain ⟨k, hk, rfl⟩ := obind hc; simp only [aop, hρ m (by simp), hρ i (by simp), hρ x (by simp)]
  case insert t m i x => split at hc <;> (first | (cases hc; done) | skip); obtain ⟨k, hk, rfl⟩ := obind hc; simp only [aop, hρ m (by simp), hρ i (by simp), hρ x (by simp)]
  case extract x i => split at hc <;> (first | (cases hc; done) | skip); injection hc with hc; subst hc; simp only [aop, hρ x (by simp)]
  case call c =>
    obtain ⟨callee, args, argTypes⟩ := c
    cases callee <;> (first | (cases hc; done) | skip)
    rename_i b
    simp only at hc
    have hargs : ∀ x ∈ args.toList, ρ x = ρ' x := fun x hx => hρ x (by simp [Call.operands]; simpa using hx)
    split at hc <;> (first | (cases hc; done) | skip)
    split at hc <;> (first | (cases hc; done) | skip)
    · rename_i s x t tx e1 e2
      rw [e1] at hargs
      split at hc <;> (first | (cases hc; done) | skip) <;> (first | (obtain ⟨k, hk, rfl⟩ := obind hc; simp only [aop, hargs s (by simp), hargs x (by simp)]; done) | (injection hc with hc; subst hc; simp only [aop, hargs s (by simp)]))
    · rename_i d s t t2 e1 e2
      rw [e1] at hargs
      split at hc <;> (first | (cases hc; done) | skip)
      obtain ⟨k, hk, rfl⟩ := obind hc; simp only [aop, hargs s (by simp), hargs d (by simp)]
    · rename_i x t e1 e2
      rw [e1] at hargs
      obtain ⟨k, hk, rfl⟩ := obind hc; simp only [aop, hargs x (by simp)]
    · rename_i _ x r e1
      rw [e1] at hargs
      injection hc with hc; subst hc
      have : r.map ρ = r.map ρ' := map_congr' fun y hy => hargs y (by simp [hy])
      simp only [aop, hargs x (by simp), this]
    · rename_i _ x r e1
      rw [e1] at hargs
      injection hc with hc; subst hc
      have : r.map ρ = r.map ρ' := map_congr' fun y hy => hargs y (by simp [hy])
      simp only [aop, hargs x (by simp), this]

theorem compRK_congr {P : Program} {pk : Bool} {call : CallT} {rnd : RoundT} {op : Op} {rk : RK} {ρ ρ' : Operand → Value} {h : AHeap} (hc : IsRK P op rk) (hρ : ∀ x ∈ op.operands, ρ x = ρ' x) : doOp pk call rnd rk ρ h = doOp pk call rnd rk ρ' h := by
  rcases hc with hc | ⟨name, x, rfl, _, rfl⟩
  rotate_left
  · simp only [doOp, hρ x (by simp [Op.operands])]
  unfold compRK at hc
  split at hc
  · rename_i f args tys
    split at hc <;> (first | (cases hc; done) | skip)
    injection hc with hc; subst hc
    have : args.toList.map ρ = args.toList.map ρ' := map_congr' fun x hx => hρ x (by simp [Op.operands, Call.operands]; exact .inr (by simpa using hx))
    simp only [doOp, this]
  · rename_i t args tys
    split at hc <;> (first | (cases hc; done) | skip)
    injection hc with hc; subst hc
    have : args.toList.map ρ = args.toList.map ρ' := map_congr' fun x hx => hρ x (by simp [Op.operands, Call.operands]; exact .inr (by simpa using hx))
    have h2 := hρ (.tmp t) (by simp [Op.operands, Call.operands])
    simp only [doOp, this, h2]
  · rename_i r name args tys
    split at hc <;> (first | (cases hc; done) | skip)
    injection hc with hc; subst hc
    have : args.toList.map ρ = args.toList.map ρ' := map_congr' fun x hx => hρ x (by simp [Op.operands, Call.operands]; exact .inr (by simpa using hx))
    have h2 := hρ r (by simp [Op.operands, Call.operands])
    simp only [doOp, this, h2]
  · obtain ⟨ao, hao, rfl⟩ := obind hc
    simp only [doOp]
    exact compOp_congr hao hρ

/-- What is fresh: how its value names it. -/
inductive FSh where
  | ptr
  | sl (len cap : Nat)
  | map
def FSh.val : FSh → Nat → Value
  | .ptr, n => .pointer (some ⟨n, 0, none⟩)
  | .sl l c, n => .slice (some ⟨n, 0, none⟩) l c
  | .map, n => .map (some n)

theorem get_new_self (n : Nat) (t : HT) (o : AObj) : ((⟨n, t⟩ : AHeap).new o).get n = o := by rw [AHeap.get_new, if_pos rfl]

/-- What is known of a compiled operation that makes something. -/
def aOk : AOp → Prop
  | .alloc zs => zs.all (closedV depthC) = true
  | .box x => opdOk x = true
  | .buildSlice k _ ps => k.zs.all (closedV depthC) = true ∧ ps.all (fun p => opdOk p.2) = true
  | .makeSlice k l c => k.zs.all (closedV depthC) = true
  | _ => True
theorem compOp_ok {P : Program} {op : Op} {ao : AOp} (hc : compOp P op = some ao) : aOk ao := by
  cases op <;> simp only [compOp] at hc <;> (first | (cases hc; done) | skip)
  case move x => split at hc <;> (first | (cases hc; done) | skip); injection hc with hc; subst hc; trivial
  case assign x => split at hc <;> (first | (cases hc; done) | skip); injection hc with hc; subst hc; trivial
  case pick c a b => split at hc <;> (first | (cases hc; done) | skip); injection hc with hc; subst hc; trivial
  case alloc e =>
    split at hc <;> (first | (cases hc; done) | skip)
    split at hc <;> (first | (cases hc; done) | skip)
    split at hc <;> (first | (cases hc; done) | skip)
    rename_i h
    injection hc with hc; subst hc; exact h
  case box e x => split at hc <;> (first | (cases hc; done) | skip); rename_i h; injection hc with hc; subst hc; exact h
  case build t ps => split at hc <;> (first | (cases hc; done) | skip); obtain ⟨k, hk, rfl⟩ := obind hc; trivial
  case buildSlice t n ps =>
    split at hc <;> (first | (cases hc; done) | skip)
    rename_i h
    split at hc <;> (first | (cases hc; done) | skip)
    obtain ⟨k, hk, rfl⟩ := obind hc
    obtain ⟨i, z, _, _, _, _, h5, _⟩ := cElem_spec hk
    exact ⟨h5, h⟩
  case load t a => split at hc <;> (first | (cases hc; done) | skip); obtain ⟨k, hk, rfl⟩ := obind hc; trivial
  case store t a x => split at hc <;> (first | (cases hc; done) | skip); obtain ⟨k, hk, rfl⟩ := obind hc; trivial
  case nilCheck x => split at hc <;> (first | (cases hc; done) | skip); injection hc with hc; subst hc; trivial
  case binOp op t x y yt =>
    split at hc <;> (first | (cases hc; done) | skip)
    split at hc
    · injection hc with hc; subst hc; trivial
    · injection hc with hc; subst hc; trivial
    · split at hc <;> (first | (cases hc; done) | skip); injection hc with hc; subst hc; trivial
    · split at hc <;> (first | (cases hc; done) | skip); obtain ⟨k, hk, rfl⟩ := obind hc; trivial
    · split at hc <;> (first | (cases hc; done) | skip); obtain ⟨k, hk, rfl⟩ := obind hc; trivial
    · split at hc <;> (first | (cases hc; done) | skip); obtain ⟨k, hk, rfl⟩ := obind hc; trivial
  case unOp op t x => split at hc <;> (first | (cases hc; done) | skip); injection hc with hc; subst hc; trivial
  case convert s d x => split at hc <;> (first | (cases hc; done) | skip); obtain ⟨k, hk, rfl⟩ := obind hc; trivial
  case makeInterface t x => split at hc <;> (first | (cases hc; done) | skip); injection hc with hc; subst hc; trivial
  case makeFunc fn a b => split at hc <;> (first | (cases hc; done) | skip); injection hc with hc; subst hc; trivial
  case makeMap t r => cases r <;> (first | (cases hc; done) | skip); injection hc with hc; subst hc; trivial
  case makeSlice t l c =>
    split at hc <;> (first | (cases hc; done) | skip)
    split at hc <;> (first | (cases hc; done) | skip)
    obtain ⟨k, hk, rfl⟩ := obind hc
    obtain ⟨i, z, _, _, _, _, h5, _⟩ := cElem_spec hk
    exact h5
  case slice t x lo hi mx => split at hc <;> (first | (cases hc; done) | skip); obtain ⟨k, hk, rfl⟩ := obind hc; trivial
  case fieldAddr s x f =>
    split at hc <;> (first | (cases hc; done) | skip)
    split at hc <;> (first | (cases hc; done) | skip)
    split at hc <;> (first | (cases hc; done) | skip)
    split at hc <;> (first | (cases hc; done) | skip)
    split at hc <;> (first | (cases hc; done) | skip)
    injection hc with hc; subst hc; trivial
  case field s x f =>
    split at hc <;> (first | (cases hc; done) | skip)
    split at hc <;> (first | (cases hc; done) | skip)
    split at hc <;> (first | (cases hc; done) | skip)
    obtain ⟨k, hk, rfl⟩ := obind hc; trivial
  case indexAddr t x i => split at hc <;> (first | (cases hc; done) | skip); obtain ⟨k, hk, rfl⟩ := obind hc; trivial
  case index t x i => split at hc <;> (first | (cases hc; done) | skip); obtain ⟨k, hk, rfl⟩ := obind hc; trivial
  case lookup t x i ok => split at hc <;> (first | (cases hc; done) | skip); obtain ⟨k, hk, rfl⟩ := obind hc; trivial
  case mapUpdate t m i x => split at hc <;> (first | (cases hc; done) | skip); obtain ⟨k, hk, rfl⟩ := obind hc; trivial
  case insert t m i x => split at hc <;> (first | (cases hc; done) | skip); obtain ⟨k, hk, rfl⟩ := obind hc; trivial
  case extract x i => split at hc <;> (first | (cases hc; done) | skip); injection hc with hc; subst hc; trivial
  case call c =>
    obtain ⟨callee, args, argTypes⟩ := c
    cases callee <;> (first | (cases hc; done) | skip)
    rename_i b
    simp only at hc
    split at hc <;> (first | (cases hc; done) | skip)
    split at hc <;> (first | (cases hc; done) | skip)
    · split at hc <;> (first | (cases hc; done) | skip) <;> (first | (obtain ⟨k, hk, rfl⟩ := obind hc; trivial) | (injection hc with hc; subst hc; trivial))
    · split at hc <;> (first | (cases hc; done) | skip)
      obtain ⟨k, hk, rfl⟩ := obind hc; trivial
    · obtain ⟨k, hk, rfl⟩ := obind hc; trivial
    · injection hc with hc; subst hc; trivial
    · injection hc with hc; subst hc; trivial

theorem fresh_form {σ : Sig} {pk : Bool} {ao : AOp} {ρ ρ' : Operand → Value} {n0 nb : Nat} {h' : AHeap} {v : Value} (hok : aOk ao) (hc : clsOf (.plain ao) = .fresh)
    (hρ : ∀ x, opdOk x = true → VR nb σ (ρ x) (ρ' x)) (ha : aop pk ao ρ ⟨n0, .leaf⟩ = some (v, h')) :
    ∃ (sh : FSh) (o : AObj), v = sh.val n0 ∧ h'.get n0 = o ∧ o.own = true ∧ (∀ n t, aop pk ao ρ ⟨n, t⟩ = some (sh.val n, (⟨n, t⟩ : AHeap).new o)) ∧
      (∀ ro gr c, o = .row ro gr c → ∀ i x, c.get i = some x → ∃ x', VR nb σ x x') ∧ (∀ es cl, o = .map es cl → es = []) := by
  have cells : ∀ (l l' : List Value), VRL nb σ l l' → ∀ i x, (mkRow pk l).get i = some x → ∃ x', VR nb σ x x' := by
    intro l l' hl i x hx
    rw [← Cells.get_toList, toList_mkRow] at hx
    obtain ⟨x', _, h2⟩ := hl.get hx
    exact ⟨x', h2⟩
  cases ao <;> simp only [clsOf, reduceCtorEq] at hc
  case alloc zs =>
    simp only [aop, aNew] at ha ⊢
    split at ha
    · rename_i hone
      injection ha with ha; simp only [Prod.mk.injEq] at ha; obtain ⟨rfl, rfl⟩ := ha
      refine ⟨.ptr, .row false 0 (mkRow pk zs), rfl, get_new_self _ _ _, rfl, fun n t => by rw [if_pos hone]; rfl, ?_, fun es cl e => by cases e⟩
      intro ro gr c e i x hx
      injection e with e1 e2 e3; subst e3
      exact cells zs zs (VRL.closed depthC zs hok) i x hx
    · cases ha
  case box y =>
    simp only [aop, aNew] at ha ⊢
    split at ha
    · rename_i hone
      injection ha with ha; simp only [Prod.mk.injEq] at ha; obtain ⟨rfl, rfl⟩ := ha
      refine ⟨.ptr, .row false 0 (mkRow pk (ρ y).cells.toList), rfl, get_new_self _ _ _, rfl, fun n t => by rw [if_pos hone]; rfl, ?_, fun es cl e => by cases e⟩
      intro ro gr c e i x hx
      injection e with e1 e2 e3; subst e3
      exact cells _ _ (hρ y hok).cells i x hx
    · cases ha
  case buildSlice k n ps =>
    simp only [aop, aBuildSlice] at ha ⊢
    split at ha
    · rename_i hb
      split at ha
      · rename_i r hr
        split at ha
        · rename_i hone
          injection ha with ha; simp only [Prod.mk.injEq] at ha; obtain ⟨rfl, rfl⟩ := ha
          obtain ⟨r', _, h2⟩ := fill_rel (n := nb) (σ := σ) _ _ _ (azeros k.es k.zs n).toArray r (PR.map hρ ps hok.2) (VRL.closed depthC _ (azeros_closed (d := 63) hok.1)) hr
          refine ⟨.sl n n, .row false 0 (mkRow pk r.toList), rfl, get_new_self _ _ _, rfl, fun m t => by rw [if_pos hb, if_pos hone]; rfl, ?_, fun es cl e => by cases e⟩
          intro ro gr c e i x hx
          injection e with e1 e2 e3; subst e3
          exact cells _ _ h2 i x hx
        · cases ha
      · cases ha
    · cases ha
  case makeMap =>
    simp only [aop, aMakeMap, Option.some.injEq, Prod.mk.injEq] at ha
    obtain ⟨rfl, rfl⟩ := ha
    refine ⟨.map, .map [] 0, rfl, get_new_self _ _ _, rfl, fun n t => rfl, ?_, ?_⟩
    · intro ro gr c e; cases e
    · intro es cl e; cases e; rfl
  case makeSlice k l c =>
    simp only [aop, aMake] at ha ⊢
    split at ha
    · rename_i k1 i1 k2 i2 e1 e2
      split at ha
      · rename_i hb
        injection ha with ha; simp only [Prod.mk.injEq] at ha; obtain ⟨rfl, rfl⟩ := ha
        refine ⟨.sl i1.toNat i2.toNat, .row false 0 (mkZero pk k.es k.zs i2.toNat), rfl, get_new_self _ _ _, rfl, fun m t => by rw [if_pos hb]; rfl, ?_, fun es cl e => by cases e⟩
        intro ro gr c e i x hx
        injection e with f1 f2 f3; subst f3
        rw [← Cells.get_toList, toList_mkZero] at hx
        obtain ⟨x', _, h2⟩ := (VRL.closed (n := nb) (σ := σ) depthC _ (azeros_closed (d := 63) hok)).get hx
        exact ⟨x', h2⟩
      · cases ha
    · cases ha
  case conv k x =>
    cases k <;> simp only [reduceCtorEq] at hc
    rename_i e
    simp only [aop, aConv] at ha ⊢
    split at ha
    · rename_i s hs
      injection ha with ha; simp only [Prod.mk.injEq] at ha; obtain ⟨rfl, rfl⟩ := ha
      refine ⟨.sl s.size s.size, .row false 1 (mkRow true (byteCells s)), rfl, get_new_self _ _ _, rfl, fun n t => rfl, ?_, fun es cl e => by cases e⟩
      intro ro gr c e i x hx
      injection e with f1 f2 f3; subst f3
      rw [← Cells.get_toList, toList_mkRow] at hx
      obtain ⟨x', _, h2⟩ := (VRL.closed (n := nb) (σ := σ) depthC _ (byteCells_closed s)).get hx
      exact ⟨x', h2⟩
    · cases ha
  case len k x => cases k <;> simp only [reduceCtorEq] at hc
end
end Go.AM
