/-
  Regions whose order is drawn: a plan of the orders that may be, and that it covers what Go's machine does. Conditions: none; plain definitions and lemmas, over any program.
-/
import Derived.Test.YtoblmpfcjeammaaVo
set_option linter.unusedVariables false
set_option linter.unusedSimpArgs false
namespace Go.Proofs.Ytoblmpfcjeammaa.V
open Go.RowKit

inductive Plan where
  | done
  | take (i : Nat) (p : Plan)
  | go (i : Nat) (last : Bool) (p : Plan)
  | or (p q : Plan)
def nthOp : List Oper → Nat → Option Oper
  | [], _ => none
  | o :: r, j => if j = 0 then some o else nthOp r (j - 1)
theorem nthOp_eq : ∀ (l : List Oper) (j : Nat), nthOp l j = l[j]?
  | [], j => by simp [nthOp]
  | o :: r, 0 => by simp [nthOp]
  | o :: r, j + 1 => by simp [nthOp, nthOp_eq r j]
def onlyT (ks : List Nat) : Tab → Tab
  | [] => []
  | e :: r => if inKs ks e.key = true then e :: onlyT ks r else onlyT ks r
theorem onlyT_find (ks : List Nat) (k : Nat) : ∀ t : Tab, (onlyT ks t).find k = if inKs ks k = true then t.find k else none
  | [] => by simp [onlyT, Tab.find]
  | e :: r => by
    simp only [onlyT, Tab.find]
    have ih := onlyT_find ks k r
    by_cases h : e.key = k
    · subst h
      simp only [if_true]
      split
      · simp [Tab.find]
      · rename_i hk; rw [ih, if_neg hk]
    · simp only [h, if_false]
      split
      · simp only [Tab.find, h, if_false, ih]
      · exact ih
theorem onlyT_le (ks : List Nat) (t : Tab) : TabLe (onlyT ks t) t := fun k x h => by
  rw [onlyT_find] at h
  split at h
  · exact h
  · cases h
def atake : AR → Tab → Option Nat → Env → Tab → (Env → Tab → Prop) → Prop
  | .ok v t1, tk, d, e, t, k => t1 = tk ∧ k (eputo e d v) t
  | .need p x, tk, d, e, t, k => p ∧ atake x tk d e t k
  | .fork _ _ _ _, _, _, _, _, _ => False
  | .stuck, _, _, _, _, _ => False
def agone (last : Bool) (keep : List Nat) (t : Tab) (k : Env → Tab → Prop) (e1 : Env) (t1 : Tab) : Prop := (last = true ∨ onlyT keep t1 = onlyT keep t) ∧ k e1 t1
def atakeAt (P : Program) (keep : List Nat) (k : Env → Tab → Prop) (e : Env) (t : Tab) : Option Oper → Prop
  | some o => atake (aop P o e (onlyT keep t)) (onlyT keep t) o.dst e t k
  | none => False
def agoAt (P : Program) (l : List Oper) (keep : List Nat) (last : Bool) (k : Env → Tab → Prop) (e : Env) (t : Tab) : Option Oper → Prop
  | some o => aguard P l o e t (agone last keep t k)
  | none => False
def aplan (P : Program) (l : List Oper) (keep : List Nat) (K : Env → Tab → Prop) : Plan → Env → Tab → Prop
  | .done, e, t => K e t
  | .take i p, e, t => atakeAt P keep (aplan P l keep K p) e t (nthOp l i)
  | .go i last p, e, t => agoAt P l keep last (aplan P l keep K p) e t (nthOp l i)
  | .or p q, e, t => aplan P l keep K p e t ∧ aplan P l keep K q e t

/-! ### What is looked at without running -/
def waitsOn (o : Oper) (j : Nat) : Bool := o.after.any fun e => Region.binds .any e && e.on == j
def readyB (o : Oper) (done : List Nat) : Bool := o.after.all fun e => !Region.binds .any e || inKs done e.on
def takeOk (l : List Oper) (done tk : List Nat) (i : Nat) : Bool :=
  match l[i]? with
  | some o => match o.dst with
    | some d => !inKs done i && o.guard.isNone && readerB o.op && readyB o done && !(o.looksAt l.toArray).contains d && tk.all fun k => match l[k]? with
      | some ok => !(ok.looksAt l.toArray).contains d && ok.dst != some d && (match ok.dst with
        | some dk => !(o.looksAt l.toArray).contains dk || waitsOn o k
        | none => true)
      | none => false
    | none => false
  | none => false
def goOk (l : List Oper) (done tk : List Nat) (i : Nat) (last : Bool) : Bool :=
  match l[i]? with
  | some o => !inKs done i && tk.all fun k => match l[k]? with
    | some ok => waitsOn o k || (!last && (match ok.dst with
      | some dk => !(o.looksAt l.toArray).contains dk && o.dst != some dk
      | none => true) && (match o.dst with
      | some d => !(ok.looksAt l.toArray).contains d
      | none => true))
    | none => false
  | none => false
def rdyL (l : List Oper) (done : List Nat) : List Nat := (List.range l.length).filter fun j => !inKs done j && match l[j]? with
  | some o => readyB o done
  | none => false
def heads : Plan → List Nat
  | .done => []
  | .take _ _ => []
  | .go i _ _ => [i]
  | .or p q => heads p ++ heads q
def planOk (l : List Oper) : Plan → List Nat → List Nat → Bool → Bool
  | .done, done, tk, c => (List.range l.length).all fun j => inKs done j
  | .take i p, done, tk, c => takeOk l done tk i && planOk l p (i :: done) (i :: tk) true
  | .go i last p, done, tk, c => (!c || (rdyL l done).all fun j => j == i) && goOk l done tk i last && planOk l p (i :: done) tk true
  | .or p q, done, tk, c => (!c || (rdyL l done).all fun j => inKs (heads (.or p q)) j) && planOk l p done tk false && planOk l q done tk false
def topoB (l : List Oper) : Bool := (List.range l.length).all fun j => match l[j]? with
  | some o => o.after.all fun e => !Region.binds .any e || decide (e.on < j)
  | none => true

def edrop (e : Env) (D : List Nat) : Env :=
  match e with
  | [] => []
  | p :: r => if inKs D p.1 = true then edrop r D else p :: edrop r D
theorem eget_edrop (D : List Nat) (d : Nat) : ∀ e : Env, eget (edrop e D) d = if inKs D d = true then .poison else eget e d
  | [] => by simp [edrop, eget]
  | p :: r => by
    have ih := eget_edrop D d r
    simp only [edrop, eget]
    by_cases h : p.1 = d
    · subst h
      split
      · rename_i hd; rw [ih, if_pos hd]
      · simp [eget]
    · split
      · simp only [ih, h, if_false]
      · simp only [eget, h, if_false, ih]
theorem inKs_iff : ∀ {l : List Nat} {k : Nat}, inKs l k = true ↔ k ∈ l
  | [], k => by simp [inKs]
  | x :: r, k => by
    simp only [inKs, List.mem_cons]
    split
    · rename_i h; subst h; simp
    · rename_i h
      rw [inKs_iff (l := r)]
      constructor
      · exact .inr
      · rintro (h' | h')
        · exact absurd h'.symm h
        · exact h'
section
variable {P : Program} {X : Fx} {e e' : Env} {t : Tab} {w : World} {a : Act}
theorem rel_weak {X : Fx} (h : Rel X e t a w) (he : ∀ d, eget e' d = eget e d ∨ eget e' d = .poison) : Rel X e' t a w := by
  obtain ⟨cur, hs, hD, hE, hH, hX⟩ := h
  refine ⟨cur, hs, hD, fun d => ?_, hH, hX⟩
  rcases he d with h | h
  · rw [h]; exact hE d
  · rw [h]; exact .poison _ _
theorem atake_spec {k : Env → Tab → Prop} {tk : Tab} {d : Option Nat} : ∀ (r : AR), atake r tk d e t k → ∃ v, k (eputo e d v) t ∧ r.sat fun v' t1 => v' = v ∧ t1 = tk
  | .ok v t1, h => ⟨v, h.2, rfl, h.1⟩
  | .need p x, h => by
    obtain ⟨v, h1, h2⟩ := atake_spec x h.2
    exact ⟨v, h1, h.1, h2⟩
  | .fork _ _ _ _, h => h.elim
  | .stuck, h => h.elim
theorem sat_mono {Φ Ψ : AV → Tab → Prop} : ∀ (r : AR), r.sat Φ → (∀ v t, Φ v t → Ψ v t) → r.sat Ψ
  | .ok v t, h, hk => hk v t h
  | .need p x, h, hk => ⟨h.1, sat_mono x h.2 hk⟩
  | .fork p q x y, h, hk => ⟨fun hp => sat_mono x (h.1 hp) hk, fun hq => sat_mono y (h.2 hq) hk⟩
  | .stuck, h, _ => h.elim
theorem waitsOn_iff {o : Oper} {j : Nat} : waitsOn o j = true ↔ ∃ x ∈ o.after, Region.binds .any x = true ∧ x.on = j := by
  unfold waitsOn
  rw [Array.any_eq_true']
  simp
/-- What is pending: taken by the plan, not yet done by the machine. -/
structure Pend (P : Program) (l : List Oper) (keep : List Nat) (e : Env) (t : Tab) (i : Nat) : Prop where
  op : ∃ o d, l[i]? = some o ∧ o.dst = some d ∧ o.guard = none ∧ readerB o.op = true ∧ d ∉ o.looksAt l.toArray ∧ ∀ t', TabLe (onlyT keep t) t' → (aop P o e t').sat fun v t1 => v = eget e d ∧ t1 = t'
def dstsOf (l : List Oper) : List Nat → List Nat
  | [] => []
  | i :: r => match (l[i]?).bind (·.dst) with
    | some d => d :: dstsOf l r
    | none => dstsOf l r
theorem mem_dstsOf {l : List Oper} {d : Nat} : ∀ {p : List Nat}, d ∈ dstsOf l p ↔ ∃ i ∈ p, ∃ o, l[i]? = some o ∧ o.dst = some d
  | [] => by simp [dstsOf]
  | i :: r => by
    have ih := mem_dstsOf (l := l) (d := d) (p := r)
    simp only [dstsOf]
    cases ho : l[i]? with
    | none =>
      simp only [Option.bind_none, ih]
      constructor
      · rintro ⟨j, h1, h2⟩; exact ⟨j, by simp [h1], h2⟩
      · rintro ⟨j, h1, o, h2, h3⟩
        rcases List.mem_cons.1 h1 with rfl | h1
        · rw [ho] at h2; cases h2
        · exact ⟨j, h1, o, h2, h3⟩
    | some o =>
      simp only [Option.bind_some]
      cases hd : o.dst with
      | none =>
        simp only [ih]
        constructor
        · rintro ⟨j, h1, h2⟩; exact ⟨j, by simp [h1], h2⟩
        · rintro ⟨j, h1, o', h2, h3⟩
          rcases List.mem_cons.1 h1 with rfl | h1
          · rw [ho] at h2; injection h2 with h2; subst h2; rw [hd] at h3; cases h3
          · exact ⟨j, h1, o', h2, h3⟩
      | some d' =>
        simp only [List.mem_cons, ih]
        constructor
        · rintro (rfl | ⟨j, h1, h2⟩)
          · exact ⟨i, .inl rfl, o, ho, hd⟩
          · exact ⟨j, .inr h1, h2⟩
        · rintro ⟨j, h1, o', h2, h3⟩
          rcases h1 with rfl | h1
          · rw [ho] at h2; injection h2 with h2; subst h2; rw [hd] at h3; injection h3 with h3; exact .inl h3.symm
          · exact .inr ⟨j, h1, o', h2, h3⟩
/-- What a node of the plan says of an operation that may come next. -/
theorem plan_go {l : List Oper} {keep : List Nat} {K : Env → Tab → Prop} {done tk : List Nat} {j : Nat} : ∀ (p : Plan) (c : Bool), planOk l p done tk c = true → aplan P l keep K p e t → j ∈ heads p →
    ∃ o last p', l[j]? = some o ∧ goOk l done tk j last = true ∧ planOk l p' (j :: done) tk true = true ∧ aguard P l o e t (agone last keep t (aplan P l keep K p'))
  | .done, c, _, _, hj => by simp [heads] at hj
  | .take i p, c, _, _, hj => by simp [heads] at hj
  | .go i last p, c, hok, h, hj => by
    simp only [heads, List.mem_singleton] at hj
    subst hj
    simp only [planOk, Bool.and_eq_true] at hok
    simp only [aplan, nthOp_eq] at h
    cases ho : l[j]? with
    | none => rw [ho] at h; exact h.elim
    | some o =>
      rw [ho] at h
      exact ⟨o, last, p, rfl, hok.1.2, hok.2, h⟩
  | .or p q, c, hok, h, hj => by
    simp only [planOk, Bool.and_eq_true] at hok
    simp only [heads, List.mem_append] at hj
    rcases hj with hj | hj
    · exact plan_go p false hok.1.2 h.1 hj
    · exact plan_go q false hok.2 h.2 hj
theorem plan_done {l : List Oper} {keep : List Nat} {K : Env → Tab → Prop} {done tk : List Nat} (hall : ∀ j, j < l.length → j ∈ done) : ∀ (p : Plan) (c : Bool), planOk l p done tk c = true → aplan P l keep K p e t → K e t
  | .done, c, _, h => h
  | .take i p, c, hok, h => by
    simp only [planOk, takeOk, Bool.and_eq_true] at hok
    have h1 := hok.1
    split at h1
    · rename_i o ho
      split at h1
      · simp only [Bool.and_eq_true] at h1
        have := h1.1.1.1.1.1
        have hi := inKs_iff.2 (hall i (List.getElem?_eq_some_iff.1 ho).1)
        rw [hi] at this
        cases this
      · cases h1
    · cases h1
  | .go i last p, c, hok, h => by
    simp only [planOk, goOk, Bool.and_eq_true] at hok
    have h1 := hok.1.2
    split at h1
    · rename_i o ho
      simp only [Bool.and_eq_true] at h1
      have hi := inKs_iff.2 (hall i (List.getElem?_eq_some_iff.1 ho).1)
      have := h1.1
      rw [hi] at this
      cases this
    · cases h1
  | .or p q, c, hok, h => by
    simp only [planOk, Bool.and_eq_true] at hok
    exact plan_done hall p false hok.1.2 h.1
theorem plan_heads {l : List Oper} {done tk : List Nat} {j : Nat} {o : Oper} (ho : l[j]? = some o) (hj : j ∉ done) (hr : readyB o done = true) : ∀ (p : Plan), planOk l p done tk true = true → (∀ i q, p ≠ .take i q) → j ∈ heads p := by
  have hm : j ∈ rdyL l done := by
    unfold rdyL
    rw [List.mem_filter, List.mem_range]
    refine ⟨(List.getElem?_eq_some_iff.1 ho).1, ?_⟩
    simp only [ho, hr, Bool.and_true, Bool.not_eq_true']
    cases hb : inKs done j with
    | false => rfl
    | true => exact absurd (inKs_iff.1 hb) hj
  intro p hok hnt
  cases p with
  | done =>
    simp only [planOk] at hok
    have := List.all_eq_true.1 hok j (List.mem_range.2 (List.getElem?_eq_some_iff.1 ho).1)
    exact absurd (inKs_iff.1 this) hj
  | take i q => exact absurd rfl (hnt i q)
  | go i last q =>
    simp only [planOk, Bool.not_true, Bool.false_or, Bool.and_eq_true] at hok
    have := List.all_eq_true.1 hok.1.1 j hm
    simpa [heads] using this
  | or q1 q2 =>
    simp only [planOk, Bool.not_true, Bool.false_or, Bool.and_eq_true] at hok
    have := List.all_eq_true.1 hok.1.1 j hm
    exact inKs_iff.1 this
end
end Go.Proofs.Ytoblmpfcjeammaa.V
