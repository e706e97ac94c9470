/-
  A function's contract over the abstract memory, and how a caller with more objects uses it. Conditions: none; plain definitions and lemmas, over any program.
-/
import Derived.Test.YtoblmpfcjeammaaVi
set_option linter.unusedVariables false
set_option linter.unusedSimpArgs false
namespace Go.Proofs.Ytoblmpfcjeammaa.V
open Go.RowKit

/-! ### Other names for objects -/
mutual
def AV.ren (ρ : Nat → Nat → Option (Nat × Nat)) : AV → AV
  | .val v => .val v
  | .imm sz xs => .imm sz xs
  | .sl k v o n => match ρ k v with
    | some p => .sl p.1 p.2 o n
    | none => .poison
  | .ref k v o => match ρ k v with
    | some p => .ref p.1 p.2 o
    | none => .poison
  | .eref k v i j => match ρ k v with
    | some p => .eref p.1 p.2 i j
    | none => .poison
  | .mp k v => match ρ k v with
    | some p => .mp p.1 p.2
    | none => .poison
  | .iptr cs o => .iptr cs o
  | .agg cs => .agg (AV.renL ρ cs)
  | .tup cs => .tup (AV.renL ρ cs)
  | .func f cs => .func f (AV.renL ρ cs)
  | .iface t x => .iface t (AV.ren ρ x)
  | .poison => .poison
def AV.renL (ρ : Nat → Nat → Option (Nat × Nat)) : List AV → List AV
  | [] => []
  | x :: r => AV.ren ρ x :: AV.renL ρ r
end
theorem renL_eq (ρ : Nat → Nat → Option (Nat × Nat)) : ∀ l : List AV, AV.renL ρ l = l.map (AV.ren ρ)
  | [] => rfl
  | x :: r => by simp [AV.renL, renL_eq ρ r]
def AObj.ren (ρ : Nat → Nat → Option (Nat × Nat)) : AObj → AObj
  | .cells t cs => .cells t (AV.renL ρ cs)
  | .arr t sz els => .arr t sz (els.map (AV.renL ρ))
  | .map es => .map (es.map fun p => (p.1, AV.ren ρ p.2))
  | .dead => .dead
def Renames (ρ : Nat → Nat → Option (Nat × Nat)) (cur cur' : Cur) : Prop :=
  ∀ k v p, ρ k v = some p → ∀ ver l, cur k = some (ver, l) → v ≤ ver → ∃ ver' l', cur' p.1 = some (ver', l') ∧ p.2 ≤ ver' ∧ (p.2 = ver' → v = ver ∧ l' = l)
theorem RelV.ren {w : World} {ok ok' : Nat → Prop} {ρ : Nat → Nat → Option (Nat × Nat)} (hok : ∀ b, ok b → ok' b) {cur : Cur} {av : AV} {v : Value} (h : RelV w ok cur av v) : ∀ cur', Renames ρ cur cur' → RelV w ok' cur' (av.ren ρ) v := by
  have hm : ∀ b, ok b → ok' b ∧ w.heap[b]? = w.heap[b]? := fun b hb => ⟨hok b hb, rfl⟩
  induction h with
  | val cur v => exact fun cur' _ => .val cur' v
  | imm cur sz xs A c u hc hm' hA hl hs hu hr ih =>
    intro cur' _
    exact (RelV.imm cur sz xs A c u hc hm' hA hl hs hu hr).mono hm cur |> fun f => by
      cases f (CurLe.refl cur) with
      | imm _ _ _ _ _ u' a1 a2 a3 a4 a5 a6 a7 => exact .imm cur' sz xs A c u' a1 a2 a3 a4 a5 a6 a7
  | sl cur key ver off len v ver' l h hv hr =>
    intro cur' hρ
    simp only [AV.ren]
    cases hp : ρ key ver with
    | none => exact .poison _ _
    | some p =>
      obtain ⟨v2, l2, h1, h2, h3⟩ := hρ key ver p hp ver' l h hv
      refine .sl cur' _ _ off len v v2 l2 h1 h2 (fun e => ?_)
      obtain ⟨e1, rfl⟩ := h3 e
      exact hr e1
  | ref cur key ver off v ver' l h hv hr =>
    intro cur' hρ
    simp only [AV.ren]
    cases hp : ρ key ver with
    | none => exact .poison _ _
    | some p =>
      obtain ⟨v2, l2, h1, h2, h3⟩ := hρ key ver p hp ver' l h hv
      refine .ref cur' _ _ off v v2 l2 h1 h2 (fun e => ?_)
      obtain ⟨e1, rfl⟩ := h3 e
      exact hr e1
  | eref cur key ver i j v ver' l h hv hr =>
    intro cur' hρ
    simp only [AV.ren]
    cases hp : ρ key ver with
    | none => exact .poison _ _
    | some p =>
      obtain ⟨v2, l2, h1, h2, h3⟩ := hρ key ver p hp ver' l h hv
      refine .eref cur' _ _ i j v v2 l2 h1 h2 (fun e => ?_)
      obtain ⟨e1, rfl⟩ := h3 e
      exact hr e1
  | mp cur key ver v ver' l h hv hr =>
    intro cur' hρ
    simp only [AV.ren]
    cases hp : ρ key ver with
    | none => exact .poison _ _
    | some p =>
      obtain ⟨v2, l2, h1, h2, h3⟩ := hρ key ver p hp ver' l h hv
      refine .mp cur' _ _ v v2 l2 h1 h2 (fun e => ?_)
      obtain ⟨e1, rfl⟩ := h3 e
      exact hr e1
  | iptr cur cs off a u hb hu hr ih =>
    intro cur' _
    exact .iptr cur' cs off a u (hok _ hb) hu (fun j y hy => (hr j y hy).mono hm _ (CurLe.refl _))
  | agg cur cs us hn hr ih =>
    intro cur' hρ
    simp only [AV.ren, renL_eq]
    refine .agg cur' _ us (by simpa using hn) (fun j y u h1 h2 => ?_)
    rw [List.getElem?_map] at h1
    cases hj : cs[j]? with
    | none => rw [hj] at h1; cases h1
    | some x => rw [hj] at h1; injection h1 with h1; subst h1; exact ih j x u hj h2 cur' hρ
  | tup cur cs us hn hr ih =>
    intro cur' hρ
    simp only [AV.ren, renL_eq]
    refine .tup cur' _ us (by simpa using hn) (fun j y u h1 h2 => ?_)
    rw [List.getElem?_map] at h1
    cases hj : cs[j]? with
    | none => rw [hj] at h1; cases h1
    | some x => rw [hj] at h1; injection h1 with h1; subst h1; exact ih j x u hj h2 cur' hρ
  | func cur fn cs us hn hr ih =>
    intro cur' hρ
    simp only [AV.ren, renL_eq]
    refine .func cur' _ _ us (by simpa using hn) (fun j y u h1 h2 => ?_)
    rw [List.getElem?_map] at h1
    cases hj : cs[j]? with
    | none => rw [hj] at h1; cases h1
    | some x => rw [hj] at h1; injection h1 with h1; subst h1; exact ih j x u hj h2 cur' hρ
  | iface cur t x v hr ih =>
    intro cur' hρ
    simp only [AV.ren]
    exact .iface cur' t _ v (ih cur' hρ)
  | poison cur v => exact fun cur' _ => .poison cur' v

theorem RelO.ren {R R' : AV → Value → Prop} {w w' : World} {ρ : Nat → Nat → Option (Nat × Nat)} {o : AObj} {l : Loc} (hR : ∀ y u, R y u → R' (y.ren ρ) u) (hb : ∀ b, l.block = some b → w'.heap[b]? = w.heap[b]?) (h : RelO R w o l) : RelO R' w' (o.ren ρ) l := by
  cases o with
  | cells t cs =>
    obtain ⟨g, c, fr, rfl, h1, h2, h3, h4⟩ := h
    have hlen : (AV.renL ρ cs).length = cs.length := by rw [renL_eq]; simp
    refine ⟨g, c, fr, by rw [hlen], (hb g rfl).trans h1, h2, h3.trans hlen.symm, fun j y hy => ?_⟩
    rw [renL_eq, List.getElem?_map] at hy
    cases hj : cs[j]? with
    | none => rw [hj] at hy; cases hy
    | some x =>
      rw [hj] at hy; injection hy with hy; subst hy
      obtain ⟨u, hu, hr⟩ := h4 j x hj
      exact ⟨u, hu, hR _ _ hr⟩
  | arr t sz els =>
    have hl : ∀ x, x ∈ els.map (AV.renL ρ) → ∃ x0, x0 ∈ els ∧ x = AV.renL ρ x0 := fun x hx => by
      obtain ⟨x0, h1, h2⟩ := List.mem_map.1 hx
      exact ⟨x0, h1, h2.symm⟩
    obtain ⟨hs, hsz, h⟩ := h
    refine ⟨hs, fun x hx => ?_, ?_⟩
    · obtain ⟨x0, h0, rfl⟩ := hl x hx
      rw [renL_eq, List.length_map]
      exact hsz x0 h0
    · rcases h with ⟨rfl, rfl⟩ | ⟨g, o, cap, c, fr, rfl, h1, h2, h3, h4, h5, h6⟩
      · exact .inl ⟨rfl, rfl⟩
      · refine .inr ⟨g, o, cap, c, fr, by rw [List.length_map], (hb g rfl).trans h1, h2, h3, by rw [List.length_map]; exact h4, h5, fun i x j y hi hy => ?_⟩
        rw [List.getElem?_map] at hi
        cases hx : els[i]? with
        | none => rw [hx] at hi; cases hi
        | some x0 =>
          rw [hx] at hi; injection hi with hi; subst hi
          rw [renL_eq, List.getElem?_map] at hy
          cases hj : x0[j]? with
          | none => rw [hj] at hy; cases hy
          | some y0 =>
            rw [hj] at hy; injection hy with hy; subst hy
            obtain ⟨u, hu, hr⟩ := h6 i x0 j y0 hx hj
            exact ⟨u, hu, hR _ _ hr⟩
  | map es =>
    obtain ⟨g, en, clock, rfl, h1, h2, h3⟩ := h
    refine ⟨g, en, clock, rfl, (hb g rfl).trans h1, by rw [List.length_map]; exact h2, fun j p hp => ?_⟩
    rw [List.getElem?_map] at hp
    cases hj : es[j]? with
    | none => rw [hj] at hp; cases hp
    | some x =>
      rw [hj] at hp; injection hp with hp; subst hp
      obtain ⟨m, hm, hk, hr⟩ := h3 j x hj
      exact ⟨m, hm, hk, hR _ _ hr⟩
  | dead => exact h

/-! ### A function's contract -/
def Fn (P : Program) (f : FuncId) (as : List AV) (t : Tab) (Q : AV → Tab → Prop) : Prop :=
  ∀ C cur vs, (∀ k b, C.own k b → t.find k ≠ none) → RelH C C.w0 cur t → RelL C.w0 (okB C C.w0 cur) cur as vs → Invokes P f vs.toArray C.w0 (After C C.w0 cur Q)
theorem Fn.mono {P : Program} {f : FuncId} {as : List AV} {t : Tab} {Q Q' : AV → Tab → Prop} (h : Fn P f as t Q) (hq : ∀ r t, Q r t → Q' r t) : Fn P f as t Q' :=
  fun C cur vs h1 h2 h3 => (h C cur vs h1 h2 h3).mono fun x w' ⟨v, av, t', cur', a, b, c⟩ => ⟨v, av, t', cur', a, hq _ _ b, c⟩

/-- The objects handed over: the caller's key, the callee's. -/
abbrev Pass := List (Nat × Nat)
def Pass.down (l : Pass) (k : Nat) : Option Nat := match l with
  | [] => none
  | p :: r => if p.1 = k then some p.2 else Pass.down r k
def Pass.up (l : Pass) (k0 : Nat) : Option Nat := match l with
  | [] => none
  | p :: r => if p.2 = k0 then some p.1 else Pass.up r k0
def downs (l : Pass) (k v : Nat) : Option (Nat × Nat) := match l.down k with
  | some k0 => some (k0, v)
  | none => none
def passTab (l0 : Pass) (t : Tab) : Pass → Tab
  | [] => []
  | p :: r => match t.find p.1 with
    | some (v, o) => Tab.put (passTab l0 t r) p.2 v (o.ren (downs l0))
    | none => passTab l0 t r
def passOk (t : Tab) : Pass → Prop
  | [] => True
  | p :: r => (t.find p.1).isSome = true ∧ Pass.down r p.1 = none ∧ Pass.up r p.2 = none ∧ passOk t r
theorem up_down {t : Tab} : ∀ (l : Pass), passOk t l → ∀ k k0, l.up k0 = some k ↔ l.down k = some k0
  | [], _, k, k0 => by simp [Pass.up, Pass.down]
  | p :: r, h, k, k0 => by
    obtain ⟨h1, h2, h3, h4⟩ := h
    have ih := up_down r h4
    simp only [Pass.up, Pass.down]
    constructor
    · intro hk
      split at hk
      · rename_i e
        injection hk with hk
        rw [if_pos hk, e]
      · rename_i e
        have := (ih k k0).1 hk
        rw [if_neg (fun e' => by rw [e', this] at h2; cases h2)]
        exact this
    · intro hk
      split at hk
      · rename_i e
        injection hk with hk
        rw [if_pos hk, e]
      · rename_i e
        have := (ih k k0).2 hk
        rw [if_neg (fun e' => by rw [e', this] at h3; cases h3)]
        exact this
theorem up_some {t : Tab} : ∀ (l : Pass), passOk t l → ∀ k k0, l.up k0 = some k → (t.find k).isSome = true
  | [], _, k, k0, h => by cases h
  | p :: r, h, k, k0, hk => by
    simp only [Pass.up] at hk
    split at hk
    · injection hk with hk; rw [← hk]; exact h.1
    · exact up_some r h.2.2.2 k k0 hk
theorem passTab_find {t : Tab} (l0 : Pass) : ∀ (l : Pass), passOk t l → ∀ k0, (passTab l0 t l).find k0 = (match l.up k0 with | some k => (t.find k).map fun p => (p.1, p.2.ren (downs l0)) | none => none)
  | [], _, k0 => rfl
  | p :: r, h, k0 => by
    obtain ⟨h1, h2, h3, h4⟩ := h
    obtain ⟨q, hq⟩ := Option.isSome_iff_exists.1 h1
    simp only [passTab, hq, Pass.up]
    rw [Tab.find_put]
    split
    · simp [hq]
    · exact passTab_find l0 r h4 k0

/-- Where the callee's objects go in the caller's table: those handed over to their keys, new ones to keys from 'base' on. -/
def goesTo (l : Pass) (base : Nat) (k0 : Nat) : Nat := match l.up k0 with
  | some k => k
  | none => base + k0
def goesVer (l : Pass) (base : Nat) (t : Tab) (k0 v : Nat) : Nat := match l.up k0 with
  | some _ => v
  | none => nextVer t (base + k0)
def ups (l : Pass) (base : Nat) (t t1 : Tab) (k0 v : Nat) : Option (Nat × Nat) := match t1.find k0 with
  | some (v1, o) => if v = v1 then some (goesTo l base k0, goesVer l base t k0 v1) else none
  | none => none
def joinTab (l : Pass) (base : Nat) (t t1 : Tab) : Tab → Tab
  | [] => t
  | e :: r => Tab.put (joinTab l base t t1 r) (goesTo l base e.key) (goesVer l base t e.key e.ver) (e.obj.ren (ups l base t t1))
def joinOk (l : Pass) (base : Nat) : Tab → Prop
  | [] => True
  | e :: r => (∀ e' ∈ r, goesTo l base e.key ≠ goesTo l base e'.key) ∧ joinOk l base r
def findT (l : Pass) (base : Nat) (k : Nat) : Tab → Option Ent
  | [] => none
  | e :: r => if goesTo l base e.key = k then some e else findT l base k r
theorem findT_some {l : Pass} {base k : Nat} : ∀ {t1 : Tab} {e : Ent}, findT l base k t1 = some e → e ∈ t1 ∧ goesTo l base e.key = k
  | [], e, h => by cases h
  | x :: r, e, h => by
    simp only [findT] at h
    split at h
    · rename_i hk; injection h with h; subst h; exact ⟨by simp, hk⟩
    · obtain ⟨h1, h2⟩ := findT_some h; exact ⟨by simp [h1], h2⟩
theorem find_mem {l : Pass} {base : Nat} : ∀ {t1 : Tab}, joinOk l base t1 → ∀ {e : Ent}, e ∈ t1 → t1.find e.key = some (e.ver, e.obj) ∧ findT l base (goesTo l base e.key) t1 = some e
  | [], _, e, h => by cases h
  | x :: r, h, e, he => by
    simp only [Tab.find, findT]
    rcases List.mem_cons.1 he with rfl | he
    · simp
    · have hne := h.1 e he
      have hk : x.key ≠ e.key := fun e' => hne (by rw [e'])
      obtain ⟨h1, h2⟩ := find_mem h.2 he
      rw [if_neg hk, if_neg hne]
      exact ⟨h1, h2⟩
theorem mem_of_find : ∀ {t1 : Tab} {k v : Nat} {o : AObj}, t1.find k = some (v, o) → ∃ e, e ∈ t1 ∧ e.key = k ∧ e.ver = v ∧ e.obj = o
  | [], k, v, o, h => by cases h
  | x :: r, k, v, o, h => by
    simp only [Tab.find] at h
    split at h
    · rename_i hk; injection h with h; injection h with h1 h2; exact ⟨x, by simp, hk, h1, h2⟩
    · obtain ⟨e, h1, h2⟩ := mem_of_find h; exact ⟨e, by simp [h1], h2⟩
theorem joinTab_find {l : Pass} {base : Nat} {t t1 : Tab} (k : Nat) : ∀ (r : Tab), (joinTab l base t t1 r).find k = (match findT l base k r with | some e => some (goesVer l base t e.key e.ver, e.obj.ren (ups l base t t1)) | none => t.find k)
  | [] => rfl
  | e :: r => by
    simp only [joinTab, findT]
    rw [Tab.find_put]
    split
    · rfl
    · exact joinTab_find k r
end Go.Proofs.Ytoblmpfcjeammaa.V
