/-
  Loads, stores, addresses, elements: what they do to the abstract memory, and that Go's do the same. Conditions: none; plain definitions and lemmas, over any program.
-/
import Derived.Test.YtoblmpfcjeammaaVb
import Derived.Laws.IdiomCopy
set_option linter.unusedVariables false
set_option linter.unusedSimpArgs false
namespace Go.Proofs.Ytoblmpfcjeammaa.V
open Go.RowKit

/-! ### Types -/
def isAggT (P : Program) (t : TypeId) : Bool :=
  match P.underlying t with
  | some (.struct _) => true
  | some (.array _ _) => true
  | _ => false
def sizeT (P : Program) (t : TypeId) : Nat := P.cellsOf t
def known (P : Program) (t : TypeId) : Bool := (P.info? t).isSome && (P.underlying t).isSome
theorem run_isAgg {P : Program} {t : TypeId} (h : known P t = true) (w : World) : (isAgg t).run P w = .ok (isAggT P t) w := by
  simp only [known, Bool.and_eq_true] at h
  obtain ⟨d, hd⟩ := Option.isSome_iff_exists.1 h.2
  unfold isAgg isAggT
  simp only [Sem.run_bind, run_underlying hd, Result.andThen_ok, hd]
  cases d <;> rfl
theorem run_sizeOf {P : Program} {t : TypeId} (h : known P t = true) (w : World) : (sizeOf t).run P w = .ok (sizeT P t) w := by
  simp only [known, Bool.and_eq_true] at h
  obtain ⟨i, hi⟩ := Option.isSome_iff_exists.1 h.1
  simp [sizeOf, typeInfo, hi, sizeT, Program.cellsOf]

/-! ### Cells -/
def AV.cells : AV → List AV
  | .agg cs => cs
  | v => [v]
/-- May stand in one cell. -/
def cellOk (t : Tab) : AV → Prop
  | .val v => v.oneCell' = true
  | .imm _ _ => True
  | .sl k v _ _ => isCurrent t k v
  | .ref k v _ => isCurrent t k v
  | .eref k v _ _ => isCurrent t k v
  | .mp k v => isCurrent t k v
  | .iptr _ _ => True
  | .func _ _ => True
  | .iface _ _ => True
  | _ => False
def allOk (t : Tab) : List AV → Prop
  | [] => True
  | x :: r => cellOk t x ∧ allOk t r
theorem allOk_iff {t : Tab} : ∀ {l : List AV}, allOk t l ↔ ∀ x ∈ l, cellOk t x
  | [] => by simp [allOk]
  | x :: r => by simp [allOk, allOk_iff (l := r)]
def setCells (cs : List AV) (o : Nat) (vs : List AV) : List AV := cs.take o ++ vs ++ cs.drop (o + vs.length)
def loadAV (P : Program) (ty : TypeId) (cs : List AV) (o : Nat) (t : Tab) : AR :=
  .need (known P ty = true) (if isAggT P ty = true then .need (o + sizeT P ty ≤ cs.length) (.ok (.agg ((cs.drop o).take (sizeT P ty))) t) else .need (o < cs.length) (.ok (cs.getD o .poison) t))

/-- The cells from an address on stand for these. -/
def At (w : World) (R : AV → Value → Prop) (a : Addr) (cs : List AV) : Prop := ∀ j y, cs[j]? = some y → ∃ u, w.cell? (a.add j) = some u ∧ R y u

theorem exists_list {α β : Type} {R : α → β → Prop} : ∀ (cs : List α), (∀ (j : Nat) (y : α), cs[j]? = some y → ∃ u, R y u) → ∃ us : List β, us.length = cs.length ∧ ∀ (j : Nat) (y : α) (u : β), cs[j]? = some y → us[j]? = some u → R y u
  | [], _ => ⟨[], rfl, fun j y u h => by simp at h⟩
  | c :: cs, h => by
    obtain ⟨us, hl, hu⟩ := exists_list cs (fun j y hy => h (j + 1) y (by simpa using hy))
    obtain ⟨u, hc⟩ := h 0 c rfl
    refine ⟨u :: us, by simp [hl], fun j y v h1 h2 => ?_⟩
    cases j with
    | zero => simp at h1 h2; subst h1; subst h2; exact hc
    | succ j => exact hu j y v (by simpa using h1) (by simpa using h2)

theorem exists_at {w : World} {R : AV → Value → Prop} {a : Addr} : ∀ (cs : List AV) (o : Nat), (∀ j y, cs[j]? = some y → ∃ u, w.cell? (a.add (o + j)) = some u ∧ R y u) → ∃ us : List Value, us.length = cs.length ∧ (∀ j u, us[j]? = some u → w.cell? (a.add (o + j)) = some u) ∧ ∀ (j : Nat) (y : AV) (u : Value), cs[j]? = some y → us[j]? = some u → R y u
  | [], o, _ => ⟨[], rfl, fun j u h => by simp at h, fun j y u h => by simp at h⟩
  | c :: cs, o, h => by
    obtain ⟨us, hl, hc, hu⟩ := exists_at cs (o + 1) (fun j y hy => by have := h (j + 1) y (by simpa using hy); rwa [show o + (j + 1) = o + 1 + j by omega] at this)
    obtain ⟨u, h1, h2⟩ := h 0 c rfl
    refine ⟨u :: us, by simp [hl], fun j v hj => ?_, fun j y v h3 h4 => ?_⟩
    · cases j with
      | zero => simp at hj; subst hj; exact h1
      | succ j => have := hc j v (by simpa using hj); rwa [show o + 1 + j = o + (j + 1) by omega] at this
    · cases j with
      | zero => simp at h3 h4; subst h3; subst h4; exact h2
      | succ j => exact hu j y v (by simpa using h3) (by simpa using h4)

section
variable {P : Program} {C : Ctx} {w : World} {cur : Cur} {t : Tab}

theorem run_loadVar {ty : TypeId} {cs : List AV} {o : Nat} {a : Addr} (hk : known P ty = true) (hA : At w (RelV w (okB C w cur) cur) a cs)
    (hb : if isAggT P ty = true then o + sizeT P ty ≤ cs.length else o < cs.length) :
    ∃ v, (loadVar ty (a.add o)).run P w = .ok v w ∧ RelV w (okB C w cur) cur (if isAggT P ty = true then .agg ((cs.drop o).take (sizeT P ty)) else cs.getD o .poison) v := by
  unfold loadVar
  simp only [Sem.run_bind, run_isAgg hk, Result.andThen_ok]
  by_cases hg : isAggT P ty = true
  · rw [if_pos hg] at hb
    simp only [hg, if_true, Sem.run_bind, run_sizeOf hk, Result.andThen_ok]
    obtain ⟨us, hl, hc, hr⟩ := exists_at (w := w) (R := RelV w (okB C w cur) cur) (a := a) ((cs.drop o).take (sizeT P ty)) o (fun j y hy => by
      have hy' : cs[o + j]? = some y := by
        rw [List.getElem?_take] at hy
        split at hy
        · rwa [List.getElem?_drop] at hy
        · cases hy
      exact hA _ _ hy')
    have hlen : us.length = sizeT P ty := by rw [hl, List.length_take, List.length_drop]; omega
    have hrun := run_loadCells_list (P := P) w (a.add o) us (fun j u hj => by rw [add_of_add]; exact hc j u hj)
    rw [hlen] at hrun
    refine ⟨.agg us.toArray, by simp [hrun], .agg _ _ us hl hr⟩
  · rw [if_neg hg] at hb
    simp only [hg, if_false, Bool.false_eq_true]
    obtain ⟨u, h1, h2⟩ := hA o cs[o] (List.getElem?_eq_getElem hb)
    refine ⟨u, by simp [h1], ?_⟩
    rw [show cs.getD o AV.poison = cs[o] from by simp [List.getD, List.getElem?_eq_getElem hb]]
    exact h2

theorem good_loadAV {ty : TypeId} {cs : List AV} {o : Nat} {a : Addr} {m : Sem Next} (hH : RelH C w cur t) (hA : At w (RelV w (okB C w cur) cur) a cs) (hm : m = (do pure (.value (← loadVar ty (a.add o))))) :
    Good P C w cur m (loadAV P ty cs o t) := by
  subst hm
  refine Good.need fun hk => ?_
  split
  · rename_i hg
    refine Good.need fun hb => ?_
    obtain ⟨v, h1, h2⟩ := run_loadVar (C := C) (cur := cur) (o := o) hk hA (by rw [if_pos hg]; exact hb)
    rw [if_pos hg] at h2
    exact Good.same hH (by simp [h1]) h2
  · rename_i hg
    refine Good.need fun hb => ?_
    obtain ⟨v, h1, h2⟩ := run_loadVar (C := C) (cur := cur) (o := o) hk hA (by rw [if_neg hg]; exact hb)
    rw [if_neg hg] at h2
    exact Good.same hH (by simp [h1]) h2

/-- An object's cells, read. -/
theorem at_box {key ver : Nat} {ty : TypeId} {cs : List AV} (hH : RelH C w cur t) (hf : t.find key = some (ver, .cells ty cs)) : ∃ g c fr, cur key = some (ver, .box g cs.length) ∧ w.heap[g]? = some (.cells c ty fr) ∧ noFreeze fr c.size ∧ c.size = cs.length ∧
    (∀ (j : Nat) (y : AV), cs[j]? = some y → ∃ u, c[j]? = some u ∧ RelV w (okB C w cur) cur y u) ∧ At w (RelV w (okB C w cur) cur) ⟨g, 0, none⟩ cs := by
  obtain ⟨l, hl, g, c, fr, rfl, h1, h2, h3, h4⟩ := (hH.dom key).2 _ _ hf
  refine ⟨g, c, fr, hl, h1, h2, h3, h4, fun j y hy => ?_⟩
  obtain ⟨u, hu, hr⟩ := h4 j y hy
  refine ⟨u, ?_, hr⟩
  have ha : (⟨g, 0, none⟩ : Addr).add j = ⟨g, j, none⟩ := by unfold Addr.add; split <;> simp_all
  rw [ha]
  simp [World.cell?, h1, hu]

theorem addr_add (g o j : Nat) : (⟨g, o, none⟩ : Addr).add j = ⟨g, o + j, none⟩ := by unfold Addr.add; split <;> simp_all
theorem RelV.up {av : AV} {v : Value} {ok : Nat → Prop} (h : RelV w ok noCur av v) (cur : Cur) : RelV w ok cur av v :=
  h.mono (fun b hb => ⟨hb, rfl⟩) cur (fun key ver l hk => by cases hk)

/-- An array's cells, read. -/
theorem at_arr {key ver : Nat} {ty : TypeId} {sz : Nat} {els : List (List AV)} (hH : RelH C w cur t) (hf : t.find key = some (ver, .arr ty sz els)) :
    0 < sz ∧ (∀ x, x ∈ els → x.length = sz) ∧ ((cur key = some (ver, .nil) ∧ els = []) ∨ ∃ g o cap c fr, cur key = some (ver, .arr g o cap els.length sz) ∧ w.heap[g]? = some (.cells c ty fr) ∧ noFreeze fr c.size ∧ c.size = o + cap * sz ∧ els.length ≤ cap ∧ cap ≤ 9223372036854775807 ∧
      (∀ (i : Nat) (x : List AV) (j : Nat) (y : AV), els[i]? = some x → x[j]? = some y → ∃ u, c[o + i * sz + j]? = some u ∧ RelV w (okB C w cur) cur y u) ∧
      ∀ (i : Nat) (x : List AV), els[i]? = some x → At w (RelV w (okB C w cur) cur) ⟨g, o + i * sz, none⟩ x) := by
  obtain ⟨l, hl, hs, hx, ⟨rfl, h1⟩ | ⟨g, o, cap, c, fr, rfl, h1, h2, h3, h4, h5, h6⟩⟩ := (hH.dom key).2 _ _ hf
  · exact ⟨hs, hx, .inl ⟨hl, h1⟩⟩
  · refine ⟨hs, hx, .inr ⟨g, o, cap, c, fr, hl, h1, h2, h3, h4, h5, h6, fun i x hi j y hy => ?_⟩⟩
    obtain ⟨u, hu, hr⟩ := h6 i x j y hi hy
    refine ⟨u, ?_, hr⟩
    rw [addr_add]
    simp [World.cell?, h1, hu]

def aload (P : Program) (ty : TypeId) (x : AV) (t : Tab) : AR :=
  match x with
  | .ref key ver off => match t.find key with
    | some (v, .cells _ cs) => .need (ver = v) (loadAV P ty cs off t)
    | _ => .stuck
  | .eref key ver i j => match t.find key with
    | some (v, .arr _ _ els) => .need (ver = v ∧ i < els.length) (loadAV P ty (els.getD i []) j t)
    | _ => .stuck
  | .iptr cs off => loadAV P ty cs off t
  | _ => .stuck

theorem good_aload (ty : TypeId) (X : AV) (u : Value) (hH : RelH C w cur t) (hX : RelV w (okB C w cur) cur X u) : Good P C w cur (do pure (.value (← Instr.loadAt ty u))) (aload P ty X t) := by
  unfold aload
  split
  · rename_i key ver off
    split
    · rename_i v ty' cs hf
      refine Good.need fun e => ?_
      subst e
      obtain ⟨g, c, fr, hl, _, _, _, _, hA⟩ := at_box hH hf
      cases hX with
      | ref _ _ _ _ _ ver' l h1 hv h2 =>
        rw [hl] at h1; injection h1 with h1; injection h1 with h3 h4; subst h3; subst h4
        have h5 := h2 rfl
        simp only [Loc.ref] at h5
        subst h5
        refine good_loadAV (a := ⟨g, 0, none⟩) hH hA ?_
        rw [addr_add]
        simp [Instr.loadAt, Instr.sureAddr]
    · exact Good.stuck
  · rename_i key ver i j
    split
    · rename_i v ty' sz els hf
      refine Good.need fun e => ?_
      obtain ⟨rfl, hi⟩ := e
      obtain ⟨hs, hx, ⟨hl, h0⟩ | ⟨g, o, cap, c, fr, hl, h1, h2, h3, h4, h5, h6, hA⟩⟩ := at_arr hH hf
      · subst h0; simp at hi
      · cases hX with
        | eref _ _ _ _ _ _ ver' l h1 hv h2 =>
          rw [hl] at h1; injection h1 with h1; injection h1 with h3 h4; subst h3; subst h4
          obtain ⟨_, h7⟩ := h2 rfl
          subst h7
          have hg : els.getD i [] = els[i] := by simp [List.getD, List.getElem?_eq_getElem hi]
          rw [hg]
          refine good_loadAV (a := ⟨g, o + i * sz, none⟩) hH (hA i _ (List.getElem?_eq_getElem hi)) ?_
          rw [addr_add]
          simp [Instr.loadAt, Instr.sureAddr]
    · exact Good.stuck
  · cases hX with
    | iptr _ _ _ a u hb hu hr =>
      refine good_loadAV (a := a) hH (fun j y hy => ⟨u j, hu j y hy, (hr j y hy).up cur⟩) ?_
      simp [Instr.loadAt, Instr.sureAddr]
  · exact Good.stuck

/-! ### Stores -/
def overA (c : Array Value) : Nat → List Value → Array Value
  | _, [] => c
  | o, v :: r => overA (c.setIfInBounds o v) (o + 1) r
theorem overA_size : ∀ (vs : List Value) (c : Array Value) (o : Nat), (overA c o vs).size = c.size
  | [], c, o => rfl
  | v :: r, c, o => by rw [overA, overA_size r]; simp
theorem overA_get : ∀ (vs : List Value) (c : Array Value) (o k : Nat), o + vs.length ≤ c.size → (overA c o vs)[k]? = if o ≤ k ∧ k < o + vs.length then vs[k - o]? else c[k]?
  | [], c, o, k, _ => by
    simp only [overA, List.length_nil, Nat.add_zero]
    rw [if_neg (by omega)]
  | v :: r, c, o, k, h => by
    simp only [List.length_cons] at h
    rw [overA, overA_get r _ (o + 1) k (by simp; omega)]
    simp only [List.length_cons]
    by_cases h1 : k = o
    · subst h1
      rw [if_neg (by omega), if_pos (by omega)]
      simp [Array.getElem?_setIfInBounds, show k < c.size from by omega]
    · by_cases h2 : o + 1 ≤ k ∧ k < o + 1 + r.length
      · rw [if_pos h2, if_pos (by omega)]
        rw [show k - o = k - (o + 1) + 1 by omega]
        simp
      · rw [if_neg h2, if_neg (by omega)]
        simp [Array.getElem?_setIfInBounds, Ne.symm h1]
theorem setCells_heap (g : Nat) (ty : TypeId) (fr : Nat × Nat) : ∀ (vs : List Value) (o : Nat) (w : World) (c : Array Value), w.heap[g]? = some (.cells c ty fr) → (w.setCells g o vs).heap[g]? = some (.cells (overA c o vs) ty fr)
  | [], o, w, c, h => h
  | v :: r, o, w, c, h => by
    rw [World.setCells, overA]
    refine setCells_heap g ty fr r (o + 1) _ _ ?_
    simp [World.setCell, Array.getElem?_modify, h]
theorem setCells_far (g : Nat) : ∀ (vs : List Value) (o : Nat) (w : World) (b : Nat), b ≠ g → (w.setCells g o vs).heap[b]? = w.heap[b]?
  | [], o, w, b, _ => rfl
  | v :: r, o, w, b, h => by
    rw [World.setCells, setCells_far g r (o + 1) _ b h]
    exact Below.heap_setCell _ _ _ _ h
theorem setCells_same (g : Nat) : ∀ (vs : List Value) (o : Nat) (w : World), (w.setCells g o vs).os = w.os ∧ (w.setCells g o vs).tape = w.tape ∧ (w.setCells g o vs).output = w.output ∧ (w.setCells g o vs).heap.size = w.heap.size
  | [], o, w => ⟨rfl, rfl, rfl, rfl⟩
  | v :: r, o, w => by
    obtain ⟨h1, h2, h3, h4⟩ := setCells_same g r (o + 1) (w.setCell ⟨g, o, none⟩ v)
    rw [World.setCells]
    exact ⟨h1, h2, h3, h4.trans (by simp [World.setCell])⟩
theorem setCells_get (cs vs : List AV) (o j : Nat) (h : o + vs.length ≤ cs.length) : (setCells cs o vs)[j]? = if o ≤ j ∧ j < o + vs.length then vs[j - o]? else cs[j]? := by
  unfold setCells
  simp only [List.getElem?_append, List.length_append, List.length_take, List.getElem?_take, List.getElem?_drop]
  by_cases h1 : j < o
  · rw [if_neg (by omega : ¬ (o ≤ j ∧ j < o + vs.length)), if_pos (by omega), if_pos (by omega), if_pos (by omega)]
  · by_cases h2 : j < o + vs.length
    · rw [if_pos (by omega : o ≤ j ∧ j < o + vs.length), if_pos (by omega), if_neg (by omega)]
      congr 1; omega
    · rw [if_neg (by omega : ¬ (o ≤ j ∧ j < o + vs.length)), if_neg (by omega)]
      congr 1; omega
theorem setCells_length (cs vs : List AV) (o : Nat) (h : o + vs.length ≤ cs.length) : (setCells cs o vs).length = cs.length := by
  unfold setCells
  simp only [List.length_append, List.length_take, List.length_drop]
  omega

/-- What may stand in one cell stands for what may. -/
theorem one_of {X : AV} {u : Value} {ok : Nat → Prop} (hH : RelH C w cur t) (h : RelV w ok cur X u) (hc : cellOk t X) : u.oneCell' = true := by
  cases h with
  | val => exact hc
  | imm => rfl
  | sl _ key ver off len _ ver' l h1 hv h2 =>
    obtain ⟨l', h3, hd⟩ := current_spec hH hc
    rw [h3] at h1; injection h1 with h1; injection h1 with h4 h5; subst h4; subst h5
    have h6 := h2 rfl
    cases l' with
    | dead => exact absurd rfl hd
    | nil => obtain ⟨_, _, rfl⟩ := h6; rfl
    | box g n => exact h6.elim
    | arr g o cap n sz => obtain ⟨_, _, a, rfl, _⟩ := h6; rfl
    | map g => exact h6.elim
  | ref _ key ver off _ ver' l h1 hv h2 =>
    obtain ⟨l', h3, hd⟩ := current_spec hH hc
    rw [h3] at h1; injection h1 with h1; injection h1 with h4 h5; subst h4; subst h5
    have h6 := h2 rfl
    cases l' with
    | dead => exact absurd rfl hd
    | nil => exact h6.elim
    | box g n => subst h6; rfl
    | arr g o cap n sz => exact h6.elim
    | map g => exact h6.elim
  | eref _ key ver i j _ ver' l h1 hv h2 =>
    obtain ⟨l', h3, hd⟩ := current_spec hH hc
    rw [h3] at h1; injection h1 with h1; injection h1 with h4 h5; subst h4; subst h5
    have h6 := h2 rfl
    cases l' with
    | dead => exact absurd rfl hd
    | nil => exact h6.elim
    | box g n => exact h6.elim
    | arr g o cap n sz => obtain ⟨_, rfl⟩ := h6; rfl
    | map g => exact h6.elim
  | mp _ key ver _ ver' l h1 hv h2 =>
    obtain ⟨l', h3, hd⟩ := current_spec hH hc
    rw [h3] at h1; injection h1 with h1; injection h1 with h4 h5; subst h4; subst h5
    have h6 := h2 rfl
    cases l' with
    | dead => exact absurd rfl hd
    | nil => exact h6.elim
    | box g n => exact h6.elim
    | arr g o cap n sz => exact h6.elim
    | map g => subst h6; rfl
  | iptr => rfl
  | agg => exact hc.elim
  | tup => exact hc.elim
  | func => rfl
  | iface => rfl
  | poison => exact hc.elim

/-- The cells of a value. -/
theorem rel_cells {X : AV} {u : Value} {ok : Nat → Prop} (hH : RelH C w cur t) (h : RelV w ok cur X u) (hc : allOk t X.cells) :
    u.cells.size = X.cells.length ∧ (∀ v ∈ u.cells.toList, v.oneCell' = true) ∧ ∀ (j : Nat) (y : AV) (v : Value), X.cells[j]? = some y → u.cells[j]? = some v → RelV w ok cur y v := by
  have single : ∀ {X : AV} {u : Value}, X.cells = [X] → u.cells = #[u] → RelV w ok cur X u → allOk t X.cells →
      u.cells.size = X.cells.length ∧ (∀ v ∈ u.cells.toList, v.oneCell' = true) ∧ ∀ (j : Nat) (y : AV) (v : Value), X.cells[j]? = some y → u.cells[j]? = some v → RelV w ok cur y v := by
    intro X u h1 h2 h hc
    rw [h1] at hc
    rw [h1, h2]
    refine ⟨rfl, fun v hv => ?_, fun j y v h3 h4 => ?_⟩
    · simp at hv; subst hv; exact one_of hH h hc.1
    · cases j with
      | zero => simp at h3 h4; subst h3; subst h4; exact h
      | succ j => simp at h3
  by_cases ha : ∃ cs, X = .agg cs
  · obtain ⟨cs, rfl⟩ := ha
    cases h with
    | agg _ _ us hn hr =>
      refine ⟨by simp [Value.cells, AV.cells, hn], fun v hv => ?_, fun j y v h3 h4 => hr j y v h3 (by simpa [Value.cells] using h4)⟩
      simp only [Value.cells] at hv
      obtain ⟨j, hj⟩ := List.mem_iff_getElem?.1 hv
      have hlt : j < cs.length := by have := (List.getElem?_eq_some_iff.1 hj).1; omega
      exact one_of hH (hr j cs[j] v (List.getElem?_eq_getElem hlt) hj) (allOk_iff.1 hc _ (List.getElem_mem hlt))
  · have h1 : X.cells = [X] := by
      cases X <;> first | rfl | exact absurd ⟨_, rfl⟩ ha
    have h2 : u.oneCell' = true := one_of hH h (by rw [h1] at hc; exact hc.1)
    exact single h1 (by cases u <;> first | rfl | (simp [Value.oneCell'] at h2; done)) h hc

def astore (P : Program) (ty : TypeId) (x v : AV) (t : Tab) : AR :=
  match x with
  | .ref key ver off => match t.find key with
    | some (v', .cells ty' cs) => .need (ver = v' ∧ known P ty = true ∧ v.cells.length = sizeT P ty ∧ allOk t v.cells ∧ off + sizeT P ty ≤ cs.length) (.ok .poison (t.put key v' (.cells ty' (setCells cs off v.cells))))
    | _ => .stuck
  | .eref key ver i j => match t.find key with
    | some (v', .arr ty' sz els) => .need (ver = v' ∧ known P ty = true ∧ v.cells.length = sizeT P ty ∧ allOk t v.cells ∧ j + sizeT P ty ≤ sz ∧ i < els.length) (.ok .poison (t.put key v' (.arr ty' sz (els.set i (setCells (els.getD i []) j v.cells)))))
    | _ => .stuck
  | _ => .stuck

/-- A store into an object's block. -/
theorem run_storeVar_at {ty : TypeId} {X : AV} {u : Value} {g o n : Nat} {c : Array Value} {ty' : TypeId} {fr : Nat × Nat} (hH : RelH C w cur t) (hX : RelV w (okB C w cur) cur X u) (hk : known P ty = true) (hl : X.cells.length = sizeT P ty) (hc : allOk t X.cells)
    (hg : w.heap[g]? = some (.cells c ty' fr)) (hf : noFreeze fr c.size) (hb : o + sizeT P ty ≤ c.size) :
    (storeVar ty ⟨g, o, none⟩ u).run P w = .ok () (w.setCells g o u.cells.toList) ∧ (w.setCells g o u.cells.toList).heap[g]? = some (.cells (overA c o u.cells.toList) ty' fr) := by
  obtain ⟨h1, h2, h3⟩ := rel_cells hH hX hc
  refine ⟨?_, setCells_heap g ty' fr _ _ _ _ hg⟩
  unfold storeVar
  simp only [Sem.run_bind, run_sizeOf hk, Result.andThen_ok]
  rw [if_neg (by rw [h1, hl]; simp)]
  have := run_storeCells_cells (P := P) g o u.cells.toList 0 w (fun j hj => by
    simp only [Array.length_toList, h1, hl] at hj
    simp [World.cell?, hg, show o + j < c.size from by omega]) (fun j hj => by
    simp only [Array.length_toList, h1, hl] at hj
    have hn := hf (o + j) (by omega)
    obtain ⟨lo, hi⟩ := fr
    simp only [World.frozen?, hg, Nat.add_zero]
    simp at hn ⊢
    exact hn) h2
  simpa using this

theorem Good.skip {cur' : Cur} {w' : World} {t' : Tab} {m : Sem Next} (hr : m.run P w = .ok .skip w') (hH : RelH C w' cur' t') (hx : Ext C w cur w' cur') : Good P C w cur m (.ok .poison t') :=
  fun Φ hs => ⟨.skip, undef, .poison, t', w', cur', hr, .inr ⟨rfl, rfl⟩, hs, hH, hx, .poison _ _⟩
theorem Good.val {cur' : Cur} {w' : World} {t' : Tab} {m : Sem Next} {v : Value} {av : AV} (hr : m.run P w = .ok (.value v) w') (hH : RelH C w' cur' t') (hx : Ext C w cur w' cur') (hv : RelV w' (okB C w' cur') cur' av v) : Good P C w cur m (.ok av t') :=
  fun Φ hs => ⟨.value v, v, av, t', w', cur', hr, .inl rfl, hs, hH, hx, hv⟩

theorem good_astore (ty : TypeId) (X V : AV) (u v : Value) (hH : RelH C w cur t) (hX : RelV w (okB C w cur) cur X u) (hV : RelV w (okB C w cur) cur V v) :
    Good P C w cur (do Instr.storeAt ty u v; pure .skip) (astore P ty X V t) := by
  unfold astore
  split
  · rename_i key ver off
    split
    · rename_i ver0 ty' cs hf
      refine Good.need fun ⟨e, hk, hl, hc, hb⟩ => ?_
      subst e
      obtain ⟨g, c, fr, hcur, hg, hfr, hsz, hcs, _⟩ := at_box hH hf
      cases hX with
      | ref _ _ _ _ _ ver' l h1 hv h2 =>
        rw [hcur] at h1; injection h1 with h1; injection h1 with h3 h4; subst h3; subst h4
        have h5 := h2 rfl
        simp only [Loc.ref] at h5
        subst h5
        obtain ⟨hr, hh⟩ := run_storeVar_at (P := P) (o := off) (n := 0) hH hV hk hl hc hg hfr (by omega)
        obtain ⟨q1, q2, q3⟩ := rel_cells hH hV hc
        obtain ⟨s1, s2, s3, s4⟩ := setCells_same g v.cells.toList off w
        have hT : Turn w cur key ver (.box g cs.length) (w.setCells g off v.cells.toList) := by
          refine ⟨s1, s2, s3, by omega, fun b hb hne => setCells_far g _ _ _ _ (fun e => hne _ _ hcur (by rw [e]; rfl)), fun b hb => ?_, fun ver1 l0 hk0 => ?_⟩
          · injection hb with hb; subst hb
            exact ⟨by rw [s4]; exact (Array.getElem?_eq_some_iff.1 hg).1, .inr ⟨_, _, hcur, rfl⟩⟩
          · rw [hcur] at hk0; injection hk0 with hk0; injection hk0 with h6 h7; subst h6; subst h7
            exact ⟨Nat.le_refl _, fun _ => .inl rfl⟩
        have hx := hT.ext (C := C)
        refine Good.skip (cur' := upd cur key ver (.box g cs.length)) (w' := w.setCells g off v.cells.toList) ?_ (hH.turn hT ?_) hx
        · simp [Instr.storeAt, Instr.sureAddr, hr]
        · refine ⟨g, _, fr, by rw [setCells_length _ _ _ (by rw [hl]; exact hb)], hh, by rw [overA_size]; exact hfr, by rw [overA_size, setCells_length _ _ _ (by rw [hl]; exact hb)]; exact hsz, fun j y hy => ?_⟩
          rw [setCells_get _ _ _ _ (by rw [hl]; exact hb)] at hy
          rw [overA_get _ _ _ _ (by simp only [Array.length_toList, q1]; omega)]
          simp only [Array.length_toList, q1]
          split at hy
          · rename_i hj
            rw [if_pos hj]
            have hlt : j - off < v.cells.toList.length := by simp only [Array.length_toList, q1]; omega
            refine ⟨v.cells.toList[j - off], List.getElem?_eq_getElem hlt, hx.rel (q3 (j - off) y _ hy ?_)⟩
            rw [← Array.getElem?_toList]
            exact List.getElem?_eq_getElem hlt
          · rename_i hj
            rw [if_neg hj]
            obtain ⟨u', hu', hr'⟩ := hcs j y hy
            exact ⟨u', hu', hx.rel hr'⟩
    · exact Good.stuck
  · rename_i key ver i j
    split
    · rename_i ver0 ty' sz els hf
      refine Good.need fun ⟨e, hk, hl, hc, hb, hi⟩ => ?_
      subst e
      obtain ⟨hs, hxl, ⟨hl0, h0⟩ | ⟨g, o, cap, c, fr, hcur, hg, hfr, hsz, hcap, hmax, hcs, hA⟩⟩ := at_arr hH hf
      · subst h0; simp at hi
      · cases hX with
        | eref _ _ _ _ _ _ ver' l h1 hv h2 =>
          rw [hcur] at h1; injection h1 with h1; injection h1 with h3 h4; subst h3; subst h4
          obtain ⟨_, h7⟩ := h2 rfl
          subst h7
          have hxi : (els[i]).length = sz := hxl _ (List.getElem_mem hi)
          have hgd : els.getD i [] = els[i] := by simp [List.getD, List.getElem?_eq_getElem hi]
          have him : i * sz + sz ≤ cap * sz := by
            have : (i + 1) * sz ≤ cap * sz := Nat.mul_le_mul_right _ (by omega)
            rwa [Nat.add_mul, Nat.one_mul] at this
          obtain ⟨hr, hh⟩ := run_storeVar_at (P := P) (o := o + i * sz + j) (n := 0) hH hV hk hl hc hg hfr (by omega)
          obtain ⟨q1, q2, q3⟩ := rel_cells hH hV hc
          obtain ⟨s1, s2, s3, s4⟩ := setCells_same g v.cells.toList (o + i * sz + j) w
          have hT : Turn w cur key ver (.arr g o cap els.length sz) (w.setCells g (o + i * sz + j) v.cells.toList) := by
            refine ⟨s1, s2, s3, by omega, fun b hb hne => setCells_far g _ _ _ _ (fun e => hne _ _ hcur (by rw [e]; rfl)), fun b hb => ?_, fun ver1 l0 hk0 => ?_⟩
            · injection hb with hb; subst hb
              exact ⟨by rw [s4]; exact (Array.getElem?_eq_some_iff.1 hg).1, .inr ⟨_, _, hcur, rfl⟩⟩
            · rw [hcur] at hk0; injection hk0 with hk0; injection hk0 with h6 h7; subst h6; subst h7
              exact ⟨Nat.le_refl _, fun _ => .inl rfl⟩
          have hx := hT.ext (C := C)
          refine Good.skip (cur' := upd cur key ver (.arr g o cap els.length sz)) (w' := w.setCells g (o + i * sz + j) v.cells.toList) ?_ (hH.turn hT ?_) hx
          · simp [Instr.storeAt, Instr.sureAddr, hr]
          · have hsl : (setCells els[i] j V.cells).length = sz := by rw [setCells_length _ _ _ (by rw [hl, hxi]; exact hb)]; exact hxi
            refine ⟨hs, fun x hx' => ?_, .inr ⟨g, o, cap, _, fr, by rw [List.length_set], hh, by rw [overA_size]; exact hfr, by rw [overA_size]; exact hsz, by rw [List.length_set]; exact hcap, hmax, fun i' x j' y hi' hy => ?_⟩⟩
            · rcases List.mem_or_eq_of_mem_set hx' with h | h
              · exact hxl _ h
              · rw [h, hgd]; exact hsl
            · rw [overA_get _ _ _ _ (by simp only [Array.length_toList, q1]; omega)]
              simp only [Array.length_toList, q1]
              rw [List.getElem?_set] at hi'
              by_cases hii : i = i'
              · subst hii
                rw [if_pos rfl, if_pos hi, hgd] at hi'
                injection hi' with hi'
                subst hi'
                rw [setCells_get _ _ _ _ (by rw [hl, hxi]; exact hb)] at hy
                split at hy
                · rename_i hj
                  rw [if_pos (by omega)]
                  have hlt : j' - j < v.cells.toList.length := by simp only [Array.length_toList, q1]; omega
                  refine ⟨v.cells.toList[j' - j], ?_, hx.rel (q3 (j' - j) y _ hy ?_)⟩
                  · rw [show o + i * sz + j' - (o + i * sz + j) = j' - j by omega]
                    exact List.getElem?_eq_getElem hlt
                  · rw [← Array.getElem?_toList]
                    exact List.getElem?_eq_getElem hlt
                · rename_i hj
                  rw [if_neg (by omega)]
                  obtain ⟨u', hu', hr'⟩ := hcs i _ j' y (List.getElem?_eq_getElem hi) hy
                  exact ⟨u', hu', hx.rel hr'⟩
              · rw [if_neg hii] at hi'
                have hxl' : x.length = sz := hxl _ (List.mem_of_getElem? hi')
                have hj' : j' < sz := by have := (List.getElem?_eq_some_iff.1 hy).1; omega
                have hne : ¬ (o + i * sz + j ≤ o + i' * sz + j' ∧ o + i' * sz + j' < o + i * sz + j + V.cells.length) := by
                  rw [hl]
                  rcases Nat.lt_or_ge i' i with hlt | hge
                  · have : (i' + 1) * sz ≤ i * sz := Nat.mul_le_mul_right _ hlt
                    rw [Nat.add_mul, Nat.one_mul] at this
                    omega
                  · have : (i + 1) * sz ≤ i' * sz := Nat.mul_le_mul_right _ (by omega)
                    rw [Nat.add_mul, Nat.one_mul] at this
                    omega
                rw [if_neg hne]
                obtain ⟨u', hu', hr'⟩ := hcs i' x j' y hi' hy
                exact ⟨u', hu', hx.rel hr'⟩
    · exact Good.stuck
  · exact Good.stuck
end
end Go.Proofs.Ytoblmpfcjeammaa.V
