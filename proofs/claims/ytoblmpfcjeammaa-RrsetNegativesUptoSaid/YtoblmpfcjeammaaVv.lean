/-
  Steps that Go's machine does not see: objects let go, objects under other keys; loops with both. Conditions: none; plain definitions and lemmas, over any program.
-/
import Derived.Test.YtoblmpfcjeammaaVs
set_option linter.unusedVariables false
set_option linter.unusedSimpArgs false
namespace Go.Proofs.Ytoblmpfcjeammaa.V
open Go.RowKit
def renE (ρ : Nat → Nat → Option (Nat × Nat)) : Env → Env
  | [] => []
  | p :: r => (p.1, p.2.ren ρ) :: renE ρ r
theorem eget_renE (ρ : Nat → Nat → Option (Nat × Nat)) (d : Nat) : ∀ e : Env, eget (renE ρ e) d = (eget e d).ren ρ
  | [] => by simp [renE, eget, AV.ren]
  | p :: r => by
    simp only [renE, eget]
    split
    · rfl
    · exact eget_renE ρ d r
section
variable {P : Program} {X : Fx} {c : Code} {Q : Exit → Env → Tab → Prop} {e : Env} {t : Tab}
theorem rel_only (ks : List Nat) (hX : FxOk X) (hk : ∀ k, inKs ks k = false → inKs X.keys k = false) {a : Act} {w : World} (hR : Rel X e t a w) : Rel X (renE (idk ks) e) (restrict ks t) a w := by
  obtain ⟨cur, hs, hD, hE, hH, hx⟩ := hR
  obtain ⟨g1, g2⟩ := prune ks hH hx (fun k h => hX.cur k (hk k h))
  refine ⟨onlyCur ks cur, hs, hD, fun d => ?_, g1, g2⟩
  rw [eget_renE]
  exact (hE d).ren (fun b hb => only_ok hb) _ (only_names ks)
theorem HW_only (ks : List Nat) (hX : FxOk X) (hk : ∀ k, inKs ks k = false → inKs X.keys k = false) (h : HW P X c Q (renE (idk ks) e) (restrict ks t)) : HW P X c Q e t :=
  HW_ghost (fun a w hR => rel_only ks hX hk hR) h
theorem HW_loopo (ks os : List Nat) (hX : FxOk X) (hk : ∀ k, inKs os k = false → inKs X.keys k = false) (I : Nat → Env → Tab → Prop) (n : Nat) (h0 : I n (renE (idk os) (ekeep e ks)) (restrict os t))
    (round : ∀ n e t, I n e t → HW P X c (xthen (fun e' t' => ∃ m, m < n ∧ I m (renE (idk os) (ekeep e' ks)) (restrict os t')) Q) e t) : HW P X (.loop c) Q e t :=
  HW_loop (fun n e t => I n (renE (idk os) (ekeep e ks)) (restrict os t)) n h0 fun n e t h => HW_keep ks (HW_only os hX hk (round n _ _ h))
theorem HW_stop {id : Nat} {ops : Array Oper} {b : Bool} {y : Code} (h : HW P X (.seq (.region id ops b) y) Q e t) : HW P X (.seq (.region id ops b) y) Q e t := h
/-- What is kept between two pieces of code. -/
theorem HW_cut {x y : Code} (ks os : List Nat) (hX : FxOk X) (hk : ∀ k, inKs os k = false → inKs X.keys k = false) (I : Env → Tab → Prop)
    (h1 : HW P X x (xthen (fun e' t' => I (renE (idk os) (ekeep e' ks)) (restrict os t')) Q) e t) (h2 : ∀ e t, I e t → HW P X y Q e t) : HW P X (.seq x y) Q e t :=
  HW_seq (HW_mono h1 fun z e' t' h => by
    cases z with
    | normal => exact HW_keep ks (HW_only os hX hk (h2 _ _ h))
    | _ => exact h)

/-! ### Another key -/
def mvk (k k' : Nat) (j v : Nat) : Option (Nat × Nat) := if j = k then some (k', v) else if j = k' then none else some (j, v)
def mvT (k k' : Nat) : Tab → Tab
  | [] => []
  | x :: r => if x.key = k then mvT k k' r else ⟨x.key, x.ver, x.obj.ren (mvk k k')⟩ :: mvT k k' r
def moveT (k k' : Nat) (t : Tab) : Tab := match t.find k with
  | some (v, o) => Tab.put (mvT k k' t) k' v (o.ren (mvk k k'))
  | none => t
theorem mvT_find (k k' j : Nat) : ∀ t : Tab, (mvT k k' t).find j = if j = k then none else (t.find j).map fun p => (p.1, p.2.ren (mvk k k'))
  | [] => by simp [mvT, Tab.find]
  | x :: r => by
    simp only [mvT, Tab.find]
    have ih := mvT_find k k' j r
    by_cases h : x.key = k
    · rw [if_pos h, ih]
      by_cases hj : j = k
      · simp [hj]
      · rw [if_neg hj, if_neg hj, if_neg (fun e => hj (by rw [← e, h]))]
    · rw [if_neg h]
      simp only [Tab.find]
      by_cases hj : x.key = j
      · rw [if_pos hj, if_pos hj, if_neg (by rw [← hj]; exact h)]
        rfl
      · rw [if_neg hj, if_neg hj, ih]
theorem HW_move (k k' v : Nat) (o : AObj) (hX : FxOk X) (hk : inKs X.keys k = false) (hk' : inKs X.keys k' = false) (hf : t.find k = some (v, o)) (hn : t.find k' = none)
    (h : HW P X c Q (renE (mvk k k') e) (moveT k k' t)) : HW P X c Q e t := by
  refine HW_ghost (fun a w hR => ?_) h
  obtain ⟨cur, hs, hD, hE, hH, hx⟩ := hR
  have hne : k ≠ k' := fun e => by rw [e, hn] at hf; cases hf
  have hcn : cur k' = none := (hH.dom k').1 hn
  let cur' : Cur := fun j => if j = k' then cur k else if j = k then none else cur j
  have hself : cur' k' = cur k := by simp [cur']
  have hothers : ∀ j, j ≠ k → j ≠ k' → cur' j = cur j := fun j h1 h2 => by simp [cur', h1, h2]
  have hgone : cur' k = none := by simp [cur', hne]
  have hback : ∀ j ver l, cur' j = some (ver, l) → ∃ j0, cur j0 = some (ver, l) ∧ (j = k' ∧ j0 = k ∨ j ≠ k ∧ j ≠ k' ∧ j0 = j) := by
    intro j ver l hj
    by_cases h1 : j = k'
    · subst h1; rw [hself] at hj; exact ⟨k, hj, .inl ⟨rfl, rfl⟩⟩
    · by_cases h2 : j = k
      · subst h2; rw [hgone] at hj; cases hj
      · rw [hothers j h2 h1] at hj; exact ⟨j, hj, .inr ⟨h2, h1, rfl⟩⟩
  have hlive : ∀ b, live cur' b → live cur b := by
    intro b ⟨j, ver, l, h1, h2⟩
    obtain ⟨j0, h3, _⟩ := hback j ver l h1
    exact ⟨j0, ver, l, h3, h2⟩
  have hok : ∀ b, okB X.C w cur b → okB X.C w cur' b := fun b hb => ⟨hb.1, hb.2.1, fun hl => hb.2.2 (hlive b hl)⟩
  have hren : Renames (mvk k k') cur cur' := by
    intro j ver p hp ver' l hj hv
    unfold mvk at hp
    split at hp
    · rename_i e0; subst e0
      injection hp with hp; subst hp
      exact ⟨ver', l, by simp only [hself]; exact hj, hv, fun e => ⟨e, rfl⟩⟩
    · split at hp
      · cases hp
      · rename_i h1 h2
        injection hp with hp; subst hp
        exact ⟨ver', l, by simp only [hothers j h1 h2]; exact hj, hv, fun e => ⟨e, rfl⟩⟩
  have hval : ∀ {y : AV} {u : Value}, RelV w (okB X.C w cur) cur y u → RelV w (okB X.C w cur') cur' (y.ren (mvk k k')) u := fun h => h.ren hok _ hren
  have hownk : ∀ b, ¬ X.C.own k b := fun b hb => by have := hX.own k b hb; rw [hk] at this; cases this
  refine ⟨cur', hs, hD, fun d => by rw [eget_renE]; exact hval (hE d), ⟨hH.os, hH.tape, hH.output, hH.size, fun j => ?_, fun j1 j2 v1 v2 l1 l2 b h1 h2 hb1 hb2 => ?_, fun j ver l b h1 h2 => ?_, hH.frame, hH.old⟩, ⟨fun b hb => ⟨hok b (hx.ok b hb).1, (hx.ok b hb).2⟩, fun j ver l hj => ?_⟩⟩
  · simp only [moveT, hf]
    rw [Tab.find_put, mvT_find]
    obtain ⟨l0, hl0, hro⟩ := (hH.dom k).2 v o hf
    by_cases h1 : k' = j
    · subst h1
      rw [if_pos rfl]
      refine ⟨(fun h => by cases h), fun ver o' ho => ?_⟩
      injection ho with ho; injection ho with e1 e2; subst e1; subst e2
      exact ⟨l0, by rw [hself]; exact hl0, RelO.ren (fun y u hy => hval hy) (fun b _ => rfl) hro⟩
    · rw [if_neg h1]
      by_cases h2 : j = k
      · subst h2
        rw [if_pos rfl]
        exact ⟨fun _ => hgone, (fun ver o' ho => by cases ho)⟩
      · rw [if_neg h2, hothers j h2 (fun e => h1 e.symm)]
        refine ⟨fun h => (hH.dom j).1 (by simpa using h), fun ver o' ho => ?_⟩
        cases hfj : t.find j with
        | none => rw [hfj] at ho; cases ho
        | some p =>
          rw [hfj] at ho
          simp only [Option.map_some, Option.some.injEq, Prod.mk.injEq] at ho
          obtain ⟨rfl, rfl⟩ := ho
          obtain ⟨l, h3, h4⟩ := (hH.dom j).2 p.1 p.2 hfj
          exact ⟨l, h3, RelO.ren (fun y u hy => hval hy) (fun b _ => rfl) h4⟩
  · obtain ⟨i1, q1, r1⟩ := hback j1 v1 l1 h1
    obtain ⟨i2, q2, r2⟩ := hback j2 v2 l2 h2
    have := hH.inj _ _ _ _ _ _ b q1 q2 hb1 hb2
    subst this
    omega
  · obtain ⟨i1, q1, r1⟩ := hback j ver l h1
    obtain ⟨g1, g2⟩ := hH.lives i1 ver l b q1 h2
    rcases r1 with ⟨rfl, rfl⟩ | ⟨a1, a2, rfl⟩
    · exact ⟨g1, .inr (g2.resolve_left (hownk b))⟩
    · exact ⟨g1, g2⟩
  · obtain ⟨v2, l2, h1, h2⟩ := hx.le j ver l hj
    have c1 : j ≠ k := fun e => by rw [e, hX.cur k hk] at hj; cases hj
    have c2 : j ≠ k' := fun e => by rw [e, hX.cur k' hk'] at hj; cases hj
    exact ⟨v2, l2, by rw [hothers j c1 c2]; exact h1, h2⟩
end
theorem ren_bCs (ρ : Nat → Nat → Option (Nat × Nat)) (s : ByteArray) : List.map (AV.renL ρ) (bCs s) = bCs s := by
  unfold bCs
  rw [List.map_map]
  exact List.map_congr_left fun b _ => rfl
theorem ren_els {α : Type} (ρ : Nat → Nat → Option (Nat × Nat)) (f : α → List AV) (l : List α) : List.map (AV.renL ρ) (elsL f l) = elsL (fun x => AV.renL ρ (f x)) l := by simp [elsL]
theorem frz_bCs (k v : Nat) (o : AObj) (s : ByteArray) : List.map (AV.frzL k v o) (bCs s) = bCs s := by
  unfold bCs
  rw [List.map_map]
  exact List.map_congr_left fun b _ => rfl
theorem frz_els {α : Type} (k v : Nat) (o : AObj) (f : α → List AV) (l : List α) : List.map (AV.frzL k v o) (elsL f l) = elsL (fun x => AV.frzL k v o (f x)) l := by simp [elsL]
theorem psize (q : ByteArray) (b : UInt8) : (ByteArray.mk (q.data.push b)).size = q.size + 1 := by
  show (q.data.push b).size = _
  rw [Array.size_push]
  rfl
theorem set_cons' {α : Type} (x y : α) (l : List α) (i : Nat) : (x :: l).set i y = if i = 0 then y :: l else x :: l.set (i - 1) y := by cases i <;> simp
theorem take_bCs (s : ByteArray) (n : Nat) : List.take n (bCs s) = bCs (s.extract 0 n) := by
  rw [← bCs_slice, List.drop_zero]
theorem extract_all (s : ByteArray) (n : Nat) (h : s.size ≤ n) : s.extract 0 n = s := by
  apply ByteArray.ext
  rw [ByteArray.data_extract]
  exact Array.extract_eq_self_of_le h
theorem all_bCs (s : ByteArray) : List.take s.size (bCs s) = bCs s := by rw [take_bCs, extract_all _ _ (Nat.le_refl _)]
theorem take_els {α : Type} (f : α → List AV) (l : List α) (n : Nat) (h : l.length ≤ n) : List.take n (elsL f l) = elsL f l := List.take_of_length_le (by rw [els_len]; exact h)
theorem drop_bCs (s : ByteArray) (k : Nat) : List.drop k (bCs s) = bCs (s.extract k s.size) := by
  rw [← bCs_slice, all_bCs]
theorem drop_els {α : Type} (f : α → List AV) (l : List α) (k : Nat) : List.drop k (elsL f l) = elsL f (l.drop k) := by simp [elsL]
theorem bCs_cons_app (s : ByteArray) (b : UInt8) (l : List (List AV)) : bCs s ++ ([.val (.int .u8 b.toNat)] :: l) = bCs ⟨s.data.push b⟩ ++ l := by simp [bCs, bC]
attribute [go_sem] bCs_cons_app drop_bCs drop_els take_bCs extract_all take_els set_cons' List.set_nil List.length_set List.drop_zero renE mvk mvT moveT ren_bCs ren_els frz_bCs frz_els
end Go.Proofs.Ytoblmpfcjeammaa.V
