/-
  Regions whose order is drawn: operations that read alone are taken ahead, the others in each order that may be. Conditions: none; plain definitions and lemmas, over any program.
-/
import Derived.Test.YtoblmpfcjeammaaVm
set_option linter.unusedVariables false
set_option linter.unusedSimpArgs false
namespace Go.Proofs.Ytoblmpfcjeammaa.V
open Go.RowKit
section
variable {P : Program} {X : Fx} {e e' : Env} {t : Tab} {k k' : Env → Tab → Prop}

/-! ### The same operands -/
theorem aop_congr (o : Oper) (h : ∀ x ∈ o.op.operands, aev e x = aev e' x) : aop P o e t = aop P o e' t := by
  obtain ⟨dst, op, type, pos, after, guard⟩ := o
  have pairs : ∀ ps : Array (Nat × Operand), (∀ x ∈ ps.map (·.2), aev e x = aev e' x) → (ps.toList.map fun p => (p.1, aev e p.2)) = (ps.toList.map fun p => (p.1, aev e' p.2)) := fun ps hp =>
    List.map_congr_left fun p hm => by
      rw [hp p.2 (Array.mem_map.2 ⟨p, by simpa using hm, rfl⟩)]
  cases op <;> simp only [Op.operands] at h <;> simp only [aop]
  case build ty ps => rw [pairs ps fun x hx => h x (by simpa using hx)]
  case buildSlice ty n ps => rw [pairs ps fun x hx => h x (by simpa using hx)]
  case makeFunc fn first captured =>
    rw [List.map_congr_left (l := captured.toList) (f := aev e) (g := aev e') fun x hx => h x (by simp; exact .inr (by simpa using hx))]
  case call c =>
    have : c.args.toList.map (aev e) = c.args.toList.map (aev e') := List.map_congr_left fun x hx => h x (by simp only [Call.operands]; exact Array.mem_append.2 (.inr (by simpa using hx)))
    cases hc : c.callee <;> simp only [this]
  case makeMap ty r => cases r <;> simp_all
  case slice ty x lo hi mx => cases lo <;> cases hi <;> cases mx <;> simp_all
  all_goals (first | rfl | (simp_all; done))
theorem acont_sim {d : Option Nat} : ∀ (r : AR), acont r d e k → (∀ v t1, k (eputo e d v) t1 → k' (eputo e' d v) t1) → acont r d e' k'
  | .ok v t1, h, hk => hk v t1 h
  | .need p x, h, hk => ⟨h.1, acont_sim x h.2 hk⟩
  | .fork p q x y, h, hk => ⟨fun hp => acont_sim x (h.1 hp) hk, fun hq => acont_sim y (h.2 hq) hk⟩
  | .stuck, h, _ => h.elim
theorem aone_sim (o : Oper) (ho : ∀ x ∈ o.op.operands, aev e x = aev e' x) (h : aone P o e t k) (hk : ∀ v t1, k (eputo e o.dst v) t1 → k' (eputo e' o.dst v) t1) : aone P o e' t k' := by
  have plain : acont (aop P o e t) o.dst e k → acont (aop P o e' t) o.dst e' k' := fun h => by
    rw [← aop_congr o ho]
    exact acont_sim _ h hk
  unfold aone at *
  split
  · rename_i c hc
    simp only [hc] at h
    have hargs : c.args.toList.map (aev e) = c.args.toList.map (aev e') := List.map_congr_left fun x hx => ho x (by
      rw [hc]
      simp only [Op.operands, Call.operands]
      exact Array.mem_append.2 (.inr (by simpa using hx)))
    unfold acallee at *
    split
    · rename_i f hf
      simp only [hf] at h
      have hfe : aev e f = aev e' f := ho f (by rw [hc]; simp [Op.operands, Call.operands, hf])
      rw [← hfe, ← hargs]
      unfold acv at *
      split
      · rename_i g cs hg
        rw [hg] at h
        exact acall_mono h fun v t' hv => hk v t' hv
      · rename_i hg
        split at h
        · rename_i g cs hg'; exact absurd hg' (hg _ _)
        · exact h
    · rename_i b hb
      simp only [hb] at h
      exact plain h
    · rename_i r name hb
      simp only [hb] at h
      have hfe : aev e r = aev e' r := ho r (by rw [hc]; simp [Op.operands, Call.operands, hb])
      rw [← hfe, ← hargs]
      unfold ainv at *
      split
      · rename_i T x hg
        rw [hg] at h
        obtain ⟨f, hm, h⟩ := h
        exact ⟨f, hm, acall_mono h fun v t' hv => hk v t' hv⟩
      · rename_i hg
        split at h
        · rename_i T x hg'; exact absurd hg' (hg _ _)
        · exact h
  · rename_i hc
    split at h
    · rename_i c hc'; exact absurd hc' (hc c)
    · exact plain h
theorem aguard_sim {ops : List Oper} (o : Oper) (ho : ∀ d, d ∈ o.looksAt ops.toArray → eget e d = eget e' d) (h : aguard P ops o e t k)
    (hk : ∀ e1 e1' t1, (∀ d, some d ≠ o.dst → eget e1 d = eget e d) → (∀ d, some d ≠ o.dst → eget e1' d = eget e' d) → (∀ d, some d = o.dst → eget e1 d = eget e1' d) → k e1 t1 → k' e1' t1) : aguard P ops o e' t k' := by
  have hops : ∀ e0 e0' : Env, (∀ d, d ∈ o.looksAt ops.toArray → eget e0 d = eget e0' d) → ∀ x ∈ o.op.operands, aev e0 x = aev e0' x := fun e0 e0' h0 x hx => by
    cases x with
    | tmp d => exact h0 d (List.mem_append_left _ (List.mem_filterMap.2 ⟨.tmp d, by simpa using hx, rfl⟩))
    | _ => rfl
  have hput : ∀ (e0 e0' : Env) (v : AV) (t1 : Tab), (∀ d, eget e0 d = eget e d) → (∀ d, eget e0' d = eget e' d) → k (eputo e0 o.dst v) t1 → k' (eputo e0' o.dst v) t1 := by
    intro e0 e0' v t1 h0 h0' hkk
    refine hk _ _ t1 (fun d hd => ?_) (fun d hd => ?_) (fun d hd => ?_) hkk
    · cases hdst : o.dst with
      | none => exact h0 d
      | some d0 =>
        rw [hdst] at hd
        simp only [eputo, eget_eput]
        rw [if_neg (fun e => hd (by rw [e]))]
        exact h0 d
    · cases hdst : o.dst with
      | none => exact h0' d
      | some d0 =>
        rw [hdst] at hd
        simp only [eputo, eget_eput]
        rw [if_neg (fun e => hd (by rw [e]))]
        exact h0' d
    · rw [← hd]
      simp only [eputo, eget_eput, if_true]
  unfold aguard at *
  split
  · rename_i hg
    simp only [hg] at h
    exact aone_sim o (hops e e' ho) h fun v t1 => hput e e' v t1 (fun _ => rfl) (fun _ => rfl)
  · rename_i j b hg
    simp only [hg] at h
    split
    · rename_i o' hj
      simp only [hj] at h
      split
      · rename_i dg hdg
        simp only [hdg] at h
        have hl : dg ∈ o.looksAt ops.toArray := List.mem_append_right _ (by simp [hg, hj, hdg])
        have heq := ho dg hl
        unfold agd at *
        split
        · rename_i v hv
          rw [heq, hv] at h
          simp only at h
          split
          · rename_i p
            simp only at h
            have same : ∀ p', p = p' → (∀ d, eget (eput e dg (.val (.bool p'))) d = eget e d) ∧ (∀ d, eget (eput e' dg (.val (.bool p'))) d = eget e' d) := by
              intro p' hp
              subst hp
              refine ⟨fun d => ?_, fun d => ?_⟩
              · rw [eget_eput]; split
                · rename_i e0; subst e0; rw [heq, hv]
                · rfl
              · rw [eget_eput]; split
                · rename_i e0; subst e0; rw [hv]
                · rfl
            refine ⟨fun hp => ?_, fun hp => ?_⟩
            · obtain ⟨s1, s2⟩ := same _ hp
              exact aone_sim o (hops _ _ fun d hd => by rw [s1, s2]; exact ho d hd) (h.1 hp) fun v t1 => hput _ _ v t1 s1 s2
            · obtain ⟨s1, s2⟩ := same _ hp
              exact hput _ _ _ t s1 s2 (h.2 hp)
          · rename_i hnb
            split at h
            · rename_i p; exact absurd rfl (hnb p)
            · exact hput e e' _ t (fun _ => rfl) (fun _ => rfl) h
        · rename_i hv
          rw [heq] at h
          split at h
          · rename_i v hv'; exact absurd hv' (hv v)
          · exact h
      · rename_i hdg
        simp only [hdg] at h
    · rename_i hj
      simp only [hj] at h
end
end Go.Proofs.Ytoblmpfcjeammaa.V
