/-
  Calls as steps. Conditions: none; plain definitions and lemmas, over any program.
-/
import Derived.Test.YtoblmpfcjeammaaVq
set_option linter.unusedVariables false
set_option linter.unusedSimpArgs false
namespace Go.Proofs.Ytoblmpfcjeammaa.V
open Go.RowKit
mutual
theorem ren_closed (ρ : Nat → Nat → Option (Nat × Nat)) : ∀ (x : AV), x.closed → x.ren ρ = x
  | .val _, _ => rfl
  | .imm _ _, _ => rfl
  | .sl _ _ _ _, h => h.elim
  | .ref _ _ _, h => h.elim
  | .eref _ _ _ _, h => h.elim
  | .mp _ _, h => h.elim
  | .iptr _ _, _ => rfl
  | .agg cs, h => by simp only [AV.ren, renL_closed ρ cs h]
  | .tup cs, h => by simp only [AV.ren, renL_closed ρ cs h]
  | .func _ cs, h => by simp only [AV.ren, renL_closed ρ cs h]
  | .iface _ x, h => by simp only [AV.ren, ren_closed ρ x h]
  | .poison, _ => rfl
theorem renL_closed (ρ : Nat → Nat → Option (Nat × Nat)) : ∀ (l : List AV), AV.closedL l → AV.renL ρ l = l
  | [], _ => rfl
  | x :: r, h => by simp only [AV.renL, ren_closed ρ x h.1, renL_closed ρ r h.2]
end
section
variable {P : Program} {f : FuncId} {as : List AV} {t : Tab} {d : Option Nat} {e : Env} {k : Env → Tab → Prop}
/-- A call whose arguments and result hold no object. -/
theorem step0 {Φ : AV → Prop} {as0 : List AV} (hF : Fn P f as0 [] fun r t' => t' = [] ∧ Φ r) (ha : as0 = as.map (AV.ren (downs []))) (hk : ∀ r, Φ r → r.closed ∧ k (eputo e d r) t) : astepc P f as t d e k := by
  refine acall_fn [] 0 hF trivial ha rfl fun r t1 ⟨ht, hr⟩ => ?_
  subst ht
  obtain ⟨h1, h2⟩ := hk r hr
  rw [ren_closed _ r h1]
  exact ⟨trivial, h2⟩
/-- A call with objects handed over. -/
theorem step1 {Q : AV → Tab → Prop} {as0 : List AV} {t0 : Tab} (l : Pass) (base : Nat) (hF : Fn P f as0 t0 Q) (hl : passOk t l) (ha : as0 = as.map (AV.ren (downs l))) (ht : t0 = passTab l t l)
    (hk : ∀ r t1, Q r t1 → joinOk l base t1 ∧ k (eputo e d (r.ren (ups l base t t1))) (joinTab l base t t1 t1)) : astepc P f as t d e k :=
  acall_fn l base hF hl ha ht hk
end
attribute [go_sem] AV.closed AV.closedL closedLL objClosed downs Pass.down Pass.up ups goesTo goesVer joinTab joinOk passTab passOk
end Go.Proofs.Ytoblmpfcjeammaa.V
