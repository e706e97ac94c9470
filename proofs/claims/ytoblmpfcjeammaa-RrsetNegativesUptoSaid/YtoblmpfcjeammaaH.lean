/-
  Lists of data: whether all of them may stand in a record.
-/
import Derived.Test.YtoblmpfcjeammaaG
set_option linter.unusedVariables false
set_option linter.unusedSimpArgs false
set_option maxHeartbeats 4000000
namespace Go.Proofs.Ytoblmpfcjeammaa.V
open Go.RowKit Go.Proofs
attribute [local irreducible] HW Fn acall
/-- A list of texts. -/
abbrev BB (l : List ByteArray) : AV := .imm 1 (elsL (fun s => [B s]) l)
/-- entry.Can$1 -/
theorem w49 (n : Int) (s : ByteArray) (hs : s.size ≤ 1099511627776) : Fn Try.prog 49 [B s, .ref 0 0 0] [⟨0, 0, .cells 3 [I n]⟩] (fun r t => t = [⟨0, 0, .cells 3 [I n]⟩] ∧ r = .val (.bool (!dataOk n s))) := by
  refine fn_of Try.func49 rfl rfl (by show _ ≤ 8; simp) fun X hX hn hk => ?_
  rw [hk]
  repeat' first
    | ((with_reducible first | refine HW_seq_k fun _ _ => ?_ | refine HWr_succ ?_))
    | ((((with_reducible refine HW_region ?_ ?_); (focus (rw [hn]; rfl)))); simp -implicitDefEqProofs (maxSteps := 1000000) (disch := omega) only [go_sem, ↓bCs_slice, ↓els_slice, Int.reducePow, List.reduceReplicate, Int.reduceToNat, Int.reduceAdd, Int.reduceSub, Int.reduceLT, Int.reduceLE, Int.reduceMul, Int.reduceEq, Nat.reduceEqDiff, Nat.reduceLT, ↓reduceIte, Nat.reduceAdd, Nat.reduceSub, Nat.reduceMul, Nat.reduceLeDiff, reduceCtorEq])
    | (refine HW_cond (by rfl) (fun h => ?_) (fun h => ?_) <;> try simp only [not_true_eq_false, not_false_eq_true, decide_eq_true_eq, decide_eq_false_iff_not, Int.not_lt, Int.not_le, Bool.not_eq_true', Bool.not_eq_false', Bool.and_eq_true, Bool.or_eq_true, Bool.not_eq_true, Bool.not_eq_false, Bool.not_true, Bool.not_false, Bool.false_eq_true, Bool.true_eq_false, reduceCtorEq, Decidable.not_not] at h)
    | (with_reducible first | refine HW_skip ?_ | refine HW_exit ?_ | refine HW_ret ?_ | refine HW_block ?_ | refine HW_label ?_ | refine HW_scope ?_)
    | (simp only [xthen, xblock, xscope, ↓reduceIte, Nat.reduceEqDiff])
    | (refine step0 (w41 _ _ (by omega)) rfl fun y hy => ?_; subst hy; refine ⟨by simp only [go_sem, reduceCtorEq], ?_⟩; simp -implicitDefEqProofs (maxSteps := 1000000) (disch := omega) only [go_sem, ↓bCs_slice, ↓els_slice, Int.reducePow, List.reduceReplicate, Int.reduceToNat, Int.reduceAdd, Int.reduceSub, Int.reduceLT, Int.reduceLE, Int.reduceMul, Int.reduceEq, Nat.reduceEqDiff, Nat.reduceLT, ↓reduceIte, Nat.reduceAdd, Nat.reduceSub, Nat.reduceMul, Nat.reduceLeDiff, reduceCtorEq])
    | go_step
    | ((with_reducible refine Fork.mk (fun h => ?_) (fun h => ?_)) <;> (try simp only [not_true_eq_false, not_false_eq_true, decide_eq_true_eq, decide_eq_false_iff_not, Int.not_lt, Int.not_le, Bool.not_eq_true', Bool.not_eq_false', Bool.and_eq_true, Bool.or_eq_true, Bool.not_eq_true, Bool.not_eq_false, Bool.not_true, Bool.not_false, Bool.false_eq_true, Bool.true_eq_false, reduceCtorEq, Decidable.not_not] at h) <;> (try simp -implicitDefEqProofs (maxSteps := 1000000) (disch := omega) only [go_sem, ↓bCs_slice, ↓els_slice, Int.reducePow, List.reduceReplicate, Int.reduceToNat, Int.reduceAdd, Int.reduceSub, Int.reduceLT, Int.reduceLE, Int.reduceMul, Int.reduceEq, Nat.reduceEqDiff, Nat.reduceLT, ↓reduceIte, Nat.reduceAdd, Nat.reduceSub, Nat.reduceMul, Nat.reduceLeDiff, reduceCtorEq]))
    | (with_reducible refine And.intro ?_ ?_)
    | (refine fun (h : (_ : Bool) = _) => ?_; try simp only [not_true_eq_false, not_false_eq_true, decide_eq_true_eq, decide_eq_false_iff_not, Int.not_lt, Int.not_le, Bool.not_eq_true', Bool.not_eq_false', Bool.and_eq_true, Bool.or_eq_true, Bool.not_eq_true, Bool.not_eq_false, Bool.not_true, Bool.not_false, Bool.false_eq_true, Bool.true_eq_false, reduceCtorEq, Decidable.not_not] at h)
    | omega
    | ((refine ⟨_, fun _ h => h, ?_⟩); simp -implicitDefEqProofs (maxSteps := 1000000) (disch := omega) only [go_sem, ↓bCs_slice, ↓els_slice, Int.reducePow, List.reduceReplicate, Int.reduceToNat, Int.reduceAdd, Int.reduceSub, Int.reduceLT, Int.reduceLE, Int.reduceMul, Int.reduceEq, Nat.reduceEqDiff, Nat.reduceLT, ↓reduceIte, Nat.reduceAdd, Nat.reduceSub, Nat.reduceMul, Nat.reduceLeDiff, reduceCtorEq])
def short (l : List ByteArray) : Prop := ∀ s ∈ l, s.size ≤ 1099511627776
theorem short_at {l : List ByteArray} (h : short l) (i : Nat) : (l.getD i default).size ≤ 1099511627776 := by
  rw [List.getD]
  cases hi : l[i]? with
  | none => decide
  | some s => exact h s (List.mem_of_getElem? hi)
theorem getD_at {α : Type} [Inhabited α] {l : List α} {i : Nat} (h : i < l.length) : l.getD i default = l[i] := by
  simp [List.getD, List.getElem?_eq_getElem h]
/-- slices.IndexFunc at that. -/
theorem w66 (n : Int) (l : List ByteArray) (hl : short l) (hn : l.length ≤ 1099511627776) : Fn Try.prog 66 [BB l, .func (.func 49) [.ref 0 0 0]] [⟨0, 0, .cells 3 [I n]⟩] (fun r t => t = [⟨0, 0, .cells 3 [I n]⟩] ∧ ∃ m : Int, r = I m ∧ decide (0 ≤ m) = !l.all (dataOk n)) := by
  refine fn_of Try.func66 rfl rfl (by show _ ≤ 19; simp) fun X hX hn hk => ?_
  rw [hk]
  repeat' first
    | ((with_reducible first | refine HW_seq_k fun _ _ => ?_ | refine HWr_succ ?_))
    | ((((with_reducible refine HW_region ?_ ?_); (focus (rw [hn]; rfl)))); simp -implicitDefEqProofs (maxSteps := 1000000) (disch := omega) only [go_sem, ↓bCs_slice, ↓els_slice, Int.reducePow, List.reduceReplicate, Int.reduceToNat, Int.reduceAdd, Int.reduceSub, Int.reduceLT, Int.reduceLE, Int.reduceMul, Int.reduceEq, Nat.reduceEqDiff, Nat.reduceLT, ↓reduceIte, Nat.reduceAdd, Nat.reduceSub, Nat.reduceMul, Nat.reduceLeDiff, reduceCtorEq])
    | (refine HW_cond (by rfl) (fun h => ?_) (fun h => ?_) <;> try simp only [not_true_eq_false, not_false_eq_true, decide_eq_true_eq, decide_eq_false_iff_not, Int.not_lt, Int.not_le, Bool.not_eq_true', Bool.not_eq_false', Bool.and_eq_true, Bool.or_eq_true, Bool.not_eq_true, Bool.not_eq_false, Bool.not_true, Bool.not_false, Bool.false_eq_true, Bool.true_eq_false, reduceCtorEq, Decidable.not_not] at h)
    | (with_reducible first | refine HW_skip ?_ | refine HW_exit ?_ | refine HW_ret ?_ | refine HW_block ?_ | refine HW_label ?_ | refine HW_scope ?_)
    | (simp only [xthen, xblock, xscope, ↓reduceIte, Nat.reduceEqDiff])
    | go_step
    | ((with_reducible refine Fork.mk (fun h => ?_) (fun h => ?_)) <;> (try simp only [not_true_eq_false, not_false_eq_true, decide_eq_true_eq, decide_eq_false_iff_not, Int.not_lt, Int.not_le, Bool.not_eq_true', Bool.not_eq_false', Bool.and_eq_true, Bool.or_eq_true, Bool.not_eq_true, Bool.not_eq_false, Bool.not_true, Bool.not_false, Bool.false_eq_true, Bool.true_eq_false, reduceCtorEq, Decidable.not_not] at h) <;> (try simp -implicitDefEqProofs (maxSteps := 1000000) (disch := omega) only [go_sem, ↓bCs_slice, ↓els_slice, Int.reducePow, List.reduceReplicate, Int.reduceToNat, Int.reduceAdd, Int.reduceSub, Int.reduceLT, Int.reduceLE, Int.reduceMul, Int.reduceEq, Nat.reduceEqDiff, Nat.reduceLT, ↓reduceIte, Nat.reduceAdd, Nat.reduceSub, Nat.reduceMul, Nat.reduceLeDiff, reduceCtorEq]))
    | (with_reducible refine And.intro ?_ ?_)
    | (refine fun (h : (_ : Bool) = _) => ?_; try simp only [not_true_eq_false, not_false_eq_true, decide_eq_true_eq, decide_eq_false_iff_not, Int.not_lt, Int.not_le, Bool.not_eq_true', Bool.not_eq_false', Bool.and_eq_true, Bool.or_eq_true, Bool.not_eq_true, Bool.not_eq_false, Bool.not_true, Bool.not_false, Bool.false_eq_true, Bool.true_eq_false, reduceCtorEq, Decidable.not_not] at h)
    | omega
    | ((refine ⟨_, fun _ h => h, ?_⟩); simp -implicitDefEqProofs (maxSteps := 1000000) (disch := omega) only [go_sem, ↓bCs_slice, ↓els_slice, Int.reducePow, List.reduceReplicate, Int.reduceToNat, Int.reduceAdd, Int.reduceSub, Int.reduceLT, Int.reduceLE, Int.reduceMul, Int.reduceEq, Nat.reduceEqDiff, Nat.reduceLT, ↓reduceIte, Nat.reduceAdd, Nat.reduceSub, Nat.reduceMul, Nat.reduceLeDiff, reduceCtorEq])
  refine HW_loopk [8, 7, 1, 0] (fun n' e t => ∃ i : Nat, n' = l.length - i ∧ i ≤ l.length ∧ e = [(8, I i), (7, I l.length), (1, .func (.func 49) [.ref 0 0 0]), (0, BB l)] ∧ t = [⟨0, 0, .cells 3 [I n]⟩] ∧ (l.take i).all (dataOk n) = true) l.length ⟨0, rfl, by omega, rfl, rfl, by simp⟩ ?_
  rintro n' e t ⟨i, rfl, hi, rfl, rfl, hw⟩
  repeat' first
    | ((with_reducible first | refine HW_seq_k fun _ _ => ?_ | refine HWr_succ ?_))
    | ((((with_reducible refine HW_region ?_ ?_); (focus (rw [hn]; rfl)))); simp -implicitDefEqProofs (maxSteps := 1000000) (disch := omega) only [go_sem, ↓bCs_slice, ↓els_slice, Int.reducePow, List.reduceReplicate, Int.reduceToNat, Int.reduceAdd, Int.reduceSub, Int.reduceLT, Int.reduceLE, Int.reduceMul, Int.reduceEq, Nat.reduceEqDiff, Nat.reduceLT, ↓reduceIte, Nat.reduceAdd, Nat.reduceSub, Nat.reduceMul, Nat.reduceLeDiff, reduceCtorEq])
    | (refine HW_cond (by rfl) (fun h => ?_) (fun h => ?_) <;> try simp only [not_true_eq_false, not_false_eq_true, decide_eq_true_eq, decide_eq_false_iff_not, Int.not_lt, Int.not_le, Bool.not_eq_true', Bool.not_eq_false', Bool.and_eq_true, Bool.or_eq_true, Bool.not_eq_true, Bool.not_eq_false, Bool.not_true, Bool.not_false, Bool.false_eq_true, Bool.true_eq_false, reduceCtorEq, Decidable.not_not] at h)
    | (with_reducible first | refine HW_skip ?_ | refine HW_exit ?_ | refine HW_ret ?_ | refine HW_block ?_ | refine HW_label ?_ | refine HW_scope ?_)
    | (simp only [xthen, xblock, xscope, ↓reduceIte, Nat.reduceEqDiff])
    | (refine step1 [(0, 0)] 100 (w49 n _ (short_at hl i)) ⟨rfl, rfl, rfl, trivial⟩ rfl rfl fun r t1 ⟨ht, hr⟩ => ?_; subst ht; subst hr; refine ⟨by simp [go_sem], ?_⟩; simp -implicitDefEqProofs (maxSteps := 1000000) (disch := omega) only [go_sem, ↓bCs_slice, ↓els_slice, Int.reducePow, List.reduceReplicate, Int.reduceToNat, Int.reduceAdd, Int.reduceSub, Int.reduceLT, Int.reduceLE, Int.reduceMul, Int.reduceEq, Nat.reduceEqDiff, Nat.reduceLT, ↓reduceIte, Nat.reduceAdd, Nat.reduceSub, Nat.reduceMul, Nat.reduceLeDiff, reduceCtorEq])
    | go_step
    | ((with_reducible refine Fork.mk (fun h => ?_) (fun h => ?_)) <;> (try simp only [not_true_eq_false, not_false_eq_true, decide_eq_true_eq, decide_eq_false_iff_not, Int.not_lt, Int.not_le, Bool.not_eq_true', Bool.not_eq_false', Bool.and_eq_true, Bool.or_eq_true, Bool.not_eq_true, Bool.not_eq_false, Bool.not_true, Bool.not_false, Bool.false_eq_true, Bool.true_eq_false, reduceCtorEq, Decidable.not_not] at h) <;> (try simp -implicitDefEqProofs (maxSteps := 1000000) (disch := omega) only [go_sem, ↓bCs_slice, ↓els_slice, Int.reducePow, List.reduceReplicate, Int.reduceToNat, Int.reduceAdd, Int.reduceSub, Int.reduceLT, Int.reduceLE, Int.reduceMul, Int.reduceEq, Nat.reduceEqDiff, Nat.reduceLT, ↓reduceIte, Nat.reduceAdd, Nat.reduceSub, Nat.reduceMul, Nat.reduceLeDiff, reduceCtorEq]))
    | (with_reducible refine And.intro ?_ ?_)
    | (refine fun (h : (_ : Bool) = _) => ?_; try simp only [not_true_eq_false, not_false_eq_true, decide_eq_true_eq, decide_eq_false_iff_not, Int.not_lt, Int.not_le, Bool.not_eq_true', Bool.not_eq_false', Bool.and_eq_true, Bool.or_eq_true, Bool.not_eq_true, Bool.not_eq_false, Bool.not_true, Bool.not_false, Bool.false_eq_true, Bool.true_eq_false, reduceCtorEq, Decidable.not_not] at h)
    | omega
    | ((refine ⟨_, fun _ h => h, ?_⟩); simp -implicitDefEqProofs (maxSteps := 1000000) (disch := omega) only [go_sem, ↓bCs_slice, ↓els_slice, Int.reducePow, List.reduceReplicate, Int.reduceToNat, Int.reduceAdd, Int.reduceSub, Int.reduceLT, Int.reduceLE, Int.reduceMul, Int.reduceEq, Nat.reduceEqDiff, Nat.reduceLT, ↓reduceIte, Nat.reduceAdd, Nat.reduceSub, Nat.reduceMul, Nat.reduceLeDiff, reduceCtorEq])
  · have hf : dataOk n (l.getD i default) = false := by assumption
    refine ⟨i, rfl, ?_⟩
    rw [decide_eq_true (by omega), show l.all (dataOk n) = false from ?_]
    · rfl
    · rw [List.all_eq_false]
      exact ⟨l.getD i default, by rw [getD_at (by omega)]; exact List.getElem_mem _, by rw [hf]; exact Bool.false_ne_true⟩
  · have ht : dataOk n (l.getD i default) = true := by assumption
    refine ⟨l.length - (i + 1), by omega, i + 1, rfl, by omega, rfl, ?_⟩
    rw [List.take_succ_eq_append_getElem (by omega), List.all_append, hw, ← getD_at (by omega)]
    simp only [List.all_cons, ht, List.all_nil, Bool.and_self]
  · refine ⟨-1, rfl, ?_⟩
    rw [show l.all (dataOk n) = true from by rw [List.take_of_length_le (by omega)] at hw; exact hw]
    rfl
/-- slices.ContainsFunc at that. -/
theorem w48 (n : Int) (l : List ByteArray) (hl : short l) (hn : l.length ≤ 1099511627776) : Fn Try.prog 48 [BB l, .func (.func 49) [.ref 0 0 0]] [⟨0, 0, .cells 3 [I n]⟩] (fun r t => t = [⟨0, 0, .cells 3 [I n]⟩] ∧ r = .val (.bool (!l.all (dataOk n)))) := by
  refine fn_of Try.func48 rfl rfl (by show _ ≤ 9; simp) fun X hX hn hk => ?_
  rw [hk]
  repeat' first
    | ((with_reducible first | refine HW_seq_k fun _ _ => ?_ | refine HWr_succ ?_))
    | ((((with_reducible refine HW_region ?_ ?_); (focus (rw [hn]; rfl)))); simp -implicitDefEqProofs (maxSteps := 1000000) (disch := omega) only [go_sem, ↓bCs_slice, ↓els_slice, Int.reducePow, List.reduceReplicate, Int.reduceToNat, Int.reduceAdd, Int.reduceSub, Int.reduceLT, Int.reduceLE, Int.reduceMul, Int.reduceEq, Nat.reduceEqDiff, Nat.reduceLT, ↓reduceIte, Nat.reduceAdd, Nat.reduceSub, Nat.reduceMul, Nat.reduceLeDiff, reduceCtorEq])
    | (refine HW_cond (by rfl) (fun h => ?_) (fun h => ?_) <;> try simp only [not_true_eq_false, not_false_eq_true, decide_eq_true_eq, decide_eq_false_iff_not, Int.not_lt, Int.not_le, Bool.not_eq_true', Bool.not_eq_false', Bool.and_eq_true, Bool.or_eq_true, Bool.not_eq_true, Bool.not_eq_false, Bool.not_true, Bool.not_false, Bool.false_eq_true, Bool.true_eq_false, reduceCtorEq, Decidable.not_not] at h)
    | (with_reducible first | refine HW_skip ?_ | refine HW_exit ?_ | refine HW_ret ?_ | refine HW_block ?_ | refine HW_label ?_ | refine HW_scope ?_)
    | (simp only [xthen, xblock, xscope, ↓reduceIte, Nat.reduceEqDiff])
    | go_step
    | ((with_reducible refine Fork.mk (fun h => ?_) (fun h => ?_)) <;> (try simp only [not_true_eq_false, not_false_eq_true, decide_eq_true_eq, decide_eq_false_iff_not, Int.not_lt, Int.not_le, Bool.not_eq_true', Bool.not_eq_false', Bool.and_eq_true, Bool.or_eq_true, Bool.not_eq_true, Bool.not_eq_false, Bool.not_true, Bool.not_false, Bool.false_eq_true, Bool.true_eq_false, reduceCtorEq, Decidable.not_not] at h) <;> (try simp -implicitDefEqProofs (maxSteps := 1000000) (disch := omega) only [go_sem, ↓bCs_slice, ↓els_slice, Int.reducePow, List.reduceReplicate, Int.reduceToNat, Int.reduceAdd, Int.reduceSub, Int.reduceLT, Int.reduceLE, Int.reduceMul, Int.reduceEq, Nat.reduceEqDiff, Nat.reduceLT, ↓reduceIte, Nat.reduceAdd, Nat.reduceSub, Nat.reduceMul, Nat.reduceLeDiff, reduceCtorEq]))
    | (with_reducible refine And.intro ?_ ?_)
    | (refine fun (h : (_ : Bool) = _) => ?_; try simp only [not_true_eq_false, not_false_eq_true, decide_eq_true_eq, decide_eq_false_iff_not, Int.not_lt, Int.not_le, Bool.not_eq_true', Bool.not_eq_false', Bool.and_eq_true, Bool.or_eq_true, Bool.not_eq_true, Bool.not_eq_false, Bool.not_true, Bool.not_false, Bool.false_eq_true, Bool.true_eq_false, reduceCtorEq, Decidable.not_not] at h)
    | omega
    | ((refine ⟨_, fun _ h => h, ?_⟩); simp -implicitDefEqProofs (maxSteps := 1000000) (disch := omega) only [go_sem, ↓bCs_slice, ↓els_slice, Int.reducePow, List.reduceReplicate, Int.reduceToNat, Int.reduceAdd, Int.reduceSub, Int.reduceLT, Int.reduceLE, Int.reduceMul, Int.reduceEq, Nat.reduceEqDiff, Nat.reduceLT, ↓reduceIte, Nat.reduceAdd, Nat.reduceSub, Nat.reduceMul, Nat.reduceLeDiff, reduceCtorEq])
  refine step1 [(0, 0)] 100 (w66 n l hl (by assumption)) ⟨rfl, rfl, rfl, trivial⟩ rfl rfl fun r t1 ⟨ht, m, hr, hm⟩ => ?_
  subst ht; subst hr
  refine ⟨by simp [go_sem], ?_⟩
  simp -implicitDefEqProofs (maxSteps := 1000000) (disch := omega) only [go_sem, ↓bCs_slice, ↓els_slice, Int.reducePow, List.reduceReplicate, Int.reduceToNat, Int.reduceAdd, Int.reduceSub, Int.reduceLT, Int.reduceLE, Int.reduceMul, Int.reduceEq, Nat.reduceEqDiff, Nat.reduceLT, ↓reduceIte, Nat.reduceAdd, Nat.reduceSub, Nat.reduceMul, Nat.reduceLeDiff, reduceCtorEq]
  repeat' first
    | ((with_reducible first | refine HW_seq_k fun _ _ => ?_ | refine HWr_succ ?_))
    | ((((with_reducible refine HW_region ?_ ?_); (focus (rw [hn]; rfl)))); simp -implicitDefEqProofs (maxSteps := 1000000) (disch := omega) only [go_sem, ↓bCs_slice, ↓els_slice, Int.reducePow, List.reduceReplicate, Int.reduceToNat, Int.reduceAdd, Int.reduceSub, Int.reduceLT, Int.reduceLE, Int.reduceMul, Int.reduceEq, Nat.reduceEqDiff, Nat.reduceLT, ↓reduceIte, Nat.reduceAdd, Nat.reduceSub, Nat.reduceMul, Nat.reduceLeDiff, reduceCtorEq])
    | (refine HW_cond (by rfl) (fun h => ?_) (fun h => ?_) <;> try simp only [not_true_eq_false, not_false_eq_true, decide_eq_true_eq, decide_eq_false_iff_not, Int.not_lt, Int.not_le, Bool.not_eq_true', Bool.not_eq_false', Bool.and_eq_true, Bool.or_eq_true, Bool.not_eq_true, Bool.not_eq_false, Bool.not_true, Bool.not_false, Bool.false_eq_true, Bool.true_eq_false, reduceCtorEq, Decidable.not_not] at h)
    | (with_reducible first | refine HW_skip ?_ | refine HW_exit ?_ | refine HW_ret ?_ | refine HW_block ?_ | refine HW_label ?_ | refine HW_scope ?_)
    | (simp only [xthen, xblock, xscope, ↓reduceIte, Nat.reduceEqDiff])
    | go_step
    | ((with_reducible refine Fork.mk (fun h => ?_) (fun h => ?_)) <;> (try simp only [not_true_eq_false, not_false_eq_true, decide_eq_true_eq, decide_eq_false_iff_not, Int.not_lt, Int.not_le, Bool.not_eq_true', Bool.not_eq_false', Bool.and_eq_true, Bool.or_eq_true, Bool.not_eq_true, Bool.not_eq_false, Bool.not_true, Bool.not_false, Bool.false_eq_true, Bool.true_eq_false, reduceCtorEq, Decidable.not_not] at h) <;> (try simp -implicitDefEqProofs (maxSteps := 1000000) (disch := omega) only [go_sem, ↓bCs_slice, ↓els_slice, Int.reducePow, List.reduceReplicate, Int.reduceToNat, Int.reduceAdd, Int.reduceSub, Int.reduceLT, Int.reduceLE, Int.reduceMul, Int.reduceEq, Nat.reduceEqDiff, Nat.reduceLT, ↓reduceIte, Nat.reduceAdd, Nat.reduceSub, Nat.reduceMul, Nat.reduceLeDiff, reduceCtorEq]))
    | (with_reducible refine And.intro ?_ ?_)
    | (refine fun (h : (_ : Bool) = _) => ?_; try simp only [not_true_eq_false, not_false_eq_true, decide_eq_true_eq, decide_eq_false_iff_not, Int.not_lt, Int.not_le, Bool.not_eq_true', Bool.not_eq_false', Bool.and_eq_true, Bool.or_eq_true, Bool.not_eq_true, Bool.not_eq_false, Bool.not_true, Bool.not_false, Bool.false_eq_true, Bool.true_eq_false, reduceCtorEq, Decidable.not_not] at h)
    | omega
    | ((refine ⟨_, fun _ h => h, ?_⟩); simp -implicitDefEqProofs (maxSteps := 1000000) (disch := omega) only [go_sem, ↓bCs_slice, ↓els_slice, Int.reducePow, List.reduceReplicate, Int.reduceToNat, Int.reduceAdd, Int.reduceSub, Int.reduceLT, Int.reduceLE, Int.reduceMul, Int.reduceEq, Nat.reduceEqDiff, Nat.reduceLT, ↓reduceIte, Nat.reduceAdd, Nat.reduceSub, Nat.reduceMul, Nat.reduceLeDiff, reduceCtorEq])
  rw [hm]
end Go.Proofs.Ytoblmpfcjeammaa.V
