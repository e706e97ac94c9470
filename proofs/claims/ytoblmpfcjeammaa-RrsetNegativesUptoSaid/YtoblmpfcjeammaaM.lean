/-
  Which sets can be kept, by the program's own code.
-/
import Derived.Test.YtoblmpfcjeammaaL
set_option linter.unusedVariables false
set_option linter.unusedSimpArgs false
set_option maxHeartbeats 4000000
namespace Go.Proofs.Ytoblmpfcjeammaa.V
open Go.RowKit Go.Proofs
attribute [local irreducible] HW Fn acall
/-- entry.Can -/
theorem w27 (s : SetD) (h1 : short s.ds) (h4 : s.ds.length ≤ 1099511627) (h5 : sumD s.ds ≤ 1099511627776) : Fn Try.prog 27 [.agg (setL s)] [] (fun r t => t = [] ∧ r = .val (.bool (setOk s))) := by
  refine fn_of Try.func27 rfl rfl (by show _ ≤ 107; simp) fun X hX hn hk => ?_
  rw [hk]
  repeat' first
    | ((with_reducible first | refine HW_seq_k fun _ _ => ?_ | refine HWr_succ ?_))
    | ((((with_reducible refine HW_region ?_ ?_); (focus (rw [hn]; rfl)))); simp -implicitDefEqProofs (maxSteps := 1000000) (disch := omega) only [go_sem, ↓bCs_slice, ↓els_slice, Int.reducePow, List.reduceReplicate, Int.reduceToNat, Int.reduceAdd, Int.reduceSub, Int.reduceLT, Int.reduceLE, Int.reduceMul, Int.reduceEq, Nat.reduceEqDiff, Nat.reduceLT, ↓reduceIte, Nat.reduceAdd, Nat.reduceSub, Nat.reduceMul, Nat.reduceLeDiff, reduceCtorEq])
    | (refine HW_cond (by rfl) (fun h => ?_) (fun h => ?_) <;> try simp only [not_true_eq_false, not_false_eq_true, decide_eq_true_eq, decide_eq_false_iff_not, Int.not_lt, Int.not_le, Bool.not_eq_true', Bool.not_eq_false', Bool.and_eq_true, Bool.or_eq_true, Bool.not_eq_true, Bool.not_eq_false, Bool.not_true, Bool.not_false, Bool.false_eq_true, Bool.true_eq_false, reduceCtorEq, Decidable.not_not] at h)
    | (with_reducible first | refine HW_skip ?_ | refine HW_exit ?_ | refine HW_ret ?_ | refine HW_block ?_ | refine HW_label ?_ | refine HW_scope ?_)
    | (simp only [xthen, xblock, xscope, ↓reduceIte, Nat.reduceEqDiff])
    | (refine step0 (w47 _) rfl fun y hy => ?_; subst hy; refine ⟨by simp only [go_sem, reduceCtorEq], ?_⟩; simp -implicitDefEqProofs (maxSteps := 1000000) (disch := omega) only [go_sem, ↓bCs_slice, ↓els_slice, Int.reducePow, List.reduceReplicate, Int.reduceToNat, Int.reduceAdd, Int.reduceSub, Int.reduceLT, Int.reduceLE, Int.reduceMul, Int.reduceEq, Nat.reduceEqDiff, Nat.reduceLT, ↓reduceIte, Nat.reduceAdd, Nat.reduceSub, Nat.reduceMul, Nat.reduceLeDiff, reduceCtorEq])
    | (refine step0 (w40 _) rfl fun y hy => ?_; subst hy; refine ⟨by simp only [go_sem, reduceCtorEq], ?_⟩; simp -implicitDefEqProofs (maxSteps := 1000000) (disch := omega) only [go_sem, ↓bCs_slice, ↓els_slice, Int.reducePow, List.reduceReplicate, Int.reduceToNat, Int.reduceAdd, Int.reduceSub, Int.reduceLT, Int.reduceLE, Int.reduceMul, Int.reduceEq, Nat.reduceEqDiff, Nat.reduceLT, ↓reduceIte, Nat.reduceAdd, Nat.reduceSub, Nat.reduceMul, Nat.reduceLeDiff, reduceCtorEq])
    | go_step
    | ((with_reducible refine Fork.mk (fun h => ?_) (fun h => ?_)) <;> (try simp only [not_true_eq_false, not_false_eq_true, decide_eq_true_eq, decide_eq_false_iff_not, Int.not_lt, Int.not_le, Bool.not_eq_true', Bool.not_eq_false', Bool.and_eq_true, Bool.or_eq_true, Bool.not_eq_true, Bool.not_eq_false, Bool.not_true, Bool.not_false, Bool.false_eq_true, Bool.true_eq_false, reduceCtorEq, Decidable.not_not] at h) <;> (try simp -implicitDefEqProofs (maxSteps := 1000000) (disch := omega) only [go_sem, ↓bCs_slice, ↓els_slice, Int.reducePow, List.reduceReplicate, Int.reduceToNat, Int.reduceAdd, Int.reduceSub, Int.reduceLT, Int.reduceLE, Int.reduceMul, Int.reduceEq, Nat.reduceEqDiff, Nat.reduceLT, ↓reduceIte, Nat.reduceAdd, Nat.reduceSub, Nat.reduceMul, Nat.reduceLeDiff, reduceCtorEq]))
    | (with_reducible refine And.intro ?_ ?_)
    | (refine fun (h : (_ : Bool) = _) => ?_; try simp only [not_true_eq_false, not_false_eq_true, decide_eq_true_eq, decide_eq_false_iff_not, Int.not_lt, Int.not_le, Bool.not_eq_true', Bool.not_eq_false', Bool.and_eq_true, Bool.or_eq_true, Bool.not_eq_true, Bool.not_eq_false, Bool.not_true, Bool.not_false, Bool.false_eq_true, Bool.true_eq_false, reduceCtorEq, Decidable.not_not] at h)
    | omega
    | ((refine ⟨_, fun _ h => h, ?_⟩); simp -implicitDefEqProofs (maxSteps := 1000000) (disch := omega) only [go_sem, ↓bCs_slice, ↓els_slice, Int.reducePow, List.reduceReplicate, Int.reduceToNat, Int.reduceAdd, Int.reduceSub, Int.reduceLT, Int.reduceLE, Int.reduceMul, Int.reduceEq, Nat.reduceEqDiff, Nat.reduceLT, ↓reduceIte, Nat.reduceAdd, Nat.reduceSub, Nat.reduceMul, Nat.reduceLeDiff, reduceCtorEq])
  all_goals first
    | (refine congrArg (fun b => AV.val (Value.bool b)) ?_
       simp only [setOk]
       simp_all
       try omega
       done)
    | skip
  have hty0 : 0 ≤ s.ty := by
    have hk : keyOk s = true := by assumption
    simp only [keyOk, shortB, Bool.and_eq_true, decide_eq_true_eq] at hk
    exact hk.1.2.1
  have hR : restOk s := ⟨by assumption, by assumption, by assumption, by assumption, by assumption⟩
  refine HW_loopk [33, 32, 31, 3, 1] (fun n e t => ∃ i : Nat, n = s.ds.length - i ∧ i ≤ s.ds.length ∧ e = [(33, I i), (32, I s.ds.length), (31, BB s.ds), (3, I (sumD (s.ds.take i))), (1, .ref 1 0 0)] ∧ t = [⟨1, 0, .cells 29 (setL s)⟩]) s.ds.length ⟨0, rfl, by omega, rfl, rfl⟩ ?_
  rintro n e t ⟨i, rfl, hi, rfl, rfl⟩
  have hst := sumD_take s.ds i
  repeat' first
    | ((with_reducible first | refine HW_seq_k fun _ _ => ?_ | refine HWr_succ ?_))
    | ((((with_reducible refine HW_region ?_ ?_); (focus (rw [hn]; rfl)))); simp -implicitDefEqProofs (maxSteps := 1000000) (disch := omega) only [go_sem, ↓bCs_slice, ↓els_slice, Int.reducePow, List.reduceReplicate, Int.reduceToNat, Int.reduceAdd, Int.reduceSub, Int.reduceLT, Int.reduceLE, Int.reduceMul, Int.reduceEq, Nat.reduceEqDiff, Nat.reduceLT, ↓reduceIte, Nat.reduceAdd, Nat.reduceSub, Nat.reduceMul, Nat.reduceLeDiff, reduceCtorEq])
    | (refine HW_cond (by rfl) (fun h => ?_) (fun h => ?_) <;> try simp only [not_true_eq_false, not_false_eq_true, decide_eq_true_eq, decide_eq_false_iff_not, Int.not_lt, Int.not_le, Bool.not_eq_true', Bool.not_eq_false', Bool.and_eq_true, Bool.or_eq_true, Bool.not_eq_true, Bool.not_eq_false, Bool.not_true, Bool.not_false, Bool.false_eq_true, Bool.true_eq_false, reduceCtorEq, Decidable.not_not] at h)
    | (with_reducible first | refine HW_skip ?_ | refine HW_exit ?_ | refine HW_ret ?_ | refine HW_block ?_ | refine HW_label ?_ | refine HW_scope ?_)
    | (simp only [xthen, xblock, xscope, ↓reduceIte, Nat.reduceEqDiff])
    | (refine step1 [(6, 0)] 200 (w48 6 s.ds h1 (by omega)) ⟨rfl, rfl, rfl, trivial⟩ rfl rfl fun r t1 ⟨ht, hr⟩ => ?_; subst ht; subst hr; refine ⟨by simp [go_sem], ?_⟩; simp -implicitDefEqProofs (maxSteps := 1000000) (disch := omega) only [go_sem, ↓bCs_slice, ↓els_slice, Int.reducePow, List.reduceReplicate, Int.reduceToNat, Int.reduceAdd, Int.reduceSub, Int.reduceLT, Int.reduceLE, Int.reduceMul, Int.reduceEq, Nat.reduceEqDiff, Nat.reduceLT, ↓reduceIte, Nat.reduceAdd, Nat.reduceSub, Nat.reduceMul, Nat.reduceLeDiff, reduceCtorEq])
    | (refine step1 [(6, 0)] 200 (w48 s.ty s.ds h1 (by omega)) ⟨rfl, rfl, rfl, trivial⟩ rfl rfl fun r t1 ⟨ht, hr⟩ => ?_; subst ht; subst hr; refine ⟨by simp [go_sem], ?_⟩; simp -implicitDefEqProofs (maxSteps := 1000000) (disch := omega) only [go_sem, ↓bCs_slice, ↓els_slice, Int.reducePow, List.reduceReplicate, Int.reduceToNat, Int.reduceAdd, Int.reduceSub, Int.reduceLT, Int.reduceLE, Int.reduceMul, Int.reduceEq, Nat.reduceEqDiff, Nat.reduceLT, ↓reduceIte, Nat.reduceAdd, Nat.reduceSub, Nat.reduceMul, Nat.reduceLeDiff, reduceCtorEq])
    | (refine step0 (w40 _) rfl fun y hy => ?_; subst hy; refine ⟨by simp only [go_sem, reduceCtorEq], ?_⟩; simp -implicitDefEqProofs (maxSteps := 1000000) (disch := omega) only [go_sem, ↓bCs_slice, ↓els_slice, Int.reducePow, List.reduceReplicate, Int.reduceToNat, Int.reduceAdd, Int.reduceSub, Int.reduceLT, Int.reduceLE, Int.reduceMul, Int.reduceEq, Nat.reduceEqDiff, Nat.reduceLT, ↓reduceIte, Nat.reduceAdd, Nat.reduceSub, Nat.reduceMul, Nat.reduceLeDiff, reduceCtorEq])
    | go_step
    | ((with_reducible refine Fork.mk (fun h => ?_) (fun h => ?_)) <;> (try simp only [not_true_eq_false, not_false_eq_true, decide_eq_true_eq, decide_eq_false_iff_not, Int.not_lt, Int.not_le, Bool.not_eq_true', Bool.not_eq_false', Bool.and_eq_true, Bool.or_eq_true, Bool.not_eq_true, Bool.not_eq_false, Bool.not_true, Bool.not_false, Bool.false_eq_true, Bool.true_eq_false, reduceCtorEq, Decidable.not_not] at h) <;> (try simp -implicitDefEqProofs (maxSteps := 1000000) (disch := omega) only [go_sem, ↓bCs_slice, ↓els_slice, Int.reducePow, List.reduceReplicate, Int.reduceToNat, Int.reduceAdd, Int.reduceSub, Int.reduceLT, Int.reduceLE, Int.reduceMul, Int.reduceEq, Nat.reduceEqDiff, Nat.reduceLT, ↓reduceIte, Nat.reduceAdd, Nat.reduceSub, Nat.reduceMul, Nat.reduceLeDiff, reduceCtorEq]))
    | (with_reducible refine And.intro ?_ ?_)
    | (refine fun (h : (_ : Bool) = _) => ?_; try simp only [not_true_eq_false, not_false_eq_true, decide_eq_true_eq, decide_eq_false_iff_not, Int.not_lt, Int.not_le, Bool.not_eq_true', Bool.not_eq_false', Bool.and_eq_true, Bool.or_eq_true, Bool.not_eq_true, Bool.not_eq_false, Bool.not_true, Bool.not_false, Bool.false_eq_true, Bool.true_eq_false, reduceCtorEq, Decidable.not_not] at h)
    | omega
    | ((refine ⟨_, fun _ h => h, ?_⟩); simp -implicitDefEqProofs (maxSteps := 1000000) (disch := omega) only [go_sem, ↓bCs_slice, ↓els_slice, Int.reducePow, List.reduceReplicate, Int.reduceToNat, Int.reduceAdd, Int.reduceSub, Int.reduceLT, Int.reduceLE, Int.reduceMul, Int.reduceEq, Nat.reduceEqDiff, Nat.reduceLT, ↓reduceIte, Nat.reduceAdd, Nat.reduceSub, Nat.reduceMul, Nat.reduceLeDiff, reduceCtorEq])
  all_goals first
    | (have hlt : i < s.ds.length := by omega
       have hss := sumD_snoc hlt
       have hst2 := sumD_take s.ds (i + 1)
       rw [w64 (2 + _) (by omega), w64 _ (by omega), show ((sumD (List.take i s.ds) : Int) + (2 + ((s.ds.getD i default).size : Int))) = (sumD (s.ds.take (i + 1)) : Nat) by omega]
       exact ⟨_, by omega, i + 1, rfl, by omega, rfl⟩)
    | (have hA := sumD_all (i := i) (l := s.ds) (by omega)
       first
         | exact vb_eq (setOk_big (by simp only [sizeD]; omega))
         | (have hkd : s.kd = 0 := by assumption
            have hzn : s.zn = ⟨#[]⟩ := by assumption
            have hD : s.ds.all (dataOk s.ty) = true := by assumption
            have hne : s.ds ≠ [] := fun e => by
              have : s.ds.length = 0 := by rw [e]; rfl
              omega
            have hN : nameOk s.name = true := by
              have := hR.1
              simp only [keyOk, Bool.and_eq_true] at this
              exact this.1.1
            have hsum := sumD_ge s.ds
            refine step0 (w50 s (by have := nameOk_size hN; omega) (by rw [hzn]; decide) (by omega) (by omega)) rfl fun y ⟨q, hq, hy⟩ => ?_
            subst hy
            refine ⟨trivial, ?_⟩
            simp -implicitDefEqProofs (maxSteps := 1000000) (disch := omega) only [go_sem, ↓bCs_slice, ↓els_slice, Int.reducePow, List.reduceReplicate, Int.reduceToNat, Int.reduceAdd, Int.reduceSub, Int.reduceLT, Int.reduceLE, Int.reduceMul, Int.reduceEq, Nat.reduceEqDiff, Nat.reduceLT, ↓reduceIte, Nat.reduceAdd, Nat.reduceSub, Nat.reduceMul, Nat.reduceLeDiff, reduceCtorEq]
            repeat' first
              | ((with_reducible first | refine HW_seq_k fun _ _ => ?_ | refine HWr_succ ?_))
              | ((((with_reducible refine HW_region ?_ ?_); (focus (rw [hn]; rfl)))); simp -implicitDefEqProofs (maxSteps := 1000000) (disch := omega) only [go_sem, ↓bCs_slice, ↓els_slice, Int.reducePow, List.reduceReplicate, Int.reduceToNat, Int.reduceAdd, Int.reduceSub, Int.reduceLT, Int.reduceLE, Int.reduceMul, Int.reduceEq, Nat.reduceEqDiff, Nat.reduceLT, ↓reduceIte, Nat.reduceAdd, Nat.reduceSub, Nat.reduceMul, Nat.reduceLeDiff, reduceCtorEq])
              | (refine HW_cond (by rfl) (fun h => ?_) (fun h => ?_) <;> try simp only [not_true_eq_false, not_false_eq_true, decide_eq_true_eq, decide_eq_false_iff_not, Int.not_lt, Int.not_le, Bool.not_eq_true', Bool.not_eq_false', Bool.and_eq_true, Bool.or_eq_true, Bool.not_eq_true, Bool.not_eq_false, Bool.not_true, Bool.not_false, Bool.false_eq_true, Bool.true_eq_false, reduceCtorEq, Decidable.not_not] at h)
              | (with_reducible first | refine HW_skip ?_ | refine HW_exit ?_ | refine HW_ret ?_ | refine HW_block ?_ | refine HW_label ?_ | refine HW_scope ?_)
              | (simp only [xthen, xblock, xscope, ↓reduceIte, Nat.reduceEqDiff])
              | go_step
              | ((with_reducible refine Fork.mk (fun h => ?_) (fun h => ?_)) <;> (try simp only [not_true_eq_false, not_false_eq_true, decide_eq_true_eq, decide_eq_false_iff_not, Int.not_lt, Int.not_le, Bool.not_eq_true', Bool.not_eq_false', Bool.and_eq_true, Bool.or_eq_true, Bool.not_eq_true, Bool.not_eq_false, Bool.not_true, Bool.not_false, Bool.false_eq_true, Bool.true_eq_false, reduceCtorEq, Decidable.not_not] at h) <;> (try simp -implicitDefEqProofs (maxSteps := 1000000) (disch := omega) only [go_sem, ↓bCs_slice, ↓els_slice, Int.reducePow, List.reduceReplicate, Int.reduceToNat, Int.reduceAdd, Int.reduceSub, Int.reduceLT, Int.reduceLE, Int.reduceMul, Int.reduceEq, Nat.reduceEqDiff, Nat.reduceLT, ↓reduceIte, Nat.reduceAdd, Nat.reduceSub, Nat.reduceMul, Nat.reduceLeDiff, reduceCtorEq]))
              | (with_reducible refine And.intro ?_ ?_)
              | (refine fun (h : (_ : Bool) = _) => ?_; try simp only [not_true_eq_false, not_false_eq_true, decide_eq_true_eq, decide_eq_false_iff_not, Int.not_lt, Int.not_le, Bool.not_eq_true', Bool.not_eq_false', Bool.and_eq_true, Bool.or_eq_true, Bool.not_eq_true, Bool.not_eq_false, Bool.not_true, Bool.not_false, Bool.false_eq_true, Bool.true_eq_false, reduceCtorEq, Decidable.not_not] at h)
              | omega
              | ((refine ⟨_, fun _ h => h, ?_⟩); simp -implicitDefEqProofs (maxSteps := 1000000) (disch := omega) only [go_sem, ↓bCs_slice, ↓els_slice, Int.reducePow, List.reduceReplicate, Int.reduceToNat, Int.reduceAdd, Int.reduceSub, Int.reduceLT, Int.reduceLE, Int.reduceMul, Int.reduceEq, Nat.reduceEqDiff, Nat.reduceLT, ↓reduceIte, Nat.reduceAdd, Nat.reduceSub, Nat.reduceMul, Nat.reduceLeDiff, reduceCtorEq])
            refine vb_eq ?_
            rw [setOk_0 hR hkd hzn hne (by omega), hD, Bool.and_true, hq, decide_eq_decide]
            omega)
         | (have hz : nameOk s.zn = true := by assumption
            have hD : s.ds.all (dataOk 6) = true := by assumption
            have hl : s.ds.length = 1 := by omega
            have hb : (decide (s.ty = 0) == decide (s.kd = 2)) = true := by assumption
            have hN : nameOk s.name = true := by
              have := hR.1
              simp only [keyOk, Bool.and_eq_true] at this
              exact this.1.1
            refine step0 (w50 s (by have := nameOk_size hN; omega) (by have := nameOk_size hz; omega) (by omega) (by omega)) rfl fun y ⟨q, hq, hy⟩ => ?_
            subst hy
            refine ⟨trivial, ?_⟩
            simp -implicitDefEqProofs (maxSteps := 1000000) (disch := omega) only [go_sem, ↓bCs_slice, ↓els_slice, Int.reducePow, List.reduceReplicate, Int.reduceToNat, Int.reduceAdd, Int.reduceSub, Int.reduceLT, Int.reduceLE, Int.reduceMul, Int.reduceEq, Nat.reduceEqDiff, Nat.reduceLT, ↓reduceIte, Nat.reduceAdd, Nat.reduceSub, Nat.reduceMul, Nat.reduceLeDiff, reduceCtorEq]
            repeat' first
              | ((with_reducible first | refine HW_seq_k fun _ _ => ?_ | refine HWr_succ ?_))
              | ((((with_reducible refine HW_region ?_ ?_); (focus (rw [hn]; rfl)))); simp -implicitDefEqProofs (maxSteps := 1000000) (disch := omega) only [go_sem, ↓bCs_slice, ↓els_slice, Int.reducePow, List.reduceReplicate, Int.reduceToNat, Int.reduceAdd, Int.reduceSub, Int.reduceLT, Int.reduceLE, Int.reduceMul, Int.reduceEq, Nat.reduceEqDiff, Nat.reduceLT, ↓reduceIte, Nat.reduceAdd, Nat.reduceSub, Nat.reduceMul, Nat.reduceLeDiff, reduceCtorEq])
              | (refine HW_cond (by rfl) (fun h => ?_) (fun h => ?_) <;> try simp only [not_true_eq_false, not_false_eq_true, decide_eq_true_eq, decide_eq_false_iff_not, Int.not_lt, Int.not_le, Bool.not_eq_true', Bool.not_eq_false', Bool.and_eq_true, Bool.or_eq_true, Bool.not_eq_true, Bool.not_eq_false, Bool.not_true, Bool.not_false, Bool.false_eq_true, Bool.true_eq_false, reduceCtorEq, Decidable.not_not] at h)
              | (with_reducible first | refine HW_skip ?_ | refine HW_exit ?_ | refine HW_ret ?_ | refine HW_block ?_ | refine HW_label ?_ | refine HW_scope ?_)
              | (simp only [xthen, xblock, xscope, ↓reduceIte, Nat.reduceEqDiff])
              | go_step
              | ((with_reducible refine Fork.mk (fun h => ?_) (fun h => ?_)) <;> (try simp only [not_true_eq_false, not_false_eq_true, decide_eq_true_eq, decide_eq_false_iff_not, Int.not_lt, Int.not_le, Bool.not_eq_true', Bool.not_eq_false', Bool.and_eq_true, Bool.or_eq_true, Bool.not_eq_true, Bool.not_eq_false, Bool.not_true, Bool.not_false, Bool.false_eq_true, Bool.true_eq_false, reduceCtorEq, Decidable.not_not] at h) <;> (try simp -implicitDefEqProofs (maxSteps := 1000000) (disch := omega) only [go_sem, ↓bCs_slice, ↓els_slice, Int.reducePow, List.reduceReplicate, Int.reduceToNat, Int.reduceAdd, Int.reduceSub, Int.reduceLT, Int.reduceLE, Int.reduceMul, Int.reduceEq, Nat.reduceEqDiff, Nat.reduceLT, ↓reduceIte, Nat.reduceAdd, Nat.reduceSub, Nat.reduceMul, Nat.reduceLeDiff, reduceCtorEq]))
              | (with_reducible refine And.intro ?_ ?_)
              | (refine fun (h : (_ : Bool) = _) => ?_; try simp only [not_true_eq_false, not_false_eq_true, decide_eq_true_eq, decide_eq_false_iff_not, Int.not_lt, Int.not_le, Bool.not_eq_true', Bool.not_eq_false', Bool.and_eq_true, Bool.or_eq_true, Bool.not_eq_true, Bool.not_eq_false, Bool.not_true, Bool.not_false, Bool.false_eq_true, Bool.true_eq_false, reduceCtorEq, Decidable.not_not] at h)
              | omega
              | ((refine ⟨_, fun _ h => h, ?_⟩); simp -implicitDefEqProofs (maxSteps := 1000000) (disch := omega) only [go_sem, ↓bCs_slice, ↓els_slice, Int.reducePow, List.reduceReplicate, Int.reduceToNat, Int.reduceAdd, Int.reduceSub, Int.reduceLT, Int.reduceLE, Int.reduceMul, Int.reduceEq, Nat.reduceEqDiff, Nat.reduceLT, ↓reduceIte, Nat.reduceAdd, Nat.reduceSub, Nat.reduceMul, Nat.reduceLeDiff, reduceCtorEq])
            refine vb_eq ?_
            rw [setOk_12 hR (by omega) (by omega) hz hl, ← all_one hl, hD, decide_eq_true (show s.ty = 0 ↔ s.kd = 2 by simpa using hb), hq]
            simp only [Bool.and_self, Bool.and_true, decide_eq_decide]
            omega)
         | (refine vb_eq ?_
            unfold setOk
            simp_all
            try omega
            done))
    | skip
end Go.Proofs.Ytoblmpfcjeammaa.V
