/-
  The set that says that there is nothing.
-/
import Derived.Test.YtoblmpfcjeammaaM
set_option linter.unusedVariables false
set_option linter.unusedSimpArgs false
set_option maxHeartbeats 4000000
namespace Go.Proofs.Ytoblmpfcjeammaa.V
open Go.RowKit Go.Proofs
attribute [local irreducible] HW Fn acall
/-- A record's parts, a question's. -/
structure RecD where
  name : ByteArray
  ty : Int
  cl : Int
  ttl : Int
  data : ByteArray
structure QueD where
  name : ByteArray
  ty : Int
  cl : Int
abbrev recL (r : RecD) : List AV := [S r.name, I r.ty, I r.cl, I r.ttl, B r.data]
abbrev queL (q : QueD) : List AV := [S q.name, I q.ty, I q.cl]
abbrev zeroL : List AV := [S ⟨#[]⟩, I 0, I 0, I 0, I 0, I 0, S ⟨#[]⟩, .val (.slice none 0 0)]
def leastT (data : ByteArray) : Int := match soaP data with
  | some (_, _, x) => lifeT (fourN (x.extract 16 x.size))
  | none => 0
def negSet (q : QueD) (k : Int) (r : RecD) (now : Int) : SetD := ⟨q.name, if k = 2 then 0 else q.ty, q.cl, 3, k, timeT now + min (lifeT r.ttl) (leastT r.data), r.name, [r.data]⟩
def negOk (q : QueD) (k : Int) (r : RecD) (now : Int) : Bool := decide (k = 1 ∨ k = 2) && decide (1 ≤ q.ty ∧ q.ty < 65536 ∧ r.ty = 6) && (soaP r.data).isSome && setOk (negSet q k r now)
def negR (q : QueD) (k : Int) (r : RecD) (now : Int) : AV := if negOk q k r now = true then .tup [.agg (setL (negSet q k r now)), I 0] else .tup [.agg zeroL, I 1]
theorem lifeT_bound (n : Int) : 0 ≤ lifeT n ∧ lifeT n ≤ 86400 := by
  unfold lifeT
  split <;> omega
theorem timeT_bound (n : Int) : 0 ≤ timeT n ∧ timeT n ≤ 1099511541376 := by unfold timeT; omega
theorem soaP_size {s : ByteArray} (h : (soaP s).isSome = true) : 20 ≤ s.size := by
  unfold soaP at h
  cases h1 : cutK s with
  | none => simp [h1] at h
  | some k =>
    cases h2 : cutK (s.extract k s.size) with
    | none => simp [h1, h2] at h
    | some k' =>
      simp only [h1, h2] at h
      split at h
      · rename_i h3
        rw [ByteArray.size_extract, ByteArray.size_extract] at h3
        omega
      · cases h
/-- bytes.Clone of what is not empty. -/
theorem w21' (s : ByteArray) (hS : s.size ≤ 1099511627) (h0 : 0 < s.size) : Fn Try.prog 21 [B s] [] (fun r t => t = [] ∧ r = B s) :=
  (w21 s hS).mono fun r t ⟨h, hr⟩ => ⟨h, by rcases hr with h | ⟨h, _⟩; exact h; omega⟩
theorem neg_short {q : QueD} {k : Int} {r : RecD} {now : Int} (hs : r.data.size ≤ 1048576) : short (negSet q k r now).ds := fun s hs' => by
  have : s = r.data := by simpa [negSet] using hs'
  rw [this]
  omega
/-- rrset.Negative -/
theorem w13 (q : QueD) (k : Int) (r : RecD) (now : Int) (hs : r.data.size ≤ 1048576) : Fn Try.prog 13 [.agg (queL q), I k, .agg (recL r), I now] [] (fun y t => t = [] ∧ y = negR q k r now) := by
  refine fn_of Try.func13 rfl rfl (by show _ ≤ 71; simp) fun X hX hn hk => ?_
  rw [hk]
  repeat' first
    | ((with_reducible first | refine HW_seq_k fun _ _ => ?_ | refine HWr_succ ?_))
    | ((first | ((with_reducible refine HW_region ?_ ?_); (focus (rw [hn]; rfl))) | ((with_reducible refine HW_draw (id := 11) [] (.take 0 (.take 1 (.take 2 (.take 3 (.take 4 (.take 5 (.take 6 (.take 7 (.take 8 (.take 10 (.take 11 (.take 13 (.take 14 (.take 18 (.take 19 (.or (.go 9 false (.or (.go 12 false (.or (.go 15 false (.take 16 (.take 17 (.or (.go 20 false (.or (.go 21 false (.take 22 (.go 23 false (.go 24 true (.done))))) (.go 23 false (.go 21 false (.take 22 (.go 24 true (.done))))))) (.go 23 false (.go 20 false (.go 21 false (.take 22 (.go 24 true (.done)))))))))) (.go 23 false (.go 15 false (.take 16 (.take 17 (.go 20 false (.go 21 false (.take 22 (.go 24 true (.done))))))))))) (.go 23 false (.go 12 false (.go 15 false (.take 16 (.take 17 (.go 20 false (.go 21 false (.take 22 (.go 24 true (.done)))))))))))) (.go 23 false (.go 9 false (.go 12 false (.go 15 false (.take 16 (.take 17 (.go 20 false (.go 21 false (.take 22 (.go 24 true (.done))))))))))))))))))))))))))) mixed ?_ ?_ ?_); (focus (rw [hn]; rfl)); (focus decide +kernel))); simp -implicitDefEqProofs (maxSteps := 1000000) (disch := omega) only [go_sem, ↓bCs_slice, ↓els_slice, Int.reducePow, List.reduceReplicate, Int.reduceToNat, Int.reduceAdd, Int.reduceSub, Int.reduceLT, Int.reduceLE, Int.reduceMul, Int.reduceEq, Nat.reduceEqDiff, Nat.reduceLT, ↓reduceIte, Nat.reduceAdd, Nat.reduceSub, Nat.reduceMul, Nat.reduceLeDiff, reduceCtorEq])
    | (refine HW_cond (by rfl) (fun h => ?_) (fun h => ?_) <;> try simp only [not_true_eq_false, not_false_eq_true, decide_eq_true_eq, decide_eq_false_iff_not, Int.not_lt, Int.not_le, Bool.not_eq_true', Bool.not_eq_false', Bool.and_eq_true, Bool.or_eq_true, Bool.not_eq_true, Bool.not_eq_false, Bool.not_true, Bool.not_false, Bool.false_eq_true, Bool.true_eq_false, reduceCtorEq, Decidable.not_not] at h)
    | (with_reducible first | refine HW_skip ?_ | refine HW_exit ?_ | refine HW_ret ?_ | refine HW_block ?_ | refine HW_label ?_ | refine HW_scope ?_)
    | (simp only [xthen, xblock, xscope, ↓reduceIte, Nat.reduceEqDiff])
    | go_step
    | ((with_reducible refine Fork.mk (fun h => ?_) (fun h => ?_)) <;> (try simp only [not_true_eq_false, not_false_eq_true, decide_eq_true_eq, decide_eq_false_iff_not, Int.not_lt, Int.not_le, Bool.not_eq_true', Bool.not_eq_false', Bool.and_eq_true, Bool.or_eq_true, Bool.not_eq_true, Bool.not_eq_false, Bool.not_true, Bool.not_false, Bool.false_eq_true, Bool.true_eq_false, reduceCtorEq, Decidable.not_not] at h) <;> (try simp -implicitDefEqProofs (maxSteps := 1000000) (disch := omega) only [go_sem, ↓bCs_slice, ↓els_slice, Int.reducePow, List.reduceReplicate, Int.reduceToNat, Int.reduceAdd, Int.reduceSub, Int.reduceLT, Int.reduceLE, Int.reduceMul, Int.reduceEq, Nat.reduceEqDiff, Nat.reduceLT, ↓reduceIte, Nat.reduceAdd, Nat.reduceSub, Nat.reduceMul, Nat.reduceLeDiff, reduceCtorEq]))
    | (with_reducible refine And.intro ?_ ?_)
    | (refine fun (h : (_ : Bool) = _) => ?_; try simp only [not_true_eq_false, not_false_eq_true, decide_eq_true_eq, decide_eq_false_iff_not, Int.not_lt, Int.not_le, Bool.not_eq_true', Bool.not_eq_false', Bool.and_eq_true, Bool.or_eq_true, Bool.not_eq_true, Bool.not_eq_false, Bool.not_true, Bool.not_false, Bool.false_eq_true, Bool.true_eq_false, reduceCtorEq, Decidable.not_not] at h)
    | omega
    | ((refine ⟨_, fun _ h => h, ?_⟩); simp -implicitDefEqProofs (maxSteps := 1000000) (disch := omega) only [go_sem, ↓bCs_slice, ↓els_slice, Int.reducePow, List.reduceReplicate, Int.reduceToNat, Int.reduceAdd, Int.reduceSub, Int.reduceLT, Int.reduceLE, Int.reduceMul, Int.reduceEq, Nat.reduceEqDiff, Nat.reduceLT, ↓reduceIte, Nat.reduceAdd, Nat.reduceSub, Nat.reduceMul, Nat.reduceLeDiff, reduceCtorEq])
  refine step0 (w37 r.data (by omega)) rfl fun y hy => ?_
  subst hy
  refine ⟨closed_soaR _, ?_⟩
  unfold soaR
  cases hP : soaP r.data with
  | none =>
    simp -implicitDefEqProofs (maxSteps := 1000000) (disch := omega) only [go_sem, ↓bCs_slice, ↓els_slice, Int.reducePow, List.reduceReplicate, Int.reduceToNat, Int.reduceAdd, Int.reduceSub, Int.reduceLT, Int.reduceLE, Int.reduceMul, Int.reduceEq, Nat.reduceEqDiff, Nat.reduceLT, ↓reduceIte, Nat.reduceAdd, Nat.reduceSub, Nat.reduceMul, Nat.reduceLeDiff, reduceCtorEq]
    repeat' first
      | ((with_reducible first | refine HW_seq_k fun _ _ => ?_ | refine HWr_succ ?_))
      | ((first | ((with_reducible refine HW_region ?_ ?_); (focus (rw [hn]; rfl))) | ((with_reducible refine HW_draw (id := 11) [] (.take 0 (.take 1 (.take 2 (.take 3 (.take 4 (.take 5 (.take 6 (.take 7 (.take 8 (.take 10 (.take 11 (.take 13 (.take 14 (.take 18 (.take 19 (.or (.go 9 false (.or (.go 12 false (.or (.go 15 false (.take 16 (.take 17 (.or (.go 20 false (.or (.go 21 false (.take 22 (.go 23 false (.go 24 true (.done))))) (.go 23 false (.go 21 false (.take 22 (.go 24 true (.done))))))) (.go 23 false (.go 20 false (.go 21 false (.take 22 (.go 24 true (.done)))))))))) (.go 23 false (.go 15 false (.take 16 (.take 17 (.go 20 false (.go 21 false (.take 22 (.go 24 true (.done))))))))))) (.go 23 false (.go 12 false (.go 15 false (.take 16 (.take 17 (.go 20 false (.go 21 false (.take 22 (.go 24 true (.done)))))))))))) (.go 23 false (.go 9 false (.go 12 false (.go 15 false (.take 16 (.take 17 (.go 20 false (.go 21 false (.take 22 (.go 24 true (.done))))))))))))))))))))))))))) mixed ?_ ?_ ?_); (focus (rw [hn]; rfl)); (focus decide +kernel))); simp -implicitDefEqProofs (maxSteps := 1000000) (disch := omega) only [go_sem, ↓bCs_slice, ↓els_slice, Int.reducePow, List.reduceReplicate, Int.reduceToNat, Int.reduceAdd, Int.reduceSub, Int.reduceLT, Int.reduceLE, Int.reduceMul, Int.reduceEq, Nat.reduceEqDiff, Nat.reduceLT, ↓reduceIte, Nat.reduceAdd, Nat.reduceSub, Nat.reduceMul, Nat.reduceLeDiff, reduceCtorEq])
      | (refine HW_cond (by rfl) (fun h => ?_) (fun h => ?_) <;> try simp only [not_true_eq_false, not_false_eq_true, decide_eq_true_eq, decide_eq_false_iff_not, Int.not_lt, Int.not_le, Bool.not_eq_true', Bool.not_eq_false', Bool.and_eq_true, Bool.or_eq_true, Bool.not_eq_true, Bool.not_eq_false, Bool.not_true, Bool.not_false, Bool.false_eq_true, Bool.true_eq_false, reduceCtorEq, Decidable.not_not] at h)
      | (with_reducible first | refine HW_skip ?_ | refine HW_exit ?_ | refine HW_ret ?_ | refine HW_block ?_ | refine HW_label ?_ | refine HW_scope ?_)
      | (simp only [xthen, xblock, xscope, ↓reduceIte, Nat.reduceEqDiff])
      | go_step
      | ((with_reducible refine Fork.mk (fun h => ?_) (fun h => ?_)) <;> (try simp only [not_true_eq_false, not_false_eq_true, decide_eq_true_eq, decide_eq_false_iff_not, Int.not_lt, Int.not_le, Bool.not_eq_true', Bool.not_eq_false', Bool.and_eq_true, Bool.or_eq_true, Bool.not_eq_true, Bool.not_eq_false, Bool.not_true, Bool.not_false, Bool.false_eq_true, Bool.true_eq_false, reduceCtorEq, Decidable.not_not] at h) <;> (try simp -implicitDefEqProofs (maxSteps := 1000000) (disch := omega) only [go_sem, ↓bCs_slice, ↓els_slice, Int.reducePow, List.reduceReplicate, Int.reduceToNat, Int.reduceAdd, Int.reduceSub, Int.reduceLT, Int.reduceLE, Int.reduceMul, Int.reduceEq, Nat.reduceEqDiff, Nat.reduceLT, ↓reduceIte, Nat.reduceAdd, Nat.reduceSub, Nat.reduceMul, Nat.reduceLeDiff, reduceCtorEq]))
      | (with_reducible refine And.intro ?_ ?_)
      | (refine fun (h : (_ : Bool) = _) => ?_; try simp only [not_true_eq_false, not_false_eq_true, decide_eq_true_eq, decide_eq_false_iff_not, Int.not_lt, Int.not_le, Bool.not_eq_true', Bool.not_eq_false', Bool.and_eq_true, Bool.or_eq_true, Bool.not_eq_true, Bool.not_eq_false, Bool.not_true, Bool.not_false, Bool.false_eq_true, Bool.true_eq_false, reduceCtorEq, Decidable.not_not] at h)
      | omega
      | ((refine ⟨_, fun _ h => h, ?_⟩); simp -implicitDefEqProofs (maxSteps := 1000000) (disch := omega) only [go_sem, ↓bCs_slice, ↓els_slice, Int.reducePow, List.reduceReplicate, Int.reduceToNat, Int.reduceAdd, Int.reduceSub, Int.reduceLT, Int.reduceLE, Int.reduceMul, Int.reduceEq, Nat.reduceEqDiff, Nat.reduceLT, ↓reduceIte, Nat.reduceAdd, Nat.reduceSub, Nat.reduceMul, Nat.reduceLeDiff, reduceCtorEq])
    all_goals
      rw [negR, if_neg]
      simp [negOk, hP]
  | some p =>
    obtain ⟨m, n, x⟩ := p
    simp only [soaV]
    simp -implicitDefEqProofs (maxSteps := 1000000) (disch := omega) only [go_sem, ↓bCs_slice, ↓els_slice, Int.reducePow, List.reduceReplicate, Int.reduceToNat, Int.reduceAdd, Int.reduceSub, Int.reduceLT, Int.reduceLE, Int.reduceMul, Int.reduceEq, Nat.reduceEqDiff, Nat.reduceLT, ↓reduceIte, Nat.reduceAdd, Nat.reduceSub, Nat.reduceMul, Nat.reduceLeDiff, reduceCtorEq]
    repeat' first
      | ((fail_if_success (with_reducible refine HW_stop (id := 11) ?_)); (with_reducible first | refine HW_seq_k fun _ _ => ?_ | refine HWr_succ ?_))
      | ((first | ((with_reducible refine HW_region ?_ ?_); (focus (rw [hn]; rfl))) | ((with_reducible refine HW_draw (id := 11) [] (.take 0 (.take 1 (.take 2 (.take 3 (.take 4 (.take 5 (.take 6 (.take 7 (.take 8 (.take 10 (.take 11 (.take 13 (.take 14 (.take 18 (.take 19 (.or (.go 9 false (.or (.go 12 false (.or (.go 15 false (.take 16 (.take 17 (.or (.go 20 false (.or (.go 21 false (.take 22 (.go 23 false (.go 24 true (.done))))) (.go 23 false (.go 21 false (.take 22 (.go 24 true (.done))))))) (.go 23 false (.go 20 false (.go 21 false (.take 22 (.go 24 true (.done)))))))))) (.go 23 false (.go 15 false (.take 16 (.take 17 (.go 20 false (.go 21 false (.take 22 (.go 24 true (.done))))))))))) (.go 23 false (.go 12 false (.go 15 false (.take 16 (.take 17 (.go 20 false (.go 21 false (.take 22 (.go 24 true (.done)))))))))))) (.go 23 false (.go 9 false (.go 12 false (.go 15 false (.take 16 (.take 17 (.go 20 false (.go 21 false (.take 22 (.go 24 true (.done))))))))))))))))))))))))))) mixed ?_ ?_ ?_); (focus (rw [hn]; rfl)); (focus decide +kernel))); simp -implicitDefEqProofs (maxSteps := 1000000) (disch := omega) only [go_sem, ↓bCs_slice, ↓els_slice, Int.reducePow, List.reduceReplicate, Int.reduceToNat, Int.reduceAdd, Int.reduceSub, Int.reduceLT, Int.reduceLE, Int.reduceMul, Int.reduceEq, Nat.reduceEqDiff, Nat.reduceLT, ↓reduceIte, Nat.reduceAdd, Nat.reduceSub, Nat.reduceMul, Nat.reduceLeDiff, reduceCtorEq])
      | (refine HW_cond (by rfl) (fun h => ?_) (fun h => ?_) <;> try simp only [not_true_eq_false, not_false_eq_true, decide_eq_true_eq, decide_eq_false_iff_not, Int.not_lt, Int.not_le, Bool.not_eq_true', Bool.not_eq_false', Bool.and_eq_true, Bool.or_eq_true, Bool.not_eq_true, Bool.not_eq_false, Bool.not_true, Bool.not_false, Bool.false_eq_true, Bool.true_eq_false, reduceCtorEq, Decidable.not_not] at h)
      | (with_reducible first | refine HW_skip ?_ | refine HW_exit ?_ | refine HW_ret ?_ | refine HW_block ?_ | refine HW_label ?_ | refine HW_scope ?_)
      | (simp only [xthen, xblock, xscope, ↓reduceIte, Nat.reduceEqDiff])
      | go_step
      | ((with_reducible refine Fork.mk (fun h => ?_) (fun h => ?_)) <;> (try simp only [not_true_eq_false, not_false_eq_true, decide_eq_true_eq, decide_eq_false_iff_not, Int.not_lt, Int.not_le, Bool.not_eq_true', Bool.not_eq_false', Bool.and_eq_true, Bool.or_eq_true, Bool.not_eq_true, Bool.not_eq_false, Bool.not_true, Bool.not_false, Bool.false_eq_true, Bool.true_eq_false, reduceCtorEq, Decidable.not_not] at h) <;> (try simp -implicitDefEqProofs (maxSteps := 1000000) (disch := omega) only [go_sem, ↓bCs_slice, ↓els_slice, Int.reducePow, List.reduceReplicate, Int.reduceToNat, Int.reduceAdd, Int.reduceSub, Int.reduceLT, Int.reduceLE, Int.reduceMul, Int.reduceEq, Nat.reduceEqDiff, Nat.reduceLT, ↓reduceIte, Nat.reduceAdd, Nat.reduceSub, Nat.reduceMul, Nat.reduceLeDiff, reduceCtorEq]))
      | (with_reducible refine And.intro ?_ ?_)
      | (refine fun (h : (_ : Bool) = _) => ?_; try simp only [not_true_eq_false, not_false_eq_true, decide_eq_true_eq, decide_eq_false_iff_not, Int.not_lt, Int.not_le, Bool.not_eq_true', Bool.not_eq_false', Bool.and_eq_true, Bool.or_eq_true, Bool.not_eq_true, Bool.not_eq_false, Bool.not_true, Bool.not_false, Bool.false_eq_true, Bool.true_eq_false, reduceCtorEq, Decidable.not_not] at h)
      | omega
      | ((refine ⟨_, fun _ h => h, ?_⟩); simp -implicitDefEqProofs (maxSteps := 1000000) (disch := omega) only [go_sem, ↓bCs_slice, ↓els_slice, Int.reducePow, List.reduceReplicate, Int.reduceToNat, Int.reduceAdd, Int.reduceSub, Int.reduceLT, Int.reduceLE, Int.reduceMul, Int.reduceEq, Nat.reduceEqDiff, Nat.reduceLT, ↓reduceIte, Nat.reduceAdd, Nat.reduceSub, Nat.reduceMul, Nat.reduceLeDiff, reduceCtorEq])
    all_goals first
      | (rw [negR, if_neg]
         simp only [negOk, Bool.and_eq_true, decide_eq_true_eq]
         omega)
      | skip
    all_goals
      have hd := soaP_size (s := r.data) (by rw [hP]; rfl)
      have b1 := timeT_bound now
      have b2 := lifeT_bound r.ttl
      have b3 := lifeT_bound (fourN (x.extract 16 x.size))
      have hm : leastT r.data = lifeT (fourN (x.extract 16 x.size)) := by simp only [leastT, hP]
      refine HW_cut [13, 9, 8] [8, 13, 64] hX (fun k h => by rw [hk]; rfl) (fun e t => e = [(13, .ref 13 0 0), (9, I 0), (8, .ref 8 0 0)] ∧ t = [⟨8, 0, .cells 29 zeroL⟩, ⟨13, 0, .cells 29 [S q.name, I (if k = 2 then 0 else q.ty), I q.cl, I 3, I k, I (timeT now + min (lifeT r.ttl) (leastT r.data)), S r.name, .sl 64 0 0 1]⟩, ⟨64, 0, .arr 36 1 [[B r.data]]⟩]) ?_ ?_
      · rw [hm]
        repeat' first
          | ((with_reducible first | refine HW_seq_k fun _ _ => ?_ | refine HWr_succ ?_))
          | ((first | ((with_reducible refine HW_region ?_ ?_); (focus (rw [hn]; rfl))) | ((with_reducible refine HW_draw (id := 11) [4,6,10] (.take 0 (.take 1 (.take 2 (.take 3 (.take 4 (.take 5 (.take 6 (.take 7 (.take 8 (.take 10 (.take 11 (.take 13 (.take 14 (.take 18 (.take 19 (.or (.go 9 false (.or (.go 12 false (.or (.go 15 false (.take 16 (.take 17 (.or (.go 20 false (.or (.go 21 false (.or (.go 22 false (.go 23 false (.go 24 true (.done)))) (.go 23 false (.go 22 false (.go 24 true (.done)))))) (.go 23 false (.go 21 false (.go 22 false (.go 24 true (.done))))))) (.go 23 false (.go 20 false (.go 21 false (.go 22 false (.go 24 true (.done)))))))))) (.go 23 false (.go 15 false (.take 16 (.take 17 (.go 20 false (.go 21 false (.go 22 false (.go 24 true (.done))))))))))) (.go 23 false (.go 12 false (.go 15 false (.take 16 (.take 17 (.go 20 false (.go 21 false (.go 22 false (.go 24 true (.done)))))))))))) (.go 23 false (.go 9 false (.go 12 false (.go 15 false (.take 16 (.take 17 (.go 20 false (.go 21 false (.go 22 false (.go 24 true (.done))))))))))))))))))))))))))) mixed ?_ ?_ ?_); (focus (rw [hn]; rfl)); (focus decide +kernel))); simp -implicitDefEqProofs (maxSteps := 1000000) (disch := omega) only [go_sem, ↓bCs_slice, ↓els_slice, Int.reducePow, List.reduceReplicate, Int.reduceToNat, Int.reduceAdd, Int.reduceSub, Int.reduceLT, Int.reduceLE, Int.reduceMul, Int.reduceEq, Nat.reduceEqDiff, Nat.reduceLT, ↓reduceIte, Nat.reduceAdd, Nat.reduceSub, Nat.reduceMul, Nat.reduceLeDiff, reduceCtorEq])
          | (refine HW_cond (by rfl) (fun h => ?_) (fun h => ?_) <;> try simp only [not_true_eq_false, not_false_eq_true, decide_eq_true_eq, decide_eq_false_iff_not, Int.not_lt, Int.not_le, Bool.not_eq_true', Bool.not_eq_false', Bool.and_eq_true, Bool.or_eq_true, Bool.not_eq_true, Bool.not_eq_false, Bool.not_true, Bool.not_false, Bool.false_eq_true, Bool.true_eq_false, reduceCtorEq, Decidable.not_not] at h)
          | (with_reducible first | refine HW_skip ?_ | refine HW_exit ?_ | refine HW_ret ?_ | refine HW_block ?_ | refine HW_label ?_ | refine HW_scope ?_)
          | (simp only [xthen, xblock, xscope, ↓reduceIte, Nat.reduceEqDiff])
          | (refine step0 (w25 _) rfl fun y hy => ?_; subst hy; refine ⟨by simp only [go_sem, reduceCtorEq], ?_⟩; simp -implicitDefEqProofs (maxSteps := 1000000) (disch := omega) only [go_sem, ↓bCs_slice, ↓els_slice, Int.reducePow, List.reduceReplicate, Int.reduceToNat, Int.reduceAdd, Int.reduceSub, Int.reduceLT, Int.reduceLE, Int.reduceMul, Int.reduceEq, Nat.reduceEqDiff, Nat.reduceLT, ↓reduceIte, Nat.reduceAdd, Nat.reduceSub, Nat.reduceMul, Nat.reduceLeDiff, reduceCtorEq])
          | (refine step0 (w24 _) rfl fun y hy => ?_; subst hy; refine ⟨by simp only [go_sem, reduceCtorEq], ?_⟩; simp -implicitDefEqProofs (maxSteps := 1000000) (disch := omega) only [go_sem, ↓bCs_slice, ↓els_slice, Int.reducePow, List.reduceReplicate, Int.reduceToNat, Int.reduceAdd, Int.reduceSub, Int.reduceLT, Int.reduceLE, Int.reduceMul, Int.reduceEq, Nat.reduceEqDiff, Nat.reduceLT, ↓reduceIte, Nat.reduceAdd, Nat.reduceSub, Nat.reduceMul, Nat.reduceLeDiff, reduceCtorEq])
          | (refine step0 (w21' _ (by omega) (by omega)) rfl fun y hy => ?_; subst hy; refine ⟨by simp only [go_sem, reduceCtorEq], ?_⟩; simp -implicitDefEqProofs (maxSteps := 1000000) (disch := omega) only [go_sem, ↓bCs_slice, ↓els_slice, Int.reducePow, List.reduceReplicate, Int.reduceToNat, Int.reduceAdd, Int.reduceSub, Int.reduceLT, Int.reduceLE, Int.reduceMul, Int.reduceEq, Nat.reduceEqDiff, Nat.reduceLT, ↓reduceIte, Nat.reduceAdd, Nat.reduceSub, Nat.reduceMul, Nat.reduceLeDiff, reduceCtorEq])
          | go_step
          | ((with_reducible refine Fork.mk (fun h => ?_) (fun h => ?_)) <;> (try simp only [not_true_eq_false, not_false_eq_true, decide_eq_true_eq, decide_eq_false_iff_not, Int.not_lt, Int.not_le, Bool.not_eq_true', Bool.not_eq_false', Bool.and_eq_true, Bool.or_eq_true, Bool.not_eq_true, Bool.not_eq_false, Bool.not_true, Bool.not_false, Bool.false_eq_true, Bool.true_eq_false, reduceCtorEq, Decidable.not_not] at h) <;> (try simp -implicitDefEqProofs (maxSteps := 1000000) (disch := omega) only [go_sem, ↓bCs_slice, ↓els_slice, Int.reducePow, List.reduceReplicate, Int.reduceToNat, Int.reduceAdd, Int.reduceSub, Int.reduceLT, Int.reduceLE, Int.reduceMul, Int.reduceEq, Nat.reduceEqDiff, Nat.reduceLT, ↓reduceIte, Nat.reduceAdd, Nat.reduceSub, Nat.reduceMul, Nat.reduceLeDiff, reduceCtorEq]))
          | (with_reducible refine And.intro ?_ ?_)
          | (refine fun (h : (_ : Bool) = _) => ?_; try simp only [not_true_eq_false, not_false_eq_true, decide_eq_true_eq, decide_eq_false_iff_not, Int.not_lt, Int.not_le, Bool.not_eq_true', Bool.not_eq_false', Bool.and_eq_true, Bool.or_eq_true, Bool.not_eq_true, Bool.not_eq_false, Bool.not_true, Bool.not_false, Bool.false_eq_true, Bool.true_eq_false, reduceCtorEq, Decidable.not_not] at h)
          | omega
          | ((refine ⟨_, fun _ h => h, ?_⟩); simp -implicitDefEqProofs (maxSteps := 1000000) (disch := omega) only [go_sem, ↓bCs_slice, ↓els_slice, Int.reducePow, List.reduceReplicate, Int.reduceToNat, Int.reduceAdd, Int.reduceSub, Int.reduceLT, Int.reduceLE, Int.reduceMul, Int.reduceEq, Nat.reduceEqDiff, Nat.reduceLT, ↓reduceIte, Nat.reduceAdd, Nat.reduceSub, Nat.reduceMul, Nat.reduceLeDiff, reduceCtorEq])
        all_goals first
          | rw [if_pos (by assumption)]
          | rw [if_neg (by assumption)]
      · rintro e t ⟨rfl, rfl⟩
        refine HW_freeze 64 0 _ hX (by rw [hk]; rfl) rfl (by simp -implicitDefEqProofs (maxSteps := 1000000) (disch := omega) only [go_sem, ↓bCs_slice, ↓els_slice, Int.reducePow, List.reduceReplicate, Int.reduceToNat, Int.reduceAdd, Int.reduceSub, Int.reduceLT, Int.reduceLE, Int.reduceMul, Int.reduceEq, Nat.reduceEqDiff, Nat.reduceLT, ↓reduceIte, Nat.reduceAdd, Nat.reduceSub, Nat.reduceMul, Nat.reduceLeDiff, reduceCtorEq]) ?_
        simp -implicitDefEqProofs (maxSteps := 1000000) (disch := omega) only [go_sem, ↓bCs_slice, ↓els_slice, Int.reducePow, List.reduceReplicate, Int.reduceToNat, Int.reduceAdd, Int.reduceSub, Int.reduceLT, Int.reduceLE, Int.reduceMul, Int.reduceEq, Nat.reduceEqDiff, Nat.reduceLT, ↓reduceIte, Nat.reduceAdd, Nat.reduceSub, Nat.reduceMul, Nat.reduceLeDiff, reduceCtorEq]
        repeat' first
          | ((with_reducible first | refine HW_seq_k fun _ _ => ?_ | refine HWr_succ ?_))
          | ((first | ((with_reducible refine HW_region ?_ ?_); (focus (rw [hn]; rfl))) | ((with_reducible refine HW_draw (id := 11) [] (.take 0 (.take 1 (.take 2 (.take 3 (.take 4 (.take 5 (.take 6 (.take 7 (.take 8 (.take 10 (.take 11 (.take 13 (.take 14 (.take 18 (.take 19 (.or (.go 9 false (.or (.go 12 false (.or (.go 15 false (.take 16 (.take 17 (.or (.go 20 false (.or (.go 21 false (.take 22 (.go 23 false (.go 24 true (.done))))) (.go 23 false (.go 21 false (.take 22 (.go 24 true (.done))))))) (.go 23 false (.go 20 false (.go 21 false (.take 22 (.go 24 true (.done)))))))))) (.go 23 false (.go 15 false (.take 16 (.take 17 (.go 20 false (.go 21 false (.take 22 (.go 24 true (.done))))))))))) (.go 23 false (.go 12 false (.go 15 false (.take 16 (.take 17 (.go 20 false (.go 21 false (.take 22 (.go 24 true (.done)))))))))))) (.go 23 false (.go 9 false (.go 12 false (.go 15 false (.take 16 (.take 17 (.go 20 false (.go 21 false (.take 22 (.go 24 true (.done))))))))))))))))))))))))))) mixed ?_ ?_ ?_); (focus (rw [hn]; rfl)); (focus decide +kernel))); simp -implicitDefEqProofs (maxSteps := 1000000) (disch := omega) only [go_sem, ↓bCs_slice, ↓els_slice, Int.reducePow, List.reduceReplicate, Int.reduceToNat, Int.reduceAdd, Int.reduceSub, Int.reduceLT, Int.reduceLE, Int.reduceMul, Int.reduceEq, Nat.reduceEqDiff, Nat.reduceLT, ↓reduceIte, Nat.reduceAdd, Nat.reduceSub, Nat.reduceMul, Nat.reduceLeDiff, reduceCtorEq])
          | (refine HW_cond (by rfl) (fun h => ?_) (fun h => ?_) <;> try simp only [not_true_eq_false, not_false_eq_true, decide_eq_true_eq, decide_eq_false_iff_not, Int.not_lt, Int.not_le, Bool.not_eq_true', Bool.not_eq_false', Bool.and_eq_true, Bool.or_eq_true, Bool.not_eq_true, Bool.not_eq_false, Bool.not_true, Bool.not_false, Bool.false_eq_true, Bool.true_eq_false, reduceCtorEq, Decidable.not_not] at h)
          | (with_reducible first | refine HW_skip ?_ | refine HW_exit ?_ | refine HW_ret ?_ | refine HW_block ?_ | refine HW_label ?_ | refine HW_scope ?_)
          | (simp only [xthen, xblock, xscope, ↓reduceIte, Nat.reduceEqDiff])
          | go_step
          | ((with_reducible refine Fork.mk (fun h => ?_) (fun h => ?_)) <;> (try simp only [not_true_eq_false, not_false_eq_true, decide_eq_true_eq, decide_eq_false_iff_not, Int.not_lt, Int.not_le, Bool.not_eq_true', Bool.not_eq_false', Bool.and_eq_true, Bool.or_eq_true, Bool.not_eq_true, Bool.not_eq_false, Bool.not_true, Bool.not_false, Bool.false_eq_true, Bool.true_eq_false, reduceCtorEq, Decidable.not_not] at h) <;> (try simp -implicitDefEqProofs (maxSteps := 1000000) (disch := omega) only [go_sem, ↓bCs_slice, ↓els_slice, Int.reducePow, List.reduceReplicate, Int.reduceToNat, Int.reduceAdd, Int.reduceSub, Int.reduceLT, Int.reduceLE, Int.reduceMul, Int.reduceEq, Nat.reduceEqDiff, Nat.reduceLT, ↓reduceIte, Nat.reduceAdd, Nat.reduceSub, Nat.reduceMul, Nat.reduceLeDiff, reduceCtorEq]))
          | (with_reducible refine And.intro ?_ ?_)
          | (refine fun (h : (_ : Bool) = _) => ?_; try simp only [not_true_eq_false, not_false_eq_true, decide_eq_true_eq, decide_eq_false_iff_not, Int.not_lt, Int.not_le, Bool.not_eq_true', Bool.not_eq_false', Bool.and_eq_true, Bool.or_eq_true, Bool.not_eq_true, Bool.not_eq_false, Bool.not_true, Bool.not_false, Bool.false_eq_true, Bool.true_eq_false, reduceCtorEq, Decidable.not_not] at h)
          | omega
          | ((refine ⟨_, fun _ h => h, ?_⟩); simp -implicitDefEqProofs (maxSteps := 1000000) (disch := omega) only [go_sem, ↓bCs_slice, ↓els_slice, Int.reducePow, List.reduceReplicate, Int.reduceToNat, Int.reduceAdd, Int.reduceSub, Int.reduceLT, Int.reduceLE, Int.reduceMul, Int.reduceEq, Nat.reduceEqDiff, Nat.reduceLT, ↓reduceIte, Nat.reduceAdd, Nat.reduceSub, Nat.reduceMul, Nat.reduceLeDiff, reduceCtorEq])
        refine step0 (w27 (negSet q k r now) (neg_short hs) (by show 1 ≤ 1099511627; omega) (by show 2 + r.data.size + 0 ≤ _; omega)) rfl fun y hy => ?_
        subst hy
        refine ⟨trivial, ?_⟩
        simp -implicitDefEqProofs (maxSteps := 1000000) (disch := omega) only [go_sem, ↓bCs_slice, ↓els_slice, Int.reducePow, List.reduceReplicate, Int.reduceToNat, Int.reduceAdd, Int.reduceSub, Int.reduceLT, Int.reduceLE, Int.reduceMul, Int.reduceEq, Nat.reduceEqDiff, Nat.reduceLT, ↓reduceIte, Nat.reduceAdd, Nat.reduceSub, Nat.reduceMul, Nat.reduceLeDiff, reduceCtorEq]
        repeat' first
          | ((with_reducible first | refine HW_seq_k fun _ _ => ?_ | refine HWr_succ ?_))
          | ((first | ((with_reducible refine HW_region ?_ ?_); (focus (rw [hn]; rfl))) | ((with_reducible refine HW_draw (id := 11) [] (.take 0 (.take 1 (.take 2 (.take 3 (.take 4 (.take 5 (.take 6 (.take 7 (.take 8 (.take 10 (.take 11 (.take 13 (.take 14 (.take 18 (.take 19 (.or (.go 9 false (.or (.go 12 false (.or (.go 15 false (.take 16 (.take 17 (.or (.go 20 false (.or (.go 21 false (.take 22 (.go 23 false (.go 24 true (.done))))) (.go 23 false (.go 21 false (.take 22 (.go 24 true (.done))))))) (.go 23 false (.go 20 false (.go 21 false (.take 22 (.go 24 true (.done)))))))))) (.go 23 false (.go 15 false (.take 16 (.take 17 (.go 20 false (.go 21 false (.take 22 (.go 24 true (.done))))))))))) (.go 23 false (.go 12 false (.go 15 false (.take 16 (.take 17 (.go 20 false (.go 21 false (.take 22 (.go 24 true (.done)))))))))))) (.go 23 false (.go 9 false (.go 12 false (.go 15 false (.take 16 (.take 17 (.go 20 false (.go 21 false (.take 22 (.go 24 true (.done))))))))))))))))))))))))))) mixed ?_ ?_ ?_); (focus (rw [hn]; rfl)); (focus decide +kernel))); simp -implicitDefEqProofs (maxSteps := 1000000) (disch := omega) only [go_sem, ↓bCs_slice, ↓els_slice, Int.reducePow, List.reduceReplicate, Int.reduceToNat, Int.reduceAdd, Int.reduceSub, Int.reduceLT, Int.reduceLE, Int.reduceMul, Int.reduceEq, Nat.reduceEqDiff, Nat.reduceLT, ↓reduceIte, Nat.reduceAdd, Nat.reduceSub, Nat.reduceMul, Nat.reduceLeDiff, reduceCtorEq])
          | (refine HW_cond (by rfl) (fun h => ?_) (fun h => ?_) <;> try simp only [not_true_eq_false, not_false_eq_true, decide_eq_true_eq, decide_eq_false_iff_not, Int.not_lt, Int.not_le, Bool.not_eq_true', Bool.not_eq_false', Bool.and_eq_true, Bool.or_eq_true, Bool.not_eq_true, Bool.not_eq_false, Bool.not_true, Bool.not_false, Bool.false_eq_true, Bool.true_eq_false, reduceCtorEq, Decidable.not_not] at h)
          | (with_reducible first | refine HW_skip ?_ | refine HW_exit ?_ | refine HW_ret ?_ | refine HW_block ?_ | refine HW_label ?_ | refine HW_scope ?_)
          | (simp only [xthen, xblock, xscope, ↓reduceIte, Nat.reduceEqDiff])
          | go_step
          | ((with_reducible refine Fork.mk (fun h => ?_) (fun h => ?_)) <;> (try simp only [not_true_eq_false, not_false_eq_true, decide_eq_true_eq, decide_eq_false_iff_not, Int.not_lt, Int.not_le, Bool.not_eq_true', Bool.not_eq_false', Bool.and_eq_true, Bool.or_eq_true, Bool.not_eq_true, Bool.not_eq_false, Bool.not_true, Bool.not_false, Bool.false_eq_true, Bool.true_eq_false, reduceCtorEq, Decidable.not_not] at h) <;> (try simp -implicitDefEqProofs (maxSteps := 1000000) (disch := omega) only [go_sem, ↓bCs_slice, ↓els_slice, Int.reducePow, List.reduceReplicate, Int.reduceToNat, Int.reduceAdd, Int.reduceSub, Int.reduceLT, Int.reduceLE, Int.reduceMul, Int.reduceEq, Nat.reduceEqDiff, Nat.reduceLT, ↓reduceIte, Nat.reduceAdd, Nat.reduceSub, Nat.reduceMul, Nat.reduceLeDiff, reduceCtorEq]))
          | (with_reducible refine And.intro ?_ ?_)
          | (refine fun (h : (_ : Bool) = _) => ?_; try simp only [not_true_eq_false, not_false_eq_true, decide_eq_true_eq, decide_eq_false_iff_not, Int.not_lt, Int.not_le, Bool.not_eq_true', Bool.not_eq_false', Bool.and_eq_true, Bool.or_eq_true, Bool.not_eq_true, Bool.not_eq_false, Bool.not_true, Bool.not_false, Bool.false_eq_true, Bool.true_eq_false, reduceCtorEq, Decidable.not_not] at h)
          | omega
          | ((refine ⟨_, fun _ h => h, ?_⟩); simp -implicitDefEqProofs (maxSteps := 1000000) (disch := omega) only [go_sem, ↓bCs_slice, ↓els_slice, Int.reducePow, List.reduceReplicate, Int.reduceToNat, Int.reduceAdd, Int.reduceSub, Int.reduceLT, Int.reduceLE, Int.reduceMul, Int.reduceEq, Nat.reduceEqDiff, Nat.reduceLT, ↓reduceIte, Nat.reduceAdd, Nat.reduceSub, Nat.reduceMul, Nat.reduceLeDiff, reduceCtorEq])
        all_goals first
          | (have hf : setOk (negSet q k r now) = false := by assumption
             rw [negR, if_neg (by simp only [negOk, hf, Bool.and_false]; exact Bool.false_ne_true)])
          | (have ht : setOk (negSet q k r now) = true := by assumption
             have hk' : negOk q k r now = true := by
               simp only [negOk, ht, hP, Bool.and_true, Option.isSome_some, Bool.and_eq_true, decide_eq_true_eq]
               omega
             rw [negR, if_pos hk']
             rfl)
end Go.Proofs.Ytoblmpfcjeammaa.V
