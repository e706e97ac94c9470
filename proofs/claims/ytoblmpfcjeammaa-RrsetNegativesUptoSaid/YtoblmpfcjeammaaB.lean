/-
  Data of records: the walks.
-/
import Derived.Test.YtoblmpfcjeammaaA
set_option linter.unusedVariables false
set_option linter.unusedSimpArgs false
set_option maxHeartbeats 4000000
namespace Go.Proofs.Ytoblmpfcjeammaa.V
open Go.RowKit Go.Proofs
attribute [local irreducible] HW Fn acall
abbrev B (s : ByteArray) : AV := .imm 1 (bCs s)
/-- How long the labels at the beginning are, with the root's. -/
def wlen (l : List UInt8) : Option Nat :=
  match l with
  | [] => none
  | b :: r => if b = 0 then some 1 else (wlen (r.drop b.toNat)).map (· + (1 + b.toNat))
termination_by l.length
decreasing_by simp; omega
theorem wlen_take : ∀ (n : Nat) (l : List UInt8) (k : Nat), l.length ≤ n → k ≤ l.length → walk (l.take k) = true → wlen l = some k
  | n, [], k, _, _, h => by simp [walk] at h
  | 0, b :: r, k, hn, _, h => by simp at hn
  | n + 1, b :: r, 0, hn, _, h => by simp [walk] at h
  | n + 1, b :: r, k + 1, hn, hk, h => by
    rw [List.take_succ_cons, walk] at h
    rw [wlen]
    split at h
    · rename_i hb
      rw [if_pos hb]
      have : r.take k = [] := List.isEmpty_iff.1 h
      rcases List.take_eq_nil_iff.1 this with h0 | h0
      · rw [h0]
      · subst h0; simp at hk; rw [hk]
    · rename_i hb
      rw [if_neg hb]
      split at h
      · cases h
      · have hdt : (r.take k).drop b.toNat = (r.drop b.toNat).take (k - b.toNat) := List.drop_take
        rw [hdt] at h
        have hlt : b.toNat < k := by
          rcases Nat.lt_or_ge b.toNat k with h1 | h1
          · exact h1
          · rw [Nat.sub_eq_zero_of_le h1, List.take_zero, walk] at h; cases h
        simp only [List.length_cons] at hn hk
        have := wlen_take n (r.drop b.toNat) (k - b.toNat) (by rw [List.length_drop]; omega) (by rw [List.length_drop]; omega) h
        rw [this]
        simp
        omega
/-- How long the name at the beginning is. -/
def cutK (s : ByteArray) : Option Nat := match wlen s.data.toList with
  | some k => if nameOk (s.extract 0 k) = true then some k else none
  | none => none
def cutR (s : ByteArray) : AV := match cutK s with
  | some k => .tup [.val (.string (s.extract 0 k)), B (s.extract k s.size), .val (.bool true)]
  | none => .tup [.val (.string ⟨#[]⟩), .val (.slice none 0 0), .val (.bool false)]
theorem extract_list (s : ByteArray) (k n : Nat) : (s.extract k n).data.toList = (s.data.toList.take n).drop k := by
  rw [ByteArray.data_extract, Array.toList_extract, List.extract_eq_take_drop, List.drop_take]
theorem cutK_of {s : ByteArray} {k : Nat} (hk : k ≤ s.size) (h : nameOk (s.extract 0 k) = true) : cutK s = some k := by
  have h' := h
  simp only [nameOk, Bool.and_eq_true] at h'
  rw [extract_list, List.drop_zero] at h'
  have := wlen_take s.data.toList.length s.data.toList k (Nat.le_refl _) (by rw [Array.length_toList]; exact hk) h'.2
  simp only [cutK, this, h, if_true]
theorem wlen_le : ∀ (n : Nat) (l : List UInt8) (k : Nat), l.length ≤ n → wlen l = some k → k ≤ l.length ∧ 1 ≤ k
  | n, [], k, _, h => by simp [wlen] at h
  | 0, b :: r, k, hn, h => by simp at hn
  | n + 1, b :: r, k, hn, h => by
    rw [wlen] at h
    split at h
    · injection h with h; subst h; simp
    · simp only [List.length_cons] at hn
      cases hw : wlen (r.drop b.toNat) with
      | none => rw [hw] at h; cases h
      | some m =>
        rw [hw] at h
        injection h with h
        have h : m + (1 + b.toNat) = k := h
        have := wlen_le n (r.drop b.toNat) m (by rw [List.length_drop]; omega) hw
        rw [List.length_drop] at this
        simp only [List.length_cons]
        omega
theorem cutK_spec {s : ByteArray} {k : Nat} (h : cutK s = some k) : k ≤ s.size ∧ 1 ≤ k ∧ nameOk (s.extract 0 k) = true ∧ k ≤ 255 := by
  unfold cutK at h
  split at h
  · rename_i k' hk
    split at h
    · rename_i hn
      injection h with h; subst h
      have := wlen_le _ _ _ (Nat.le_refl _) hk
      rw [Array.length_toList] at this
      have hs : s.data.size = s.size := rfl
      have hn' := hn
      simp only [nameOk, Bool.and_eq_true, decide_eq_true_eq] at hn'
      have h5 := hn'.1
      rw [ByteArray.size_extract] at h5
      exact ⟨by omega, this.2, hn, by omega⟩
    · cases h
  · cases h
/-- ciceroneref03.First -/
theorem w56 (s : ByteArray) : Fn Try.prog 56 [B s] [] (fun r t => t = [] ∧ r = cutR s) := by
  refine fn_of Try.func56 rfl rfl (by show _ ≤ 28; simp) fun X hX hn hk => ?_
  rw [hk]
  repeat' first
    | ((with_reducible first | refine HW_seq_k fun _ _ => ?_ | refine HWr_succ ?_))
    | ((first | ((with_reducible refine HW_region ?_ ?_); (focus (rw [hn]; rfl))) | ((with_reducible refine HW_draw (id := 5) [] (.take 0 (.take 1 (.take 2 (.take 3 (.take 4 (.take 5 (.take 6 (.take 7 (.take 8 (.take 9 (.done))))))))))) mixed ?_ ?_ ?_); (focus (rw [hn]; rfl)); (focus decide +kernel))); simp -implicitDefEqProofs (maxSteps := 1000000) (disch := omega) only [go_sem, ↓bCs_slice, ↓els_slice, Int.reducePow, List.reduceReplicate, Int.reduceToNat, Int.reduceAdd, Int.reduceSub, Int.reduceLT, Int.reduceLE, Int.reduceMul, Int.reduceEq, Nat.reduceEqDiff, Nat.reduceLT, ↓reduceIte, Nat.reduceAdd, Nat.reduceSub, Nat.reduceMul, Nat.reduceLeDiff, reduceCtorEq])
    | (refine HW_cond (by rfl) (fun h => ?_) (fun h => ?_) <;> try simp only [not_true_eq_false, not_false_eq_true, decide_eq_true_eq, decide_eq_false_iff_not, Int.not_lt, Int.not_le, Bool.not_eq_true', Bool.not_eq_false', Bool.and_eq_true, Bool.or_eq_true, Bool.not_eq_true, Bool.not_eq_false, Bool.not_true, Bool.not_false, Bool.false_eq_true, Bool.true_eq_false, reduceCtorEq, Decidable.not_not] at h)
    | (with_reducible first | refine HW_skip ?_ | refine HW_exit ?_ | refine HW_ret ?_ | refine HW_block ?_ | refine HW_label ?_ | refine HW_scope ?_)
    | (simp only [xthen, xblock, xscope, ↓reduceIte, Nat.reduceEqDiff])
    | go_step
    | ((with_reducible refine Fork.mk (fun h => ?_) (fun h => ?_)) <;> (try simp only [not_true_eq_false, not_false_eq_true, decide_eq_true_eq, decide_eq_false_iff_not, Int.not_lt, Int.not_le, Bool.not_eq_true', Bool.not_eq_false', Bool.and_eq_true, Bool.or_eq_true, Bool.not_eq_true, Bool.not_eq_false, Bool.not_true, Bool.not_false, Bool.false_eq_true, Bool.true_eq_false, reduceCtorEq, Decidable.not_not] at h) <;> (try simp -implicitDefEqProofs (maxSteps := 1000000) (disch := omega) only [go_sem, ↓bCs_slice, ↓els_slice, Int.reducePow, List.reduceReplicate, Int.reduceToNat, Int.reduceAdd, Int.reduceSub, Int.reduceLT, Int.reduceLE, Int.reduceMul, Int.reduceEq, Nat.reduceEqDiff, Nat.reduceLT, ↓reduceIte, Nat.reduceAdd, Nat.reduceSub, Nat.reduceMul, Nat.reduceLeDiff, reduceCtorEq]))
    | (with_reducible refine And.intro ?_ ?_)
    | (refine fun (h : (_ : Bool) = _) => ?_; try simp only [not_true_eq_false, not_false_eq_true, decide_eq_true_eq, decide_eq_false_iff_not, Int.not_lt, Int.not_le, Bool.not_eq_true', Bool.not_eq_false', Bool.and_eq_true, Bool.or_eq_true, Bool.not_eq_true, Bool.not_eq_false, Bool.not_true, Bool.not_false, Bool.false_eq_true, Bool.true_eq_false, reduceCtorEq, Decidable.not_not] at h)
    | omega
    | ((refine ⟨_, fun _ h => h, ?_⟩); simp -implicitDefEqProofs (maxSteps := 1000000) (disch := omega) only [go_sem, ↓bCs_slice, ↓els_slice, Int.reducePow, List.reduceReplicate, Int.reduceToNat, Int.reduceAdd, Int.reduceSub, Int.reduceLT, Int.reduceLE, Int.reduceMul, Int.reduceEq, Nat.reduceEqDiff, Nat.reduceLT, ↓reduceIte, Nat.reduceAdd, Nat.reduceSub, Nat.reduceMul, Nat.reduceLeDiff, reduceCtorEq])
  refine HW_loopk [5, 0] (fun n e t => ∃ (i : Nat) (x : Int), x = i ∧ n = 300 - i ∧ 1 ≤ i ∧ i ≤ 256 ∧ e = [(5, .val (.int .i64 x)), (0, B s)] ∧ t = [] ∧ ∀ j, 1 ≤ j → j < i → j ≤ s.size → nameOk (s.extract 0 j) = false) 299 ⟨1, 1, rfl, rfl, by omega, by omega, rfl, rfl, fun j h1 h2 => by omega⟩ ?_
  rintro n e t ⟨i, x, rfl, rfl, hi, hi2, rfl, rfl, hw⟩
  repeat' first
    | ((with_reducible first | refine HW_seq_k fun _ _ => ?_ | refine HWr_succ ?_))
    | ((first | ((with_reducible refine HW_region ?_ ?_); (focus (rw [hn]; rfl))) | ((with_reducible refine HW_draw (id := 5) [] (.take 0 (.take 1 (.take 2 (.take 3 (.take 4 (.take 5 (.take 6 (.take 7 (.take 8 (.take 9 (.done))))))))))) mixed ?_ ?_ ?_); (focus (rw [hn]; rfl)); (focus decide +kernel))); simp -implicitDefEqProofs (maxSteps := 1000000) (disch := omega) only [go_sem, ↓bCs_slice, ↓els_slice, Int.reducePow, List.reduceReplicate, Int.reduceToNat, Int.reduceAdd, Int.reduceSub, Int.reduceLT, Int.reduceLE, Int.reduceMul, Int.reduceEq, Nat.reduceEqDiff, Nat.reduceLT, ↓reduceIte, Nat.reduceAdd, Nat.reduceSub, Nat.reduceMul, Nat.reduceLeDiff, reduceCtorEq])
    | (refine HW_cond (by rfl) (fun h => ?_) (fun h => ?_) <;> try simp only [not_true_eq_false, not_false_eq_true, decide_eq_true_eq, decide_eq_false_iff_not, Int.not_lt, Int.not_le, Bool.not_eq_true', Bool.not_eq_false', Bool.and_eq_true, Bool.or_eq_true, Bool.not_eq_true, Bool.not_eq_false, Bool.not_true, Bool.not_false, Bool.false_eq_true, Bool.true_eq_false, reduceCtorEq, Decidable.not_not] at h)
    | (with_reducible first | refine HW_skip ?_ | refine HW_exit ?_ | refine HW_ret ?_ | refine HW_block ?_ | refine HW_label ?_ | refine HW_scope ?_)
    | (simp only [xthen, xblock, xscope, ↓reduceIte, Nat.reduceEqDiff])
    | go_step
    | ((with_reducible refine Fork.mk (fun h => ?_) (fun h => ?_)) <;> (try simp only [not_true_eq_false, not_false_eq_true, decide_eq_true_eq, decide_eq_false_iff_not, Int.not_lt, Int.not_le, Bool.not_eq_true', Bool.not_eq_false', Bool.and_eq_true, Bool.or_eq_true, Bool.not_eq_true, Bool.not_eq_false, Bool.not_true, Bool.not_false, Bool.false_eq_true, Bool.true_eq_false, reduceCtorEq, Decidable.not_not] at h) <;> (try simp -implicitDefEqProofs (maxSteps := 1000000) (disch := omega) only [go_sem, ↓bCs_slice, ↓els_slice, Int.reducePow, List.reduceReplicate, Int.reduceToNat, Int.reduceAdd, Int.reduceSub, Int.reduceLT, Int.reduceLE, Int.reduceMul, Int.reduceEq, Nat.reduceEqDiff, Nat.reduceLT, ↓reduceIte, Nat.reduceAdd, Nat.reduceSub, Nat.reduceMul, Nat.reduceLeDiff, reduceCtorEq]))
    | (with_reducible refine And.intro ?_ ?_)
    | (refine fun (h : (_ : Bool) = _) => ?_; try simp only [not_true_eq_false, not_false_eq_true, decide_eq_true_eq, decide_eq_false_iff_not, Int.not_lt, Int.not_le, Bool.not_eq_true', Bool.not_eq_false', Bool.and_eq_true, Bool.or_eq_true, Bool.not_eq_true, Bool.not_eq_false, Bool.not_true, Bool.not_false, Bool.false_eq_true, Bool.true_eq_false, reduceCtorEq, Decidable.not_not] at h)
    | omega
    | ((refine ⟨_, fun _ h => h, ?_⟩); simp -implicitDefEqProofs (maxSteps := 1000000) (disch := omega) only [go_sem, ↓bCs_slice, ↓els_slice, Int.reducePow, List.reduceReplicate, Int.reduceToNat, Int.reduceAdd, Int.reduceSub, Int.reduceLT, Int.reduceLE, Int.reduceMul, Int.reduceEq, Nat.reduceEqDiff, Nat.reduceLT, ↓reduceIte, Nat.reduceAdd, Nat.reduceSub, Nat.reduceMul, Nat.reduceLeDiff, reduceCtorEq])
  · refine step0 (w39 _) rfl fun y hy => ?_
    subst hy
    refine ⟨trivial, ?_⟩
    simp -implicitDefEqProofs (maxSteps := 1000000) (disch := omega) only [go_sem, ↓bCs_slice, ↓els_slice, Int.reducePow, List.reduceReplicate, Int.reduceToNat, Int.reduceAdd, Int.reduceSub, Int.reduceLT, Int.reduceLE, Int.reduceMul, Int.reduceEq, Nat.reduceEqDiff, Nat.reduceLT, ↓reduceIte, Nat.reduceAdd, Nat.reduceSub, Nat.reduceMul, Nat.reduceLeDiff, reduceCtorEq]
    repeat' first
      | ((with_reducible first | refine HW_seq_k fun _ _ => ?_ | refine HWr_succ ?_))
      | ((first | ((with_reducible refine HW_region ?_ ?_); (focus (rw [hn]; rfl))) | ((with_reducible refine HW_draw (id := 5) [] (.take 0 (.take 1 (.take 2 (.take 3 (.take 4 (.take 5 (.take 6 (.take 7 (.take 8 (.take 9 (.done))))))))))) mixed ?_ ?_ ?_); (focus (rw [hn]; rfl)); (focus decide +kernel))); simp -implicitDefEqProofs (maxSteps := 1000000) (disch := omega) only [go_sem, ↓bCs_slice, ↓els_slice, Int.reducePow, List.reduceReplicate, Int.reduceToNat, Int.reduceAdd, Int.reduceSub, Int.reduceLT, Int.reduceLE, Int.reduceMul, Int.reduceEq, Nat.reduceEqDiff, Nat.reduceLT, ↓reduceIte, Nat.reduceAdd, Nat.reduceSub, Nat.reduceMul, Nat.reduceLeDiff, reduceCtorEq])
      | (refine HW_cond (by rfl) (fun h => ?_) (fun h => ?_) <;> try simp only [not_true_eq_false, not_false_eq_true, decide_eq_true_eq, decide_eq_false_iff_not, Int.not_lt, Int.not_le, Bool.not_eq_true', Bool.not_eq_false', Bool.and_eq_true, Bool.or_eq_true, Bool.not_eq_true, Bool.not_eq_false, Bool.not_true, Bool.not_false, Bool.false_eq_true, Bool.true_eq_false, reduceCtorEq, Decidable.not_not] at h)
      | (with_reducible first | refine HW_skip ?_ | refine HW_exit ?_ | refine HW_ret ?_ | refine HW_block ?_ | refine HW_label ?_ | refine HW_scope ?_)
      | (simp only [xthen, xblock, xscope, ↓reduceIte, Nat.reduceEqDiff])
      | go_step
      | ((with_reducible refine Fork.mk (fun h => ?_) (fun h => ?_)) <;> (try simp only [not_true_eq_false, not_false_eq_true, decide_eq_true_eq, decide_eq_false_iff_not, Int.not_lt, Int.not_le, Bool.not_eq_true', Bool.not_eq_false', Bool.and_eq_true, Bool.or_eq_true, Bool.not_eq_true, Bool.not_eq_false, Bool.not_true, Bool.not_false, Bool.false_eq_true, Bool.true_eq_false, reduceCtorEq, Decidable.not_not] at h) <;> (try simp -implicitDefEqProofs (maxSteps := 1000000) (disch := omega) only [go_sem, ↓bCs_slice, ↓els_slice, Int.reducePow, List.reduceReplicate, Int.reduceToNat, Int.reduceAdd, Int.reduceSub, Int.reduceLT, Int.reduceLE, Int.reduceMul, Int.reduceEq, Nat.reduceEqDiff, Nat.reduceLT, ↓reduceIte, Nat.reduceAdd, Nat.reduceSub, Nat.reduceMul, Nat.reduceLeDiff, reduceCtorEq]))
      | (with_reducible refine And.intro ?_ ?_)
      | (refine fun (h : (_ : Bool) = _) => ?_; try simp only [not_true_eq_false, not_false_eq_true, decide_eq_true_eq, decide_eq_false_iff_not, Int.not_lt, Int.not_le, Bool.not_eq_true', Bool.not_eq_false', Bool.and_eq_true, Bool.or_eq_true, Bool.not_eq_true, Bool.not_eq_false, Bool.not_true, Bool.not_false, Bool.false_eq_true, Bool.true_eq_false, reduceCtorEq, Decidable.not_not] at h)
      | omega
      | ((refine ⟨_, fun _ h => h, ?_⟩); simp -implicitDefEqProofs (maxSteps := 1000000) (disch := omega) only [go_sem, ↓bCs_slice, ↓els_slice, Int.reducePow, List.reduceReplicate, Int.reduceToNat, Int.reduceAdd, Int.reduceSub, Int.reduceLT, Int.reduceLE, Int.reduceMul, Int.reduceEq, Nat.reduceEqDiff, Nat.reduceLT, ↓reduceIte, Nat.reduceAdd, Nat.reduceSub, Nat.reduceMul, Nat.reduceLeDiff, reduceCtorEq])
    · rw [cutR, cutK_of (k := i) (by omega) (by assumption)]
    · refine ⟨300 - (i + 1), by omega, i + 1, _, ?_, rfl, by omega, by omega, rfl, fun j h1 h2 h3 => ?_⟩
      · omega
      · by_cases hj : j = i
        · subst hj; assumption
        · exact hw j h1 (by omega) h3
  all_goals
    rw [cutR, show cutK s = none from ?_]
    cases hc : cutK s with
    | none => rfl
    | some k =>
      exfalso
      obtain ⟨h1, h2, h3⟩ := cutK_spec hc
      have := hw k h2 (by omega) h1
      rw [h3.1] at this
      cases this
theorem wlen_at {s : ByteArray} {i : Nat} (h : i < s.size) : wlen (s.data.toList.drop i) = if strAt s i = 0 then some 1 else (wlen (s.data.toList.drop (i + 1 + (strAt s i).toNat))).map (· + (1 + (strAt s i).toNat)) := by
  rw [str_drop h, wlen, List.drop_drop]
theorem wlen_end {s : ByteArray} {i : Nat} (h : s.size ≤ i) : wlen (s.data.toList.drop i) = none := by
  have : s.data.toList.drop i = [] := List.drop_eq_nil_iff.2 (by rw [Array.length_toList]; exact h)
  rw [this, wlen]
/-- rdata.cut -/
theorem w55 (s : ByteArray) (hS : s.size ≤ 1099511627776) : Fn Try.prog 55 [B s] [] (fun r t => t = [] ∧ r = cutR s) := by
  refine fn_of Try.func55 rfl rfl (by show _ ≤ 47; simp) fun X hX hn hk => ?_
  rw [hk]
  repeat' first
    | ((with_reducible first | refine HW_seq_k fun _ _ => ?_ | refine HWr_succ ?_))
    | ((first | ((with_reducible refine HW_region ?_ ?_); (focus (rw [hn]; rfl))) | ((with_reducible refine HW_draw (id := 6) [] (.take 0 (.take 1 (.take 2 (.take 3 (.take 4 (.take 5 (.take 6 (.take 7 (.take 8 (.take 9 (.take 10 (.take 11 (.done))))))))))))) mixed ?_ ?_ ?_); (focus (rw [hn]; rfl)); (focus decide +kernel))); simp -implicitDefEqProofs (maxSteps := 1000000) (disch := omega) only [go_sem, ↓bCs_slice, ↓els_slice, Int.reducePow, List.reduceReplicate, Int.reduceToNat, Int.reduceAdd, Int.reduceSub, Int.reduceLT, Int.reduceLE, Int.reduceMul, Int.reduceEq, Nat.reduceEqDiff, Nat.reduceLT, ↓reduceIte, Nat.reduceAdd, Nat.reduceSub, Nat.reduceMul, Nat.reduceLeDiff, reduceCtorEq])
    | (refine HW_cond (by rfl) (fun h => ?_) (fun h => ?_) <;> try simp only [not_true_eq_false, not_false_eq_true, decide_eq_true_eq, decide_eq_false_iff_not, Int.not_lt, Int.not_le, Bool.not_eq_true', Bool.not_eq_false', Bool.and_eq_true, Bool.or_eq_true, Bool.not_eq_true, Bool.not_eq_false, Bool.not_true, Bool.not_false, Bool.false_eq_true, Bool.true_eq_false, reduceCtorEq, Decidable.not_not] at h)
    | (with_reducible first | refine HW_skip ?_ | refine HW_exit ?_ | refine HW_ret ?_ | refine HW_block ?_ | refine HW_label ?_ | refine HW_scope ?_)
    | (simp only [xthen, xblock, xscope, ↓reduceIte, Nat.reduceEqDiff])
    | go_step
    | ((with_reducible refine Fork.mk (fun h => ?_) (fun h => ?_)) <;> (try simp only [not_true_eq_false, not_false_eq_true, decide_eq_true_eq, decide_eq_false_iff_not, Int.not_lt, Int.not_le, Bool.not_eq_true', Bool.not_eq_false', Bool.and_eq_true, Bool.or_eq_true, Bool.not_eq_true, Bool.not_eq_false, Bool.not_true, Bool.not_false, Bool.false_eq_true, Bool.true_eq_false, reduceCtorEq, Decidable.not_not] at h) <;> (try simp -implicitDefEqProofs (maxSteps := 1000000) (disch := omega) only [go_sem, ↓bCs_slice, ↓els_slice, Int.reducePow, List.reduceReplicate, Int.reduceToNat, Int.reduceAdd, Int.reduceSub, Int.reduceLT, Int.reduceLE, Int.reduceMul, Int.reduceEq, Nat.reduceEqDiff, Nat.reduceLT, ↓reduceIte, Nat.reduceAdd, Nat.reduceSub, Nat.reduceMul, Nat.reduceLeDiff, reduceCtorEq]))
    | (with_reducible refine And.intro ?_ ?_)
    | (refine fun (h : (_ : Bool) = _) => ?_; try simp only [not_true_eq_false, not_false_eq_true, decide_eq_true_eq, decide_eq_false_iff_not, Int.not_lt, Int.not_le, Bool.not_eq_true', Bool.not_eq_false', Bool.and_eq_true, Bool.or_eq_true, Bool.not_eq_true, Bool.not_eq_false, Bool.not_true, Bool.not_false, Bool.false_eq_true, Bool.true_eq_false, reduceCtorEq, Decidable.not_not] at h)
    | omega
    | ((refine ⟨_, fun _ h => h, ?_⟩); simp -implicitDefEqProofs (maxSteps := 1000000) (disch := omega) only [go_sem, ↓bCs_slice, ↓els_slice, Int.reducePow, List.reduceReplicate, Int.reduceToNat, Int.reduceAdd, Int.reduceSub, Int.reduceLT, Int.reduceLE, Int.reduceMul, Int.reduceEq, Nat.reduceEqDiff, Nat.reduceLT, ↓reduceIte, Nat.reduceAdd, Nat.reduceSub, Nat.reduceMul, Nat.reduceLeDiff, reduceCtorEq])
  refine HW_loopk [5, 0] (fun n e t => ∃ (i : Nat) (x : Int), x = i ∧ n = s.size - i ∧ i ≤ s.size + 256 ∧ e = [(5, .val (.int .i64 x)), (0, B s)] ∧ t = [] ∧ (wlen (s.data.toList.drop i)).map (· + i) = wlen s.data.toList) s.size ⟨0, 0, rfl, rfl, by omega, rfl, rfl, ?_⟩ ?_
  · rw [List.drop_zero]
    cases wlen s.data.toList <;> rfl
  rintro n e t ⟨i, x, rfl, rfl, hi, rfl, rfl, hw⟩
  have hb := (strAt s i).toNat_lt
  repeat' first
    | ((with_reducible first | refine HW_seq_k fun _ _ => ?_ | refine HWr_succ ?_))
    | ((first | ((with_reducible refine HW_region ?_ ?_); (focus (rw [hn]; rfl))) | ((with_reducible refine HW_draw (id := 6) [] (.take 0 (.take 1 (.take 2 (.take 3 (.take 4 (.take 5 (.take 6 (.take 7 (.take 8 (.take 9 (.take 10 (.take 11 (.done))))))))))))) mixed ?_ ?_ ?_); (focus (rw [hn]; rfl)); (focus decide +kernel))); simp -implicitDefEqProofs (maxSteps := 1000000) (disch := omega) only [go_sem, ↓bCs_slice, ↓els_slice, Int.reducePow, List.reduceReplicate, Int.reduceToNat, Int.reduceAdd, Int.reduceSub, Int.reduceLT, Int.reduceLE, Int.reduceMul, Int.reduceEq, Nat.reduceEqDiff, Nat.reduceLT, ↓reduceIte, Nat.reduceAdd, Nat.reduceSub, Nat.reduceMul, Nat.reduceLeDiff, reduceCtorEq])
    | (refine HW_cond (by rfl) (fun h => ?_) (fun h => ?_) <;> try simp only [not_true_eq_false, not_false_eq_true, decide_eq_true_eq, decide_eq_false_iff_not, Int.not_lt, Int.not_le, Bool.not_eq_true', Bool.not_eq_false', Bool.and_eq_true, Bool.or_eq_true, Bool.not_eq_true, Bool.not_eq_false, Bool.not_true, Bool.not_false, Bool.false_eq_true, Bool.true_eq_false, reduceCtorEq, Decidable.not_not] at h)
    | (with_reducible first | refine HW_skip ?_ | refine HW_exit ?_ | refine HW_ret ?_ | refine HW_block ?_ | refine HW_label ?_ | refine HW_scope ?_)
    | (simp only [xthen, xblock, xscope, ↓reduceIte, Nat.reduceEqDiff])
    | go_step
    | ((with_reducible refine Fork.mk (fun h => ?_) (fun h => ?_)) <;> (try simp only [not_true_eq_false, not_false_eq_true, decide_eq_true_eq, decide_eq_false_iff_not, Int.not_lt, Int.not_le, Bool.not_eq_true', Bool.not_eq_false', Bool.and_eq_true, Bool.or_eq_true, Bool.not_eq_true, Bool.not_eq_false, Bool.not_true, Bool.not_false, Bool.false_eq_true, Bool.true_eq_false, reduceCtorEq, Decidable.not_not] at h) <;> (try simp -implicitDefEqProofs (maxSteps := 1000000) (disch := omega) only [go_sem, ↓bCs_slice, ↓els_slice, Int.reducePow, List.reduceReplicate, Int.reduceToNat, Int.reduceAdd, Int.reduceSub, Int.reduceLT, Int.reduceLE, Int.reduceMul, Int.reduceEq, Nat.reduceEqDiff, Nat.reduceLT, ↓reduceIte, Nat.reduceAdd, Nat.reduceSub, Nat.reduceMul, Nat.reduceLeDiff, reduceCtorEq]))
    | (with_reducible refine And.intro ?_ ?_)
    | (refine fun (h : (_ : Bool) = _) => ?_; try simp only [not_true_eq_false, not_false_eq_true, decide_eq_true_eq, decide_eq_false_iff_not, Int.not_lt, Int.not_le, Bool.not_eq_true', Bool.not_eq_false', Bool.and_eq_true, Bool.or_eq_true, Bool.not_eq_true, Bool.not_eq_false, Bool.not_true, Bool.not_false, Bool.false_eq_true, Bool.true_eq_false, reduceCtorEq, Decidable.not_not] at h)
    | omega
    | ((refine ⟨_, fun _ h => h, ?_⟩); simp -implicitDefEqProofs (maxSteps := 1000000) (disch := omega) only [go_sem, ↓bCs_slice, ↓els_slice, Int.reducePow, List.reduceReplicate, Int.reduceToNat, Int.reduceAdd, Int.reduceSub, Int.reduceLT, Int.reduceLE, Int.reduceMul, Int.reduceEq, Nat.reduceEqDiff, Nat.reduceLT, ↓reduceIte, Nat.reduceAdd, Nat.reduceSub, Nat.reduceMul, Nat.reduceLeDiff, reduceCtorEq])
  · refine ⟨s.size - (i + (1 + (strAt s i).toNat)), by omega, i + (1 + (strAt s i).toNat), _, ?_, rfl, by omega, rfl, ?_⟩
    · omega
    · rw [← hw, wlen_at (by omega : i < s.size), if_neg (fun h => absurd (u8_zero.2 h) (by assumption)), Option.map_map, Nat.add_assoc]
      congr 1
      funext x
      simp only [Function.comp]
      omega
  · have hl : wlen s.data.toList = some (i + 1) := by
      rw [← hw, wlen_at (by omega), if_pos (u8_zero.1 (by assumption))]
      simp only [Option.map_some, Nat.add_comm]
    rw [show ((i : Int) + 1).toNat = i + 1 by omega]
    refine step0 (w40 _) rfl fun y hy => ?_
    subst hy
    refine ⟨trivial, ?_⟩
    simp -implicitDefEqProofs (maxSteps := 1000000) (disch := omega) only [go_sem, ↓bCs_slice, ↓els_slice, Int.reducePow, List.reduceReplicate, Int.reduceToNat, Int.reduceAdd, Int.reduceSub, Int.reduceLT, Int.reduceLE, Int.reduceMul, Int.reduceEq, Nat.reduceEqDiff, Nat.reduceLT, ↓reduceIte, Nat.reduceAdd, Nat.reduceSub, Nat.reduceMul, Nat.reduceLeDiff, reduceCtorEq]
    repeat' first
      | ((with_reducible first | refine HW_seq_k fun _ _ => ?_ | refine HWr_succ ?_))
      | ((first | ((with_reducible refine HW_region ?_ ?_); (focus (rw [hn]; rfl))) | ((with_reducible refine HW_draw (id := 6) [] (.take 0 (.take 1 (.take 2 (.take 3 (.take 4 (.take 5 (.take 6 (.take 7 (.take 8 (.take 9 (.take 10 (.take 11 (.done))))))))))))) mixed ?_ ?_ ?_); (focus (rw [hn]; rfl)); (focus decide +kernel))); simp -implicitDefEqProofs (maxSteps := 1000000) (disch := omega) only [go_sem, ↓bCs_slice, ↓els_slice, Int.reducePow, List.reduceReplicate, Int.reduceToNat, Int.reduceAdd, Int.reduceSub, Int.reduceLT, Int.reduceLE, Int.reduceMul, Int.reduceEq, Nat.reduceEqDiff, Nat.reduceLT, ↓reduceIte, Nat.reduceAdd, Nat.reduceSub, Nat.reduceMul, Nat.reduceLeDiff, reduceCtorEq])
      | (refine HW_cond (by rfl) (fun h => ?_) (fun h => ?_) <;> try simp only [not_true_eq_false, not_false_eq_true, decide_eq_true_eq, decide_eq_false_iff_not, Int.not_lt, Int.not_le, Bool.not_eq_true', Bool.not_eq_false', Bool.and_eq_true, Bool.or_eq_true, Bool.not_eq_true, Bool.not_eq_false, Bool.not_true, Bool.not_false, Bool.false_eq_true, Bool.true_eq_false, reduceCtorEq, Decidable.not_not] at h)
      | (with_reducible first | refine HW_skip ?_ | refine HW_exit ?_ | refine HW_ret ?_ | refine HW_block ?_ | refine HW_label ?_ | refine HW_scope ?_)
      | (simp only [xthen, xblock, xscope, ↓reduceIte, Nat.reduceEqDiff])
      | go_step
      | ((with_reducible refine Fork.mk (fun h => ?_) (fun h => ?_)) <;> (try simp only [not_true_eq_false, not_false_eq_true, decide_eq_true_eq, decide_eq_false_iff_not, Int.not_lt, Int.not_le, Bool.not_eq_true', Bool.not_eq_false', Bool.and_eq_true, Bool.or_eq_true, Bool.not_eq_true, Bool.not_eq_false, Bool.not_true, Bool.not_false, Bool.false_eq_true, Bool.true_eq_false, reduceCtorEq, Decidable.not_not] at h) <;> (try simp -implicitDefEqProofs (maxSteps := 1000000) (disch := omega) only [go_sem, ↓bCs_slice, ↓els_slice, Int.reducePow, List.reduceReplicate, Int.reduceToNat, Int.reduceAdd, Int.reduceSub, Int.reduceLT, Int.reduceLE, Int.reduceMul, Int.reduceEq, Nat.reduceEqDiff, Nat.reduceLT, ↓reduceIte, Nat.reduceAdd, Nat.reduceSub, Nat.reduceMul, Nat.reduceLeDiff, reduceCtorEq]))
      | (with_reducible refine And.intro ?_ ?_)
      | (refine fun (h : (_ : Bool) = _) => ?_; try simp only [not_true_eq_false, not_false_eq_true, decide_eq_true_eq, decide_eq_false_iff_not, Int.not_lt, Int.not_le, Bool.not_eq_true', Bool.not_eq_false', Bool.and_eq_true, Bool.or_eq_true, Bool.not_eq_true, Bool.not_eq_false, Bool.not_true, Bool.not_false, Bool.false_eq_true, Bool.true_eq_false, reduceCtorEq, Decidable.not_not] at h)
      | omega
      | ((refine ⟨_, fun _ h => h, ?_⟩); simp -implicitDefEqProofs (maxSteps := 1000000) (disch := omega) only [go_sem, ↓bCs_slice, ↓els_slice, Int.reducePow, List.reduceReplicate, Int.reduceToNat, Int.reduceAdd, Int.reduceSub, Int.reduceLT, Int.reduceLE, Int.reduceMul, Int.reduceEq, Nat.reduceEqDiff, Nat.reduceLT, ↓reduceIte, Nat.reduceAdd, Nat.reduceSub, Nat.reduceMul, Nat.reduceLeDiff, reduceCtorEq])
    · rw [cutR, show cutK s = none from by simp only [cutK, hl, h, Bool.false_eq_true, if_false]]
    · rw [cutR, show cutK s = some (i + 1) from by simp only [cutK, hl, h, if_true], show ((i : Int) + 1).toNat = i + 1 by omega]
  · have hl : wlen s.data.toList = none := by
      rw [← hw, wlen_end (by omega)]
      rfl
    rw [cutR, cutK, hl]
end Go.Proofs.Ytoblmpfcjeammaa.V
