/-
  Names: the walk of the functions that tell whether bytes are a name.
-/
import Derived.Test.YtoblmpfcjeammaaVt
set_option linter.unusedVariables false
set_option linter.unusedSimpArgs false
set_option maxHeartbeats 4000000
namespace Go.Proofs.Ytoblmpfcjeammaa.V
open Go.RowKit Go.Proofs
attribute [local irreducible] HW Fn acall
/-- Labels up to the root. -/
def walk (l : List UInt8) : Bool :=
  match l with
  | [] => false
  | b :: r => if b = 0 then r.isEmpty else if 63 < b.toNat then false else walk (r.drop b.toNat)
termination_by l.length
decreasing_by simp; omega
def nameOk (s : ByteArray) : Bool := decide (s.size ≤ 255) && walk s.data.toList
theorem str_drop {s : ByteArray} {i : Nat} (h : i < s.size) : s.data.toList.drop i = strAt s i :: s.data.toList.drop (i + 1) := by
  have h' : i < s.data.toList.length := by rw [Array.length_toList]; exact h
  rw [List.drop_eq_getElem_cons h']
  congr 1
  rw [strAt, List.getD, List.getElem?_eq_getElem h']
  rfl
theorem u8_zero {b : UInt8} : (b.toNat : Int) = 0 ↔ b = 0 := by
  constructor
  · intro h
    exact UInt8.toNat_inj.1 (by simpa using h)
  · intro h
    rw [h]
    rfl
theorem walk_at {s : ByteArray} {i : Nat} (h : i < s.size) : walk (s.data.toList.drop i) = if strAt s i = 0 then decide (i + 1 = s.size) else if 63 < (strAt s i).toNat then false else walk (s.data.toList.drop (i + 1 + (strAt s i).toNat)) := by
  rw [str_drop h, walk, List.drop_drop]
  congr 1
  rw [Bool.eq_iff_iff, decide_eq_true_eq, List.isEmpty_iff, List.drop_eq_nil_iff, Array.length_toList]
  have : s.data.size = s.size := rfl
  omega
theorem walk_end {s : ByteArray} {i : Nat} (h : s.size ≤ i) : walk (s.data.toList.drop i) = false := by
  have : s.data.toList.drop i = [] := List.drop_eq_nil_iff.2 (by rw [Array.length_toList]; exact h)
  rw [this, walk]
/-- ciceroneref01.Can -/
theorem w39 (s : ByteArray) : Fn Try.prog 39 [.val (.string s)] [] (fun r t => t = [] ∧ r = .val (.bool (nameOk s))) := by
  refine fn_of Try.func39 rfl rfl (by show _ ≤ 29; simp) fun X hX hn hk => ?_
  rw [hk]
  repeat' first
    | ((with_reducible first | refine HW_seq_k fun _ _ => ?_ | refine HWr_succ ?_))
    | ((((with_reducible refine HW_region ?_ ?_); (focus (rw [hn]; rfl)))); simp -implicitDefEqProofs (maxSteps := 1000000) (disch := omega) only [go_sem, ↓bCs_slice, ↓els_slice, Int.reducePow, List.reduceReplicate, Int.reduceToNat, Int.reduceAdd, Int.reduceSub, Int.reduceLT, Int.reduceLE, Int.reduceMul, Int.reduceEq, Nat.reduceEqDiff, Nat.reduceLT, ↓reduceIte, Nat.reduceAdd, Nat.reduceSub, Nat.reduceMul, Nat.reduceLeDiff, reduceCtorEq])
    | (refine HW_cond (by rfl) (fun h => ?_) (fun h => ?_) <;> try simp only [not_true_eq_false, not_false_eq_true, decide_eq_true_eq, decide_eq_false_iff_not, Int.not_lt, Int.not_le, Bool.not_eq_true', Bool.not_eq_false', Bool.and_eq_true, Bool.or_eq_true, Bool.not_eq_true, Bool.not_eq_false, Bool.not_true, Bool.not_false, Bool.false_eq_true, Bool.true_eq_false, reduceCtorEq, Decidable.not_not] at h)
    | (with_reducible first | refine HW_skip ?_ | refine HW_exit ?_ | refine HW_ret ?_ | refine HW_block ?_ | refine HW_label ?_ | refine HW_scope ?_)
    | (simp only [xthen, xblock, xscope, ↓reduceIte, Nat.reduceEqDiff])
    | go_step
    | ((with_reducible refine Fork.mk (fun h => ?_) (fun h => ?_)) <;> (try simp only [not_true_eq_false, not_false_eq_true, decide_eq_true_eq, decide_eq_false_iff_not, Int.not_lt, Int.not_le, Bool.not_eq_true', Bool.not_eq_false', Bool.and_eq_true, Bool.or_eq_true, Bool.not_eq_true, Bool.not_eq_false, Bool.not_true, Bool.not_false, Bool.false_eq_true, Bool.true_eq_false, reduceCtorEq, Decidable.not_not] at h) <;> (try simp -implicitDefEqProofs (maxSteps := 1000000) (disch := omega) only [go_sem, ↓bCs_slice, ↓els_slice, Int.reducePow, List.reduceReplicate, Int.reduceToNat, Int.reduceAdd, Int.reduceSub, Int.reduceLT, Int.reduceLE, Int.reduceMul, Int.reduceEq, Nat.reduceEqDiff, Nat.reduceLT, ↓reduceIte, Nat.reduceAdd, Nat.reduceSub, Nat.reduceMul, Nat.reduceLeDiff, reduceCtorEq]))
    | (with_reducible refine And.intro ?_ ?_)
    | (refine fun (h : (_ : Bool) = _) => ?_; try simp only [not_true_eq_false, not_false_eq_true, decide_eq_true_eq, decide_eq_false_iff_not, Int.not_lt, Int.not_le, Bool.not_eq_true', Bool.not_eq_false', Bool.and_eq_true, Bool.or_eq_true, Bool.not_eq_true, Bool.not_eq_false, Bool.not_true, Bool.not_false, Bool.false_eq_true, Bool.true_eq_false, reduceCtorEq, Decidable.not_not] at h)
    | omega
    | ((refine ⟨_, fun _ h => h, ?_⟩); simp -implicitDefEqProofs (maxSteps := 1000000) (disch := omega) only [go_sem, ↓bCs_slice, ↓els_slice, Int.reducePow, List.reduceReplicate, Int.reduceToNat, Int.reduceAdd, Int.reduceSub, Int.reduceLT, Int.reduceLE, Int.reduceMul, Int.reduceEq, Nat.reduceEqDiff, Nat.reduceLT, ↓reduceIte, Nat.reduceAdd, Nat.reduceSub, Nat.reduceMul, Nat.reduceLeDiff, reduceCtorEq])
  · simp only [nameOk]
    rw [decide_eq_false (by omega)]
    rfl
  · have hN : nameOk s = walk s.data.toList := by
      simp only [nameOk]
      rw [decide_eq_true (by omega)]
      rfl
    refine HW_loopk [3, 0] (fun n e t => ∃ (i : Nat) (x : Int), x = i ∧ n = s.size - i ∧ i ≤ s.size + 255 ∧ e = [(3, .val (.int .i64 x)), (0, .val (.string s))] ∧ t = [] ∧ walk (s.data.toList.drop i) = nameOk s) s.size ⟨0, 0, rfl, rfl, by omega, rfl, rfl, ?_⟩ ?_
    · rw [hN]; rfl
    clear hN
    rintro n e t ⟨i, x, rfl, rfl, hi, rfl, rfl, hw⟩
    have hb := (strAt s i).toNat_lt
    repeat' first
      | ((with_reducible first | refine HW_seq_k fun _ _ => ?_ | refine HWr_succ ?_))
      | ((((with_reducible refine HW_region ?_ ?_); (focus (rw [hn]; rfl)))); simp -implicitDefEqProofs (maxSteps := 1000000) (disch := omega) only [go_sem, ↓bCs_slice, ↓els_slice, Int.reducePow, List.reduceReplicate, Int.reduceToNat, Int.reduceAdd, Int.reduceSub, Int.reduceLT, Int.reduceLE, Int.reduceMul, Int.reduceEq, Nat.reduceEqDiff, Nat.reduceLT, ↓reduceIte, Nat.reduceAdd, Nat.reduceSub, Nat.reduceMul, Nat.reduceLeDiff, reduceCtorEq])
      | (refine HW_cond (by rfl) (fun h => ?_) (fun h => ?_) <;> try simp only [not_true_eq_false, not_false_eq_true, decide_eq_true_eq, decide_eq_false_iff_not, Int.not_lt, Int.not_le, Bool.not_eq_true', Bool.not_eq_false', Bool.and_eq_true, Bool.or_eq_true, Bool.not_eq_true, Bool.not_eq_false, Bool.not_true, Bool.not_false, Bool.false_eq_true, Bool.true_eq_false, reduceCtorEq, Decidable.not_not] at h)
      | (with_reducible first | refine HW_skip ?_ | refine HW_exit ?_ | refine HW_ret ?_ | refine HW_block ?_ | refine HW_label ?_ | refine HW_scope ?_)
      | (simp only [xthen, xblock, xscope, ↓reduceIte, Nat.reduceEqDiff])
      | go_step
      | ((with_reducible refine Fork.mk (fun h => ?_) (fun h => ?_)) <;> (try simp only [not_true_eq_false, not_false_eq_true, decide_eq_true_eq, decide_eq_false_iff_not, Int.not_lt, Int.not_le, Bool.not_eq_true', Bool.not_eq_false', Bool.and_eq_true, Bool.or_eq_true, Bool.not_eq_true, Bool.not_eq_false, Bool.not_true, Bool.not_false, Bool.false_eq_true, Bool.true_eq_false, reduceCtorEq, Decidable.not_not] at h) <;> (try simp -implicitDefEqProofs (maxSteps := 1000000) (disch := omega) only [go_sem, ↓bCs_slice, ↓els_slice, Int.reducePow, List.reduceReplicate, Int.reduceToNat, Int.reduceAdd, Int.reduceSub, Int.reduceLT, Int.reduceLE, Int.reduceMul, Int.reduceEq, Nat.reduceEqDiff, Nat.reduceLT, ↓reduceIte, Nat.reduceAdd, Nat.reduceSub, Nat.reduceMul, Nat.reduceLeDiff, reduceCtorEq]))
      | (with_reducible refine And.intro ?_ ?_)
      | (refine fun (h : (_ : Bool) = _) => ?_; try simp only [not_true_eq_false, not_false_eq_true, decide_eq_true_eq, decide_eq_false_iff_not, Int.not_lt, Int.not_le, Bool.not_eq_true', Bool.not_eq_false', Bool.and_eq_true, Bool.or_eq_true, Bool.not_eq_true, Bool.not_eq_false, Bool.not_true, Bool.not_false, Bool.false_eq_true, Bool.true_eq_false, reduceCtorEq, Decidable.not_not] at h)
      | omega
      | ((refine ⟨_, fun _ h => h, ?_⟩); simp -implicitDefEqProofs (maxSteps := 1000000) (disch := omega) only [go_sem, ↓bCs_slice, ↓els_slice, Int.reducePow, List.reduceReplicate, Int.reduceToNat, Int.reduceAdd, Int.reduceSub, Int.reduceLT, Int.reduceLE, Int.reduceMul, Int.reduceEq, Nat.reduceEqDiff, Nat.reduceLT, ↓reduceIte, Nat.reduceAdd, Nat.reduceSub, Nat.reduceMul, Nat.reduceLeDiff, reduceCtorEq])
    · rw [← hw, walk_at (by omega), if_pos (u8_zero.1 (by assumption))]
      congr 2
      rw [Bool.eq_iff_iff, decide_eq_true_eq, decide_eq_true_eq]
      omega
    · rw [← hw, walk_at (by omega), if_neg (fun h => absurd (u8_zero.2 h) (by assumption)), if_pos (by omega)]
    · refine ⟨s.size - (i + (1 + (strAt s i).toNat)), by omega, i + (1 + (strAt s i).toNat), _, ?_, rfl, by omega, rfl, ?_⟩
      · omega
      · rw [← hw, walk_at (by omega : i < s.size), if_neg (fun h => absurd (u8_zero.2 h) (by assumption)), if_neg (by omega), Nat.add_assoc]
    · rw [← hw, walk_end (by omega)]
/-- A name's first label, and what stands behind. -/
def nextOk (s : ByteArray) : Prop := 0 < s.size ∧ (strAt s 0).toNat ≠ 0 ∧ (strAt s 0).toNat ≤ 63 ∧ 2 + (strAt s 0).toNat ≤ s.size
instance (s : ByteArray) : Decidable (nextOk s) := by unfold nextOk; infer_instance
def nextR (s : ByteArray) : AV := if nextOk s then .tup [.val (.string (s.extract 1 (1 + (strAt s 0).toNat))), .val (.string (s.extract (1 + (strAt s 0).toNat) s.size)), .val (.bool true)] else .tup [.val (.string ⟨#[]⟩), .val (.string s), .val (.bool false)]
/-- name.next -/
theorem w58 (s : ByteArray) : Fn Try.prog 58 [.val (.string s)] [] (fun r t => t = [] ∧ r = nextR s) := by
  refine fn_of Try.func58 rfl rfl (by show _ ≤ 39; simp) fun X hX hn hk => ?_
  rw [hk]
  have hb := (strAt s 0).toNat_lt
  repeat' first
    | ((with_reducible first | refine HW_seq_k fun _ _ => ?_ | refine HWr_succ ?_))
    | ((first | ((with_reducible refine HW_region ?_ ?_); (focus (rw [hn]; rfl))) | ((with_reducible refine HW_draw (id := 4) [] (.take 0 (.take 1 (.take 2 (.take 3 (.take 4 (.take 5 (.take 6 (.take 7 (.take 8 (.done)))))))))) mixed ?_ ?_ ?_); (focus (rw [hn]; rfl)); (focus decide +kernel))); simp -implicitDefEqProofs (maxSteps := 1000000) (disch := omega) only [go_sem, ↓bCs_slice, ↓els_slice, Int.reducePow, List.reduceReplicate, Int.reduceToNat, Int.reduceAdd, Int.reduceSub, Int.reduceLT, Int.reduceLE, Int.reduceMul, Int.reduceEq, Nat.reduceEqDiff, Nat.reduceLT, ↓reduceIte, Nat.reduceAdd, Nat.reduceSub, Nat.reduceMul, Nat.reduceLeDiff, reduceCtorEq])
    | (refine HW_cond (by rfl) (fun h => ?_) (fun h => ?_) <;> try simp only [not_true_eq_false, not_false_eq_true, decide_eq_true_eq, decide_eq_false_iff_not, Int.not_lt, Int.not_le, Bool.not_eq_true', Bool.not_eq_false', Bool.and_eq_true, Bool.or_eq_true, Bool.not_eq_true, Bool.not_eq_false, Bool.not_true, Bool.not_false, Bool.false_eq_true, Bool.true_eq_false, reduceCtorEq, Decidable.not_not] at h)
    | (with_reducible first | refine HW_skip ?_ | refine HW_exit ?_ | refine HW_ret ?_ | refine HW_block ?_ | refine HW_label ?_ | refine HW_scope ?_)
    | (simp only [xthen, xblock, xscope, ↓reduceIte, Nat.reduceEqDiff])
    | go_step
    | ((with_reducible refine Fork.mk (fun h => ?_) (fun h => ?_)) <;> (try simp only [not_true_eq_false, not_false_eq_true, decide_eq_true_eq, decide_eq_false_iff_not, Int.not_lt, Int.not_le, Bool.not_eq_true', Bool.not_eq_false', Bool.and_eq_true, Bool.or_eq_true, Bool.not_eq_true, Bool.not_eq_false, Bool.not_true, Bool.not_false, Bool.false_eq_true, Bool.true_eq_false, reduceCtorEq, Decidable.not_not] at h) <;> (try simp -implicitDefEqProofs (maxSteps := 1000000) (disch := omega) only [go_sem, ↓bCs_slice, ↓els_slice, Int.reducePow, List.reduceReplicate, Int.reduceToNat, Int.reduceAdd, Int.reduceSub, Int.reduceLT, Int.reduceLE, Int.reduceMul, Int.reduceEq, Nat.reduceEqDiff, Nat.reduceLT, ↓reduceIte, Nat.reduceAdd, Nat.reduceSub, Nat.reduceMul, Nat.reduceLeDiff, reduceCtorEq]))
    | (with_reducible refine And.intro ?_ ?_)
    | (refine fun (h : (_ : Bool) = _) => ?_; try simp only [not_true_eq_false, not_false_eq_true, decide_eq_true_eq, decide_eq_false_iff_not, Int.not_lt, Int.not_le, Bool.not_eq_true', Bool.not_eq_false', Bool.and_eq_true, Bool.or_eq_true, Bool.not_eq_true, Bool.not_eq_false, Bool.not_true, Bool.not_false, Bool.false_eq_true, Bool.true_eq_false, reduceCtorEq, Decidable.not_not] at h)
    | omega
    | ((refine ⟨_, fun _ h => h, ?_⟩); simp -implicitDefEqProofs (maxSteps := 1000000) (disch := omega) only [go_sem, ↓bCs_slice, ↓els_slice, Int.reducePow, List.reduceReplicate, Int.reduceToNat, Int.reduceAdd, Int.reduceSub, Int.reduceLT, Int.reduceLE, Int.reduceMul, Int.reduceEq, Nat.reduceEqDiff, Nat.reduceLT, ↓reduceIte, Nat.reduceAdd, Nat.reduceSub, Nat.reduceMul, Nat.reduceLeDiff, reduceCtorEq])
  all_goals first
    | (rw [nextR, if_neg (fun h => by simp only [nextOk] at h; omega)]; done)
    | (rw [nextR, if_pos (by simp only [nextOk]; omega), show (1 + ((strAt s 0).toNat : Int)).toNat = 1 + (strAt s 0).toNat by omega]; done)
/-- The name without labels. -/
def root : ByteArray := ⟨#[0]⟩
theorem walk_next {s : ByteArray} (h : nextOk s) : walk (s.extract (1 + (strAt s 0).toNat) s.size).data.toList = walk s.data.toList := by
  have h0 := walk_at (s := s) (i := 0) h.1
  rw [List.drop_zero] at h0
  obtain ⟨h1, h2, h3, h4⟩ := h
  rw [h0, if_neg (fun h => h2 (by rw [h]; rfl)), if_neg (by omega)]
  congr 1
  have : s.data.size = s.size := rfl
  rw [ByteArray.data_extract, Array.toList_extract, List.extract_eq_take_drop, List.take_of_length_le (by rw [List.length_drop, Array.length_toList]; omega)]
theorem walk_last {s : ByteArray} (h : ¬ nextOk s) : walk s.data.toList = decide (s = root) := by
  by_cases h0 : 0 < s.size
  · have h1 := walk_at (s := s) (i := 0) h0
    rw [List.drop_zero] at h1
    have hs : s.data.size = s.size := rfl
    have hroot : s = root ↔ strAt s 0 = 0 ∧ s.size = 1 := by
      constructor
      · intro e; subst e; exact ⟨rfl, rfl⟩
      · intro ⟨e1, e2⟩
        have : s.data.toList = [0] := by
          have := str_drop (s := s) (i := 0) h0
          rw [List.drop_zero, e1] at this
          rw [this, List.drop_eq_nil_iff.2 (by rw [Array.length_toList]; omega)]
        have h5 : s.data = #[0] := by rw [← Array.toArray_toList (xs := s.data), this]
        cases s
        exact congrArg ByteArray.mk h5
    rw [h1]
    by_cases hz : strAt s 0 = 0
    · rw [if_pos hz, Bool.eq_iff_iff, decide_eq_true_eq, decide_eq_true_eq, hroot]
      constructor
      · intro h; exact ⟨hz, by omega⟩
      · intro h; omega
    · have hz' : (strAt s 0).toNat ≠ 0 := fun h => hz (UInt8.toNat_inj.1 (by simpa using h))
      rw [if_neg hz, decide_eq_false (fun h => hz (hroot.1 h).1)]
      split
      · rfl
      · refine walk_end ?_
        simp only [nextOk] at h
        omega
  · have hs : s.data.size = s.size := rfl
    have he : s.data.toList = [] := List.eq_nil_of_length_eq_zero (by rw [Array.length_toList]; omega)
    rw [he, walk, decide_eq_false]
    intro e
    subst e
    exact h0 (by decide)
/-- name.Can -/
theorem w40 (s : ByteArray) : Fn Try.prog 40 [.val (.string s)] [] (fun r t => t = [] ∧ r = .val (.bool (nameOk s))) := by
  refine fn_of Try.func40 rfl rfl (by show _ ≤ 24; simp) fun X hX hn hk => ?_
  rw [hk]
  repeat' first
    | ((with_reducible first | refine HW_seq_k fun _ _ => ?_ | refine HWr_succ ?_))
    | ((((with_reducible refine HW_region ?_ ?_); (focus (rw [hn]; rfl)))); simp -implicitDefEqProofs (maxSteps := 1000000) (disch := omega) only [go_sem, ↓bCs_slice, ↓els_slice, Int.reducePow, List.reduceReplicate, Int.reduceToNat, Int.reduceAdd, Int.reduceSub, Int.reduceLT, Int.reduceLE, Int.reduceMul, Int.reduceEq, Nat.reduceEqDiff, Nat.reduceLT, ↓reduceIte, Nat.reduceAdd, Nat.reduceSub, Nat.reduceMul, Nat.reduceLeDiff, reduceCtorEq])
    | (refine HW_cond (by rfl) (fun h => ?_) (fun h => ?_) <;> try simp only [not_true_eq_false, not_false_eq_true, decide_eq_true_eq, decide_eq_false_iff_not, Int.not_lt, Int.not_le, Bool.not_eq_true', Bool.not_eq_false', Bool.and_eq_true, Bool.or_eq_true, Bool.not_eq_true, Bool.not_eq_false, Bool.not_true, Bool.not_false, Bool.false_eq_true, Bool.true_eq_false, reduceCtorEq, Decidable.not_not] at h)
    | (with_reducible first | refine HW_skip ?_ | refine HW_exit ?_ | refine HW_ret ?_ | refine HW_block ?_ | refine HW_label ?_ | refine HW_scope ?_)
    | (simp only [xthen, xblock, xscope, ↓reduceIte, Nat.reduceEqDiff])
    | go_step
    | ((with_reducible refine Fork.mk (fun h => ?_) (fun h => ?_)) <;> (try simp only [not_true_eq_false, not_false_eq_true, decide_eq_true_eq, decide_eq_false_iff_not, Int.not_lt, Int.not_le, Bool.not_eq_true', Bool.not_eq_false', Bool.and_eq_true, Bool.or_eq_true, Bool.not_eq_true, Bool.not_eq_false, Bool.not_true, Bool.not_false, Bool.false_eq_true, Bool.true_eq_false, reduceCtorEq, Decidable.not_not] at h) <;> (try simp -implicitDefEqProofs (maxSteps := 1000000) (disch := omega) only [go_sem, ↓bCs_slice, ↓els_slice, Int.reducePow, List.reduceReplicate, Int.reduceToNat, Int.reduceAdd, Int.reduceSub, Int.reduceLT, Int.reduceLE, Int.reduceMul, Int.reduceEq, Nat.reduceEqDiff, Nat.reduceLT, ↓reduceIte, Nat.reduceAdd, Nat.reduceSub, Nat.reduceMul, Nat.reduceLeDiff, reduceCtorEq]))
    | (with_reducible refine And.intro ?_ ?_)
    | (refine fun (h : (_ : Bool) = _) => ?_; try simp only [not_true_eq_false, not_false_eq_true, decide_eq_true_eq, decide_eq_false_iff_not, Int.not_lt, Int.not_le, Bool.not_eq_true', Bool.not_eq_false', Bool.and_eq_true, Bool.or_eq_true, Bool.not_eq_true, Bool.not_eq_false, Bool.not_true, Bool.not_false, Bool.false_eq_true, Bool.true_eq_false, reduceCtorEq, Decidable.not_not] at h)
    | omega
    | ((refine ⟨_, fun _ h => h, ?_⟩); simp -implicitDefEqProofs (maxSteps := 1000000) (disch := omega) only [go_sem, ↓bCs_slice, ↓els_slice, Int.reducePow, List.reduceReplicate, Int.reduceToNat, Int.reduceAdd, Int.reduceSub, Int.reduceLT, Int.reduceLE, Int.reduceMul, Int.reduceEq, Nat.reduceEqDiff, Nat.reduceLT, ↓reduceIte, Nat.reduceAdd, Nat.reduceSub, Nat.reduceMul, Nat.reduceLeDiff, reduceCtorEq])
  refine HW_loopk [3, 0] (fun n e t => ∃ (r : ByteArray), n = r.size ∧ e = [(3, .val (.string r)), (0, .val (.string s))] ∧ t = [] ∧ walk r.data.toList = walk s.data.toList) s.size ⟨s, rfl, rfl, rfl, rfl⟩ ?_
  rintro n e t ⟨r, rfl, rfl, rfl, hw⟩
  repeat' first
    | ((with_reducible first | refine HW_seq_k fun _ _ => ?_ | refine HWr_succ ?_))
    | ((((with_reducible refine HW_region ?_ ?_); (focus (rw [hn]; rfl)))); simp -implicitDefEqProofs (maxSteps := 1000000) (disch := omega) only [go_sem, ↓bCs_slice, ↓els_slice, Int.reducePow, List.reduceReplicate, Int.reduceToNat, Int.reduceAdd, Int.reduceSub, Int.reduceLT, Int.reduceLE, Int.reduceMul, Int.reduceEq, Nat.reduceEqDiff, Nat.reduceLT, ↓reduceIte, Nat.reduceAdd, Nat.reduceSub, Nat.reduceMul, Nat.reduceLeDiff, reduceCtorEq])
    | (refine HW_cond (by rfl) (fun h => ?_) (fun h => ?_) <;> try simp only [not_true_eq_false, not_false_eq_true, decide_eq_true_eq, decide_eq_false_iff_not, Int.not_lt, Int.not_le, Bool.not_eq_true', Bool.not_eq_false', Bool.and_eq_true, Bool.or_eq_true, Bool.not_eq_true, Bool.not_eq_false, Bool.not_true, Bool.not_false, Bool.false_eq_true, Bool.true_eq_false, reduceCtorEq, Decidable.not_not] at h)
    | (with_reducible first | refine HW_skip ?_ | refine HW_exit ?_ | refine HW_ret ?_ | refine HW_block ?_ | refine HW_label ?_ | refine HW_scope ?_)
    | (simp only [xthen, xblock, xscope, ↓reduceIte, Nat.reduceEqDiff])
    | go_step
    | ((with_reducible refine Fork.mk (fun h => ?_) (fun h => ?_)) <;> (try simp only [not_true_eq_false, not_false_eq_true, decide_eq_true_eq, decide_eq_false_iff_not, Int.not_lt, Int.not_le, Bool.not_eq_true', Bool.not_eq_false', Bool.and_eq_true, Bool.or_eq_true, Bool.not_eq_true, Bool.not_eq_false, Bool.not_true, Bool.not_false, Bool.false_eq_true, Bool.true_eq_false, reduceCtorEq, Decidable.not_not] at h) <;> (try simp -implicitDefEqProofs (maxSteps := 1000000) (disch := omega) only [go_sem, ↓bCs_slice, ↓els_slice, Int.reducePow, List.reduceReplicate, Int.reduceToNat, Int.reduceAdd, Int.reduceSub, Int.reduceLT, Int.reduceLE, Int.reduceMul, Int.reduceEq, Nat.reduceEqDiff, Nat.reduceLT, ↓reduceIte, Nat.reduceAdd, Nat.reduceSub, Nat.reduceMul, Nat.reduceLeDiff, reduceCtorEq]))
    | (with_reducible refine And.intro ?_ ?_)
    | (refine fun (h : (_ : Bool) = _) => ?_; try simp only [not_true_eq_false, not_false_eq_true, decide_eq_true_eq, decide_eq_false_iff_not, Int.not_lt, Int.not_le, Bool.not_eq_true', Bool.not_eq_false', Bool.and_eq_true, Bool.or_eq_true, Bool.not_eq_true, Bool.not_eq_false, Bool.not_true, Bool.not_false, Bool.false_eq_true, Bool.true_eq_false, reduceCtorEq, Decidable.not_not] at h)
    | omega
    | ((refine ⟨_, fun _ h => h, ?_⟩); simp -implicitDefEqProofs (maxSteps := 1000000) (disch := omega) only [go_sem, ↓bCs_slice, ↓els_slice, Int.reducePow, List.reduceReplicate, Int.reduceToNat, Int.reduceAdd, Int.reduceSub, Int.reduceLT, Int.reduceLE, Int.reduceMul, Int.reduceEq, Nat.reduceEqDiff, Nat.reduceLT, ↓reduceIte, Nat.reduceAdd, Nat.reduceSub, Nat.reduceMul, Nat.reduceLeDiff, reduceCtorEq])
  refine step0 (w58 r) rfl fun y hy => ?_
  subst hy
  by_cases hr : nextOk r
  · rw [nextR, if_pos hr]
    refine ⟨⟨trivial, trivial, trivial, trivial⟩, ?_⟩
    simp -implicitDefEqProofs (maxSteps := 1000000) (disch := omega) only [go_sem, ↓bCs_slice, ↓els_slice, Int.reducePow, List.reduceReplicate, Int.reduceToNat, Int.reduceAdd, Int.reduceSub, Int.reduceLT, Int.reduceLE, Int.reduceMul, Int.reduceEq, Nat.reduceEqDiff, Nat.reduceLT, ↓reduceIte, Nat.reduceAdd, Nat.reduceSub, Nat.reduceMul, Nat.reduceLeDiff, reduceCtorEq]
    repeat' first
      | ((with_reducible first | refine HW_seq_k fun _ _ => ?_ | refine HWr_succ ?_))
      | ((((with_reducible refine HW_region ?_ ?_); (focus (rw [hn]; rfl)))); simp -implicitDefEqProofs (maxSteps := 1000000) (disch := omega) only [go_sem, ↓bCs_slice, ↓els_slice, Int.reducePow, List.reduceReplicate, Int.reduceToNat, Int.reduceAdd, Int.reduceSub, Int.reduceLT, Int.reduceLE, Int.reduceMul, Int.reduceEq, Nat.reduceEqDiff, Nat.reduceLT, ↓reduceIte, Nat.reduceAdd, Nat.reduceSub, Nat.reduceMul, Nat.reduceLeDiff, reduceCtorEq])
      | (refine HW_cond (by rfl) (fun h => ?_) (fun h => ?_) <;> try simp only [not_true_eq_false, not_false_eq_true, decide_eq_true_eq, decide_eq_false_iff_not, Int.not_lt, Int.not_le, Bool.not_eq_true', Bool.not_eq_false', Bool.and_eq_true, Bool.or_eq_true, Bool.not_eq_true, Bool.not_eq_false, Bool.not_true, Bool.not_false, Bool.false_eq_true, Bool.true_eq_false, reduceCtorEq, Decidable.not_not] at h)
      | (with_reducible first | refine HW_skip ?_ | refine HW_exit ?_ | refine HW_ret ?_ | refine HW_block ?_ | refine HW_label ?_ | refine HW_scope ?_)
      | (simp only [xthen, xblock, xscope, ↓reduceIte, Nat.reduceEqDiff])
      | go_step
      | ((with_reducible refine Fork.mk (fun h => ?_) (fun h => ?_)) <;> (try simp only [not_true_eq_false, not_false_eq_true, decide_eq_true_eq, decide_eq_false_iff_not, Int.not_lt, Int.not_le, Bool.not_eq_true', Bool.not_eq_false', Bool.and_eq_true, Bool.or_eq_true, Bool.not_eq_true, Bool.not_eq_false, Bool.not_true, Bool.not_false, Bool.false_eq_true, Bool.true_eq_false, reduceCtorEq, Decidable.not_not] at h) <;> (try simp -implicitDefEqProofs (maxSteps := 1000000) (disch := omega) only [go_sem, ↓bCs_slice, ↓els_slice, Int.reducePow, List.reduceReplicate, Int.reduceToNat, Int.reduceAdd, Int.reduceSub, Int.reduceLT, Int.reduceLE, Int.reduceMul, Int.reduceEq, Nat.reduceEqDiff, Nat.reduceLT, ↓reduceIte, Nat.reduceAdd, Nat.reduceSub, Nat.reduceMul, Nat.reduceLeDiff, reduceCtorEq]))
      | (with_reducible refine And.intro ?_ ?_)
      | (refine fun (h : (_ : Bool) = _) => ?_; try simp only [not_true_eq_false, not_false_eq_true, decide_eq_true_eq, decide_eq_false_iff_not, Int.not_lt, Int.not_le, Bool.not_eq_true', Bool.not_eq_false', Bool.and_eq_true, Bool.or_eq_true, Bool.not_eq_true, Bool.not_eq_false, Bool.not_true, Bool.not_false, Bool.false_eq_true, Bool.true_eq_false, reduceCtorEq, Decidable.not_not] at h)
      | omega
      | ((refine ⟨_, fun _ h => h, ?_⟩); simp -implicitDefEqProofs (maxSteps := 1000000) (disch := omega) only [go_sem, ↓bCs_slice, ↓els_slice, Int.reducePow, List.reduceReplicate, Int.reduceToNat, Int.reduceAdd, Int.reduceSub, Int.reduceLT, Int.reduceLE, Int.reduceMul, Int.reduceEq, Nat.reduceEqDiff, Nat.reduceLT, ↓reduceIte, Nat.reduceAdd, Nat.reduceSub, Nat.reduceMul, Nat.reduceLeDiff, reduceCtorEq])
    refine ⟨_, ?_, _, rfl, rfl, ?_⟩
    · rw [ByteArray.size_extract]
      have := hr.1
      omega
    · rw [walk_next hr, hw]
  · have hl := walk_last hr
    rw [hw] at hl
    have hN : nameOk s = (decide (s.size ≤ 255) && decide (r = root)) := by rw [nameOk, hl]
    rw [nextR, if_neg hr]
    refine ⟨⟨trivial, trivial, trivial, trivial⟩, ?_⟩
    simp -implicitDefEqProofs (maxSteps := 1000000) (disch := omega) only [go_sem, ↓bCs_slice, ↓els_slice, Int.reducePow, List.reduceReplicate, Int.reduceToNat, Int.reduceAdd, Int.reduceSub, Int.reduceLT, Int.reduceLE, Int.reduceMul, Int.reduceEq, Nat.reduceEqDiff, Nat.reduceLT, ↓reduceIte, Nat.reduceAdd, Nat.reduceSub, Nat.reduceMul, Nat.reduceLeDiff, reduceCtorEq]
    repeat' first
      | ((with_reducible first | refine HW_seq_k fun _ _ => ?_ | refine HWr_succ ?_))
      | ((((with_reducible refine HW_region ?_ ?_); (focus (rw [hn]; rfl)))); simp -implicitDefEqProofs (maxSteps := 1000000) (disch := omega) only [go_sem, ↓bCs_slice, ↓els_slice, Int.reducePow, List.reduceReplicate, Int.reduceToNat, Int.reduceAdd, Int.reduceSub, Int.reduceLT, Int.reduceLE, Int.reduceMul, Int.reduceEq, Nat.reduceEqDiff, Nat.reduceLT, ↓reduceIte, Nat.reduceAdd, Nat.reduceSub, Nat.reduceMul, Nat.reduceLeDiff, reduceCtorEq])
      | (refine HW_cond (by rfl) (fun h => ?_) (fun h => ?_) <;> try simp only [not_true_eq_false, not_false_eq_true, decide_eq_true_eq, decide_eq_false_iff_not, Int.not_lt, Int.not_le, Bool.not_eq_true', Bool.not_eq_false', Bool.and_eq_true, Bool.or_eq_true, Bool.not_eq_true, Bool.not_eq_false, Bool.not_true, Bool.not_false, Bool.false_eq_true, Bool.true_eq_false, reduceCtorEq, Decidable.not_not] at h)
      | (with_reducible first | refine HW_skip ?_ | refine HW_exit ?_ | refine HW_ret ?_ | refine HW_block ?_ | refine HW_label ?_ | refine HW_scope ?_)
      | (simp only [xthen, xblock, xscope, ↓reduceIte, Nat.reduceEqDiff])
      | go_step
      | ((with_reducible refine Fork.mk (fun h => ?_) (fun h => ?_)) <;> (try simp only [not_true_eq_false, not_false_eq_true, decide_eq_true_eq, decide_eq_false_iff_not, Int.not_lt, Int.not_le, Bool.not_eq_true', Bool.not_eq_false', Bool.and_eq_true, Bool.or_eq_true, Bool.not_eq_true, Bool.not_eq_false, Bool.not_true, Bool.not_false, Bool.false_eq_true, Bool.true_eq_false, reduceCtorEq, Decidable.not_not] at h) <;> (try simp -implicitDefEqProofs (maxSteps := 1000000) (disch := omega) only [go_sem, ↓bCs_slice, ↓els_slice, Int.reducePow, List.reduceReplicate, Int.reduceToNat, Int.reduceAdd, Int.reduceSub, Int.reduceLT, Int.reduceLE, Int.reduceMul, Int.reduceEq, Nat.reduceEqDiff, Nat.reduceLT, ↓reduceIte, Nat.reduceAdd, Nat.reduceSub, Nat.reduceMul, Nat.reduceLeDiff, reduceCtorEq]))
      | (with_reducible refine And.intro ?_ ?_)
      | (refine fun (h : (_ : Bool) = _) => ?_; try simp only [not_true_eq_false, not_false_eq_true, decide_eq_true_eq, decide_eq_false_iff_not, Int.not_lt, Int.not_le, Bool.not_eq_true', Bool.not_eq_false', Bool.and_eq_true, Bool.or_eq_true, Bool.not_eq_true, Bool.not_eq_false, Bool.not_true, Bool.not_false, Bool.false_eq_true, Bool.true_eq_false, reduceCtorEq, Decidable.not_not] at h)
      | omega
      | ((refine ⟨_, fun _ h => h, ?_⟩); simp -implicitDefEqProofs (maxSteps := 1000000) (disch := omega) only [go_sem, ↓bCs_slice, ↓els_slice, Int.reducePow, List.reduceReplicate, Int.reduceToNat, Int.reduceAdd, Int.reduceSub, Int.reduceLT, Int.reduceLE, Int.reduceMul, Int.reduceEq, Nat.reduceEqDiff, Nat.reduceLT, ↓reduceIte, Nat.reduceAdd, Nat.reduceSub, Nat.reduceMul, Nat.reduceLeDiff, reduceCtorEq])
    · rw [hN, decide_eq_true (show r = root by assumption), Bool.and_true]
      congr 2
      rw [Bool.eq_iff_iff, decide_eq_true_eq, decide_eq_true_eq]
      omega
    · rw [hN, decide_eq_false (show ¬ r = root by assumption), Bool.and_false]
end Go.Proofs.Ytoblmpfcjeammaa.V
