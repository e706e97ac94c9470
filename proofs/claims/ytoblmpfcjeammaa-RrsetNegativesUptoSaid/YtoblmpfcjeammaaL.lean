/-
  Which sets can be kept.
-/
import Derived.Test.YtoblmpfcjeammaaK
set_option linter.unusedVariables false
set_option linter.unusedSimpArgs false
set_option maxHeartbeats 4000000
namespace Go.Proofs.Ytoblmpfcjeammaa.V
open Go.RowKit Go.Proofs
attribute [local irreducible] HW Fn acall
def keyOk (s : SetD) : Bool := nameOk s.name && shortB s.ty && shortB s.cl
/-- entry.key -/
theorem w47 (s : SetD) : Fn Try.prog 47 [.agg (setL s)] [] (fun r t => t = [] ∧ r = .val (.bool (keyOk s))) := by
  refine fn_of Try.func47 rfl rfl (by show _ ≤ 26; simp) fun X hX hn hk => ?_
  rw [hk]
  repeat' first
    | ((with_reducible first | refine HW_seq_k fun _ _ => ?_ | refine HWr_succ ?_))
    | ((((with_reducible refine HW_region ?_ ?_); (focus (rw [hn]; rfl)))); simp -implicitDefEqProofs (maxSteps := 1000000) (disch := omega) only [go_sem, ↓bCs_slice, ↓els_slice, Int.reducePow, List.reduceReplicate, Int.reduceToNat, Int.reduceAdd, Int.reduceSub, Int.reduceLT, Int.reduceLE, Int.reduceMul, Int.reduceEq, Nat.reduceEqDiff, Nat.reduceLT, ↓reduceIte, Nat.reduceAdd, Nat.reduceSub, Nat.reduceMul, Nat.reduceLeDiff, reduceCtorEq])
    | (refine HW_cond (by rfl) (fun h => ?_) (fun h => ?_) <;> try simp only [not_true_eq_false, not_false_eq_true, decide_eq_true_eq, decide_eq_false_iff_not, Int.not_lt, Int.not_le, Bool.not_eq_true', Bool.not_eq_false', Bool.and_eq_true, Bool.or_eq_true, Bool.not_eq_true, Bool.not_eq_false, Bool.not_true, Bool.not_false, Bool.false_eq_true, Bool.true_eq_false, reduceCtorEq, Decidable.not_not] at h)
    | (with_reducible first | refine HW_skip ?_ | refine HW_exit ?_ | refine HW_ret ?_ | refine HW_block ?_ | refine HW_label ?_ | refine HW_scope ?_)
    | (simp only [xthen, xblock, xscope, ↓reduceIte, Nat.reduceEqDiff])
    | (refine step0 (w40 _) rfl fun y hy => ?_; subst hy; refine ⟨by simp only [go_sem, reduceCtorEq], ?_⟩; simp -implicitDefEqProofs (maxSteps := 1000000) (disch := omega) only [go_sem, ↓bCs_slice, ↓els_slice, Int.reducePow, List.reduceReplicate, Int.reduceToNat, Int.reduceAdd, Int.reduceSub, Int.reduceLT, Int.reduceLE, Int.reduceMul, Int.reduceEq, Nat.reduceEqDiff, Nat.reduceLT, ↓reduceIte, Nat.reduceAdd, Nat.reduceSub, Nat.reduceMul, Nat.reduceLeDiff, reduceCtorEq])
    | go_step
    | ((with_reducible refine Fork.mk (fun h => ?_) (fun h => ?_)) <;> (try simp only [not_true_eq_false, not_false_eq_true, decide_eq_true_eq, decide_eq_false_iff_not, Int.not_lt, Int.not_le, Bool.not_eq_true', Bool.not_eq_false', Bool.and_eq_true, Bool.or_eq_true, Bool.not_eq_true, Bool.not_eq_false, Bool.not_true, Bool.not_false, Bool.false_eq_true, Bool.true_eq_false, reduceCtorEq, Decidable.not_not] at h) <;> (try simp -implicitDefEqProofs (maxSteps := 1000000) (disch := omega) only [go_sem, ↓bCs_slice, ↓els_slice, Int.reducePow, List.reduceReplicate, Int.reduceToNat, Int.reduceAdd, Int.reduceSub, Int.reduceLT, Int.reduceLE, Int.reduceMul, Int.reduceEq, Nat.reduceEqDiff, Nat.reduceLT, ↓reduceIte, Nat.reduceAdd, Nat.reduceSub, Nat.reduceMul, Nat.reduceLeDiff, reduceCtorEq]))
    | (with_reducible refine And.intro ?_ ?_)
    | (refine fun (h : (_ : Bool) = _) => ?_; try simp only [not_true_eq_false, not_false_eq_true, decide_eq_true_eq, decide_eq_false_iff_not, Int.not_lt, Int.not_le, Bool.not_eq_true', Bool.not_eq_false', Bool.and_eq_true, Bool.or_eq_true, Bool.not_eq_true, Bool.not_eq_false, Bool.not_true, Bool.not_false, Bool.false_eq_true, Bool.true_eq_false, reduceCtorEq, Decidable.not_not] at h)
    | omega
    | ((refine ⟨_, fun _ h => h, ?_⟩); simp -implicitDefEqProofs (maxSteps := 1000000) (disch := omega) only [go_sem, ↓bCs_slice, ↓els_slice, Int.reducePow, List.reduceReplicate, Int.reduceToNat, Int.reduceAdd, Int.reduceSub, Int.reduceLT, Int.reduceLE, Int.reduceMul, Int.reduceEq, Nat.reduceEqDiff, Nat.reduceLT, ↓reduceIte, Nat.reduceAdd, Nat.reduceSub, Nat.reduceMul, Nat.reduceLeDiff, reduceCtorEq])
  all_goals
    refine congrArg (fun b => AV.val (Value.bool b)) ?_
    simp only [keyOk, shortB]
    simp_all
    try first
      | omega
      | (rw [decide_eq_true (by omega : s.ty ≤ 65535), Bool.true_and, decide_eq_decide]; omega)
theorem nameOk_size {s : ByteArray} (h : nameOk s = true) : s.size ≤ 255 := by
  simp only [nameOk, Bool.and_eq_true, decide_eq_true_eq] at h
  exact h.1
theorem dataOk_size {n : Int} {s : ByteArray} (h : dataOk n s = true) : s.size ≤ 65535 := by
  unfold dataOk at h
  split at h
  · cases h
  · split at h
    · cases h
    · split at h
      · cases h
      · omega
theorem sumD_le {l : List ByteArray} (h : ∀ d ∈ l, d.size ≤ 65535) : sumD l ≤ 65537 * l.length := by
  induction l with
  | nil => simp [sumD]
  | cons d l ih =>
    have h1 := h d (by simp)
    have h2 := ih fun x hx => h x (by simp [hx])
    have : sumD (d :: l) = 2 + d.size + sumD l := by simp [sumD]
    rw [this, List.length_cons]
    omega
theorem sumD_ok {n : Int} {l : List ByteArray} (h : l.all (dataOk n) = true) : sumD l ≤ 65537 * l.length :=
  sumD_le fun d hd => dataOk_size (List.all_eq_true.1 h d hd)
theorem all_one {n : Int} {l : List ByteArray} (h : l.length = 1) : l.all (dataOk n) = dataOk n (l.getD 0 default) := by
  match l, h with
  | [d], _ => simp
theorem all_false {n : Int} {l : List ByteArray} {i : Nat} (h : i < l.length) (hd : dataOk n (l.getD i default) = false) : l.all (dataOk n) = false := by
  rw [List.all_eq_false]
  exact ⟨l.getD i default, by rw [getD_at h]; exact List.getElem_mem _, by rw [hd]; exact Bool.false_ne_true⟩
theorem all_snoc {n : Int} {l : List ByteArray} {i : Nat} (h : i < l.length) (ht : (l.take i).all (dataOk n) = true) (hd : dataOk n (l.getD i default) = true) : (l.take (i + 1)).all (dataOk n) = true := by
  rw [List.take_succ_eq_append_getElem h, List.all_append, ht, ← getD_at h]
  simp only [List.all_cons, hd, List.all_nil, Bool.and_self]
/-- Whether a set can be kept. -/
def setOk (s : SetD) : Bool := keyOk s && decide (1 ≤ s.rk ∧ s.rk ≤ 3 ∧ 0 ≤ s.ex ∧ s.ex ≤ 1099511627776 ∧ sizeD s ≤ 4000) &&
  (if s.kd = 0 then decide (s.zn = ⟨#[]⟩ ∧ s.ds ≠ [] ∧ s.ty ≠ 0) && s.ds.all (dataOk s.ty)
   else if s.kd = 1 ∨ s.kd = 2 then nameOk s.zn && decide (s.ds.length = 1 ∧ (s.ty = 0 ↔ s.kd = 2)) && s.ds.all (dataOk 6) else false)
def restOk (s : SetD) : Prop := keyOk s = true ∧ 1 ≤ s.rk ∧ s.rk ≤ 3 ∧ 0 ≤ s.ex ∧ s.ex ≤ 1099511627776
theorem setOk_0 {s : SetD} (h : restOk s) (hd : s.kd = 0) (hz : s.zn = ⟨#[]⟩) (hne : s.ds ≠ []) (ht : s.ty ≠ 0) : setOk s = (decide (sizeD s ≤ 4000) && s.ds.all (dataOk s.ty)) := by
  obtain ⟨h0, h1, h2, h3, h4⟩ := h
  unfold setOk
  rw [h0, if_pos hd, decide_eq_true (⟨hz, hne, ht⟩ : _ ∧ _ ∧ _), Bool.true_and, Bool.true_and]
  congr 1
  rw [decide_eq_decide]
  omega
theorem setOk_12 {s : SetD} (h : restOk s) (h0 : s.kd ≠ 0) (hd : s.kd = 1 ∨ s.kd = 2) (hz : nameOk s.zn = true) (hl : s.ds.length = 1) : setOk s = (decide (sizeD s ≤ 4000) && (decide (s.ty = 0 ↔ s.kd = 2) && dataOk 6 (s.ds.getD 0 default))) := by
  obtain ⟨g0, h1, h2, h3, h4⟩ := h
  unfold setOk
  rw [g0, if_neg h0, if_pos hd, hz, Bool.true_and, Bool.true_and, all_one hl]
  congr 1
  · rw [decide_eq_decide]; omega
  · congr 1
    rw [decide_eq_decide]
    exact ⟨fun h => h.2, fun h => ⟨hl, h⟩⟩
theorem sumD_ge (l : List ByteArray) : 2 * l.length ≤ sumD l := by
  induction l with
  | nil => simp [sumD]
  | cons d l ih =>
    have : sumD (d :: l) = 2 + d.size + sumD l := by simp [sumD]
    rw [this, List.length_cons]
    omega
theorem setOk_big {s : SetD} (h : 4000 < sizeD s) : setOk s = false := by
  unfold setOk
  rw [decide_eq_false (by omega : ¬ (1 ≤ s.rk ∧ s.rk ≤ 3 ∧ 0 ≤ s.ex ∧ s.ex ≤ 1099511627776 ∧ sizeD s ≤ 4000)), Bool.and_false, Bool.false_and]
theorem setOk_many {s : SetD} (h : 4000 < s.ds.length) : setOk s = false := setOk_big (by have := sumD_ge s.ds; simp only [sizeD]; omega)
theorem restOk_of {s : SetD} (h0 : nameOk s.name = true) (h1 : shortB s.ty = true) (h2 : shortB s.cl = true) (h3 : 1 ≤ s.rk) (h4 : s.rk ≤ 3) (h5 : 0 ≤ s.ex) (h6 : s.ex ≤ 1099511627776) : restOk s :=
  ⟨by simp only [keyOk, h0, h1, h2, Bool.and_self], h3, h4, h5, h6⟩
theorem vb_eq {a b : Bool} (h : b = a) : AV.val (.bool a) = .val (.bool b) := by rw [h]
/-- ciceroneref08.Can -/
theorem w34 (s : SetD) (h1 : short s.ds) (h4 : s.ds.length ≤ 1099511627776) : Fn Try.prog 34 [.agg (setL s)] [] (fun r t => t = [] ∧ r = .val (.bool (setOk s))) := by
  refine fn_of Try.func34 rfl rfl (by show _ ≤ 111; simp) fun X hX hn hk => ?_
  rw [hk]
  repeat' first
    | ((with_reducible first | refine HW_seq_k fun _ _ => ?_ | refine HWr_succ ?_))
    | ((((with_reducible refine HW_region ?_ ?_); (focus (rw [hn]; rfl)))); simp -implicitDefEqProofs (maxSteps := 1000000) (disch := omega) only [go_sem, ↓bCs_slice, ↓els_slice, Int.reducePow, List.reduceReplicate, Int.reduceToNat, Int.reduceAdd, Int.reduceSub, Int.reduceLT, Int.reduceLE, Int.reduceMul, Int.reduceEq, Nat.reduceEqDiff, Nat.reduceLT, ↓reduceIte, Nat.reduceAdd, Nat.reduceSub, Nat.reduceMul, Nat.reduceLeDiff, reduceCtorEq])
    | (refine HW_cond (by rfl) (fun h => ?_) (fun h => ?_) <;> try simp only [not_true_eq_false, not_false_eq_true, decide_eq_true_eq, decide_eq_false_iff_not, Int.not_lt, Int.not_le, Bool.not_eq_true', Bool.not_eq_false', Bool.and_eq_true, Bool.or_eq_true, Bool.not_eq_true, Bool.not_eq_false, Bool.not_true, Bool.not_false, Bool.false_eq_true, Bool.true_eq_false, reduceCtorEq, Decidable.not_not] at h)
    | (with_reducible first | refine HW_skip ?_ | refine HW_exit ?_ | refine HW_ret ?_ | refine HW_block ?_ | refine HW_label ?_ | refine HW_scope ?_)
    | (simp only [xthen, xblock, xscope, ↓reduceIte, Nat.reduceEqDiff])
    | (refine step0 (w39 _) rfl fun y hy => ?_; subst hy; refine ⟨by simp only [go_sem, reduceCtorEq], ?_⟩; simp -implicitDefEqProofs (maxSteps := 1000000) (disch := omega) only [go_sem, ↓bCs_slice, ↓els_slice, Int.reducePow, List.reduceReplicate, Int.reduceToNat, Int.reduceAdd, Int.reduceSub, Int.reduceLT, Int.reduceLE, Int.reduceMul, Int.reduceEq, Nat.reduceEqDiff, Nat.reduceLT, ↓reduceIte, Nat.reduceAdd, Nat.reduceSub, Nat.reduceMul, Nat.reduceLeDiff, reduceCtorEq])
    | (refine step0 (w53 _) rfl fun y hy => ?_; subst hy; refine ⟨by simp only [go_sem, reduceCtorEq], ?_⟩; simp -implicitDefEqProofs (maxSteps := 1000000) (disch := omega) only [go_sem, ↓bCs_slice, ↓els_slice, Int.reducePow, List.reduceReplicate, Int.reduceToNat, Int.reduceAdd, Int.reduceSub, Int.reduceLT, Int.reduceLE, Int.reduceMul, Int.reduceEq, Nat.reduceEqDiff, Nat.reduceLT, ↓reduceIte, Nat.reduceAdd, Nat.reduceSub, Nat.reduceMul, Nat.reduceLeDiff, reduceCtorEq])
    | (refine step0 (w51 _ _ (short_at h1 0)) rfl fun y hy => ?_; subst hy; refine ⟨by simp only [go_sem, reduceCtorEq], ?_⟩; simp -implicitDefEqProofs (maxSteps := 1000000) (disch := omega) only [go_sem, ↓bCs_slice, ↓els_slice, Int.reducePow, List.reduceReplicate, Int.reduceToNat, Int.reduceAdd, Int.reduceSub, Int.reduceLT, Int.reduceLE, Int.reduceMul, Int.reduceEq, Nat.reduceEqDiff, Nat.reduceLT, ↓reduceIte, Nat.reduceAdd, Nat.reduceSub, Nat.reduceMul, Nat.reduceLeDiff, reduceCtorEq])
    | go_step
    | ((with_reducible refine Fork.mk (fun h => ?_) (fun h => ?_)) <;> (try simp only [not_true_eq_false, not_false_eq_true, decide_eq_true_eq, decide_eq_false_iff_not, Int.not_lt, Int.not_le, Bool.not_eq_true', Bool.not_eq_false', Bool.and_eq_true, Bool.or_eq_true, Bool.not_eq_true, Bool.not_eq_false, Bool.not_true, Bool.not_false, Bool.false_eq_true, Bool.true_eq_false, reduceCtorEq, Decidable.not_not] at h) <;> (try simp -implicitDefEqProofs (maxSteps := 1000000) (disch := omega) only [go_sem, ↓bCs_slice, ↓els_slice, Int.reducePow, List.reduceReplicate, Int.reduceToNat, Int.reduceAdd, Int.reduceSub, Int.reduceLT, Int.reduceLE, Int.reduceMul, Int.reduceEq, Nat.reduceEqDiff, Nat.reduceLT, ↓reduceIte, Nat.reduceAdd, Nat.reduceSub, Nat.reduceMul, Nat.reduceLeDiff, reduceCtorEq]))
    | (with_reducible refine And.intro ?_ ?_)
    | (refine fun (h : (_ : Bool) = _) => ?_; try simp only [not_true_eq_false, not_false_eq_true, decide_eq_true_eq, decide_eq_false_iff_not, Int.not_lt, Int.not_le, Bool.not_eq_true', Bool.not_eq_false', Bool.and_eq_true, Bool.or_eq_true, Bool.not_eq_true, Bool.not_eq_false, Bool.not_true, Bool.not_false, Bool.false_eq_true, Bool.true_eq_false, reduceCtorEq, Decidable.not_not] at h)
    | omega
    | ((refine ⟨_, fun _ h => h, ?_⟩); simp -implicitDefEqProofs (maxSteps := 1000000) (disch := omega) only [go_sem, ↓bCs_slice, ↓els_slice, Int.reducePow, List.reduceReplicate, Int.reduceToNat, Int.reduceAdd, Int.reduceSub, Int.reduceLT, Int.reduceLE, Int.reduceMul, Int.reduceEq, Nat.reduceEqDiff, Nat.reduceLT, ↓reduceIte, Nat.reduceAdd, Nat.reduceSub, Nat.reduceMul, Nat.reduceLeDiff, reduceCtorEq])
  all_goals first
    | (refine congrArg (fun b => AV.val (Value.bool b)) ?_
       simp only [setOk, keyOk]
       simp_all
       try omega
       done)
    | exact vb_eq (setOk_many (by omega))
    | exact vb_eq (by rw [setOk_12 (restOk_of (by assumption) (by assumption) (by assumption) (by assumption) (by assumption) (by assumption) (by assumption)) (by omega) (by omega) (by assumption) (by omega), show dataOk 6 (s.ds.getD 0 default) = false by assumption]; simp)
    | (have hz : nameOk s.zn = true := by assumption
       have hN : nameOk s.name = true := by assumption
       have hD : dataOk 6 (s.ds.getD 0 default) = true := by assumption
       have hl : s.ds.length = 1 := by omega
       have hsum := sumD_ok (n := 6) (l := s.ds) (by rw [all_one hl, hD])
       refine step0 (w54 s (by have := nameOk_size hN; omega) (by have := nameOk_size hz; omega) (by omega) (by omega)) rfl fun y hy => ?_
       subst hy
       refine ⟨trivial, ?_⟩
       simp -implicitDefEqProofs (maxSteps := 1000000) (disch := omega) only [go_sem, ↓bCs_slice, ↓els_slice, Int.reducePow, List.reduceReplicate, Int.reduceToNat, Int.reduceAdd, Int.reduceSub, Int.reduceLT, Int.reduceLE, Int.reduceMul, Int.reduceEq, Nat.reduceEqDiff, Nat.reduceLT, ↓reduceIte, Nat.reduceAdd, Nat.reduceSub, Nat.reduceMul, Nat.reduceLeDiff, reduceCtorEq]
       repeat' first
         | ((with_reducible first | refine HW_seq_k fun _ _ => ?_ | refine HWr_succ ?_))
         | ((((with_reducible refine HW_region ?_ ?_); (focus (rw [hn]; rfl)))); simp -implicitDefEqProofs (maxSteps := 1000000) (disch := omega) only [go_sem, ↓bCs_slice, ↓els_slice, Int.reducePow, List.reduceReplicate, Int.reduceToNat, Int.reduceAdd, Int.reduceSub, Int.reduceLT, Int.reduceLE, Int.reduceMul, Int.reduceEq, Nat.reduceEqDiff, Nat.reduceLT, ↓reduceIte, Nat.reduceAdd, Nat.reduceSub, Nat.reduceMul, Nat.reduceLeDiff, reduceCtorEq])
         | (refine HW_cond (by rfl) (fun h => ?_) (fun h => ?_) <;> try simp only [not_true_eq_false, not_false_eq_true, decide_eq_true_eq, decide_eq_false_iff_not, Int.not_lt, Int.not_le, Bool.not_eq_true', Bool.not_eq_false', Bool.and_eq_true, Bool.or_eq_true, Bool.not_eq_true, Bool.not_eq_false, Bool.not_true, Bool.not_false, Bool.false_eq_true, Bool.true_eq_false, reduceCtorEq, Decidable.not_not] at h)
         | (with_reducible first | refine HW_skip ?_ | refine HW_exit ?_ | refine HW_ret ?_ | refine HW_block ?_ | refine HW_label ?_ | refine HW_scope ?_)
         | (simp only [xthen, xblock, xscope, ↓reduceIte, Nat.reduceEqDiff])
         | go_step
         | ((with_reducible refine Fork.mk (fun h => ?_) (fun h => ?_)) <;> (try simp only [not_true_eq_false, not_false_eq_true, decide_eq_true_eq, decide_eq_false_iff_not, Int.not_lt, Int.not_le, Bool.not_eq_true', Bool.not_eq_false', Bool.and_eq_true, Bool.or_eq_true, Bool.not_eq_true, Bool.not_eq_false, Bool.not_true, Bool.not_false, Bool.false_eq_true, Bool.true_eq_false, reduceCtorEq, Decidable.not_not] at h) <;> (try simp -implicitDefEqProofs (maxSteps := 1000000) (disch := omega) only [go_sem, ↓bCs_slice, ↓els_slice, Int.reducePow, List.reduceReplicate, Int.reduceToNat, Int.reduceAdd, Int.reduceSub, Int.reduceLT, Int.reduceLE, Int.reduceMul, Int.reduceEq, Nat.reduceEqDiff, Nat.reduceLT, ↓reduceIte, Nat.reduceAdd, Nat.reduceSub, Nat.reduceMul, Nat.reduceLeDiff, reduceCtorEq]))
         | (with_reducible refine And.intro ?_ ?_)
         | (refine fun (h : (_ : Bool) = _) => ?_; try simp only [not_true_eq_false, not_false_eq_true, decide_eq_true_eq, decide_eq_false_iff_not, Int.not_lt, Int.not_le, Bool.not_eq_true', Bool.not_eq_false', Bool.and_eq_true, Bool.or_eq_true, Bool.not_eq_true, Bool.not_eq_false, Bool.not_true, Bool.not_false, Bool.false_eq_true, Bool.true_eq_false, reduceCtorEq, Decidable.not_not] at h)
         | omega
         | ((refine ⟨_, fun _ h => h, ?_⟩); simp -implicitDefEqProofs (maxSteps := 1000000) (disch := omega) only [go_sem, ↓bCs_slice, ↓els_slice, Int.reducePow, List.reduceReplicate, Int.reduceToNat, Int.reduceAdd, Int.reduceSub, Int.reduceLT, Int.reduceLE, Int.reduceMul, Int.reduceEq, Nat.reduceEqDiff, Nat.reduceLT, ↓reduceIte, Nat.reduceAdd, Nat.reduceSub, Nat.reduceMul, Nat.reduceLeDiff, reduceCtorEq])
       refine vb_eq ?_
       have hb : (decide (s.ty = 0) == decide (s.kd = 2)) = true := by assumption
       rw [setOk_12 (restOk_of (by assumption) (by assumption) (by assumption) (by assumption) (by assumption) (by assumption) (by assumption)) (by omega) (by omega) (by assumption) (by omega), hD, decide_eq_true (show s.ty = 0 ↔ s.kd = 2 by simpa using hb)]
       simp only [Bool.and_self, Bool.and_true, decide_eq_decide]
       omega)
    | skip
  have hkd : s.kd = 0 := by assumption
  have hzn : s.zn = ⟨#[]⟩ := by assumption
  have hne : s.ds ≠ [] := fun e => by
    have : s.ds.length = 0 := by rw [e]; rfl
    omega
  have hty : s.ty ≠ 0 := by assumption
  have hN : nameOk s.name = true := by assumption
  have hR : restOk s := restOk_of (by assumption) (by assumption) (by assumption) (by assumption) (by assumption) (by assumption) (by assumption)
  have hL : s.ds.length ≤ 4000 := by omega
  refine HW_loopk [68, 67, 66, 1] (fun n e t => ∃ i : Nat, n = s.ds.length - i ∧ i ≤ s.ds.length ∧ e = [(68, I i), (67, I s.ds.length), (66, BB s.ds), (1, .ref 1 0 0)] ∧ t = [⟨1, 0, .cells 29 (setL s)⟩] ∧ (s.ds.take i).all (dataOk s.ty) = true) s.ds.length ⟨0, rfl, by omega, rfl, rfl, by simp⟩ ?_
  rintro n e t ⟨i, rfl, hi, rfl, rfl, hw⟩
  repeat' first
    | ((with_reducible first | refine HW_seq_k fun _ _ => ?_ | refine HWr_succ ?_))
    | ((((with_reducible refine HW_region ?_ ?_); (focus (rw [hn]; rfl)))); simp -implicitDefEqProofs (maxSteps := 1000000) (disch := omega) only [go_sem, ↓bCs_slice, ↓els_slice, Int.reducePow, List.reduceReplicate, Int.reduceToNat, Int.reduceAdd, Int.reduceSub, Int.reduceLT, Int.reduceLE, Int.reduceMul, Int.reduceEq, Nat.reduceEqDiff, Nat.reduceLT, ↓reduceIte, Nat.reduceAdd, Nat.reduceSub, Nat.reduceMul, Nat.reduceLeDiff, reduceCtorEq])
    | (refine HW_cond (by rfl) (fun h => ?_) (fun h => ?_) <;> try simp only [not_true_eq_false, not_false_eq_true, decide_eq_true_eq, decide_eq_false_iff_not, Int.not_lt, Int.not_le, Bool.not_eq_true', Bool.not_eq_false', Bool.and_eq_true, Bool.or_eq_true, Bool.not_eq_true, Bool.not_eq_false, Bool.not_true, Bool.not_false, Bool.false_eq_true, Bool.true_eq_false, reduceCtorEq, Decidable.not_not] at h)
    | (with_reducible first | refine HW_skip ?_ | refine HW_exit ?_ | refine HW_ret ?_ | refine HW_block ?_ | refine HW_label ?_ | refine HW_scope ?_)
    | (simp only [xthen, xblock, xscope, ↓reduceIte, Nat.reduceEqDiff])
    | (refine step0 (w51 _ _ (short_at h1 i)) rfl fun y hy => ?_; subst hy; refine ⟨by simp only [go_sem, reduceCtorEq], ?_⟩; simp -implicitDefEqProofs (maxSteps := 1000000) (disch := omega) only [go_sem, ↓bCs_slice, ↓els_slice, Int.reducePow, List.reduceReplicate, Int.reduceToNat, Int.reduceAdd, Int.reduceSub, Int.reduceLT, Int.reduceLE, Int.reduceMul, Int.reduceEq, Nat.reduceEqDiff, Nat.reduceLT, ↓reduceIte, Nat.reduceAdd, Nat.reduceSub, Nat.reduceMul, Nat.reduceLeDiff, reduceCtorEq])
    | go_step
    | ((with_reducible refine Fork.mk (fun h => ?_) (fun h => ?_)) <;> (try simp only [not_true_eq_false, not_false_eq_true, decide_eq_true_eq, decide_eq_false_iff_not, Int.not_lt, Int.not_le, Bool.not_eq_true', Bool.not_eq_false', Bool.and_eq_true, Bool.or_eq_true, Bool.not_eq_true, Bool.not_eq_false, Bool.not_true, Bool.not_false, Bool.false_eq_true, Bool.true_eq_false, reduceCtorEq, Decidable.not_not] at h) <;> (try simp -implicitDefEqProofs (maxSteps := 1000000) (disch := omega) only [go_sem, ↓bCs_slice, ↓els_slice, Int.reducePow, List.reduceReplicate, Int.reduceToNat, Int.reduceAdd, Int.reduceSub, Int.reduceLT, Int.reduceLE, Int.reduceMul, Int.reduceEq, Nat.reduceEqDiff, Nat.reduceLT, ↓reduceIte, Nat.reduceAdd, Nat.reduceSub, Nat.reduceMul, Nat.reduceLeDiff, reduceCtorEq]))
    | (with_reducible refine And.intro ?_ ?_)
    | (refine fun (h : (_ : Bool) = _) => ?_; try simp only [not_true_eq_false, not_false_eq_true, decide_eq_true_eq, decide_eq_false_iff_not, Int.not_lt, Int.not_le, Bool.not_eq_true', Bool.not_eq_false', Bool.and_eq_true, Bool.or_eq_true, Bool.not_eq_true, Bool.not_eq_false, Bool.not_true, Bool.not_false, Bool.false_eq_true, Bool.true_eq_false, reduceCtorEq, Decidable.not_not] at h)
    | omega
    | ((refine ⟨_, fun _ h => h, ?_⟩); simp -implicitDefEqProofs (maxSteps := 1000000) (disch := omega) only [go_sem, ↓bCs_slice, ↓els_slice, Int.reducePow, List.reduceReplicate, Int.reduceToNat, Int.reduceAdd, Int.reduceSub, Int.reduceLT, Int.reduceLE, Int.reduceMul, Int.reduceEq, Nat.reduceEqDiff, Nat.reduceLT, ↓reduceIte, Nat.reduceAdd, Nat.reduceSub, Nat.reduceMul, Nat.reduceLeDiff, reduceCtorEq])
  · exact vb_eq (by rw [setOk_0 hR hkd hzn hne hty, all_false (i := i) (by omega) (by assumption), Bool.and_false])
  · exact ⟨_, by omega, i + 1, rfl, by omega, rfl, all_snoc (by omega) hw (by assumption)⟩
  · have hA : s.ds.all (dataOk s.ty) = true := by rw [List.take_of_length_le (by omega)] at hw; exact hw
    have hsum := sumD_ok hA
    refine step0 (w54 s (by have := nameOk_size hN; omega) (by rw [hzn]; decide) (by omega) (by omega)) rfl fun y hy => ?_
    subst hy
    refine ⟨trivial, ?_⟩
    simp -implicitDefEqProofs (maxSteps := 1000000) (disch := omega) only [go_sem, ↓bCs_slice, ↓els_slice, Int.reducePow, List.reduceReplicate, Int.reduceToNat, Int.reduceAdd, Int.reduceSub, Int.reduceLT, Int.reduceLE, Int.reduceMul, Int.reduceEq, Nat.reduceEqDiff, Nat.reduceLT, ↓reduceIte, Nat.reduceAdd, Nat.reduceSub, Nat.reduceMul, Nat.reduceLeDiff, reduceCtorEq]
    repeat' first
      | ((with_reducible first | refine HW_seq_k fun _ _ => ?_ | refine HWr_succ ?_))
      | ((((with_reducible refine HW_region ?_ ?_); (focus (rw [hn]; rfl)))); simp -implicitDefEqProofs (maxSteps := 1000000) (disch := omega) only [go_sem, ↓bCs_slice, ↓els_slice, Int.reducePow, List.reduceReplicate, Int.reduceToNat, Int.reduceAdd, Int.reduceSub, Int.reduceLT, Int.reduceLE, Int.reduceMul, Int.reduceEq, Nat.reduceEqDiff, Nat.reduceLT, ↓reduceIte, Nat.reduceAdd, Nat.reduceSub, Nat.reduceMul, Nat.reduceLeDiff, reduceCtorEq])
      | (refine HW_cond (by rfl) (fun h => ?_) (fun h => ?_) <;> try simp only [not_true_eq_false, not_false_eq_true, decide_eq_true_eq, decide_eq_false_iff_not, Int.not_lt, Int.not_le, Bool.not_eq_true', Bool.not_eq_false', Bool.and_eq_true, Bool.or_eq_true, Bool.not_eq_true, Bool.not_eq_false, Bool.not_true, Bool.not_false, Bool.false_eq_true, Bool.true_eq_false, reduceCtorEq, Decidable.not_not] at h)
      | (with_reducible first | refine HW_skip ?_ | refine HW_exit ?_ | refine HW_ret ?_ | refine HW_block ?_ | refine HW_label ?_ | refine HW_scope ?_)
      | (simp only [xthen, xblock, xscope, ↓reduceIte, Nat.reduceEqDiff])
      | go_step
      | ((with_reducible refine Fork.mk (fun h => ?_) (fun h => ?_)) <;> (try simp only [not_true_eq_false, not_false_eq_true, decide_eq_true_eq, decide_eq_false_iff_not, Int.not_lt, Int.not_le, Bool.not_eq_true', Bool.not_eq_false', Bool.and_eq_true, Bool.or_eq_true, Bool.not_eq_true, Bool.not_eq_false, Bool.not_true, Bool.not_false, Bool.false_eq_true, Bool.true_eq_false, reduceCtorEq, Decidable.not_not] at h) <;> (try simp -implicitDefEqProofs (maxSteps := 1000000) (disch := omega) only [go_sem, ↓bCs_slice, ↓els_slice, Int.reducePow, List.reduceReplicate, Int.reduceToNat, Int.reduceAdd, Int.reduceSub, Int.reduceLT, Int.reduceLE, Int.reduceMul, Int.reduceEq, Nat.reduceEqDiff, Nat.reduceLT, ↓reduceIte, Nat.reduceAdd, Nat.reduceSub, Nat.reduceMul, Nat.reduceLeDiff, reduceCtorEq]))
      | (with_reducible refine And.intro ?_ ?_)
      | (refine fun (h : (_ : Bool) = _) => ?_; try simp only [not_true_eq_false, not_false_eq_true, decide_eq_true_eq, decide_eq_false_iff_not, Int.not_lt, Int.not_le, Bool.not_eq_true', Bool.not_eq_false', Bool.and_eq_true, Bool.or_eq_true, Bool.not_eq_true, Bool.not_eq_false, Bool.not_true, Bool.not_false, Bool.false_eq_true, Bool.true_eq_false, reduceCtorEq, Decidable.not_not] at h)
      | omega
      | ((refine ⟨_, fun _ h => h, ?_⟩); simp -implicitDefEqProofs (maxSteps := 1000000) (disch := omega) only [go_sem, ↓bCs_slice, ↓els_slice, Int.reducePow, List.reduceReplicate, Int.reduceToNat, Int.reduceAdd, Int.reduceSub, Int.reduceLT, Int.reduceLE, Int.reduceMul, Int.reduceEq, Nat.reduceEqDiff, Nat.reduceLT, ↓reduceIte, Nat.reduceAdd, Nat.reduceSub, Nat.reduceMul, Nat.reduceLeDiff, reduceCtorEq])
    refine vb_eq ?_
    rw [setOk_0 hR hkd hzn hne hty, hA, Bool.and_true, decide_eq_decide]
    omega
end Go.Proofs.Ytoblmpfcjeammaa.V
