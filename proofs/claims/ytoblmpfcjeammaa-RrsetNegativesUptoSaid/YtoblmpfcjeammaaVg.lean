/-
  Conversions, min and max, functions made: what they do to the abstract memory, and that Go's do the same. Conditions: none; plain definitions and lemmas, over any program.
-/
import Derived.Test.YtoblmpfcjeammaaVf
set_option linter.unusedVariables false
set_option linter.unusedSimpArgs false
namespace Go.Proofs.Ytoblmpfcjeammaa.V
open Go.RowKit
section
variable {P : Program} {C : Ctx} {w : World} {cur : Cur} {t : Tab}

/-! ### Conversions -/
def unb : List AV → UInt8
  | [.val (.int _ n)] => UInt8.ofNat n.toNat
  | _ => 0
def unB (xs : List (List AV)) : ByteArray := ⟨(xs.map unb).toArray⟩
theorem unB_bCs (s : ByteArray) : unB (bCs s) = s := by
  unfold unB bCs
  have : (s.data.toList.map bC).map unb = s.data.toList := by
    rw [List.map_map]
    conv => rhs; rw [← List.map_id s.data.toList]
    apply List.map_congr_left
    intro b _
    simp [unb, bC]
  rw [this]
theorem unB_size (xs : List (List AV)) : (unB xs).size = xs.length := by
  show ((xs.map unb).toArray).size = _
  simp
theorem bCs_length (s : ByteArray) : (bCs s).length = s.size := by simp [bCs]
def aconv (P : Program) (d : Option Nat) (src dst : TypeId) (x : AV) (t : Tab) : AR :=
  match P.underlying dst with
  | some (.int k) => match x with
    | .val (.int _ n) => .need ((P.underlying src).isSome = true) (.ok (.val (.int k (k.wrap n))) t)
    | _ => .stuck
  | some .string => match P.underlying src with
    | some (.slice e) => match elemsOf t x with
      | some xs => .need (P.underlying e = some (.int .u8) ∧ xs = bCs (unB xs)) (.ok (.val (.string (unB xs))) t)
      | none => .stuck
    | some .string => match x with
      | .val (.string s) => .ok (.val (.string s)) t
      | _ => .stuck
    | _ => .stuck
  | some (.slice e) => match P.underlying src, x, d with
    | some .string, .val (.string s), some d => .need (P.underlying e = some (.int .u8) ∧ s.size ≤ 4294967296) (.ok (.sl d (nextVer t d) 0 s.size) (t.put d (nextVer t d) (.arr e 1 (bCs s))))
    | _, _, _ => .stuck
  | _ => .stuck
theorem good_aconv (d : Option Nat) (src dst : TypeId) (X : AV) (u : Value) (hH : RelH C w cur t) (hX : RelV w (okB C w cur) cur X u) : Good P C w cur (do pure (.value (← convert src dst u))) (aconv P d src dst X t) := by
  unfold aconv
  split
  · rename_i k hd
    split
    · refine Good.need fun hs => ?_
      cases hX
      obtain ⟨q, hq⟩ := Option.isSome_iff_exists.1 hs
      exact Good.sv hH (by simp [convert, run_underlying hq, run_underlying hd, Conv.intToInt])
    · exact Good.stuck
  · rename_i hd
    split
    · rename_i e hs
      split
      · rename_i xs hx
        refine Good.need fun ⟨he, hb⟩ => ?_
        obtain ⟨A, c, rfl, hc, h⟩ := slice_rel hH hX hx
        have hlen : xs.length = (unB xs).data.toList.length := by
          have := unB_size xs
          rw [Array.length_toList]
          exact this.symm
        rcases h with h0 | ⟨sz, hs0, hl, a, rfl, hat⟩
        · refine Good.sv hH ?_
          rw [Sem.run_bind, run_convert_bytes_string w src dst e A xs.length c hs he hd]
          subst h0
          have : unB [] = ByteArray.empty := rfl
          rw [this]
          cases A <;> simp [Conv.bytesToString, loadCells, loadCellsFrom]
        · refine Good.sv hH ?_
          have hget : ∀ j (hj : j < (unB xs).data.toList.length), xs[j]? = some (bC ((unB xs).data.toList[j])) := by
            intro j hj
            conv => lhs; rw [hb]
            unfold bCs
            rw [List.getElem?_map, List.getElem?_eq_getElem hj]
            rfl
          have := run_convert_bytes_back (P := P) w src dst e a c (unB xs).data.toList hs he hd (fun j hj => by
            have h1 := hget j hj
            have hsz : sz = 1 := by
              have := hl _ (List.mem_of_getElem? h1)
              simpa [bC] using this.symm
            subst hsz
            obtain ⟨v, hv, hr⟩ := hat j _ h1 0 (.val (.int .u8 ((unB xs).data.toList[j]).toNat)) rfl
            cases hr
            rw [add_of_add] at hv
            simpa using hv)
          rw [← hlen] at this
          simp [this]
      · exact Good.stuck
    · rename_i hs
      split
      · cases hX
        exact Good.sv hH (by simp [convert, run_underlying hs, run_underlying hd])
      · exact Good.stuck
    · exact Good.stuck
  · rename_i e hd
    split
    · rename_i s d hs
      refine Good.need fun ⟨he, hm⟩ => ?_
      cases hX
      have hrun := run_bytes_of_string (P := P) w src dst e s hs hd he
      have hge := grownCap_ge w s.size 0 e
      obtain ⟨h1, e1⟩ := hH.drew
      have hsz : (bytesRow s (grownCap w s.size 0 e)).toList.length = grownCap w s.size 0 e * 1 := by
        have : s.data.size = s.size := rfl
        simp [bytesRow, this]
        omega
      obtain ⟨g1, g2⟩ := new_arr (d := d) (ty := e) (sz := 1) (cap := grownCap w s.size 0 e) (els := bCs s) (us := (bytesRow s (grownCap w s.size 0 e)).toList) h1 (by omega) (fun x hx => by
          obtain ⟨b, _, rfl⟩ := List.mem_map.1 hx
          rfl) hsz (by rw [bCs_length]; exact hge) (grownCap_max w _ _ _ hm) (fun i x j y hi hy => by
          have hil : i < s.size := by rw [← bCs_length s]; exact (List.getElem?_eq_some_iff.1 hi).1
          have hil' : i < s.data.size := hil
          unfold bCs at hi
          rw [List.getElem?_map, List.getElem?_eq_getElem (by simpa using hil)] at hi
          simp at hi
          subst hi
          cases j with
          | succ j => simp [bC] at hy
          | zero =>
            simp [bC] at hy
            subst hy
            refine ⟨.int .u8 (s.data[i]'hil').toNat, ?_, .val _ _⟩
            simp only [bytesRow, Array.toList_append, Array.toList_map]
            rw [List.getElem?_append_left (by simpa using hil')]
            simp only [Nat.mul_one, Nat.add_zero, List.getElem?_map]
            rw [Array.getElem?_toList, Array.getElem?_eq_getElem hil']
            rfl) ((bytesRow s (grownCap w s.size 0 e)).size, (bytesRow s (grownCap w s.size 0 e)).size + 1) (fun i hi hh => by simp at hi; omega)
      refine Good.val (v := .slice (some ⟨w.heap.size, 0, none⟩) s.size (grownCap w s.size 0 e)) (cur' := upd cur d (nextVer t d) (.arr w.heap.size 0 (grownCap w s.size 0 e) (bCs s).length 1)) (w' := w.drew.alloc (.cells (bytesRow s (grownCap w s.size 0 e)) e ((bytesRow s (grownCap w s.size 0 e)).size, (bytesRow s (grownCap w s.size 0 e)).size + 1))) (by simp only [Sem.run_bind, hrun, Result.andThen_ok, Sem.run_pure]) (by simpa using g1) (by simpa using e1.trans g2)
        (.sl _ _ _ _ _ _ (nextVer t d) (.arr w.heap.size 0 (grownCap w s.size 0 e) (bCs s).length 1) (by simp [upd]) (Nat.le_refl _) (fun _ => ⟨by rw [bCs_length]; omega, by rw [bCs_length]; exact hge, ⟨w.heap.size, 0, none⟩, by simp, fun _ => by simp⟩))
    · exact Good.stuck
  · exact Good.stuck

/-! ### min, max, functions -/
def aminmax (big : Bool) (x y : AV) (t : Tab) : AR :=
  match x, y with
  | .val (.int k a), .val (.int _ b) => .ok (.val (.int k (if big = true then max a b else min a b))) t
  | _, _ => .stuck
theorem good_amin (ats : Array TypeId) (q : TypeId) (X Y : AV) (u v : Value) (hH : RelH C w cur t) (hX : RelV w (okB C w cur) cur X u) (hY : RelV w (okB C w cur) cur Y v) : Good P C w cur (do pure (.value (← Builtin.min_ ats q #[u, v]))) (aminmax false X Y t) := by
  unfold aminmax
  split
  · rename_i k a k' b
    cases hX; cases hY
    have : min a b = if b < a then b else a := by
      rw [Int.min_def]; split <;> split <;> omega
    exact Good.sv hH (by simp [Builtin.min_, Builtin.min2, this])
  · exact Good.stuck
theorem good_amax (ats : Array TypeId) (q : TypeId) (X Y : AV) (u v : Value) (hH : RelH C w cur t) (hX : RelV w (okB C w cur) cur X u) (hY : RelV w (okB C w cur) cur Y v) : Good P C w cur (do pure (.value (← Builtin.max_ ats q #[u, v]))) (aminmax true X Y t) := by
  unfold aminmax
  split
  · rename_i k a k' b
    cases hX; cases hY
    have : max a b = if b > a then b else a := by
      rw [Int.max_def]; split <;> split <;> omega
    exact Good.sv hH (by simp [Builtin.max_, Builtin.max2, this])
  · exact Good.stuck
def amakeFunc (fn : Fn) (cs : List AV) (t : Tab) : AR := .ok (.func fn cs) t
theorem good_amakeFunc (fn : Fn) (cs : List AV) (us : List Value) (hH : RelH C w cur t) (hn : us.length = cs.length) (hr : ∀ (j : Nat) (y : AV) (u : Value), cs[j]? = some y → us[j]? = some u → RelV w (okB C w cur) cur y u) :
    Good P C w cur (do pure (.value (← Instr.makeFunc fn #[] us.toArray))) (amakeFunc fn cs t) :=
  Good.same hH (by simp [Instr.makeFunc]) (.func _ _ _ us hn hr)
end
end Go.Proofs.Ytoblmpfcjeammaa.V
