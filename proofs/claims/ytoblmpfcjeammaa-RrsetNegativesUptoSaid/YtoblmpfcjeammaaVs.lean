/-
  The words of one run of 'simp', gathered. Conditions: none.
-/
import Derived.Test.YtoblmpfcjeammaaVr
namespace Go.Proofs.Ytoblmpfcjeammaa.V
open Go.RowKit
attribute [go_sem] eargs xthen xblock xscope w64 w64_u8 getD_cons' take_cons' drop_cons' chunks_eq Int.cast_ofNat_Int Int.natCast_zero Int.natCast_one all_arr List.all_cons List.all_nil Bool.and_self Bool.and_true Bool.true_and okEls_nil okEls_cons okEls_bCs closed_bCs List.size_toArray or8 Nat.min_def arr_get bCs_slice bCs_get bCs_length unB_bCs eq_self and_self List.getElem?_cons List.getElem?_nil List.getD_nil List.take_nil List.drop_nil List.length_cons List.length_nil List.flatten_cons List.flatten_nil List.append_nil Nat.lt_add_one Nat.zero_lt_succ Nat.zero_add Nat.add_zero List.map_cons List.map_nil List.cons_append List.nil_append Option.map_some Option.map_none Option.getD_some Option.getD_none Option.isSome_some Int.toNat_natCast true_and and_true forall_const true_implies false_implies Bool.not_true Bool.not_false Bool.false_eq_true Bool.true_eq_false ne_eq not_false_eq_true not_true_eq_false implies_true
/-- A list's elements as rows of cells. -/
def elsL {α : Type} (f : α → List AV) (l : List α) : List (List AV) := l.map f
theorem els_len {α : Type} (f : α → List AV) (l : List α) : (elsL f l).length = l.length := List.length_map ..
theorem els_get {α : Type} [Inhabited α] (f : α → List AV) (l : List α) (i : Nat) (h : i < l.length) : (elsL f l).getD i [] = f (l.getD i default) := by
  simp only [elsL, List.getD, List.getElem?_map, List.getElem?_eq_getElem h, Option.map_some, Option.getD_some]
theorem els_nil {α : Type} (f : α → List AV) (l : List α) : (elsL f l = []) = (l = []) := by simp [elsL]
theorem els_snoc {α : Type} (f : α → List AV) (l : List α) (x : α) : elsL f l ++ [f x] = elsL f (l ++ [x]) := by simp [elsL]
theorem els_app {α : Type} (f : α → List AV) (l m : List α) : elsL f l ++ elsL f m = elsL f (l ++ m) := by simp [elsL]
theorem els_slice {α : Type} (f : α → List AV) (l : List α) (n k : Nat) : ((elsL f l).take n).drop k = elsL f ((l.take n).drop k) := by simp [elsL, List.map_take, List.map_drop]
theorem els_closed {α : Type} (f : α → List AV) (l : List α) (h : ∀ x, AV.closedL (f x)) : closedLL (elsL f l) := closedLL_iff.2 fun x hx => by
  obtain ⟨y, _, rfl⟩ := List.mem_map.1 hx
  exact h y
/-- The byte of a number. -/
def u8 (n : Int) : UInt8 := UInt8.ofNat (n % 256).toNat
theorem wrap_u8 (n : Int) : IntKind.u8.wrap n = ((u8 n).toNat : Int) := by
  have h0 : 0 ≤ n % 256 := by omega
  have h1 : n % 256 < 256 := by omega
  simp only [u8, IntKind.wrap, IntKind.bits, IntKind.signed]
  simp
  omega
theorem bCs_snoc (s : ByteArray) (b : UInt8) : bCs s ++ [[.val (.int .u8 b.toNat)]] = bCs ⟨s.data.push b⟩ := by simp [bCs, bC]
theorem bCs_app (s r : ByteArray) : bCs s ++ bCs r = bCs (s ++ r) := by simp [bCs]
attribute [go_sem] els_len els_get els_nil els_slice wrap_u8 bCs_snoc bCs_app
end Go.Proofs.Ytoblmpfcjeammaa.V
