/-
  Slots, operations and lists of them over the abstract memory, and that Go's regions do the same. Conditions: none; plain definitions and lemmas, over any program.
-/
import Derived.Test.YtoblmpfcjeammaaVu
import Derived.Orders
set_option linter.unusedVariables false
set_option linter.unusedSimpArgs false
namespace Go.Proofs.Ytoblmpfcjeammaa.V
open Go.RowKit

/-! ### Slots -/
abbrev Env := List (Nat × AV)
def eget : Env → Nat → AV
  | [], _ => .poison
  | p :: r, d => if p.1 = d then p.2 else eget r d
def eput : Env → Nat → AV → Env
  | [], d, v => [(d, v)]
  | p :: r, d, v => if p.1 = d then (d, v) :: r else if Nat.blt p.1 d = true then (d, v) :: p :: r else p :: eput r d v
theorem eget_eput : ∀ (e : Env) (d : Nat) (v : AV) (d' : Nat), eget (eput e d v) d' = if d = d' then v else eget e d'
  | [], d, v, d' => by simp [eput, eget]
  | p :: r, d, v, d' => by
    unfold eput
    split
    · rename_i h
      simp only [eget]
      by_cases hd : d = d'
      · simp [hd]
      · simp [hd, show ¬ p.1 = d' from by omega]
    · split
      · simp only [eget]
      · rename_i h1 h2
        simp only [eget, eget_eput r]
        by_cases hd : d = d'
        · subst hd; simp [h1]
        · simp [hd]
def eputo (e : Env) (d : Option Nat) (v : AV) : Env :=
  match d with
  | some d => eput e d v
  | none => e
/-- The slots of a list alone. -/
def ekeep (e : Env) : List Nat → Env
  | [] => []
  | d :: r => (d, eget e d) :: ekeep e r
theorem eget_ekeep (e : Env) : ∀ (l : List Nat) (d : Nat), eget (ekeep e l) d = eget e d ∨ eget (ekeep e l) d = .poison
  | [], d => .inr rfl
  | x :: r, d => by
    simp only [ekeep, eget]
    split
    · rename_i h; subst h; exact .inl rfl
    · exact eget_ekeep e r d

def cAV (v : Value) : AV :=
  match v with
  | .agg a => .agg (a.toList.map .val)
  | .func fn first captured => if first.size = 0 ∧ captured.size = 0 then .func fn [] else .val (.func fn first captured)
  | v => .val v
theorem cAV_rel {w : World} {ok : Nat → Prop} (cur : Cur) (v : Value) : RelV w ok cur (cAV v) v := by
  unfold cAV
  split
  · rename_i a
    have : (Value.agg a) = .agg (a.toList).toArray := by simp
    rw [this]
    refine .agg _ _ _ (by simp) (fun j y u h1 h2 => ?_)
    rw [List.getElem?_map, h2] at h1
    simp at h1
    subst h1
    exact .val _ _
  · rename_i fn first captured
    split
    · rename_i h
      have h1 : first = #[] := Array.size_eq_zero_iff.1 h.1
      have h2 : captured = #[] := Array.size_eq_zero_iff.1 h.2
      subst h1; subst h2
      exact .func _ fn [] [] rfl (fun j y u h => by simp at h)
    · exact .val _ _
  · exact .val _ _
def aev (e : Env) (x : Operand) : AV :=
  match x with
  | .tmp t => eget e t
  | .const v => cAV v
  | .global g => .val (.pointer (some ⟨g, 0, none⟩))
  | .func f => .func (.func f) []
def RelE (w : World) (ok : Nat → Prop) (cur : Cur) (e : Env) (a : Act) : Prop := ∀ d, RelV w ok cur (eget e d) (a.tmps.getD d undef)
theorem aev_rel {w : World} {ok : Nat → Prop} {cur : Cur} {e : Env} {a : Act} (h : RelE w ok cur e a) (x : Operand) : RelV w ok cur (aev e x) (a.eval x) := by
  cases x with
  | tmp t => exact h t
  | const v => exact cAV_rel cur v
  | global g => exact .val _ _
  | func f => exact .func _ _ [] [] rfl (fun j y u h => by simp at h)

/-! ### Operations -/
def abuiltin (P : Program) (d : Option Nat) (b : Builtin) (ats : List TypeId) (args : List AV) (t : Tab) : AR :=
  match b, ats, args with
  | .len, [ty], [x] => alenM P ty x t
  | .append, [sty, xty], [s, x] => aappend P d sty xty s x t
  | .min, _, [x, y] => aminmax false x y t
  | .max, _, [x, y] => aminmax true x y t
  | .delete, [ty, _], [x, k] => adelete P ty x k t
  | _, _, _ => .stuck
def aop (P : Program) (o : Oper) (e : Env) (t : Tab) : AR :=
  match o.op with
  | .move x => .ok (aev e x) t
  | .assign x => .ok (aev e x) t
  | .pick c a b => apick (aev e c) (aev e a) (aev e b) t
  | .alloc ty => aalloc P o.dst ty t
  | .box ty x => abox o.dst ty (aev e x) t
  | .build ty parts => abuild P ty (parts.toList.map fun p => (p.1, aev e p.2)) t
  | .buildSlice ty n parts => abuildSlice P o.dst ty n (parts.toList.map fun p => (p.1, aev e p.2)) t
  | .load ty x => aload P ty (aev e x) t
  | .store ty x v => astore P ty (aev e x) (aev e v) t
  | .nilCheck x => anilCheck (aev e x) t
  | .binOp op ty x y _ => abin P op ty (aev e x) (aev e y) t
  | .unOp op _ x => aun op (aev e x) t
  | .convert src dst x => aconv P o.dst src dst (aev e x) t
  | .makeFunc fn first captured => if first.size = 0 then amakeFunc fn (captured.toList.map (aev e)) t else .stuck
  | .slice ty x lo hi mx => match mx with
    | none => aslice P ty (aev e x) (lo.map (aev e)) (hi.map (aev e)) t
    | some _ => .stuck
  | .fieldAddr ty x f => afieldAddr P ty (aev e x) f t
  | .field ty x f => afield P ty (aev e x) f t
  | .indexAddr ty x i => aindexAddr P ty (aev e x) (aev e i) t
  | .index ty x i => aindex P ty (aev e x) (aev e i) t
  | .extract x i => aextract (aev e x) i t
  | .makeMap ty r => amakeMap P o.dst ty (r.map (aev e)) t
  | .lookup ty x k ok => alookup P ty (aev e x) (aev e k) ok t
  | .mapUpdate ty m k x => amapUpdate P ty (aev e m) (aev e k) (aev e x) t
  | .insert ty m k x => amapUpdate P ty (aev e m) (aev e k) (aev e x) t
  | .makeSlice ty l c => amakeSlice P o.dst ty (aev e l) (aev e c) t
  | .makeInterface ty x => amakeIface P ty (aev e x) t
  | .call c => match c.callee with
    | .builtin b => abuiltin P o.dst b c.argTypes.toList (c.args.toList.map (aev e)) t
    | _ => .stuck
  | _ => .stuck

section
variable {P : Program} {C : Ctx} {w : World} {cur : Cur} {t : Tab} {e : Env} {a : Act}
theorem opt_rel (hE : RelE w (okB C w cur) cur e a) (x : Option Operand) : OptRel (RelV w (okB C w cur) cur) (x.map (aev e)) (x.map a.eval) := by
  cases x with
  | none => trivial
  | some x => exact aev_rel hE x
theorem parts_rel (hE : RelE w (okB C w cur) cur e a) (ps : Array (Nat × Operand)) : PartsRel (RelV w (okB C w cur) cur) (ps.toList.map fun p => (p.1, aev e p.2)) (ps.map fun (i, x) => (i, a.eval x)).toList := by
  refine ⟨by simp, fun k p q h1 h2 => ?_⟩
  rw [Array.toList_map, List.getElem?_map] at h2
  rw [List.getElem?_map] at h1
  cases hp : ps.toList[k]? with
  | none => rw [hp] at h1; cases h1
  | some x =>
    rw [hp] at h1 h2
    injection h1 with h1
    injection h2 with h2
    subst h1; subst h2
    exact ⟨rfl, aev_rel hE _⟩
theorem list_of_toList {α : Type} {a : Array α} {l : List α} (h : a.toList = l) : a = l.toArray := by rw [← h]
theorem good_abuiltin (o : Oper) (c : Call) (b : Builtin) (ho : o.op = .call c) (hb : c.callee = .builtin b) (hH : RelH C w cur t) (hE : RelE w (okB C w cur) cur e a) :
    Good P C w cur (execOp a.eval o) (abuiltin P o.dst b c.argTypes.toList (c.args.toList.map (aev e)) t) := by
  have hex : ∃ cs, execOp a.eval o = builtin b c.argTypes o.type cs (c.args.map a.eval) := ⟨_, by
    simp only [execOp, ho, resolve, hb]
    rfl⟩
  obtain ⟨cs, hex⟩ := hex
  rw [hex]
  unfold abuiltin
  split
  · rename_i ty x h1 h2
    rw [list_of_toList h1]
    obtain ⟨y, hy, rfl⟩ := List.map_eq_singleton_iff.1 h2
    rw [list_of_toList hy]
    simp only [List.map_toArray, List.map_cons, List.map_nil]
    exact good_alenM ty o.type _ _ hH (aev_rel hE y)
  · rename_i sty xty s x h1 h2
    rw [list_of_toList h1]
    obtain ⟨y, r, hy, rfl, h3⟩ := List.map_eq_cons_iff.1 h2
    obtain ⟨z, rfl, rfl⟩ := List.map_eq_singleton_iff.1 h3
    rw [list_of_toList hy]
    simp only [List.map_toArray, List.map_cons, List.map_nil]
    exact good_aappend o.dst sty xty o.type _ _ _ _ hH (aev_rel hE y) (aev_rel hE z)
  · rename_i x y h2
    obtain ⟨x', r, hy, rfl, h3⟩ := List.map_eq_cons_iff.1 h2
    obtain ⟨z, rfl, rfl⟩ := List.map_eq_singleton_iff.1 h3
    rw [list_of_toList hy]
    simp only [List.map_toArray, List.map_cons, List.map_nil]
    exact good_amin c.argTypes o.type _ _ _ _ hH (aev_rel hE _) (aev_rel hE z)
  · rename_i x y h2
    obtain ⟨x', r, hy, rfl, h3⟩ := List.map_eq_cons_iff.1 h2
    obtain ⟨z, rfl, rfl⟩ := List.map_eq_singleton_iff.1 h3
    rw [list_of_toList hy]
    simp only [List.map_toArray, List.map_cons, List.map_nil]
    exact good_amax c.argTypes o.type _ _ _ _ hH (aev_rel hE _) (aev_rel hE z)
  · rename_i ty q x k h1 h2
    obtain ⟨x', r, hy, rfl, h3⟩ := List.map_eq_cons_iff.1 h2
    obtain ⟨z, rfl, rfl⟩ := List.map_eq_singleton_iff.1 h3
    rw [list_of_toList hy, list_of_toList h1]
    simp only [List.map_toArray, List.map_cons, List.map_nil]
    exact good_adelete ty o.type _ _ _ _ hH (aev_rel hE _) (aev_rel hE z)
  · exact Good.stuck
theorem good_aop (o : Oper) (hH : RelH C w cur t) (hE : RelE w (okB C w cur) cur e a) : Good P C w cur (execOp a.eval o) (aop P o e t) := by
  unfold aop
  have ev := fun x => aev_rel hE x
  split
  case h_1 x h => simp only [execOp, h]; exact Good.same hH rfl (ev _)
  case h_2 x h => simp only [execOp, h]; exact Good.same hH rfl (ev _)
  case h_3 c x y h => simp only [execOp, h]; exact good_apick _ _ _ _ _ _ hH (ev _) (ev _) (ev _)
  case h_4 ty h => simp only [execOp, h]; exact good_aalloc _ _ hH
  case h_5 ty x h => simp only [execOp, h]; exact good_abox _ _ _ _ hH (ev _)
  case h_6 ty ps h => simp only [execOp, h]; exact good_abuild _ _ _ hH (parts_rel hE ps)
  case h_7 ty n ps h => simp only [execOp, h]; exact good_abuildSlice _ _ _ _ _ hH (parts_rel hE ps)
  case h_8 ty x h => simp only [execOp, h]; exact good_aload _ _ _ hH (ev _)
  case h_9 ty x v h => simp only [execOp, h]; exact good_astore _ _ _ _ _ hH (ev _) (ev _)
  case h_10 x h =>
    refine good_anilCheck _ _ _ hH (ev x) ⟨fun p hp => ?_, fun f b c hp hf => ?_, fun q y hp => ?_⟩
    · simp [execOp, h, hp]
    · simp only [execOp, h, hp]
      cases f <;> first
        | rfl
        | exact absurd rfl (hf _)
    · simp [execOp, h, hp]
  case h_11 op ty x y q h => simp only [execOp, h]; exact good_abin op ty x y _ _ _ _ hH (ev _) (ev _)
  case h_12 op q x h => simp only [execOp, h]; exact good_aun _ _ _ hH (ev _)
  case h_13 src dst x h => simp only [execOp, h]; exact good_aconv _ _ _ _ _ hH (ev _)
  case h_14 fn first captured h =>
    split
    · rename_i h0
      have h1 : first = #[] := Array.size_eq_zero_iff.1 h0
      subst h1
      simp only [execOp, h]
      have : captured.map a.eval = (captured.toList.map a.eval).toArray := by rw [← Array.toList_map, Array.toArray_toList]
      rw [this, Array.map_empty]
      exact good_amakeFunc fn (captured.toList.map (aev e)) (captured.toList.map a.eval) hH (by rw [List.length_map, List.length_map]) (fun j y u h2 h3 => by
        rw [List.getElem?_map] at h2 h3
        cases hj : captured.toList[j]? with
        | none => rw [hj] at h2; cases h2
        | some x =>
          rw [hj] at h2 h3
          injection h2 with h2; injection h3 with h3
          subst h2; subst h3
          exact ev x)
    · exact Good.stuck
  case h_15 ty x lo hi mx h =>
    split
    · simp only [execOp, h]; exact good_aslice ty _ _ _ _ _ _ hH (ev _) (opt_rel hE lo) (opt_rel hE hi)
    · exact Good.stuck
  case h_16 ty x f h => simp only [execOp, h]; exact good_afieldAddr _ _ _ _ hH (ev _)
  case h_17 ty x f h => simp only [execOp, h]; exact good_afield _ _ _ _ hH (ev _)
  case h_18 ty x i h => simp only [execOp, h]; exact good_aindexAddr _ _ _ _ _ hH (ev _) (ev _)
  case h_19 ty x i h => simp only [execOp, h]; exact good_aindex _ _ _ _ _ hH (ev _) (ev _)
  case h_20 x i h => simp only [execOp, h]; exact good_aextract _ _ _ hH (ev _)
  case h_21 ty r h => simp only [execOp, h]; exact good_amakeMap _ _ _ _ (fun hr => by cases r <;> simp_all) hH
  case h_22 ty x k ok h => simp only [execOp, h]; exact good_alookup _ _ _ _ _ _ hH (ev _) (ev _)
  case h_23 ty m k x h => simp only [execOp, h]; exact good_amapUpdate _ _ _ _ _ _ _ hH (ev _) (ev _) (ev _)
  case h_24 ty m k x h => simp only [execOp, h]; exact good_amapUpdate _ _ _ _ _ _ _ hH (ev _) (ev _) (ev _)
  case h_25 ty l c h => simp only [execOp, h]; exact good_amakeSlice _ _ _ _ _ _ hH (ev _) (ev _)
  case h_26 ty x h => simp only [execOp, h]; exact good_amakeIface _ _ _ hH (ev _)
  case h_27 c h =>
    split
    · rename_i b hb
      exact good_abuiltin o c b h hb hH hE
    · exact Good.stuck
  case h_28 => exact Good.stuck
end
end Go.Proofs.Ytoblmpfcjeammaa.V
