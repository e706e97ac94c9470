/-
  The rules by which 'simp' runs operations over the abstract memory. Conditions: none; plain lemmas, over any program.
-/
import Derived.Test.YtoblmpfcjeammaaVl
import Derived.Laws.BitsLemmas
set_option linter.unusedVariables false
set_option linter.unusedSimpArgs false
namespace Go.Proofs.Ytoblmpfcjeammaa.V
open Go.RowKit
/-- Two ways to go on; 'simp' does not look behind them. -/
structure Fork (p q A B : Prop) : Prop where
  yes : p → A
  no : q → B
theorem Fork_congr {p p' q q' A B : Prop} (hp : p = p') (hq : q = q') : Fork p q A B = Fork p' q' A B := by rw [hp, hq]
theorem fork_tf {A B : Prop} : Fork True False A B = A := propext ⟨fun h => h.yes trivial, fun h => ⟨fun _ => h, fun h => h.elim⟩⟩
theorem fork_ft {A B : Prop} : Fork False True A B = B := propext ⟨fun h => h.no trivial, fun h => ⟨fun h => h.elim, fun _ => h⟩⟩
attribute [congr] Fork_congr
attribute [go_sem] fork_tf fork_ft
section
variable {P : Program} {ops r : List Oper} {K : Env → Tab → Prop} {e : Env} {t : Tab} {d : Option Nat} {q : TypeId} {pos : String} {af : Array Edge}
theorem ops_nil : aops P ops K [] e t = K e t := rfl
theorem ops_move {x : Operand} : aops P ops K (⟨d, .move x, q, pos, af, none⟩ :: r) e t = aops P ops K r (eputo e d (aev e x)) t := rfl
theorem ops_assign {x : Operand} : aops P ops K (⟨d, .assign x, q, pos, af, none⟩ :: r) e t = aops P ops K r (eputo e d (aev e x)) t := rfl
theorem ops_extract {x : Operand} {i : Nat} : aops P ops K (⟨d, .extract x i, q, pos, af, none⟩ :: r) e t = acont (aextract (aev e x) i t) d e (aops P ops K r) := rfl
theorem ops_none {op : Op} : aops P ops K (⟨d, op, q, pos, af, none⟩ :: r) e t = aone P ⟨d, op, q, pos, af, none⟩ e t (aops P ops K r) := rfl
def nthDst : List Oper → Nat → Option Nat
  | [], _ => none
  | o :: r, j => if j = 0 then o.dst else nthDst r (j - 1)
theorem nthDst_eq : ∀ (l : List Oper) (j : Nat), nthDst l j = (l[j]?).bind (·.dst)
  | [], j => by simp [nthDst]
  | o :: r, 0 => by simp [nthDst]
  | o :: r, j + 1 => by simp [nthDst, nthDst_eq r j]
def agAt (P : Program) (o : Oper) (e : Env) (t : Tab) (k : Env → Tab → Prop) (b : Bool) : Option Nat → Prop
  | some d => agd P o e t k d b (eget e d)
  | none => False
theorem ops_some {op : Op} {j : Nat} {b : Bool} : aops P ops K (⟨d, op, q, pos, af, some (j, b)⟩ :: r) e t = agAt P ⟨d, op, q, pos, af, some (j, b)⟩ e t (aops P ops K r) b (nthDst ops j) := by
  simp only [aops, aguard, nthDst_eq]
  cases ops[j]? with
  | none => rfl
  | some o =>
    simp only [Option.bind_some]
    cases o.dst with
    | none => rfl
    | some d => rfl
variable {k : Env → Tab → Prop} {g : Option (Nat × Bool)}
theorem at_some {o : Oper} {b : Bool} {d : Nat} : agAt P o e t k b (some d) = agd P o e t k d b (eget e d) := rfl
theorem agd_bool {o : Oper} {b p : Bool} {d : Nat} : agd P o e t k d b (.val (.bool p)) = Fork (p = b) (p = (!b)) (aone P o (eput e d (.val (.bool b))) t k) (k (eputo (eput e d (.val (.bool (!b)))) o.dst (.val undef)) t) := propext ⟨fun h => ⟨h.1, h.2⟩, fun h => ⟨h.yes, h.no⟩⟩
theorem agd_undef {o : Oper} {b : Bool} {d : Nat} : agd P o e t k d b (.val undef) = k (eputo e o.dst (.val undef)) t := rfl
theorem one_move {x : Operand} : aone P ⟨d, .move x, q, pos, af, g⟩ e t k = k (eputo e d (aev e x)) t := rfl
theorem one_assign {x : Operand} : aone P ⟨d, .assign x, q, pos, af, g⟩ e t k = k (eputo e d (aev e x)) t := rfl
theorem one_pick {c a b : Operand} : aone P ⟨d, .pick c a b, q, pos, af, g⟩ e t k = acont (apick (aev e c) (aev e a) (aev e b) t) d e k := rfl
theorem one_alloc {ty : TypeId} : aone P ⟨d, .alloc ty, q, pos, af, g⟩ e t k = acont (aalloc P d ty t) d e k := rfl
theorem one_box {ty : TypeId} {x : Operand} : aone P ⟨d, .box ty x, q, pos, af, g⟩ e t k = acont (abox d ty (aev e x) t) d e k := rfl
theorem one_build {ty : TypeId} {ps : List (Nat × Operand)} : aone P ⟨d, .build ty ps.toArray, q, pos, af, g⟩ e t k = acont (abuild P ty (ps.map fun p => (p.1, aev e p.2)) t) d e k := rfl
theorem one_buildSlice {ty : TypeId} {n : Nat} {ps : List (Nat × Operand)} : aone P ⟨d, .buildSlice ty n ps.toArray, q, pos, af, g⟩ e t k = acont (abuildSlice P d ty n (ps.map fun p => (p.1, aev e p.2)) t) d e k := rfl
theorem one_load {ty : TypeId} {x : Operand} : aone P ⟨d, .load ty x, q, pos, af, g⟩ e t k = acont (aload P ty (aev e x) t) d e k := rfl
theorem one_store {ty : TypeId} {x y : Operand} : aone P ⟨d, .store ty x y, q, pos, af, g⟩ e t k = acont (astore P ty (aev e x) (aev e y) t) d e k := rfl
theorem one_nilCheck {x : Operand} : aone P ⟨d, .nilCheck x, q, pos, af, g⟩ e t k = acont (anilCheck (aev e x) t) d e k := rfl
theorem one_bin {op : BinOp} {ty ty' : TypeId} {x y : Operand} : aone P ⟨d, .binOp op ty x y ty', q, pos, af, g⟩ e t k = acont (abin P op ty (aev e x) (aev e y) t) d e k := rfl
theorem one_un {op : UnOp} {ty : TypeId} {x : Operand} : aone P ⟨d, .unOp op ty x, q, pos, af, g⟩ e t k = acont (aun op (aev e x) t) d e k := rfl
theorem one_conv {s d' : TypeId} {x : Operand} : aone P ⟨d, .convert s d' x, q, pos, af, g⟩ e t k = acont (aconv P d s d' (aev e x) t) d e k := rfl
theorem one_func {fn : Go.Fn} {cs : List Operand} : aone P ⟨d, .makeFunc fn #[] cs.toArray, q, pos, af, g⟩ e t k = k (eputo e d (.func fn (cs.map (aev e)))) t := rfl
theorem one_slice {ty : TypeId} {x : Operand} {lo hi : Option Operand} : aone P ⟨d, .slice ty x lo hi none, q, pos, af, g⟩ e t k = acont (aslice P ty (aev e x) (lo.map (aev e)) (hi.map (aev e)) t) d e k := rfl
theorem one_fieldAddr {ty : TypeId} {x : Operand} {f : Nat} : aone P ⟨d, .fieldAddr ty x f, q, pos, af, g⟩ e t k = acont (afieldAddr P ty (aev e x) f t) d e k := rfl
theorem one_field {ty : TypeId} {x : Operand} {f : Nat} : aone P ⟨d, .field ty x f, q, pos, af, g⟩ e t k = acont (afield P ty (aev e x) f t) d e k := rfl
theorem one_indexAddr {ty : TypeId} {x y : Operand} : aone P ⟨d, .indexAddr ty x y, q, pos, af, g⟩ e t k = acont (aindexAddr P ty (aev e x) (aev e y) t) d e k := rfl
theorem one_index {ty : TypeId} {x y : Operand} : aone P ⟨d, .index ty x y, q, pos, af, g⟩ e t k = acont (aindex P ty (aev e x) (aev e y) t) d e k := rfl
theorem one_extract {x : Operand} {i : Nat} : aone P ⟨d, .extract x i, q, pos, af, g⟩ e t k = acont (aextract (aev e x) i t) d e k := rfl
theorem one_len {x : Operand} {ty : TypeId} : aone P ⟨d, .call ⟨.builtin .len, #[x], #[ty]⟩, q, pos, af, g⟩ e t k = acont (alenM P ty (aev e x) t) d e k := rfl
theorem one_append {x y : Operand} {ty ty' : TypeId} : aone P ⟨d, .call ⟨.builtin .append, #[x, y], #[ty, ty']⟩, q, pos, af, g⟩ e t k = acont (aappend P d ty ty' (aev e x) (aev e y) t) d e k := rfl
theorem one_min {x y : Operand} {ats : Array TypeId} : aone P ⟨d, .call ⟨.builtin .min, #[x, y], ats⟩, q, pos, af, g⟩ e t k = acont (aminmax false (aev e x) (aev e y) t) d e k := rfl
theorem one_max {x y : Operand} {ats : Array TypeId} : aone P ⟨d, .call ⟨.builtin .max, #[x, y], ats⟩, q, pos, af, g⟩ e t k = acont (aminmax true (aev e x) (aev e y) t) d e k := rfl
theorem one_makeMap {ty : TypeId} {r : Option Operand} : aone P ⟨d, .makeMap ty r, q, pos, af, g⟩ e t k = acont (amakeMap P d ty (r.map (aev e)) t) d e k := rfl
theorem one_lookup {ty : TypeId} {x y : Operand} {ok : Bool} : aone P ⟨d, .lookup ty x y ok, q, pos, af, g⟩ e t k = acont (alookup P ty (aev e x) (aev e y) ok t) d e k := rfl
theorem one_mapUpdate {ty : TypeId} {x y z : Operand} : aone P ⟨d, .mapUpdate ty x y z, q, pos, af, g⟩ e t k = acont (amapUpdate P ty (aev e x) (aev e y) (aev e z) t) d e k := rfl
theorem one_insert {ty : TypeId} {x y z : Operand} : aone P ⟨d, .insert ty x y z, q, pos, af, g⟩ e t k = acont (amapUpdate P ty (aev e x) (aev e y) (aev e z) t) d e k := rfl
theorem one_makeSlice {ty : TypeId} {x y : Operand} : aone P ⟨d, .makeSlice ty x y, q, pos, af, g⟩ e t k = acont (amakeSlice P d ty (aev e x) (aev e y) t) d e k := rfl
theorem one_makeIface {ty : TypeId} {x : Operand} : aone P ⟨d, .makeInterface ty x, q, pos, af, g⟩ e t k = acont (amakeIface P ty (aev e x) t) d e k := rfl
theorem one_delete {x y : Operand} {ty ty' : TypeId} : aone P ⟨d, .call ⟨.builtin .delete, #[x, y], #[ty, ty']⟩, q, pos, af, g⟩ e t k = acont (adelete P ty (aev e x) (aev e y) t) d e k := rfl
theorem one_invoke {x : Operand} {name : String} {xs : List Operand} {ats : Array TypeId} : aone P ⟨d, .call ⟨.invoke x name, xs.toArray, ats⟩, q, pos, af, g⟩ e t k = ainv P (aev e x) name (xs.map (aev e)) d e t k := rfl
/-- A call, as a step: what comes behind it is in 'k'. -/
def astepc (P : Program) (f : FuncId) (as : List AV) (t : Tab) (d : Option Nat) (e : Env) (k : Env → Tab → Prop) : Prop := acall P f as t fun v t' => k (eputo e d v) t'
theorem one_call {f : FuncId} {xs : List Operand} {ats : Array TypeId} : aone P ⟨d, .call ⟨.value (.func f), xs.toArray, ats⟩, q, pos, af, g⟩ e t k = astepc P f (xs.map (aev e)) t d e k := by
  show acall P f (xs.map (aev e) ++ []) t _ = _
  rw [List.append_nil]
  rfl
theorem one_callv {f : Nat} {xs : List Operand} {ats : Array TypeId} : aone P ⟨d, .call ⟨.value (.tmp f), xs.toArray, ats⟩, q, pos, af, g⟩ e t k = acv P (eget e f) (xs.map (aev e)) d e t k := rfl
theorem acv_func {f : FuncId} {as cs : List AV} : acv P (.func (.func f) cs) as d e t k = astepc P f (as ++ cs) t d e k := rfl
theorem inv_iface {T : TypeId} {x : AV} {name : String} {as : List AV} : ainv P (.iface T x) name as d e t k = ∃ f, Meth P T name f ∧ astepc P f (x :: as) t d e k := rfl
theorem astepc_congr {f : FuncId} {as as' : List AV} {t' : Tab} {e' : Env} (ha : as = as') (ht : t = t') (he : e = e') : astepc P f as t d e k = astepc P f as' t' d e' k := by subst ha; subst ht; subst he; rfl
theorem acont_congr {x x' : AR} {e' : Env} (hx : x = x') (he : e = e') : acont x d e k = acont x' d e' k := by subst hx; subst he; rfl
theorem aone_congr {o : Oper} {t' : Tab} {e' : Env} (ht : t = t') (he : e = e') : aone P o e t k = aone P o e' t' k := by subst ht; subst he; rfl
theorem acv_congr {f f' : AV} {as as' : List AV} {t' : Tab} {e' : Env} (hf : f = f') (ha : as = as') (ht : t = t') (he : e = e') : acv P f as d e t k = acv P f' as' d e' t' k := by subst hf; subst ha; subst ht; subst he; rfl
theorem agd_congr {o : Oper} {n : Nat} {b : Bool} {x x' : AV} {t' : Tab} {e' : Env} (hx : x = x') (ht : t = t') (he : e = e') : agd P o e t k n b x = agd P o e' t' k n b x' := by subst hx; subst ht; subst he; rfl
theorem agAt_congr {o : Oper} {n n' : Option Nat} {b : Bool} {t' : Tab} {e' : Env} (hn : n = n') (ht : t = t') (he : e = e') : agAt P o e t k b n = agAt P o e' t' k b n' := by subst hn; subst ht; subst he; rfl
theorem aguard_congr {o : Oper} {t' : Tab} {e' : Env} (ht : t = t') (he : e = e') : aguard P ops o e t k = aguard P ops o e' t' k := by subst ht; subst he; rfl
theorem aops_congr {t' : Tab} {e' : Env} (ht : t = t') (he : e = e') : aops P ops K r e t = aops P ops K r e' t' := by subst ht; subst he; rfl
attribute [congr] astepc_congr acont_congr aone_congr acv_congr agd_congr agAt_congr aguard_congr aops_congr
theorem cont_ok {v : AV} : acont (.ok v t) d e k = k (eputo e d v) t := rfl
theorem cont_need {p : Prop} {x : AR} : acont (.need p x) d e k = (p ∧ acont x d e k) := rfl
theorem cont_fork {p p' : Prop} {x y : AR} : acont (.fork p p' x y) d e k = Fork p p' (acont x d e k) (acont y d e k) := propext ⟨fun h => ⟨h.1, h.2⟩, fun h => ⟨h.yes, h.no⟩⟩
theorem puto_some {d : Nat} {v : AV} : eputo e (some d) v = eput e d v := rfl
theorem puto_none {v : AV} : eputo e none v = e := rfl
theorem put_nil {d : Nat} {v : AV} : eput [] d v = [(d, v)] := rfl
theorem put_cons {k' d : Nat} {u v : AV} : eput ((k', u) :: e) d v = if k' = d then (d, v) :: e else if k' < d then (d, v) :: (k', u) :: e else (k', u) :: eput e d v := by
  simp only [eput, Nat.blt_eq]
theorem get_cons {k' d : Nat} {u : AV} : eget ((k', u) :: e) d = if k' = d then u else eget e d := rfl
theorem ev_tmp {x : Nat} : aev e (.tmp x) = eget e x := rfl
theorem ev_func {f : FuncId} : aev e (.func f) = .func (.func f) [] := rfl
theorem ev_int {k : IntKind} {n : Int} : aev e (.const (.int k n)) = .val (.int k n) := rfl
theorem ev_bool {b : Bool} : aev e (.const (.bool b)) = .val (.bool b) := rfl
theorem ev_string {s : ByteArray} : aev e (.const (.string s)) = .val (.string s) := rfl
theorem ev_slice {a : Option Addr} {n c : Nat} : aev e (.const (.slice a n c)) = .val (.slice a n c) := rfl
theorem ev_ptr {a : Option Addr} : aev e (.const (.pointer a)) = .val (.pointer a) := rfl
theorem ev_agg {l : List Value} : aev e (.const (.agg l.toArray)) = .agg (l.map .val) := rfl
theorem ev_nif : aev e (.const .nilIface) = .val .nilIface := rfl
theorem tfind_cons {k v k' : Nat} {o : AObj} : Tab.find (⟨k, v, o⟩ :: t) k' = if k = k' then some (v, o) else Tab.find t k' := rfl
theorem tfind_nil {k' : Nat} : Tab.find [] k' = none := rfl
theorem tput_nil {k v : Nat} {o : AObj} : Tab.put [] k v o = [⟨k, v, o⟩] := rfl
theorem tput_cons {k v k' v' : Nat} {o o' : AObj} : Tab.put (⟨k', v', o'⟩ :: t) k v o = if k' = k then ⟨k, v, o⟩ :: t else if k < k' then ⟨k, v, o⟩ :: ⟨k', v', o'⟩ :: t else ⟨k', v', o'⟩ :: Tab.put t k v o := by
  simp only [Tab.put, Nat.blt_eq]
end
attribute [go_sem] ops_nil ops_move ops_assign ops_none nthDst ops_some at_some agd_bool agd_undef one_move one_assign one_pick one_alloc one_box one_build one_buildSlice one_load one_store one_nilCheck one_bin one_un one_conv one_func one_slice one_fieldAddr one_field one_indexAddr one_index one_extract one_len one_append one_min one_max one_call one_callv acv_func cont_ok cont_need cont_fork puto_some puto_none put_nil put_cons get_cons ev_tmp ev_func ev_int ev_bool ev_string ev_slice ev_ptr ev_agg ev_nif tfind_cons tfind_nil tput_nil tput_cons
attribute [go_sem] one_makeMap one_lookup one_mapUpdate one_insert one_makeSlice one_makeIface one_delete one_invoke inv_iface alenM amapLen amakeMap alookup lookIn mget mput mdel got amapUpdate adelete amakeSlice amakeIface keyV valsL keysFit kfit kfit1 kfitL keyEq keyEq1 keyEqL zAV
attribute [go_sem] apick aalloc abox abuild abuildSlice aload astore anilCheck abin aun aconv aslice afieldAddr afield aindexAddr aindex aextract alen aappend aminmax
attribute [go_sem] ibin sbin bbin nilP nilS nilM nilI isCurrent loadAV AV.cells cellOk allOk setCells nextVer valAVs afill structPlaces elemsOf newsOf boundOf
theorem getD_cons' {α : Type} (x : α) (l : List α) (i : Nat) (d : α) : (x :: l).getD i d = if i = 0 then x else l.getD (i - 1) d := by cases i <;> simp
theorem take_cons' {α : Type} (x : α) (l : List α) (n : Nat) : (x :: l).take n = if n = 0 then [] else x :: l.take (n - 1) := by cases n <;> simp
theorem drop_cons' {α : Type} (x : α) (l : List α) (n : Nat) : (x :: l).drop n = if n = 0 then x :: l else l.drop (n - 1) := by cases n <;> simp
theorem chunks_eq (sz n : Nat) (l : List AV) : chunks sz n l = if n = 0 then [] else l.take sz :: chunks sz (n - 1) (l.drop sz) := by
  cases n with
  | zero => simp [chunks]
  | succ n =>
    simp only [chunks, List.range_succ_eq_map, List.map_cons, List.map_map]
    simp
    intro a _
    congr 2
    rw [Nat.add_mul]
    omega
theorem chunks_nil (sz n : Nat) (l : List AV) (h : n = 0) : chunks sz n l = [] := by subst h; rfl
theorem bCs_slice (s : ByteArray) (n k : Nat) : ((bCs s).take n).drop k = bCs (s.extract k n) := by
  unfold bCs
  rw [← List.map_take, ← List.map_drop, ByteArray.data_extract, Array.toList_extract, List.extract_eq_take_drop, List.drop_take]
theorem bCs_get (s : ByteArray) (i : Nat) (h : i < s.size) : (bCs s).getD i [] = [.val (.int .u8 (strAt s i).toNat)] := by
  have h' : i < s.data.toList.length := by rw [Array.length_toList]; exact h
  unfold bCs
  rw [List.getD, List.getElem?_map, strAt, List.getD, List.getElem?_eq_getElem h']
  rfl
theorem bCs_nil (s : ByteArray) : (bCs s = []) = (s.size = 0) := by
  rw [← bCs_length]
  exact propext ⟨fun h => by rw [h]; rfl, List.eq_nil_of_length_eq_zero⟩
theorem or8 (x y : Int) (h : 0 ≤ x ∧ x < 9223372036854775808 ∧ x % 256 = 0 ∧ 0 ≤ y ∧ y < 256) : bits .or .i64 x y = x + y :=
  bits_join .i64 63 (by decide) (fun n h0 h1 => by rw [IntKind.wrap_i64]; omega) 8 x y h.1 (by omega) (by omega) h.2.2.2.1 (by omega) (by omega)
theorem okEls_nil {t : Tab} {sz : Nat} : okEls t sz [] = True := propext ⟨fun _ => trivial, fun _ x hx => by cases hx⟩
theorem okEls_cons {t : Tab} {sz : Nat} {x : List AV} {r : List (List AV)} : okEls t sz (x :: r) = (x.length = sz ∧ allOk t x ∧ okEls t sz r) := propext ⟨fun h => ⟨(h x (by simp)).1, allOk_iff.2 (h x (by simp)).2, fun y hy => h y (by simp [hy])⟩, fun ⟨h1, h2, h3⟩ y hy => by
  rcases List.mem_cons.1 hy with rfl | hy
  · exact ⟨h1, allOk_iff.1 h2⟩
  · exact h3 y hy⟩
theorem okEls_bCs {t : Tab} (s : ByteArray) : okEls t 1 (bCs s) = True := propext ⟨fun _ => trivial, fun _ x hx => by
  obtain ⟨b, _, rfl⟩ := List.mem_map.1 hx
  refine ⟨rfl, fun y hy => ?_⟩
  simp only [bC, List.mem_singleton] at hy
  subst hy
  rfl⟩
theorem closed_bCs (s : ByteArray) : closedLL (bCs s) = True := propext ⟨fun _ => trivial, fun _ => closedLL_bCs s⟩
theorem all_arr {α : Type} (l : List α) (p : α → Bool) (n : Nat) : (l.toArray).all p 0 n = (l.take n).all p := by
  rw [Bool.eq_iff_iff, Array.all_iff_forall, List.all_eq_true]
  constructor
  · intro h x hx
    obtain ⟨i, hi⟩ := List.mem_iff_getElem?.1 hx
    rw [List.getElem?_take] at hi
    split at hi
    · rename_i hin
      have hil := (List.getElem?_eq_some_iff.1 hi).1
      have := h i (by simpa using hil) ⟨Nat.zero_le _, hin⟩
      rw [List.getElem?_eq_getElem hil] at hi
      injection hi with hi
      rw [← hi]
      simpa using this
    · cases hi
  · intro h i hi ⟨_, hin⟩
    have hil : i < l.length := by simpa using hi
    have := h l[i] (List.mem_iff_getElem?.2 ⟨i, by rw [List.getElem?_take, if_pos hin, List.getElem?_eq_getElem hil]⟩)
    simpa using this
theorem arr_get {α : Type} (l : List α) (i : Nat) : (l.toArray)[i]? = l[i]? := by simp
theorem w64 (n : Int) (h : -9223372036854775808 ≤ n ∧ n ≤ 9223372036854775807) : IntKind.i64.wrap n = n := by rw [IntKind.wrap_i64]; omega
theorem w64_u8 (b : UInt8) : IntKind.i64.wrap (b.toNat : Int) = b.toNat := by have := b.toNat_lt; rw [IntKind.wrap_i64]; omega
theorem ares_one (x : AV) : ares [x] = x := rfl
theorem ares_two (x y : AV) (r : List AV) : ares (x :: y :: r) = .tup (x :: y :: r) := rfl
theorem ares_nil : ares [] = .tup [] := rfl
attribute [go_sem] Value.oneCell' AV.ren AV.renL idk restrict inKs fres rcell ares_one ares_two ares_nil ekeep AV.frz AV.frzL AObj.frz frzTab frzEnv AObj.ren tabKeys
end Go.Proofs.Ytoblmpfcjeammaa.V
