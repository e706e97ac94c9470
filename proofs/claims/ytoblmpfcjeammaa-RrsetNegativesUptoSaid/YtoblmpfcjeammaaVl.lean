/-
  A contract proved from the function's code; objects that are read alone from some step on. Conditions: none; plain definitions and lemmas, over any program.
-/
import Derived.Test.YtoblmpfcjeammaaVk
set_option linter.unusedVariables false
set_option linter.unusedSimpArgs false
namespace Go.Proofs.Ytoblmpfcjeammaa.V
open Go.RowKit

/-! ### Some keys alone -/
def inKs : List Nat → Nat → Bool
  | [], _ => false
  | x :: r, k => if x = k then true else inKs r k
def idk (ks : List Nat) (k v : Nat) : Option (Nat × Nat) := if inKs ks k = true then some (k, v) else none
def restrict (ks : List Nat) : Tab → Tab
  | [] => []
  | e :: r => if inKs ks e.key = true then ⟨e.key, e.ver, e.obj.ren (idk ks)⟩ :: restrict ks r else restrict ks r
theorem restrict_find (ks : List Nat) (k : Nat) : ∀ t : Tab, (restrict ks t).find k = if inKs ks k = true then (t.find k).map (fun p => (p.1, p.2.ren (idk ks))) else none
  | [] => by simp [restrict, Tab.find]
  | e :: r => by
    simp only [restrict, Tab.find]
    have ih := restrict_find ks k r
    by_cases h : e.key = k
    · subst h
      simp only [if_true]
      split
      · rename_i hk; simp [Tab.find]
      · rename_i hk; rw [ih]; simp [hk]
    · simp only [h, if_false]
      split
      · simp only [Tab.find, h, if_false, ih]
      · exact ih
def onlyCur (ks : List Nat) (cur : Cur) : Cur := fun k => if inKs ks k = true then cur k else none
section
variable {P : Program} {C : Ctx} {w w1 : World} {cur cur0 : Cur} {t : Tab}
theorem only_live {ks : List Nat} {b : Nat} (h : live (onlyCur ks cur) b) : live cur b := by
  obtain ⟨k, ver, l, h1, h2⟩ := h
  unfold onlyCur at h1
  split at h1
  · exact ⟨k, ver, l, h1, h2⟩
  · cases h1
theorem only_ok {ks : List Nat} {b : Nat} (h : okB C w cur b) : okB C w (onlyCur ks cur) b := ⟨h.1, h.2.1, fun hl => h.2.2 (only_live hl)⟩
theorem only_names (ks : List Nat) : Renames (idk ks) cur (onlyCur ks cur) := by
  intro k v p hp ver l hk hv
  unfold idk at hp
  split at hp
  · rename_i hin
    injection hp with hp
    subst hp
    exact ⟨ver, l, by simp only [onlyCur, hin, if_true]; exact hk, hv, fun e => ⟨e, rfl⟩⟩
  · cases hp
theorem prune (ks : List Nat) (hH : RelH C w cur t) (hx : Ext C w1 cur0 w cur) (h0 : ∀ k, inKs ks k = false → cur0 k = none) :
    RelH C w (onlyCur ks cur) (restrict ks t) ∧ Ext C w1 cur0 w (onlyCur ks cur) := by
  refine ⟨⟨hH.os, hH.tape, hH.output, hH.size, fun k => ?_, fun k1 k2 v1 v2 l1 l2 b h1 h2 hb1 hb2 => ?_, fun k ver l b h1 h2 => ?_, hH.frame, hH.old⟩, ⟨fun b hb => ⟨only_ok (hx.ok b hb).1, (hx.ok b hb).2⟩, fun k ver l hk => ?_⟩⟩
  · rw [restrict_find]
    simp only [onlyCur]
    split
    · refine ⟨fun h => (hH.dom k).1 (by simpa using h), fun ver o ho => ?_⟩
      cases hf : t.find k with
      | none => rw [hf] at ho; cases ho
      | some p =>
        rw [hf] at ho
        simp only [Option.map_some, Option.some.injEq, Prod.mk.injEq] at ho
        obtain ⟨rfl, rfl⟩ := ho
        obtain ⟨l, h1, h2⟩ := (hH.dom k).2 p.1 p.2 hf
        exact ⟨l, h1, RelO.ren (fun y u hy => hy.ren (fun b hb => only_ok hb) _ (only_names ks)) (fun b _ => rfl) h2⟩
    · exact ⟨fun _ => rfl, (fun ver o ho => by cases ho)⟩
  · unfold onlyCur at h1 h2
    split at h1
    · split at h2
      · exact hH.inj _ _ _ _ _ _ b h1 h2 hb1 hb2
      · cases h2
    · cases h1
  · unfold onlyCur at h1
    split at h1
    · exact hH.lives k ver l b h1 h2
    · cases h1
  · obtain ⟨v', l', h1, h2⟩ := hx.le k ver l hk
    refine ⟨v', l', ?_, h2⟩
    unfold onlyCur
    split
    · exact h1
    · rename_i hn
      rw [h0 k (by simpa using hn)] at hk
      cases hk
end

/-! ### Entering and leaving a function -/
def eargs : Nat → List AV → Env → Env
  | _, [], acc => acc
  | i, a :: r, acc => eargs (i + 1) r ((i, a) :: acc)
theorem eget_eargs : ∀ (as : List AV) (i : Nat) (acc : Env) (d : Nat), (∀ p ∈ acc, p.1 < i) → eget (eargs i as acc) d = if d < i then eget acc d else (as.getD (d - i) .poison)
  | [], i, acc, d, h => by
    simp only [eargs]
    split
    · rfl
    · rename_i hd
      simp
      induction acc with
      | nil => rfl
      | cons p r ih =>
        have hp := h p (by simp)
        simp only [eget]
        rw [if_neg (by omega)]
        exact ih (fun q hq => h q (by simp [hq]))
  | a :: r, i, acc, d, h => by
    simp only [eargs]
    rw [eget_eargs r (i + 1) ((i, a) :: acc) d (by
      intro p hp
      rcases List.mem_cons.1 hp with rfl | hp
      · simp
      · have := h p hp; omega)]
    simp only [eget]
    by_cases hd : d < i
    · rw [if_pos hd, if_pos (by omega), if_neg (by omega)]
    · rw [if_neg hd]
      by_cases he : i = d
      · subst he
        rw [if_pos (by omega), if_pos rfl]
        simp
      · rw [if_neg (by omega), show d - i = (d - (i + 1)) + 1 by omega]
        simp
def ares (l : List AV) : AV := match l with
  | [x] => x
  | xs => .tup xs
/-- A named result's cells, read at the end. -/
def rcell (P : Program) (ty : TypeId) (x : AV) (t : Tab) (k : AV → Prop) : Prop :=
  match x with
  | .ref key ver off => match t.find key with
    | some (v, .cells _ cs) => ver = v ∧ known P ty = true ∧ (if isAggT P ty = true then off + sizeT P ty ≤ cs.length ∧ k (.agg ((cs.drop off).take (sizeT P ty))) else off < cs.length ∧ k (cs.getD off .poison))
    | _ => False
  | _ => False
def fres (P : Program) (e : Env) (t : Tab) : List ResultVar → List AV → (List AV → Prop) → Prop
  | [], acc, k => k acc
  | .tmp d :: r, acc, k => fres P e t r (acc ++ [eget e d]) k
  | .cell a ty :: r, acc, k => rcell P ty (eget e a) t fun v => fres P e t r (acc ++ [v]) k
def rv (tmps : Array Value) (x : ResultVar) : Sem Value :=
  match x with
  | .tmp t => pure (tmps.getD t undef)
  | .cell a t => do loadVar t (← asAddr (tmps.getD a undef))
theorem results_rv (fn : Func) (tmps : Array Value) : results fn tmps = (do let vs ← fn.results.mapM (rv tmps); pure (if h : vs.size = 1 then vs[0] else .tuple vs)) := by
  unfold results
  congr 1
theorem rcell_run {P : Program} {C : Ctx} {w : World} {cur : Cur} {t : Tab} {ty : TypeId} {X : AV} {u : Value} {k : AV → Prop} (hH : RelH C w cur t) (hX : RelV w (okB C w cur) cur X u) (h : rcell P ty X t k) :
    ∃ v av, (do loadVar ty (← asAddr u) : Sem Value).run P w = .ok v w ∧ k av ∧ RelV w (okB C w cur) cur av v := by
  unfold rcell at h
  split at h
  · rename_i key ver off
    split at h
    · rename_i v ty' cs hf
      obtain ⟨e, hk, hb⟩ := h
      subst e
      obtain ⟨g, c, fr, hl, _, _, _, _, hA⟩ := at_box hH hf
      cases hX with
      | ref _ _ _ _ _ ver' l h1 hv h2 =>
        rw [hl] at h1; injection h1 with h1; injection h1 with h3 h4; subst h3; subst h4
        have h5 := h2 rfl
        simp only [Loc.ref] at h5
        subst h5
        obtain ⟨v, h6, h7⟩ := run_loadVar (C := C) (cur := cur) (o := off) hk hA (by split at hb <;> rename_i hg <;> first | (rw [if_pos hg]; exact hb.1) | (rw [if_neg hg]; exact hb.1))
        rw [addr_add, Nat.zero_add] at h6
        refine ⟨v, _, by simp [asAddr, h6], ?_, h7⟩
        split at hb
        · rename_i hg; rw [if_pos hg]; exact hb.2
        · rename_i hg; rw [if_neg hg]; exact hb.2
    · exact h.elim
  · exact h.elim
theorem fres_run {P : Program} {C : Ctx} {w : World} {cur : Cur} {t : Tab} {e : Env} {a : Act} (hH : RelH C w cur t) (hE : RelE w (okB C w cur) cur e a) {k : List AV → Prop} : ∀ (rs : List ResultVar) (acc : List AV) (us : List Value), RelL w (okB C w cur) cur acc us → fres P e t rs acc k →
    ∃ vs, (rs.mapM (rv a.tmps)).run P w = .ok vs w ∧ ∃ avs, k avs ∧ RelL w (okB C w cur) cur avs (us ++ vs)
  | [], acc, us, hr, h => ⟨[], by simp, acc, h, by simpa using hr⟩
  | x :: r, acc, us, hr, h => by
    have snoc : ∀ {av v}, RelV w (okB C w cur) cur av v → RelL w (okB C w cur) cur (acc ++ [av]) (us ++ [v]) := by
      intro av v hv
      refine ⟨by simp [hr.1], fun j y u h1 h2 => ?_⟩
      rw [List.getElem?_append] at h1 h2
      rw [hr.1] at h2
      split at h1
      · rename_i hj; rw [if_pos hj] at h2; exact hr.2 j y u h1 h2
      · rename_i hj
        rw [if_neg hj] at h2
        cases hi : j - acc.length with
        | zero => rw [hi] at h1 h2; simp at h1 h2; subst h1; subst h2; exact hv
        | succ i => rw [hi] at h1; simp at h1
    cases x with
    | tmp d =>
      obtain ⟨vs, h1, avs, h2, h3⟩ := fres_run hH hE r (acc ++ [eget e d]) (us ++ [a.tmps.getD d undef]) (snoc (hE d)) h
      refine ⟨a.tmps.getD d undef :: vs, ?_, avs, h2, by simpa using h3⟩
      simp only [List.mapM_cons, Sem.run_bind, rv, Sem.run_pure, Result.andThen_ok, h1]
    | cell d ty =>
      obtain ⟨v, av, h0, h0', hv⟩ := rcell_run hH (hE d) h
      obtain ⟨vs, h1, avs, h2, h3⟩ := fres_run hH hE r (acc ++ [av]) (us ++ [v]) (snoc hv) h0'
      refine ⟨v :: vs, ?_, avs, h2, by simpa using h3⟩
      have h0'' : (rv a.tmps (.cell d ty)).run P w = .ok v w := h0
      simp only [List.mapM_cons, Sem.run_bind, h0'', Sem.run_pure, Result.andThen_ok, h1]
theorem run_results {P : Program} {C : Ctx} {w : World} {cur : Cur} {t : Tab} {fn : Func} {e : Env} {a : Act} {k : List AV → Prop} (hH : RelH C w cur t) (hE : RelE w (okB C w cur) cur e a) (h : fres P e t fn.results.toList [] k) :
    ∃ v avs, (results fn a.tmps).run P w = .ok v w ∧ k avs ∧ RelV w (okB C w cur) cur (ares avs) v := by
  obtain ⟨vs, h1, avs, h2, h3⟩ := fres_run hH hE fn.results.toList [] [] ⟨rfl, fun j y u h => by simp at h⟩ h
  rw [List.nil_append] at h3
  have hm : (fn.results.mapM (rv a.tmps)).run P w = .ok vs.toArray w := by
    rw [← Array.toArray_toList (xs := fn.results), List.mapM_toArray]
    simp [h1]
  rw [results_rv]
  have hlen := h3.1
  match avs, vs, hlen with
  | [], [], _ => exact ⟨.tuple #[], [], by simp [hm], h2, .tup _ _ [] rfl (fun j y u h => by simp at h)⟩
  | [x], [v], _ => exact ⟨v, [x], by simp [hm], h2, h3.2 0 x v rfl rfl⟩
  | x :: y :: r, v :: u :: s, _ => exact ⟨.tuple (v :: u :: s).toArray, x :: y :: r, by simp [hm], h2, .tup _ _ _ (by simpa using h3.1) h3.2⟩

structure FxOk (X : Fx) : Prop where
  own : ∀ k b, X.C.own k b → inKs X.keys k = true
  cur : ∀ k, inKs X.keys k = false → X.cur0 k = none
def fend (P : Program) (rs : List ResultVar) (keys : List Nat) (Q : AV → Tab → Prop) (e : Env) (t : Tab) : Prop :=
  ∃ ks, (∀ k, inKs ks k = false → inKs keys k = false) ∧ fres P e t rs [] fun vs => Q ((ares vs).ren (idk ks)) (restrict ks t)
def fpost (P : Program) (rs : List ResultVar) (keys : List Nat) (Q : AV → Tab → Prop) : Exit → Env → Tab → Prop
  | .normal => fend P rs keys Q
  | .ret => fend P rs keys Q
  | _ => fun _ _ => False
def tabKeys : Tab → List Nat
  | [] => []
  | e :: r => e.key :: tabKeys r
theorem tabKeys_find (k : Nat) : ∀ t : Tab, inKs (tabKeys t) k = (t.find k).isSome
  | [] => rfl
  | e :: r => by
    simp only [tabKeys, inKs, Tab.find]
    split
    · rfl
    · exact tabKeys_find k r
theorem fn_of {P : Program} {f : FuncId} {fn : Func} {c : Code} {as : List AV} {t : Tab} {Q : AV → Tab → Prop} (hf : P.funcs[f]? = some fn) (hb : fn.body = some c) (hn : (fn.name == "runtime.NumGoroutine") = false)  (hlen : as.length ≤ fn.ntmps)
    (h : ∀ X : Fx, FxOk X → X.n = fn.ntmps → X.keys = tabKeys t → HW P X c (fpost P fn.results.toList X.keys Q) (eargs 0 as []) t) : Fn P f as t Q := by
  intro C cur vs hown hH hR
  have hcf : (callFunc f vs.toArray).run P C.w0 = .ok (.enter f vs.toArray) C.w0 := by
    have hn' : ¬ fn.name = "runtime.NumGoroutine" := by simpa using hn
    simp [callFunc, hf, hn', hb]
  unfold Invokes
  rw [hcf]
  let X : Fx := ⟨C, cur, fn.ntmps, [], tabKeys t⟩
  have hX : FxOk X := ⟨fun k b h => by
    rw [tabKeys_find]
    have := hown k b h
    cases hf : t.find k with
    | none => exact absurd hf this
    | some p => rfl, fun k hk => by
    rw [tabKeys_find] at hk
    cases hf : t.find k with
    | none => exact (hH.dom k).1 hf
    | some p => rw [hf] at hk; cases hk⟩
  have hvl : vs.length = as.length := hR.1
  have hsize : (vs.toArray ++ Array.replicate (fn.ntmps - vs.toArray.size) undef).size = fn.ntmps := by simp; omega
  refine calls_of_wp hf hb (wp_mono (h X hX rfl rfl { tmps := vs.toArray ++ Array.replicate (fn.ntmps - vs.toArray.size) undef, defers := [] } C.w0 ⟨cur, hsize, rfl, fun d => ?_, hH, Ext.refl _ _ _⟩) fun z a' w' ⟨e', t', h1, h2⟩ => ?_)
  · rw [eget_eargs as 0 [] d (fun p hp => by cases hp), if_neg (by omega)]
    by_cases hd : d < as.length
    · have hd' : d < vs.length := by omega
      rw [show as.getD (d - 0) AV.poison = as[d] from by simp [List.getD, hd]]
      rw [show (vs.toArray ++ Array.replicate (fn.ntmps - vs.toArray.size) undef).getD d undef = vs[d] from by simp [Array.getD_eq_getD_getElem?, Array.getElem?_append, hd']]
      exact hR.2 d _ _ (List.getElem?_eq_getElem hd) (List.getElem?_eq_getElem hd')
    · rw [show as.getD (d - 0) AV.poison = .poison from by simp [List.getD, List.getElem?_eq_none (show as.length ≤ d by omega)]]
      exact .poison _ _
  · have fin : fend P fn.results.toList X.keys Q e' t' → a'.defers = [] ∧ ∃ v, (results fn a'.tmps).run P w' = .ok v w' ∧ After C C.w0 cur Q (.returned v) w' := by
      intro ⟨ks, hks, hF⟩
      obtain ⟨cur', hs, hD, hE, hH', hx⟩ := h2
      obtain ⟨v, avs, hv, hQ, hrel⟩ := run_results (P := P) hH' hE hF
      obtain ⟨g1, g2⟩ := prune ks hH' hx (fun k hk => hX.cur k (hks k hk))
      exact ⟨hD, v, hv, v, _, _, _, rfl, hQ, g1, g2, hrel.ren (fun b hb => only_ok hb) _ (only_names ks)⟩
    cases z with
    | normal => exact fin h1
    | ret => exact fin h1
    | exit id => exact h1.elim
    | goto l => exact h1.elim
    | panic ch => exact h1.elim
    | outgrown => exact h1.elim

/-! ### Read alone from here on -/
mutual
def AV.closed : AV → Prop
  | .val _ => True
  | .imm _ _ => True
  | .sl _ _ _ _ => False
  | .ref _ _ _ => False
  | .eref _ _ _ _ => False
  | .mp _ _ => False
  | .iptr _ _ => True
  | .agg cs => AV.closedL cs
  | .tup cs => AV.closedL cs
  | .func _ cs => AV.closedL cs
  | .iface _ x => AV.closed x
  | .poison => True
def AV.closedL : List AV → Prop
  | [] => True
  | x :: r => AV.closed x ∧ AV.closedL r
end
theorem closedL_get : ∀ {l : List AV}, AV.closedL l → ∀ {j : Nat} {y : AV}, l[j]? = some y → y.closed
  | [], _, j, y, h => by cases h
  | x :: r, h, 0, y, hy => by simp at hy; subst hy; exact h.1
  | x :: r, h, j + 1, y, hy => closedL_get h.2 (by simpa using hy)
theorem RelV.close {w : World} {ok : Nat → Prop} {cur : Cur} {av : AV} {v : Value} (h : RelV w ok cur av v) : av.closed → RelV w ok noCur av v := by
  induction h with
  | val cur v => exact fun _ => .val _ _
  | imm cur sz xs A c u hc hm hA hl hs hu hr ih => exact fun _ => .imm _ sz xs A c u hc hm hA hl hs hu hr
  | sl => exact fun h => h.elim
  | ref => exact fun h => h.elim
  | eref => exact fun h => h.elim
  | mp => exact fun h => h.elim
  | iptr cur cs off a u hb hu hr ih => exact fun _ => .iptr _ cs off a u hb hu hr
  | agg cur cs us hn hr ih => exact fun h => .agg _ cs us hn (fun j y u h1 h2 => ih j y u h1 h2 (closedL_get h h1))
  | tup cur cs us hn hr ih => exact fun h => .tup _ cs us hn (fun j y u h1 h2 => ih j y u h1 h2 (closedL_get h h1))
  | func cur fn cs us hn hr ih => exact fun h => .func _ fn cs us hn (fun j y u h1 h2 => ih j y u h1 h2 (closedL_get h h1))
  | iface cur t x v hr ih => exact fun h => .iface _ t x v (ih h)
  | poison cur v => exact fun _ => .poison _ v
def closedLL : List (List AV) → Prop
  | [] => True
  | x :: r => AV.closedL x ∧ closedLL r
theorem closedLL_get : ∀ {l : List (List AV)}, closedLL l → ∀ {i : Nat} {x : List AV}, l[i]? = some x → AV.closedL x
  | [], _, i, x, h => by cases h
  | y :: r, h, 0, x, hx => by simp at hx; subst hx; exact h.1
  | y :: r, h, i + 1, x, hx => closedLL_get h.2 (by simpa using hx)
theorem closedLL_iff : ∀ {l : List (List AV)}, closedLL l ↔ ∀ x ∈ l, AV.closedL x
  | [] => by simp [closedLL]
  | y :: r => by simp [closedLL, closedLL_iff (l := r)]
theorem closedLL_bCs (s : ByteArray) : closedLL (bCs s) := closedLL_iff.2 fun x hx => by
  obtain ⟨b, _, rfl⟩ := List.mem_map.1 hx
  exact ⟨trivial, trivial⟩

mutual
/-- An object's parts as what is read alone. -/
def AV.frz (k v : Nat) (o : AObj) : AV → AV
  | .val x => .val x
  | .imm sz xs => .imm sz xs
  | .sl k' v' off n => if k' = k then (match o with
    | .arr _ sz els => if v' = v then .imm sz ((els.drop off).take n) else .poison
    | _ => .poison) else .sl k' v' off n
  | .ref k' v' off => if k' = k then (match o with
    | .cells _ cs => if v' = v then .iptr cs off else .poison
    | _ => .poison) else .ref k' v' off
  | .eref k' v' i j => if k' = k then (match o with
    | .arr _ sz els => if v' = v then .iptr (els.getD i []) j else .poison
    | _ => .poison) else .eref k' v' i j
  | .mp k' v' => if k' = k then .poison else .mp k' v'
  | .iptr cs off => .iptr cs off
  | .agg cs => .agg (AV.frzL k v o cs)
  | .tup cs => .tup (AV.frzL k v o cs)
  | .func f cs => .func f (AV.frzL k v o cs)
  | .iface t x => .iface t (AV.frz k v o x)
  | .poison => .poison
def AV.frzL (k v : Nat) (o : AObj) : List AV → List AV
  | [] => []
  | x :: r => AV.frz k v o x :: AV.frzL k v o r
end
theorem frzL_eq (k v : Nat) (o : AObj) : ∀ l : List AV, AV.frzL k v o l = l.map (AV.frz k v o)
  | [] => rfl
  | x :: r => by simp [AV.frzL, frzL_eq k v o r]
def AObj.frz (k v : Nat) (o : AObj) : AObj → AObj
  | .cells t cs => .cells t (AV.frzL k v o cs)
  | .arr t sz els => .arr t sz (els.map (AV.frzL k v o))
  | .map es => .map (es.map fun p => (p.1, AV.frz k v o p.2))
  | .dead => .dead
def objClosed : AObj → Prop
  | .cells _ cs => AV.closedL cs
  | .arr _ _ els => closedLL els
  | .map _ => False
  | .dead => False
section
variable {P : Program} {C : Ctx} {w : World} {cur : Cur} {t : Tab} {k v : Nat} {o : AObj}
theorem frz_turn (hH : RelH C w cur t) (hf : t.find k = some (v, o)) : Turn w cur k v .dead w := by
  refine ⟨rfl, rfl, rfl, Nat.le_refl _, fun _ _ _ => rfl, (fun b hb => by cases hb), fun ver l0 hk => ?_⟩
  obtain ⟨l, h1, _⟩ := (hH.dom k).2 v o hf
  rw [h1] at hk
  injection hk with hk; injection hk with h2 _
  exact ⟨by omega, fun _ => .inr rfl⟩
/-- A block whose object is given up is one of those that are read. -/
theorem frz_ok {l : Loc} {b : Nat} (hH : RelH C w cur t) (hk : cur k = some (v, l)) (hb : l.block = some b) (hown : ∀ b, ¬ C.own k b) : okB C w (upd cur k v .dead) b := by
  obtain ⟨h1, h2⟩ := hH.lives k v l b hk hb
  refine ⟨.inr (h2.resolve_left (hown b)), h1, fun ⟨k2, v2, l2, h3, h4⟩ => ?_⟩
  unfold upd at h3
  split at h3
  · injection h3 with h3; injection h3 with _ h3; subst h3; cases h4
  · rename_i hne
    exact hne (hH.inj _ _ _ _ _ _ b hk h3 hb h4)
theorem frz_rel (hH : RelH C w cur t) (hf : t.find k = some (v, o)) (hc : objClosed o) (hown : ∀ b, ¬ C.own k b) {cur1 : Cur} {av : AV} {u : Value} (h : RelV w (okB C w cur) cur1 av u) : cur1 = cur → RelV w (okB C w (upd cur k v .dead)) (upd cur k v .dead) (av.frz k v o) u := by
  have hT := frz_turn hH hf
  have hx := hT.ext (C := C)
  obtain ⟨lo, hlo, hRO⟩ := (hH.dom k).2 v o hf
  induction h with
  | val => exact fun _ => .val _ _
  | imm c1 sz xs A c u hc' hm hA hl hs hu hr ih =>
    intro e; subst e
    exact hx.rel (.imm _ sz xs A c u hc' hm hA hl hs hu hr)
  | sl c1 key ver off len u ver' l h1 hv hr =>
    intro e; subst e
    simp only [AV.frz]
    split
    · rename_i e
      subst e
      rw [hlo] at h1; injection h1 with h1; injection h1 with e1 e2; subst e1; subst e2
      split
      · rename_i ty sz els
        split
        · rename_i e; subst e
          have hr' := hr rfl
          obtain ⟨hs, hl, ⟨rfl, rfl⟩ | ⟨g, o', cap, c, fr, rfl, g1, g2, g3, g4, g5, g6⟩⟩ := hRO
          · obtain ⟨rfl, rfl, rfl⟩ := hr'
            exact .imm _ sz [] none 0 (fun _ _ => undef) (Nat.le_refl _) (by omega) (fun h => absurd h (by simp)) (fun x hx => by simp at hx) hs (fun a ha => by cases ha) (fun i x j y hx => by simp at hx)
          · obtain ⟨p1, p2, a, rfl, p4⟩ := hr'
            have hlen : ((els.drop off).take len).length = len := by rw [List.length_take, List.length_drop]; omega
            have hget : ∀ (i : Nat) (x : List AV), ((els.drop off).take len)[i]? = some x → els[off + i]? = some x := fun i x hi => by
              rw [List.getElem?_take] at hi
              split at hi
              · rwa [List.getElem?_drop] at hi
              · cases hi
            rw [show (Value.slice (some a) len (cap - off)) = .slice (some a) ((els.drop off).take len).length (cap - off) from by rw [hlen]]
            refine .imm _ sz _ (some a) (cap - off) (fun i j => c.getD (o' + (off + i) * sz + j) undef) (by omega) (by omega) (fun hp => ?_) (fun x hx' => hl x (List.mem_of_mem_drop (List.mem_of_mem_take hx'))) hs (fun a' ha i x j y hi hy => ?_) (fun i x j y hi hy => ?_)
            · refine ⟨a, rfl, ?_⟩
              rw [p4 (by omega)]
              exact frz_ok hH hlo rfl hown
            · injection ha with ha; subst ha
              have hi' := (List.getElem?_eq_some_iff.1 hi).1
              obtain ⟨u, hu, _⟩ := g6 (off + i) x j y (hget i x hi) hy
              rw [p4 (by omega), addr_add]
              rw [show o' + off * sz + (i * sz + j) = o' + (off + i) * sz + j from by rw [Nat.add_mul]; omega]
              simp [World.cell?, g1, Array.getD_eq_getD_getElem?, hu]
            · obtain ⟨u, hu, hr⟩ := g6 (off + i) x j y (hget i x hi) hy
              rw [show c.getD (o' + (off + i) * sz + j) undef = u from by simp [Array.getD_eq_getD_getElem?, hu]]
              have h7 := closedL_get (closedLL_get hc (hget i x hi)) hy
              exact (hr.close h7).mono (fun b hb => ⟨(hx.ok b hb).1, rfl⟩) _ (CurLe.refl _)
        · exact .poison _ _
      · exact .poison _ _
    · rename_i hne
      exact .sl _ _ _ _ _ _ ver' l (by simp only [upd]; rw [if_neg (fun e => hne e.symm)]; exact h1) hv hr
  | ref c1 key ver off u ver' l h1 hv hr =>
    intro e; subst e
    simp only [AV.frz]
    split
    · rename_i e
      subst e
      rw [hlo] at h1; injection h1 with h1; injection h1 with e1 e2; subst e1; subst e2
      split
      · rename_i ty cs
        split
        · rename_i e; subst e
          obtain ⟨g, c, fr, rfl, g1, g2, g3, g4⟩ := hRO
          have hr' : u = .pointer (some ⟨g, off, none⟩) := hr rfl
          have hu : u = .pointer (some ((⟨g, 0, none⟩ : Addr).add off)) := by rw [addr_add]; simpa using hr'
          subst hu
          refine .iptr _ cs off ⟨g, 0, none⟩ (fun j => c.getD j undef) (frz_ok hH hlo rfl hown) (fun j y hy => ?_) (fun j y hy => ?_)
          · obtain ⟨u, hu, _⟩ := g4 j y hy
            rw [addr_add]
            simp [World.cell?, g1, Array.getD_eq_getD_getElem?, hu]
          · obtain ⟨u, hu, hr⟩ := g4 j y hy
            rw [show c.getD j undef = u from by simp [Array.getD_eq_getD_getElem?, hu]]
            exact (hr.close (closedL_get hc hy)).mono (fun b hb => ⟨(hx.ok b hb).1, rfl⟩) _ (CurLe.refl _)
        · exact .poison _ _
      · exact .poison _ _
    · rename_i hne
      exact .ref _ _ _ _ _ ver' l (by simp only [upd]; rw [if_neg (fun e => hne e.symm)]; exact h1) hv hr
  | eref c1 key ver i j u ver' l h1 hv hr =>
    intro e; subst e
    simp only [AV.frz]
    split
    · rename_i e
      subst e
      rw [hlo] at h1; injection h1 with h1; injection h1 with e1 e2; subst e1; subst e2
      split
      · rename_i ty sz els
        split
        · rename_i e; subst e
          have hr' := hr rfl
          obtain ⟨hs, hl, ⟨rfl, rfl⟩ | ⟨g, o', cap, c, fr, rfl, g1, g2, g3, g4, g5, g6⟩⟩ := hRO
          · exact hr'.elim
          · obtain ⟨p1, rfl⟩ := hr'
            have hx0 : els[i]? = some (els.getD i []) := by simp [List.getD, p1]
            have ha : (⟨g, o' + i * sz + j, none⟩ : Addr) = (⟨g, o' + i * sz, none⟩ : Addr).add j := by rw [addr_add]
            rw [ha]
            refine .iptr _ _ j ⟨g, o' + i * sz, none⟩ (fun j => c.getD (o' + i * sz + j) undef) (frz_ok hH hlo rfl hown) (fun j y hy => ?_) (fun j y hy => ?_)
            · obtain ⟨u, hu, _⟩ := g6 i _ j y hx0 hy
              rw [addr_add]
              simp [World.cell?, g1, Array.getD_eq_getD_getElem?, hu]
            · obtain ⟨u, hu, hr⟩ := g6 i _ j y hx0 hy
              rw [show c.getD (o' + i * sz + j) undef = u from by simp [Array.getD_eq_getD_getElem?, hu]]
              exact (hr.close (closedL_get (closedLL_get hc hx0) hy)).mono (fun b hb => ⟨(hx.ok b hb).1, rfl⟩) _ (CurLe.refl _)
        · exact .poison _ _
      · exact .poison _ _
    · rename_i hne
      exact .eref _ _ _ _ _ _ ver' l (by simp only [upd]; rw [if_neg (fun e => hne e.symm)]; exact h1) hv hr
  | mp c1 key ver u ver' l h1 hv hr =>
    intro e; subst e
    simp only [AV.frz]
    split
    · exact .poison _ _
    · rename_i hne
      exact .mp _ _ _ _ ver' l (by simp only [upd]; rw [if_neg (fun e => hne e.symm)]; exact h1) hv hr
  | iptr c1 cs off a u hb hu hr ih =>
    intro e; subst e
    exact hx.rel (.iptr _ cs off a u hb hu hr)
  | agg c1 cs us hn hr ih =>
    intro e; subst e
    simp only [AV.frz, frzL_eq]
    refine .agg _ _ us (by simpa using hn) (fun j y u h1 h2 => ?_)
    rw [List.getElem?_map] at h1
    cases hj : cs[j]? with
    | none => rw [hj] at h1; cases h1
    | some x => rw [hj] at h1; injection h1 with h1; subst h1; exact ih j x u hj h2 rfl
  | tup c1 cs us hn hr ih =>
    intro e; subst e
    simp only [AV.frz, frzL_eq]
    refine .tup _ _ us (by simpa using hn) (fun j y u h1 h2 => ?_)
    rw [List.getElem?_map] at h1
    cases hj : cs[j]? with
    | none => rw [hj] at h1; cases h1
    | some x => rw [hj] at h1; injection h1 with h1; subst h1; exact ih j x u hj h2 rfl
  | func c1 fn cs us hn hr ih =>
    intro e; subst e
    simp only [AV.frz, frzL_eq]
    refine .func _ _ _ us (by simpa using hn) (fun j y u h1 h2 => ?_)
    rw [List.getElem?_map] at h1
    cases hj : cs[j]? with
    | none => rw [hj] at h1; cases h1
    | some x => rw [hj] at h1; injection h1 with h1; subst h1; exact ih j x u hj h2 rfl
  | iface c1 t x u hr ih =>
    intro e; subst e
    simp only [AV.frz]
    exact .iface _ t _ u (ih rfl)
  | poison => exact fun _ => .poison _ _
theorem RelO.frz {R R' : AV → Value → Prop} {w w' : World} {k v : Nat} {o0 o : AObj} {l : Loc} (hR : ∀ y u, R y u → R' (y.frz k v o0) u) (hb : ∀ b, l.block = some b → w'.heap[b]? = w.heap[b]?) (h : RelO R w o l) : RelO R' w' (AObj.frz k v o0 o) l := by
  cases o with
  | cells t cs =>
    obtain ⟨g, c, fr, rfl, h1, h2, h3, h4⟩ := h
    have hlen : (AV.frzL k v o0 cs).length = cs.length := by rw [frzL_eq]; simp
    refine ⟨g, c, fr, by rw [hlen], (hb g rfl).trans h1, h2, h3.trans hlen.symm, fun j y hy => ?_⟩
    rw [frzL_eq, List.getElem?_map] at hy
    cases hj : cs[j]? with
    | none => rw [hj] at hy; cases hy
    | some x =>
      rw [hj] at hy; injection hy with hy; subst hy
      obtain ⟨u, hu, hr⟩ := h4 j x hj
      exact ⟨u, hu, hR _ _ hr⟩
  | arr t sz els =>
    obtain ⟨hs, hsz, h⟩ := h
    refine ⟨hs, fun x hx => ?_, ?_⟩
    · obtain ⟨x0, h0, rfl⟩ := List.mem_map.1 hx
      rw [frzL_eq, List.length_map]
      exact hsz x0 h0
    · rcases h with ⟨rfl, rfl⟩ | ⟨g, o, cap, c, fr, rfl, h1, h2, h3, h4, h5, h6⟩
      · exact .inl ⟨rfl, rfl⟩
      · refine .inr ⟨g, o, cap, c, fr, by rw [List.length_map], (hb g rfl).trans h1, h2, h3, by rw [List.length_map]; exact h4, h5, fun i x j y hi hy => ?_⟩
        rw [List.getElem?_map] at hi
        cases hx : els[i]? with
        | none => rw [hx] at hi; cases hi
        | some x0 =>
          rw [hx] at hi; injection hi with hi; subst hi
          rw [frzL_eq, List.getElem?_map] at hy
          cases hj : x0[j]? with
          | none => rw [hj] at hy; cases hy
          | some y0 =>
            rw [hj] at hy; injection hy with hy; subst hy
            obtain ⟨u, hu, hr⟩ := h6 i x0 j y0 hx hj
            exact ⟨u, hu, hR _ _ hr⟩
  | map es =>
    obtain ⟨g, en, clock, rfl, h1, h2, h3⟩ := h
    refine ⟨g, en, clock, rfl, (hb g rfl).trans h1, by rw [List.length_map]; exact h2, fun j p hp => ?_⟩
    rw [List.getElem?_map] at hp
    cases hj : es[j]? with
    | none => rw [hj] at hp; cases hp
    | some x =>
      rw [hj] at hp; injection hp with hp; subst hp
      obtain ⟨m, hm, hk, hr⟩ := h3 j x hj
      exact ⟨m, hm, hk, hR _ _ hr⟩
  | dead => exact h
def frzTab (k v : Nat) (o : AObj) : Tab → Tab
  | [] => []
  | e :: r => ⟨e.key, e.ver, if e.key = k then .dead else AObj.frz k v o e.obj⟩ :: frzTab k v o r
theorem frzTab_find (k v : Nat) (o : AObj) (k' : Nat) : ∀ t : Tab, (frzTab k v o t).find k' = (t.find k').map fun p => (p.1, if k' = k then .dead else AObj.frz k v o p.2)
  | [] => rfl
  | e :: r => by
    simp only [frzTab, Tab.find]
    split
    · rename_i h; subst h; rfl
    · exact frzTab_find k v o k' r
def frzEnv (k v : Nat) (o : AObj) : Env → Env
  | [] => []
  | p :: r => (p.1, p.2.frz k v o) :: frzEnv k v o r
theorem eget_frz (k v : Nat) (o : AObj) (d : Nat) : ∀ e : Env, eget (frzEnv k v o e) d = (eget e d).frz k v o
  | [] => by simp [frzEnv, eget, AV.frz]
  | p :: r => by
    simp only [frzEnv, eget]
    split
    · rfl
    · exact eget_frz k v o d r
theorem frz_heap (hH : RelH C w cur t) (hf : t.find k = some (v, o)) (hc : objClosed o) (hown : ∀ b, ¬ C.own k b) : RelH C w (upd cur k v .dead) (frzTab k v o t) := by
  have hT := frz_turn hH hf
  have h1 := hH.turn hT (o := .dead) rfl
  refine ⟨h1.os, h1.tape, h1.output, h1.size, fun k' => ?_, h1.inj, h1.lives, h1.frame, h1.old⟩
  rw [frzTab_find]
  by_cases e : k' = k
  · subst e
    refine ⟨fun h => by simp [hf] at h, fun ver o' ho => ?_⟩
    simp only [hf, Option.map_some, Option.some.injEq, Prod.mk.injEq, if_true] at ho
    obtain ⟨rfl, rfl⟩ := ho
    exact ⟨.dead, by simp [upd], rfl⟩
  · refine ⟨fun h => ?_, fun ver o' ho => ?_⟩
    · simp only [upd, if_neg (fun h => e h.symm : ¬ k = k')]
      exact (hH.dom k').1 (by simpa using h)
    · cases hf' : t.find k' with
      | none => rw [hf'] at ho; cases ho
      | some p =>
        rw [hf'] at ho
        simp only [Option.map_some, Option.some.injEq, Prod.mk.injEq, if_neg e] at ho
        obtain ⟨rfl, rfl⟩ := ho
        obtain ⟨l, h2, h3⟩ := (hH.dom k').2 p.1 p.2 hf'
        refine ⟨l, by simp only [upd, if_neg (fun h => e h.symm : ¬ k = k')]; exact h2, RelO.frz (fun y u hy => frz_rel hH hf hc hown hy rfl) (fun b _ => rfl) h3⟩
end
theorem HW_freeze {P : Program} {X : Fx} {c : Code} {Q : Exit → Env → Tab → Prop} {e : Env} {t : Tab} (k v : Nat) (o : AObj) (hX : FxOk X) (hk : inKs X.keys k = false) (hf : t.find k = some (v, o)) (hc : objClosed o)
    (h : HW P X c Q (frzEnv k v o e) (frzTab k v o t)) : HW P X c Q e t := by
  refine HW_ghost (fun a w hR => ?_) h
  obtain ⟨cur, hs, hD, hE, hH, hx⟩ := hR
  have hown : ∀ b, ¬ X.C.own k b := fun b hb => by
    have := hX.own k b hb
    rw [hk] at this
    cases this
  refine ⟨upd cur k v .dead, hs, hD, fun d => ?_, frz_heap hH hf hc hown, hx.trans (frz_turn hH hf).ext⟩
  rw [eget_frz]
  exact frz_rel hH hf hc hown (hE d) rfl
end Go.Proofs.Ytoblmpfcjeammaa.V
