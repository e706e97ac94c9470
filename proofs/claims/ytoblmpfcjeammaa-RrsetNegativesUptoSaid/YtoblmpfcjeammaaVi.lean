/-
  Lists of operations, code and functions over the abstract memory, and that Go's do the same. Conditions: none; plain definitions and lemmas, over any program.
-/
import Derived.Test.YtoblmpfcjeammaaVh
import Derived.Scope
import Derived.Tactics
import Derived.LoopN
set_option linter.unusedVariables false
set_option linter.unusedSimpArgs false
namespace Go.Proofs.Ytoblmpfcjeammaa.V
open Go.RowKit

/-! ### Calls, as the caller sees them -/
def RelL (w : World) (ok : Nat → Prop) (cur : Cur) (as : List AV) (vs : List Value) : Prop := vs.length = as.length ∧ ∀ (j : Nat) (y : AV) (u : Value), as[j]? = some y → vs[j]? = some u → RelV w ok cur y u
def After (C : Ctx) (w : World) (cur : Cur) (K : AV → Tab → Prop) (x : Ending) (w' : World) : Prop :=
  ∃ v av t' cur', x = .returned v ∧ K av t' ∧ RelH C w' cur' t' ∧ Ext C w cur w' cur' ∧ RelV w' (okB C w' cur') cur' av v
/-- What comes of calling a function, by the model's own rule. -/
def Invokes (P : Program) (f : FuncId) (vs : Array Value) (w : World) (R : Ending → World → Prop) : Prop :=
  match (callFunc f vs).run P w with
  | .ok (.enter g args) w' => Calls P g args w' R
  | .ok (.value v) w' => R (.returned v) w'
  | _ => False
theorem Invokes.mono {P : Program} {f : FuncId} {vs : Array Value} {w : World} {R R' : Ending → World → Prop} (h : Invokes P f vs w R) (hr : ∀ x w', R x w' → R' x w') : Invokes P f vs w R' := by
  unfold Invokes at *
  split
  · rename_i hx; rw [hx] at h; exact Calls.mono h hr
  · rename_i hx; rw [hx] at h; exact hr _ _ h
  · rename_i h1 h2
    split at h
    · rename_i hx; exact absurd hx (h1 _ _ _)
    · rename_i hx; exact absurd hx (h2 _ _)
    · exact h
def acall (P : Program) (f : FuncId) (as : List AV) (t : Tab) (K : AV → Tab → Prop) : Prop :=
  ∀ C w cur vs, RelH C w cur t → RelL w (okB C w cur) cur as vs → Invokes P f vs.toArray w (After C w cur K)
theorem acall_mono {P : Program} {f : FuncId} {as : List AV} {t : Tab} {K K' : AV → Tab → Prop} (h : acall P f as t K) (hk : ∀ v t', K v t' → K' v t') : acall P f as t K' :=
  fun C w cur vs h1 h2 => (h C w cur vs h1 h2).mono fun x w' ⟨v, av, t', cur', a, b, c⟩ => ⟨v, av, t', cur', a, hk _ _ b, c⟩

/-! ### Lists of operations -/
def acont : AR → Option Nat → Env → (Env → Tab → Prop) → Prop
  | .ok v t, d, e, k => k (eputo e d v) t
  | .need p x, d, e, k => p ∧ acont x d e k
  | .fork p q x y, d, e, k => (p → acont x d e k) ∧ (q → acont y d e k)
  | .stuck, _, _, _ => False
theorem acont_sat : ∀ (r : AR) (d : Option Nat) (e : Env) (k : Env → Tab → Prop), acont r d e k → r.sat fun v t => k (eputo e d v) t
  | .ok v t, d, e, k, h => h
  | .need p x, d, e, k, h => ⟨h.1, acont_sat x d e k h.2⟩
  | .fork p q x y, d, e, k, h => ⟨fun hp => acont_sat x d e k (h.1 hp), fun hq => acont_sat y d e k (h.2 hq)⟩
  | .stuck, _, _, _, h => h
/-- A function's value called. -/
def acv (P : Program) (f : AV) (as : List AV) (d : Option Nat) (e : Env) (t : Tab) (k : Env → Tab → Prop) : Prop :=
  match f with
  | .func (.func g) cs => acall P g (as ++ cs) t fun v t' => k (eputo e d v) t'
  | _ => False
/-- A method of a type of the program's: which function it is. -/
def Meth (P : Program) (T : TypeId) (name : String) (f : FuncId) : Prop := ∀ v w, (method (P.types.size + Made.depth) T v name).run P w = .ok (f, v) w
def ainv (P : Program) (r : AV) (name : String) (as : List AV) (d : Option Nat) (e : Env) (t : Tab) (k : Env → Tab → Prop) : Prop :=
  match r with
  | .iface T x => ∃ f, Meth P T name f ∧ acall P f (x :: as) t fun v t' => k (eputo e d v) t'
  | _ => False
def acallee (P : Program) (o : Oper) (c : Call) (e : Env) (t : Tab) (k : Env → Tab → Prop) : Prop :=
  match c.callee with
  | .value f => acv P (aev e f) (c.args.toList.map (aev e)) o.dst e t k
  | .builtin _ => acont (aop P o e t) o.dst e k
  | .invoke r name => ainv P (aev e r) name (c.args.toList.map (aev e)) o.dst e t k
def aone (P : Program) (o : Oper) (e : Env) (t : Tab) (k : Env → Tab → Prop) : Prop :=
  match o.op with
  | .call c => acallee P o c e t k
  | _ => acont (aop P o e t) o.dst e k
def agd (P : Program) (o : Oper) (e : Env) (t : Tab) (k : Env → Tab → Prop) (d : Nat) (b : Bool) (x : AV) : Prop :=
  match x with
  | .val v => match v with
    | .bool p => (p = b → aone P o (eput e d (.val (.bool b))) t k) ∧ (p = (!b) → k (eputo (eput e d (.val (.bool (!b)))) o.dst (.val undef)) t)
    | _ => k (eputo e o.dst (.val undef)) t
  | _ => False
def aguard (P : Program) (ops : List Oper) (o : Oper) (e : Env) (t : Tab) (k : Env → Tab → Prop) : Prop :=
  match o.guard with
  | none => aone P o e t k
  | some (j, b) => match ops[j]? with
    | some o' => match o'.dst with
      | some d => agd P o e t k d b (eget e d)
      | none => False
    | none => False
def aops (P : Program) (ops : List Oper) (K : Env → Tab → Prop) : List Oper → Env → Tab → Prop
  | [], e, t => K e t
  | o :: r, e, t => aguard P ops o e t (aops P ops K r)

/-! ### What a function's steps keep -/
structure Fx where
  C : Ctx
  cur0 : Cur
  n : Nat
  D : List Deferred
  keys : List Nat
def Rel (X : Fx) (e : Env) (t : Tab) (a : Act) (w : World) : Prop :=
  ∃ cur, a.tmps.size = X.n ∧ a.defers = X.D ∧ RelE w (okB X.C w cur) cur e a ∧ RelH X.C w cur t ∧ Ext X.C X.C.w0 X.cur0 w cur
def conc (X : Fx) (Q : Exit → Env → Tab → Prop) (x : Exit) (a : Act) (w : World) : Prop := ∃ e t, Q x e t ∧ Rel X e t a w
def dstOk (n : Nat) (ops : List Oper) : Bool := ops.all fun o => match o.dst with | some d => decide (d < n) | none => true

section
variable {P : Program} {X : Fx} {w : World} {e : Env} {t : Tab} {a : Act} {Q : Exit → Env → Tab → Prop}

theorem rel_put {w' : World} {cur cur' : Cur} {d : Option Nat} {av : AV} {v : Value} (hd : ∀ k, d = some k → k < a.tmps.size) (hE : RelE w (okB X.C w cur) cur e a) (hx : Ext X.C w cur w' cur') (hv : RelV w' (okB X.C w' cur') cur' av v) :
    RelE w' (okB X.C w' cur') cur' (eputo e d av) (a.put d v) := by
  intro k
  cases d with
  | none => exact hx.rel (hE k)
  | some d =>
    simp only [eputo, Act.put, eget_eput]
    split
    · rename_i h
      subst h
      have := hd d rfl
      rw [show (a.tmps.setIfInBounds d v).getD d undef = v from by simp [Array.getD, this]]
      exact hv
    · rename_i h
      rw [show (a.tmps.setIfInBounds d v).getD k undef = a.tmps.getD k undef from by
        simp [Array.getD_eq_getD_getElem?, Array.getElem?_setIfInBounds_ne h]]
      exact hx.rel (hE k)
theorem put_size {d : Option Nat} {v : Value} : (a.put d v).tmps.size = a.tmps.size := by cases d <;> simp [Act.put]
theorem put_defers {d : Option Nat} {v : Value} : (a.put d v).defers = a.defers := by cases d <;> rfl

theorem aone_sound {o : Oper} {k : Env → Tab → Prop} {next : Act → World → Prop} {Q' : Exit → Act → World → Prop} (hd : ∀ d, o.dst = some d → d < X.n) (hR : Rel X e t a w) (h : aone P o e t k)
    (hn : ∀ e' t' a' w', k e' t' → Rel X e' t' a' w' → next a' w') : o.wp P a w next Q' := by
  obtain ⟨cur, hs, hD, hE, hH, hX⟩ := hR
  have hd' : ∀ d, o.dst = some d → d < a.tmps.size := fun d h => by rw [hs]; exact hd d h
  have plain : acont (aop P o e t) o.dst e k → o.wp P a w next Q' := by
    intro h
    obtain ⟨n, v, av, t', w', cur', h1, h2, h3, h4, h5, h6⟩ := good_aop (P := P) o hH hE _ (acont_sat _ _ _ _ h)
    have hr : Rel X (eputo e o.dst av) t' (a.put o.dst v) w' := ⟨cur', by rw [put_size]; exact hs, by rw [put_defers]; exact hD, rel_put hd' hE h5 h6, h4, hX.trans h5⟩
    unfold Oper.wp
    rw [h1]
    rcases h2 with rfl | ⟨rfl, rfl⟩
    · rw [Oper.upon_value]; exact hn _ _ _ _ h3 hr
    · rw [Oper.upon_skip]; exact hn _ _ _ _ h3 hr
  unfold aone at h
  split at h
  · rename_i c hc
    unfold acallee at h
    split at h
    · rename_i f hf
      unfold acv at h
      split at h
      · rename_i g cs hg
        have hfr := aev_rel hE f
        rw [hg] at hfr
        generalize hev : a.eval f = fv at hfr
        cases hfr with
        | func _ _ _ us hn' hr' =>
          have hex : execOp a.eval o = callFunc g (c.args.map a.eval ++ us.toArray) := by
            simp only [execOp, hc, resolve, hf, hev]
            simp [Deferred.ofValue, invoke]
          have := h X.C w cur (c.args.toList.map a.eval ++ us) hH ⟨by simp [hn'], fun j y u h1 h2 => by
            rw [List.getElem?_append] at h1 h2
            simp only [List.length_map] at h1 h2
            split at h1
            · rename_i hj
              rw [if_pos hj] at h2
              rw [List.getElem?_map] at h1 h2
              cases hx : c.args.toList[j]? with
              | none => rw [hx] at h1; cases h1
              | some x =>
                rw [hx] at h1 h2
                injection h1 with h1; injection h2 with h2
                subst h1; subst h2
                exact aev_rel hE x
            · rename_i hj
              rw [if_neg hj] at h2
              exact hr' _ y u h1 h2⟩
          have harr : (c.args.toList.map a.eval ++ us).toArray = c.args.map a.eval ++ us.toArray := by
            apply Array.ext'
            simp
          rw [harr] at this
          have fin : ∀ x w', After X.C w cur (fun v t' => k (eputo e o.dst v) t') x w' → ∃ v, x = .returned v ∧ next (a.put o.dst v) w' := by
            intro x w' ⟨v, av, t', cur', h1, h2, h3, h4, h5⟩
            exact ⟨v, h1, hn _ _ _ _ h2 ⟨cur', by rw [put_size]; exact hs, by rw [put_defers]; exact hD, rel_put hd' hE h4 h5, h3, hX.trans h4⟩⟩
          unfold Oper.wp
          rw [hex]
          unfold Invokes at this
          split at this
          · rename_i g' args' w' hrun
            rw [hrun, Oper.upon_enter]
            refine Calls.mono this fun x w'' hx => ?_
            obtain ⟨v, rfl, hv⟩ := fin x w'' hx
            exact hv
          · rename_i v w' hrun
            rw [hrun, Oper.upon_value]
            obtain ⟨v', he, hv⟩ := fin _ w' this
            injection he with he
            subst he
            exact hv
          · exact this.elim
      · exact h.elim
    · exact plain h
    · rename_i r name hf
      unfold ainv at h
      split at h
      · rename_i T x hx
        obtain ⟨f, hm, h⟩ := h
        have hfr := aev_rel hE r
        rw [hx] at hfr
        generalize hev : a.eval r = fv at hfr
        cases hfr with
        | iface _ _ _ v hr' =>
          have hex : (execOp a.eval o).run P w = (callFunc f (#[v] ++ c.args.map a.eval)).run P w := by
            have h0 : (#[Value.iface T v] ++ c.args.map a.eval)[0]? = some (.iface T v) := by simp [Array.getElem?_append]
            simp only [execOp, hc, resolve, hf, hev]
            have h1 : (c.args.map a.eval).extract 0 c.args.size = c.args.map a.eval := by
              have := Array.extract_size (xs := c.args.map a.eval)
              rwa [Array.size_map] at this
            simp [invoke, h0, callMethod, hm v w, h1]
          have := h X.C w cur (v :: c.args.toList.map a.eval) hH ⟨by simp, fun j y u h1 h2 => by
            match j with
            | 0 => simp at h1 h2; subst h1; subst h2; exact hr'
            | j + 1 =>
              simp only [List.getElem?_cons_succ, List.getElem?_map] at h1 h2
              cases hx : c.args.toList[j]? with
              | none => rw [hx] at h1; cases h1
              | some x =>
                rw [hx] at h1 h2
                injection h1 with h1; injection h2 with h2
                subst h1; subst h2
                exact aev_rel hE x⟩
          have harr : (v :: c.args.toList.map a.eval).toArray = #[v] ++ c.args.map a.eval := by
            apply Array.ext'
            simp
          rw [harr] at this
          have fin : ∀ x w', After X.C w cur (fun v t' => k (eputo e o.dst v) t') x w' → ∃ v, x = .returned v ∧ next (a.put o.dst v) w' := by
            intro x w' ⟨v, av, t', cur', h1, h2, h3, h4, h5⟩
            exact ⟨v, h1, hn _ _ _ _ h2 ⟨cur', by rw [put_size]; exact hs, by rw [put_defers]; exact hD, rel_put hd' hE h4 h5, h3, hX.trans h4⟩⟩
          unfold Oper.wp
          rw [hex]
          unfold Invokes at this
          split at this
          · rename_i g' args' w' hrun
            rw [hrun, Oper.upon_enter]
            refine Calls.mono this fun x w'' hx => ?_
            obtain ⟨v, rfl, hv⟩ := fin x w'' hx
            exact hv
          · rename_i v w' hrun
            rw [hrun, Oper.upon_value]
            obtain ⟨v', he, hv⟩ := fin _ w' this
            injection he with he
            subst he
            exact hv
          · exact this.elim
      · exact h.elim
  · exact plain h

theorem aguard_sound {ops : List Oper} {o : Oper} {k : Env → Tab → Prop} {next : Act → World → Prop} {Q' : Exit → Act → World → Prop} (hall : dstOk X.n ops = true) (hd1 : ∀ d, o.dst = some d → d < X.n) (hR : Rel X e t a w) (h : aguard P ops o e t k)
    (ih : ∀ e' t' a' w', k e' t' → Rel X e' t' a' w' → next a' w') : (Region.wanted o (yielded ops.toArray a.tmps) = true ∧ o.wp P a w next Q') ∨ (¬ Region.wanted o (yielded ops.toArray a.tmps) = true ∧ next (a.put o.dst undef) w) := by
  have hskip : ∀ e, k (eputo e o.dst (.val undef)) t → Rel X e t a w → next (a.put o.dst undef) w := by
    intro e h hR
    obtain ⟨cur, hs, hD, hE, hH, hX⟩ := hR
    exact ih _ _ _ _ h ⟨cur, by rw [put_size]; exact hs, by rw [put_defers]; exact hD, rel_put (fun d h => by rw [hs]; exact hd1 d h) hE (Ext.refl _ _ _) (.val _ _), hH, hX⟩
  simp only [aguard] at h
  split at h
  · rename_i hg
    exact .inl ⟨by simp [Region.wanted, hg], aone_sound hd1 hR h ih⟩
  · rename_i j b hg
    split at h
    · rename_i o' hj
      split at h
      · rename_i d hdst
        have hdn : d < X.n := by
          have := List.all_eq_true.1 hall o' (List.mem_of_getElem? hj)
          rw [hdst] at this
          simpa using this
        obtain ⟨cur, hs, hD, hE, hH, hX⟩ := hR
        have hsl := hE d
        have hds : d < a.tmps.size := by rw [hs]; exact hdn
        have hget : a.tmps[d]? = some (a.tmps.getD d undef) := by simp [Array.getD, hds]
        unfold agd at h
        split at h
        · rename_i v hv
          rw [hv] at hsl
          generalize hw : a.tmps.getD d undef = u at hsl hget
          cases hsl
          have relput : ∀ p, a.tmps.getD d undef = .bool p → Rel X (eput e d (.val (.bool p))) t a w := by
            intro p hp
            refine ⟨cur, hs, hD, fun d' => ?_, hH, hX⟩
            rw [eget_eput]
            split
            · rename_i e'; subst e'; rw [hp]; exact .val _ _
            · exact hE d'
          split at h
          · rename_i p
            by_cases hp : p = b
            · subst hp
              exact .inl ⟨by simp [Region.wanted, hg, yielded, hj, hdst, hget], aone_sound hd1 (relput _ hw) (h.1 rfl) ih⟩
            · have hp' : p = !b := by cases p <;> cases b <;> simp_all
              refine .inr ⟨by simp [Region.wanted, hg, yielded, hj, hdst, hget, hp], ?_⟩
              subst hp'
              exact hskip _ (h.2 rfl) (relput _ hw)
          · rename_i hnb
            refine .inr ⟨by
              simp only [Region.wanted, hg, yielded]
              simp [hj, hdst, hget]
              cases v <;> first
                | exact absurd rfl (hnb _)
                | simp, ?_⟩
            exact hskip _ h ⟨cur, hs, hD, hE, hH, hX⟩
        · exact h.elim
      · exact h.elim
    · exact h.elim
theorem aops_sound {ops : List Oper} {K : Env → Tab → Prop} {Q' : Exit → Act → World → Prop} (hQ : ∀ e t a w, K e t → Rel X e t a w → Q' .normal a w) (hall : dstOk X.n ops = true) :
    ∀ (l : List Oper) (e : Env) (t : Tab) (a : Act) (w : World), dstOk X.n l = true → aops P ops K l e t → Rel X e t a w → wpList P ops.toArray Q' l a w
  | [], e, t, a, w, _, h, hR => hQ e t a w h hR
  | o :: r, e, t, a, w, hd, h, hR => by
    simp only [dstOk, List.all_cons, Bool.and_eq_true] at hd
    have hd1 : ∀ d, o.dst = some d → d < X.n := fun d h => by
      have := hd.1
      rw [h] at this
      simpa using this
    have ih := fun e' t' a' w' => aops_sound hQ hall r e' t' a' w' hd.2
    unfold wpList
    rcases aguard_sound (Q' := Q') hall hd1 hR h ih with ⟨h1, h2⟩ | ⟨h1, h2⟩
    · rw [if_pos h1]; exact .inl h2
    · rw [if_neg h1]; exact h2

/-! ### Code -/
def HW (P : Program) (X : Fx) (c : Code) (Q : Exit → Env → Tab → Prop) (e : Env) (t : Tab) : Prop := ∀ a w, Rel X e t a w → c.wp P (conc X Q) a w
def xthen (next : Env → Tab → Prop) (Q : Exit → Env → Tab → Prop) : Exit → Env → Tab → Prop
  | .normal => next
  | x => Q x
def xblock (id : Nat) (Q : Exit → Env → Tab → Prop) : Exit → Env → Tab → Prop
  | .exit id' => if id' = id then Q .normal else Q (.exit id')
  | x => Q x
def xscope (Q : Exit → Env → Tab → Prop) : Exit → Env → Tab → Prop
  | .goto _ => fun _ _ => False
  | x => Q x

theorem HW_mono {c : Code} {Q' : Exit → Env → Tab → Prop} (h : HW P X c Q e t) (hq : ∀ x e t, Q x e t → Q' x e t) : HW P X c Q' e t :=
  fun a w hR => wp_mono (h a w hR) fun x a' w' ⟨e', t', h1, h2⟩ => ⟨e', t', hq _ _ _ h1, h2⟩
theorem HW_region {id : Nat} {l : List Oper} (hd : dstOk X.n l = true) (h : aops P l (Q .normal) l e t) : HW P X (.region id l.toArray false) Q e t :=
  fun a w hR => wp_region_lit (aops_sound (K := Q .normal) (fun e t a w hk hr => ⟨e, t, hk, hr⟩) hd l e t a w hd h hR)
theorem HW_seq {x y : Code} (h : HW P X x (xthen (HW P X y Q) Q) e t) : HW P X (.seq x y) Q e t := fun a w hR => wp_seq (wp_mono (h a w hR) fun z a' w' ⟨e', t', h1, h2⟩ => by
  cases z with
  | normal => exact h1 a' w' h2
  | _ => exact ⟨e', t', h1, h2⟩)
theorem HW_seq_k {x y : Code} (h : ∀ K : Env → Tab → Prop, (∀ e t, HW P X y Q e t → K e t) → HW P X x (xthen K Q) e t) : HW P X (.seq x y) Q e t := HW_seq (h _ fun _ _ h => h)
theorem HW_skip (h : Q .normal e t) : HW P X .skip Q e t := fun a w hR => wp_skip ⟨e, t, h, hR⟩
theorem HW_label {l : Nat} (h : Q .normal e t) : HW P X (.label l) Q e t := fun a w hR => wp_label ⟨e, t, h, hR⟩
theorem HW_exit {id : Nat} (h : Q (.exit id) e t) : HW P X (.exit id) Q e t := fun a w hR => wp_exit ⟨e, t, h, hR⟩
theorem HW_ret (h : Q .ret e t) : HW P X .ret Q e t := fun a w hR => wp_ret ⟨e, t, h, hR⟩
theorem HW_cond {c : Operand} {x y : Code} {p : Bool} (hc : aev e c = .val (.bool p)) (h1 : p = true → HW P X x Q e t) (h2 : p = false → HW P X y Q e t) : HW P X (.cond c x y) Q e t := fun a w hR => by
  obtain ⟨cur, hs, hD, hE, hH, hX⟩ := hR
  have := aev_rel hE c
  rw [hc] at this
  generalize hv : a.eval c = v at this
  cases this
  exact wp_cond_split hv (fun h => h1 h a w ⟨cur, hs, hD, hE, hH, hX⟩) (fun h => h2 h a w ⟨cur, hs, hD, hE, hH, hX⟩)
theorem HW_block {id : Nat} {c : Code} (h : HW P X c (xblock id Q) e t) : HW P X (.block id c) Q e t := fun a w hR => wp_block (wp_mono (h a w hR) fun z a' w' ⟨e', t', h1, h2⟩ => by
  cases z with
  | exit id' =>
    simp only [Exit.inBlock, xblock] at *
    split
    · rename_i hid; rw [if_pos hid] at h1; exact ⟨e', t', h1, h2⟩
    · rename_i hid; rw [if_neg hid] at h1; exact ⟨e', t', h1, h2⟩
  | _ => exact ⟨e', t', h1, h2⟩)
theorem HW_scope {c : Code} (h : HW P X c (xscope Q) e t) : HW P X (.scope c) Q e t := fun a w hR => wp_scope_straight (wp_mono (h a w hR) fun z a' w' ⟨e', t', h1, h2⟩ => by
  cases z with
  | goto l => exact h1.elim
  | _ => exact ⟨e', t', h1, h2⟩)
theorem exists_min {p : Nat → Prop} : (∃ n, p n) → ∃ n, p n ∧ ∀ m, p m → n ≤ m := by
  intro ⟨n, hn⟩
  induction n using Nat.strongRecOn with
  | _ n ih =>
    by_cases h : ∃ m, m < n ∧ p m
    · obtain ⟨m, hm, hpm⟩ := h
      exact ih m hm hpm
    · exact ⟨n, hn, fun m hm => Nat.le_of_not_lt fun hlt => h ⟨m, hlt, hm⟩⟩
open Classical in
theorem HW_loop {c : Code} (I : Nat → Env → Tab → Prop) (n : Nat) (h0 : I n e t) (round : ∀ n e t, I n e t → HW P X c (xthen (fun e' t' => ∃ m, m < n ∧ I m e' t') Q) e t) : HW P X (.loop c) Q e t := fun a w hR => by
  let S : Act → World → Nat → Prop := fun a w n => ∃ e t, I n e t ∧ Rel X e t a w
  refine wp_loop (fun a w => ∃ n, S a w n) (fun a w => if h : ∃ n, S a w n then Classical.choose (exists_min h) else 0) ⟨n, e, t, h0, hR⟩ fun a w hI => ?_
  obtain ⟨⟨e1, t1, h1, h2⟩, _⟩ := Classical.choose_spec (exists_min hI)
  refine wp_mono (round _ e1 t1 h1 a w h2) fun z a' w' ⟨e', t', h3, h4⟩ => ?_
  cases z with
  | normal =>
    obtain ⟨m, hm, hIm⟩ := h3
    have hex : ∃ n, S a' w' n := ⟨m, e', t', hIm, h4⟩
    refine ⟨hex, ?_⟩
    simp only [dif_pos hex, dif_pos hI]
    exact Nat.lt_of_le_of_lt ((Classical.choose_spec (exists_min hex)).2 m ⟨e', t', hIm, h4⟩) hm
  | _ => exact ⟨e', t', h3, h4⟩
/-- A step that Go's machine does not see. -/
theorem HW_ghost {c : Code} {e' : Env} {t' : Tab} (hg : ∀ a w, Rel X e t a w → Rel X e' t' a w) (h : HW P X c Q e' t') : HW P X c Q e t := fun a w hR => h a w (hg a w hR)
theorem rel_keep (ks : List Nat) {a : Act} {w : World} (h : Rel X e t a w) : Rel X (ekeep e ks) t a w := by
  obtain ⟨cur, hs, hD, hE, hH, hX⟩ := h
  refine ⟨cur, hs, hD, fun d => ?_, hH, hX⟩
  rcases eget_ekeep e ks d with h | h
  · rw [h]; exact hE d
  · rw [h]; exact .poison _ _
theorem HW_keep (ks : List Nat) {c : Code} (h : HW P X c Q (ekeep e ks) t) : HW P X c Q e t := HW_ghost (fun _ _ => rel_keep ks) h
theorem HW_loopk {c : Code} (ks : List Nat) (I : Nat → Env → Tab → Prop) (n : Nat) (h0 : I n (ekeep e ks) t) (round : ∀ n e t, I n e t → HW P X c (xthen (fun e' t' => ∃ m, m < n ∧ I m (ekeep e' ks) t') Q) e t) : HW P X (.loop c) Q e t :=
  HW_loop (fun n e t => I n (ekeep e ks) t) n h0 fun n e t h => HW_keep ks (round n _ t h)
/-- So many rounds at most. -/
def HWr (P : Program) (X : Fx) (c : Code) (Q : Exit → Env → Tab → Prop) : Nat → Env → Tab → Prop
  | 0 => fun _ _ => False
  | n + 1 => HW P X c (xthen (HWr P X c Q n) Q)
theorem HWr_succ {c : Code} {n : Nat} (h : HW P X c (xthen (HWr P X c Q n) Q) e t) : HWr P X c Q (n + 1) e t := h
theorem HW_rounds {c : Code} (n : Nat) (h : HWr P X c Q n e t) : HW P X (.loop c) Q e t := by
  have key : ∀ (n : Nat) (e : Env) (t : Tab) (a : Act) (w : World), HWr P X c Q n e t → Rel X e t a w → Code.rounds P c (conc X Q) n a w := by
    intro n
    induction n with
    | zero => intro e t a w h _; exact h.elim
    | succ n ih =>
      intro e t a w h hR
      refine wp_mono (h a w hR) fun z a' w' ⟨e', t', h1, h2⟩ => ?_
      cases z with
      | normal => exact ih e' t' a' w' h1 h2
      | _ => exact ⟨e', t', h1, h2⟩
  exact fun a w hR => wp_loop_rounds n (key n e t a w h hR)
end
end Go.Proofs.Ytoblmpfcjeammaa.V
