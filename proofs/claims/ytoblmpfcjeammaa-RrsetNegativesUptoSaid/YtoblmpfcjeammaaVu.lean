/-
  make, and maps whose keys are numbers, bools, texts or structs of these: what they do to the abstract memory, and that Go's do the same. Conditions: none; plain definitions and lemmas, over any program.
-/
import Derived.Test.YtoblmpfcjeammaaVg
import Derived.Laws.MakeOwn
import Derived.Laws.StructEq
import Derived.MapKept
import Derived.ChangeKeysEq
set_option linter.unusedVariables false
set_option linter.unusedSimpArgs false
namespace Go.Proofs.Ytoblmpfcjeammaa.V
open Go.RowKit

/-! ### Keys -/
def keyEq1 : Value → Value → Bool
  | .int k a, .int k' b => decide (k = k') && decide (a = b)
  | .string a, .string b => decide (a = b)
  | .bool a, .bool b => decide (a = b)
  | _, _ => false
def keyEqL : List Value → List Value → Bool
  | [], [] => true
  | x :: r, y :: s => keyEq1 x y && keyEqL r s
  | _, _ => false
def keyEq : Value → Value → Bool
  | .agg a, .agg b => keyEqL a.toList b.toList
  | a, b => keyEq1 a b
def kfit1 (P : Program) (t : TypeId) : Value → Bool
  | .int k _ => match P.underlying t with | some (.int k') => decide (k = k') | _ => false
  | .string _ => match P.underlying t with | some .string => true | _ => false
  | .bool _ => match P.underlying t with | some .bool => true | _ => false
  | _ => false
def kfitL (P : Program) : Nat → List Field → List Value → Bool
  | _, [], [] => true
  | i, f :: fs, v :: vs => decide (f.name ≠ "_") && decide (f.offset = i) && kfit1 P f.type v && kfitL P (i + 1) fs vs
  | _, _, _ => false
def kfit (P : Program) (t : TypeId) : Value → Bool
  | .agg xs => match P.underlying t with | some (.struct fs) => !P.stoodInHeld t && kfitL P 0 fs.toList xs.toList | _ => false
  | v => kfit1 P t v
theorem keyEq1_iff {P : Program} {t : TypeId} {a b : Value} (ha : kfit1 P t a = true) (hb : kfit1 P t b = true) : keyEq1 a b = true ↔ a = b := by
  cases a <;> simp only [kfit1, Bool.false_eq_true] at ha <;> cases b <;> simp only [kfit1, Bool.false_eq_true] at hb <;> simp [keyEq1]
  all_goals (split at ha <;> split at hb <;> simp_all)
theorem keyEqL_iff {P : Program} : ∀ {fs : List Field} {i : Nat} {a b : List Value}, kfitL P i fs a = true → kfitL P i fs b = true → (keyEqL a b = true ↔ a = b)
  | [], i, [], [], _, _ => by simp [keyEqL]
  | [], i, x :: r, _, ha, _ => by simp [kfitL] at ha
  | [], i, [], x :: r, _, hb => by simp [kfitL] at hb
  | f :: fs, i, [], _, ha, _ => by simp [kfitL] at ha
  | f :: fs, i, x :: r, [], _, hb => by simp [kfitL] at hb
  | f :: fs, i, x :: r, y :: s, ha, hb => by
    simp only [kfitL, Bool.and_eq_true, decide_eq_true_eq] at ha hb
    simp only [keyEqL, Bool.and_eq_true, List.cons.injEq, keyEq1_iff ha.1.2 hb.1.2, keyEqL_iff ha.2 hb.2]
theorem keyEq_iff {P : Program} {t : TypeId} {a b : Value} (ha : kfit P t a = true) (hb : kfit P t b = true) : keyEq a b = true ↔ a = b := by
  have plain : ∀ {a b : Value}, kfit1 P t a = true → kfit P t b = true → (keyEq1 a b = true ↔ a = b) := by
    intro a b ha hb
    cases b
    case agg xs =>
      constructor
      · intro h; cases a <;> simp [keyEq1] at h
      · intro h; subst h; simp [kfit1] at ha
    all_goals exact keyEq1_iff ha hb
  cases a
  case agg xs =>
    simp only [kfit] at ha
    split at ha
    · rename_i fs hu
      simp only [Bool.and_eq_true] at ha
      cases b
      case agg ys =>
        simp only [kfit, hu, Bool.and_eq_true] at hb
        simp only [keyEq]
        rw [keyEqL_iff ha.2 hb.2, Array.toList_inj]
        simp
      all_goals simp [keyEq, keyEq1]
    · cases ha
  all_goals
    simp only [kfit] at ha
    have h := plain ha hb
    cases b <;> exact h

section
variable {P : Program} {C : Ctx} {w : World} {cur : Cur} {t : Tab}
theorem run_eq1 (d : Nat) {e : TypeId} {a b : Value} (ha : kfit1 P e a = true) (hb : kfit1 P e b = true) : (Op.equalIn (d + 1) e a b).run P w = .ok (keyEq1 a b) w := by
  cases a <;> simp only [kfit1, Bool.false_eq_true] at ha <;> cases b <;> simp only [kfit1, Bool.false_eq_true] at hb
  all_goals (split at ha <;> simp_all [Op.equalIn, keyEq1])
  all_goals (rename_i h; simp [run_underlying h])
  all_goals (first | rfl | (rw [beq_toListBytes, beq_toList]; done) | (rw [Bool.eq_iff_iff]; simp [beq_toListBytes, beq_toList]))
theorem plain_of {e : TypeId} {a : Value} (ha : kfit1 P e a = true) : P.plainKey e = true := by
  unfold Program.plainKey
  cases a <;> simp only [kfit1, Bool.false_eq_true] at ha
  all_goals (split at ha <;> simp_all)
theorem run_eqL (d : Nat) : ∀ (fs : List Field) (i : Nat) (a b : List Value) (xs ys : Array Value), (∀ j, xs[i + j]? = a[j]?) → (∀ j, ys[i + j]? = b[j]?) → kfitL P i fs a = true → kfitL P i fs b = true →
    (Op.eqFields (d + 1) xs ys fs).run P w = .ok (keyEqL a b) w
  | [], i, [], [], xs, ys, _, _, _, _ => by simp [Op.eqFields, keyEqL]
  | [], i, x :: r, _, _, _, _, _, ha, _ => by simp [kfitL] at ha
  | [], i, [], x :: r, _, _, _, _, _, hb => by simp [kfitL] at hb
  | f :: fs, i, [], _, _, _, _, _, ha, _ => by simp [kfitL] at ha
  | f :: fs, i, x :: r, [], _, _, _, _, _, hb => by simp [kfitL] at hb
  | f :: fs, i, x :: r, y :: s, xs, ys, hx, hy, ha, hb => by
    simp only [kfitL, Bool.and_eq_true, decide_eq_true_eq] at ha hb
    obtain ⟨⟨⟨h1, h2⟩, h3⟩, h4⟩ := ha
    obtain ⟨⟨⟨_, _⟩, g3⟩, g4⟩ := hb
    have ih := run_eqL d fs (i + 1) r s xs ys (fun j => by have := hx (j + 1); rw [show i + 1 + j = i + (j + 1) by omega, this]; rfl) (fun j => by have := hy (j + 1); rw [show i + 1 + j = i + (j + 1) by omega, this]; rfl) h4 g4
    have p1 : (part f.type xs f.offset).run P w = .ok x w := run_part_plain w (plain_of h3) (by rw [h2]; simpa using hx 0)
    have p2 : (part f.type ys f.offset).run P w = .ok y w := run_part_plain w (plain_of h3) (by rw [h2]; simpa using hy 0)
    simp only [Op.eqFields, h1, ne_eq, not_false_eq_true, if_true, Sem.run_bind, p1, p2, Result.andThen_ok, run_eq1 (w := w) d h3 g3, keyEqL, Sem.run_ite]
    cases keyEq1 x y <;> simp [ih]
theorem run_eqK {e : TypeId} {a b : Value} (ha : kfit P e a = true) (hb : kfit P e b = true) : (Op.equal e a b).run P w = .ok (keyEq a b) w := by
  show (Op.equalIn (9999 + 1) e a b).run P w = _
  have plain : ∀ {a b : Value}, kfit1 P e a = true → kfit P e b = true → keyEq a b = keyEq1 a b → (Op.equalIn (9999 + 1) e a b).run P w = .ok (keyEq a b) w := by
    intro a b ha hb he
    rw [he]
    have hb1 : kfit1 P e b = true := by
      cases b
      case agg xs =>
        simp only [kfit] at hb
        split at hb
        · rename_i fs hu
          cases a <;> simp [kfit1, hu] at ha
        · cases hb
      all_goals exact hb
    exact run_eq1 9999 ha hb1
  cases a
  case agg xs =>
    simp only [kfit] at ha
    split at ha
    · rename_i fs hu
      simp only [Bool.and_eq_true, Bool.not_eq_true'] at ha
      have hf : P.fieldsOf e = fs := by simp [Program.fieldsOf, hu]
      cases b
      case agg ys =>
        simp only [kfit, hu, Bool.and_eq_true] at hb
        rw [run_equalIn_struct w 9999 e xs ys (by rw [hf]; exact hu) ha.1, hf]
        exact run_eqL 9998 fs.toList 0 xs.toList ys.toList xs ys (fun j => by simp) (fun j => by simp) ha.2 hb.2
      all_goals simp [kfit, kfit1, hu] at hb
    · cases ha
  all_goals
    refine plain ha hb ?_
    cases b <;> rfl

theorem run_ck1 {e : TypeId} {a : Value} (ha : kfit1 P e a = true) (em : Bool) (n : Nat) : (Instr.checkKey em (n + 1) e a).run P w = .ok () w := by
  cases a <;> simp only [kfit1, Bool.false_eq_true] at ha
  all_goals (split at ha <;> simp_all)
  all_goals (rename_i h; simp [Instr.checkKey, run_underlying h])
theorem run_ckL (em : Bool) (n : Nat) (xs : Array Value) : ∀ (fs : List Field) (i : Nat) (a : List Value), (∀ j, xs[i + j]? = a[j]?) → kfitL P i fs a = true →
    (forIn fs PUnit.unit (fun f _ => if f.name ≠ "_" then do Instr.checkKey em (n + 1) f.type (← part f.type xs f.offset); pure (.yield PUnit.unit) else pure (.yield PUnit.unit) : Field → PUnit → Sem (ForInStep PUnit))).run P w = .ok PUnit.unit w
  | [], i, [], _, _ => by simp
  | [], i, x :: r, _, ha => by simp [kfitL] at ha
  | f :: fs, i, [], _, ha => by simp [kfitL] at ha
  | f :: fs, i, x :: r, hx, ha => by
    simp only [kfitL, Bool.and_eq_true, decide_eq_true_eq] at ha
    obtain ⟨⟨⟨h1, h2⟩, h3⟩, h4⟩ := ha
    have p1 : (part f.type xs f.offset).run P w = .ok x w := run_part_plain w (plain_of h3) (by rw [h2]; simpa using hx 0)
    have ih := run_ckL em n xs fs (i + 1) r (fun j => by have := hx (j + 1); rw [show i + 1 + j = i + (j + 1) by omega, this]; rfl) h4
    rw [List.forIn_cons]
    simp only [h1, ne_eq, not_false_eq_true, if_true, Sem.run_bind, p1, Result.andThen_ok, run_ck1 (w := w) h3 em n, Sem.run_pure]
    simpa using ih
theorem run_ck {e : TypeId} {a : Value} (ha : kfit P e a = true) (em : Bool) : (Instr.checkKey em 10000 e a).run P w = .ok () w := by
  show (Instr.checkKey em (9999 + 1) e a).run P w = _
  cases a
  case agg xs =>
    simp only [kfit] at ha
    split at ha
    · rename_i fs hu
      simp only [Bool.and_eq_true, Bool.not_eq_true'] at ha
      have := run_ckL (w := w) em 9998 xs fs.toList 0 xs.toList (fun j => by simp) ha.2
      rw [Instr.checkKey]
      simp only [Sem.run_bind, run_underlying hu, Result.andThen_ok]
      rw [← Array.forIn_toList]
      simp only [Nat.reduceAdd] at this
      rw [show (forIn fs.toList PUnit.unit fun (f : Field) (_ : PUnit) => if f.name ≠ "_" then do Instr.checkKey em 9999 f.type (← part f.type xs f.offset); pure (.yield PUnit.unit) else pure (.yield PUnit.unit) : Sem PUnit).run P w = .ok PUnit.unit w from this]
      rfl
    · cases ha
  all_goals
    simp only [kfit] at ha
    exact run_ck1 ha em 9999

/-! ### Finding -/
def mget (k : Value) : List (Value × AV) → Option AV
  | [] => none
  | p :: r => if keyEq k p.1 = true then some p.2 else mget k r
def mput (k : Value) (v : AV) : List (Value × AV) → List (Value × AV)
  | [] => [(k, v)]
  | p :: r => if keyEq k p.1 = true then (p.1, v) :: r else p :: mput k v r
def mdel (k : Value) : List (Value × AV) → List (Value × AV)
  | [] => []
  | p :: r => if keyEq k p.1 = true then r else p :: mdel k r
def keysFit (P : Program) (kt : TypeId) (es : List (Value × AV)) : Bool := es.all fun p => kfit P kt p.1
def valsL : List AV → Option (List Value)
  | [] => some []
  | .val v :: r => match valsL r with
    | some l => some (v :: l)
    | none => none
  | _ :: _ => none
def keyV : AV → Option Value
  | .val v => some v
  | .agg cs => match valsL cs with
    | some l => some (.agg l.toArray)
    | none => none
  | _ => none
theorem valsL_rel {ok : Nat → Prop} : ∀ (cs : List AV) (l : List Value) (us : List Value), valsL cs = some l → us.length = cs.length → (∀ (j : Nat) (y : AV) (u : Value), cs[j]? = some y → us[j]? = some u → RelV w ok cur y u) → us = l
  | [], l, us, h, hn, _ => by
    simp only [valsL, Option.some.injEq] at h
    subst h
    exact List.eq_nil_of_length_eq_zero (by simpa using hn)
  | c :: r, l, [], h, hn, _ => by simp at hn
  | c :: r, l, u :: us, h, hn, hr => by
    cases c <;> simp only [valsL, reduceCtorEq] at h
    rename_i v
    split at h
    · rename_i l' hl
      injection h with h
      subst h
      have h0 := hr 0 _ u rfl rfl
      cases h0
      rw [valsL_rel r l' us hl (by simpa using hn) (fun j y x h1 h2 => hr (j + 1) y x (by simpa using h1) (by simpa using h2))]
    · cases h
theorem keyV_rel {ok : Nat → Prop} {X : AV} {u k : Value} (h : keyV X = some k) (hX : RelV w ok cur X u) : u = k := by
  cases X <;> simp only [keyV, reduceCtorEq, Option.some.injEq] at h
  · cases hX; exact h
  · rename_i cs0
    split at h
    · rename_i l hl
      injection h with h
      subst h
      cases hX with
      | agg _ _ us hn hr => rw [valsL_rel cs0 l us hl hn hr]
    · cases h

/-- The entries stand for the list. -/
def EntRel (R : AV → Value → Prop) (en : List MapEntry) (es : List (Value × AV)) : Prop := en.length = es.length ∧ ∀ (j : Nat) (p : Value × AV), es[j]? = some p → ∃ m, en[j]? = some m ∧ m.key = p.1 ∧ R p.2 m.val
theorem EntRel.tail {R : AV → Value → Prop} {m : MapEntry} {en : List MapEntry} {p : Value × AV} {es : List (Value × AV)} (h : EntRel R (m :: en) (p :: es)) : m.key = p.1 ∧ R p.2 m.val ∧ EntRel R en es := by
  obtain ⟨m', h1, h2, h3⟩ := h.2 0 p rfl
  injection h1 with h1
  subst h1
  exact ⟨h2, h3, by simpa using h.1, fun j q hq => by simpa using h.2 (j + 1) q (by simpa using hq)⟩
theorem run_find_eq {kt : TypeId} {kd : TypeDesc} (hu : P.underlying kt = some kd) {k : Value} (hk : kfit P kt k = true) (en : List MapEntry) (hen : ∀ m ∈ en, kfit P kt m.key = true) :
    (Instr.findKey kt k en).run P w = (Instr.findAsking kt k en 0).run P w := by
  have now : ∀ (en : List MapEntry) (i : Nat), (∀ m ∈ en, kfit P kt m.key = true) → kfit1 P kt k = true → ∃ a, Instr.findNow kd k en i = some a ∧ (Instr.findAsking kt k en i).run P w = .ok a w := by
    intro en
    induction en with
    | nil => intro i _ _; exact ⟨none, rfl, by simp [Instr.findAsking]⟩
    | cons m en ih =>
      intro i hm hk1
      obtain ⟨a, h1, h2⟩ := ih (i + 1) (fun x hx => hm x (by simp [hx])) hk1
      have hmk := hm m (by simp)
      have heq : Instr.sameNow kd k m.key = some (keyEq k m.key) := by
        cases k <;> simp only [kfit1, hu, Bool.false_eq_true] at hk1
        all_goals (cases kd <;> simp only [Bool.false_eq_true, decide_eq_true_eq] at hk1)
        all_goals (cases hkk : m.key <;> rw [hkk] at hmk <;> simp only [kfit, kfit1, hu, Bool.false_eq_true, decide_eq_true_eq] at hmk)
        · rfl
        · subst hk1; subst hmk; simp [Instr.sameNow, keyEq, keyEq1]; rfl
        · simp only [Instr.sameNow, keyEq, keyEq1, Option.some.injEq]; rw [beq_toListBytes, beq_toList]
      have hr := run_eqK (w := w) hk hmk
      cases hb : keyEq k m.key
      · refine ⟨a, by simp [Instr.findNow, heq, hb, h1], ?_⟩
        simp [Instr.findAsking, hr, hb, h2]
      · exact ⟨some (i, m.val), by simp [Instr.findNow, heq, hb], by simp [Instr.findAsking, hr, hb]⟩
  cases k
  case agg xs =>
    have hkd : ∃ fs, kd = .struct fs := by
      simp only [kfit, hu] at hk
      cases kd <;> simp at hk
      exact ⟨_, rfl⟩
    obtain ⟨fs, rfl⟩ := hkd
    cases en with
    | nil => simp [Instr.findKey, run_underlying hu, Instr.findNow, Instr.findAsking]
    | cons m en => simp [Instr.findKey, run_underlying hu, Instr.findNow, Instr.sameNow]
  all_goals
    obtain ⟨a, h1, h2⟩ := now en 0 hen (by simpa only [kfit] using hk)
    rw [h2]
    simp [Instr.findKey, run_underlying hu, h1]
theorem run_find {av : AV} {R : AV → Value → Prop} {kt : TypeId} {k : Value} (hk : kfit P kt k = true) : ∀ (en : List MapEntry) (es : List (Value × AV)) (i : Nat), EntRel R en es → keysFit P kt es = true →
    ((mget k es = none ∧ (Instr.findAsking kt k en i).run P w = .ok none w ∧ mput k av es = es ++ [(k, av)] ∧ mdel k es = es) ∨
      ∃ j m p, en[j]? = some m ∧ es[j]? = some p ∧ mget k es = some p.2 ∧ (Instr.findAsking kt k en i).run P w = .ok (some (i + j, m.val)) w ∧ p.1 = k ∧ mput k av es = es.set j (p.1, av) ∧ mdel k es = es.eraseIdx j)
  | [], [], i, _, _ => .inl ⟨rfl, by simp [Instr.findAsking], rfl, rfl⟩
  | [], p :: es, i, h, _ => by have := h.1; simp at this
  | m :: en, [], i, h, _ => by have := h.1; simp at this
  | m :: en, p :: es, i, h, hf => by
    obtain ⟨h1, h2, h3⟩ := h.tail
    simp only [keysFit, List.all_cons, Bool.and_eq_true] at hf
    have hr := run_eqK (w := w) hk hf.1
    rw [← h1] at hr
    cases hb : keyEq k p.1
    · rw [h1, hb] at hr
      rw [← h1] at hr
      rcases run_find (av := av) hk en es (i + 1) h3 hf.2 with ⟨g1, g2, g3, g4⟩ | ⟨j, m', p', g1, g2, g3, g4, g5, g6, g7⟩
      · refine .inl ⟨by simp [mget, hb, g1], by simp [Instr.findAsking, hr, g2], by simp [mput, hb, g3], by simp [mdel, hb, g4]⟩
      · refine .inr ⟨j + 1, m', p', by simpa using g1, by simpa using g2, by simp [mget, hb, g3], ?_, g5, by simp [mput, hb, g6], by simp [mdel, hb, g7]⟩
        simp [Instr.findAsking, hr, g4]
        omega
    · rw [h1, hb] at hr
      rw [← h1] at hr
      refine .inr ⟨0, m, p, rfl, rfl, by simp [mget, hb], by simp [Instr.findAsking, hr], ((keyEq_iff hk hf.1).1 hb).symm, by simp [mput, hb], by simp [mdel, hb]⟩
theorem same1 {e : TypeId} {a : Value} (n : Nat) (ha : kfit1 P e a = true) : Instr.sameBits n a a = true := by
  cases a <;> simp only [kfit1, Bool.false_eq_true] at ha
  all_goals (cases n <;> simp [Instr.sameBits, beq_toListBytes])
theorem sameL (n : Nat) : ∀ (fs : List Field) (i : Nat) (a : List Value), kfitL P i fs a = true → ((a.zip a).all fun (x, y) => Instr.sameBits n x y) = true
  | [], i, [], _ => rfl
  | [], i, x :: r, ha => by simp [kfitL] at ha
  | f :: fs, i, [], ha => rfl
  | f :: fs, i, x :: r, ha => by
    simp only [kfitL, Bool.and_eq_true] at ha
    simp only [List.zip_cons_cons, List.all_cons, Bool.and_eq_true]
    exact ⟨same1 n ha.1.2, sameL n fs (i + 1) r ha.2⟩
theorem sameK {e : TypeId} {a : Value} (ha : kfit P e a = true) : Instr.sameBits 10000 a a = true := by
  cases a
  case agg xs =>
    simp only [kfit] at ha
    split at ha
    · rename_i fs hu
      simp only [Bool.and_eq_true] at ha
      have := sameL 9999 fs.toList 0 xs.toList ha.2
      show Instr.sameBits (9999 + 1) _ _ = true
      simp only [Instr.sameBits, beq_self_eq_true, Bool.true_and]
      exact this
    · cases ha
  all_goals
    simp only [kfit] at ha
    exact same1 10000 ha

theorem kfit_some {e : TypeId} {a : Value} (ha : kfit P e a = true) : ∃ d, P.underlying e = some d := by
  cases hu : P.underlying e with
  | some d => exact ⟨d, rfl⟩
  | none => cases a <;> simp [kfit, kfit1, hu] at ha

/-! ### The operations -/
def zAV (z : Value) : AV :=
  match z with
  | .agg a => .agg (a.toList.map .val)
  | v => .val v
theorem zAV_rel {ok : Nat → Prop} (cur : Cur) (z : Value) : RelV w ok cur (zAV z) z := by
  unfold zAV
  split
  · rename_i a
    have : (Value.agg a) = .agg (a.toList).toArray := by simp
    rw [this]
    refine .agg _ _ _ (by simp) (fun j y u h1 h2 => ?_)
    rw [List.getElem?_map, h2] at h1
    simp at h1
    subst h1
    exact .val _ _
  · exact .val _ _
def amakeMap (P : Program) (d : Option Nat) (ty : TypeId) (r : Option AV) (t : Tab) : AR :=
  match d, r with
  | some d, none => .ok (.mp d (nextVer t d)) (t.put d (nextVer t d) (.map []))
  | _, _ => .stuck
def got (ok : Bool) (v : AV) (b : Bool) : AV := if ok = true then .tup [v, .val (.bool b)] else v
def lookIn (P : Program) (kt et : TypeId) (ok : Bool) (k : Value) (es : List (Value × AV)) (t : Tab) : AR :=
  match mget k es with
  | some v => .ok (got ok v true) t
  | none => match zeroV P et with
    | some z => .ok (got ok (zAV z) false) t
    | none => .stuck
def alookup (P : Program) (ty : TypeId) (x k : AV) (ok : Bool) (t : Tab) : AR :=
  match P.underlying ty, keyV k with
  | some (.map kt et), some kv => match x with
    | .val (.map none) => .need (kfit P kt kv = true) (lookIn P kt et ok kv [] t)
    | .mp key ver => match t.find key with
      | some (v, .map es) => .need (ver = v ∧ kfit P kt kv = true ∧ keysFit P kt es = true) (lookIn P kt et ok kv es t)
      | _ => .stuck
    | _ => .stuck
  | _, _ => .stuck
def amapUpdate (P : Program) (ty : TypeId) (x k v : AV) (t : Tab) : AR :=
  match P.underlying ty, keyV k with
  | some (.map kt et), some kv => match x with
    | .mp key ver => match t.find key with
      | some (v0, .map es) => .need (ver = v0 ∧ kfit P kt kv = true ∧ keysFit P kt es = true) (.ok .poison (t.put key ver (.map (mput kv v es))))
      | _ => .stuck
    | _ => .stuck
  | _, _ => .stuck
def adelete (P : Program) (ty : TypeId) (x k : AV) (t : Tab) : AR :=
  match P.underlying ty, keyV k with
  | some (.map kt et), some kv => match x with
    | .val (.map none) => .need (kfit P kt kv = true) (.ok (.tup []) t)
    | .mp key ver => match t.find key with
      | some (v0, .map es) => .need (ver = v0 ∧ kfit P kt kv = true ∧ keysFit P kt es = true) (.ok (.tup []) (t.put key ver (.map (mdel kv es))))
      | _ => .stuck
    | _ => .stuck
  | _, _ => .stuck
def amapLen (P : Program) (ty : TypeId) (x : AV) (t : Tab) : AR :=
  match P.underlying ty with
  | some (.map _ _) => match x with
    | .val (.map none) => .ok (.val (.int .i64 0)) t
    | .mp key ver => match t.find key with
      | some (v, .map es) => .need (ver = v) (.ok (.val (.int .i64 es.length)) t)
      | _ => .stuck
    | _ => .stuck
  | _ => .stuck
def amakeSlice (P : Program) (d : Option Nat) (ty : TypeId) (l c : AV) (t : Tab) : AR :=
  match d, P.underlying ty with
  | some d, some (.slice e) => match zeroV P e with
    | some z => match l, c with
      | .val (.int _ n), .val (.int _ m) => .need (known P e = true ∧ 0 < sizeT P e ∧ z.cells.size = sizeT P e ∧ n = m ∧ 0 ≤ n ∧ n ≤ 4294967296 ∧ (bytesT P e : Int) * n ≤ 140737488355328)
          (.ok (.sl d (nextVer t d) 0 n.toNat) (t.put d (nextVer t d) (.arr e (sizeT P e) (List.replicate n.toNat (valAVs z)))))
      | _, _ => .stuck
    | none => .stuck
  | _, _ => .stuck

theorem good_amakeMap (d : Option Nat) (ty : TypeId) (r : Option AV) (r' : Option Value) (hr : r = none → r' = none) (hH : RelH C w cur t) : Good P C w cur (do pure (.value (← Instr.makeMap ty r'))) (amakeMap P d ty r t) := by
  unfold amakeMap
  split
  · rename_i d
    rw [hr rfl]
    have hT : Turn w cur d (nextVer t d) (.map w.heap.size) (w.alloc (.map #[] 0)) := turn_new hH (fun b hb => by injection hb with hb; exact hb.symm)
    have hx := hT.ext (C := C)
    have e : (Instr.makeMap ty none).run P w = .ok (.map (some w.heap.size)) (w.alloc (.map #[] 0)) := rfl
    refine Good.val (v := .map (some w.heap.size)) (w' := w.alloc (.map #[] 0)) (cur' := upd cur d (nextVer t d) (.map w.heap.size)) (by simp [e]) (hH.turn hT ⟨w.heap.size, #[], 0, rfl, heap_new _ _, rfl, fun j p hp => by simp at hp⟩) hx
      (.mp _ _ _ _ (nextVer t d) (.map w.heap.size) (by simp [upd]) (Nat.le_refl _) (fun _ => rfl))
  · exact Good.stuck

theorem run_gmap {r : Nat} {es : Array MapEntry} {clock : Nat} (hb : w.heap[r]? = some (.map es clock)) : (getObj r).run P w = .ok (.map es clock) w := by
  simp [getObj, Sem.run, hb]
theorem run_smap {r : Nat} {es : Array MapEntry} {clock : Nat} (o : Obj) (hb : w.heap[r]? = some (.map es clock)) : (setObj r o).run P w = .ok () { w with heap := w.heap.setIfInBounds r o } := by
  simp [setObj, Sem.run, hb]
theorem at_map {key ver : Nat} {es : List (Value × AV)} (hH : RelH C w cur t) (hf : t.find key = some (ver, .map es)) : ∃ g en clock, cur key = some (ver, .map g) ∧ w.heap[g]? = some (.map en clock) ∧ EntRel (RelV w (okB C w cur) cur) en.toList es := by
  obtain ⟨l, hl, g, en, clock, rfl, h1, h2, h3⟩ := (hH.dom key).2 _ _ hf
  exact ⟨g, en, clock, hl, h1, by simpa using h2, fun j p hp => by
    obtain ⟨m, hm, hk, hr⟩ := h3 j p hp
    exact ⟨m, by simpa using hm, hk, hr⟩⟩
theorem fits_of {R : AV → Value → Prop} {kt : TypeId} {en : List MapEntry} {es : List (Value × AV)} (h : EntRel R en es) (hf : keysFit P kt es = true) : ∀ m ∈ en, kfit P kt m.key = true := fun m hm => by
  obtain ⟨j, hj⟩ := List.mem_iff_getElem?.1 hm
  have hlt : j < es.length := by rw [← h.1]; exact (List.getElem?_eq_some_iff.1 hj).1
  obtain ⟨m', h1, h2, _⟩ := h.2 j es[j] (List.getElem?_eq_getElem hlt)
  rw [hj] at h1
  injection h1 with h1
  subst h1
  rw [h2]
  exact List.all_eq_true.1 hf _ (List.getElem_mem hlt)
theorem got_rel {ok : Nat → Prop} {b ok' : Bool} {av : AV} {v : Value} (h : RelV w ok cur av v) : RelV w ok cur (got ok' av b) (if ok' = true then .tuple #[v, .bool b] else v) := by
  unfold got
  split
  · refine .tup _ [av, .val (.bool b)] [v, .bool b] rfl (fun j y u h1 h2 => ?_)
    match j with
    | 0 => simp at h1 h2; subst h1; subst h2; exact h
    | 1 => simp at h1 h2; subst h1; subst h2; exact .val _ _
    | j + 2 => simp at h1
  · exact h
theorem good_alookup (ty : TypeId) (X K : AV) (u k : Value) (ok : Bool) (hH : RelH C w cur t) (hX : RelV w (okB C w cur) cur X u) (hK : RelV w (okB C w cur) cur K k) :
    Good P C w cur (do pure (.value (← Instr.lookup ty u k ok))) (alookup P ty X K ok t) := by
  unfold alookup
  split
  · rename_i kt et kv hu hkv
    have hk : k = kv := keyV_rel hkv hK
    subst hk
    split
    · cases hX
      refine Good.need fun hf => ?_
      simp only [lookIn, mget]
      split
      · rename_i z hz
        refine Good.same hH ?_ (got_rel (zAV_rel cur z))
        obtain ⟨kd, hkd⟩ := kfit_some hf
        simp [Instr.lookup, run_underlying hu, run_ck hf, Instr.findKey, run_underlying hkd, Instr.findNow, run_zeroValue hz]
      · exact Good.stuck
    · rename_i key ver
      split
      · rename_i v es hfd
        refine Good.need fun ⟨e, hf, hfs⟩ => ?_
        subst e
        obtain ⟨g, en, clock, hl, hg, hent⟩ := at_map hH hfd
        cases hX with
        | mp _ _ _ _ ver' l h1 hv h2 =>
          rw [hl] at h1; injection h1 with h1; injection h1 with h3 h4; subst h3; subst h4
          have h5 : u = .map (some g) := h2 rfl
          subst h5
          obtain ⟨kd, hkd⟩ := kfit_some hf
          have hfk := run_find_eq (w := w) hkd hf en.toList (fits_of hent hfs)
          rcases run_find (w := w) (av := .poison) hf en.toList es 0 hent hfs with ⟨q1, q2, _⟩ | ⟨j, m, p, q1, q2, q3, q4, _⟩
          · simp only [lookIn, q1]
            split
            · rename_i z hz
              refine Good.same hH ?_ (got_rel (zAV_rel cur z))
              simp [Instr.lookup, run_underlying hu, run_gmap hg, run_ck hf, hfk, q2, run_zeroValue hz]
            · exact Good.stuck
          · simp only [lookIn, q3]
            obtain ⟨m', r1, r2, r3⟩ := hent.2 j p q2
            rw [q1] at r1
            injection r1 with r1
            subst r1
            refine Good.same hH ?_ (got_rel r3)
            simp [Instr.lookup, run_underlying hu, run_gmap hg, run_ck hf, hfk, q4]
      · exact Good.stuck
    · exact Good.stuck
  · exact Good.stuck
theorem map_turn {key ver g : Nat} {en : Array MapEntry} {clock : Nat} {o' : Obj} (hl : cur key = some (ver, .map g)) (hg : w.heap[g]? = some (.map en clock)) :
    Turn w cur key ver (.map g) { w with heap := w.heap.setIfInBounds g o' } := by
  have hlt := (Array.getElem?_eq_some_iff.1 hg).1
  refine ⟨rfl, rfl, rfl, by simp, fun b hb hne => ?_, fun b hb => ?_, fun ver1 l0 hk0 => ?_⟩
  · have : ¬ g = b := fun e => hne _ _ hl (by rw [← e]; rfl)
    simp [Array.getElem?_setIfInBounds, this]
  · injection hb with hb; subst hb
    exact ⟨by simpa using hlt, .inr ⟨_, _, hl, rfl⟩⟩
  · rw [hl] at hk0; injection hk0 with hk0; injection hk0 with h6 h7; subst h6; subst h7
    exact ⟨Nat.le_refl _, fun _ => .inl rfl⟩
theorem map_rel {R : AV → Value → Prop} {g : Nat} {en : Array MapEntry} {clock clock' : Nat} {en' : Array MapEntry} {es : List (Value × AV)} (hg : w.heap[g]? = some (.map en clock)) (h : EntRel R en'.toList es) :
    RelO R { w with heap := w.heap.setIfInBounds g (.map en' clock') } (.map es) (.map g) := by
  have hlt := (Array.getElem?_eq_some_iff.1 hg).1
  refine ⟨g, en', clock', rfl, by simp [hlt], by simpa using h.1, fun j p hp => ?_⟩
  obtain ⟨m, hm, hk, hr⟩ := h.2 j p hp
  exact ⟨m, by simpa using hm, hk, hr⟩
theorem EntRel.mono {R R' : AV → Value → Prop} {en : List MapEntry} {es : List (Value × AV)} (h : EntRel R en es) (hR : ∀ y u, R y u → R' y u) : EntRel R' en es :=
  ⟨h.1, fun j p hp => by
    obtain ⟨m, hm, hk, hr⟩ := h.2 j p hp
    exact ⟨m, hm, hk, hR _ _ hr⟩⟩
theorem good_amapUpdate (ty : TypeId) (X K V : AV) (u k v : Value) (hH : RelH C w cur t) (hX : RelV w (okB C w cur) cur X u) (hK : RelV w (okB C w cur) cur K k) (hV : RelV w (okB C w cur) cur V v) :
    Good P C w cur (do Instr.mapUpdate ty u k v; pure .skip) (amapUpdate P ty X K V t) := by
  unfold amapUpdate
  split
  · rename_i kt et kv hu hkv
    have hk : k = kv := keyV_rel hkv hK
    subst hk
    split
    · rename_i key ver
      split
      · rename_i v0 es hfd
        refine Good.need fun ⟨e, hf, hfs⟩ => ?_
        subst e
        obtain ⟨g, en, clock, hl, hg, hent⟩ := at_map hH hfd
        cases hX with
        | mp _ _ _ _ ver' l h1 hv h2 =>
          rw [hl] at h1; injection h1 with h1; injection h1 with h3 h4; subst h3; subst h4
          have h5 : u = .map (some g) := h2 rfl
          subst h5
          obtain ⟨kd, hkd⟩ := kfit_some hf
          have hfk := run_find_eq (w := w) hkd hf en.toList (fits_of hent hfs)
          rcases run_find (w := w) (av := V) hf en.toList es 0 hent hfs with ⟨q1, q2, q3, _⟩ | ⟨j, m, p, q1, q2, q3, q4, q5, q6, _⟩
          · have hT := map_turn (o' := .map (en.push ⟨k, v, clock⟩) (clock + 1)) hl hg
            have hx := hT.ext (C := C)
            refine Good.skip (cur' := upd cur key ver (.map g)) (w' := { w with heap := w.heap.setIfInBounds g (.map (en.push ⟨k, v, clock⟩) (clock + 1)) }) ?_ (hH.turn hT (map_rel hg ?_)) hx
            · simp [Instr.mapUpdate, run_underlying hu, run_gmap hg, run_ck hf, hfk, q2, run_smap _ hg]
            · rw [q3]
              have hent' := hent.mono fun y u hy => hx.rel hy
              refine ⟨by simp [hent.1], fun j p hp => ?_⟩
              rw [List.getElem?_append] at hp
              split at hp
              · rename_i hj
                obtain ⟨m, hm, r⟩ := hent'.2 j p hp
                exact ⟨m, by
                  rw [Array.toList_push, List.getElem?_append_left (by rw [hent.1]; exact hj)]
                  exact hm, r⟩
              · rename_i hj
                have hj0 : j - es.length = 0 := by
                  have := (List.getElem?_eq_some_iff.1 hp).1
                  simp at this
                  omega
                rw [hj0] at hp
                injection hp with hp
                subst hp
                refine ⟨⟨k, v, clock⟩, ?_, rfl, hx.rel hV⟩
                have : j = en.toList.length := by rw [hent.1]; omega
                rw [this, Array.toList_push]
                simp
          · obtain ⟨m', r1, r2, r3⟩ := hent.2 j p q2
            rw [q1] at r1
            injection r1 with r1
            subst r1
            have hmk : m.key = k := r2.trans q5
            have hkk : (((en[j]?).map (·.key)).getD k) = k := by
              have : en[j]? = some m := by simpa using q1
              rw [this]
              exact hmk
            have hstay : (Instr.keyThatStays k k).run P w = .ok k w := by simp [Instr.keyThatStays, sameK hf]
            have hT := map_turn (o' := .map (en.modify j fun e => { e with key := k, val := v }) clock) hl hg
            have hx := hT.ext (C := C)
            refine Good.skip (cur' := upd cur key ver (.map g)) (w' := { w with heap := w.heap.setIfInBounds g (.map (en.modify j fun e => { e with key := k, val := v }) clock) }) ?_ (hH.turn hT (map_rel hg ?_)) hx
            · simp [Instr.mapUpdate, run_underlying hu, run_gmap hg, run_ck hf, hfk, q4, run_smap _ hg, hkk, hstay]
            · rw [q6, q5]
              have hent' := hent.mono fun y u hy => hx.rel hy
              refine ⟨by simp [hent.1], fun i p' hp => ?_⟩
              rw [List.getElem?_set] at hp
              split at hp
              · rename_i hji
                subst hji
                split at hp
                · injection hp with hp
                  subst hp
                  refine ⟨{ m with key := k, val := v }, ?_, rfl, hx.rel hV⟩
                  rw [Array.toList_modify]
                  rw [List.getElem?_modify]
                  simp [q1]
                · cases hp
              · rename_i hji
                obtain ⟨m', hm, r⟩ := hent'.2 i p' hp
                refine ⟨m', ?_, r⟩
                rw [Array.toList_modify]
                rw [List.getElem?_modify]
                simp [hji, hm]
      · exact Good.stuck
    · exact Good.stuck
  · exact Good.stuck
theorem good_adelete (ty q : TypeId) (X K : AV) (u k : Value) (hH : RelH C w cur t) (hX : RelV w (okB C w cur) cur X u) (hK : RelV w (okB C w cur) cur K k) :
    Good P C w cur (do pure (.value (← Builtin.delete_ #[ty] q #[u, k]))) (adelete P ty X K t) := by
  unfold adelete
  have unit : ∀ {w : World} {cur : Cur}, RelV w (okB C w cur) cur (.tup []) (.tuple #[]) := fun {w cur} => .tup _ [] [] rfl (fun j y u h => by simp at h)
  split
  · rename_i kt et kv hu hkv
    have hk : k = kv := keyV_rel hkv hK
    subst hk
    split
    · cases hX
      refine Good.need fun hf => ?_
      exact Good.same hH (v := .tuple #[]) (by simp [Builtin.delete_, run_underlying hu, run_ck hf]) unit
    · rename_i key ver
      split
      · rename_i v0 es hfd
        refine Good.need fun ⟨e, hf, hfs⟩ => ?_
        subst e
        obtain ⟨g, en, clock, hl, hg, hent⟩ := at_map hH hfd
        cases hX with
        | mp _ _ _ _ ver' l h1 hv h2 =>
          rw [hl] at h1; injection h1 with h1; injection h1 with h3 h4; subst h3; subst h4
          have h5 : u = .map (some g) := h2 rfl
          subst h5
          obtain ⟨kd, hkd⟩ := kfit_some hf
          have hfk := run_find_eq (w := w) hkd hf en.toList (fits_of hent hfs)
          rcases run_find (w := w) (av := .poison) hf en.toList es 0 hent hfs with ⟨q1, q2, _, q3⟩ | ⟨j, m, p, q1, q2, q3, q4, q5, _, q6⟩
          · have hT := map_turn (o' := .map en clock) hl hg
            have hx := hT.ext (C := C)
            refine Good.val (v := .tuple #[]) (cur' := upd cur key ver (.map g)) (w' := { w with heap := w.heap.setIfInBounds g (.map en clock) }) ?_ (hH.turn hT (map_rel hg ?_)) hx unit
            · simp [Builtin.delete_, run_underlying hu, run_gmap hg, run_ck hf, hfk, q2, run_smap _ hg]
            · rw [q3]
              exact hent.mono fun y u hy => hx.rel hy
          · have hT := map_turn (o' := .map (en.eraseIdxIfInBounds j) clock) hl hg
            have hx := hT.ext (C := C)
            refine Good.val (v := .tuple #[]) (cur' := upd cur key ver (.map g)) (w' := { w with heap := w.heap.setIfInBounds g (.map (en.eraseIdxIfInBounds j) clock) }) ?_ (hH.turn hT (map_rel hg ?_)) hx unit
            · simp [Builtin.delete_, run_underlying hu, run_gmap hg, run_ck hf, hfk, q4, run_smap _ hg]
            · rw [q6]
              have hent' := hent.mono fun y u hy => hx.rel hy
              have hjl : j < en.toList.length := (List.getElem?_eq_some_iff.1 q1).1
              have hje : j < es.length := (List.getElem?_eq_some_iff.1 q2).1
              have htl : (en.eraseIdxIfInBounds j).toList = en.toList.eraseIdx j := by
                have : j < en.size := by simpa using hjl
                simp [Array.eraseIdxIfInBounds, this]
              rw [htl]
              refine ⟨by rw [List.length_eraseIdx_of_lt hjl, List.length_eraseIdx_of_lt hje, hent.1], fun i p' hp => ?_⟩
              rw [List.getElem?_eraseIdx] at hp
              rw [List.getElem?_eraseIdx]
              split at hp
              · rename_i hi; rw [if_pos hi]; exact hent'.2 i p' hp
              · rename_i hi; rw [if_neg hi]; exact hent'.2 (i + 1) p' hp
      · exact Good.stuck
    · exact Good.stuck
  · exact Good.stuck
theorem good_amapLen (ty q : TypeId) (X : AV) (u : Value) (hH : RelH C w cur t) (hX : RelV w (okB C w cur) cur X u) : Good P C w cur (do pure (.value (← Builtin.len_ #[ty] q #[u]))) (amapLen P ty X t) := by
  unfold amapLen
  split
  · rename_i kt et hu
    split
    · cases hX; exact Good.sv hH (by simp [Builtin.len_, run_underlying hu, goInt])
    · rename_i key ver
      split
      · rename_i v0 es hfd
        refine Good.need fun e => ?_
        subst e
        obtain ⟨g, en, clock, hl, hg, hent⟩ := at_map hH hfd
        cases hX with
        | mp _ _ _ _ ver' l h1 hv h2 =>
          rw [hl] at h1; injection h1 with h1; injection h1 with h3 h4; subst h3; subst h4
          have h5 : u = .map (some g) := h2 rfl
          subst h5
          have hz : en.size = es.length := by simpa using hent.1
          exact Good.sv hH (by simp [Builtin.len_, run_underlying hu, run_gmap hg, goInt, hz])
      · exact Good.stuck
    · exact Good.stuck
  · exact Good.stuck
theorem good_amakeSlice (d : Option Nat) (ty : TypeId) (L N : AV) (l c : Value) (hH : RelH C w cur t) (hL : RelV w (okB C w cur) cur L l) (hN : RelV w (okB C w cur) cur N c) :
    Good P C w cur (do pure (.value (← Instr.makeSlice ty l c))) (amakeSlice P d ty L N t) := by
  unfold amakeSlice
  split
  · rename_i d e hu
    split
    · rename_i z hz
      split
      · rename_i k1 n k2 m
        cases hL; cases hN
        refine Good.need fun ⟨hk, hs, hzs, hnm, h0, hmax, hb⟩ => ?_
        subst hnm
        obtain ⟨i, hi, hi1, hi2, hi3⟩ := info_of hk
        have hrun := run_make (P := P) w ty e i z hu hi (by rw [hi3]; exact hz) k1 k2 n n h0 (Int.le_refl _) (by rw [hi2]; omega) (by omega)
        have hl : (valAVs z).length = sizeT P e := by simp [valAVs, hzs]
        obtain ⟨f1, f2⟩ := flat_zero z n.toNat (by omega)
        have hmc : madeCells z.cells (n.toNat * i.size) = (Array.range (n.toNat * z.cells.size)).map (fun k => z.cells[k % z.cells.size]!) := by
          rw [hi1, ← hzs]
          rfl
        have hsz : (madeCells z.cells (n.toNat * i.size)).size = n.toNat * sizeT P e := by rw [hmc]; simp [hzs]
        obtain ⟨g1, g2⟩ := new_arr (d := d) (ty := e) (sz := sizeT P e) (cap := n.toNat) (els := List.replicate n.toNat (valAVs z)) (us := (madeCells z.cells (n.toNat * i.size)).toList) hH hs (fun x hx => by rw [List.eq_of_mem_replicate hx]; exact hl) (by simpa using hsz)
          (by simp) (by omega) (fun i' x j y hi' hy => by
            have hin : i' < n.toNat := by have := (List.getElem?_eq_some_iff.1 hi').1; simpa using this
            have hx : x = valAVs z := by rw [List.getElem?_replicate] at hi'; split at hi' <;> simp_all
            subst hx
            have hj : j < sizeT P e := by rw [← hl]; exact (List.getElem?_eq_some_iff.1 hy).1
            have hlt : i' * sizeT P e + j < n.toNat * sizeT P e := by
              have : (i' + 1) * sizeT P e ≤ n.toNat * sizeT P e := Nat.mul_le_mul_right _ hin
              rw [Nat.add_mul, Nat.one_mul] at this
              omega
            refine ⟨(madeCells z.cells (n.toNat * i.size))[i' * sizeT P e + j], by simp [hsz, hlt], ?_⟩
            have hmod : (i' * sizeT P e + j) % z.cells.size = j := by rw [hzs, Nat.mul_comm, Nat.mul_add_mod, Nat.mod_eq_of_lt hj]
            have hval : (madeCells z.cells (n.toNat * i.size))[i' * sizeT P e + j] = z.cells[j]! := by
              simp only [hmc, Array.getElem_map, Array.getElem_range, hmod]
            rw [hval]
            have hjz : j < z.cells.size := by omega
            have : y = .val (z.cells[j]!) := by
              simp [valAVs, hjz] at hy
              rw [← hy]
              simp [hjz]
            rw [this]
            exact .val _ _) (0, 0) (noFreeze_zero _)
        refine Good.val (v := .slice (some ⟨w.heap.size, 0, none⟩) n.toNat n.toNat) (cur' := upd cur d (nextVer t d) (.arr w.heap.size 0 n.toNat n.toNat (sizeT P e))) (w' := w.alloc (.cells (madeCells z.cells (n.toNat * i.size)) e)) (by simp [hrun]) (by simpa using g1) (by simpa using g2)
          (.sl _ _ _ _ _ _ (nextVer t d) (.arr w.heap.size 0 n.toNat n.toNat (sizeT P e)) (by simp [upd]) (Nat.le_refl _) (fun _ => ⟨by omega, Nat.le_refl _, ⟨w.heap.size, 0, none⟩, by simp, fun _ => by simp⟩))
      · exact Good.stuck
    · exact Good.stuck
  · exact Good.stuck
def alenM (P : Program) (ty : TypeId) (x : AV) (t : Tab) : AR :=
  match P.underlying ty with
  | some (.map _ _) => amapLen P ty x t
  | _ => alen P ty x t
theorem good_alenM (ty q : TypeId) (X : AV) (u : Value) (hH : RelH C w cur t) (hX : RelV w (okB C w cur) cur X u) : Good P C w cur (do pure (.value (← Builtin.len_ #[ty] q #[u]))) (alenM P ty X t) := by
  unfold alenM
  split
  · exact good_amapLen ty q X u hH hX
  · exact good_alen ty q X u hH hX
def amakeIface (P : Program) (ty : TypeId) (x : AV) (t : Tab) : AR :=
  match P.underlying ty with
  | some (.interface _) => .stuck
  | some _ => .ok (.iface ty x) t
  | none => .stuck
theorem good_amakeIface (ty : TypeId) (X : AV) (u : Value) (hH : RelH C w cur t) (hX : RelV w (okB C w cur) cur X u) : Good P C w cur (do pure (.value (← Instr.makeInterface ty u))) (amakeIface P ty X t) := by
  unfold amakeIface
  split
  · exact Good.stuck
  · rename_i d hnd hu
    refine Good.same hH (v := .iface ty u) ?_ (.iface _ ty X u hX)
    cases d <;> first
      | (simp [Instr.makeInterface, run_underlying hu]; done)
      | exact absurd rfl (hnd _)
  · exact Good.stuck
end
end Go.Proofs.Ytoblmpfcjeammaa.V
