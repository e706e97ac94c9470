/-
  What the operations do to the abstract memory, and that Go's do the same. Conditions: none; plain definitions and lemmas, over any program.
-/
import Derived.Test.YtoblmpfcjeammaaVa
import Derived.WalkLawsBesides
set_option linter.unusedVariables false
set_option linter.unusedSimpArgs false
namespace Go.Proofs.Ytoblmpfcjeammaa.V
open Go.RowKit

/-- What an operation comes to. -/
inductive AR where
  | ok (v : AV) (t : Tab)
  | need (p : Prop) (r : AR)
  | fork (p q : Prop) (r s : AR)
  | stuck
def AR.sat : AR → (AV → Tab → Prop) → Prop
  | .ok v t, Φ => Φ v t
  | .need p r, Φ => p ∧ r.sat Φ
  | .fork p q r s, Φ => (p → r.sat Φ) ∧ (q → s.sat Φ)
  | .stuck, _ => False

def Good (P : Program) (C : Ctx) (w : World) (cur : Cur) (m : Sem Next) (r : AR) : Prop :=
  ∀ Φ, r.sat Φ → ∃ n v av t' w' cur', m.run P w = .ok n w' ∧ (n = .value v ∨ n = .skip ∧ v = undef) ∧ Φ av t' ∧ RelH C w' cur' t' ∧ Ext C w cur w' cur' ∧ RelV w' (okB C w' cur') cur' av v
section
variable {P : Program} {C : Ctx} {w : World} {cur : Cur} {m : Sem Next} {r s : AR} {t : Tab}
theorem Good.need {p : Prop} (h : p → Good P C w cur m r) : Good P C w cur m (.need p r) := fun Φ hs => h hs.1 Φ hs.2
theorem Good.forkL {p q : Prop} (hp : p) (h : Good P C w cur m r) : Good P C w cur m (.fork p q r s) := fun Φ hs => h Φ (hs.1 hp)
theorem Good.forkR {p q : Prop} (hq : q) (h : Good P C w cur m s) : Good P C w cur m (.fork p q r s) := fun Φ hs => h Φ (hs.2 hq)
theorem Good.stuck : Good P C w cur m .stuck := fun Φ hs => hs.elim
theorem Good.same {v : Value} {av : AV} (hH : RelH C w cur t) (hr : m.run P w = .ok (.value v) w) (hv : RelV w (okB C w cur) cur av v) : Good P C w cur m (.ok av t) :=
  fun Φ hs => ⟨.value v, v, av, t, w, cur, hr, .inl rfl, hs, hH, Ext.refl C w cur, hv⟩
theorem Good.sv {v : Value} (hH : RelH C w cur t) (hr : m.run P w = .ok (.value v) w) : Good P C w cur m (.ok (.val v) t) := Good.same hH hr (.val cur v)
end

/-! ### Numbers, strings, bools -/
def ibin (op : BinOp) (k k' : IntKind) (a b : Int) (t : Tab) : AR :=
  match op with
  | .add => .need (k = k') (.ok (.val (.int k (k.wrap (a + b)))) t)
  | .sub => .need (k = k') (.ok (.val (.int k (k.wrap (a - b)))) t)
  | .mul => .need (k = k') (.ok (.val (.int k (k.wrap (a * b)))) t)
  | .quo => .need (k = k' ∧ b ≠ 0) (.ok (.val (.int k (k.wrap (a.tdiv b)))) t)
  | .rem => .need (k = k' ∧ b ≠ 0) (.ok (.val (.int k (a.tmod b))) t)
  | .and => .need (k = k') (.ok (.val (.int k (bits .and k a b))) t)
  | .or => .need (k = k') (.ok (.val (.int k (bits .or k a b))) t)
  | .xor => .need (k = k') (.ok (.val (.int k (bits .xor k a b))) t)
  | .andNot => .need (k = k') (.ok (.val (.int k (bits .andNot k a b))) t)
  | .shl => .need (0 ≤ b) (.ok (.val (.int k (k.wrap (a * 2 ^ min b.toNat k.bits)))) t)
  | .shr => .need (0 ≤ b) (.ok (.val (.int k (a / 2 ^ min b.toNat k.bits))) t)
  | .eql => .need (k = k') (.ok (.val (.bool (decide (a = b)))) t)
  | .neq => .need (k = k') (.ok (.val (.bool (decide (¬ a = b)))) t)
  | .lss => .need (k = k') (.ok (.val (.bool (decide (a < b)))) t)
  | .leq => .need (k = k') (.ok (.val (.bool (decide (a ≤ b)))) t)
  | .gtr => .need (k = k') (.ok (.val (.bool (decide (b < a)))) t)
  | .geq => .need (k = k') (.ok (.val (.bool (decide (b ≤ a)))) t)
def sbin (op : BinOp) (a b : ByteArray) (t : Tab) : AR :=
  match op with
  | .add => .need (a.size + b.size ≤ 9223372036854775807) (.ok (.val (.string (a ++ b))) t)
  | .eql => .ok (.val (.bool (decide (a = b)))) t
  | .neq => .ok (.val (.bool (decide (¬ a = b)))) t
  | .lss => .ok (.val (.bool (Op.bytesLess a.toList b.toList))) t
  | .leq => .ok (.val (.bool (Op.bytesLess a.toList b.toList || a.toList == b.toList))) t
  | .gtr => .ok (.val (.bool !(Op.bytesLess a.toList b.toList || a.toList == b.toList))) t
  | .geq => .ok (.val (.bool !(Op.bytesLess a.toList b.toList))) t
  | _ => .stuck
def bbin (P : Program) (op : BinOp) (ty : TypeId) (a b : Bool) (t : Tab) : AR :=
  match op with
  | .eql => .need (P.underlying ty = some .bool) (.ok (.val (.bool (a == b))) t)
  | .neq => .need (P.underlying ty = some .bool) (.ok (.val (.bool (!(a == b)))) t)
  | _ => .stuck
def isCurrent (t : Tab) (key ver : Nat) : Prop :=
  match t.find key with
  | some (v, .cells _ _) => ver = v
  | some (v, .arr _ _ _) => ver = v
  | some (v, .map _) => ver = v
  | _ => False
/-- 'x == nil', or 'x != nil' (neg). -/
def nilP (P : Program) (neg : Bool) (ty : TypeId) (x : AV) (t : Tab) : AR :=
  match P.underlying ty with
  | some (.pointer _) => match x with
    | .val (.pointer none) => .ok (.val (.bool (!neg))) t
    | .ref key ver _ => .need (isCurrent t key ver) (.ok (.val (.bool neg)) t)
    | .iptr _ _ => .ok (.val (.bool neg)) t
    | .eref key ver _ _ => .need (isCurrent t key ver) (.ok (.val (.bool neg)) t)
    | _ => .stuck
  | _ => .stuck
def nilS (P : Program) (neg : Bool) (ty : TypeId) (x : AV) (t : Tab) : AR :=
  match P.underlying ty with
  | some (.slice _) => match x with
    | .val (.slice none 0 0) => .ok (.val (.bool (!neg))) t
    | .imm _ xs => .fork (xs = []) True (.ok (.val (.bool (!neg))) t) (.ok (.val (.bool neg)) t)
    | .sl key ver _ len => .need (isCurrent t key ver) (.fork (len = 0) True (.ok (.val (.bool (!neg))) t) (.ok (.val (.bool neg)) t))
    | _ => .stuck
  | _ => .stuck
def nilM (P : Program) (neg : Bool) (ty : TypeId) (x : AV) (t : Tab) : AR :=
  match P.underlying ty with
  | some (.map _ _) => match x with
    | .val (.map none) => .ok (.val (.bool (!neg))) t
    | .mp key ver => .need (isCurrent t key ver) (.ok (.val (.bool neg)) t)
    | _ => .stuck
  | _ => .stuck
def nilI (P : Program) (neg : Bool) (ty : TypeId) (x : AV) (t : Tab) : AR :=
  match P.underlying ty with
  | some (.interface _) => match x with
    | .iface _ _ => .ok (.val (.bool neg)) t
    | _ => .stuck
  | _ => .stuck
def abin (P : Program) (op : BinOp) (ty : TypeId) (x y : AV) (t : Tab) : AR :=
  match y with
  | .val (.int k' b) => match x with
    | .val (.int k a) => ibin op k k' a b t
    | _ => .stuck
  | .val (.string b) => match x with
    | .val (.string a) => sbin op a b t
    | _ => .stuck
  | .val (.bool b) => match x with
    | .val (.bool a) => bbin P op ty a b t
    | _ => .stuck
  | .val (.pointer none) => match op with
    | .eql => nilP P false ty x t
    | .neq => nilP P true ty x t
    | _ => .stuck
  | .val (.slice none 0 0) => match op with
    | .eql => nilS P false ty x t
    | .neq => nilS P true ty x t
    | _ => .stuck
  | .val (.map none) => match op with
    | .eql => nilM P false ty x t
    | .neq => nilM P true ty x t
    | _ => .stuck
  | .val .nilIface => match op with
    | .eql => nilI P false ty x t
    | .neq => nilI P true ty x t
    | _ => .stuck
  | _ => .stuck

theorem beq_toList (a b : ByteArray) : (a.toList == b.toList) = decide (a = b) := by
  rw [Bool.eq_iff_iff]
  simp only [beq_iff_eq, decide_eq_true_eq, ByteArray.toList_eq]
  constructor
  · intro h
    cases a; cases b
    simp only [ByteArray.mk.injEq]
    exact Array.toList_inj.1 h
  · rintro rfl; rfl
section
variable {P : Program} {C : Ctx} {w : World} {cur : Cur} {t : Tab}
theorem good_ibin (op : BinOp) (ty : TypeId) (k k' : IntKind) (a b : Int) (x y : Operand) (hH : RelH C w cur t) :
    Good P C w cur (do pure (.value (← (do eqGuard op ty x y (.int k a) (.int k' b); binOp op ty (.int k a) (.int k' b))))) (ibin op k k' a b t) := by
  cases op <;> refine Good.need fun h => ?_
  all_goals first
    | (subst h; refine Good.sv hH ?_; simp [go_sem, binOp, Op.intArith, Op.intBits, Op.intCmp, intBits_and, intBits_or, intBits_xor, intBits_andNot]; done)
    | (subst h; refine Good.sv hH ?_; simp [go_sem, binOp, Op.intCmp, bne, BEq.beq]; done)
    | (obtain ⟨rfl, h⟩ := h; refine Good.sv hH ?_; simp [go_sem, binOp, Op.intDiv, h]; done)
    | (refine Good.sv hH ?_; simp [go_sem, binOp, shift_shl_any _ _ _ _ h, shift_shr_any _ _ _ _ h]; done)
theorem good_sbin (op : BinOp) (ty : TypeId) (a b : ByteArray) (x y : Operand) (hH : RelH C w cur t) :
    Good P C w cur (do pure (.value (← (do eqGuard op ty x y (.string a) (.string b); binOp op ty (.string a) (.string b))))) (sbin op a b t) := by
  cases op
  case add =>
    refine Good.need fun h => Good.sv hH ?_
    simp [go_sem, binOp, Op.stringOp, IntKind.max, IntKind.signed, IntKind.bits]
    omega
  all_goals first
    | exact Good.stuck
    | (refine Good.sv hH ?_; simp [go_sem, binOp, Op.stringOp, beq_toList]; done)
theorem good_bbin (op : BinOp) (ty : TypeId) (a b : Bool) (x y : Operand) (hH : RelH C w cur t) :
    Good P C w cur (do pure (.value (← (do eqGuard op ty x y (.bool a) (.bool b); binOp op ty (.bool a) (.bool b))))) (bbin P op ty a b t) := by
  have he : bbin P op ty a b t = .stuck ∨ op = .eql ∨ op = .neq := by cases op <;> simp [bbin]
  rcases he with he | rfl | rfl
  · rw [he]; exact Good.stuck
  · refine Good.need fun h => Good.sv hH ?_
    have hr : (binOp .eql ty (.bool a) (.bool b)).run P w = .ok (.bool (a == b)) w := run_eql_bool w ty a b h
    simp [eqGuard_at_bool, hr]
  · refine Good.need fun h => Good.sv hH ?_
    have hr : (binOp .neq ty (.bool a) (.bool b)).run P w = .ok (.bool (!(a == b))) w := by
      simp only [binOp]
      simp [show Op.equal ty (.bool a) (.bool b) = Op.equalIn (9999 + 1) ty (.bool a) (.bool b) from rfl, run_equalIn_bool w 9999 ty a b h]
    simp [eqGuard_at_bool, hr]

/-- An equality with nil, told by whether it is so. -/
theorem run_nil {op : BinOp} {neg : Bool} (hop : op = .eql ∧ neg = false ∨ op = .neq ∧ neg = true) (ty : TypeId) (x y : Operand) (u v : Value) (b : Bool)
    (hg : eqGuard op ty x y u v = pure ()) (hb : ∀ o, binOp o ty u v = match o with | .eql => (do pure (.bool (← Op.equal ty u v))) | .neq => (do pure (.bool (!(← Op.equal ty u v)))) | _ => binOp o ty u v)
    (he : ∀ d, (Op.equalIn (d + 1) ty u v).run P w = .ok b w) :
    (do pure (Next.value (← (do eqGuard op ty x y u v; binOp op ty u v))) : Sem Next).run P w = .ok (.value (.bool (if neg then !b else b))) w := by
  rw [hg]
  have he' : (Op.equal ty u v).run P w = .ok b w := he 9999
  rcases hop with ⟨rfl, rfl⟩ | ⟨rfl, rfl⟩
  · rw [hb .eql]; simp [he']
  · rw [hb .neq]; simp [he']

theorem cur_box {key ver v : Nat} {o : AObj} {l : Loc} (hH : RelH C w cur t) (hf : t.find key = some (v, o)) : ∃ l, cur key = some (v, l) ∧ RelO (RelV w (okB C w cur) cur) w o l := ((hH.dom key).2 v o hf)
theorem current_spec {key ver : Nat} (hH : RelH C w cur t) (h : isCurrent t key ver) : ∃ l, cur key = some (ver, l) ∧ l ≠ .dead := by
  unfold isCurrent at h
  split at h
  · rename_i v ty cs hf
    subst h
    obtain ⟨l, hl, g, c, fr, rfl, _⟩ := (hH.dom key).2 _ _ hf
    exact ⟨_, hl, by simp⟩
  · rename_i v ty sz els hf
    subst h
    obtain ⟨l, hl, _, _, ⟨rfl, _⟩ | ⟨g, o, cap, c, fr, rfl, _⟩⟩ := (hH.dom key).2 _ _ hf
    · exact ⟨_, hl, by simp⟩
    · exact ⟨_, hl, by simp⟩
  · rename_i v es hf
    subst h
    obtain ⟨l, hl, g, en, clock, rfl, _⟩ := (hH.dom key).2 _ _ hf
    exact ⟨_, hl, by simp⟩
  · exact h.elim

theorem good_nilP {op : BinOp} {neg : Bool} (hop : op = .eql ∧ neg = false ∨ op = .neq ∧ neg = true) (ty : TypeId) (x y : Operand) (X : AV) (u : Value)
    (hH : RelH C w cur t) (hX : RelV w (okB C w cur) cur X u) : Good P C w cur (do pure (.value (← (do eqGuard op ty x y u (.pointer none); binOp op ty u (.pointer none))))) (nilP P neg ty X t) := by
  unfold nilP
  split
  · rename_i e hu
    have hr : ∀ (p : Option Addr), (do pure (Next.value (← (do eqGuard op ty x y (.pointer p) (.pointer none); binOp op ty (.pointer p) (.pointer none)))) : Sem Next).run P w = .ok (.value (.bool (if neg then !p.isNone else p.isNone))) w := fun p =>
      run_nil hop ty x y _ _ _ (eqGuard_at_pointer ..) (fun o => by cases o <;> rfl) (fun d => by cases p <;> simp [Op.equalIn, run_underlying hu])
    split
    · cases hX; refine Good.sv hH ((hr none).trans ?_); simp
    · rename_i key ver off
      refine Good.need fun h => ?_
      obtain ⟨l, hl, hd⟩ := current_spec hH h
      cases hX with
      | ref _ _ _ _ _ ver' l' h1 hv h2 =>
        rw [hl] at h1; injection h1 with h1; injection h1 with h3 h4; subst h3; subst h4
        have h5 := h2 rfl
        cases l with
        | dead => exact absurd rfl hd
        | nil => exact h5.elim
        | box g n => subst h5; refine Good.sv hH ((hr _).trans ?_); simp
        | arr g o cap n sz => exact h5.elim
        | map g => exact h5.elim
    · cases hX; refine Good.sv hH ((hr _).trans ?_); simp
    · rename_i key ver i j
      refine Good.need fun h => ?_
      obtain ⟨l, hl, hd⟩ := current_spec hH h
      cases hX with
      | eref _ _ _ _ _ _ ver' l' h1 hv h2 =>
        rw [hl] at h1; injection h1 with h1; injection h1 with h3 h4; subst h3; subst h4
        have h5 := h2 rfl
        cases l with
        | dead => exact absurd rfl hd
        | nil => exact h5.elim
        | box g n => exact h5.elim
        | arr g o cap n sz => obtain ⟨_, h5⟩ := h5; subst h5; refine Good.sv hH ((hr _).trans ?_); simp
        | map g => exact h5.elim
    · exact Good.stuck
  · exact Good.stuck
theorem good_nilS {op : BinOp} {neg : Bool} (hop : op = .eql ∧ neg = false ∨ op = .neq ∧ neg = true) (ty : TypeId) (x y : Operand) (X : AV) (u : Value)
    (hH : RelH C w cur t) (hX : RelV w (okB C w cur) cur X u) : Good P C w cur (do pure (.value (← (do eqGuard op ty x y u (.slice none 0 0); binOp op ty u (.slice none 0 0))))) (nilS P neg ty X t) := by
  unfold nilS
  split
  · rename_i e hu
    have hr : ∀ (p : Option Addr) (n c : Nat), (do pure (Next.value (← (do eqGuard op ty x y (.slice p n c) (.slice none 0 0); binOp op ty (.slice p n c) (.slice none 0 0)))) : Sem Next).run P w = .ok (.value (.bool (if neg then !p.isNone else p.isNone))) w := fun p n c =>
      run_nil hop ty x y _ _ _ (eqGuard_at_slice ..) (fun o => by cases o <;> rfl) (fun d => by cases p <;> simp [Op.equalIn, run_underlying hu])
    have hs : ∀ (p : Option Addr) (n c : Nat) (b : Bool), p.isNone = b → Good P C w cur (do pure (Next.value (← (do eqGuard op ty x y (.slice p n c) (.slice none 0 0); binOp op ty (.slice p n c) (.slice none 0 0))))) (.ok (.val (.bool (if neg then !b else b))) t) := fun p n c b hb => by
      subst hb; exact Good.sv hH (hr p n c)
    split
    · cases hX; refine Good.sv hH ((hr none 0 0).trans ?_); simp
    · rename_i xs
      cases hX with
      | imm _ _ _ A c u hc hm hA hl hs' hu' hr' =>
        cases A with
        | none =>
          have hx : xs = [] := by
            cases xs with
            | nil => rfl
            | cons a b => obtain ⟨a', ha', _⟩ := hA (by simp); cases ha'
          refine Good.forkL hx ?_
          have := hs none xs.length c true rfl
          cases neg <;> simpa using this
        | some a =>
          refine Good.forkR trivial ?_
          have := hs (some a) xs.length c false rfl
          cases neg <;> simpa using this
    · rename_i key ver off len
      refine Good.need fun h => ?_
      obtain ⟨l, hl, hd⟩ := current_spec hH h
      cases hX with
      | sl _ _ _ _ _ _ ver' l' h1 hv h2 =>
        rw [hl] at h1; injection h1 with h1; injection h1 with h3 h4; subst h3; subst h4
        have h5 := h2 rfl
        cases l with
        | dead => exact absurd rfl hd
        | nil =>
          obtain ⟨_, h6, rfl⟩ := h5
          refine Good.forkL h6 ?_
          have := hs none 0 0 true rfl
          cases neg <;> simpa using this
        | box g n => exact h5.elim
        | arr g o cap n sz =>
          obtain ⟨_, _, a, rfl, _⟩ := h5
          refine Good.forkR trivial ?_
          have := hs (some a) len (cap - off) false rfl
          cases neg <;> simpa using this
        | map g => exact h5.elim
    · exact Good.stuck
  · exact Good.stuck
theorem good_nilM {op : BinOp} {neg : Bool} (hop : op = .eql ∧ neg = false ∨ op = .neq ∧ neg = true) (ty : TypeId) (x y : Operand) (X : AV) (u : Value)
    (hH : RelH C w cur t) (hX : RelV w (okB C w cur) cur X u) : Good P C w cur (do pure (.value (← (do eqGuard op ty x y u (.map none); binOp op ty u (.map none))))) (nilM P neg ty X t) := by
  unfold nilM
  split
  · rename_i e e' hu
    have hr : ∀ (p : Option Nat), (do pure (Next.value (← (do eqGuard op ty x y (.map p) (.map none); binOp op ty (.map p) (.map none)))) : Sem Next).run P w = .ok (.value (.bool (if neg then !p.isNone else p.isNone))) w := fun p =>
      run_nil hop ty x y _ _ _ (eqGuard_at_map ..) (fun o => by cases o <;> rfl) (fun d => by cases p <;> simp [Op.equalIn, run_underlying hu])
    split
    · cases hX; refine Good.sv hH ((hr none).trans ?_); simp
    · rename_i key ver
      refine Good.need fun h => ?_
      obtain ⟨l, hl, hd⟩ := current_spec hH h
      cases hX with
      | mp _ _ _ _ ver' l' h1 hv h2 =>
        rw [hl] at h1; injection h1 with h1; injection h1 with h3 h4; subst h3; subst h4
        have h5 := h2 rfl
        cases l with
        | dead => exact absurd rfl hd
        | nil => exact h5.elim
        | box g n => exact h5.elim
        | arr g o cap n sz => exact h5.elim
        | map g => subst h5; refine Good.sv hH ((hr _).trans ?_); simp
    · exact Good.stuck
  · exact Good.stuck
theorem good_nilI {op : BinOp} {neg : Bool} (hop : op = .eql ∧ neg = false ∨ op = .neq ∧ neg = true) (ty : TypeId) (x y : Operand) (X : AV) (u : Value)
    (hH : RelH C w cur t) (hX : RelV w (okB C w cur) cur X u) : Good P C w cur (do pure (.value (← (do eqGuard op ty x y u .nilIface; binOp op ty u .nilIface)))) (nilI P neg ty X t) := by
  unfold nilI
  split
  · rename_i e hu
    have hr : ∀ (q : TypeId) (p : Value), (do pure (Next.value (← (do eqGuard op ty x y (.iface q p) .nilIface; binOp op ty (.iface q p) .nilIface))) : Sem Next).run P w = .ok (.value (.bool (if neg then !false else false))) w := fun q p =>
      run_nil hop ty x y _ _ _ (eqGuard_at_iface ..) (fun o => by cases o <;> rfl) (fun d => by simp [Op.equalIn, run_underlying hu])
    split
    · cases hX; refine Good.sv hH ((hr _ _).trans ?_); simp
    · exact Good.stuck
  · exact Good.stuck

theorem good_abin (op : BinOp) (ty : TypeId) (x y : Operand) (X Y : AV) (u v : Value) (hH : RelH C w cur t) (hX : RelV w (okB C w cur) cur X u) (hY : RelV w (okB C w cur) cur Y v) :
    Good P C w cur (do pure (.value (← (do eqGuard op ty x y u v; binOp op ty u v)))) (abin P op ty X Y t) := by
  unfold abin
  split
  · cases hY
    split
    · cases hX; exact good_ibin op ty _ _ _ _ x y hH
    · exact Good.stuck
  · cases hY
    split
    · cases hX; exact good_sbin op ty _ _ x y hH
    · exact Good.stuck
  · cases hY
    split
    · cases hX; exact good_bbin op ty _ _ x y hH
    · exact Good.stuck
  · cases hY
    split
    · exact good_nilP (.inl ⟨rfl, rfl⟩) ty x y X u hH hX
    · exact good_nilP (.inr ⟨rfl, rfl⟩) ty x y X u hH hX
    · exact Good.stuck
  · cases hY
    split
    · exact good_nilS (.inl ⟨rfl, rfl⟩) ty x y X u hH hX
    · exact good_nilS (.inr ⟨rfl, rfl⟩) ty x y X u hH hX
    · exact Good.stuck
  · cases hY
    split
    · exact good_nilM (.inl ⟨rfl, rfl⟩) ty x y X u hH hX
    · exact good_nilM (.inr ⟨rfl, rfl⟩) ty x y X u hH hX
    · exact Good.stuck
  · cases hY
    split
    · exact good_nilI (.inl ⟨rfl, rfl⟩) ty x y X u hH hX
    · exact good_nilI (.inr ⟨rfl, rfl⟩) ty x y X u hH hX
    · exact Good.stuck
  · exact Good.stuck
end
end Go.Proofs.Ytoblmpfcjeammaa.V
