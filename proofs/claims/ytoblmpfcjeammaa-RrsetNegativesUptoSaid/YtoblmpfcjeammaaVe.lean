/-
  Elements, slices, lengths, conversions: what they do to the abstract memory, and that Go's do the same. Conditions: none; plain definitions and lemmas, over any program.
-/
import Derived.Test.YtoblmpfcjeammaaVd
import Derived.Laws.BytesArg
import Derived.Laws.BytesString
import Derived.Laws.IdiomStrings
set_option linter.unusedVariables false
set_option linter.unusedSimpArgs false
namespace Go.Proofs.Ytoblmpfcjeammaa.V
open Go.RowKit
section
variable {P : Program} {C : Ctx} {w : World} {cur : Cur} {t : Tab}

/-! ### Elements of strings and arrays; parts -/
def strAt (s : ByteArray) (i : Nat) : UInt8 := s.data.toList.getD i 0
def aindex (P : Program) (ty : TypeId) (x i : AV) (t : Tab) : AR :=
  match i, P.underlying ty with
  | .val (.int _ i), some .string => match x with
    | .val (.string s) => .need (0 ≤ i ∧ i < s.size) (.ok (.val (.int .u8 (strAt s i.toNat).toNat)) t)
    | _ => .stuck
  | .val (.int _ i), some (.array n e) => match x with
    | .agg cs => .need (known P e = true ∧ 0 ≤ i ∧ i < n ∧ sizeT P e = 1 ∧ isAggT P e = false ∧ i.toNat < cs.length) (.ok (cs.getD i.toNat .poison) t)
    | _ => .stuck
  | _, _ => .stuck
theorem strAt_get (s : ByteArray) (i : Nat) (h : i < s.size) : s[i]? = some (strAt s i) := by
  have h' : i < s.data.toList.length := by simpa using h
  unfold strAt
  rw [List.getD_eq_getElem?_getD, List.getElem?_eq_getElem h']
  simp [h]
  rfl
theorem agg_at {cs : List AV} {u : Value} {ok : Nat → Prop} {j : Nat} (h : RelV w ok cur (.agg cs) u) (hj : j < cs.length) : ∃ c v, u = .agg c ∧ c.size = cs.length ∧ c[j]? = some v ∧ RelV w ok cur (cs.getD j .poison) v := by
  cases h with
  | agg _ _ us hn hr =>
    have hj' : j < us.length := by omega
    refine ⟨us.toArray, us[j], rfl, by simpa using hn, by simp [hj'], ?_⟩
    rw [show cs.getD j AV.poison = cs[j] from by simp [List.getD, List.getElem?_eq_getElem hj]]
    exact hr j _ _ (List.getElem?_eq_getElem hj) (List.getElem?_eq_getElem hj')
theorem good_aindex (ty : TypeId) (X I : AV) (u i : Value) (hH : RelH C w cur t) (hX : RelV w (okB C w cur) cur X u) (hI : RelV w (okB C w cur) cur I i) : Good P C w cur (do pure (.value (← Instr.index ty u i))) (aindex P ty X I t) := by
  unfold aindex
  split
  · rename_i k n hu
    cases hI
    split
    · rename_i s
      refine Good.need fun ⟨h0, h1⟩ => ?_
      cases hX
      refine Good.sv hH ?_
      have := strAt_get s n.toNat (by omega)
      simp [Instr.index, asIntOf, run_underlying hu, h0, this]
    · exact Good.stuck
  · rename_i k n m e hu
    cases hI
    split
    · refine Good.need fun ⟨hk, h0, h1, h2, h3, h4⟩ => ?_
      obtain ⟨c, v, rfl, hc, hv, hr⟩ := agg_at hX h4
      refine Good.same hH (v := v) ?_ hr
      simp [Instr.index, asIntOf, run_underlying hu, h0, h1, run_sizeOf hk, h2, part, run_isAgg hk, h3, hv]
    · exact Good.stuck
  · exact Good.stuck

def afield (P : Program) (sty : TypeId) (x : AV) (f : Nat) (t : Tab) : AR :=
  match P.underlying sty, x with
  | some (.struct fs), .agg cs => match fs[f]? with
    | some fd => .need (known P fd.type = true) (if isAggT P fd.type = true then .need (fd.offset + sizeT P fd.type ≤ cs.length) (.ok (.agg ((cs.drop fd.offset).take (sizeT P fd.type))) t) else .need (fd.offset < cs.length) (.ok (cs.getD fd.offset .poison) t))
    | none => .stuck
  | _, _ => .stuck
theorem good_afield (sty : TypeId) (X : AV) (u : Value) (f : Nat) (hH : RelH C w cur t) (hX : RelV w (okB C w cur) cur X u) : Good P C w cur (do pure (.value (← Instr.field sty u f))) (afield P sty X f t) := by
  unfold afield
  split
  · rename_i fs cs hu
    split
    · rename_i fd hf
      refine Good.need fun hk => ?_
      split
      · rename_i hg
        refine Good.need fun hb => ?_
        cases hX with
        | agg _ _ us hn hr =>
          refine Good.same hH (v := .agg ((us.drop fd.offset).take (sizeT P fd.type)).toArray) ?_ (.agg _ _ _ (by simp [hn]) (fun j y v h1 h2 => ?_))
          · simp [Instr.field, run_underlying hu, hf, asAgg, part, run_isAgg hk, hg, run_sizeOf hk]
            try (rw [List.take_drop]; congr 1; omega)
          · rw [List.getElem?_take] at h1 h2
            split at h1
            · rename_i hj
              rw [if_pos hj] at h2
              rw [List.getElem?_drop] at h1 h2
              exact hr _ y v h1 h2
            · cases h1
      · rename_i hg
        refine Good.need fun hb => ?_
        obtain ⟨c, v, rfl, hc, hv, hr⟩ := agg_at hX hb
        refine Good.same hH (v := v) ?_ hr
        simp [Instr.field, run_underlying hu, hf, asAgg, part, run_isAgg hk, hg, hv]
    · exact Good.stuck
  · exact Good.stuck

def aextract (x : AV) (i : Nat) (t : Tab) : AR :=
  match x with
  | .tup vs => .need (i < vs.length) (.ok (vs.getD i .poison) t)
  | _ => .stuck
theorem good_aextract (X : AV) (u : Value) (i : Nat) (hH : RelH C w cur t) (hX : RelV w (okB C w cur) cur X u) : Good P C w cur (do pure (.value (← Instr.extract u i))) (aextract X i t) := by
  unfold aextract
  split
  · rename_i vs
    refine Good.need fun hi => ?_
    cases hX with
    | tup _ _ us hn hr =>
      have hi' : i < us.length := by omega
      refine Good.same hH (v := us[i]) (by simp [Instr.extract, hi']) ?_
      rw [show vs.getD i AV.poison = vs[i] from by simp [List.getD, List.getElem?_eq_getElem hi]]
      exact hr i _ _ (List.getElem?_eq_getElem hi) (List.getElem?_eq_getElem hi')
  · exact Good.stuck

def aun (op : UnOp) (x : AV) (t : Tab) : AR :=
  match op, x with
  | .not, .val (.bool b) => .ok (.val (.bool (!b))) t
  | .neg, .val (.int k n) => .ok (.val (.int k (k.wrap (0 - n)))) t
  | _, _ => .stuck
theorem good_aun (op : UnOp) (X : AV) (u : Value) (hH : RelH C w cur t) (hX : RelV w (okB C w cur) cur X u) : Good P C w cur (do pure (.value (← Op.unary op u))) (aun op X t) := by
  unfold aun
  split
  · cases hX; exact Good.sv hH (by simp [Op.unary])
  · cases hX; exact Good.sv hH (by simp [Op.unary, Op.intArith])
  · exact Good.stuck

def anilCheck (x : AV) (t : Tab) : AR :=
  match x with
  | .ref key ver off => .need (isCurrent t key ver) (.ok (.ref key ver off) t)
  | .eref key ver i j => .need (isCurrent t key ver) (.ok (.eref key ver i j) t)
  | .iptr cs off => .ok (.iptr cs off) t
  | .func f cs => .need (∀ n, f ≠ .method n) (.ok (.func f cs) t)
  | .val (.func (.func f) a b) => .ok (.val (.func (.func f) a b)) t
  | .iface q y => .ok (.iface q y) t
  | _ => .stuck

def apick (c a b : AV) (t : Tab) : AR :=
  match c with
  | .val (.bool p) => .fork (p = true) (p = false) (.ok a t) (.ok b t)
  | _ => .stuck
theorem good_apick (X A B : AV) (u a b : Value) (hH : RelH C w cur t) (hX : RelV w (okB C w cur) cur X u) (hA : RelV w (okB C w cur) cur A a) (hB : RelV w (okB C w cur) cur B b) : Good P C w cur (do pure (.value (if ← asBool u then a else b))) (apick X A B t) := by
  unfold apick
  split
  · cases hX
    rename_i p
    cases p
    · exact Good.forkR rfl (Good.same hH (by simp [asBool]) hB)
    · exact Good.forkL rfl (Good.same hH (by simp [asBool]) hA)
  · exact Good.stuck

/-! ### Lengths -/
def alen (P : Program) (ty : TypeId) (x : AV) (t : Tab) : AR :=
  match P.underlying ty with
  | some .string => match x with
    | .val (.string s) => .ok (.val (.int .i64 s.size)) t
    | _ => .stuck
  | some (.slice _) => match x with
    | .imm _ xs => .ok (.val (.int .i64 xs.length)) t
    | .sl key ver _ len => .need (isCurrent t key ver) (.ok (.val (.int .i64 len)) t)
    | .val (.slice none 0 0) => .ok (.val (.int .i64 0)) t
    | _ => .stuck
  | some (.array n _) => .ok (.val (.int .i64 n)) t
  | _ => .stuck
theorem run_len_sl {ty e : TypeId} {q : TypeId} {A : Option Addr} {n c : Nat} (hu : P.underlying ty = some (.slice e)) : (Builtin.len_ #[ty] q #[.slice A n c]).run P w = .ok (.int .i64 n) w := by
  simp [Builtin.len_, run_underlying hu, goInt]
theorem good_alen (ty q : TypeId) (X : AV) (u : Value) (hH : RelH C w cur t) (hX : RelV w (okB C w cur) cur X u) : Good P C w cur (do pure (.value (← Builtin.len_ #[ty] q #[u]))) (alen P ty X t) := by
  unfold alen
  split
  · rename_i hu
    split
    · cases hX; exact Good.sv hH (by simp [Builtin.len_, run_underlying hu, goInt])
    · exact Good.stuck
  · rename_i e hu
    split
    · cases hX; exact Good.sv hH (by simp [run_len_sl hu])
    · rename_i key ver off len
      refine Good.need fun h => ?_
      obtain ⟨l, hl, hd⟩ := current_spec hH h
      cases hX with
      | sl _ _ _ _ _ _ ver' l' h1 hv h2 =>
        rw [hl] at h1; injection h1 with h1; injection h1 with h3 h4; subst h3; subst h4
        have h5 := h2 rfl
        cases l with
        | dead => exact absurd rfl hd
        | box g n => exact h5.elim
        | nil => obtain ⟨_, rfl, rfl⟩ := h5; exact Good.sv hH (by simp [run_len_sl hu])
        | arr g o cap n sz => obtain ⟨_, _, a, rfl, _⟩ := h5; exact Good.sv hH (by simp [run_len_sl hu])
        | map g => exact h5.elim
    · cases hX; exact Good.sv hH (by simp [run_len_sl hu])
    · exact Good.stuck
  · rename_i n e hu
    exact Good.sv hH (by simp [Builtin.len_, run_underlying hu, goInt])
  · exact Good.stuck

theorem good_anilCheck (X : AV) (u : Value) (m : Sem Next) (hH : RelH C w cur t) (hX : RelV w (okB C w cur) cur X u)
    (hm : (∀ a, u = .pointer (some a) → m.run P w = .ok (.value u) w) ∧ (∀ f a b, u = .func f a b → (∀ n, f ≠ .method n) → m.run P w = .ok (.value u) w) ∧ (∀ q y, u = .iface q y → m.run P w = .ok (.value u) w)) : Good P C w cur m (anilCheck X t) := by
  unfold anilCheck
  split
  · rename_i key ver off
    refine Good.need fun h => ?_
    obtain ⟨l, hl, hd⟩ := current_spec hH h
    have hX' := hX
    cases hX with
    | ref _ _ _ _ _ ver' l' h1 hv h2 =>
      rw [hl] at h1; injection h1 with h1; injection h1 with h3 h4; subst h3; subst h4
      have h5 := h2 rfl
      cases l with
      | dead => exact absurd rfl hd
      | nil => exact h5.elim
      | arr g o cap n sz => exact h5.elim
      | map g => exact h5.elim
      | box g n => subst h5; exact Good.same hH (hm.1 _ rfl) hX'
  · rename_i key ver i j
    refine Good.need fun h => ?_
    obtain ⟨l, hl, hd⟩ := current_spec hH h
    have hX' := hX
    cases hX with
    | eref _ _ _ _ _ _ ver' l' h1 hv h2 =>
      rw [hl] at h1; injection h1 with h1; injection h1 with h3 h4; subst h3; subst h4
      have h5 := h2 rfl
      cases l with
      | dead => exact absurd rfl hd
      | nil => exact h5.elim
      | box g n => exact h5.elim
      | map g => exact h5.elim
      | arr g o cap n sz => obtain ⟨_, rfl⟩ := h5; exact Good.same hH (hm.1 _ rfl) hX'
  · have hX' := hX
    cases hX with
    | iptr _ _ _ a u hb hu hr => exact Good.same hH (hm.1 _ rfl) hX'
  · have hX' := hX
    refine Good.need fun h => ?_
    cases hX with
    | func _ _ _ us hn hr => exact Good.same hH (hm.2.1 _ _ _ rfl h) hX'
  · have hX' := hX
    cases hX with
    | val => exact Good.same hH (hm.2.1 _ _ _ rfl (fun n => by simp)) hX'
  · have hX' := hX
    cases hX with
    | iface _ _ _ v hr => exact Good.same hH (hm.2.2 _ _ rfl) hX'
  · exact Good.stuck

/-! ### Slices -/
def boundOf : Option AV → Option (Option Int)
  | none => some none
  | some (.val (.int _ i)) => some (some i)
  | _ => none
def aslice (P : Program) (ty : TypeId) (x : AV) (lo hi : Option AV) (t : Tab) : AR :=
  match boundOf lo, boundOf hi, P.underlying ty with
  | some l, some h, some .string => match x with
    | .val (.string s) => .need (0 ≤ l.getD 0 ∧ l.getD 0 ≤ h.getD s.size ∧ h.getD s.size ≤ s.size) (.ok (.val (.string (s.extract (l.getD 0).toNat (h.getD s.size).toNat))) t)
    | _ => .stuck
  | some l, some h, some (.slice e) => match x with
    | .imm sz xs => .need (known P e = true ∧ sizeT P e = sz ∧ 0 ≤ l.getD 0 ∧ l.getD 0 ≤ h.getD xs.length ∧ h.getD xs.length ≤ xs.length) (.ok (.imm sz ((xs.take (h.getD xs.length).toNat).drop (l.getD 0).toNat)) t)
    | .sl key ver off len => match t.find key with
      | some (v, .arr _ sz _) => .need (ver = v ∧ known P e = true ∧ sizeT P e = sz ∧ 0 ≤ l.getD 0 ∧ l.getD 0 ≤ h.getD len ∧ h.getD len ≤ len) (.ok (.sl key ver (off + (l.getD 0).toNat) ((h.getD len).toNat - (l.getD 0).toNat)) t)
      | _ => .stuck
    | .val (.slice none 0 0) => .need (known P e = true ∧ l.getD 0 = 0 ∧ h.getD 0 = 0) (.ok (.val (.slice none 0 0)) t)
    | _ => .stuck
  | _, _, _ => .stuck
def OptRel (R : AV → Value → Prop) : Option AV → Option Value → Prop
  | none, none => True
  | some x, some v => R x v
  | _, _ => False
theorem bound_rel {o : Option AV} {p : Option Value} {ok : Nat → Prop} {l : Option Int} (h : boundOf o = some l) (hr : OptRel (RelV w ok cur) o p) :
    (l = none ∧ p = none) ∨ ∃ k i, l = some i ∧ p = some (.int k i) := by
  cases o with
  | none =>
    cases p with
    | none => simp [boundOf] at h; exact .inl ⟨h.symm, rfl⟩
    | some v => exact hr.elim
  | some x =>
    cases p with
    | none => exact hr.elim
    | some v =>
      unfold boundOf at h
      split at h
      · rename_i e; cases e
      · rename_i k i e
        injection e with e; subst e
        injection h with h; subst h
        cases hr
        exact .inr ⟨k, i, rfl, rfl⟩
      · cases h
theorem run_bounds {isS : Bool} {len cap : Nat} {lo hi : Option Value} {l h : Option Int} (hl : (l = none ∧ lo = none) ∨ ∃ k i, l = some i ∧ lo = some (.int k i)) (hh : (h = none ∧ hi = none) ∨ ∃ k i, h = some i ∧ hi = some (.int k i))
    (h0 : 0 ≤ l.getD 0) (h1 : l.getD 0 ≤ h.getD len) (h2 : h.getD len ≤ len) (h3 : len ≤ cap) : (Instr.sliceBounds isS len cap lo hi none).run P w = .ok ((l.getD 0).toNat, (h.getD len).toNat, cap) w := by
  rcases hl with ⟨rfl, rfl⟩ | ⟨k, i, rfl, rfl⟩ <;> rcases hh with ⟨rfl, rfl⟩ | ⟨k', i', rfl, rfl⟩
  · simp [Instr.sliceBounds]
  · simp only [Option.getD_some, Option.getD_none] at *
    simp [Instr.sliceBounds, run_sliceBound, h1, (show i' ≤ (cap : Int) by omega), (show 0 ≤ i' by omega)]
  · simp only [Option.getD_some, Option.getD_none] at *
    simp [Instr.sliceBounds, run_sliceBound, h0, h1]
  · simp only [Option.getD_some, Option.getD_none] at *
    have e : ((i'.toNat : Nat) : Int) = i' := Int.toNat_of_nonneg (by omega)
    simp [Instr.sliceBounds, run_sliceBound, h0, (show i' ≤ (cap : Int) by omega), (show 0 ≤ i' by omega), e, h1]
theorem good_aslice (ty : TypeId) (X : AV) (u : Value) (lo hi : Option AV) (lo' hi' : Option Value) (hH : RelH C w cur t) (hX : RelV w (okB C w cur) cur X u)
    (hlo : OptRel (RelV w (okB C w cur) cur) lo lo') (hhi : OptRel (RelV w (okB C w cur) cur) hi hi') :
    Good P C w cur (do pure (.value (← Instr.sliceAt ty u lo' hi' none))) (aslice P ty X lo hi t) := by
  unfold aslice
  split
  · rename_i l h e1 e2 hu
    have b1 := bound_rel e1 hlo
    have b2 := bound_rel e2 hhi
    split
    · refine Good.need fun ⟨h0, h1, h2⟩ => ?_
      cases hX
      refine Good.sv hH ?_
      have hb := run_bounds (P := P) (w := w) (isS := false) b1 b2 h0 h1 h2 (Nat.le_refl _)
      simp [Instr.sliceAt, Instr.slice, run_underlying hu, hb]
    · exact Good.stuck
  · rename_i l h e e1 e2 hu
    have b1 := bound_rel e1 hlo
    have b2 := bound_rel e2 hhi
    split
    · rename_i sz xs
      refine Good.need fun ⟨hk, hsz, h0, h1, h2⟩ => ?_
      cases hX with
      | imm _ _ _ A c u hc hm hA hl hs hu' hr =>
        have hb := run_bounds (P := P) (w := w) (isS := true) b1 b2 h0 h1 h2 hc
        have hrun : (Instr.sliceAt ty (.slice A xs.length c) lo' hi' none).run P w = .ok (.slice (if c = (l.getD 0).toNat then A else A.map (·.add ((l.getD 0).toNat * sz))) ((h.getD xs.length).toNat - (l.getD 0).toNat) (c - (l.getD 0).toNat)) w := by
          simp [Instr.sliceAt, Instr.slice, run_underlying hu, hb, run_sizeOf hk, hsz]
        have hlen : ((xs.take (h.getD xs.length).toNat).drop (l.getD 0).toNat).length = (h.getD xs.length).toNat - (l.getD 0).toNat := by
          rw [List.length_drop, List.length_take]; omega
        rw [← hlen] at hrun
        have hget : ∀ (i : Nat) (x : List AV), ((xs.take (h.getD xs.length).toNat).drop (l.getD 0).toNat)[i]? = some x → xs[(l.getD 0).toNat + i]? = some x := by
          intro i x hx
          rw [List.getElem?_drop, List.getElem?_take] at hx
          split at hx
          · exact hx
          · cases hx
        refine Good.same hH (v := .slice (if c = (l.getD 0).toNat then A else A.map (·.add ((l.getD 0).toNat * sz))) ((xs.take (h.getD xs.length).toNat).drop (l.getD 0).toNat).length (c - (l.getD 0).toNat)) (by simp only [Sem.run_bind, hrun, Result.andThen_ok, Sem.run_pure]) (.imm _ sz _ (if c = (l.getD 0).toNat then A else A.map (·.add ((l.getD 0).toNat * sz))) (c - (l.getD 0).toNat) (fun i j => u ((l.getD 0).toNat + i) j) (by omega) (by omega) (fun hp => ?_) (fun x hx => hl x (List.mem_of_mem_take (List.mem_of_mem_drop hx))) hs (fun a ha i x j y hx hy => ?_) (fun i x j y hx hy => hr _ x j y (hget i x hx) hy))
        · rw [hlen] at hp
          obtain ⟨a, rfl, hb'⟩ := hA (by omega)
          rw [if_neg (by omega)]
          exact ⟨_, rfl, by rw [block_of_add]; exact hb'⟩
        · have hi0 := (List.getElem?_eq_some_iff.1 hx).1
          rw [hlen] at hi0
          rw [if_neg (by omega)] at ha
          cases A with
          | none => cases ha
          | some a0 =>
            simp at ha
            subst ha
            rw [add_of_add]
            have := hu' a0 rfl _ x j y (hget i x hx) hy
            rwa [Nat.add_mul, Nat.add_assoc] at this
    · rename_i key ver off len
      split
      · rename_i v ty' sz els hf
        refine Good.need fun ⟨e3, hk, hsz, h0, h1, h2⟩ => ?_
        subst e3
        obtain ⟨hs, hx, ⟨hl, e0⟩ | ⟨g, o, cap, c, fr, hl, g1, g2, g3, g4, g5, g6, hA⟩⟩ := at_arr hH hf
        · cases hX with
          | sl _ _ _ _ _ _ ver' l' q1 hv q2 =>
            rw [hl] at q1; injection q1 with q1; injection q1 with h3 h4; subst h3; subst h4
            obtain ⟨rfl, rfl, rfl⟩ := q2 rfl
            have hb := run_bounds (P := P) (w := w) (isS := true) b1 b2 h0 h1 h2 (Nat.le_refl _)
            have z1 : (l.getD 0).toNat = 0 := by omega
            have z2 : (h.getD ((0 : Nat) : Int)).toNat = 0 := by omega
            rw [z1, z2] at hb
            refine Good.same hH (v := .slice none 0 0) (by simp [Instr.sliceAt, Instr.slice, run_underlying hu, hb, run_sizeOf hk]) (.sl _ _ _ _ _ _ ver .nil hl (Nat.le_refl _) (fun _ => ⟨by omega, by omega, rfl⟩))
        · cases hX with
          | sl _ _ _ _ _ _ ver' l' q1 hv q2 =>
            rw [hl] at q1; injection q1 with q1; injection q1 with h3 h4; subst h3; subst h4
            obtain ⟨e1, e2, a, rfl, e4⟩ := q2 rfl
            have hb := run_bounds (P := P) (w := w) (isS := true) b1 b2 h0 h1 h2 (show len ≤ cap - off by omega)
            refine Good.same hH (v := .slice (if cap - off = (l.getD 0).toNat then some a else some (a.add ((l.getD 0).toNat * sz))) ((h.getD len).toNat - (l.getD 0).toNat) (cap - off - (l.getD 0).toNat)) ?_ ?_
            · simp only [Instr.sliceAt, Instr.slice, Sem.run_bind, run_underlying hu, Result.andThen_ok, hb, run_sizeOf hk, hsz, Sem.run_pure]
              split <;> simp
            · refine .sl _ _ _ _ _ _ ver (.arr g o cap els.length sz) hl (Nat.le_refl _) (fun _ => ?_)
              refine ⟨by omega, e2, (if cap - off = (l.getD 0).toNat then a else a.add ((l.getD 0).toNat * sz)), ?_, fun hlt => ?_⟩
              · rw [Nat.sub_sub]
                split <;> rfl
              · rw [if_neg (by omega), e4 (by omega), addr_add, Nat.add_mul, Nat.add_assoc]
      · exact Good.stuck
    · refine Good.need fun ⟨hk, h0, h1⟩ => ?_
      cases hX
      have hb := run_bounds (P := P) (w := w) (isS := true) (len := 0) (cap := 0) b1 b2 (by omega) (by simp; omega) (by simp; omega) (Nat.le_refl _)
      have z1 : (l.getD 0).toNat = 0 := by omega
      have z2 : (h.getD ((0 : Nat) : Int)).toNat = 0 := by simp; omega
      rw [z1, z2] at hb
      exact Good.sv hH (by simp [Instr.sliceAt, Instr.slice, run_underlying hu, hb, run_sizeOf hk])
    · exact Good.stuck
  · exact Good.stuck
end
end Go.Proofs.Ytoblmpfcjeammaa.V
