/-
  New objects, addresses, elements, lengths, conversions: what they do to the abstract memory, and that Go's do the same. Conditions: none; plain definitions and lemmas, over any program.
-/
import Derived.Test.YtoblmpfcjeammaaVc
set_option linter.unusedVariables false
set_option linter.unusedSimpArgs false
namespace Go.Proofs.Ytoblmpfcjeammaa.V
open Go.RowKit
section
variable {P : Program} {C : Ctx} {w : World} {cur : Cur} {t : Tab}

/-! ### New objects -/
def nextVer (t : Tab) (d : Nat) : Nat :=
  match t.find d with
  | none => 0
  | some (v, _) => v + 1
theorem turn_new {d : Nat} {l : Loc} {o : Obj} (hH : RelH C w cur t) (hl : ∀ b, l.block = some b → b = w.heap.size) : Turn w cur d (nextVer t d) l (w.alloc o) := by
  refine ⟨rfl, rfl, rfl, by simp, fun b hb _ => Below.heap_alloc w o b hb, fun b hb => ?_, fun ver l0 hk => ?_⟩
  · have := hl b hb
    subst this
    exact ⟨by simp, .inl (Nat.le_refl _)⟩
  · cases hf : t.find d with
    | none => rw [(hH.dom d).1 hf] at hk; cases hk
    | some p =>
      obtain ⟨v, ob⟩ := p
      obtain ⟨l', hl', _⟩ := (hH.dom d).2 v ob hf
      rw [hl'] at hk; injection hk with hk; injection hk with h1 h2
      subst h1
      unfold nextVer
      rw [hf]
      exact ⟨Nat.le_succ _, fun h => by simp at h⟩
theorem heap_new (w : World) (o : Obj) : (w.alloc o).heap[w.heap.size]? = some o := heap_alloc_new w o
theorem noFreeze_zero (n : Nat) : noFreeze (0, 0) n := fun i _ h => by simp at h

/-- A new block of cells, as an object. -/
theorem new_box {d : Nat} {ty : TypeId} {cs : List AV} {us : List Value} (hH : RelH C w cur t) (hn : us.length = cs.length) (hr : ∀ (j : Nat) (y : AV) (u : Value), cs[j]? = some y → us[j]? = some u → RelV w (okB C w cur) cur y u) :
    RelH C (w.alloc (.cells us.toArray ty)) (upd cur d (nextVer t d) (.box w.heap.size cs.length)) (t.put d (nextVer t d) (.cells ty cs)) ∧
    Ext C w cur (w.alloc (.cells us.toArray ty)) (upd cur d (nextVer t d) (.box w.heap.size cs.length)) := by
  have hT : Turn w cur d (nextVer t d) (.box w.heap.size cs.length) (w.alloc (.cells us.toArray ty)) := turn_new hH (fun b hb => by injection hb with hb; exact hb.symm)
  have hx := hT.ext (C := C)
  refine ⟨hH.turn hT ?_, hx⟩
  refine ⟨w.heap.size, us.toArray, (0, 0), rfl, heap_new _ _, noFreeze_zero _, by simp [hn], fun j y hy => ?_⟩
  have hj : j < us.length := by rw [hn]; exact (List.getElem?_eq_some_iff.1 hy).1
  exact ⟨us[j], by simp [hj], hx.rel (hr j y _ hy (List.getElem?_eq_getElem hj))⟩
theorem new_arr {d : Nat} {ty : TypeId} {sz cap : Nat} {els : List (List AV)} {us : List Value} (hH : RelH C w cur t) (hs : 0 < sz) (hl : ∀ x, x ∈ els → x.length = sz) (hn : us.length = cap * sz) (hc : els.length ≤ cap) (hm : cap ≤ 9223372036854775807)
    (hr : ∀ (i : Nat) (x : List AV) (j : Nat) (y : AV), els[i]? = some x → x[j]? = some y → ∃ u, us[i * sz + j]? = some u ∧ RelV w (okB C w cur) cur y u) (fr : Nat × Nat) (hfr : noFreeze fr us.length) :
    RelH C (w.alloc (.cells us.toArray ty fr)) (upd cur d (nextVer t d) (.arr w.heap.size 0 cap els.length sz)) (t.put d (nextVer t d) (.arr ty sz els)) ∧
    Ext C w cur (w.alloc (.cells us.toArray ty fr)) (upd cur d (nextVer t d) (.arr w.heap.size 0 cap els.length sz)) := by
  have hT : Turn w cur d (nextVer t d) (.arr w.heap.size 0 cap els.length sz) (w.alloc (.cells us.toArray ty fr)) := turn_new hH (fun b hb => by injection hb with hb; exact hb.symm)
  have hx := hT.ext (C := C)
  refine ⟨hH.turn hT ?_, hx⟩
  refine ⟨hs, hl, .inr ⟨w.heap.size, 0, cap, us.toArray, fr, rfl, heap_new _ _, by simpa using hfr, by simp [hn], hc, hm, fun i x j y hi hy => ?_⟩⟩
  obtain ⟨u, hu, hru⟩ := hr i x j y hi hy
  exact ⟨u, by simpa using hu, hx.rel hru⟩

def zeroV (P : Program) (ty : TypeId) : Option Value := (P.info? ty).bind (·.zero)
theorem run_zeroValue {ty : TypeId} {z : Value} (h : zeroV P ty = some z) (w : World) : (zeroValue ty).run P w = .ok z w := by
  unfold zeroV at h
  cases hi : P.info? ty with
  | none => rw [hi] at h; cases h
  | some i =>
    rw [hi] at h
    simp at h
    simp [zeroValue, typeInfo, hi, h]
def valAVs (z : Value) : List AV := z.cells.toList.map .val
theorem valAVs_rel {ok : Nat → Prop} (z : Value) : ∀ (j : Nat) (y : AV) (u : Value), (valAVs z)[j]? = some y → z.cells.toList[j]? = some u → RelV w ok cur y u := by
  intro j y u h1 h2
  unfold valAVs at h1
  rw [List.getElem?_map, h2] at h1
  simp at h1
  subst h1
  exact .val _ _

def aalloc (P : Program) (d : Option Nat) (ty : TypeId) (t : Tab) : AR :=
  match d, zeroV P ty with
  | some d, some z => .ok (.ref d (nextVer t d) 0) (t.put d (nextVer t d) (.cells ty (valAVs z)))
  | _, _ => .stuck
theorem good_aalloc (d : Option Nat) (ty : TypeId) (hH : RelH C w cur t) : Good P C w cur (do pure (.value (← Instr.alloc ty true (.tuple #[])))) (aalloc P d ty t) := by
  unfold aalloc
  split
  · rename_i d z hz
    obtain ⟨h1, h2⟩ := new_box (d := d) (ty := ty) (cs := valAVs z) (us := z.cells.toList) hH (by simp [valAVs]) (valAVs_rel z)
    refine Good.val (v := .pointer (some ⟨w.heap.size, 0, none⟩)) (cur' := upd cur d (nextVer t d) (.box w.heap.size (valAVs z).length)) (w' := w.alloc (.cells z.cells ty)) ?_ (by simpa using h1) (by simpa using h2) (.ref _ _ _ _ _ (nextVer t d) (.box w.heap.size (valAVs z).length) (by simp [upd]) (Nat.le_refl _) (fun _ => rfl))
    simp [Instr.alloc, run_zeroValue hz, newVar, newRow]
  · exact Good.stuck

def abox (d : Option Nat) (ty : TypeId) (x : AV) (t : Tab) : AR :=
  match d with
  | some d => .need (allOk t x.cells) (.ok (.ref d (nextVer t d) 0) (t.put d (nextVer t d) (.cells ty x.cells)))
  | none => .stuck
theorem good_abox (d : Option Nat) (ty : TypeId) (X : AV) (u : Value) (hH : RelH C w cur t) (hX : RelV w (okB C w cur) cur X u) : Good P C w cur (do pure (.value (← Instr.box ty u))) (abox d ty X t) := by
  unfold abox
  split
  · rename_i d
    refine Good.need fun hc => ?_
    obtain ⟨q1, q2, q3⟩ := rel_cells hH hX hc
    obtain ⟨h1, h2⟩ := new_box (d := d) (ty := ty) (cs := X.cells) (us := u.cells.toList) hH (by simpa using q1) (fun j y v h3 h4 => q3 j y v h3 (by simpa using h4))
    refine Good.val (v := .pointer (some ⟨w.heap.size, 0, none⟩)) (cur' := upd cur d (nextVer t d) (.box w.heap.size X.cells.length)) (w' := w.alloc (.cells u.cells ty)) ?_ (by simpa using h1) (by simpa using h2) (.ref _ _ _ _ _ (nextVer t d) (.box w.heap.size X.cells.length) (by simp [upd]) (Nat.le_refl _) (fun _ => rfl))
    simp [Instr.box, newVar, newRow]
  · exact Good.stuck

/-! ### Structs and rows, filled -/
def afill (place : Nat → Option (Nat × Nat)) (t : Tab) : List AV → List (Nat × AV) → Option (List AV) × Prop
  | cs, [] => (some cs, True)
  | cs, (i, x) :: r => match place i with
    | none => (none, False)
    | some (o, n) => ((afill place t (setCells cs o x.cells) r).1, x.cells.length = n ∧ o + n ≤ cs.length ∧ allOk t x.cells ∧ (afill place t (setCells cs o x.cells) r).2)
theorem overA_fold : ∀ (vs : List Value) (c : Array Value) (o k : Nat), ((vs.zipIdx k).foldl (fun (cs : Array Value) (x : Value × Nat) => cs.setIfInBounds (o + x.2) x.1) c) = overA c (o + k) vs
  | [], c, o, k => rfl
  | v :: r, c, o, k => by
    simp only [List.zipIdx_cons, List.foldl_cons, overA]
    rw [overA_fold r _ o (k + 1), Nat.add_assoc]
theorem fill_rel {ok : Nat → Prop} (place : Nat → Option (Nat × Nat)) (hH : RelH C w cur t) : ∀ (parts : List (Nat × AV)) (vals : List (Nat × Value)) (cs : List AV) (c : Array Value) (out : List AV),
    vals.length = parts.length → (∀ (k : Nat) (p : Nat × AV) (q : Nat × Value), parts[k]? = some p → vals[k]? = some q → q.1 = p.1 ∧ RelV w ok cur p.2 q.2) →
    c.size = cs.length → (∀ (j : Nat) (y : AV) (u : Value), cs[j]? = some y → c[j]? = some u → RelV w ok cur y u) →
    (afill place t cs parts).1 = some out → (afill place t cs parts).2 → ∃ c', Instr.fill place c vals = some c' ∧ c'.size = out.length ∧ ∀ (j : Nat) (y : AV) (u : Value), out[j]? = some y → c'[j]? = some u → RelV w ok cur y u := by
  intro parts
  induction parts with
  | nil =>
    intro vals cs c out hl hv hs hr ho _
    have : vals = [] := List.eq_nil_of_length_eq_zero hl
    subst this
    simp only [afill, Option.some.injEq] at ho
    subst ho
    exact ⟨c, rfl, hs, hr⟩
  | cons p parts ih =>
    intro vals cs c out hl hv hs hr ho hp
    cases vals with
    | nil => simp at hl
    | cons q vals =>
      obtain ⟨i, x⟩ := p
      obtain ⟨i', u⟩ := q
      obtain ⟨e, hxu⟩ := hv 0 _ _ rfl rfl
      simp only at e hxu
      subst e
      simp only [afill] at ho hp
      cases hpl : place i' with
      | none => rw [hpl] at ho; cases ho
      | some on =>
        obtain ⟨o, n⟩ := on
        rw [hpl] at ho hp
        simp only at ho hp
        obtain ⟨h1, h2, h3, h4⟩ := hp
        obtain ⟨q1, q2, q3⟩ := rel_cells hH hxu h3
        simp only [Instr.fill, hpl]
        rw [if_neg (by simp [q1, h1]; omega)]
        have hfold : (u.cells.zipIdx.foldl (fun (cs : Array Value) (x : Value × Nat) => cs.setIfInBounds (o + x.2) x.1) c) = overA c o u.cells.toList := by
          have := overA_fold u.cells.toList c o 0
          rw [Nat.add_zero] at this
          rw [← this, ← Array.foldl_toList]
          simp
        have hih := ih vals (setCells cs o x.cells) (overA c o u.cells.toList) out (by simpa using hl) (fun k p q hk1 hk2 => hv (k + 1) p q (by simpa using hk1) (by simpa using hk2))
          (by rw [overA_size, setCells_length _ _ _ (by omega)]; exact hs) (fun j y v hy hu => by
            rw [setCells_get _ _ _ _ (by omega)] at hy
            rw [overA_get _ _ _ _ (by simp only [Array.length_toList, q1]; omega)] at hu
            simp only [Array.length_toList, q1] at hu
            split at hy
            · rename_i hj
              rw [if_pos hj] at hu
              exact q3 (j - o) y v hy (by simpa using hu)
            · rename_i hj
              rw [if_neg hj] at hu
              exact hr j y v hy hu) ho h4
        obtain ⟨c', hc', hrest⟩ := hih
        exact ⟨c', by rw [← hc']; congr 1, hrest⟩

def structPlaces (P : Program) (fs : Array Field) (i : Nat) : Option (Nat × Nat) := (fs[i]?).map fun f => (f.offset, sizeT P f.type)
/-- A struct's value, of its parts. -/
def abuild (P : Program) (ty : TypeId) (parts : List (Nat × AV)) (t : Tab) : AR :=
  match P.underlying ty, zeroV P ty with
  | some (.struct fs), some z => .need (fs.all (fun f => known P f.type) = true) (match afill (structPlaces P fs) t (valAVs z) parts with
    | (some cs, p) => .need p (.ok (.agg cs) t)
    | (none, _) => .stuck)
  | some (.array _ e), some z => .need (known P e = true) (match afill (fun i => some (i * sizeT P e, sizeT P e)) t (valAVs z) parts with
    | (some cs, p) => .need p (.ok (.agg cs) t)
    | (none, _) => .stuck)
  | _, _ => .stuck
theorem run_places (fs : Array Field) (h : fs.all (fun f => known P f.type) = true) (w : World) : (fs.mapM fun f => (do pure (f.offset, ← sizeOf f.type) : Sem (Nat × Nat))).run P w = .ok (fs.map fun f => (f.offset, sizeT P f.type)) w := by
  have hl : ∀ (l : List Field), (∀ f ∈ l, known P f.type = true) → (l.mapM fun f => (do pure (f.offset, ← sizeOf f.type) : Sem (Nat × Nat))).run P w = .ok (l.map fun f => (f.offset, sizeT P f.type)) w := by
    intro l
    induction l with
    | nil => intro _; rfl
    | cons f l ih =>
      intro hk
      simp only [List.mapM_cons, Sem.run_bind, run_sizeOf (hk f (by simp)), Result.andThen_ok, Sem.run_pure, ih (fun g hg => hk g (by simp [hg])), List.map_cons]
  have hh := hl fs.toList (fun f hf => by
    rw [← Array.all_toList] at h
    exact List.all_eq_true.1 h f hf)
  rw [Array.mapM_eq_mapM_toList]
  simp at hh
  simp [hh]
  apply Array.ext'
  simp
theorem fill_size (place : Nat → Option (Nat × Nat)) : ∀ (vals : List (Nat × Value)) (c c' : Array Value), Instr.fill place c vals = some c' → c'.size = c.size := by
  intro vals
  induction vals with
  | nil => intro c c' h; simp [Instr.fill] at h; rw [h]
  | cons q vals ih =>
    intro c c' h
    simp only [Instr.fill] at h
    split at h
    · cases h
    · split at h
      · cases h
      · rw [ih _ _ h, ← Array.foldl_toList]
        have : ∀ (l : List (Value × Nat)) (o : Nat) (c : Array Value), (l.foldl (fun (cs : Array Value) (x : Value × Nat) => cs.setIfInBounds (o + x.2) x.1) c).size = c.size := by
          intro l o
          induction l with
          | nil => intro c; rfl
          | cons a l ih => intro c; simp only [List.foldl_cons]; rw [ih]; simp
        exact this _ _ _
def PartsRel (R : AV → Value → Prop) (parts : List (Nat × AV)) (vals : List (Nat × Value)) : Prop :=
  vals.length = parts.length ∧ ∀ (k : Nat) (p : Nat × AV) (q : Nat × Value), parts[k]? = some p → vals[k]? = some q → q.1 = p.1 ∧ R p.2 q.2
theorem valAVs_at {ok : Nat → Prop} (z : Value) : ∀ (j : Nat) (y : AV) (u : Value), (valAVs z)[j]? = some y → z.cells[j]? = some u → RelV w ok cur y u := by
  intro j y u h1 h2
  exact valAVs_rel z j y u h1 (by simpa using h2)
theorem good_abuild (ty : TypeId) (parts : List (Nat × AV)) (vals : Array (Nat × Value)) (hH : RelH C w cur t) (hp : PartsRel (RelV w (okB C w cur) cur) parts vals.toList) :
    Good P C w cur (do pure (.value (← Instr.build ty vals))) (abuild P ty parts t) := by
  unfold abuild
  split
  · rename_i fs z hu hz
    refine Good.need fun hk => ?_
    split
    · rename_i cs p he
      refine Good.need fun hpp => ?_
      obtain ⟨c', h1, h2, h3⟩ := fill_rel (structPlaces P fs) hH parts vals.toList (valAVs z) z.cells cs hp.1 hp.2 (by simp [valAVs]) (valAVs_at z) (by rw [he]) (by rw [he]; exact hpp)
      have hrun : (Instr.build ty vals).run P w = .ok (.agg c') w := by
        unfold Instr.build
        simp only [Sem.run_bind, run_zeroValue hz, Result.andThen_ok, run_underlying hu, run_places fs hk]
        simp [show (fun (x : Nat) => Option.map (fun f : Field => (f.offset, sizeT P f.type)) fs[x]?) = structPlaces P fs from rfl, h1]
      refine Good.same hH (v := .agg c') (by simp [hrun]) ?_
      have := RelV.agg (w := w) (ok := okB C w cur) cur cs c'.toList (by simp [h2]) (fun j y u hj hu' => h3 j y u hj (by simpa using hu'))
      simpa using this
    · exact Good.stuck
  · rename_i n e z hu hz
    refine Good.need fun hk => ?_
    split
    · rename_i cs p he
      refine Good.need fun hpp => ?_
      obtain ⟨c', h1, h2, h3⟩ := fill_rel (fun i => some (i * sizeT P e, sizeT P e)) hH parts vals.toList (valAVs z) z.cells cs hp.1 hp.2 (by simp [valAVs]) (valAVs_at z) (by rw [he]) (by rw [he]; exact hpp)
      have hrun : (Instr.build ty vals).run P w = .ok (.agg c') w := by
        unfold Instr.build
        simp only [Sem.run_bind, run_zeroValue hz, Result.andThen_ok, run_underlying hu, run_sizeOf hk]
        simp [h1]
      refine Good.same hH (v := .agg c') (by simp [hrun]) ?_
      have := RelV.agg (w := w) (ok := okB C w cur) cur cs c'.toList (by simp [h2]) (fun j y u hj hu' => h3 j y u hj (by simpa using hu'))
      simpa using this
    · exact Good.stuck
  · exact Good.stuck

def chunks (sz n : Nat) (l : List AV) : List (List AV) := (List.range n).map fun i => (l.drop (i * sz)).take sz
theorem chunks_get {sz n : Nat} {l : List AV} {i : Nat} {x : List AV} (h : (chunks sz n l)[i]? = some x) : i < n ∧ x = (l.drop (i * sz)).take sz := by
  unfold chunks at h
  rw [List.getElem?_map] at h
  have hi : i < n := by
    rcases Nat.lt_or_ge i n with h1 | h1
    · exact h1
    · rw [List.getElem?_eq_none (by simpa using h1)] at h; cases h
  rw [List.getElem?_range hi] at h
  simp at h
  exact ⟨hi, h.symm⟩
/-- A slice's literal. -/
def abuildSlice (P : Program) (d : Option Nat) (ty : TypeId) (len : Nat) (parts : List (Nat × AV)) (t : Tab) : AR :=
  match d, P.underlying ty with
  | some d, some (.slice e) => match zeroV P e with
    | some z => .need (known P e = true ∧ 0 < sizeT P e ∧ len * sizeT P e ≤ 16777216 ∧ z.cells.size = sizeT P e) (match afill (fun i => some (i * sizeT P e, sizeT P e)) t ((List.replicate len (valAVs z)).flatten) parts with
      | (some cs, p) => .need p (.ok (.sl d (nextVer t d) 0 len) (t.put d (nextVer t d) (.arr e (sizeT P e) (chunks (sizeT P e) len cs))))
      | (none, _) => .stuck)
    | none => .stuck
  | _, _ => .stuck
theorem flat_zero (z : Value) (len : Nat) (hz : 0 < z.cells.size) : ((Array.range (len * z.cells.size)).map (fun k => z.cells[k % z.cells.size]!)).size = ((List.replicate len (valAVs z)).flatten).length ∧
    ∀ (j : Nat) (y : AV) (u : Value), ((List.replicate len (valAVs z)).flatten)[j]? = some y → ((Array.range (len * z.cells.size)).map (fun k => z.cells[k % z.cells.size]!))[j]? = some u → y = .val u := by
  have hl : (valAVs z).length = z.cells.size := by simp [valAVs]
  have hlen : ((List.replicate len (valAVs z)).flatten).length = len * z.cells.size := by
    rw [List.length_flatten, List.map_replicate, List.sum_replicate_nat, hl]
  have hget : ∀ (n j : Nat), j < n * z.cells.size → ((List.replicate n (valAVs z)).flatten)[j]? = some (.val (z.cells[j % z.cells.size]!)) := by
    intro n
    induction n with
    | zero => intro j hj; simp at hj
    | succ n ih =>
      intro j hj
      rw [List.replicate_succ, List.flatten_cons, List.getElem?_append]
      rw [hl]
      split
      · rename_i hlt
        rw [Nat.mod_eq_of_lt hlt]
        simp [valAVs, hlt]
      · rename_i hge
        have := ih (j - z.cells.size) (by rw [Nat.add_mul, Nat.one_mul] at hj; omega)
        rw [this]
        congr 3
        exact (Nat.mod_eq_sub_mod (by omega)).symm
  refine ⟨by rw [hlen]; simp, fun j y u h1 h2 => ?_⟩
  have hj : j < len * z.cells.size := by rw [← hlen]; exact (List.getElem?_eq_some_iff.1 h1).1
  rw [hget len j hj] at h1
  simp [hj] at h1 h2
  rw [← h1, ← h2]
theorem good_abuildSlice (d : Option Nat) (ty : TypeId) (len : Nat) (parts : List (Nat × AV)) (vals : Array (Nat × Value)) (hH : RelH C w cur t) (hp : PartsRel (RelV w (okB C w cur) cur) parts vals.toList) :
    Good P C w cur (do pure (.value (← Instr.buildSlice ty len vals))) (abuildSlice P d ty len parts t) := by
  unfold abuildSlice
  split
  · rename_i d e hu
    split
    · rename_i z hz
      refine Good.need fun ⟨hk, hsz, hbig, hzs⟩ => ?_
      split
      · rename_i cs p he
        refine Good.need fun hpp => ?_
        have hz0 : 0 < z.cells.size := by omega
        obtain ⟨f1, f2⟩ := flat_zero z len hz0
        obtain ⟨c', h1, h2, h3⟩ := fill_rel (ok := okB C w cur) (fun i => some (i * sizeT P e, sizeT P e)) hH parts vals.toList ((List.replicate len (valAVs z)).flatten) ((Array.range (len * z.cells.size)).map (fun k => z.cells[k % z.cells.size]!)) cs hp.1 hp.2 f1
          (fun j y u hj hju => by rw [f2 j y u hj hju]; exact .val _ _) (by rw [he]) (by rw [he]; exact hpp)
        have hcl : c'.size = len * sizeT P e := by
          rw [fill_size _ _ _ _ h1, hzs]
          simp
        have hclen : cs.length = len * sizeT P e := by rw [← h2]; exact hcl
        have hrun : (Instr.buildSlice ty len vals).run P w = .ok (.slice (some ⟨w.heap.size, 0, none⟩) len len) (w.alloc (.cells c' e)) := by
          have hbig' : ¬ (16777216 < len * sizeT P e) := by omega
          by_cases h0 : len = 0
          · subst h0
            simp only [Nat.zero_mul, Array.range_zero', List.map_toArray, List.map_nil, Array.map_empty] at h1
            simp [Instr.buildSlice, run_underlying hu, run_sizeOf hk, newRow, Array.range_zero', h1]
          · have hne : ¬ sizeT P e = 0 := by omega
            rw [hzs] at h1
            simp [Instr.buildSlice, run_underlying hu, run_sizeOf hk, run_zeroValue hz, hbig', h0, hne, newRow, hzs, h1]
            intro hz'
            exact absurd (Nat.mul_eq_zero.1 hz') (by simp [h0, hne])
        have hch : (chunks (sizeT P e) len cs).length = len := by simp [chunks]
        obtain ⟨g1, g2⟩ := new_arr (d := d) (ty := e) (sz := sizeT P e) (cap := len) (els := chunks (sizeT P e) len cs) (us := c'.toList) hH hsz (fun x hx => by
            obtain ⟨i, hi⟩ := List.mem_iff_getElem?.1 hx
            obtain ⟨hin, rfl⟩ := chunks_get hi
            rw [List.length_take, List.length_drop, hclen]
            have : (i + 1) * sizeT P e ≤ len * sizeT P e := Nat.mul_le_mul_right _ hin
            rw [Nat.add_mul, Nat.one_mul] at this
            omega) (by simpa using hcl) (by rw [hch]; exact Nat.le_refl _) (by have : len * 1 ≤ len * sizeT P e := Nat.mul_le_mul_left _ hsz; omega)
          (fun i x j y hi hy => by
            obtain ⟨hin, rfl⟩ := chunks_get hi
            have hj : j < sizeT P e := by
              have := (List.getElem?_eq_some_iff.1 hy).1
              rw [List.length_take] at this
              omega
            rw [List.getElem?_take, if_pos hj, List.getElem?_drop] at hy
            have hlt : i * sizeT P e + j < c'.size := by rw [h2]; exact (List.getElem?_eq_some_iff.1 hy).1
            exact ⟨c'[i * sizeT P e + j], by simp [hlt], h3 _ y _ hy (by simp [hlt])⟩) (0, 0) (noFreeze_zero _)
        refine Good.val (v := .slice (some ⟨w.heap.size, 0, none⟩) len len) (cur' := upd cur d (nextVer t d) (.arr w.heap.size 0 len len (sizeT P e))) (w' := w.alloc (.cells c' e)) (by simp [hrun]) (by rw [hch] at g1; simpa using g1) (by rw [hch] at g2; simpa using g2)
          (.sl _ _ _ _ _ _ (nextVer t d) (.arr w.heap.size 0 len len (sizeT P e)) (by simp [upd]) (Nat.le_refl _) (fun _ => ⟨by omega, Nat.le_refl _, ⟨w.heap.size, 0, none⟩, by simp, fun _ => by simp⟩))
      · exact Good.stuck
    · exact Good.stuck
  · exact Good.stuck

/-! ### Addresses -/
def afieldAddr (P : Program) (sty : TypeId) (x : AV) (f : Nat) (t : Tab) : AR :=
  match P.underlying sty with
  | some (.struct fs) => match fs[f]? with
    | some fd => .need (known P fd.type = true ∧ sizeT P fd.type ≠ 0) (match x with
      | .ref key ver off => .need (isCurrent t key ver) (.ok (.ref key ver (off + fd.offset)) t)
      | .eref key ver i j => .need (isCurrent t key ver) (.ok (.eref key ver i (j + fd.offset)) t)
      | .iptr cs off => .ok (.iptr cs (off + fd.offset)) t
      | _ => .stuck)
    | none => .stuck
  | _ => .stuck
theorem run_fieldAt {sty : TypeId} {fs : Array Field} {f : Nat} {fd : Field} (hu : P.underlying sty = some (.struct fs)) (hf : fs[f]? = some fd) (hk : known P fd.type = true) (h0 : sizeT P fd.type ≠ 0) (a : Addr) :
    (Instr.fieldAt sty (.pointer (some a)) f).run P w = .ok (.pointer (some (a.add fd.offset))) w := by
  simp [Instr.fieldAt, run_underlying hu, hf, Instr.sureAddr, fieldPlace, run_sizeOf hk, h0]
theorem good_afieldAddr (sty : TypeId) (X : AV) (u : Value) (f : Nat) (hH : RelH C w cur t) (hX : RelV w (okB C w cur) cur X u) : Good P C w cur (do pure (.value (← Instr.fieldAt sty u f))) (afieldAddr P sty X f t) := by
  unfold afieldAddr
  split
  · rename_i fs hu
    split
    · rename_i fd hf
      refine Good.need fun ⟨hk, h0⟩ => ?_
      split
      · rename_i key ver off
        refine Good.need fun h => ?_
        obtain ⟨l, hl, hd⟩ := current_spec hH h
        cases hX with
        | ref _ _ _ _ _ ver' l' h1 hv h2 =>
          rw [hl] at h1; injection h1 with h1; injection h1 with h3 h4; subst h3; subst h4
          have h5 := h2 rfl
          cases l with
          | dead => exact absurd rfl hd
          | nil => exact h5.elim
          | map g => exact h5.elim
          | arr g o cap n sz => exact h5.elim
          | box g n =>
            subst h5
            exact Good.same hH (v := .pointer (some ⟨g, off + fd.offset, none⟩)) (by simp [run_fieldAt hu hf hk h0, addr_add]) (.ref _ _ _ _ _ ver (.box g n) hl (Nat.le_refl _) (fun _ => rfl))
      · rename_i key ver i j
        refine Good.need fun h => ?_
        obtain ⟨l, hl, hd⟩ := current_spec hH h
        cases hX with
        | eref _ _ _ _ _ _ ver' l' h1 hv h2 =>
          rw [hl] at h1; injection h1 with h1; injection h1 with h3 h4; subst h3; subst h4
          have h5 := h2 rfl
          cases l with
          | dead => exact absurd rfl hd
          | nil => exact h5.elim
          | map g => exact h5.elim
          | box g n => exact h5.elim
          | arr g o cap n sz =>
            obtain ⟨hi, rfl⟩ := h5
            exact Good.same hH (v := .pointer (some ⟨g, o + i * sz + (j + fd.offset), none⟩)) (by simp [run_fieldAt hu hf hk h0, addr_add, Nat.add_assoc]) (.eref _ _ _ _ _ _ ver (.arr g o cap n sz) hl (Nat.le_refl _) (fun _ => ⟨hi, rfl⟩))
      · rename_i cs off
        cases hX with
        | iptr _ _ _ a u hb hu' hr =>
          exact Good.same hH (v := .pointer (some (a.add (off + fd.offset)))) (by simp [run_fieldAt hu hf hk h0, add_of_add]) (.iptr _ _ _ a u hb hu' hr)
      · exact Good.stuck
    · exact Good.stuck
  · exact Good.stuck

/-- The elements that a slice reads. -/
def elemsOf (t : Tab) : AV → Option (List (List AV))
  | .imm _ xs => some xs
  | .sl key ver off len => match t.find key with
    | some (v, .arr _ _ els) => if ver = v then some ((els.drop off).take len) else none
    | _ => none
  | .val (.slice none 0 0) => some []
  | _ => none
/-- What stands for a slice. -/
theorem slice_rel {X : AV} {u : Value} {xs : List (List AV)} (hH : RelH C w cur t) (hX : RelV w (okB C w cur) cur X u) (he : elemsOf t X = some xs) :
    ∃ A c, u = .slice A xs.length c ∧ xs.length ≤ c ∧ (xs = [] ∨ ∃ sz, 0 < sz ∧ (∀ x, x ∈ xs → x.length = sz) ∧ ∃ a, A = some a ∧ ∀ (i : Nat) (x : List AV), xs[i]? = some x → At w (RelV w (okB C w cur) cur) (a.add (i * sz)) x) := by
  cases hX with
  | val =>
    unfold elemsOf at he
    split at he
    · rename_i h; cases h
    · rename_i h; cases h
    · rename_i h; injection h with h; subst h; injection he with he; subst he; exact ⟨none, 0, rfl, Nat.le_refl _, .inl rfl⟩
    · cases he
  | imm _ sz xs A c u hc hm hA hl hs hu hr =>
    simp only [elemsOf, Option.some.injEq] at he
    subst he
    refine ⟨A, c, rfl, hc, ?_⟩
    cases xs with
    | nil => exact .inl rfl
    | cons x0 r =>
      obtain ⟨a, ha, _⟩ := hA (by simp)
      refine .inr ⟨sz, hs, hl, a, ha, fun i x hi j y hy => ⟨u i j, ?_, (hr i x j y hi hy).up cur⟩⟩
      rw [add_of_add]
      exact hu a ha i x j y hi hy
  | sl _ key ver off len _ ver' l h1 hv h2 =>
    simp only [elemsOf] at he
    split at he
    · rename_i v ty sz els hf
      split at he
      · rename_i e
        subst e
        injection he with he
        obtain ⟨hs, hx, ⟨hl, h0⟩ | ⟨g, o, cap, c, fr, hl, g1, g2, g3, g4, g5, g6, hA⟩⟩ := at_arr hH hf
        · rw [hl] at h1; injection h1 with h1; injection h1 with h3 h4; subst h3; subst h4
          obtain ⟨_, e2, e3⟩ := h2 rfl
          subst h0
          simp at he
          subst he
          exact ⟨none, 0, e3, Nat.le_refl _, .inl rfl⟩
        · rw [hl] at h1; injection h1 with h1; injection h1 with h3 h4; subst h3; subst h4
          obtain ⟨e1, e2, a, e3, e4⟩ := h2 rfl
          have hxl : xs.length = len := by rw [← he, List.length_take, List.length_drop]; omega
          refine ⟨some a, cap - off, by rw [hxl]; exact e3, by omega, ?_⟩
          by_cases h0 : len = 0
          · exact .inl (List.eq_nil_of_length_eq_zero (by omega))
          · refine .inr ⟨sz, hs, fun x hx' => hx x ?_, a, rfl, fun i x hi => ?_⟩
            · rw [← he] at hx'
              exact List.mem_of_mem_drop (List.mem_of_mem_take hx')
            · have hi' : els[off + i]? = some x := by
                rw [← he, List.getElem?_take] at hi
                split at hi
                · rwa [List.getElem?_drop] at hi
                · cases hi
              rw [e4 (by omega), addr_add]
              have := hA (off + i) x hi'
              rwa [Nat.add_mul, ← Nat.add_assoc] at this
      · cases he
    · cases he
  | ref => cases he
  | eref => cases he
  | mp => cases he
  | iptr => cases he
  | agg => cases he
  | tup => cases he
  | func => cases he
  | iface => cases he
  | poison => cases he

def aindexAddr (P : Program) (ty : TypeId) (x i : AV) (t : Tab) : AR :=
  match i, P.underlying ty with
  | .val (.int _ i), some (.slice e) => match x with
    | .imm sz xs => .need (known P e = true ∧ sizeT P e = sz ∧ 0 ≤ i ∧ i < xs.length) (.ok (.iptr (xs.getD i.toNat []) 0) t)
    | .sl key ver off len => match t.find key with
      | some (v, .arr _ sz _) => .need (ver = v ∧ known P e = true ∧ sizeT P e = sz ∧ 0 ≤ i ∧ i < len) (.ok (.eref key ver (off + i.toNat) 0) t)
      | _ => .stuck
    | _ => .stuck
  | .val (.int _ i), some (.array n e) => match x with
    | .ref key ver off => .need (isCurrent t key ver ∧ known P e = true ∧ 0 ≤ i ∧ i < n) (.ok (.ref key ver (off + i.toNat * sizeT P e)) t)
    | .eref key ver k j => .need (isCurrent t key ver ∧ known P e = true ∧ 0 ≤ i ∧ i < n) (.ok (.eref key ver k (j + i.toNat * sizeT P e)) t)
    | .iptr cs off => .need (known P e = true ∧ 0 ≤ i ∧ i < n) (.ok (.iptr cs (off + i.toNat * sizeT P e)) t)
    | _ => .stuck
  | _, _ => .stuck
theorem run_indexAt_sl {ty e : TypeId} {a : Addr} {len cap : Nat} {k : IntKind} {i : Int} (hu : P.underlying ty = some (.slice e)) (hk : known P e = true) (h0 : 0 ≤ i) (h1 : i < len) :
    (Instr.indexAt ty (.slice (some a) len cap) (.int k i)).run P w = .ok (.pointer (some (a.add (i.toNat * sizeT P e)))) w := by
  simp [Instr.indexAt, run_underlying hu, asIntOf, h0, h1, run_sizeOf hk]
theorem run_indexAt_ar {ty e : TypeId} {a : Addr} {n : Nat} {k : IntKind} {i : Int} (hu : P.underlying ty = some (.array n e)) (hk : known P e = true) (h0 : 0 ≤ i) (h1 : i < n) :
    (Instr.indexAt ty (.pointer (some a)) (.int k i)).run P w = .ok (.pointer (some (a.add (i.toNat * sizeT P e)))) w := by
  simp [Instr.indexAt, run_underlying hu, asIntOf, Instr.sureAddr, h0, h1, run_sizeOf hk]
theorem good_aindexAddr (ty : TypeId) (X I : AV) (u i : Value) (hH : RelH C w cur t) (hX : RelV w (okB C w cur) cur X u) (hI : RelV w (okB C w cur) cur I i) : Good P C w cur (do pure (.value (← Instr.indexAt ty u i))) (aindexAddr P ty X I t) := by
  unfold aindexAddr
  split
  · rename_i k n e hu
    cases hI
    split
    · rename_i sz xs
      refine Good.need fun ⟨hk, hsz, h0, h1⟩ => ?_
      cases hX with
      | imm _ _ _ A c u hc hm hA hl hs hu' hr =>
        have hlt : n.toNat < xs.length := by omega
        obtain ⟨a, ha, hb⟩ := hA (by omega)
        subst ha
        have hg : xs[n.toNat]? = some xs[n.toNat] := List.getElem?_eq_getElem hlt
        have hgd : xs.getD n.toNat [] = xs[n.toNat] := by simp [List.getD, hg]
        rw [hgd]
        refine Good.same hH (v := .pointer (some ((a.add (n.toNat * sz)).add 0))) ?_ (.iptr _ _ _ (a.add (n.toNat * sz)) (u n.toNat) (by rw [block_of_add]; exact hb) (fun j y hy => by rw [add_of_add]; exact hu' a rfl _ _ j y hg hy) (fun j y hy => hr _ _ j y hg hy))
        rw [show ((a.add (n.toNat * sz)).add 0) = a.add (n.toNat * sz) by simp [Addr.add]]
        simp [run_indexAt_sl hu hk h0 h1, hsz]
    · rename_i key ver off len
      split
      · rename_i v ty' sz els hf
        refine Good.need fun ⟨e1, hk, hsz, h0, h1⟩ => ?_
        subst e1
        obtain ⟨hs, hx, ⟨hl, e0⟩ | ⟨g, o, cap, c, fr, hl, g1, g2, g3, g4, g5, g6, hA⟩⟩ := at_arr hH hf
        · cases hX with
          | sl _ _ _ _ _ _ ver' l q1 hv q2 =>
            rw [hl] at q1; injection q1 with q1; injection q1 with h3 h4; subst h3; subst h4
            obtain ⟨_, e2, _⟩ := q2 rfl
            omega
        · cases hX with
          | sl _ _ _ _ _ _ ver' l q1 hv q2 =>
            rw [hl] at q1; injection q1 with q1; injection q1 with h3 h4; subst h3; subst h4
            obtain ⟨e1, e2, a, rfl, e4⟩ := q2 rfl
            refine Good.same hH (v := .pointer (some ⟨g, o + (off + n.toNat) * sz + 0, none⟩)) ?_ (.eref _ _ _ _ _ _ ver (.arr g o cap els.length sz) hl (Nat.le_refl _) (fun _ => ⟨by omega, rfl⟩))
            rw [e4 (by omega)]
            simp [run_indexAt_sl hu hk h0 h1, hsz, addr_add, Nat.add_mul, Nat.add_assoc]
      · exact Good.stuck
    · exact Good.stuck
  · rename_i k n m e hu
    cases hI
    split
    · rename_i key ver off
      refine Good.need fun ⟨h, hk, h0, h1⟩ => ?_
      obtain ⟨l, hl, hd⟩ := current_spec hH h
      cases hX with
      | ref _ _ _ _ _ ver' l' q1 hv q2 =>
        rw [hl] at q1; injection q1 with q1; injection q1 with h3 h4; subst h3; subst h4
        have h5 := q2 rfl
        cases l with
        | dead => exact absurd rfl hd
        | nil => exact h5.elim
        | map g => exact h5.elim
        | arr g o cap n sz => exact h5.elim
        | box g n' =>
          subst h5
          exact Good.same hH (v := .pointer (some ⟨g, off + n.toNat * sizeT P e, none⟩)) (by simp [run_indexAt_ar hu hk h0 h1, addr_add]) (.ref _ _ _ _ _ ver (.box g n') hl (Nat.le_refl _) (fun _ => rfl))
    · rename_i key ver k' j
      refine Good.need fun ⟨h, hk, h0, h1⟩ => ?_
      obtain ⟨l, hl, hd⟩ := current_spec hH h
      cases hX with
      | eref _ _ _ _ _ _ ver' l' q1 hv q2 =>
        rw [hl] at q1; injection q1 with q1; injection q1 with h3 h4; subst h3; subst h4
        have h5 := q2 rfl
        cases l with
        | dead => exact absurd rfl hd
        | nil => exact h5.elim
        | map g => exact h5.elim
        | box g n => exact h5.elim
        | arr g o cap n' sz =>
          obtain ⟨hi, rfl⟩ := h5
          exact Good.same hH (v := .pointer (some ⟨g, o + k' * sz + (j + n.toNat * sizeT P e), none⟩)) (by simp [run_indexAt_ar hu hk h0 h1, addr_add, Nat.add_assoc]) (.eref _ _ _ _ _ _ ver (.arr g o cap n' sz) hl (Nat.le_refl _) (fun _ => ⟨hi, rfl⟩))
    · rename_i cs off
      refine Good.need fun ⟨hk, h0, h1⟩ => ?_
      cases hX with
      | iptr _ _ _ a u hb hu' hr =>
        exact Good.same hH (v := .pointer (some (a.add (off + n.toNat * sizeT P e)))) (by simp [run_indexAt_ar hu hk h0 h1, add_of_add]) (.iptr _ _ _ a u hb hu' hr)
    · exact Good.stuck
  · exact Good.stuck
end
end Go.Proofs.Ytoblmpfcjeammaa.V
