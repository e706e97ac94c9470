/-
  append, make, copy, conversions between strings and bytes: what they do to the abstract memory, and that Go's do the same. Conditions: none; plain definitions and lemmas, over any program.
-/
import Derived.Test.YtoblmpfcjeammaaVe
set_option linter.unusedVariables false
set_option linter.unusedSimpArgs false
namespace Go.Proofs.Ytoblmpfcjeammaa.V
open Go.RowKit
section
variable {P : Program} {C : Ctx} {w : World} {cur : Cur} {t : Tab}

/-! ### What is appended -/
def bC (b : UInt8) : List AV := [.val (.int .u8 b.toNat)]
def bCs (s : ByteArray) : List (List AV) := s.data.toList.map bC
/-- The source of an append or a copy: so many elements, their cells. -/
structure Src (P : Program) (w : World) (size : Nat) (xty : TypeId) (x : Value) (m : Nat) (nv : List Value) : Prop where
  len : ∀ w', (Builtin.lenOf x).run P w' = .ok m w'
  first : (Builtin.firstCells size m x).run P w = .ok nv.toArray w
  firstD : (Builtin.firstCells size m x).run P w.drew = .ok nv.toArray w.drew
  ty : P.underlying xty = some .string ∨ ∃ e', P.underlying xty = some (.slice e')
  size : nv.length = m * size
theorem flat_exists {R : AV → Value → Prop} (sz : Nat) (f : Nat → Nat → Option Value) : ∀ (xs : List (List AV)) (i0 : Nat), (∀ x, x ∈ xs → x.length = sz) → (∀ (i : Nat) (x : List AV) (j : Nat) (y : AV), xs[i]? = some x → x[j]? = some y → ∃ u, f (i0 + i) j = some u ∧ R y u) →
    ∃ nv : List Value, nv.length = xs.length * sz ∧ (∀ (i j : Nat) (u : Value), i < xs.length → j < sz → nv[i * sz + j]? = some u → f (i0 + i) j = some u) ∧ ∀ (i : Nat) (x : List AV) (j : Nat) (y : AV), xs[i]? = some x → x[j]? = some y → ∃ u, nv[i * sz + j]? = some u ∧ R y u
  | [], i0, _, _ => ⟨[], by simp, fun i j u h => by simp at h, fun i x j y h => by simp at h⟩
  | x0 :: xs, i0, hl, h => by
    obtain ⟨nv, h1, h2, h3⟩ := flat_exists sz f xs (i0 + 1) (fun x hx => hl x (by simp [hx])) (fun i x j y hi hy => by
      have := h (i + 1) x j y (by simpa using hi) hy
      rwa [show i0 + (i + 1) = i0 + 1 + i by omega] at this)
    have hx0 : x0.length = sz := hl x0 (by simp)
    obtain ⟨us, hul, hu⟩ := exists_list (R := fun (p : AV × Nat) (u : Value) => f i0 p.2 = some u ∧ R p.1 u) x0.zipIdx (fun j p hp => by
      rw [List.getElem?_zipIdx] at hp
      cases hj : x0[j]? with
      | none => rw [hj] at hp; simp at hp
      | some y =>
        rw [hj] at hp
        simp at hp
        subst hp
        have := h 0 x0 j y rfl hj
        simpa using this)
    have hulen : us.length = sz := by rw [hul]; simp [hx0]
    refine ⟨us ++ nv, by simp [hulen, h1, Nat.add_mul]; omega, fun i j u hi hj hu' => ?_, fun i x j y hi hy => ?_⟩
    · cases i with
      | zero =>
        rw [Nat.zero_mul, Nat.zero_add, List.getElem?_append_left (by omega)] at hu'
        have hjx : j < x0.length := by omega
        have := hu j (x0[j], j) u (by rw [List.getElem?_zipIdx, List.getElem?_eq_getElem hjx]; simp) hu'
        simpa using this.1
      | succ i =>
        rw [Nat.add_mul, Nat.one_mul, List.getElem?_append_right (by omega), hulen, show i * sz + sz + j - sz = i * sz + j by omega] at hu'
        have := h2 i j u (by simpa using hi) hj hu'
        rwa [show i0 + 1 + i = i0 + (i + 1) by omega] at this
    · cases i with
      | zero =>
        simp at hi
        subst hi
        have hjx : j < x0.length := (List.getElem?_eq_some_iff.1 hy).1
        have hj' : j < us.length := by omega
        refine ⟨us[j], ?_, ?_⟩
        · rw [Nat.zero_mul, Nat.zero_add, List.getElem?_append_left hj']
          exact List.getElem?_eq_getElem hj'
        · have := hu j (y, j) us[j] (by rw [List.getElem?_zipIdx, hy]; simp) (List.getElem?_eq_getElem hj')
          exact this.2
      | succ i =>
        obtain ⟨u, hu1, hu2⟩ := h3 i x j y (by simpa using hi) hy
        refine ⟨u, ?_, hu2⟩
        rw [Nat.add_mul, Nat.one_mul, List.getElem?_append_right (by omega), hulen, show i * sz + sz + j - sz = i * sz + j by omega]
        exact hu1
def newsOf (P : Program) (t : Tab) (xty : TypeId) (x : AV) : Option (List (List AV)) :=
  match P.underlying xty with
  | some .string => match x with
    | .val (.string s) => some (bCs s)
    | _ => none
  | some (.slice _) => elemsOf t x
  | _ => none
def okEls (t : Tab) (sz : Nat) (xs : List (List AV)) : Prop := ∀ x, x ∈ xs → x.length = sz ∧ ∀ y, y ∈ x → cellOk t y
theorem src_rel {xty : TypeId} {X : AV} {u : Value} {xs : List (List AV)} {sz : Nat} (hH : RelH C w cur t) (hX : RelV w (okB C w cur) cur X u) (he : newsOf P t xty X = some xs) (hs : 0 < sz) (hok : okEls t sz xs) :
    ∃ nv, Src P w sz xty u xs.length nv ∧ (∀ v ∈ nv, v.oneCell' = true) ∧ ∀ (i : Nat) (x : List AV) (j : Nat) (y : AV), xs[i]? = some x → x[j]? = some y → ∃ v, nv[i * sz + j]? = some v ∧ RelV w (okB C w cur) cur y v := by
  have ones : ∀ {nv : List Value}, nv.length = xs.length * sz → (∀ (i : Nat) (x : List AV) (j : Nat) (y : AV), xs[i]? = some x → x[j]? = some y → ∃ v, nv[i * sz + j]? = some v ∧ RelV w (okB C w cur) cur y v) → ∀ v ∈ nv, v.oneCell' = true := by
    intro nv hn hr v hv
    obtain ⟨k, hk⟩ := List.mem_iff_getElem?.1 hv
    have hkl : k < xs.length * sz := by rw [← hn]; exact (List.getElem?_eq_some_iff.1 hk).1
    have hi : k / sz < xs.length := (Nat.div_lt_iff_lt_mul hs).2 hkl
    have hj : k % sz < sz := Nat.mod_lt _ hs
    have hxl := (hok xs[k / sz] (List.getElem_mem hi)).1
    obtain ⟨v', h1, h2⟩ := hr (k / sz) xs[k / sz] (k % sz) (xs[k / sz]'hi)[k % sz] (List.getElem?_eq_getElem hi) (List.getElem?_eq_getElem (by omega))
    rw [show k / sz * sz + k % sz = k by rw [Nat.mul_comm]; exact Nat.div_add_mod k sz, hk] at h1
    injection h1 with h1
    subst h1
    exact one_of hH h2 ((hok _ (List.getElem_mem hi)).2 _ (List.getElem_mem _))
  unfold newsOf at he
  split at he
  · rename_i hu
    split at he
    · rename_i s
      injection he with he
      cases hX
      subst he
      have hsz : sz = 1 ∨ s.size = 0 := by
        by_cases h0 : s.size = 0
        · exact .inr h0
        · left
          have hm : bC (s.data.toList[0]'(by simpa using Nat.pos_of_ne_zero h0)) ∈ bCs s := List.mem_map_of_mem (List.getElem_mem _)
          have := (hok _ hm).1
          simpa [bC] using this.symm
      have hlen : (bCs s).length = s.size := by simp [bCs]
      have hrel : ∀ (i : Nat) (x : List AV) (j : Nat) (y : AV), (bCs s)[i]? = some x → x[j]? = some y → ∃ v, ((s.data.map fun b => Value.int .u8 b.toNat).toList)[i * sz + j]? = some v ∧ RelV w (okB C w cur) cur y v := by
        intro i x j y hi hy
        have hil : i < s.size := by rw [← hlen]; exact (List.getElem?_eq_some_iff.1 hi).1
        have h1 : sz = 1 := by rcases hsz with h | h <;> omega
        subst h1
        unfold bCs at hi
        rw [List.getElem?_map, List.getElem?_eq_getElem (by simpa using hil)] at hi
        simp at hi
        subst hi
        cases j with
        | succ j => simp [bC] at hy
        | zero =>
          simp [bC] at hy
          subst hy
          exact ⟨.int .u8 (s.data[i]'(by simpa using hil)).toNat, by simp [hil], .val _ _⟩
      have hsize : ((s.data.map fun b => Value.int .u8 b.toNat).toList).length = (bCs s).length * sz := by
        rw [hlen]
        rcases hsz with h | h
        · subst h; simp
        · rw [h]; simp at h ⊢; exact h
      refine ⟨_, ⟨fun w' => by simp [Builtin.lenOf, hlen], ?_, ?_, .inl hu, hsize⟩, ones hsize hrel, hrel⟩
      · simp [Builtin.firstCells, hlen]
        apply Array.ext'
        simp
      · simp [Builtin.firstCells, hlen]
        apply Array.ext'
        simp
    · cases he
  · rename_i e hu
    obtain ⟨A, c, rfl, hc, h⟩ := slice_rel hH hX he
    rcases h with h0 | ⟨sz', hs', hl', a, rfl, hat⟩
    · subst h0
      refine ⟨[], ⟨fun w' => by simp [Builtin.lenOf], ?_, ?_, .inr ⟨_, hu⟩, by simp⟩, by simp, fun i x j y hi => by simp at hi⟩
      · cases A <;> simp [Builtin.firstCells, loadCells, loadCellsFrom]
      · cases A <;> simp [Builtin.firstCells, loadCells, loadCellsFrom]
    · by_cases hx0 : xs = []
      · subst hx0
        refine ⟨[], ⟨fun w' => by simp [Builtin.lenOf], ?_, ?_, .inr ⟨_, hu⟩, by simp⟩, by simp, fun i x j y hi => by simp at hi⟩
        · simp [Builtin.firstCells, loadCells, loadCellsFrom]
        · simp [Builtin.firstCells, loadCells, loadCellsFrom]
      · have hsz : sz' = sz := by
          cases xs with
          | nil => exact absurd rfl hx0
          | cons x0 r => rw [← hl' x0 (by simp), (hok x0 (by simp)).1]
        subst hsz
        obtain ⟨nv, h1, h2, h3⟩ := flat_exists (R := RelV w (okB C w cur) cur) sz' (fun i j => w.cell? (a.add (i * sz' + j))) xs 0 hl' (fun i x j y hi hy => by
          obtain ⟨u, hu1, hu2⟩ := hat i x hi j y hy
          rw [add_of_add] at hu1
          exact ⟨u, by simpa using hu1, hu2⟩)
        have hcell : ∀ j v, nv[j]? = some v → w.cell? (a.add j) = some v := by
          intro k v hk
          have hkl : k < xs.length * sz' := by rw [← h1]; exact (List.getElem?_eq_some_iff.1 hk).1
          have hi : k / sz' < xs.length := (Nat.div_lt_iff_lt_mul hs).2 hkl
          have e : k / sz' * sz' + k % sz' = k := by rw [Nat.mul_comm]; exact Nat.div_add_mod k sz'
          have := h2 (k / sz') (k % sz') v hi (Nat.mod_lt _ hs) (by rw [e]; exact hk)
          simp only [Nat.zero_add, e] at this
          exact this
        have hf := run_loadCells_list (P := P) w a nv hcell
        have hfd := run_loadCells_list (P := P) w.drew a nv (fun j v hj => hcell j v hj)
        rw [h1] at hf hfd
        refine ⟨nv, ⟨fun w' => by simp [Builtin.lenOf], by simpa [Builtin.firstCells] using hf, by simpa [Builtin.firstCells] using hfd, .inr ⟨_, hu⟩, h1⟩, ones h1 h3, h3⟩
  · cases he

def bytesT (P : Program) (ty : TypeId) : Nat := P.bytesOf ty
theorem info_of {e : TypeId} (hk : known P e = true) : ∃ i, P.info? e = some i ∧ i.size = sizeT P e ∧ i.bytes = bytesT P e ∧ i.zero = zeroV P e := by
  simp only [known, Bool.and_eq_true] at hk
  obtain ⟨i, hi⟩ := Option.isSome_iff_exists.1 hk.1
  exact ⟨i, hi, by simp [sizeT, Program.cellsOf, hi], by simp [bytesT, Program.bytesOf, hi], by simp [zeroV, hi]⟩
theorem run_append_fits {sty xty q e : TypeId} {x : Value} {m : Nat} {nv : List Value} {A : Option Addr} {n cap : Nat} (ht : P.underlying sty = some (.slice e)) (hk : known P e = true) (hS : Src P w (sizeT P e) xty x m nv) (hroom : n + m ≤ cap) :
    (Builtin.append_ #[sty, xty] q #[.slice A n cap, x]).run P w = match A with
      | some a => ((storeCells (a.add (n * sizeT P e)) nv).run P w).andThen fun _ w' => .ok (.slice A (n + m) cap) w'
      | none => .ok (.slice A (n + m) cap) w := by
  obtain ⟨i, hi, hi1, hi2, hi3⟩ := info_of hk
  have hlen := hS.len w
  have hf := hS.first
  rcases hS.ty with hd | ⟨e', hd⟩
  all_goals (cases A <;> simp [Builtin.append_, run_underlying ht, run_underlying hd, sizeOf, typeInfo, hi, hi1, hlen, hroom, hf])
theorem run_append_grows {sty xty q e : TypeId} {x z : Value} {m : Nat} {nv olds : List Value} {A : Option Addr} {n cap : Nat} (ht : P.underlying sty = some (.slice e)) (hk : known P e = true) (hz : zeroV P e = some z) (hS : Src P w (sizeT P e) xty x m nv)
    (hroom : cap < n + m) (ho : (Builtin.firstCells (sizeT P e) n (.slice A n cap)).run P w.drew = .ok olds.toArray w.drew) (hmax : n + m ≤ 4294967296) (hb : (n + m) * bytesT P e ≤ 140737488355328) :
    (Builtin.append_ #[sty, xty] q #[.slice A n cap, x]).run P w =
      .ok (.slice (some ⟨w.heap.size, 0, none⟩) (n + m) (grownCap w (n + m) cap e)) (w.drew.alloc (.cells (olds ++ nv ++ (Builtin.zeroCells z.cells (grownCap w (n + m) cap e - (n + m))).toList).toArray e)) := by
  obtain ⟨i, hi, hi1, hi2, hi3⟩ := info_of hk
  have hlen := hS.len w
  have hf := hS.firstD
  have hn : ¬ (n + m ≤ cap) := by omega
  have h63' : ¬ (9223372036854775807 < ((n : Int) + (m : Int))) := by omega
  have h48' : ¬ (281474976710656 < Builtin.nextslicecap (n + m) cap * i.bytes) := by
    have := growslice_fits hroom hb
    rw [hi2]; omega
  rw [hz] at hi3
  rcases hS.ty with hd | ⟨e', hd⟩
  all_goals
    simp [Builtin.append_, run_underlying ht, run_underlying hd, sizeOf, typeInfo, zeroValue, hi, hi1, hi3, hlen, hn, h63', h48', Question.forced, hf, ho, newRow, grownCap]
    congr 2
    apply Array.ext'
    simp

def aappend (P : Program) (d : Option Nat) (sty xty : TypeId) (s x : AV) (t : Tab) : AR :=
  match P.underlying sty, newsOf P t xty x with
  | some (.slice e), some xs => match zeroV P e with
    | some z => .need (known P e = true ∧ 0 < sizeT P e ∧ z.cells.size = sizeT P e ∧ okEls t (sizeT P e) xs) (match s with
      | .val (.slice none 0 0) => match d with
        | some d => .need (xs.length ≤ 4294967296 ∧ xs.length * bytesT P e ≤ 140737488355328) (.ok (.sl d (nextVer t d) 0 xs.length) (t.put d (nextVer t d) (.arr e (sizeT P e) xs)))
        | none => .stuck
      | .sl key ver off len => match t.find key with
        | some (v, .arr e' sz els) => .need (ver = v ∧ e' = e ∧ sz = sizeT P e ∧ off + len = els.length ∧ len + xs.length ≤ 4294967296 ∧ (len + xs.length) * bytesT P e ≤ 140737488355328)
            (.ok (.sl key (v + 1) 0 (len + xs.length)) (t.put key (v + 1) (.arr e sz (els.drop off ++ xs))))
        | _ => .stuck
      | _ => .stuck)
    | none => .stuck
  | _, _ => .stuck

theorem zeroCells_size (z : Array Value) (n : Nat) : (Builtin.zeroCells z n).size = n * z.size := by simp [Builtin.zeroCells]
theorem grownCap_max (w : World) (need old : Nat) (e : TypeId) (h : need ≤ 4294967296) : grownCap w need old e ≤ 9223372036854775807 := by
  have := grownCap_le_maxLen w need old e (by simp only [maxLen]; omega)
  simpa only [maxLen] using this

/-- What an append that grows comes to. -/
theorem append_new {k v : Nat} {e : TypeId} {sz n m : Nat} {z : Value} {olds nv : List Value} {cap : Nat} {els : List (List AV)} (hH : RelH C w cur t) (hs : 0 < sz) (hz : z.cells.size = sz) (hel : els.length = n + m) (hl : ∀ x, x ∈ els → x.length = sz)
    (ho : olds.length = n * sz) (hn : nv.length = m * sz) (hmax : n + m ≤ 4294967296) (hver : ∀ ver l0, cur k = some (ver, l0) → ver < v)
    (hr : ∀ (i : Nat) (x : List AV) (j : Nat) (y : AV), els[i]? = some x → x[j]? = some y → ∃ u, (olds ++ nv)[i * sz + j]? = some u ∧ RelV w (okB C w cur) cur y u) :
    let w' := w.drew.alloc (.cells (olds ++ nv ++ (Builtin.zeroCells z.cells (grownCap w (n + m) cap e - (n + m))).toList).toArray e)
    let cur' := upd cur k v (.arr w.heap.size 0 (grownCap w (n + m) cap e) (n + m) sz)
    RelH C w' cur' (t.put k v (.arr e sz els)) ∧ Ext C w cur w' cur' ∧ RelV w' (okB C w' cur') cur' (.sl k v 0 (n + m)) (.slice (some ⟨w.heap.size, 0, none⟩) (n + m) (grownCap w (n + m) cap e)) := by
  intro w' cur'
  have hge := grownCap_ge w (n + m) cap e
  have hT : Turn w cur k v (.arr w.heap.size 0 (grownCap w (n + m) cap e) (n + m) sz) w' := by
    refine ⟨rfl, rfl, rfl, by simp [w'], fun b hb _ => Below.heap_alloc w.drew _ b hb, fun b hb => ?_, fun ver l0 hk => ?_⟩
    · injection hb with hb; subst hb
      exact ⟨by simp [w'], .inl (Nat.le_refl _)⟩
    · have := hver ver l0 hk
      exact ⟨by omega, fun h => by omega⟩
  have hx := hT.ext (C := C)
  have hsize : (olds ++ nv ++ (Builtin.zeroCells z.cells (grownCap w (n + m) cap e - (n + m))).toList).length = grownCap w (n + m) cap e * sz := by
    simp only [List.length_append, ho, hn, Array.length_toList, zeroCells_size, hz, ← Nat.add_mul]
    congr 1
    omega
  refine ⟨hH.turn hT ?_, hx, .sl _ _ _ _ _ _ v (.arr w.heap.size 0 (grownCap w (n + m) cap e) (n + m) sz) (by simp [cur', upd]) (Nat.le_refl _) (fun _ => ⟨by omega, hge, ⟨w.heap.size, 0, none⟩, by simp, fun _ => by simp⟩)⟩
  refine ⟨hs, hl, .inr ⟨w.heap.size, 0, grownCap w (n + m) cap e, _, (0, 0), by rw [hel], heap_alloc_new w.drew _, noFreeze_zero _, by simpa using hsize, by omega, grownCap_max w _ _ _ hmax, fun i x j y hi hy => ?_⟩⟩
  obtain ⟨u, h1, h2⟩ := hr i x j y hi hy
  refine ⟨u, ?_, hx.rel h2⟩
  rw [List.getElem?_toArray, Nat.zero_add, List.getElem?_append_left (List.getElem?_eq_some_iff.1 h1).1]
  exact h1

theorem good_aappend (d : Option Nat) (sty xty q : TypeId) (S X : AV) (s x : Value) (hH : RelH C w cur t) (hS : RelV w (okB C w cur) cur S s) (hX : RelV w (okB C w cur) cur X x) :
    Good P C w cur (do pure (.value (← Builtin.append_ #[sty, xty] q #[s, x]))) (aappend P d sty xty S X t) := by
  unfold aappend
  split
  · rename_i e xs ht he
    split
    · rename_i z hz
      refine Good.need fun ⟨hk, hsz, hzs, hok⟩ => ?_
      obtain ⟨nv, hsrc, hone, hrel⟩ := src_rel hH hX he hsz hok
      split
      · split
        · rename_i d
          refine Good.need fun ⟨hm1, hm2⟩ => ?_
          cases hS
          by_cases h0 : xs.length = 0
          · have hx0 : xs = [] := List.eq_nil_of_length_eq_zero h0
            subst hx0
            have hrun := run_append_fits (P := P) (w := w) (q := q) (A := none) (n := 0) (cap := 0) ht hk hsrc (by simp)
            have hT : Turn w cur d (nextVer t d) .nil w := by
              have := turn_new (o := default) (d := d) (l := .nil) hH (fun b hb => by cases hb)
              exact ⟨rfl, rfl, rfl, Nat.le_refl _, fun _ _ _ => rfl, (fun b hb => by cases hb), this.ver⟩
            refine Good.val (v := .slice none 0 0) (by simp [hrun]) (hH.turn hT ⟨hsz, (fun x hx => by cases hx), .inl ⟨rfl, rfl⟩⟩) (hT.ext (C := C)) (.sl _ _ _ _ _ _ (nextVer t d) .nil (by simp [upd]) (Nat.le_refl _) (fun _ => ⟨rfl, rfl, rfl⟩))
          · have hrun := run_append_grows (P := P) (w := w) (q := q) (A := none) (n := 0) (cap := 0) (olds := []) (z := z) ht hk hz hsrc (by omega) (by simp [Builtin.firstCells]) (by omega) (by simpa using hm2)
            obtain ⟨g1, g2, g3⟩ := append_new (k := d) (v := nextVer t d) (e := e) (n := 0) (m := xs.length) (cap := 0) (olds := []) (nv := nv) (els := xs) hH hsz hzs (by simp) (fun x hx => (hok x hx).1) (by simp) hsrc.size (by omega) (fun ver l0 hk0 => by
              have hT := turn_new (o := default) (d := d) (l := .nil) hH (fun b hb => by cases hb)
              have := hT.ver ver l0 hk0
              cases hf : t.find d with
              | none => rw [(hH.dom d).1 hf] at hk0; cases hk0
              | some p =>
                obtain ⟨v1, ob⟩ := p
                obtain ⟨l', hl', _⟩ := (hH.dom d).2 v1 ob hf
                rw [hl'] at hk0; injection hk0 with hk0; injection hk0 with e1 e2
                unfold nextVer
                rw [hf]
                simp [e1]) (fun i x j y hi hy => by simpa using hrel i x j y hi hy)
            simp only [Nat.zero_add] at g1 g2 g3 hrun
            exact Good.val (by simp only [Sem.run_bind, hrun, Result.andThen_ok, Sem.run_pure]) g1 g2 g3
        · exact Good.stuck
      · rename_i key ver off len
        split
        · rename_i v e' sz els hf
          refine Good.need fun ⟨e1, e2, e3, hend, hm1, hm2⟩ => ?_
          subst e1; subst e2; subst e3
          obtain ⟨_, hxl, ⟨hl, h0⟩ | ⟨g, o, cap, c, fr, hl, g1, g2, g3, g4, g5, g6, hA⟩⟩ := at_arr hH hf
          · subst h0
            cases hS with
            | sl _ _ _ _ _ _ ver' l' q1 hv q2 =>
              rw [hl] at q1; injection q1 with q1; injection q1 with h3 h4; subst h3; subst h4
              obtain ⟨rfl, rfl, rfl⟩ := q2 rfl
              by_cases h0 : xs.length = 0
              · have hx0 : xs = [] := List.eq_nil_of_length_eq_zero h0
                subst hx0
                have hrun := run_append_fits (P := P) (w := w) (q := q) (A := none) (n := 0) (cap := 0) ht hk hsrc (by simp)
                have hT : Turn w cur key (ver + 1) .nil w := ⟨rfl, rfl, rfl, Nat.le_refl _, fun _ _ _ => rfl, (fun b hb => by cases hb), fun ver1 l1 hk1 => by
                  rw [hl] at hk1; injection hk1 with hk1; injection hk1 with e1 e2; subst e1; subst e2
                  exact ⟨by omega, fun h => by omega⟩⟩
                refine Good.val (v := .slice none 0 0) (by simp [hrun]) (hH.turn hT ⟨hsz, (fun x hx => by simp at hx), .inl ⟨rfl, rfl⟩⟩) (hT.ext (C := C)) (.sl _ _ _ _ _ _ (ver + 1) .nil (by simp [upd]) (Nat.le_refl _) (fun _ => ⟨rfl, by simp, rfl⟩))
              · have hrun := run_append_grows (P := P) (w := w) (q := q) (A := none) (n := 0) (cap := 0) (olds := []) (z := z) ht hk hz hsrc (by omega) (by simp [Builtin.firstCells]) (by omega) (by simpa using hm2)
                obtain ⟨k1, k2, k3⟩ := append_new (k := key) (v := ver + 1) (e := e') (n := 0) (m := xs.length) (cap := 0) (olds := []) (nv := nv) (els := xs) hH hsz hzs (by simp) (fun x hx => (hok x hx).1) (by simp) hsrc.size (by omega) (fun ver1 l1 hk1 => by
                  rw [hl] at hk1; injection hk1 with hk1; injection hk1 with e1 e2; omega) (fun i x j y hi hy => by simpa using hrel i x j y hi hy)
                simp only [Nat.zero_add] at k1 k2 k3 hrun
                refine Good.val (v := .slice (some ⟨w.heap.size, 0, none⟩) xs.length (grownCap w xs.length 0 e')) (by simp only [Sem.run_bind, hrun, Result.andThen_ok, Sem.run_pure]) ?_ k2 ?_
                · simpa using k1
                · simpa using k3
          · cases hS with
            | sl _ _ _ _ _ _ ver' l' q1 hv q2 =>
              rw [hl] at q1; injection q1 with q1; injection q1 with h3 h4; subst h3; subst h4
              obtain ⟨p1, p2, a, rfl, p4⟩ := q2 rfl
              have hdl : (els.drop off ++ xs).length = len + xs.length := by rw [List.length_append, List.length_drop]; omega
              have hxl' : ∀ x, x ∈ els.drop off ++ xs → x.length = sizeT P e' := by
                intro x hx
                rcases List.mem_append.1 hx with h | h
                · exact hxl x (List.mem_of_mem_drop h)
                · exact (hok x h).1
              have hoff : off ≤ cap := by omega
              by_cases hroom : len + xs.length ≤ cap - off
              · have hrun := run_append_fits (P := P) (w := w) (q := q) (A := some a) (n := len) (cap := cap - off) ht hk hsrc hroom
                have hcsz : c.size = o + off * sizeT P e' + (cap - off) * sizeT P e' := by
                  rw [g3, Nat.add_assoc, ← Nat.add_mul]; congr 2; omega
                have hfit : o + off * sizeT P e' + len * sizeT P e' + nv.length ≤ c.size := by
                  rw [hcsz, hsrc.size, Nat.add_assoc, ← Nat.add_mul]
                  exact Nat.add_le_add_left (Nat.mul_le_mul_right _ hroom) _
                have hst : ∃ w1, (storeCells (a.add (len * sizeT P e')) nv).run P w = .ok () w1 ∧ w1.heap[g]? = some (.cells (overA c (o + off * sizeT P e' + len * sizeT P e') nv) e' fr) ∧ w1.os = w.os ∧ w1.tape = w.tape ∧ w1.output = w.output ∧ w1.heap.size = w.heap.size ∧ ∀ b, b ≠ g → w1.heap[b]? = w.heap[b]? := by
                  cases hnv : nv with
                  | nil => exact ⟨w, rfl, by simpa [overA] using g1, rfl, rfl, rfl, rfl, fun _ _ => rfl⟩
                  | cons v0 r0 =>
                    rw [← hnv]
                    have hm0 : 0 < xs.length := by
                      rcases Nat.eq_zero_or_pos xs.length with h | h
                      · have := hsrc.size; rw [h, hnv] at this; simp at this
                      · exact h
                    rw [p4 (by omega), addr_add]
                    have := run_storeCells_cells (P := P) g (o + off * sizeT P e' + len * sizeT P e') nv 0 w (fun j hj => by
                      simp [World.cell?, g1, show o + off * sizeT P e' + len * sizeT P e' + j < c.size from by omega]) (fun j hj => by
                      have hn := g2 (o + off * sizeT P e' + len * sizeT P e' + j) (by omega)
                      obtain ⟨lo, hi⟩ := fr
                      simp only [World.frozen?, g1, Nat.add_zero]
                      simp at hn ⊢
                      exact hn) hone
                    obtain ⟨s1, s2, s3, s4⟩ := setCells_same g nv (o + off * sizeT P e' + len * sizeT P e') w
                    exact ⟨_, by simpa using this, setCells_heap g e' fr _ _ _ _ g1, s1, s2, s3, s4, fun b hb => setCells_far g _ _ _ _ hb⟩
                obtain ⟨w1, hw1, hh1, s1, s2, s3, s4, s5⟩ := hst
                have hT : Turn w cur key (ver + 1) (.arr g (o + off * sizeT P e') (cap - off) (len + xs.length) (sizeT P e')) w1 := by
                  refine ⟨s1, s2, s3, by omega, fun b hb hne => s5 b (fun e => hne _ _ hl (by rw [e]; rfl)), fun b hb => ?_, fun ver1 l1 hk1 => ?_⟩
                  · injection hb with hb; subst hb
                    exact ⟨by rw [s4]; exact (Array.getElem?_eq_some_iff.1 g1).1, .inr ⟨_, _, hl, rfl⟩⟩
                  · rw [hl] at hk1; injection hk1 with hk1; injection hk1 with e1 e2
                    exact ⟨by omega, fun h => by omega⟩
                have hx := hT.ext (C := C)
                refine Good.val (v := .slice (some a) (len + xs.length) (cap - off)) (by simp only [Sem.run_bind, hrun, hw1, Result.andThen_ok, Sem.run_pure]) (hH.turn hT ?_) hx
                  (.sl _ _ _ _ _ _ (ver + 1) (.arr g (o + off * sizeT P e') (cap - off) (len + xs.length) (sizeT P e')) (by simp [upd]) (Nat.le_refl _) (fun _ => ⟨by omega, hroom, a, by simp, fun h => by rw [p4 (by omega)]; simp⟩))
                refine ⟨hsz, hxl', .inr ⟨g, o + off * sizeT P e', cap - off, _, fr, by rw [hdl], hh1, by rw [overA_size]; exact g2, by rw [overA_size]; exact hcsz, by omega, by omega, fun i x j y hi hy => ?_⟩⟩
                have hjs : j < sizeT P e' := by
                  have h1 := hxl' x (List.mem_of_getElem? hi)
                  have := (List.getElem?_eq_some_iff.1 hy).1
                  omega
                rw [overA_get _ _ _ _ hfit]
                rw [List.getElem?_append, List.length_drop] at hi
                split at hi
                · rename_i hlt
                  rw [List.getElem?_drop] at hi
                  obtain ⟨u', hu', hr'⟩ := g6 (off + i) x j y hi hy
                  refine ⟨u', ?_, hx.rel hr'⟩
                  have hle : (i + 1) * sizeT P e' ≤ len * sizeT P e' := Nat.mul_le_mul_right _ (by omega)
                  rw [Nat.add_mul, Nat.one_mul] at hle
                  rw [if_neg (by omega)]
                  rw [Nat.add_mul] at hu'
                  rw [← hu']
                  congr 1
                  omega
                · rename_i hge
                  obtain ⟨u', hu', hr'⟩ := hrel (i - (els.length - off)) x j y hi hy
                  refine ⟨u', ?_, hx.rel hr'⟩
                  have e5 : els.length - off = len := by omega
                  rw [e5] at hu'
                  have hlt := (List.getElem?_eq_some_iff.1 hu').1
                  have e6 : i * sizeT P e' = len * sizeT P e' + (i - len) * sizeT P e' := by rw [← Nat.add_mul]; congr 1; omega
                  rw [if_pos (by omega)]
                  rw [← hu']
                  congr 1
                  omega
              · have hold : ∃ olds : List Value, olds.length = len * sizeT P e' ∧ (∀ j v, olds[j]? = some v → w.cell? (a.add j) = some v) ∧ ∀ (i : Nat) (x : List AV) (j : Nat) (y : AV), (els.drop off)[i]? = some x → x[j]? = some y → ∃ u, olds[i * sizeT P e' + j]? = some u ∧ RelV w (okB C w cur) cur y u := by
                  by_cases hlen0 : len = 0
                  · refine ⟨[], by simp [hlen0], fun j v h => by simp at h, fun i x j y hi => ?_⟩
                    have := (List.getElem?_eq_some_iff.1 hi).1
                    rw [List.length_drop] at this
                    omega
                  · have ha : a = ⟨g, o + off * sizeT P e', none⟩ := p4 (by omega)
                    obtain ⟨olds, f1, f2, f3⟩ := flat_exists (R := RelV w (okB C w cur) cur) (sizeT P e') (fun i j => c[o + off * sizeT P e' + (i * sizeT P e' + j)]?) (els.drop off) 0 (fun x hx => hxl x (List.mem_of_mem_drop hx)) (fun i x j y hi hy => by
                      rw [List.getElem?_drop] at hi
                      obtain ⟨u, hu, hr⟩ := g6 (off + i) x j y hi hy
                      refine ⟨u, ?_, hr⟩
                      have e8 : (off + i) * sizeT P e' = off * sizeT P e' + i * sizeT P e' := Nat.add_mul _ _ _
                      rw [← hu, Nat.zero_add]
                      congr 1
                      omega)
                    have hdlen : (els.drop off).length = len := by rw [List.length_drop]; omega
                    rw [hdlen] at f1 f2
                    refine ⟨olds, f1, fun k v hk' => ?_, f3⟩
                    have hkl : k < len * sizeT P e' := by rw [← f1]; exact (List.getElem?_eq_some_iff.1 hk').1
                    have hi : k / sizeT P e' < len := (Nat.div_lt_iff_lt_mul hsz).2 hkl
                    have e7 : k / sizeT P e' * sizeT P e' + k % sizeT P e' = k := by rw [Nat.mul_comm]; exact Nat.div_add_mod k _
                    have h7 := f2 (k / sizeT P e') (k % sizeT P e') v hi (Nat.mod_lt _ hsz) (by rw [e7]; exact hk')
                    simp only [Nat.zero_add, e7] at h7
                    rw [ha, addr_add]
                    simp [World.cell?, g1, h7]
                obtain ⟨olds, f1, f2, f3⟩ := hold
                have hfo := run_loadCells_list (P := P) w.drew a olds (fun j v hj => f2 j v hj)
                rw [f1] at hfo
                have hrun := run_append_grows (P := P) (w := w) (q := q) (A := some a) (n := len) (cap := cap - off) (olds := olds) (z := z) ht hk hz hsrc (by omega) (by simpa [Builtin.firstCells] using hfo) hm1 hm2
                obtain ⟨k1, k2, k3⟩ := append_new (k := key) (v := ver + 1) (e := e') (n := len) (m := xs.length) (cap := cap - off) (olds := olds) (nv := nv) (els := els.drop off ++ xs) hH hsz hzs hdl hxl' f1 hsrc.size hm1 (fun ver1 l1 hk1 => by
                  rw [hl] at hk1; injection hk1 with hk1; injection hk1 with e1 e2; omega) (fun i x j y hi hy => by
                    have hjs : j < sizeT P e' := by
                      have h1 := hxl' x (List.mem_of_getElem? hi)
                      have := (List.getElem?_eq_some_iff.1 hy).1
                      omega
                    rw [List.getElem?_append, List.length_drop] at hi
                    split at hi
                    · obtain ⟨u', hu', hr'⟩ := f3 i x j y hi hy
                      refine ⟨u', ?_, hr'⟩
                      rw [List.getElem?_append_left (List.getElem?_eq_some_iff.1 hu').1]
                      exact hu'
                    · rename_i hge
                      obtain ⟨u', hu', hr'⟩ := hrel (i - (els.length - off)) x j y hi hy
                      refine ⟨u', ?_, hr'⟩
                      have e5 : els.length - off = len := by omega
                      rw [e5] at hu'
                      have e6 : i * sizeT P e' = len * sizeT P e' + (i - len) * sizeT P e' := by rw [← Nat.add_mul]; congr 1; omega
                      rw [List.getElem?_append_right (by omega), f1, ← hu']
                      congr 1
                      omega)
                exact Good.val (by simp only [Sem.run_bind, hrun, Result.andThen_ok, Sem.run_pure]) k1 k2 k3
        · exact Good.stuck
      · exact Good.stuck
    · exact Good.stuck
  · exact Good.stuck
end
end Go.Proofs.Ytoblmpfcjeammaa.V
