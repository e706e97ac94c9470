/-
  An abstract memory for the walks of this claim: values as trees, objects by keys, and how they stand for Go's values and blocks. Conditions: none; plain definitions and lemmas, over any program.
-/
import Derived.WalkKit
import Derived.Below
import Derived.OwnWalk
set_option linter.unusedVariables false
set_option linter.unusedSimpArgs false
namespace Go.Proofs.Ytoblmpfcjeammaa.V
open Go.RowKit

/-- Abstract values. -/
inductive AV where
  | val (v : Value)
  | imm (sz : Nat) (xs : List (List AV))
  | sl (key ver off len : Nat)
  | ref (key ver off : Nat)
  | eref (key ver i j : Nat)
  | mp (key ver : Nat)
  | iptr (cs : List AV) (off : Nat)
  | agg (cs : List AV)
  | tup (vs : List AV)
  | func (fn : Fn) (captured : List AV)
  | iface (t : TypeId) (x : AV)
  | poison
  deriving Inhabited

/-- Abstract objects. -/
inductive AObj where
  | cells (t : TypeId) (cs : List AV)
  | arr (t : TypeId) (sz : Nat) (els : List (List AV))
  | map (es : List (Value × AV))
  | dead
  deriving Inhabited

/-- Where an object lies. -/
inductive Loc where
  | dead
  | nil
  | box (g n : Nat)
  | arr (g o cap n sz : Nat)
  | map (g : Nat)

abbrev Cur := Nat → Option (Nat × Loc)
def noCur : Cur := fun _ => none

def Loc.block : Loc → Option Nat
  | .box g _ => some g
  | .arr g _ _ _ _ => some g
  | .map g => some g
  | _ => none

def Loc.sl : Loc → Nat → Nat → Value → Prop
  | .nil, off, len, v => off = 0 ∧ len = 0 ∧ v = .slice none 0 0
  | .arr g o cap n sz, off, len, v => off + len ≤ n ∧ n ≤ cap ∧ ∃ a, v = .slice (some a) len (cap - off) ∧ (off < cap → a = ⟨g, o + off * sz, none⟩)
  | .box _ _, _, _, _ => False
  | .map _, _, _, _ => False
  | .dead, _, _, _ => True
def Loc.ref : Loc → Nat → Value → Prop
  | .box g _, off, v => v = .pointer (some ⟨g, off, none⟩)
  | .dead, _, _ => True
  | _, _, _ => False
def Loc.eref : Loc → Nat → Nat → Value → Prop
  | .arr g o _ n sz, i, j, v => i < n ∧ v = .pointer (some ⟨g, o + i * sz + j, none⟩)
  | .dead, _, _, _ => True
  | _, _, _, _ => False
def Loc.mp : Loc → Value → Prop
  | .map g, v => v = .map (some g)
  | .dead, _ => True
  | _, _ => False

/-- What an abstract value stands for. What is read alone holds no object. -/
inductive RelV (w : World) (ok : Nat → Prop) : Cur → AV → Value → Prop
  | val (cur : Cur) (v : Value) : RelV w ok cur (.val v) v
  | imm (cur : Cur) (sz : Nat) (xs : List (List AV)) (A : Option Addr) (c : Nat) (u : Nat → Nat → Value) (hc : xs.length ≤ c) (hm : c ≤ 9223372036854775807)
      (hA : 0 < xs.length → ∃ a, A = some a ∧ ok a.block)
      (hl : ∀ x, x ∈ xs → x.length = sz) (hs : 0 < sz)
      (hu : ∀ a, A = some a → ∀ i x j y, xs[i]? = some x → x[j]? = some y → w.cell? (a.add (i * sz + j)) = some (u i j))
      (hr : ∀ i x j y, xs[i]? = some x → x[j]? = some y → RelV w ok noCur y (u i j)) : RelV w ok cur (.imm sz xs) (.slice A xs.length c)
  | sl (cur : Cur) (key ver off len : Nat) (v : Value) (ver' : Nat) (l : Loc) (h : cur key = some (ver', l)) (hv : ver ≤ ver') (hr : ver = ver' → l.sl off len v) : RelV w ok cur (.sl key ver off len) v
  | ref (cur : Cur) (key ver off : Nat) (v : Value) (ver' : Nat) (l : Loc) (h : cur key = some (ver', l)) (hv : ver ≤ ver') (hr : ver = ver' → l.ref off v) : RelV w ok cur (.ref key ver off) v
  | eref (cur : Cur) (key ver i j : Nat) (v : Value) (ver' : Nat) (l : Loc) (h : cur key = some (ver', l)) (hv : ver ≤ ver') (hr : ver = ver' → l.eref i j v) : RelV w ok cur (.eref key ver i j) v
  | mp (cur : Cur) (key ver : Nat) (v : Value) (ver' : Nat) (l : Loc) (h : cur key = some (ver', l)) (hv : ver ≤ ver') (hr : ver = ver' → l.mp v) : RelV w ok cur (.mp key ver) v
  | iptr (cur : Cur) (cs : List AV) (off : Nat) (a : Addr) (u : Nat → Value) (hb : ok a.block) (hu : ∀ j y, cs[j]? = some y → w.cell? (a.add j) = some (u j))
      (hr : ∀ j y, cs[j]? = some y → RelV w ok noCur y (u j)) : RelV w ok cur (.iptr cs off) (.pointer (some (a.add off)))
  | agg (cur : Cur) (cs : List AV) (us : List Value) (hn : us.length = cs.length) (hr : ∀ (j : Nat) (y : AV) (u : Value), cs[j]? = some y → us[j]? = some u → RelV w ok cur y u) : RelV w ok cur (.agg cs) (.agg us.toArray)
  | tup (cur : Cur) (cs : List AV) (us : List Value) (hn : us.length = cs.length) (hr : ∀ (j : Nat) (y : AV) (u : Value), cs[j]? = some y → us[j]? = some u → RelV w ok cur y u) : RelV w ok cur (.tup cs) (.tuple us.toArray)
  | func (cur : Cur) (fn : Fn) (cs : List AV) (us : List Value) (hn : us.length = cs.length) (hr : ∀ (j : Nat) (y : AV) (u : Value), cs[j]? = some y → us[j]? = some u → RelV w ok cur y u) : RelV w ok cur (.func fn cs) (.func fn #[] us.toArray)
  | iface (cur : Cur) (t : TypeId) (x : AV) (v : Value) (hr : RelV w ok cur x v) : RelV w ok cur (.iface t x) (.iface t v)
  | poison (cur : Cur) (v : Value) : RelV w ok cur .poison v

def CurLe (cur cur' : Cur) : Prop := ∀ key ver l, cur key = some (ver, l) → ∃ ver' l', cur' key = some (ver', l') ∧ ver ≤ ver' ∧ (ver = ver' → l' = l ∨ l' = .dead)
theorem CurLe.refl (cur : Cur) : CurLe cur cur := fun key ver l h => ⟨ver, l, h, Nat.le_refl _, fun _ => .inl rfl⟩

theorem block_of_add (a : Addr) (n : Nat) : (a.add n).block = a.block := by unfold Addr.add; split <;> rfl
theorem add_of_add (a : Addr) (i j : Nat) : (a.add i).add j = a.add (i + j) := by
  unfold Addr.add
  by_cases hi : i = 0 <;> by_cases hj : j = 0 <;> simp [hi, hj, Nat.add_assoc]
theorem cell_of_block {w w' : World} {a : Addr} (h : w'.heap[a.block]? = w.heap[a.block]?) : w'.cell? a = w.cell? a := by
  unfold World.cell?
  rw [h]

theorem Loc.sl_dead {l l' : Loc} {off len : Nat} {v : Value} (h : l' = l ∨ l' = .dead) (hl : l.sl off len v) : l'.sl off len v := by
  rcases h with rfl | rfl
  · exact hl
  · trivial
theorem Loc.ref_dead {l l' : Loc} {off : Nat} {v : Value} (h : l' = l ∨ l' = .dead) (hl : l.ref off v) : l'.ref off v := by
  rcases h with rfl | rfl
  · exact hl
  · trivial

theorem Loc.eref_dead {l l' : Loc} {i j : Nat} {v : Value} (h : l' = l ∨ l' = .dead) (hl : l.eref i j v) : l'.eref i j v := by
  rcases h with rfl | rfl
  · exact hl
  · trivial

theorem Loc.mp_dead {l l' : Loc} {v : Value} (h : l' = l ∨ l' = .dead) (hl : l.mp v) : l'.mp v := by
  rcases h with rfl | rfl
  · exact hl
  · trivial

/-- What stood for a value stands for it still, where the blocks that it may read are as they were. -/
theorem RelV.mono {w w' : World} {ok ok' : Nat → Prop} {cur : Cur} (hok : ∀ b, ok b → ok' b ∧ w'.heap[b]? = w.heap[b]?) {av : AV} {v : Value} (h : RelV w ok cur av v) :
    ∀ cur', CurLe cur cur' → RelV w' ok' cur' av v := by
  induction h with
  | val cur v => exact fun cur' _ => .val cur' v
  | imm cur sz xs A c u hc hm hA hl hs hu hr ih =>
    intro cur' _
    refine .imm cur' sz xs A c u hc hm ?_ hl hs ?_ (fun i x j y hx hy => ih i x j y hx hy _ (CurLe.refl _))
    · intro hp
      obtain ⟨a, ha, hb⟩ := hA hp
      exact ⟨a, ha, (hok _ hb).1⟩
    · intro a ha i x j y hx hy
      obtain ⟨a', ha', hb⟩ := hA (by have := (List.getElem?_eq_some_iff.1 hx).1; omega)
      obtain rfl : a = a' := by rw [ha] at ha'; injection ha'
      exact (cell_of_block (w := w) (w' := w') (by rw [block_of_add]; exact (hok _ hb).2)).trans (hu a ha i x j y hx hy)
  | sl cur key ver off len v ver' l h hv hr =>
    intro cur' hcur
    obtain ⟨ver2, l2, h2, hle, heq⟩ := hcur _ _ _ h
    exact .sl cur' key ver off len v ver2 l2 h2 (by omega) (fun e => Loc.sl_dead (heq (by omega)) (hr (by omega)))
  | ref cur key ver off v ver' l h hv hr =>
    intro cur' hcur
    obtain ⟨ver2, l2, h2, hle, heq⟩ := hcur _ _ _ h
    exact .ref cur' key ver off v ver2 l2 h2 (by omega) (fun e => Loc.ref_dead (heq (by omega)) (hr (by omega)))
  | eref cur key ver i j v ver' l h hv hr =>
    intro cur' hcur
    obtain ⟨ver2, l2, h2, hle, heq⟩ := hcur _ _ _ h
    exact .eref cur' key ver i j v ver2 l2 h2 (by omega) (fun e => Loc.eref_dead (heq (by omega)) (hr (by omega)))
  | mp cur key ver v ver' l h hv hr =>
    intro cur' hcur
    obtain ⟨ver2, l2, h2, hle, heq⟩ := hcur _ _ _ h
    exact .mp cur' key ver v ver2 l2 h2 (by omega) (fun e => Loc.mp_dead (heq (by omega)) (hr (by omega)))
  | iptr cur cs off a u hb hu hr ih =>
    intro cur' _
    refine .iptr cur' cs off a u (hok _ hb).1 ?_ (fun j y hy => ih j y hy _ (CurLe.refl _))
    intro j y hy
    exact (cell_of_block (w := w) (w' := w') (by rw [block_of_add]; exact (hok _ hb).2)).trans (hu j y hy)
  | agg cur cs us hn hr ih => exact fun cur' hcur => .agg cur' cs us hn (fun j y u h1 h2 => ih j y u h1 h2 cur' hcur)
  | tup cur cs us hn hr ih => exact fun cur' hcur => .tup cur' cs us hn (fun j y u h1 h2 => ih j y u h1 h2 cur' hcur)
  | func cur fn cs us hn hr ih => exact fun cur' hcur => .func cur' fn cs us hn (fun j y u h1 h2 => ih j y u h1 h2 cur' hcur)
  | iface cur t x v hr ih => exact fun cur' hcur => .iface cur' t x v (ih cur' hcur)
  | poison cur v => exact fun cur' _ => .poison cur' v

/-- Entries. -/
structure Ent where
  key : Nat
  ver : Nat
  obj : AObj
abbrev Tab := List Ent
def Tab.find : Tab → Nat → Option (Nat × AObj)
  | [], _ => none
  | e :: t, k => if e.key = k then some (e.ver, e.obj) else Tab.find t k
/-- An entry put: in its place, by the keys' order. -/
def Tab.put : Tab → Nat → Nat → AObj → Tab
  | [], k, v, o => [⟨k, v, o⟩]
  | e :: t, k, v, o => if e.key = k then ⟨k, v, o⟩ :: t else if Nat.blt k e.key = true then ⟨k, v, o⟩ :: e :: t else e :: Tab.put t k v o
theorem Tab.find_put (t : Tab) (k v : Nat) (o : AObj) (k' : Nat) : (t.put k v o).find k' = if k = k' then some (v, o) else t.find k' := by
  induction t with
  | nil => simp [Tab.put, Tab.find]
  | cons e t ih =>
    unfold Tab.put
    split
    · rename_i h
      simp only [Tab.find]
      by_cases hk : k = k'
      · simp [hk]
      · simp [hk, show ¬ e.key = k' from by omega]
    · split
      · simp only [Tab.find]
      · rename_i h1 h2
        simp only [Tab.find, ih]
        by_cases hk : k = k'
        · subst hk
          simp [h1]
        · simp [hk]

/-- What a call began with: the world, the blocks that it may read, the blocks of the objects handed to it, by their keys. -/
structure Ctx where
  w0 : World
  old : Nat → Prop
  own : Nat → Nat → Prop

def live (cur : Cur) (b : Nat) : Prop := ∃ key ver l, cur key = some (ver, l) ∧ l.block = some b
def okB (C : Ctx) (w : World) (cur : Cur) (b : Nat) : Prop := (C.old b ∨ C.w0.heap.size ≤ b) ∧ b < w.heap.size ∧ ¬ live cur b
def noFreeze (fr : Nat × Nat) (n : Nat) : Prop := ∀ i, i < n → ¬ (fr.1 ≤ i ∧ i < fr.2)

/-- A row of cells in a block. -/
def Row (w : World) (g : Nat) (t : TypeId) (n : Nat) (u : Nat → Value) : Prop := ∃ c fr, w.heap[g]? = some (.cells c t fr) ∧ noFreeze fr c.size ∧ c.size = n ∧ ∀ i, i < n → c[i]? = some (u i)

def RelO (R : AV → Value → Prop) (w : World) : AObj → Loc → Prop
  | .cells t cs, l => ∃ g c fr, l = .box g cs.length ∧ w.heap[g]? = some (.cells c t fr) ∧ noFreeze fr c.size ∧ c.size = cs.length ∧ ∀ (j : Nat) (y : AV), cs[j]? = some y → ∃ u, c[j]? = some u ∧ R y u
  | .arr t sz els, l => 0 < sz ∧ (∀ x, x ∈ els → x.length = sz) ∧ ((l = .nil ∧ els = []) ∨ ∃ g o cap c fr, l = .arr g o cap els.length sz ∧ w.heap[g]? = some (.cells c t fr) ∧ noFreeze fr c.size ∧ c.size = o + cap * sz ∧ els.length ≤ cap ∧ cap ≤ 9223372036854775807 ∧
      ∀ (i : Nat) (x : List AV) (j : Nat) (y : AV), els[i]? = some x → x[j]? = some y → ∃ u, c[o + i * sz + j]? = some u ∧ R y u)
  | .map es, l => ∃ g en clock, l = .map g ∧ w.heap[g]? = some (.map en clock) ∧ en.size = es.length ∧ ∀ (j : Nat) (p : Value × AV), es[j]? = some p → ∃ m, en[j]? = some m ∧ m.key = p.1 ∧ R p.2 m.val
  | .dead, l => l = .dead

/-- The table's objects lie where 'cur' says, each in a block of its own. -/
structure RelH (C : Ctx) (w : World) (cur : Cur) (t : Tab) : Prop where
  os : w.os = C.w0.os
  tape : w.tape = C.w0.tape
  output : w.output = C.w0.output
  size : C.w0.heap.size ≤ w.heap.size
  dom : ∀ k, (t.find k = none → cur k = none) ∧ ∀ ver o, t.find k = some (ver, o) → ∃ l, cur k = some (ver, l) ∧ RelO (RelV w (okB C w cur) cur) w o l
  inj : ∀ k k' ver ver' l l' b, cur k = some (ver, l) → cur k' = some (ver', l') → l.block = some b → l'.block = some b → k = k'
  lives : ∀ key ver l b, cur key = some (ver, l) → l.block = some b → b < w.heap.size ∧ (C.own key b ∨ C.w0.heap.size ≤ b)
  frame : ∀ b, b < C.w0.heap.size → (∀ k, ¬ C.own k b) → w.heap[b]? = C.w0.heap[b]?
  old : ∀ b, C.old b → b < C.w0.heap.size ∧ ∀ k, ¬ C.own k b

/-- From one world to a later one: what stood for values stands for them. -/
structure Ext (C : Ctx) (w : World) (cur : Cur) (w' : World) (cur' : Cur) : Prop where
  ok : ∀ b, okB C w cur b → okB C w' cur' b ∧ w'.heap[b]? = w.heap[b]?
  le : CurLe cur cur'
theorem CurLe.trans {a b c : Cur} (h : CurLe a b) (k : CurLe b c) : CurLe a c := fun key ver l hk => by
  obtain ⟨v1, l1, h1, hle, he⟩ := h _ _ _ hk
  obtain ⟨v2, l2, h2, hle2, he2⟩ := k _ _ _ h1
  refine ⟨v2, l2, h2, by omega, fun e => ?_⟩
  rcases he2 (by omega) with e2 | e2
  · rw [e2]; exact he (by omega)
  · exact .inr e2
theorem Ext.refl (C : Ctx) (w : World) (cur : Cur) : Ext C w cur w cur := ⟨fun _ h => ⟨h, rfl⟩, CurLe.refl cur⟩
theorem Ext.trans {C : Ctx} {w1 w2 w3 : World} {c1 c2 c3 : Cur} (h : Ext C w1 c1 w2 c2) (k : Ext C w2 c2 w3 c3) : Ext C w1 c1 w3 c3 :=
  ⟨fun b hb => ⟨(k.ok b (h.ok b hb).1).1, (k.ok b (h.ok b hb).1).2.trans (h.ok b hb).2⟩, h.le.trans k.le⟩
theorem Ext.rel {C : Ctx} {w w' : World} {cur cur' : Cur} (h : Ext C w cur w' cur') {av : AV} {v : Value} (hr : RelV w (okB C w cur) cur av v) : RelV w' (okB C w' cur') cur' av v :=
  hr.mono h.ok cur' h.le

/-! ### One object turns, or comes -/
def upd (cur : Cur) (k v : Nat) (l : Loc) : Cur := fun k' => if k = k' then some (v, l) else cur k'
structure Turn (w : World) (cur : Cur) (k v : Nat) (l : Loc) (w' : World) : Prop where
  os : w'.os = w.os
  tape : w'.tape = w.tape
  output : w'.output = w.output
  size : w.heap.size ≤ w'.heap.size
  heap : ∀ b, b < w.heap.size → (∀ ver l0, cur k = some (ver, l0) → l0.block ≠ some b) → w'.heap[b]? = w.heap[b]?
  new : ∀ b, l.block = some b → b < w'.heap.size ∧ (w.heap.size ≤ b ∨ ∃ ver l0, cur k = some (ver, l0) ∧ l0.block = some b)
  ver : ∀ ver l0, cur k = some (ver, l0) → ver ≤ v ∧ (ver = v → l = l0 ∨ l = .dead)

theorem Turn.le {w w' : World} {cur : Cur} {k v : Nat} {l : Loc} (h : Turn w cur k v l w') : CurLe cur (upd cur k v l) := fun key ver l0 hk => by
  by_cases e : k = key
  · subst e
    obtain ⟨h1, h2⟩ := h.ver _ _ hk
    exact ⟨v, l, by simp [upd], h1, h2⟩
  · exact ⟨ver, l0, by simp [upd, e, hk], Nat.le_refl _, fun _ => .inl rfl⟩

theorem Turn.live {w w' : World} {cur : Cur} {k v : Nat} {l : Loc} (h : Turn w cur k v l w') {b : Nat} (hb : live (upd cur k v l) b) : V.live cur b ∨ (w.heap.size ≤ b ∧ b < w'.heap.size) := by
  obtain ⟨key, ver, l1, h1, h2⟩ := hb
  unfold upd at h1
  split at h1
  · injection h1 with h1
    injection h1 with _ h1
    subst h1
    obtain ⟨hlt, hn | ⟨ver0, l0, h3, h4⟩⟩ := h.new b h2
    · exact .inr ⟨hn, hlt⟩
    · exact .inl ⟨k, ver0, l0, h3, h4⟩
  · exact .inl ⟨key, ver, l1, h1, h2⟩

theorem Turn.ext {C : Ctx} {w w' : World} {cur : Cur} {k v : Nat} {l : Loc} (h : Turn w cur k v l w') : Ext C w cur w' (upd cur k v l) := by
  refine ⟨fun b hb => ?_, h.le⟩
  obtain ⟨h1, h2, h3⟩ := hb
  refine ⟨⟨h1, Nat.lt_of_lt_of_le h2 h.size, fun hl => ?_⟩, h.heap b h2 (fun ver l0 hk e => h3 ⟨k, ver, l0, hk, e⟩)⟩
  rcases h.live hl with hl | ⟨hl, _⟩
  · exact h3 hl
  · omega

theorem RelO.mono {R R' : AV → Value → Prop} {w w' : World} {o : AObj} {l : Loc} (hR : ∀ y u, R y u → R' y u) (hb : ∀ b, l.block = some b → w'.heap[b]? = w.heap[b]?) (h : RelO R w o l) : RelO R' w' o l := by
  cases o with
  | cells t cs =>
    obtain ⟨g, c, fr, rfl, h1, h2, h3, h4⟩ := h
    refine ⟨g, c, fr, rfl, (hb g rfl).trans h1, h2, h3, fun j y hy => ?_⟩
    obtain ⟨u, hu, hr⟩ := h4 j y hy
    exact ⟨u, hu, hR _ _ hr⟩
  | arr t sz els =>
    obtain ⟨hs, hl, ⟨rfl, rfl⟩ | ⟨g, o, cap, c, fr, rfl, h1, h2, h3, h4, h5, h6⟩⟩ := h
    · exact ⟨hs, hl, .inl ⟨rfl, rfl⟩⟩
    · refine ⟨hs, hl, .inr ⟨g, o, cap, c, fr, rfl, (hb g rfl).trans h1, h2, h3, h4, h5, fun i x j y hx hy => ?_⟩⟩
      obtain ⟨u, hu, hr⟩ := h6 i x j y hx hy
      exact ⟨u, hu, hR _ _ hr⟩
  | map es =>
    obtain ⟨g, en, clock, rfl, h1, h2, h3⟩ := h
    refine ⟨g, en, clock, rfl, (hb g rfl).trans h1, h2, fun j p hp => ?_⟩
    obtain ⟨m, hm, hk, hr⟩ := h3 j p hp
    exact ⟨m, hm, hk, hR _ _ hr⟩
  | dead => exact h

theorem RelH.turn {C : Ctx} {w w' : World} {cur : Cur} {t : Tab} {k v : Nat} {l : Loc} {o : AObj} (h : RelH C w cur t) (s : Turn w cur k v l w')
    (ho : RelO (RelV w' (okB C w' (upd cur k v l)) (upd cur k v l)) w' o l) : RelH C w' (upd cur k v l) (t.put k v o) := by
  have hx : Ext C w cur w' (upd cur k v l) := s.ext
  refine ⟨s.os.trans h.os, s.tape.trans h.tape, s.output.trans h.output, Nat.le_trans h.size s.size, fun k' => ?_, ?_, ?_, ?_, h.old⟩
  · rw [Tab.find_put]
    by_cases e : k = k'
    · subst e
      refine ⟨by simp, fun ver o' ho' => ?_⟩
      simp only [if_true, Option.some.injEq, Prod.mk.injEq] at ho'
      obtain ⟨rfl, rfl⟩ := ho'
      exact ⟨l, by simp [upd], ho⟩
    · simp only [e, if_false, upd]
      refine ⟨(h.dom k').1, fun ver o' ho' => ?_⟩
      obtain ⟨l', hl', hr⟩ := (h.dom k').2 ver o' ho'
      refine ⟨l', hl', RelO.mono (fun y u hy => hx.rel hy) (fun b hb => ?_) hr⟩
      refine s.heap b (h.lives k' ver l' b hl' hb).1 (fun ver0 l0 hk e0 => e ?_)
      exact h.inj k k' _ _ _ _ b hk hl' e0 hb
  · intro k1 k2 v1 v2 l1 l2 b h1 h2 hb1 hb2
    unfold upd at h1 h2
    split at h1 <;> split at h2
    · rename_i e1 e2; exact e1.symm.trans e2
    · rename_i e1 e2
      subst e1
      injection h1 with h1; injection h1 with _ h1; subst h1
      have hlt := (h.lives k2 v2 l2 b h2 hb2).1
      rcases (s.new b hb1).2 with hn | ⟨ver0, l0, h3, h4⟩
      · omega
      · exact h.inj _ _ _ _ _ _ b h3 h2 h4 hb2
    · rename_i e1 e2
      subst e2
      injection h2 with h2; injection h2 with _ h2; subst h2
      have hlt := (h.lives k1 v1 l1 b h1 hb1).1
      rcases (s.new b hb2).2 with hn | ⟨ver0, l0, h3, h4⟩
      · omega
      · exact h.inj _ _ _ _ _ _ b h1 h3 hb1 h4
    · exact h.inj _ _ _ _ _ _ b h1 h2 hb1 hb2
  · intro key ver1 l1 b h1 h2
    unfold upd at h1
    split at h1
    · rename_i e
      subst e
      injection h1 with h1
      injection h1 with _ h1
      subst h1
      obtain ⟨hlt, hn | ⟨ver0, l0, h3, h4⟩⟩ := s.new b h2
      · exact ⟨hlt, .inr (Nat.le_trans h.size hn)⟩
      · exact ⟨hlt, (h.lives _ _ _ b h3 h4).2⟩
    · exact ⟨Nat.lt_of_lt_of_le (h.lives _ _ _ b h1 h2).1 s.size, (h.lives _ _ _ b h1 h2).2⟩
  · intro b hb hn
    refine (s.heap b (Nat.lt_of_lt_of_le hb h.size) (fun ver l0 hk e => ?_)).trans (h.frame b hb hn)
    rcases (h.lives k ver l0 b hk e).2 with h1 | h1
    · exact hn k h1
    · omega

/-- A world with the same heap. -/
theorem RelH.same {C : Ctx} {w w' : World} {cur : Cur} {t : Tab} (h : RelH C w cur t) (hos : w'.os = w.os) (ht : w'.tape = w.tape) (ho : w'.output = w.output) (hh : w'.heap = w.heap) : RelH C w' cur t ∧ Ext C w cur w' cur := by
  have hx : Ext C w cur w' cur := ⟨fun b hb => ⟨⟨hb.1, by rw [hh]; exact hb.2.1, hb.2.2⟩, by rw [hh]⟩, CurLe.refl cur⟩
  refine ⟨⟨hos.trans h.os, ht.trans h.tape, ho.trans h.output, by rw [hh]; exact h.size, fun k => ⟨(h.dom k).1, fun ver o hf => ?_⟩, h.inj, fun key ver l b h1 h2 => by rw [hh]; exact h.lives key ver l b h1 h2, fun b hb hn => by rw [hh]; exact h.frame b hb hn, h.old⟩, hx⟩
  obtain ⟨l, hl, hr⟩ := (h.dom k).2 ver o hf
  exact ⟨l, hl, RelO.mono (fun y u hy => hx.rel hy) (fun b _ => by rw [hh]) hr⟩
theorem RelH.drew {C : Ctx} {w : World} {cur : Cur} {t : Tab} (h : RelH C w cur t) : RelH C w.drew cur t ∧ Ext C w cur w.drew cur := h.same rfl rfl rfl rfl

end Go.Proofs.Ytoblmpfcjeammaa.V
