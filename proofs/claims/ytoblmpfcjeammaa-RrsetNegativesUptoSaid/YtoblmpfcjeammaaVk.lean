/-
  A contract used by a caller with more objects; a contract proved from the function's code. Conditions: none; plain definitions and lemmas, over any program.
-/
import Derived.Test.YtoblmpfcjeammaaVj
set_option linter.unusedVariables false
set_option linter.unusedSimpArgs false
namespace Go.Proofs.Ytoblmpfcjeammaa.V
open Go.RowKit
section
variable {P : Program} {C : Ctx} {w : World} {cur : Cur} {t : Tab}

def calleeCtx (C : Ctx) (w : World) (cur : Cur) (l : Pass) : Ctx where
  w0 := w
  old := okB C w cur
  own := fun k0 b => ∃ k, l.up k0 = some k ∧ ∃ ver lo, cur k = some (ver, lo) ∧ lo.block = some b
def calleeCur (cur : Cur) (l : Pass) : Cur := fun k0 => match l.up k0 with
  | some k => cur k
  | none => none
theorem callee_live {l : Pass} {b : Nat} (h : live (calleeCur cur l) b) : live cur b := by
  obtain ⟨k0, ver, lo, h1, h2⟩ := h
  unfold calleeCur at h1
  split at h1
  · rename_i k _; exact ⟨k, ver, lo, h1, h2⟩
  · cases h1
theorem callee_ok {l : Pass} {b : Nat} (h : okB C w cur b) : okB (calleeCtx C w cur l) w (calleeCur cur l) b := ⟨.inl h, h.2.1, fun hl => h.2.2 (callee_live hl)⟩
theorem callee_names {l : Pass} (hl : passOk t l) : Renames (downs l) cur (calleeCur cur l) := by
  intro k v p hp ver lo hk hv
  unfold downs at hp
  split at hp
  · rename_i k0 hd
    injection hp with hp
    subst hp
    exact ⟨ver, lo, by simp only [calleeCur, (up_down l hl k k0).2 hd]; exact hk, hv, fun e => ⟨e, rfl⟩⟩
  · cases hp
theorem callee_heap {l : Pass} (hl : passOk t l) (hH : RelH C w cur t) : RelH (calleeCtx C w cur l) w (calleeCur cur l) (passTab l t l) := by
  refine ⟨rfl, rfl, rfl, Nat.le_refl _, fun k0 => ?_, fun k1 k2 v1 v2 l1 l2 b h1 h2 hb1 hb2 => ?_, fun k0 ver lo b h1 h2 => ?_, fun b _ _ => rfl, fun b hb => ⟨hb.2.1, fun k0 ⟨k, _, ver, lo, h1, h2⟩ => hb.2.2 ⟨k, ver, lo, h1, h2⟩⟩⟩
  · rw [passTab_find l l hl k0]
    simp only [calleeCur]
    cases hu : l.up k0 with
    | none => exact ⟨fun _ => rfl, (fun ver o h => by cases h)⟩
    | some k =>
      obtain ⟨q, hq⟩ := Option.isSome_iff_exists.1 (up_some l hl k k0 hu)
      refine ⟨fun h => by simp [hq] at h, fun ver o h => ?_⟩
      simp only [hq, Option.map_some, Option.some.injEq, Prod.mk.injEq] at h
      obtain ⟨rfl, rfl⟩ := h
      obtain ⟨lo, h1, h2⟩ := (hH.dom k).2 q.1 q.2 hq
      exact ⟨lo, h1, RelO.ren (fun y u hy => hy.ren (fun b hb => callee_ok hb) _ (callee_names hl)) (fun b _ => rfl) h2⟩
  · unfold calleeCur at h1 h2
    split at h1
    · rename_i ka ha
      split at h2
      · rename_i kb hb
        have := hH.inj ka kb _ _ _ _ b h1 h2 hb1 hb2
        subst this
        have e1 := (up_down l hl _ _).1 ha
        have e2 := (up_down l hl _ _).1 hb
        rw [e1] at e2
        injection e2
      · cases h2
    · cases h1
  · unfold calleeCur at h1
    split at h1
    · rename_i k hk
      exact ⟨(hH.lives k ver lo b h1 h2).1, .inl ⟨k, hk, ver, lo, h1, h2⟩⟩
    · cases h1

/-- The caller's places behind the call. -/
def joinCur (cur cur2 : Cur) (l : Pass) (base : Nat) (t t1 : Tab) : Cur := fun k => match findT l base k t1 with
  | some e => (cur2 e.key).map fun p => (goesVer l base t e.key e.ver, p.2)
  | none => cur k

theorem join_spec {l : Pass} {base : Nat} {t1 : Tab} {w' : World} {cur2 : Cur} (hl : passOk t l) (hj : joinOk l base t1) (hH : RelH C w cur t) (hH' : RelH (calleeCtx C w cur l) w' cur2 t1) (hx : Ext (calleeCtx C w cur l) w (calleeCur cur l) w' cur2) :
    RelH C w' (joinCur cur cur2 l base t t1) (joinTab l base t t1 t1) ∧ Ext C w cur w' (joinCur cur cur2 l base t t1) ∧
    ∀ av v, RelV w' (okB (calleeCtx C w cur l) w' cur2) cur2 av v → RelV w' (okB C w' (joinCur cur cur2 l base t t1)) (joinCur cur cur2 l base t t1) (av.ren (ups l base t t1)) v := by
  -- an entry's place
  have place : ∀ e, e ∈ t1 → ∃ lo, cur2 e.key = some (e.ver, lo) ∧ joinCur cur cur2 l base t t1 (goesTo l base e.key) = some (goesVer l base t e.key e.ver, lo) ∧ RelO (RelV w' (okB (calleeCtx C w cur l) w' cur2) cur2) w' e.obj lo := by
    intro e he
    obtain ⟨h1, h2⟩ := find_mem hj he
    obtain ⟨lo, h3, h4⟩ := (hH'.dom e.key).2 _ _ h1
    exact ⟨lo, h3, by simp [joinCur, h2, h3], h4⟩
  have known2 : ∀ k0 ver lo, cur2 k0 = some (ver, lo) → ∃ e, e ∈ t1 ∧ e.key = k0 ∧ e.ver = ver := by
    intro k0 ver lo h
    cases hf : t1.find k0 with
    | none => rw [(hH'.dom k0).1 hf] at h; cases h
    | some p =>
      obtain ⟨v1, o⟩ := p
      obtain ⟨e, h1, h2, h3, h4⟩ := mem_of_find hf
      obtain ⟨lo', h5, _⟩ := (hH'.dom k0).2 v1 o hf
      rw [h5] at h
      injection h with h; injection h with h _
      exact ⟨e, h1, h2, h3.trans h⟩
  have handed : ∀ k0 k, l.up k0 = some k → ∃ e, e ∈ t1 ∧ e.key = k0 := by
    intro k0 k hu
    obtain ⟨q, hq⟩ := Option.isSome_iff_exists.1 (up_some l hl k k0 hu)
    obtain ⟨lo, h1, _⟩ := (hH.dom k).2 q.1 q.2 hq
    have h2 : calleeCur cur l k0 = some (q.1, lo) := by simp only [calleeCur, hu]; exact h1
    obtain ⟨v', l', h3, _⟩ := hx.le _ _ _ h2
    obtain ⟨e, h4, h5, _⟩ := known2 _ _ _ h3
    exact ⟨e, h4, h5⟩
  -- live blocks behind the call
  have lives : ∀ k ver lo b, joinCur cur cur2 l base t t1 k = some (ver, lo) → lo.block = some b →
      (∃ k0 v0, cur2 k0 = some (v0, lo) ∧ goesTo l base k0 = k) ∨ (cur k = some (ver, lo) ∧ (∀ k0, l.up k0 ≠ some k)) := by
    intro k ver lo b h hb
    unfold joinCur at h
    split at h
    · rename_i e he
      obtain ⟨h1, h2⟩ := findT_some he
      cases hc : cur2 e.key with
      | none => rw [hc] at h; cases h
      | some p =>
        rw [hc] at h
        simp at h
        obtain ⟨_, h4⟩ := h
        exact .inl ⟨e.key, p.1, by rw [hc, ← h4], h2⟩
    · rename_i hn
      refine .inr ⟨h, fun k0 hu => ?_⟩
      obtain ⟨e, he, hk⟩ := handed k0 k hu
      have := (find_mem hj he).2
      rw [hk, show goesTo l base k0 = k from by simp [goesTo, hu], hn] at this
      cases this
  have block2 : ∀ k0 v0 lo b, cur2 k0 = some (v0, lo) → lo.block = some b → b < w'.heap.size ∧ ((∃ k, l.up k0 = some k ∧ ∃ ver lo', cur k = some (ver, lo') ∧ lo'.block = some b) ∨ w.heap.size ≤ b) := fun k0 v0 lo b h hb => hH'.lives k0 v0 lo b h hb
  have hok : ∀ b, okB C w cur b → okB C w' (joinCur cur cur2 l base t t1) b ∧ w'.heap[b]? = w.heap[b]? := by
    intro b hb
    obtain ⟨h1, h2⟩ := hx.ok b (callee_ok hb)
    refine ⟨⟨hb.1, h1.2.1, fun ⟨k, ver, lo, h3, h4⟩ => ?_⟩, h2⟩
    rcases lives k ver lo b h3 h4 with ⟨k0, v0, h5, _⟩ | ⟨h5, _⟩
    · exact h1.2.2 ⟨k0, v0, lo, h5, h4⟩
    · exact hb.2.2 ⟨k, ver, lo, h5, h4⟩
  have hokc : ∀ b, okB (calleeCtx C w cur l) w' cur2 b → okB C w' (joinCur cur cur2 l base t t1) b := by
    intro b ⟨h1, h2, h3⟩
    rcases h1 with h1 | h1
    · refine ⟨h1.1, h2, fun ⟨k, ver, lo, h4, h5⟩ => ?_⟩
      rcases lives k ver lo b h4 h5 with ⟨k0, v0, h6, _⟩ | ⟨h6, _⟩
      · exact h3 ⟨k0, v0, lo, h6, h5⟩
      · exact h1.2.2 ⟨k, ver, lo, h6, h5⟩
    · refine ⟨.inr (Nat.le_trans hH.size h1), h2, fun ⟨k, ver, lo, h4, h5⟩ => ?_⟩
      rcases lives k ver lo b h4 h5 with ⟨k0, v0, h6, _⟩ | ⟨h6, _⟩
      · exact h3 ⟨k0, v0, lo, h6, h5⟩
      · have := (hH.lives k ver lo b h6 h5).1
        have h1' : w.heap.size ≤ b := h1
        omega
  have hnames : Renames (ups l base t t1) cur2 (joinCur cur cur2 l base t t1) := by
    intro k0 v p hp ver lo hk hv
    unfold ups at hp
    split at hp
    · rename_i v1 o hf
      split at hp
      · rename_i e
        injection hp with hp
        subst hp; subst e
        obtain ⟨e, h1, rfl, rfl, h4⟩ := mem_of_find hf
        obtain ⟨lo', h5, h6, _⟩ := place e h1
        rw [h5] at hk; injection hk with hk; injection hk with h7 h8; subst h7; subst h8
        exact ⟨_, lo', h6, Nat.le_refl _, fun _ => ⟨rfl, rfl⟩⟩
      · cases hp
    · cases hp
  have hrel : ∀ av v, RelV w' (okB (calleeCtx C w cur l) w' cur2) cur2 av v → RelV w' (okB C w' (joinCur cur cur2 l base t t1)) (joinCur cur cur2 l base t t1) (av.ren (ups l base t t1)) v := fun av v h => h.ren hokc _ hnames
  have hle : CurLe cur (joinCur cur cur2 l base t t1) := by
    intro k ver lo hk
    cases hf : findT l base k t1 with
    | none => exact ⟨ver, lo, by simp only [joinCur, hf]; exact hk, Nat.le_refl _, fun _ => .inl rfl⟩
    | some e =>
      obtain ⟨h1, h2⟩ := findT_some hf
      obtain ⟨lo', h3, h4, _⟩ := place e h1
      rw [h2] at h4
      refine ⟨_, lo', h4, ?_⟩
      cases hu : l.up e.key with
      | some k' =>
        have : goesTo l base e.key = k' := by simp [goesTo, hu]
        rw [this] at h2; subst h2
        have h5 : calleeCur cur l e.key = some (ver, lo) := by simp only [calleeCur, hu]; exact hk
        obtain ⟨v', l', h6, h7, h8⟩ := hx.le _ _ _ h5
        rw [h3] at h6; injection h6 with h6; injection h6 with e1 e2; subst e1; subst e2
        simp only [goesVer, hu]
        exact ⟨h7, h8⟩
      | none =>
        have : goesTo l base e.key = base + e.key := by simp [goesTo, hu]
        rw [this] at h2
        simp only [goesVer, hu, h2]
        cases hft : t.find k with
        | none => rw [(hH.dom k).1 hft] at hk; cases hk
        | some q =>
          obtain ⟨l5, h5, _⟩ := (hH.dom k).2 q.1 q.2 hft
          rw [h5] at hk; injection hk with hk; injection hk with e1 e2
          unfold nextVer
          rw [hft]
          simp only
          exact ⟨by omega, fun e => by omega⟩
  refine ⟨⟨hH'.os.trans hH.os, hH'.tape.trans hH.tape, hH'.output.trans hH.output, Nat.le_trans hH.size hH'.size, fun k => ?_, fun k1 k2 v1 v2 l1 l2 b h1 h2 hb1 hb2 => ?_, fun k ver lo b h1 h2 => ?_, fun b hb hn => ?_, hH.old⟩, ⟨hok, hle⟩, hrel⟩
  · rw [joinTab_find]
    cases hf : findT l base k t1 with
    | none =>
      simp only [joinCur, hf]
      refine ⟨(hH.dom k).1, fun ver o ho => ?_⟩
      obtain ⟨lo, h1, h2⟩ := (hH.dom k).2 ver o ho
      have hnp : ∀ k0, l.up k0 ≠ some k := fun k0 hu => by
        obtain ⟨e, he, hk⟩ := handed k0 k hu
        have := (find_mem hj he).2
        rw [hk, show goesTo l base k0 = k from by simp [goesTo, hu], hf] at this
        cases this
      refine ⟨lo, h1, RelO.mono (fun y u hy => hy.mono hok _ hle) (fun b hb => ?_) h2⟩
      refine hH'.frame b (hH.lives k ver lo b h1 hb).1 (fun k0 ⟨k', hu, v', lo', h3, h4⟩ => ?_)
      have := hH.inj k k' _ _ _ _ b h1 h3 hb h4
      subst this
      exact hnp k0 hu
    | some e =>
      obtain ⟨h1, h2⟩ := findT_some hf
      obtain ⟨lo, h3, h4, h5⟩ := place e h1
      rw [h2] at h4
      refine ⟨(fun h => by cases h), fun ver o ho => ?_⟩
      simp only [Option.some.injEq, Prod.mk.injEq] at ho
      obtain ⟨rfl, rfl⟩ := ho
      exact ⟨lo, h4, RelO.ren (fun y u hy => hrel y u hy) (fun b _ => rfl) h5⟩
  · rcases lives k1 v1 l1 b h1 hb1 with ⟨ka, va, h3, h4⟩ | ⟨h3, h4⟩ <;> rcases lives k2 v2 l2 b h2 hb2 with ⟨kb, vb, h5, h6⟩ | ⟨h5, h6⟩
    · have := hH'.inj ka kb _ _ _ _ b h3 h5 hb1 hb2
      subst this
      exact h4.symm.trans h6
    · exfalso
      have hlt := (hH.lives k2 v2 l2 b h5 hb2).1
      rcases (block2 ka va l1 b h3 hb1).2 with ⟨k, hu, ver, lo', h7, h8⟩ | h7
      · have := hH.inj k k2 _ _ _ _ b h7 h5 h8 hb2
        subst this
        exact h6 ka hu
      · omega
    · exfalso
      have hlt := (hH.lives k1 v1 l1 b h3 hb1).1
      rcases (block2 kb vb l2 b h5 hb2).2 with ⟨k, hu, ver, lo', h7, h8⟩ | h7
      · have := hH.inj k k1 _ _ _ _ b h7 h3 h8 hb1
        subst this
        exact h4 kb hu
      · omega
    · exact hH.inj k1 k2 _ _ _ _ b h3 h5 hb1 hb2
  · rcases lives k ver lo b h1 h2 with ⟨k0, v0, h3, h4⟩ | ⟨h3, h4⟩
    · obtain ⟨h5, h6⟩ := block2 k0 v0 lo b h3 h2
      refine ⟨h5, ?_⟩
      rcases h6 with ⟨k', hu, ver', lo', h7, h8⟩ | h6
      · have : goesTo l base k0 = k' := by simp [goesTo, hu]
        rw [this] at h4; subst h4
        exact (hH.lives _ _ _ b h7 h8).2
      · exact .inr (Nat.le_trans hH.size h6)
    · obtain ⟨h5, h6⟩ := hH.lives k ver lo b h3 h2
      exact ⟨Nat.lt_of_lt_of_le h5 hH'.size, h6⟩
  · refine (hH'.frame b (Nat.lt_of_lt_of_le hb hH.size) (fun k0 ⟨k, hu, ver, lo, h1, h2⟩ => ?_)).trans (hH.frame b hb hn)
    rcases (hH.lives k ver lo b h1 h2).2 with h3 | h3
    · exact hn k h3
    · omega

/-- THE CALL: the callee's contract, with the objects handed over under the callee's keys. -/
theorem acall_fn {f : FuncId} {as as0 : List AV} {t0 : Tab} {Q K : AV → Tab → Prop} (l : Pass) (base : Nat) (hF : Fn P f as0 t0 Q) (hl : passOk t l) (ha : as0 = as.map (AV.ren (downs l))) (ht : t0 = passTab l t l)
    (hk : ∀ r t1, Q r t1 → joinOk l base t1 ∧ K (r.ren (ups l base t t1)) (joinTab l base t t1 t1)) : acall P f as t K := by
  intro C w cur vs hH hR
  subst ha; subst ht
  have hcall := hF (calleeCtx C w cur l) (calleeCur cur l) vs (fun k0 b ⟨k, hu, ver, lo, h1, h2⟩ h => by
      rw [passTab_find l l hl k0, hu] at h
      obtain ⟨q, hq⟩ := Option.isSome_iff_exists.1 (up_some l hl k k0 hu)
      simp [hq] at h) (callee_heap hl hH) ⟨(by simpa using hR.1), fun j y u h1 h2 => by
      rw [List.getElem?_map] at h1
      cases hj : as[j]? with
      | none => rw [hj] at h1; cases h1
      | some x =>
        rw [hj] at h1; injection h1 with h1; subst h1
        exact (hR.2 j x u hj h2).ren (fun b hb => callee_ok hb) _ (callee_names hl)⟩
  refine hcall.mono fun x w' ⟨v, av, t1, cur2, h1, h2, h3, h4, h5⟩ => ?_
  obtain ⟨hj, hK⟩ := hk av t1 h2
  obtain ⟨g1, g2, g3⟩ := join_spec hl hj hH h3 h4
  exact ⟨v, _, _, _, h1, hK, g1, g2, g3 av v h5⟩
end
end Go.Proofs.Ytoblmpfcjeammaa.V
