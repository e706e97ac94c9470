/-
  Operations that read alone do the same in a memory with more. Conditions: none; plain definitions and lemmas, over any program.
-/
import Derived.Test.YtoblmpfcjeammaaVn
set_option linter.unusedVariables false
set_option linter.unusedSimpArgs false
namespace Go.Proofs.Ytoblmpfcjeammaa.V
open Go.RowKit
def TabLe (t t' : Tab) : Prop := ∀ k x, t.find k = some x → t'.find k = some x
/-- What comes of an operation that leaves the memory alone, in another memory. -/
def Mono (f : Tab → AR) (t t' : Tab) : Prop := ∀ Φ : AV → Prop, (f t).sat (fun v t1 => Φ v ∧ t1 = t) → (f t').sat (fun v t1 => Φ v ∧ t1 = t')
section
variable {P : Program} {t t' : Tab}
theorem current_mono (hle : TabLe t t') {key ver : Nat} (h : isCurrent t key ver) : isCurrent t' key ver := by
  unfold isCurrent at *
  split at h
  · rename_i v ty cs hf; rw [hle _ _ hf]; exact h
  · rename_i v ty sz els hf; rw [hle _ _ hf]; exact h
  · rename_i v es hf; rw [hle _ _ hf]; exact h
  · exact h.elim
theorem Mono.ok {v : AV} : Mono (fun t => .ok v t) t t' := fun Φ h => ⟨h.1, rfl⟩
theorem Mono.stuck : Mono (fun _ => .stuck) t t' := fun Φ h => h.elim
theorem Mono.need {p : Tab → Prop} {f : Tab → AR} (hp : p t → p t') (hf : Mono f t t') : Mono (fun t => .need (p t) (f t)) t t' := fun Φ h => ⟨hp h.1, hf Φ h.2⟩
theorem Mono.fork {p q : Prop} {f g : Tab → AR} (hf : Mono f t t') (hg : Mono g t t') : Mono (fun t => .fork p q (f t) (g t)) t t' := fun Φ h => ⟨fun hp => hf Φ (h.1 hp), fun hq => hg Φ (h.2 hq)⟩
theorem Mono.ite {p : Prop} [Decidable p] {f g : Tab → AR} (hf : Mono f t t') (hg : Mono g t t') : Mono (fun t => if p then f t else g t) t t' := by
  by_cases hp : p
  · simpa [hp] using hf
  · simpa [hp] using hg
theorem loadAV_mono (ty : TypeId) (cs : List AV) (o : Nat) : Mono (loadAV P ty cs o) t t' := by
  unfold loadAV
  exact .need (fun h => h) (.ite (.need (fun h => h) .ok) (.need (fun h => h) .ok))
theorem aload_mono (hle : TabLe t t') (ty : TypeId) (x : AV) : Mono (aload P ty x) t t' := by
  intro Φ h
  unfold aload at *
  cases x with
  | ref key ver off =>
    simp only at *
    split at h
    · rename_i v q cs hf
      rw [hle _ _ hf]
      exact ⟨h.1, loadAV_mono ty cs off Φ h.2⟩
    · exact h.elim
  | eref key ver i j =>
    simp only at *
    split at h
    · rename_i v q sz els hf
      rw [hle _ _ hf]
      exact ⟨h.1, loadAV_mono ty _ j Φ h.2⟩
    · exact h.elim
  | iptr cs off => exact loadAV_mono ty cs off Φ h
  | _ => exact h.elim
theorem anilCheck_mono (hle : TabLe t t') (x : AV) : Mono (anilCheck x) t t' := by
  intro Φ h
  unfold anilCheck at *
  split at h
  · exact ⟨current_mono hle h.1, h.2.1, rfl⟩
  · exact ⟨current_mono hle h.1, h.2.1, rfl⟩
  · exact ⟨h.1, rfl⟩
  · exact ⟨h.1, h.2.1, rfl⟩
  · exact ⟨h.1, rfl⟩
  · exact ⟨h.1, rfl⟩
  · exact h.elim
theorem apick_mono (c a b : AV) : Mono (apick c a b) t t' := by
  intro Φ h
  unfold apick at *
  split at h
  · exact ⟨fun hp => ⟨(h.1 hp).1, rfl⟩, fun hq => ⟨(h.2 hq).1, rfl⟩⟩
  · exact h.elim
theorem ibin_mono (op : BinOp) (k k' : IntKind) (a b : Int) : Mono (ibin op k k' a b) t t' := by
  intro Φ h
  unfold ibin at *
  cases op <;> exact ⟨h.1, h.2.1, rfl⟩
theorem sbin_mono (op : BinOp) (a b : ByteArray) : Mono (sbin op a b) t t' := by
  intro Φ h
  unfold sbin at *
  cases op <;> first
    | exact ⟨h.1, h.2.1, rfl⟩
    | exact ⟨h.1, rfl⟩
    | exact h.elim
theorem bbin_mono (op : BinOp) (ty : TypeId) (a b : Bool) : Mono (bbin P op ty a b) t t' := by
  intro Φ h
  unfold bbin at *
  cases op <;> first
    | exact ⟨h.1, h.2.1, rfl⟩
    | exact h.elim
theorem nilP_mono (hle : TabLe t t') (neg : Bool) (ty : TypeId) (x : AV) : Mono (nilP P neg ty x) t t' := by
  intro Φ h
  unfold nilP at *
  split at h
  · split at h
    · exact ⟨h.1, rfl⟩
    · exact ⟨current_mono hle h.1, h.2.1, rfl⟩
    · exact ⟨h.1, rfl⟩
    · exact ⟨current_mono hle h.1, h.2.1, rfl⟩
    · exact h.elim
  · exact h.elim
theorem nilS_mono (hle : TabLe t t') (neg : Bool) (ty : TypeId) (x : AV) : Mono (nilS P neg ty x) t t' := by
  intro Φ h
  unfold nilS at *
  split at h
  · split at h
    · exact ⟨h.1, rfl⟩
    · exact ⟨fun hp => ⟨(h.1 hp).1, rfl⟩, fun hq => ⟨(h.2 hq).1, rfl⟩⟩
    · exact ⟨current_mono hle h.1, fun hp => ⟨(h.2.1 hp).1, rfl⟩, fun hq => ⟨(h.2.2 hq).1, rfl⟩⟩
    · exact h.elim
  · exact h.elim
theorem nilM_mono (hle : TabLe t t') (neg : Bool) (ty : TypeId) (x : AV) : Mono (nilM P neg ty x) t t' := by
  intro Φ h
  unfold nilM at *
  split at h
  · split at h
    · exact ⟨h.1, rfl⟩
    · exact ⟨current_mono hle h.1, h.2.1, rfl⟩
    · exact h.elim
  · exact h.elim
theorem nilI_mono (neg : Bool) (ty : TypeId) (x : AV) : Mono (nilI P neg ty x) t t' := by
  intro Φ h
  unfold nilI at *
  split at h
  · split at h
    · exact ⟨h.1, rfl⟩
    · exact h.elim
  · exact h.elim
theorem abin_mono (hle : TabLe t t') (op : BinOp) (ty : TypeId) (x y : AV) : Mono (abin P op ty x y) t t' := by
  intro Φ h
  unfold abin at *
  split at h
  · split at h
    · exact ibin_mono _ _ _ _ _ Φ h
    · exact h.elim
  · split at h
    · exact sbin_mono _ _ _ Φ h
    · exact h.elim
  · split at h
    · exact bbin_mono _ _ _ _ Φ h
    · exact h.elim
  · split at h
    · exact nilP_mono hle _ _ _ Φ h
    · exact nilP_mono hle _ _ _ Φ h
    · exact h.elim
  · split at h
    · exact nilS_mono hle _ _ _ Φ h
    · exact nilS_mono hle _ _ _ Φ h
    · exact h.elim
  · split at h
    · exact nilM_mono hle _ _ _ Φ h
    · exact nilM_mono hle _ _ _ Φ h
    · exact h.elim
  · split at h
    · exact nilI_mono _ _ _ Φ h
    · exact nilI_mono _ _ _ Φ h
    · exact h.elim
  · exact h.elim
theorem aun_mono (op : UnOp) (x : AV) : Mono (aun op x) t t' := by
  intro Φ h
  unfold aun at *
  split at h
  · exact ⟨h.1, rfl⟩
  · exact ⟨h.1, rfl⟩
  · exact h.elim
theorem elems_mono (hle : TabLe t t') {x : AV} {xs : List (List AV)} (h : elemsOf t x = some xs) : elemsOf t' x = some xs := by
  unfold elemsOf at *
  split at h
  · exact h
  · split at h
    · rename_i hf
      rw [hle _ _ hf]
      exact h
    · cases h
  · exact h
  · cases h
theorem put_ne (t : Tab) (d : Nat) (o : AObj) : t.put d (nextVer t d) o ≠ t := by
  intro h
  have := Tab.find_put t d (nextVer t d) o d
  rw [h] at this
  unfold nextVer at this
  cases hf : t.find d with
  | none => rw [hf] at this; simp at this
  | some p => rw [hf] at this; simp at this; have := congrArg Prod.fst this; simp at this
theorem aconv_mono (hle : TabLe t t') (d : Option Nat) (src dst : TypeId) (x : AV) : Mono (aconv P d src dst x) t t' := by
  intro Φ h
  unfold aconv at *
  split at h
  · split at h
    · exact ⟨h.1, h.2.1, rfl⟩
    · exact h.elim
  · split at h
    · split at h
      · rename_i xs hx
        rw [elems_mono hle hx]
        exact ⟨h.1, h.2.1, rfl⟩
      · exact h.elim
    · split at h
      · exact ⟨h.1, rfl⟩
      · exact h.elim
    · exact h.elim
  · split at h
    · exact absurd h.2.2 (put_ne _ _ _)
    · exact h.elim
  · exact h.elim
theorem aslice_mono (hle : TabLe t t') (ty : TypeId) (x : AV) (lo hi : Option AV) : Mono (aslice P ty x lo hi) t t' := by
  intro Φ h
  unfold aslice at *
  split at h
  · split at h
    · exact ⟨h.1, h.2.1, rfl⟩
    · exact h.elim
  · split at h
    · exact ⟨h.1, h.2.1, rfl⟩
    · split at h
      · rename_i hf
        rw [hle _ _ hf]
        exact ⟨h.1, h.2.1, rfl⟩
      · exact h.elim
    · exact ⟨h.1, h.2.1, rfl⟩
    · exact h.elim
  · exact h.elim
theorem afieldAddr_mono (hle : TabLe t t') (sty : TypeId) (x : AV) (f : Nat) : Mono (afieldAddr P sty x f) t t' := by
  intro Φ h
  unfold afieldAddr at *
  split at h
  · split at h
    · refine ⟨h.1, ?_⟩
      have h2 := h.2
      split at h2
      · exact ⟨current_mono hle h2.1, h2.2.1, rfl⟩
      · exact ⟨current_mono hle h2.1, h2.2.1, rfl⟩
      · exact ⟨h2.1, rfl⟩
      · exact h2.elim
    · exact h.elim
  · exact h.elim
theorem afield_mono (sty : TypeId) (x : AV) (f : Nat) : Mono (afield P sty x f) t t' := by
  intro Φ h
  unfold afield at *
  split at h
  · split at h
    · refine ⟨h.1, ?_⟩
      have h2 := h.2
      split at h2
      · rename_i hg; rw [if_pos hg]; exact ⟨h2.1, h2.2.1, rfl⟩
      · rename_i hg; rw [if_neg hg]; exact ⟨h2.1, h2.2.1, rfl⟩
    · exact h.elim
  · exact h.elim
theorem aindexAddr_mono (hle : TabLe t t') (ty : TypeId) (x i : AV) : Mono (aindexAddr P ty x i) t t' := by
  intro Φ h
  unfold aindexAddr at *
  split at h
  · split at h
    · exact ⟨h.1, h.2.1, rfl⟩
    · split at h
      · rename_i hf
        rw [hle _ _ hf]
        exact ⟨h.1, h.2.1, rfl⟩
      · exact h.elim
    · exact h.elim
  · split at h
    · exact ⟨⟨current_mono hle h.1.1, h.1.2⟩, h.2.1, rfl⟩
    · exact ⟨⟨current_mono hle h.1.1, h.1.2⟩, h.2.1, rfl⟩
    · exact ⟨h.1, h.2.1, rfl⟩
    · exact h.elim
  · exact h.elim
theorem aindex_mono (ty : TypeId) (x i : AV) : Mono (aindex P ty x i) t t' := by
  intro Φ h
  unfold aindex at *
  split at h
  · split at h
    · exact ⟨h.1, h.2.1, rfl⟩
    · exact h.elim
  · split at h
    · exact ⟨h.1, h.2.1, rfl⟩
    · exact h.elim
  · exact h.elim
theorem aextract_mono (x : AV) (i : Nat) : Mono (aextract x i) t t' := by
  intro Φ h
  unfold aextract at *
  split at h
  · exact ⟨h.1, h.2.1, rfl⟩
  · exact h.elim
theorem alen_mono (hle : TabLe t t') (ty : TypeId) (x : AV) : Mono (alen P ty x) t t' := by
  intro Φ h
  unfold alen at *
  split at h
  · split at h
    · exact ⟨h.1, rfl⟩
    · exact h.elim
  · split at h
    · exact ⟨h.1, rfl⟩
    · exact ⟨current_mono hle h.1, h.2.1, rfl⟩
    · exact ⟨h.1, rfl⟩
    · exact h.elim
  · exact ⟨h.1, rfl⟩
  · exact h.elim
theorem alenM_mono (hle : TabLe t t') (ty : TypeId) (x : AV) : Mono (alenM P ty x) t t' := by
  unfold alenM
  split
  · intro Φ h
    unfold amapLen at *
    split at h
    · split at h
      · exact ⟨h.1, rfl⟩
      · simp only at h ⊢
        split at h
        · rename_i hf
          rw [hle _ _ hf]
          exact ⟨h.1, h.2.1, rfl⟩
        · exact h.elim
      · exact h.elim
    · exact h.elim
  · exact alen_mono hle ty x
theorem aminmax_mono (big : Bool) (x y : AV) : Mono (aminmax big x y) t t' := by
  intro Φ h
  unfold aminmax at *
  split at h
  · exact ⟨h.1, rfl⟩
  · exact h.elim
theorem cellOk_mono (hle : TabLe t t') {y : AV} (h : cellOk t y) : cellOk t' y := by
  unfold cellOk at *
  split at h <;> first
    | exact h
    | exact current_mono hle h
theorem allOk_mono (hle : TabLe t t') : ∀ {l : List AV}, allOk t l → allOk t' l
  | [], _ => trivial
  | x :: r, h => ⟨cellOk_mono hle h.1, allOk_mono hle h.2⟩
theorem afill_mono (hle : TabLe t t') (place : Nat → Option (Nat × Nat)) : ∀ (parts : List (Nat × AV)) (cs : List AV), (afill place t' cs parts).1 = (afill place t cs parts).1 ∧ ((afill place t cs parts).2 → (afill place t' cs parts).2)
  | [], cs => ⟨rfl, fun h => h⟩
  | (i, x) :: r, cs => by
    unfold afill
    split
    · exact ⟨rfl, fun h => h⟩
    · obtain ⟨h1, h2⟩ := afill_mono hle place r (setCells cs _ x.cells)
      exact ⟨h1, fun ⟨a, b, c, d⟩ => ⟨a, b, allOk_mono hle c, h2 d⟩⟩
theorem afilled_mono (hle : TabLe t t') (place : Nat → Option (Nat × Nat)) (cs : List AV) (parts : List (Nat × AV)) :
    Mono (fun t => match afill place t cs parts with | (some cs, p) => .need p (.ok (.agg cs) t) | (none, _) => .stuck) t t' := by
  intro Φ h
  dsimp only at h ⊢
  obtain ⟨h1, h2⟩ := afill_mono hle place parts cs
  generalize afill place t cs parts = A at h h1 h2
  generalize afill place t' cs parts = B at h1 h2
  obtain ⟨A1, A2⟩ := A
  obtain ⟨B1, B2⟩ := B
  subst h1
  cases B1 with
  | none => exact h.elim
  | some c => exact ⟨h2 h.1, h.2.1, rfl⟩
theorem abuild_mono (hle : TabLe t t') (ty : TypeId) (parts : List (Nat × AV)) : Mono (abuild P ty parts) t t' := by
  intro Φ h
  unfold abuild at *
  split at h
  · exact ⟨h.1, afilled_mono hle _ _ _ Φ h.2⟩
  · exact ⟨h.1, afilled_mono hle _ _ _ Φ h.2⟩
  · exact h.elim

/-- Operations that leave the memory alone. -/
def readerB (op : Op) : Bool :=
  match op with
  | .move _ | .assign _ | .pick _ _ _ | .load _ _ | .nilCheck _ | .binOp _ _ _ _ _ | .unOp _ _ _ | .convert _ _ _ | .slice _ _ _ _ _ | .fieldAddr _ _ _ | .field _ _ _ | .indexAddr _ _ _ | .index _ _ _ | .extract _ _ | .build _ _ | .makeFunc _ _ _ => true
  | .call c => match c.callee with
    | .builtin .len => true
    | .builtin .min => true
    | .builtin .max => true
    | _ => false
  | _ => false
theorem aop_mono (hle : TabLe t t') (o : Oper) (e : Env) (hr : readerB o.op = true) : Mono (aop P o e) t t' := by
  intro Φ h
  unfold aop at *
  unfold readerB at hr
  split at hr
  case h_1 x ho => simp only [ho] at *; exact ⟨h.1, rfl⟩
  case h_2 x ho => simp only [ho] at *; exact ⟨h.1, rfl⟩
  case h_3 ho => simp only [ho] at *; exact apick_mono _ _ _ Φ h
  case h_4 ho => simp only [ho] at *; exact aload_mono hle _ _ Φ h
  case h_5 ho => simp only [ho] at *; exact anilCheck_mono hle _ Φ h
  case h_6 ho => simp only [ho] at *; exact abin_mono hle _ _ _ _ Φ h
  case h_7 ho => simp only [ho] at *; exact aun_mono _ _ Φ h
  case h_8 ho => simp only [ho] at *; exact aconv_mono hle _ _ _ _ Φ h
  case h_9 ty x lo hi mx ho =>
    simp only [ho] at *
    cases mx with
    | none => exact aslice_mono hle _ _ _ _ Φ h
    | some m => exact h.elim
  case h_10 ho => simp only [ho] at *; exact afieldAddr_mono hle _ _ _ Φ h
  case h_11 ho => simp only [ho] at *; exact afield_mono _ _ _ Φ h
  case h_12 ho => simp only [ho] at *; exact aindexAddr_mono hle _ _ _ Φ h
  case h_13 ho => simp only [ho] at *; exact aindex_mono _ _ _ Φ h
  case h_14 ho => simp only [ho] at *; exact aextract_mono _ _ Φ h
  case h_15 ho => simp only [ho] at *; exact abuild_mono hle _ _ Φ h
  case h_16 fn first cs ho =>
    simp only [ho] at *
    split at h
    · rename_i h0
      rw [if_pos h0]
      exact ⟨h.1, rfl⟩
    · exact h.elim
  case h_17 c ho =>
    simp only [ho] at *
    split at hr
    · rename_i hc
      simp only [hc] at *
      unfold abuiltin at *
      split at h
      · exact alenM_mono hle _ _ Φ h
      · rename_i hb _ _; cases hb
      · rename_i hb _; cases hb
      · rename_i hb _; cases hb
      · rename_i hb _ _; cases hb
      · exact h.elim
    · rename_i hc
      simp only [hc] at *
      unfold abuiltin at *
      split at h
      · rename_i hb _ _; cases hb
      · rename_i hb _ _; cases hb
      · exact aminmax_mono _ _ _ Φ h
      · rename_i hb _; cases hb
      · rename_i hb _ _; cases hb
      · exact h.elim
    · rename_i hc
      simp only [hc] at *
      unfold abuiltin at *
      split at h
      · rename_i hb _ _; cases hb
      · rename_i hb _ _; cases hb
      · rename_i hb _; cases hb
      · exact aminmax_mono _ _ _ Φ h
      · rename_i hb _ _; cases hb
      · exact h.elim
    · cases hr
  case h_18 => cases hr
end
end Go.Proofs.Ytoblmpfcjeammaa.V
