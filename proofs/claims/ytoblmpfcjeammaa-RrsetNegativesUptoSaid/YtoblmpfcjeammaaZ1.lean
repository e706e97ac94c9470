/-
  RrsetNegatives, where what it reads is of bulk at most 1048576: it answers true, and its arguments read as they did. Conditions: the bulk's bound, as the statement has it.
-/
import Derived.Test.YtoblmpfcjeammaaR
import Derived.Test.YtoblmpfcjeammaaYa
set_option linter.unusedVariables false
set_option linter.unusedSimpArgs false
set_option maxHeartbeats 4000000
set_option maxRecDepth 100000
namespace Go.Proofs.Ytoblmpfcjeammaa.V
open Go.RowKit Go.Proofs Go.WideShapes Go.ChangeShapes
theorem cells5 : Try.prog.cellsOf 5 = 1 := by kernel_rfl
theorem sum_ones {α : Type} : ∀ l : List α, (l.map fun _ => 1).sum = l.length
  | [] => rfl
  | x :: l => by simp [sum_ones l]; omega
section
variable {H : Type} {enc : TypeId × Value → H} {w : World}
theorem o_u8 : OpenT enc Try.prog w 5 bC (fun _ => True) (fun _ => 1) :=
  (open_int Try.underlying5).map u8 (fun n hn => by
    have : 0 ≤ n ∧ n ≤ 255 := by simpa [Lit.wf, IntKind.min, IntKind.max, IntKind.signed, IntKind.bits] using hn
    have h : IntKind.u8.wrap n = n := by rw [IntKind.wrap_u8]; omega
    rw [bC, ← wrap_u8, h]) (fun _ _ => trivial) (fun _ => Nat.le_refl _)
theorem o_bytes : OpenT enc Try.prog w 36 (fun s : ByteArray => [B s]) (fun _ => True) (fun s => s.size + 1) :=
  (open_slice Try.underlying36 (by rw [cells5]; decide) o_u8).map (fun l => ⟨l.toArray⟩) (fun l _ => by rw [cells5]; rfl) (fun _ _ => trivial) (fun l => by
    show l.toArray.size + 1 ≤ _
    rw [sum_ones, List.size_toArray]
    exact Nat.le_refl _)
theorem o_rec : OpenT enc Try.prog w 38 recL (fun _ => True) (fun r => r.data.size) :=
  (open_struct Try.underlying38 (by kernel_rfl) (open_fs rfl (open_str Try.underlying9) (open_fs (by kernel_rfl) (open_int Try.underlying3) (open_fs (by kernel_rfl) (open_int Try.underlying3) (open_fs (by kernel_rfl) (open_int Try.underlying3) (open_fs (by kernel_rfl) o_bytes (open_f0 _))))))).map
    (fun x => (⟨x.1, x.2.1, x.2.2.1, x.2.2.2.1, x.2.2.2.2.1⟩ : RecD)) (fun x _ => rfl) (fun _ _ => trivial) (fun x => by show x.2.2.2.2.1.size ≤ _; omega)
theorem o_que : OpenT enc Try.prog w 35 queL (fun _ => True) (fun _ => 0) :=
  (open_struct Try.underlying35 (by kernel_rfl) (open_fs rfl (open_str Try.underlying9) (open_fs (by kernel_rfl) (open_int Try.underlying3) (open_fs (by kernel_rfl) (open_int Try.underlying3) (open_f0 _))))).map
    (fun x => (⟨x.1, x.2.1, x.2.2.1⟩ : QueD)) (fun x _ => rfl) (fun _ _ => trivial) (fun x => Nat.zero_le _)
end
theorem own : ownKnob Try.prog.godebug = none := by kernel_rfl
theorem laid : laidOutB Try.prog = true := by kernel_rfl
theorem contract4 (H : Type) (enc : TypeId × Value → H) (W : World) (base : Nat) (args : Array Value) (ds gs : List (DataW H)) (before : List MemPlace)
    (hval : ∀ (j : Nat) t v, Try.f4.params[j]? = some t → args[j]? = some v → Value.okWide Try.prog W .any base t v)
    (hW : DataW.Whole enc Try.prog Try.f4.params.toList Rows.rrsetNegativesSpec.vars false W args.toList ds gs before) (hk : Rows.uptoSmall H (ds ++ gs) = true) :
    Calls Try.prog 4 args W fun e W' => ∃ v, e = .returned v ∧ Rows.rrsetNegativesSpec.post enc Try.prog Try.f4 false true false false W args v W' := by
  have hW' := hW
  obtain ⟨p, q, hA, hV, rfl, hfz, hnd⟩ := hW
  rw [Try.params4] at hA hval
  obtain ⟨v0, vs0, d0, ds0, p0, q0, hargs0, rfl, rfl, h0, r0⟩ := trodAll_cons hA
  obtain ⟨v1, vs1, d1, ds1, p1, q1, rfl, rfl, rfl, h1, r1⟩ := trodAll_cons r0
  obtain ⟨v2, vs2, d2, ds2, p2, q2, rfl, rfl, rfl, h2, r2⟩ := trodAll_cons r1
  obtain ⟨v3, vs3, d3, ds3, p3, q3, rfl, rfl, rfl, h3, r3⟩ := trodAll_cons r2
  obtain ⟨rfl, rfl, rfl⟩ := trodAll_nil r3
  obtain rfl : args = #[v0, v1, v2, v3] := by cases args; simp_all
  obtain ⟨x0, _, y0, m0⟩ := arg_agg o_que ag35 (hval 0 35 v0 rfl rfl) h0
  obtain ⟨x1, _, y1, m1⟩ := arg_one (open_int Try.underlying3) ag3 (hval 1 3 v1 rfl rfl) h1
  obtain ⟨x2, _, y2, m2⟩ := arg_agg o_rec ag38 (hval 2 38 v2 rfl rfl) h2
  obtain ⟨x3, _, y3, m3⟩ := arg_one (open_int Try.underlying3) ag3 (hval 3 3 v3 rfl rfl) h3
  have hb := upto_bound hk
  simp only [List.cons_append, Rows.uptoBulkAll] at hb
  refine (law_calls Try.func4 rfl rfl (w4 x0 x1 x2 x3 (by omega)) (relL_cons y0 (relL_cons y1 (relL_cons y2 (relL_cons y3 relL_nil))))).mono fun e W' ⟨he, hB⟩ => ⟨_, he, ?_⟩
  obtain ⟨rfl, _⟩ := trodVars_none hV
  exact law_post laid (by decide +kernel) rfl rfl rfl Try.underlying4 hW' hB
theorem lifted4 (os : Os) (started : os.Started) (H : Type) (enc : TypeId × Value → H) (F : Stop.Interp) :
    ReturnsInHanded {} Try.checked os 4 .any ((Rows.OpenSpec.upto Rows.rrsetNegativesSpec).pre6 enc Try.prog Try.f4 Rows.rrsetNegativesUptoRow.domain false) (((Rows.OpenSpec.upto Rows.rrsetNegativesSpec).at F).post enc Try.prog Try.f4 false true false false) := by
  refine returnsInHanded_of_cond (C := Try.checked) (s := Rows.OpenSpec.upto Rows.rrsetNegativesSpec) (k := Rows.uptoSmall) rfl own started (by kernel_rfl) Try.func4
    (OpenSpec.witness (enc := enc) (C := Try.checked) (s := Rows.OpenSpec.upto Rows.rrsetNegativesSpec) (k := Rows.uptoSmall) rfl false ⟨#[], #[.agg #[.string ⟨#[]⟩, .int .i64 0, .int .i64 0], .int .i64 0, .agg #[.string ⟨#[]⟩, .int .i64 0, .int .i64 0, .int .i64 0, .slice none 0 0], .int .i64 0], []⟩ 8 (by kernel_rfl) (by kernel_rfl) (by kernel_rfl)
      (x := ([.agg [.lit (.string []), .lit (.int .i64 0), .lit (.int .i64 0)], .lit (.int .i64 0), .agg [.lit (.string []), .lit (.int .i64 0), .lit (.int .i64 0), .lit (.int .i64 0), .nil], .lit (.int .i64 0)], [], [])) (by kernel_rfl) rfl (by kernel_rfl)) ?_
  intro W base args ds gs before hval hW _ hk _
  exact contract4 H enc W base args ds gs before hval hW hk
theorem negatives : Rows.RrsetNegativesUptoSaid :=
  OpenClaim.holds_of_cond 4 Try.f4 rfl rfl rfl rfl rfl rfl rfl ⟨rfl, rfl, rfl, rfl, rfl⟩ rfl rfl rfl rfl rfl (by kernel_rfl) Try.func4 (by kernel_rfl)
    (of_decide_eq_true (by kernel_rfl)) (by unfold Func.isWrapper; first | (rw [if_pos (by decide +kernel)]; kernel_rfl) | (rw [if_neg (by decide +kernel)]; exact ⟨rfl, rfl⟩))
    (fun os started H enc _ F => lifted4 os started H enc F)
end Go.Proofs.Ytoblmpfcjeammaa.V
namespace Go.Proofs.Ytoblmpfcjeammaa
theorem negatives_holds : Rows.RrsetNegativesUptoSaid := V.negatives
end Go.Proofs.Ytoblmpfcjeammaa
