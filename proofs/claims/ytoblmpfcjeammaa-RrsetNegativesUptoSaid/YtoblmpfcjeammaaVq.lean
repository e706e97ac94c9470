/-
  Regions whose order is drawn: the plan covers what Go's machine does. Conditions: none; plain definitions and lemmas, over any program.
-/
import Derived.Test.YtoblmpfcjeammaaVp
set_option linter.unusedVariables false
set_option linter.unusedSimpArgs false
namespace Go.Proofs.Ytoblmpfcjeammaa.V
open Go.RowKit
def cntF : List Bool → Nat
  | [] => 0
  | b :: r => (if b = true then 0 else 1) + cntF r
theorem cntF_set : ∀ (l : List Bool) (j : Nat), l[j]? = some false → cntF (l.set j true) + 1 = cntF l
  | [], j, h => by simp at h
  | b :: r, 0, h => by
    simp at h
    subst h
    simp [cntF]
    omega
  | b :: r, j + 1, h => by
    have := cntF_set r j (by simpa using h)
    simp only [List.set_cons_succ, cntF]
    omega
theorem cntF_zero : ∀ (l : List Bool), cntF l = 0 → ∀ j : Nat, l[j]? ≠ some false
  | [], _, j => by simp
  | b :: r, h, 0 => by
    simp only [cntF] at h
    intro hb
    simp at hb
    subst hb
    simp at h
  | b :: r, h, j + 1 => by
    simp only [cntF] at h
    have := cntF_zero r (by omega) j
    simpa using this
theorem listed_at {listed : Array Bool} {j : Nat} (h : j < listed.size) : (listed.getD j false = true ∨ listed.toList[j]? = some false) := by
  rw [Array.getElem?_toList]
  cases hb : listed[j] with
  | true => left; simp [Array.getD, h, hb]
  | false => right; simp [h, hb]
section
variable {P : Program} {X : Fx} {l : List Oper} {keep : List Nat} {K : Env → Tab → Prop} {Q' : Exit → Act → World → Prop}
theorem ready_nil {listed : Array Bool} (htopo : topoB l = true) (hsz : listed.size = l.length) (hr : Region.ready .any l.toArray listed = []) : ∀ j, j < l.length → listed.getD j false = true := by
  intro j
  induction j using Nat.strongRecOn with
  | _ j ih =>
    intro hj
    rcases listed_at (listed := listed) (j := j) (by omega) with h | h
    · exact h
    · exfalso
      have hm : j ∈ Region.ready .any l.toArray listed := by
        rw [mem_ready]
        refine ⟨?_, l[j], by simp [hj], fun x hx hb => ih x.on ?_ ?_⟩
        · rw [Array.getElem?_toList] at h
          simp [Array.getD_eq_getD_getElem?, h]
        · have := List.all_eq_true.1 htopo j (List.mem_range.2 hj)
          rw [List.getElem?_eq_getElem hj] at this
          have := Array.all_eq_true_iff_forall_mem.1 this x hx
          simpa [hb] using this
        · have := List.all_eq_true.1 htopo j (List.mem_range.2 hj)
          rw [List.getElem?_eq_getElem hj] at this
          have := Array.all_eq_true_iff_forall_mem.1 this x hx
          have : x.on < j := by simpa [hb] using this
          omega
      rw [hr] at hm
      cases hm

structure PInv (P : Program) (X : Fx) (l : List Oper) (keep : List Nat) (K : Env → Tab → Prop) (p : Plan) (done tk pend : List Nat) (listed : Array Bool) (e : Env) (t : Tab) (a : Act) (w : World) : Prop where
  ok : planOk l p done tk true = true
  run : aplan P l keep K p e t
  size : listed.size = l.length
  hlisted : ∀ j, j < l.length → (listed.getD j false = true ↔ (j ∈ done ∧ j ∉ pend))
  hpend : ∀ i ∈ pend, i ∈ tk ∧ i ∈ done ∧ Pend P l keep e t i
  war : ∀ i ∈ tk, ∀ j ∈ tk, ∀ oi oj d, l[i]? = some oi → l[j]? = some oj → oi.dst = some d → d ∈ oj.looksAt l.toArray → waitsOn oj i = true
  waw : ∀ i ∈ tk, ∀ j ∈ tk, i ≠ j → ∀ oi oj d, l[i]? = some oi → l[j]? = some oj → oi.dst = some d → oj.dst ≠ some d
  rel : Rel X (edrop e (dstsOf l pend)) t a w

theorem PInv.over {p : Plan} {done tk pend : List Nat} {listed : Array Bool} {e : Env} {t : Tab} {a : Act} {w : World} (h : PInv P X l keep K p done tk pend listed e t a w) (hall : ∀ j, j < l.length → listed.getD j false = true)
    (hQ : ∀ e t a w, K e t → Rel X e t a w → Q' .normal a w) : Q' .normal a w := by
  have hpend : pend = [] := by
    cases hp : pend with
    | nil => rfl
    | cons i r =>
      exfalso
      have hi : i ∈ pend := by rw [hp]; simp
      obtain ⟨_, _, ⟨o, d, ho, _⟩⟩ := h.hpend i hi
      exact ((h.hlisted i (List.getElem?_eq_some_iff.1 ho).1).1 (hall i (List.getElem?_eq_some_iff.1 ho).1)).2 hi
  have hK := plan_done (fun j hj => ((h.hlisted j hj).1 (hall j hj)).1) p true h.ok h.run
  refine hQ e t a w hK (rel_weak h.rel fun d => .inl ?_)
  rw [hpend, eget_edrop]
  rfl

theorem PInv.taken {i : Nat} {p : Plan} {done tk pend : List Nat} {listed : Array Bool} {e : Env} {t : Tab} {a : Act} {w : World} (h : PInv P X l keep K (.take i p) done tk pend listed e t a w) :
    ∃ e', PInv P X l keep K p (i :: done) (i :: tk) (i :: pend) listed e' t a w := by
  have hok := h.ok
  simp only [planOk, takeOk, Bool.and_eq_true] at hok
  obtain ⟨hok, hokp⟩ := hok
  split at hok
  · rename_i o ho
    split at hok
    · rename_i d hd
      simp only [Bool.and_eq_true, Bool.not_eq_true', Option.isNone_iff_eq_none] at hok
      obtain ⟨⟨⟨⟨⟨h1, h2⟩, h3⟩, h4⟩, h5⟩, h6⟩ := hok
      have hnd : i ∉ done := fun hm => by rw [inKs_iff.2 hm] at h1; cases h1
      have h5' : d ∉ o.looksAt l.toArray := by simpa using h5
      have h6' : ∀ k ∈ tk, ∃ ok, l[k]? = some ok ∧ d ∉ ok.looksAt l.toArray ∧ ok.dst ≠ some d ∧ ∀ dk, ok.dst = some dk → dk ∈ o.looksAt l.toArray → waitsOn o k = true := by
        intro k hk
        have := List.all_eq_true.1 h6 k hk
        split at this
        · rename_i ok hok
          simp only [Bool.and_eq_true, Bool.not_eq_true', bne_iff_ne, ne_eq] at this
          refine ⟨ok, hok, by simpa using this.1.1, this.1.2, fun dk hdk hl => ?_⟩
          have h7 := this.2
          rw [hdk] at h7
          simp only [Bool.or_eq_true, Bool.not_eq_true'] at h7
          rcases h7 with h7 | h7
          · simp at h7; exact absurd hl h7
          · exact h7
        · cases this
      have hrun := h.run
      simp only [aplan, nthOp_eq, ho, atakeAt] at hrun
      obtain ⟨v, hk, hsat⟩ := atake_spec _ hrun
      rw [hd] at hk
      simp only [eputo] at hk
      have hilt : i < l.length := (List.getElem?_eq_some_iff.1 ho).1
      refine ⟨eput e d v, hokp, hk, h.size, fun j hj => ?_, fun j hj => ?_, ?_, ?_, rel_weak h.rel fun d' => ?_⟩
      · rw [h.hlisted j hj]
        simp only [List.mem_cons]
        constructor
        · rintro ⟨h8, h9⟩
          exact ⟨.inr h8, fun h10 => h10.elim (fun e => hnd (e ▸ h8)) h9⟩
        · rintro ⟨h8, h9⟩
          exact ⟨h8.resolve_left (fun e => h9 (.inl e)), fun h10 => h9 (.inr h10)⟩
      · rcases List.mem_cons.1 hj with rfl | hj
        · refine ⟨by simp, by simp, ⟨o, d, ho, hd, h2, h3, h5', fun t' hle => ?_⟩⟩
          rw [aop_congr (e' := e) o (fun x hx => by
            cases x with
            | tmp d' =>
              simp only [aev, eget_eput]
              rw [if_neg (fun e0 => h5' (by subst e0; exact List.mem_append_left _ (List.mem_filterMap.2 ⟨.tmp d, by simpa using hx, rfl⟩)))]
            | _ => rfl)]
          have := aop_mono (P := P) hle o e h3 (fun v' => v' = v) hsat
          refine sat_mono _ this fun v' t1 ⟨e1, e2⟩ => ⟨?_, e2⟩
          rw [eget_eput, if_pos rfl, e1]
        · obtain ⟨g1, g2, ⟨o2, d2, g3, g4, g5, g6, g7, g8⟩⟩ := h.hpend j hj
          obtain ⟨ok, k1, k2, k3, _⟩ := h6' j g1
          rw [g3] at k1; injection k1 with k1; subst k1
          refine ⟨by simp [g1], by simp [g2], ⟨o2, d2, g3, g4, g5, g6, g7, fun t' hle => ?_⟩⟩
          rw [aop_congr (e' := e) o2 (fun x hx => by
            cases x with
            | tmp d' =>
              simp only [aev, eget_eput]
              rw [if_neg (fun e0 => k2 (by subst e0; exact List.mem_append_left _ (List.mem_filterMap.2 ⟨.tmp d, by simpa using hx, rfl⟩)))]
            | _ => rfl), eget_eput, if_neg (fun e0 => k3 (by rw [g4, e0]))]
          exact g8 t' hle
      · intro i1 h1' j1 h2' oi oj d1 e1 e2 e3 e4
        rcases List.mem_cons.1 h1' with q1 | q1 <;> rcases List.mem_cons.1 h2' with q2 | q2
        · subst q1; subst q2
          rw [ho] at e1 e2; injection e1 with e1; injection e2 with e2; subst e1; subst e2
          rw [hd] at e3; injection e3 with e3; subst e3
          exact absurd e4 h5'
        · subst q1
          obtain ⟨ok, k1, k2, _⟩ := h6' j1 q2
          rw [ho] at e1; injection e1 with e1; subst e1
          rw [hd] at e3; injection e3 with e3; subst e3
          rw [k1] at e2; injection e2 with e2; subst e2
          exact absurd e4 k2
        · subst q2
          obtain ⟨ok, k1, _, _, k4⟩ := h6' i1 q1
          rw [k1] at e1; injection e1 with e1; subst e1
          rw [ho] at e2; injection e2 with e2; subst e2
          exact k4 d1 e3 e4
        · exact h.war i1 q1 j1 q2 oi oj d1 e1 e2 e3 e4
      · intro i1 h1' j1 h2' hne oi oj d1 e1 e2 e3
        rcases List.mem_cons.1 h1' with q1 | q1 <;> rcases List.mem_cons.1 h2' with q2 | q2
        · exact absurd (q1.trans q2.symm) hne
        · subst q1
          obtain ⟨ok, k1, _, k3, _⟩ := h6' j1 q2
          rw [ho] at e1; injection e1 with e1; subst e1
          rw [hd] at e3; injection e3 with e3; subst e3
          rw [k1] at e2; injection e2 with e2; subst e2
          exact k3
        · subst q2
          obtain ⟨ok, k1, _, k3, _⟩ := h6' i1 q1
          rw [k1] at e1; injection e1 with e1; subst e1
          rw [ho] at e2; injection e2 with e2; subst e2
          rw [hd]
          intro e4; injection e4 with e4; subst e4
          exact k3 e3
        · exact h.waw i1 q1 j1 q2 hne oi oj d1 e1 e2 e3
      · rw [eget_edrop, eget_edrop, eget_eput]
        have hdd : inKs (dstsOf l (i :: pend)) d = true := inKs_iff.2 (mem_dstsOf.2 ⟨i, by simp, o, ho, hd⟩)
        by_cases e0 : d = d'
        · subst e0
          rw [if_pos hdd]
          exact .inr rfl
        · have hiff : inKs (dstsOf l (i :: pend)) d' = inKs (dstsOf l pend) d' := by
            rw [Bool.eq_iff_iff, inKs_iff, inKs_iff, mem_dstsOf, mem_dstsOf]
            constructor
            · rintro ⟨k, h8, o', h9, h10⟩
              rcases List.mem_cons.1 h8 with rfl | h8
              · rw [ho] at h9; injection h9 with h9; subst h9
                rw [hd] at h10; injection h10 with h10
                exact absurd h10 e0
              · exact ⟨k, h8, o', h9, h10⟩
            · rintro ⟨k, h8, h9⟩
              exact ⟨k, by simp [h8], h9⟩
          rw [hiff, if_neg e0]
          exact .inl rfl
    · cases hok
  · cases hok
theorem binds_listed {listed : Array Bool} {o : Oper} {i : Nat} (hw : waitsOn o i = true) (hall : ∀ x ∈ o.after, Region.binds .any x = true → listed.getD x.on false = true) : listed.getD i false = true := by
  obtain ⟨x, h1, h2, h3⟩ := waitsOn_iff.1 hw
  rw [← h3]
  exact hall x h1 h2
theorem PInv.unlisted {p : Plan} {done tk pend : List Nat} {listed : Array Bool} {e : Env} {t : Tab} {a : Act} {w : World} (h : PInv P X l keep K p done tk pend listed e t a w) {i : Nat} (hi : i ∈ pend) : ¬ listed.getD i false = true := by
  obtain ⟨_, _, ⟨o, d, ho, _⟩⟩ := h.hpend i hi
  exact fun hl => ((h.hlisted i (List.getElem?_eq_some_iff.1 ho).1).1 hl).2 hi
theorem getD_set {listed : Array Bool} {j k : Nat} (hj : j < listed.size) : (listed.setIfInBounds j true).getD k false = if j = k then true else listed.getD k false := by
  split
  · rename_i h; subst h; simp [hj]
  · rename_i h; rw [getD_set_ne false h]

/-- The machine does what is pending. -/
theorem PInv.reads {p : Plan} {done tk pend : List Nat} {listed : Array Bool} {e : Env} {t : Tab} {a : Act} {w : World} (h : PInv P X l keep K p done tk pend listed e t a w) {j : Nat} {o : Oper} (ho : l[j]? = some o) (hj : j ∈ pend)
    (hall : ∀ x ∈ o.after, Region.binds .any x = true → listed.getD x.on false = true) (hdst : dstOk X.n l = true) {next : Act → World → Prop}
    (hn : ∀ a' w', PInv P X l keep K p done tk (pend.filter (· ≠ j)) (listed.setIfInBounds j true) e t a' w' → next a' w') : Region.wanted o (yielded l.toArray a.tmps) = true ∧ o.wp P a w next Q' := by
  obtain ⟨g1, g2, ⟨o', d, k1, k2, k3, k4, k5, k6⟩⟩ := h.hpend j hj
  rw [ho] at k1; injection k1 with k1; subst k1
  refine ⟨by simp [Region.wanted, k3], ?_⟩
  have hjl : j < l.length := (List.getElem?_eq_some_iff.1 ho).1
  have hdis : ∀ d', d' ∈ o.looksAt l.toArray → d' ∉ dstsOf l pend := by
    intro d' hl hm
    obtain ⟨i, hi, oi, h1, h2⟩ := mem_dstsOf.1 hm
    exact h.unlisted hi (binds_listed (h.war i (h.hpend i hi).1 j g1 oi o d' h1 ho h2 hl) hall)
  obtain ⟨cur, hs, hD, hE, hH, hX⟩ := h.rel
  have hsat := k6 t (onlyT_le keep t)
  rw [aop_congr (e' := edrop e (dstsOf l pend)) o (fun x hx => by
    cases x with
    | tmp d' =>
      have hl : d' ∈ o.looksAt l.toArray := List.mem_append_left _ (List.mem_filterMap.2 ⟨.tmp d', by simpa using hx, rfl⟩)
      simp only [aev, eget_edrop]
      rw [if_neg (fun e0 => hdis d' hl (inKs_iff.1 e0))]
    | _ => rfl)] at hsat
  obtain ⟨nx, v, av, t', w', cur', h1, h2, ⟨rfl, rfl⟩, h4, h5, h6⟩ := good_aop (P := P) o hH hE _ hsat
  have hdn : ∀ d, o.dst = some d → d < a.tmps.size := fun d hd => by
    have := List.all_eq_true.1 hdst o (List.mem_of_getElem? ho)
    rw [hd] at this
    rw [hs]
    simpa using this
  have hr : Rel X (eputo (edrop e (dstsOf l pend)) o.dst (eget e d)) t' (a.put o.dst v) w' := ⟨cur', by rw [put_size]; exact hs, by rw [put_defers]; exact hD, rel_put hdn hE h5 h6, h4, hX.trans h5⟩
  have hnext : next (a.put o.dst v) w' := by
    refine hn _ _ ⟨h.ok, h.run, by simpa using h.size, fun k hk => ?_, fun i hi => ?_, h.war, h.waw, rel_weak hr fun d' => ?_⟩
    · rw [getD_set (by rw [h.size]; exact hjl)]
      split
      · rename_i e0; subst e0
        simp [g2]
      · rename_i e0
        rw [h.hlisted k hk]
        simp only [List.mem_filter, decide_eq_true_eq, not_and]
        constructor
        · exact fun ⟨a, b⟩ => ⟨a, fun c => absurd c b⟩
        · exact fun ⟨a, b⟩ => ⟨a, fun c => b c (fun e1 => e0 e1.symm)⟩
    · exact h.hpend i (List.mem_filter.1 hi).1
    · rw [k2]
      simp only [eputo, eget_eput, eget_edrop]
      by_cases e0 : d = d'
      · subst e0
        left
        rw [if_pos rfl, if_neg (fun hm => ?_)]
        obtain ⟨i, hi, oi, q1, q2⟩ := mem_dstsOf.1 (inKs_iff.1 hm)
        have hi' := List.mem_filter.1 hi
        exact h.waw j g1 i (h.hpend i hi'.1).1 (fun e1 => by simp [e1] at hi') o oi d ho q1 k2 q2
      · rw [if_neg e0]
        by_cases hm : inKs (dstsOf l (pend.filter (· ≠ j))) d' = true
        · right; rw [if_pos hm]
        · left
          rw [if_neg hm, if_neg (fun hm' => hm (inKs_iff.2 ?_))]
          obtain ⟨i, hi, oi, q1, q2⟩ := mem_dstsOf.1 (inKs_iff.1 hm')
          refine mem_dstsOf.2 ⟨i, List.mem_filter.2 ⟨hi, ?_⟩, oi, q1, q2⟩
          simp only [decide_eq_true_eq]
          intro e1
          subst e1
          rw [ho] at q1; injection q1 with q1; subst q1
          rw [k2] at q2; injection q2 with q2
          exact e0 q2
  unfold Oper.wp
  rw [h1]
  rcases h2 with rfl | ⟨rfl, rfl⟩
  · rw [Oper.upon_value]; exact hnext
  · rw [Oper.upon_skip]; exact hnext

/-- The machine does what the plan says next. -/
theorem PInv.goes {p : Plan} {done tk pend : List Nat} {listed : Array Bool} {e : Env} {t : Tab} {a : Act} {w : World} (h : PInv P X l keep K p done tk pend listed e t a w) {j : Nat} {o : Oper} (ho : l[j]? = some o) (hj : j ∉ pend) (hun : ¬ listed.getD j false = true)
    (hnt : ∀ i q, p ≠ .take i q) (hall : ∀ x ∈ o.after, Region.binds .any x = true → listed.getD x.on false = true) (hdst : dstOk X.n l = true) {next : Act → World → Prop}
    (hn : ∀ p' e' t' a' w', PInv P X l keep K p' (j :: done) tk pend (listed.setIfInBounds j true) e' t' a' w' → next a' w') : (Region.wanted o (yielded l.toArray a.tmps) = true ∧ o.wp P a w next Q') ∨ (¬ Region.wanted o (yielded l.toArray a.tmps) = true ∧ next (a.put o.dst undef) w) := by
  have hjl : j < l.length := (List.getElem?_eq_some_iff.1 ho).1
  have hjd : j ∉ done := fun hd => hun ((h.hlisted j hjl).2 ⟨hd, hj⟩)
  have hon : ∀ x ∈ o.after, Region.binds .any x = true → x.on ∈ done := fun x hx hb => by
    have hl := hall x hx hb
    rcases Nat.lt_or_ge x.on l.length with hlt | hge
    · exact ((h.hlisted x.on hlt).1 hl).1
    · rw [← h.size] at hge
      simp [Array.getD_eq_getD_getElem?, Array.getElem?_eq_none hge] at hl
  have hr : readyB o done = true := by
    unfold readyB
    rw [Array.all_eq_true_iff_forall_mem]
    intro x hx
    cases hb : Region.binds .any x with
    | false => rfl
    | true => simpa using inKs_iff.2 (hon x hx hb)
  obtain ⟨o', last, p', k1, k2, k3, k4⟩ := plan_go p true h.ok h.run (plan_heads ho hjd hr p h.ok hnt)
  rw [ho] at k1; injection k1 with k1; subst k1
  -- nothing that is pending is in the way
  have way : ∀ i ∈ pend, ∃ oi d, l[i]? = some oi ∧ oi.dst = some d ∧ d ∉ o.looksAt l.toArray ∧ o.dst ≠ some d ∧ (∀ d', o.dst = some d' → d' ∉ oi.looksAt l.toArray) ∧ last = false := by
    intro i hi
    obtain ⟨g1, g2, ⟨oi, d, q1, q2, _⟩⟩ := h.hpend i hi
    simp only [goOk, ho, Bool.and_eq_true] at k2
    have := List.all_eq_true.1 k2.2 i g1
    rw [q1] at this
    simp only [Bool.or_eq_true] at this
    rcases this with h8 | h8
    · exact absurd (binds_listed h8 hall) (h.unlisted hi)
    · simp only [q2, Bool.and_eq_true, Bool.not_eq_true', bne_iff_ne, ne_eq] at h8
      refine ⟨oi, d, q1, q2, by simpa using h8.1.2.1, h8.1.2.2, fun d' hd' => ?_, h8.1.1⟩
      have h9 := h8.2
      rw [hd'] at h9
      simpa using h9
  have hdis : ∀ d', d' ∈ o.looksAt l.toArray → d' ∉ dstsOf l pend := by
    intro d' hl hm
    obtain ⟨i, hi, oi, q1, q2⟩ := mem_dstsOf.1 hm
    obtain ⟨oi', d, r1, r2, r3, _⟩ := way i hi
    rw [q1] at r1; injection r1 with r1; subst r1
    rw [q2] at r2; injection r2 with r2; subst r2
    exact r3 hl
  have hd1 : ∀ d, o.dst = some d → d < X.n := fun d hd => by
    have := List.all_eq_true.1 hdst o (List.mem_of_getElem? ho)
    rw [hd] at this
    simpa using this
  have hg : aguard P l o (edrop e (dstsOf l pend)) t (fun e1' t1 => ∃ e1, agone last keep t (aplan P l keep K p') e1 t1 ∧ (∀ d, some d ≠ o.dst → eget e1 d = eget e d) ∧ ∀ d, eget e1' d = eget (edrop e1 (dstsOf l pend)) d) := by
    refine aguard_sim o (fun d hd => ?_) k4 fun e1 e1' t1 s1 s2 s3 hk => ⟨e1, hk, s1, fun d => ?_⟩
    · rw [eget_edrop, if_neg (fun e0 => hdis d hd (inKs_iff.1 e0))]
    · rw [eget_edrop]
      by_cases hdd : some d = o.dst
      · rw [← s3 d hdd, if_neg (fun hm => ?_)]
        obtain ⟨i, hi, oi, q1, q2⟩ := mem_dstsOf.1 (inKs_iff.1 hm)
        obtain ⟨oi', d', r1, r2, _, r4, _⟩ := way i hi
        rw [q1] at r1; injection r1 with r1; subst r1
        rw [q2] at r2; injection r2 with r2; subst r2
        exact r4 hdd.symm
      · rw [s2 d hdd, eget_edrop]
        split
        · rfl
        · exact (s1 d hdd).symm
  refine aguard_sound hdst hd1 h.rel hg fun e1' t1 a' w' ⟨e1, ⟨hkeep, hrun⟩, s1, s2⟩ hrel => hn p' e1 t1 a' w' ⟨k3, hrun, by simpa using h.size, fun k hk => ?_, fun i hi => ?_, h.war, h.waw, rel_weak hrel fun d => .inl (s2 d).symm⟩
  · rw [getD_set (by rw [h.size]; exact hjl)]
    split
    · rename_i e0; subst e0
      simp [hj]
    · rename_i e0
      rw [h.hlisted k hk]
      simp only [List.mem_cons]
      constructor
      · exact fun ⟨a, b⟩ => ⟨.inr a, b⟩
      · exact fun ⟨a, b⟩ => ⟨a.resolve_left (fun e1 => e0 e1.symm), b⟩
  · obtain ⟨g1, g2, ⟨oi, d, q1, q2, q3, q4, q5, q6⟩⟩ := h.hpend i hi
    obtain ⟨oi', d', r1, r2, r3, r4, r5, r6⟩ := way i hi
    rw [q1] at r1; injection r1 with r1; subst r1
    rw [q2] at r2; injection r2 with r2; subst r2
    refine ⟨g1, by simp [g2], ⟨oi, d, q1, q2, q3, q4, q5, fun t' hle => ?_⟩⟩
    have hk := hkeep.resolve_left (by rw [r6]; simp)
    rw [hk] at hle
    rw [aop_congr (e' := e) oi (fun x hx => by
      cases x with
      | tmp d' =>
        simp only [aev]
        refine s1 d' (fun e0 => r5 d' e0.symm (List.mem_append_left _ (List.mem_filterMap.2 ⟨.tmp d', by simpa using hx, rfl⟩)))
      | _ => rfl), s1 d (fun e0 => r4 e0.symm)]
    exact q6 t' hle

theorem plan_sound (hdst : dstOk X.n l = true) (htopo : topoB l = true) (hQ : ∀ e t a w, K e t → Rel X e t a w → Q' .normal a w) :
    ∀ (n : Nat) (p : Plan) (done tk pend : List Nat) (listed : Array Bool) (e : Env) (t : Tab) (a : Act) (w : World), PInv P X l keep K p done tk pend listed e t a w → cntF listed.toList ≤ n → wpAny P .any l.toArray Q' n listed a w := by
  intro n
  induction n with
  | zero =>
    intro p
    induction p with
    | take i q ihp =>
      intro done tk pend listed e t a w h hc
      obtain ⟨e', h'⟩ := h.taken
      exact ihp _ _ _ _ _ _ _ _ h' hc
    | _ =>
      intro done tk pend listed e t a w h hc
      have hall : ∀ j, j < l.length → listed.getD j false = true := fun j hj => (listed_at (listed := listed) (by rw [h.size]; exact hj)).resolve_right (cntF_zero _ (by omega) j)
      refine ⟨?_, h.over hall hQ⟩
      cases hr : Region.ready .any l.toArray listed with
      | nil => rfl
      | cons j r =>
        exfalso
        have hm : j ∈ Region.ready .any l.toArray listed := by rw [hr]; simp
        obtain ⟨h1, o, h2, _⟩ := mem_ready.1 hm
        have hjl : j < l.length := by simpa using (Array.getElem?_eq_some_iff.1 h2).1
        have := hall j hjl
        have hjs : j < listed.size := by rw [h.size]; exact hjl
        simp [Array.getD, hjs] at h1 this
        rw [h1] at this
        cases this
  | succ n ih =>
    intro p
    induction p with
    | take i q ihp =>
      intro done tk pend listed e t a w h hc
      obtain ⟨e', h'⟩ := h.taken
      exact ihp _ _ _ _ _ _ _ _ h' hc
    | _ =>
      intro done tk pend listed e t a w h hc
      refine ⟨fun hr => h.over (ready_nil htopo h.size hr) hQ, fun j hm => ?_⟩
      obtain ⟨h1, o, h2, hall⟩ := mem_ready.1 hm
      have hjl : j < l.length := by simpa using (Array.getElem?_eq_some_iff.1 h2).1
      have ho : l[j]? = some o := by simpa using h2
      have hjs : j < listed.size := by rw [h.size]; exact hjl
      have hun : ¬ listed.getD j false = true := by
        simp [Array.getD, hjs] at h1 ⊢
        exact h1
      have hcnt : cntF (listed.setIfInBounds j true).toList ≤ n := by
        have := cntF_set listed.toList j ((listed_at hjs).resolve_left hun)
        rw [Array.toList_setIfInBounds]
        omega
      have hfin : (Region.wanted o (yielded l.toArray a.tmps) = true ∧ o.wp P a w (wpAny P .any l.toArray Q' n (listed.setIfInBounds j true)) Q') ∨ (¬ Region.wanted o (yielded l.toArray a.tmps) = true ∧ wpAny P .any l.toArray Q' n (listed.setIfInBounds j true) (a.put o.dst undef) w) := by
        by_cases hp : j ∈ pend
        · exact .inl (h.reads ho hp hall hdst fun a' w' h' => ih _ _ _ _ _ _ _ _ _ h' hcnt)
        · exact h.goes ho hp hun (by simp) hall hdst fun p' e' t' a' w' h' => ih _ _ _ _ _ _ _ _ _ h' hcnt
      unfold wpOp
      simp only [h2]
      rcases hfin with ⟨f1, f2⟩ | ⟨f1, f2⟩
      · rw [if_pos f1]; exact .inl f2
      · rw [if_neg f1]; exact f2

theorem HW_draw {Q : Exit → Env → Tab → Prop} {e : Env} {t : Tab} {id : Nat} (keep : List Nat) (p : Plan) (hm : P.follows .mixedOrders = true) (hdst : dstOk X.n l = true) (hok : (topoB l && planOk l p [] [] true) = true) (h : aplan P l keep (Q .normal) p e t) : HW P X (.region id l.toArray true) Q e t := by
  intro a w hR
  rw [Bool.and_eq_true] at hok
  refine wp_region_any hm ?_
  obtain ⟨cur, hs, hD, hE, hH, hX⟩ := hR
  obtain ⟨h1, h2⟩ := hH.same (w' := { w with drawn := w.drawn + 1 }) rfl rfl rfl rfl
  have hsize : (Array.replicate l.toArray.size false).size = l.length := by simp
  refine plan_sound (K := Q .normal) hdst hok.1 (fun e t a w hk hr => ⟨e, t, hk, hr⟩) l.toArray.size p [] [] [] (Array.replicate l.toArray.size false) e t a _ ⟨hok.2, h, hsize, fun j hj => ?_, (fun i hi => by cases hi), (fun i hi => by cases hi), (fun i hi => by cases hi), ?_⟩ ?_
  · simp [Array.getD_eq_getD_getElem?, hj]
  · refine rel_weak (e := e) ⟨cur, hs, hD, fun d => h2.rel (hE d), h1, hX.trans h2⟩ fun d => .inl ?_
    rw [eget_edrop]
    rfl
  · have : ∀ m : Nat, cntF (List.replicate m false) ≤ m := fun m => by
      induction m with
      | zero => simp [cntF]
      | succ m ih => simp only [List.replicate_succ, cntF]; simp; omega
    simpa using this l.length
end
section
variable {P : Program} {l : List Oper} {keep : List Nat} {k K : Env → Tab → Prop} {e : Env} {t : Tab}
theorem takeAt_some {o : Oper} : atakeAt P keep k e t (some o) = atake (aop P o e (onlyT keep t)) (onlyT keep t) o.dst e t k := rfl
theorem goAt_some {o : Oper} {last : Bool} : agoAt P l keep last k e t (some o) = aguard P l o e t (agone last keep t k) := rfl
variable {d : Option Nat} {q : TypeId} {pos : String} {af : Array Edge}
theorem guard_none {op : Op} : aguard P l ⟨d, op, q, pos, af, none⟩ e t k = aone P ⟨d, op, q, pos, af, none⟩ e t k := rfl
theorem guard_some {op : Op} {j : Nat} {b : Bool} : aguard P l ⟨d, op, q, pos, af, some (j, b)⟩ e t k = agAt P ⟨d, op, q, pos, af, some (j, b)⟩ e t k b (nthDst l j) := by
  simp only [aguard, nthDst_eq]
  cases l[j]? with
  | none => rfl
  | some o =>
    simp only [Option.bind_some]
    cases o.dst with
    | none => rfl
    | some d => rfl
theorem atake_congr {x x' : AR} {tk tk' t' : Tab} {e' : Env} (hx : x = x') (hk : tk = tk') (he : e = e') (ht : t = t') : atake x tk d e t k = atake x' tk' d e' t' k := by subst hx; subst hk; subst he; subst ht; rfl
theorem takeAt_congr {o o' : Option Oper} {t' : Tab} {e' : Env} (ho : o = o') (he : e = e') (ht : t = t') : atakeAt P keep k e t o = atakeAt P keep k e' t' o' := by subst ho; subst he; subst ht; rfl
theorem goAt_congr {o o' : Option Oper} {last : Bool} {t' : Tab} {e' : Env} (ho : o = o') (he : e = e') (ht : t = t') : agoAt P l keep last k e t o = agoAt P l keep last k e' t' o' := by subst ho; subst he; subst ht; rfl
theorem gone_congr {last : Bool} {t0 t1 t1' : Tab} {e1 e1' : Env} (he : e1 = e1') (ht : t1 = t1') : agone last keep t0 k e1 t1 = agone last keep t0 k e1' t1' := by subst he; subst ht; rfl
theorem aplan_congr {p : Plan} {t' : Tab} {e' : Env} (he : e = e') (ht : t = t') : aplan P l keep K p e t = aplan P l keep K p e' t' := by subst he; subst ht; rfl
attribute [congr] atake_congr takeAt_congr goAt_congr gone_congr aplan_congr
theorem gone_last {t1 : Tab} {e1 : Env} : agone true keep t k e1 t1 = k e1 t1 := by simp [agone]
theorem gone_not {t1 : Tab} {e1 : Env} : agone false keep t k e1 t1 = (onlyT keep t1 = onlyT keep t ∧ k e1 t1) := by simp [agone]
theorem plan_d {t : Tab} : aplan P l keep K .done e t = K e t := rfl
theorem plan_t {i : Nat} {p : Plan} : aplan P l keep K (.take i p) e t = atakeAt P keep (aplan P l keep K p) e t (nthOp l i) := rfl
theorem plan_g {i : Nat} {last : Bool} {p : Plan} : aplan P l keep K (.go i last p) e t = agoAt P l keep last (aplan P l keep K p) e t (nthOp l i) := rfl
theorem plan_o {p p' : Plan} : aplan P l keep K (.or p p') e t = (aplan P l keep K p e t ∧ aplan P l keep K p' e t) := rfl
theorem nth_cons {o : Oper} {j : Nat} : nthOp (o :: l) j = if j = 0 then some o else nthOp l (j - 1) := rfl
theorem take_ok {v : AV} {t1 tk : Tab} : atake (.ok v t1) tk d e t k = (t1 = tk ∧ k (eputo e d v) t) := rfl
theorem take_need {p : Prop} {x : AR} {tk : Tab} : atake (.need p x) tk d e t k = (p ∧ atake x tk d e t k) := rfl
theorem opt_nil : onlyT keep [] = [] := rfl
end
attribute [go_sem] takeAt_some goAt_some guard_none guard_some gone_last gone_not onlyT nth_cons plan_d plan_t plan_g plan_o take_ok take_need aop abuiltin amakeFunc
end Go.Proofs.Ytoblmpfcjeammaa.V
