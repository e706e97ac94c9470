/-
  No cell of these rows narrows 'for every input' (looked for: loops, veiled, ifaces, maps, wideKeys, modest, calm, conditions, laid).
  DERIVED. THE GIVEN ROWS OF THIS SEAT. 3 by the template 'for every input the law returns true; each argument reads behind the call as it read before'; 0 by the template 'total and deterministic' (their statements: YtoblmpfcjeammaaTotals.lean).
  GIVEN WITH THE SEED: the statements are not yours to turn. If you find one false, say at which input.
  Laid BY PROGRAM, IN A SANDBOX (cutbox-rows.mjs): the forced cells as the released guide's own fill.sh prints them over the translation 96f9142e9818eafd… (all of the seat's roots in one cut). By AI agents, Wed Nov 11 2026. No macro, syntax, notation, axiom, sorry.
-/
import Derived.Test.YtoblmpfcjeammaaChecked
import GoSem.Claim
import GoSem.ClaimJoined
import GoSem.ClaimMapViews
import Derived.JoinedTies
import Derived.KernelRfl
namespace Go.Proofs.Ytoblmpfcjeammaa
/- THE CELL 'sum', in the pinned program and in every row, IS THE sha256 OF THE DUMP (.gsa) THAT YtoblmpfcjeammaaProg.lean LOADS. Nothing in Lean hashes anything: it is a label: what it is worth is what the hold of that sum in a sandbox is worth. -/
noncomputable def Try.pinned : Pinned := { name := "ytoblmpfcjeammaa", sum := "96f9142e9818eafdbc4226aa671ed5fa8e167eb131d0ed6e4624738a66cba5c5", checked := Try.checked }
namespace Rows
def none {H : Type} : Left H := { results := [], args := [] }

/-- 'ciceronelaw09.RrsetGroups': WHATEVER THE INPUT: true; the input reads as it did. -/
def rrsetGroupsSpec : ChangeSpec := { name := "rrsetGroups", fn := fun _ => fun
  | [d1, d2, d3] => { results := [.lit (.bool true)], args := [d1, d2, d3] }
  | _ => none }
def rrsetGroupsRow : OpenClaim := { program := "ytoblmpfcjeammaa", sum := "96f9142e9818eafdbc4226aa671ed5fa8e167eb131d0ed6e4624738a66cba5c5", func := "cicerone/ciceronelaw09.RrsetGroups", spec := "rrsetGroups", inPlace := ["internal/bytealg.Compare"], unfollowed := true, recurses := true, plainKeys := false, apart := false }
def RrsetGroupsSaid : Prop := rrsetGroupsRow.holds Try.pinned (OpenSpec.ofChange rrsetGroupsSpec)

/-- ITS FALSE NEIGHBOUR: 'it returns false'. Refute it at one input. -/
def rrsetGroupsWrong : ChangeSpec := { name := "rrsetGroups", fn := fun _ => fun
  | [d1, d2, d3] => { results := [.lit (.bool false)], args := [d1, d2, d3] }
  | _ => none }
def RrsetGroupsWrongFalsely : Prop := rrsetGroupsRow.holds Try.pinned (OpenSpec.ofChange rrsetGroupsWrong)

/-- 'ciceronelaw09.RrsetNegatives': WHATEVER THE INPUT: true; the input reads as it did. -/
def rrsetNegativesSpec : ChangeSpec := { name := "rrsetNegatives", fn := fun _ => fun
  | [d1, d2, d3, d4] => { results := [.lit (.bool true)], args := [d1, d2, d3, d4] }
  | _ => none }
def rrsetNegativesRow : OpenClaim := { program := "ytoblmpfcjeammaa", sum := "96f9142e9818eafdbc4226aa671ed5fa8e167eb131d0ed6e4624738a66cba5c5", func := "cicerone/ciceronelaw09.RrsetNegatives", spec := "rrsetNegatives", inPlace := ["internal/bytealg.Compare"], unfollowed := true, recurses := true, plainKeys := false, apart := false }
def RrsetNegativesSaid : Prop := rrsetNegativesRow.holds Try.pinned (OpenSpec.ofChange rrsetNegativesSpec)

/-- ITS FALSE NEIGHBOUR: 'it returns false'. Refute it at one input. -/
def rrsetNegativesWrong : ChangeSpec := { name := "rrsetNegatives", fn := fun _ => fun
  | [d1, d2, d3, d4] => { results := [.lit (.bool false)], args := [d1, d2, d3, d4] }
  | _ => none }
def RrsetNegativesWrongFalsely : Prop := rrsetNegativesRow.holds Try.pinned (OpenSpec.ofChange rrsetNegativesWrong)

/-- 'ciceronelaw09.RrsetRecords': WHATEVER THE INPUT: true; the input reads as it did. -/
def rrsetRecordsSpec : ChangeSpec := { name := "rrsetRecords", fn := fun _ => fun
  | [d1, d2] => { results := [.lit (.bool true)], args := [d1, d2] }
  | _ => none }
def rrsetRecordsRow : OpenClaim := { program := "ytoblmpfcjeammaa", sum := "96f9142e9818eafdbc4226aa671ed5fa8e167eb131d0ed6e4624738a66cba5c5", func := "cicerone/ciceronelaw09.RrsetRecords", spec := "rrsetRecords", inPlace := ["internal/bytealg.Compare"], unfollowed := true, recurses := true, plainKeys := false, apart := false }
def RrsetRecordsSaid : Prop := rrsetRecordsRow.holds Try.pinned (OpenSpec.ofChange rrsetRecordsSpec)

/-- ITS FALSE NEIGHBOUR: 'it returns false'. Refute it at one input. -/
def rrsetRecordsWrong : ChangeSpec := { name := "rrsetRecords", fn := fun _ => fun
  | [d1, d2] => { results := [.lit (.bool false)], args := [d1, d2] }
  | _ => none }
def RrsetRecordsWrongFalsely : Prop := rrsetRecordsRow.holds Try.pinned (OpenSpec.ofChange rrsetRecordsWrong)

/- THE SECOND FORM. 'bulk': how many values and letters a reading holds, each counted each time it is reached (what is shared counts as often as it is met; a slice's spare places count too). A statement '..UptoSaid' is the law's where the arguments, and the package variables that the reading takes, are together of bulk at most 1048576: NARROWER than '..Said'. Prove '..Said' where nothing that the law and all that it calls make is longer than what came in: it says more and counts as full. Else prove '..UptoSaid'. A law counts once. -/
mutual
def uptoBulk {H : Type} : DataW H → Nat
  | .lit (.string bytes) => bytes.length + 1
  | .lit _ => 1
  | .nil => 1
  | .ptr d => uptoBulk d + 1
  | .slice elems spare => uptoBulkAll elems + uptoBulkAll spare + 1
  | .agg parts => uptoBulkAll parts + 1
  | .iface _ d => uptoBulk d + 1
  | .map entries => uptoBulkEntries entries + 1
  | .held _ => 1
def uptoBulkAll {H : Type} : List (DataW H) → Nat
  | [] => 0
  | d :: r => uptoBulk d + uptoBulkAll r
def uptoBulkEntries {H : Type} : List (Lit × DataW H) → Nat
  | [] => 0
  | x :: r => uptoBulkEntry x + uptoBulkEntries r
def uptoBulkEntry {H : Type} : Lit × DataW H → Nat
  | (.string bytes, d) => bytes.length + uptoBulk d + 1
  | (_, d) => uptoBulk d + 1
 end
def uptoSmall : (H : Type) → List (DataW H) → Bool := fun _ ds => decide (uptoBulkAll ds ≤ 1048576)
def OpenSpec.upto (s : _root_.Go.ChangeSpec) : _root_.Go.OpenSpec := { _root_.Go.OpenSpec.ofChange s with cond := some uptoSmall }

/-- 'ciceronelaw09.RrsetGroups', WHERE WHAT IT READS IS OF BULK AT MOST 1048576: true; the input reads as it did. -/
def rrsetGroupsUptoRow : OpenClaim := { program := "ytoblmpfcjeammaa", sum := "96f9142e9818eafdbc4226aa671ed5fa8e167eb131d0ed6e4624738a66cba5c5", func := "cicerone/ciceronelaw09.RrsetGroups", spec := "rrsetGroups", inPlace := ["internal/bytealg.Compare"], unfollowed := true, recurses := true, plainKeys := false, apart := false, narrowed := true }
def RrsetGroupsUptoSaid : Prop := rrsetGroupsUptoRow.holds Try.pinned (OpenSpec.upto rrsetGroupsSpec)

/-- 'ciceronelaw09.RrsetNegatives', WHERE WHAT IT READS IS OF BULK AT MOST 1048576: true; the input reads as it did. -/
def rrsetNegativesUptoRow : OpenClaim := { program := "ytoblmpfcjeammaa", sum := "96f9142e9818eafdbc4226aa671ed5fa8e167eb131d0ed6e4624738a66cba5c5", func := "cicerone/ciceronelaw09.RrsetNegatives", spec := "rrsetNegatives", inPlace := ["internal/bytealg.Compare"], unfollowed := true, recurses := true, plainKeys := false, apart := false, narrowed := true }
def RrsetNegativesUptoSaid : Prop := rrsetNegativesUptoRow.holds Try.pinned (OpenSpec.upto rrsetNegativesSpec)

/-- 'ciceronelaw09.RrsetRecords', WHERE WHAT IT READS IS OF BULK AT MOST 1048576: true; the input reads as it did. -/
def rrsetRecordsUptoRow : OpenClaim := { program := "ytoblmpfcjeammaa", sum := "96f9142e9818eafdbc4226aa671ed5fa8e167eb131d0ed6e4624738a66cba5c5", func := "cicerone/ciceronelaw09.RrsetRecords", spec := "rrsetRecords", inPlace := ["internal/bytealg.Compare"], unfollowed := true, recurses := true, plainKeys := false, apart := false, narrowed := true }
def RrsetRecordsUptoSaid : Prop := rrsetRecordsUptoRow.holds Try.pinned (OpenSpec.upto rrsetRecordsSpec)

end Rows
end Go.Proofs.Ytoblmpfcjeammaa
