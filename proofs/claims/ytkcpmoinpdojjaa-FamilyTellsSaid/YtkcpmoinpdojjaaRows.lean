/-
  No cell of these rows narrows 'for every input' (looked for: loops, veiled, ifaces, maps, wideKeys, modest, calm, conditions, laid).
  DERIVED. THE GIVEN ROWS OF THIS SEAT. 10 by the template 'for every input the law returns true; each argument reads behind the call as it read before'; 0 by the template 'total and deterministic' (their statements: YtkcpmoinpdojjaaTotals.lean).
  GIVEN WITH THE SEED: the statements are not yours to turn. If you find one false, say at which input.
  Laid BY PROGRAM, IN A SANDBOX (cutbox-rows.mjs): the forced cells as the released guide's own fill.sh prints them over the translation 75f4caa1043f306b… (all of the seat's roots in one cut). By AI agents, Wed Nov 11 2026. No macro, syntax, notation, axiom, sorry.
-/
import Derived.Test.YtkcpmoinpdojjaaChecked
import GoSem.Claim
import GoSem.ClaimJoined
import GoSem.ClaimMapViews
import Derived.JoinedTies
import Derived.KernelRfl
namespace Go.Proofs.Ytkcpmoinpdojjaa
/- THE CELL 'sum', in the pinned program and in every row, IS THE sha256 OF THE DUMP (.gsa) THAT YtkcpmoinpdojjaaProg.lean LOADS. Nothing in Lean hashes anything: it is a label: what it is worth is what the hold of that sum in a sandbox is worth. -/
noncomputable def Try.pinned : Pinned := { name := "ytkcpmoinpdojjaa", sum := "75f4caa1043f306b69404957972603f7b83bf68af5deace6d1f7f3cd1cbac27d", checked := Try.checked }
namespace Rows
def none {H : Type} : Left H := { results := [], args := [] }

/-- 'vivariumlaw.SystemSteps': WHATEVER THE INPUT: true; the input reads as it did. -/
def systemStepsSpec : ChangeSpec := { name := "systemSteps", fn := fun _ => fun
  | [d1, d2] => { results := [.lit (.bool true)], args := [d1, d2] }
  | _ => none }
def systemStepsRow : OpenClaim := { program := "ytkcpmoinpdojjaa", sum := "75f4caa1043f306b69404957972603f7b83bf68af5deace6d1f7f3cd1cbac27d", func := "vivarium/vivariumlaw.SystemSteps", spec := "systemSteps", plainKeys := false, apart := false }
def SystemStepsSaid : Prop := systemStepsRow.holds Try.pinned (OpenSpec.ofChange systemStepsSpec)

/-- ITS FALSE NEIGHBOUR: 'it returns false'. Refute it at one input. -/
def systemStepsWrong : ChangeSpec := { name := "systemSteps", fn := fun _ => fun
  | [d1, d2] => { results := [.lit (.bool false)], args := [d1, d2] }
  | _ => none }
def SystemStepsWrongFalsely : Prop := systemStepsRow.holds Try.pinned (OpenSpec.ofChange systemStepsWrong)

/-- 'vivariumlaw.TableDoes': WHATEVER THE INPUT: true; the input reads as it did. -/
def tableDoesSpec : ChangeSpec := { name := "tableDoes", fn := fun _ => fun
  | [d1, d2] => { results := [.lit (.bool true)], args := [d1, d2] }
  | _ => none }
def tableDoesRow : OpenClaim := { program := "ytkcpmoinpdojjaa", sum := "75f4caa1043f306b69404957972603f7b83bf68af5deace6d1f7f3cd1cbac27d", func := "vivarium/vivariumlaw.TableDoes", spec := "tableDoes", plainKeys := false, apart := false }
def TableDoesSaid : Prop := tableDoesRow.holds Try.pinned (OpenSpec.ofChange tableDoesSpec)

/-- ITS FALSE NEIGHBOUR: 'it returns false'. Refute it at one input. -/
def tableDoesWrong : ChangeSpec := { name := "tableDoes", fn := fun _ => fun
  | [d1, d2] => { results := [.lit (.bool false)], args := [d1, d2] }
  | _ => none }
def TableDoesWrongFalsely : Prop := tableDoesRow.holds Try.pinned (OpenSpec.ofChange tableDoesWrong)

/-- 'vivariumlaw.WorldDoes': WHATEVER THE INPUT: true; the input reads as it did. -/
def worldDoesSpec : ChangeSpec := { name := "worldDoes", fn := fun _ => fun
  | [d] => { results := [.lit (.bool true)], args := [d] }
  | _ => none }
def worldDoesRow : OpenClaim := { program := "ytkcpmoinpdojjaa", sum := "75f4caa1043f306b69404957972603f7b83bf68af5deace6d1f7f3cd1cbac27d", func := "vivarium/vivariumlaw.WorldDoes", spec := "worldDoes", unfollowed := true, recurses := true, plainKeys := false, apart := false }
def WorldDoesSaid : Prop := worldDoesRow.holds Try.pinned (OpenSpec.ofChange worldDoesSpec)

/-- ITS FALSE NEIGHBOUR: 'it returns false'. Refute it at one input. -/
def worldDoesWrong : ChangeSpec := { name := "worldDoes", fn := fun _ => fun
  | [d] => { results := [.lit (.bool false)], args := [d] }
  | _ => none }
def WorldDoesWrongFalsely : Prop := worldDoesRow.holds Try.pinned (OpenSpec.ofChange worldDoesWrong)

/-- 'vivariumlaw.FamilyDoes': WHATEVER THE INPUT: true; the input reads as it did. -/
def familyDoesSpec : ChangeSpec := { name := "familyDoes", fn := fun _ => fun
  | [d] => { results := [.lit (.bool true)], args := [d] }
  | _ => none }
def familyDoesRow : OpenClaim := { program := "ytkcpmoinpdojjaa", sum := "75f4caa1043f306b69404957972603f7b83bf68af5deace6d1f7f3cd1cbac27d", func := "vivarium/vivariumlaw.FamilyDoes", spec := "familyDoes", unfollowed := true, recurses := true, plainKeys := false, apart := false }
def FamilyDoesSaid : Prop := familyDoesRow.holds Try.pinned (OpenSpec.ofChange familyDoesSpec)

/-- ITS FALSE NEIGHBOUR: 'it returns false'. Refute it at one input. -/
def familyDoesWrong : ChangeSpec := { name := "familyDoes", fn := fun _ => fun
  | [d] => { results := [.lit (.bool false)], args := [d] }
  | _ => none }
def FamilyDoesWrongFalsely : Prop := familyDoesRow.holds Try.pinned (OpenSpec.ofChange familyDoesWrong)

/-- 'vivariumlaw.FamilyTells': WHATEVER THE INPUT: true; the input reads as it did. -/
def familyTellsSpec : ChangeSpec := { name := "familyTells", fn := fun _ => fun
  | [d1, d2] => { results := [.lit (.bool true)], args := [d1, d2] }
  | _ => none }
def familyTellsRow : OpenClaim := { program := "ytkcpmoinpdojjaa", sum := "75f4caa1043f306b69404957972603f7b83bf68af5deace6d1f7f3cd1cbac27d", func := "vivarium/vivariumlaw.FamilyTells", spec := "familyTells", unfollowed := true, recurses := true, plainKeys := false, apart := false }
def FamilyTellsSaid : Prop := familyTellsRow.holds Try.pinned (OpenSpec.ofChange familyTellsSpec)

/-- ITS FALSE NEIGHBOUR: 'it returns false'. Refute it at one input. -/
def familyTellsWrong : ChangeSpec := { name := "familyTells", fn := fun _ => fun
  | [d1, d2] => { results := [.lit (.bool false)], args := [d1, d2] }
  | _ => none }
def FamilyTellsWrongFalsely : Prop := familyTellsRow.holds Try.pinned (OpenSpec.ofChange familyTellsWrong)

/-- 'vivariumlaw.DiffBetweens': WHATEVER THE INPUT: true; the input reads as it did. -/
def diffBetweensSpec : ChangeSpec := { name := "diffBetweens", fn := fun _ => fun
  | [d1, d2] => { results := [.lit (.bool true)], args := [d1, d2] }
  | _ => none }
def diffBetweensRow : OpenClaim := { program := "ytkcpmoinpdojjaa", sum := "75f4caa1043f306b69404957972603f7b83bf68af5deace6d1f7f3cd1cbac27d", func := "vivarium/vivariumlaw.DiffBetweens", spec := "diffBetweens", inPlace := ["maps.clone"], unfollowed := true, recurses := true, plainKeys := false, apart := false }
def DiffBetweensSaid : Prop := diffBetweensRow.holds Try.pinned (OpenSpec.ofChange diffBetweensSpec)

/-- ITS FALSE NEIGHBOUR: 'it returns false'. Refute it at one input. -/
def diffBetweensWrong : ChangeSpec := { name := "diffBetweens", fn := fun _ => fun
  | [d1, d2] => { results := [.lit (.bool false)], args := [d1, d2] }
  | _ => none }
def DiffBetweensWrongFalsely : Prop := diffBetweensRow.holds Try.pinned (OpenSpec.ofChange diffBetweensWrong)

/-- 'vivariumlaw.DiffInverts': WHATEVER THE INPUT: true; the input reads as it did. -/
def diffInvertsSpec : ChangeSpec := { name := "diffInverts", fn := fun _ => fun
  | [d] => { results := [.lit (.bool true)], args := [d] }
  | _ => none }
def diffInvertsRow : OpenClaim := { program := "ytkcpmoinpdojjaa", sum := "75f4caa1043f306b69404957972603f7b83bf68af5deace6d1f7f3cd1cbac27d", func := "vivarium/vivariumlaw.DiffInverts", spec := "diffInverts", inPlace := ["maps.clone"], unfollowed := true, recurses := true, plainKeys := false, apart := false }
def DiffInvertsSaid : Prop := diffInvertsRow.holds Try.pinned (OpenSpec.ofChange diffInvertsSpec)

/-- ITS FALSE NEIGHBOUR: 'it returns false'. Refute it at one input. -/
def diffInvertsWrong : ChangeSpec := { name := "diffInverts", fn := fun _ => fun
  | [d] => { results := [.lit (.bool false)], args := [d] }
  | _ => none }
def DiffInvertsWrongFalsely : Prop := diffInvertsRow.holds Try.pinned (OpenSpec.ofChange diffInvertsWrong)

/-- 'vivariumlaw.DiffApplies': WHATEVER THE INPUT: true; the input reads as it did. -/
def diffAppliesSpec : ChangeSpec := { name := "diffApplies", fn := fun _ => fun
  | [d1, d2] => { results := [.lit (.bool true)], args := [d1, d2] }
  | _ => none }
def diffAppliesRow : OpenClaim := { program := "ytkcpmoinpdojjaa", sum := "75f4caa1043f306b69404957972603f7b83bf68af5deace6d1f7f3cd1cbac27d", func := "vivarium/vivariumlaw.DiffApplies", spec := "diffApplies", inPlace := ["maps.clone"], unfollowed := true, recurses := true, plainKeys := false, apart := false }
def DiffAppliesSaid : Prop := diffAppliesRow.holds Try.pinned (OpenSpec.ofChange diffAppliesSpec)

/-- ITS FALSE NEIGHBOUR: 'it returns false'. Refute it at one input. -/
def diffAppliesWrong : ChangeSpec := { name := "diffApplies", fn := fun _ => fun
  | [d1, d2] => { results := [.lit (.bool false)], args := [d1, d2] }
  | _ => none }
def DiffAppliesWrongFalsely : Prop := diffAppliesRow.holds Try.pinned (OpenSpec.ofChange diffAppliesWrong)

/-- 'vivariumlaw.WorldRows': WHATEVER THE INPUT: true; the input reads as it did. -/
def worldRowsSpec : ChangeSpec := { name := "worldRows", fn := fun _ => fun
  | [d1, d2] => { results := [.lit (.bool true)], args := [d1, d2] }
  | _ => none }
def worldRowsRow : OpenClaim := { program := "ytkcpmoinpdojjaa", sum := "75f4caa1043f306b69404957972603f7b83bf68af5deace6d1f7f3cd1cbac27d", func := "vivarium/vivariumlaw.WorldRows", spec := "worldRows", unfollowed := true, recurses := true, plainKeys := false, apart := false }
def WorldRowsSaid : Prop := worldRowsRow.holds Try.pinned (OpenSpec.ofChange worldRowsSpec)

/-- ITS FALSE NEIGHBOUR: 'it returns false'. Refute it at one input. -/
def worldRowsWrong : ChangeSpec := { name := "worldRows", fn := fun _ => fun
  | [d1, d2] => { results := [.lit (.bool false)], args := [d1, d2] }
  | _ => none }
def WorldRowsWrongFalsely : Prop := worldRowsRow.holds Try.pinned (OpenSpec.ofChange worldRowsWrong)

/-- 'vivariumlaw.WorldLoads': WHATEVER THE INPUT: true; the input reads as it did. -/
def worldLoadsSpec : ChangeSpec := { name := "worldLoads", fn := fun _ => fun
  | [d1, d2, d3] => { results := [.lit (.bool true)], args := [d1, d2, d3] }
  | _ => none }
def worldLoadsRow : OpenClaim := { program := "ytkcpmoinpdojjaa", sum := "75f4caa1043f306b69404957972603f7b83bf68af5deace6d1f7f3cd1cbac27d", func := "vivarium/vivariumlaw.WorldLoads", spec := "worldLoads", unfollowed := true, recurses := true, plainKeys := false, apart := false }
def WorldLoadsSaid : Prop := worldLoadsRow.holds Try.pinned (OpenSpec.ofChange worldLoadsSpec)

/-- ITS FALSE NEIGHBOUR: 'it returns false'. Refute it at one input. -/
def worldLoadsWrong : ChangeSpec := { name := "worldLoads", fn := fun _ => fun
  | [d1, d2, d3] => { results := [.lit (.bool false)], args := [d1, d2, d3] }
  | _ => none }
def WorldLoadsWrongFalsely : Prop := worldLoadsRow.holds Try.pinned (OpenSpec.ofChange worldLoadsWrong)

/- THE SECOND FORM. 'bulk': how many values and letters a reading holds, each counted each time it is reached (what is shared counts as often as it is met; a slice's spare places count too). A statement '..UptoSaid' is the law's where the arguments, and the package variables that the reading takes, are together of bulk at most 1048576: NARROWER than '..Said'. Prove '..Said' where nothing that the law and all that it calls make is longer than what came in: it says more and counts as full. Else prove '..UptoSaid'. A law counts once. -/
mutual
def uptoBulk {H : Type} : DataW H → Nat
  | .lit (.string bytes) => bytes.length + 1
  | .lit _ => 1
  | .nil => 1
  | .ptr d => uptoBulk d + 1
  | .slice elems spare => uptoBulkAll elems + uptoBulkAll spare + 1
  | .agg parts => uptoBulkAll parts + 1
  | .iface _ d => uptoBulk d + 1
  | .map entries => uptoBulkEntries entries + 1
  | .held _ => 1
def uptoBulkAll {H : Type} : List (DataW H) → Nat
  | [] => 0
  | d :: r => uptoBulk d + uptoBulkAll r
def uptoBulkEntries {H : Type} : List (Lit × DataW H) → Nat
  | [] => 0
  | x :: r => uptoBulkEntry x + uptoBulkEntries r
def uptoBulkEntry {H : Type} : Lit × DataW H → Nat
  | (.string bytes, d) => bytes.length + uptoBulk d + 1
  | (_, d) => uptoBulk d + 1
 end
def uptoSmall : (H : Type) → List (DataW H) → Bool := fun _ ds => decide (uptoBulkAll ds ≤ 1048576)
def OpenSpec.upto (s : _root_.Go.ChangeSpec) : _root_.Go.OpenSpec := { _root_.Go.OpenSpec.ofChange s with cond := some uptoSmall }

/-- 'vivariumlaw.SystemSteps', WHERE WHAT IT READS IS OF BULK AT MOST 1048576: true; the input reads as it did. -/
def systemStepsUptoRow : OpenClaim := { program := "ytkcpmoinpdojjaa", sum := "75f4caa1043f306b69404957972603f7b83bf68af5deace6d1f7f3cd1cbac27d", func := "vivarium/vivariumlaw.SystemSteps", spec := "systemSteps", plainKeys := false, apart := false, narrowed := true }
def SystemStepsUptoSaid : Prop := systemStepsUptoRow.holds Try.pinned (OpenSpec.upto systemStepsSpec)

/-- 'vivariumlaw.TableDoes', WHERE WHAT IT READS IS OF BULK AT MOST 1048576: true; the input reads as it did. -/
def tableDoesUptoRow : OpenClaim := { program := "ytkcpmoinpdojjaa", sum := "75f4caa1043f306b69404957972603f7b83bf68af5deace6d1f7f3cd1cbac27d", func := "vivarium/vivariumlaw.TableDoes", spec := "tableDoes", plainKeys := false, apart := false, narrowed := true }
def TableDoesUptoSaid : Prop := tableDoesUptoRow.holds Try.pinned (OpenSpec.upto tableDoesSpec)

/-- 'vivariumlaw.WorldDoes', WHERE WHAT IT READS IS OF BULK AT MOST 1048576: true; the input reads as it did. -/
def worldDoesUptoRow : OpenClaim := { program := "ytkcpmoinpdojjaa", sum := "75f4caa1043f306b69404957972603f7b83bf68af5deace6d1f7f3cd1cbac27d", func := "vivarium/vivariumlaw.WorldDoes", spec := "worldDoes", unfollowed := true, recurses := true, plainKeys := false, apart := false, narrowed := true }
def WorldDoesUptoSaid : Prop := worldDoesUptoRow.holds Try.pinned (OpenSpec.upto worldDoesSpec)

/-- 'vivariumlaw.FamilyDoes', WHERE WHAT IT READS IS OF BULK AT MOST 1048576: true; the input reads as it did. -/
def familyDoesUptoRow : OpenClaim := { program := "ytkcpmoinpdojjaa", sum := "75f4caa1043f306b69404957972603f7b83bf68af5deace6d1f7f3cd1cbac27d", func := "vivarium/vivariumlaw.FamilyDoes", spec := "familyDoes", unfollowed := true, recurses := true, plainKeys := false, apart := false, narrowed := true }
def FamilyDoesUptoSaid : Prop := familyDoesUptoRow.holds Try.pinned (OpenSpec.upto familyDoesSpec)

/-- 'vivariumlaw.FamilyTells', WHERE WHAT IT READS IS OF BULK AT MOST 1048576: true; the input reads as it did. -/
def familyTellsUptoRow : OpenClaim := { program := "ytkcpmoinpdojjaa", sum := "75f4caa1043f306b69404957972603f7b83bf68af5deace6d1f7f3cd1cbac27d", func := "vivarium/vivariumlaw.FamilyTells", spec := "familyTells", unfollowed := true, recurses := true, plainKeys := false, apart := false, narrowed := true }
def FamilyTellsUptoSaid : Prop := familyTellsUptoRow.holds Try.pinned (OpenSpec.upto familyTellsSpec)

/-- 'vivariumlaw.DiffBetweens', WHERE WHAT IT READS IS OF BULK AT MOST 1048576: true; the input reads as it did. -/
def diffBetweensUptoRow : OpenClaim := { program := "ytkcpmoinpdojjaa", sum := "75f4caa1043f306b69404957972603f7b83bf68af5deace6d1f7f3cd1cbac27d", func := "vivarium/vivariumlaw.DiffBetweens", spec := "diffBetweens", inPlace := ["maps.clone"], unfollowed := true, recurses := true, plainKeys := false, apart := false, narrowed := true }
def DiffBetweensUptoSaid : Prop := diffBetweensUptoRow.holds Try.pinned (OpenSpec.upto diffBetweensSpec)

/-- 'vivariumlaw.DiffInverts', WHERE WHAT IT READS IS OF BULK AT MOST 1048576: true; the input reads as it did. -/
def diffInvertsUptoRow : OpenClaim := { program := "ytkcpmoinpdojjaa", sum := "75f4caa1043f306b69404957972603f7b83bf68af5deace6d1f7f3cd1cbac27d", func := "vivarium/vivariumlaw.DiffInverts", spec := "diffInverts", inPlace := ["maps.clone"], unfollowed := true, recurses := true, plainKeys := false, apart := false, narrowed := true }
def DiffInvertsUptoSaid : Prop := diffInvertsUptoRow.holds Try.pinned (OpenSpec.upto diffInvertsSpec)

/-- 'vivariumlaw.DiffApplies', WHERE WHAT IT READS IS OF BULK AT MOST 1048576: true; the input reads as it did. -/
def diffAppliesUptoRow : OpenClaim := { program := "ytkcpmoinpdojjaa", sum := "75f4caa1043f306b69404957972603f7b83bf68af5deace6d1f7f3cd1cbac27d", func := "vivarium/vivariumlaw.DiffApplies", spec := "diffApplies", inPlace := ["maps.clone"], unfollowed := true, recurses := true, plainKeys := false, apart := false, narrowed := true }
def DiffAppliesUptoSaid : Prop := diffAppliesUptoRow.holds Try.pinned (OpenSpec.upto diffAppliesSpec)

/-- 'vivariumlaw.WorldRows', WHERE WHAT IT READS IS OF BULK AT MOST 1048576: true; the input reads as it did. -/
def worldRowsUptoRow : OpenClaim := { program := "ytkcpmoinpdojjaa", sum := "75f4caa1043f306b69404957972603f7b83bf68af5deace6d1f7f3cd1cbac27d", func := "vivarium/vivariumlaw.WorldRows", spec := "worldRows", unfollowed := true, recurses := true, plainKeys := false, apart := false, narrowed := true }
def WorldRowsUptoSaid : Prop := worldRowsUptoRow.holds Try.pinned (OpenSpec.upto worldRowsSpec)

/-- 'vivariumlaw.WorldLoads', WHERE WHAT IT READS IS OF BULK AT MOST 1048576: true; the input reads as it did. -/
def worldLoadsUptoRow : OpenClaim := { program := "ytkcpmoinpdojjaa", sum := "75f4caa1043f306b69404957972603f7b83bf68af5deace6d1f7f3cd1cbac27d", func := "vivarium/vivariumlaw.WorldLoads", spec := "worldLoads", unfollowed := true, recurses := true, plainKeys := false, apart := false, narrowed := true }
def WorldLoadsUptoSaid : Prop := worldLoadsUptoRow.holds Try.pinned (OpenSpec.upto worldLoadsSpec)

end Rows
end Go.Proofs.Ytkcpmoinpdojjaa
