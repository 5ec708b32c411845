/-
  No cell of these rows narrows 'for every input' (looked for: loops, veiled, ifaces, maps, wideKeys, modest, calm, conditions, laid).
  DERIVED. THE GIVEN ROWS OF THIS SEAT. 19 by the template 'for every input the law returns true; each argument reads behind the call as it read before'; 0 by the template 'total and deterministic' (their statements: YthbbjbcojhljfaaTotals.lean).
  GIVEN WITH THE SEED: the statements are not yours to turn. If you find one false, say at which input.
  Laid BY PROGRAM, IN A SANDBOX (cutbox-rows.mjs): the forced cells as the released guide's own fill.sh prints them over the translation f0e51426a511c191… (all of the seat's roots in one cut). By AI agents, Wed Nov 11 2026. No macro, syntax, notation, axiom, sorry.
-/
import Derived.Test.YthbbjbcojhljfaaChecked
import GoSem.Claim
import GoSem.ClaimJoined
import GoSem.ClaimMapViews
import Derived.JoinedTies
import Derived.KernelRfl
namespace Go.Proofs.Ythbbjbcojhljfaa
/- THE CELL 'sum', in the pinned program and in every row, IS THE sha256 OF THE DUMP (.gsa) THAT YthbbjbcojhljfaaProg.lean LOADS. Nothing in Lean hashes anything: it is a label: what it is worth is what the hold of that sum in a sandbox is worth. -/
noncomputable def Try.pinned : Pinned := { name := "ythbbjbcojhljfaa", sum := "f0e51426a511c19171f2ed8e4ed475f7ba324d19b29a5cf1f21a56068c8734cb", checked := Try.checked }
namespace Rows
def none {H : Type} : Left H := { results := [], args := [] }

/-- 'vivariumlaw.MaskQueries': WHATEVER THE INPUT: true; the input reads as it did. -/
def maskQueriesSpec : ChangeSpec := { name := "maskQueries", fn := fun _ => fun
  | [d] => { results := [.lit (.bool true)], args := [d] }
  | _ => none }
def maskQueriesRow : OpenClaim := { program := "ythbbjbcojhljfaa", sum := "f0e51426a511c19171f2ed8e4ed475f7ba324d19b29a5cf1f21a56068c8734cb", func := "vivarium/vivariumlaw.MaskQueries", spec := "maskQueries", plainKeys := false, apart := false }
def MaskQueriesSaid : Prop := maskQueriesRow.holds Try.pinned (OpenSpec.ofChange maskQueriesSpec)

/-- ITS FALSE NEIGHBOUR: 'it returns false'. Refute it at one input. -/
def maskQueriesWrong : ChangeSpec := { name := "maskQueries", fn := fun _ => fun
  | [d] => { results := [.lit (.bool false)], args := [d] }
  | _ => none }
def MaskQueriesWrongFalsely : Prop := maskQueriesRow.holds Try.pinned (OpenSpec.ofChange maskQueriesWrong)

/-- 'vivariumlaw.MaskOfs': WHATEVER THE INPUT: true; the input reads as it did. -/
def maskOfsSpec : ChangeSpec := { name := "maskOfs", fn := fun _ => fun
  | [d] => { results := [.lit (.bool true)], args := [d] }
  | _ => none }
def maskOfsRow : OpenClaim := { program := "ythbbjbcojhljfaa", sum := "f0e51426a511c19171f2ed8e4ed475f7ba324d19b29a5cf1f21a56068c8734cb", func := "vivarium/vivariumlaw.MaskOfs", spec := "maskOfs", plainKeys := false, apart := false }
def MaskOfsSaid : Prop := maskOfsRow.holds Try.pinned (OpenSpec.ofChange maskOfsSpec)

/-- ITS FALSE NEIGHBOUR: 'it returns false'. Refute it at one input. -/
def maskOfsWrong : ChangeSpec := { name := "maskOfs", fn := fun _ => fun
  | [d] => { results := [.lit (.bool false)], args := [d] }
  | _ => none }
def MaskOfsWrongFalsely : Prop := maskOfsRow.holds Try.pinned (OpenSpec.ofChange maskOfsWrong)

/-- 'vivariumlaw.MaskBeasts': WHATEVER THE INPUT: true; the input reads as it did. -/
def maskBeastsSpec : ChangeSpec := { name := "maskBeasts", fn := fun _ => fun
  | [d] => { results := [.lit (.bool true)], args := [d] }
  | _ => none }
def maskBeastsRow : OpenClaim := { program := "ythbbjbcojhljfaa", sum := "f0e51426a511c19171f2ed8e4ed475f7ba324d19b29a5cf1f21a56068c8734cb", func := "vivarium/vivariumlaw.MaskBeasts", spec := "maskBeasts", plainKeys := false, apart := false }
def MaskBeastsSaid : Prop := maskBeastsRow.holds Try.pinned (OpenSpec.ofChange maskBeastsSpec)

/-- ITS FALSE NEIGHBOUR: 'it returns false'. Refute it at one input. -/
def maskBeastsWrong : ChangeSpec := { name := "maskBeasts", fn := fun _ => fun
  | [d] => { results := [.lit (.bool false)], args := [d] }
  | _ => none }
def MaskBeastsWrongFalsely : Prop := maskBeastsRow.holds Try.pinned (OpenSpec.ofChange maskBeastsWrong)

/-- 'vivariumlaw.MaskMatches': WHATEVER THE INPUT: true; the input reads as it did. -/
def maskMatchesSpec : ChangeSpec := { name := "maskMatches", fn := fun _ => fun
  | [d1, d2] => { results := [.lit (.bool true)], args := [d1, d2] }
  | _ => none }
def maskMatchesRow : OpenClaim := { program := "ythbbjbcojhljfaa", sum := "f0e51426a511c19171f2ed8e4ed475f7ba324d19b29a5cf1f21a56068c8734cb", func := "vivarium/vivariumlaw.MaskMatches", spec := "maskMatches", plainKeys := false, apart := false }
def MaskMatchesSaid : Prop := maskMatchesRow.holds Try.pinned (OpenSpec.ofChange maskMatchesSpec)

/-- ITS FALSE NEIGHBOUR: 'it returns false'. Refute it at one input. -/
def maskMatchesWrong : ChangeSpec := { name := "maskMatches", fn := fun _ => fun
  | [d1, d2] => { results := [.lit (.bool false)], args := [d1, d2] }
  | _ => none }
def MaskMatchesWrongFalsely : Prop := maskMatchesRow.holds Try.pinned (OpenSpec.ofChange maskMatchesWrong)

/-- 'vivariumlaw.SystemChecks': WHATEVER THE INPUT: true; the input reads as it did. -/
def systemChecksSpec : ChangeSpec := { name := "systemChecks", fn := fun _ => fun
  | [d] => { results := [.lit (.bool true)], args := [d] }
  | _ => none }
def systemChecksRow : OpenClaim := { program := "ythbbjbcojhljfaa", sum := "f0e51426a511c19171f2ed8e4ed475f7ba324d19b29a5cf1f21a56068c8734cb", func := "vivarium/vivariumlaw.SystemChecks", spec := "systemChecks", plainKeys := false, apart := false }
def SystemChecksSaid : Prop := systemChecksRow.holds Try.pinned (OpenSpec.ofChange systemChecksSpec)

/-- ITS FALSE NEIGHBOUR: 'it returns false'. Refute it at one input. -/
def systemChecksWrong : ChangeSpec := { name := "systemChecks", fn := fun _ => fun
  | [d] => { results := [.lit (.bool false)], args := [d] }
  | _ => none }
def SystemChecksWrongFalsely : Prop := systemChecksRow.holds Try.pinned (OpenSpec.ofChange systemChecksWrong)

/-- 'vivariumlaw.MaskLists': WHATEVER THE INPUT: true; the input reads as it did. -/
def maskListsSpec : ChangeSpec := { name := "maskLists", fn := fun _ => fun
  | [d] => { results := [.lit (.bool true)], args := [d] }
  | _ => none }
def maskListsRow : OpenClaim := { program := "ythbbjbcojhljfaa", sum := "f0e51426a511c19171f2ed8e4ed475f7ba324d19b29a5cf1f21a56068c8734cb", func := "vivarium/vivariumlaw.MaskLists", spec := "maskLists", plainKeys := false, apart := false }
def MaskListsSaid : Prop := maskListsRow.holds Try.pinned (OpenSpec.ofChange maskListsSpec)

/-- ITS FALSE NEIGHBOUR: 'it returns false'. Refute it at one input. -/
def maskListsWrong : ChangeSpec := { name := "maskLists", fn := fun _ => fun
  | [d] => { results := [.lit (.bool false)], args := [d] }
  | _ => none }
def MaskListsWrongFalsely : Prop := maskListsRow.holds Try.pinned (OpenSpec.ofChange maskListsWrong)

/-- 'vivariumlaw.SystemPlans': WHATEVER THE INPUT: true; the input reads as it did. -/
def systemPlansSpec : ChangeSpec := { name := "systemPlans", fn := fun _ => fun
  | [d1, d2, d3] => { results := [.lit (.bool true)], args := [d1, d2, d3] }
  | _ => none }
def systemPlansRow : OpenClaim := { program := "ythbbjbcojhljfaa", sum := "f0e51426a511c19171f2ed8e4ed475f7ba324d19b29a5cf1f21a56068c8734cb", func := "vivarium/vivariumlaw.SystemPlans", spec := "systemPlans", plainKeys := false, apart := false }
def SystemPlansSaid : Prop := systemPlansRow.holds Try.pinned (OpenSpec.ofChange systemPlansSpec)

/-- ITS FALSE NEIGHBOUR: 'it returns false'. Refute it at one input. -/
def systemPlansWrong : ChangeSpec := { name := "systemPlans", fn := fun _ => fun
  | [d1, d2, d3] => { results := [.lit (.bool false)], args := [d1, d2, d3] }
  | _ => none }
def SystemPlansWrongFalsely : Prop := systemPlansRow.holds Try.pinned (OpenSpec.ofChange systemPlansWrong)

/-- 'vivariumlaw.SlotsDo': WHATEVER THE INPUT: true; the input reads as it did. -/
def slotsDoSpec : ChangeSpec := { name := "slotsDo", fn := fun _ => fun
  | [d1, d2] => { results := [.lit (.bool true)], args := [d1, d2] }
  | _ => none }
def slotsDoRow : OpenClaim := { program := "ythbbjbcojhljfaa", sum := "f0e51426a511c19171f2ed8e4ed475f7ba324d19b29a5cf1f21a56068c8734cb", func := "vivarium/vivariumlaw.SlotsDo", spec := "slotsDo", unfollowed := true, recurses := true, plainKeys := false, apart := false }
def SlotsDoSaid : Prop := slotsDoRow.holds Try.pinned (OpenSpec.ofChange slotsDoSpec)

/-- ITS FALSE NEIGHBOUR: 'it returns false'. Refute it at one input. -/
def slotsDoWrong : ChangeSpec := { name := "slotsDo", fn := fun _ => fun
  | [d1, d2] => { results := [.lit (.bool false)], args := [d1, d2] }
  | _ => none }
def SlotsDoWrongFalsely : Prop := slotsDoRow.holds Try.pinned (OpenSpec.ofChange slotsDoWrong)

/-- 'vivariumlaw.SlotsLoads': WHATEVER THE INPUT: true; the input reads as it did. -/
def slotsLoadsSpec : ChangeSpec := { name := "slotsLoads", fn := fun _ => fun
  | [d1, d2] => { results := [.lit (.bool true)], args := [d1, d2] }
  | _ => none }
def slotsLoadsRow : OpenClaim := { program := "ythbbjbcojhljfaa", sum := "f0e51426a511c19171f2ed8e4ed475f7ba324d19b29a5cf1f21a56068c8734cb", func := "vivarium/vivariumlaw.SlotsLoads", spec := "slotsLoads", unfollowed := true, recurses := true, plainKeys := false, apart := false }
def SlotsLoadsSaid : Prop := slotsLoadsRow.holds Try.pinned (OpenSpec.ofChange slotsLoadsSpec)

/-- ITS FALSE NEIGHBOUR: 'it returns false'. Refute it at one input. -/
def slotsLoadsWrong : ChangeSpec := { name := "slotsLoads", fn := fun _ => fun
  | [d1, d2] => { results := [.lit (.bool false)], args := [d1, d2] }
  | _ => none }
def SlotsLoadsWrongFalsely : Prop := slotsLoadsRow.holds Try.pinned (OpenSpec.ofChange slotsLoadsWrong)

/-- 'vivariumlaw.SystemSteps': WHATEVER THE INPUT: true; the input reads as it did. -/
def systemStepsSpec : ChangeSpec := { name := "systemSteps", fn := fun _ => fun
  | [d1, d2] => { results := [.lit (.bool true)], args := [d1, d2] }
  | _ => none }
def systemStepsRow : OpenClaim := { program := "ythbbjbcojhljfaa", sum := "f0e51426a511c19171f2ed8e4ed475f7ba324d19b29a5cf1f21a56068c8734cb", func := "vivarium/vivariumlaw.SystemSteps", spec := "systemSteps", plainKeys := false, apart := false }
def SystemStepsSaid : Prop := systemStepsRow.holds Try.pinned (OpenSpec.ofChange systemStepsSpec)

/-- ITS FALSE NEIGHBOUR: 'it returns false'. Refute it at one input. -/
def systemStepsWrong : ChangeSpec := { name := "systemSteps", fn := fun _ => fun
  | [d1, d2] => { results := [.lit (.bool false)], args := [d1, d2] }
  | _ => none }
def SystemStepsWrongFalsely : Prop := systemStepsRow.holds Try.pinned (OpenSpec.ofChange systemStepsWrong)

/-- 'vivariumlaw.TableDoes': WHATEVER THE INPUT: true; the input reads as it did. -/
def tableDoesSpec : ChangeSpec := { name := "tableDoes", fn := fun _ => fun
  | [d1, d2] => { results := [.lit (.bool true)], args := [d1, d2] }
  | _ => none }
def tableDoesRow : OpenClaim := { program := "ythbbjbcojhljfaa", sum := "f0e51426a511c19171f2ed8e4ed475f7ba324d19b29a5cf1f21a56068c8734cb", func := "vivarium/vivariumlaw.TableDoes", spec := "tableDoes", plainKeys := false, apart := false }
def TableDoesSaid : Prop := tableDoesRow.holds Try.pinned (OpenSpec.ofChange tableDoesSpec)

/-- ITS FALSE NEIGHBOUR: 'it returns false'. Refute it at one input. -/
def tableDoesWrong : ChangeSpec := { name := "tableDoes", fn := fun _ => fun
  | [d1, d2] => { results := [.lit (.bool false)], args := [d1, d2] }
  | _ => none }
def TableDoesWrongFalsely : Prop := tableDoesRow.holds Try.pinned (OpenSpec.ofChange tableDoesWrong)

/-- 'vivariumlaw.WorldDoes': WHATEVER THE INPUT: true; the input reads as it did. -/
def worldDoesSpec : ChangeSpec := { name := "worldDoes", fn := fun _ => fun
  | [d] => { results := [.lit (.bool true)], args := [d] }
  | _ => none }
def worldDoesRow : OpenClaim := { program := "ythbbjbcojhljfaa", sum := "f0e51426a511c19171f2ed8e4ed475f7ba324d19b29a5cf1f21a56068c8734cb", func := "vivarium/vivariumlaw.WorldDoes", spec := "worldDoes", unfollowed := true, recurses := true, plainKeys := false, apart := false }
def WorldDoesSaid : Prop := worldDoesRow.holds Try.pinned (OpenSpec.ofChange worldDoesSpec)

/-- ITS FALSE NEIGHBOUR: 'it returns false'. Refute it at one input. -/
def worldDoesWrong : ChangeSpec := { name := "worldDoes", fn := fun _ => fun
  | [d] => { results := [.lit (.bool false)], args := [d] }
  | _ => none }
def WorldDoesWrongFalsely : Prop := worldDoesRow.holds Try.pinned (OpenSpec.ofChange worldDoesWrong)

/-- 'vivariumlaw.FamilyDoes': WHATEVER THE INPUT: true; the input reads as it did. -/
def familyDoesSpec : ChangeSpec := { name := "familyDoes", fn := fun _ => fun
  | [d] => { results := [.lit (.bool true)], args := [d] }
  | _ => none }
def familyDoesRow : OpenClaim := { program := "ythbbjbcojhljfaa", sum := "f0e51426a511c19171f2ed8e4ed475f7ba324d19b29a5cf1f21a56068c8734cb", func := "vivarium/vivariumlaw.FamilyDoes", spec := "familyDoes", unfollowed := true, recurses := true, plainKeys := false, apart := false }
def FamilyDoesSaid : Prop := familyDoesRow.holds Try.pinned (OpenSpec.ofChange familyDoesSpec)

/-- ITS FALSE NEIGHBOUR: 'it returns false'. Refute it at one input. -/
def familyDoesWrong : ChangeSpec := { name := "familyDoes", fn := fun _ => fun
  | [d] => { results := [.lit (.bool false)], args := [d] }
  | _ => none }
def FamilyDoesWrongFalsely : Prop := familyDoesRow.holds Try.pinned (OpenSpec.ofChange familyDoesWrong)

/-- 'vivariumlaw.FamilyTells': WHATEVER THE INPUT: true; the input reads as it did. -/
def familyTellsSpec : ChangeSpec := { name := "familyTells", fn := fun _ => fun
  | [d1, d2] => { results := [.lit (.bool true)], args := [d1, d2] }
  | _ => none }
def familyTellsRow : OpenClaim := { program := "ythbbjbcojhljfaa", sum := "f0e51426a511c19171f2ed8e4ed475f7ba324d19b29a5cf1f21a56068c8734cb", func := "vivarium/vivariumlaw.FamilyTells", spec := "familyTells", unfollowed := true, recurses := true, plainKeys := false, apart := false }
def FamilyTellsSaid : Prop := familyTellsRow.holds Try.pinned (OpenSpec.ofChange familyTellsSpec)

/-- ITS FALSE NEIGHBOUR: 'it returns false'. Refute it at one input. -/
def familyTellsWrong : ChangeSpec := { name := "familyTells", fn := fun _ => fun
  | [d1, d2] => { results := [.lit (.bool false)], args := [d1, d2] }
  | _ => none }
def FamilyTellsWrongFalsely : Prop := familyTellsRow.holds Try.pinned (OpenSpec.ofChange familyTellsWrong)

/-- 'vivariumlaw.DiffBetweens': WHATEVER THE INPUT: true; the input reads as it did. -/
def diffBetweensSpec : ChangeSpec := { name := "diffBetweens", fn := fun _ => fun
  | [d1, d2] => { results := [.lit (.bool true)], args := [d1, d2] }
  | _ => none }
def diffBetweensRow : OpenClaim := { program := "ythbbjbcojhljfaa", sum := "f0e51426a511c19171f2ed8e4ed475f7ba324d19b29a5cf1f21a56068c8734cb", func := "vivarium/vivariumlaw.DiffBetweens", spec := "diffBetweens", inPlace := ["maps.clone"], unfollowed := true, recurses := true, plainKeys := false, apart := false }
def DiffBetweensSaid : Prop := diffBetweensRow.holds Try.pinned (OpenSpec.ofChange diffBetweensSpec)

/-- ITS FALSE NEIGHBOUR: 'it returns false'. Refute it at one input. -/
def diffBetweensWrong : ChangeSpec := { name := "diffBetweens", fn := fun _ => fun
  | [d1, d2] => { results := [.lit (.bool false)], args := [d1, d2] }
  | _ => none }
def DiffBetweensWrongFalsely : Prop := diffBetweensRow.holds Try.pinned (OpenSpec.ofChange diffBetweensWrong)

/-- 'vivariumlaw.DiffInverts': WHATEVER THE INPUT: true; the input reads as it did. -/
def diffInvertsSpec : ChangeSpec := { name := "diffInverts", fn := fun _ => fun
  | [d] => { results := [.lit (.bool true)], args := [d] }
  | _ => none }
def diffInvertsRow : OpenClaim := { program := "ythbbjbcojhljfaa", sum := "f0e51426a511c19171f2ed8e4ed475f7ba324d19b29a5cf1f21a56068c8734cb", func := "vivarium/vivariumlaw.DiffInverts", spec := "diffInverts", inPlace := ["maps.clone"], unfollowed := true, recurses := true, plainKeys := false, apart := false }
def DiffInvertsSaid : Prop := diffInvertsRow.holds Try.pinned (OpenSpec.ofChange diffInvertsSpec)

/-- ITS FALSE NEIGHBOUR: 'it returns false'. Refute it at one input. -/
def diffInvertsWrong : ChangeSpec := { name := "diffInverts", fn := fun _ => fun
  | [d] => { results := [.lit (.bool false)], args := [d] }
  | _ => none }
def DiffInvertsWrongFalsely : Prop := diffInvertsRow.holds Try.pinned (OpenSpec.ofChange diffInvertsWrong)

/-- 'vivariumlaw.DiffApplies': WHATEVER THE INPUT: true; the input reads as it did. -/
def diffAppliesSpec : ChangeSpec := { name := "diffApplies", fn := fun _ => fun
  | [d1, d2] => { results := [.lit (.bool true)], args := [d1, d2] }
  | _ => none }
def diffAppliesRow : OpenClaim := { program := "ythbbjbcojhljfaa", sum := "f0e51426a511c19171f2ed8e4ed475f7ba324d19b29a5cf1f21a56068c8734cb", func := "vivarium/vivariumlaw.DiffApplies", spec := "diffApplies", inPlace := ["maps.clone"], unfollowed := true, recurses := true, plainKeys := false, apart := false }
def DiffAppliesSaid : Prop := diffAppliesRow.holds Try.pinned (OpenSpec.ofChange diffAppliesSpec)

/-- ITS FALSE NEIGHBOUR: 'it returns false'. Refute it at one input. -/
def diffAppliesWrong : ChangeSpec := { name := "diffApplies", fn := fun _ => fun
  | [d1, d2] => { results := [.lit (.bool false)], args := [d1, d2] }
  | _ => none }
def DiffAppliesWrongFalsely : Prop := diffAppliesRow.holds Try.pinned (OpenSpec.ofChange diffAppliesWrong)

/-- 'vivariumlaw.WorldRows': WHATEVER THE INPUT: true; the input reads as it did. -/
def worldRowsSpec : ChangeSpec := { name := "worldRows", fn := fun _ => fun
  | [d1, d2] => { results := [.lit (.bool true)], args := [d1, d2] }
  | _ => none }
def worldRowsRow : OpenClaim := { program := "ythbbjbcojhljfaa", sum := "f0e51426a511c19171f2ed8e4ed475f7ba324d19b29a5cf1f21a56068c8734cb", func := "vivarium/vivariumlaw.WorldRows", spec := "worldRows", unfollowed := true, recurses := true, plainKeys := false, apart := false }
def WorldRowsSaid : Prop := worldRowsRow.holds Try.pinned (OpenSpec.ofChange worldRowsSpec)

/-- ITS FALSE NEIGHBOUR: 'it returns false'. Refute it at one input. -/
def worldRowsWrong : ChangeSpec := { name := "worldRows", fn := fun _ => fun
  | [d1, d2] => { results := [.lit (.bool false)], args := [d1, d2] }
  | _ => none }
def WorldRowsWrongFalsely : Prop := worldRowsRow.holds Try.pinned (OpenSpec.ofChange worldRowsWrong)

/-- 'vivariumlaw.WorldLoads': WHATEVER THE INPUT: true; the input reads as it did. -/
def worldLoadsSpec : ChangeSpec := { name := "worldLoads", fn := fun _ => fun
  | [d1, d2, d3] => { results := [.lit (.bool true)], args := [d1, d2, d3] }
  | _ => none }
def worldLoadsRow : OpenClaim := { program := "ythbbjbcojhljfaa", sum := "f0e51426a511c19171f2ed8e4ed475f7ba324d19b29a5cf1f21a56068c8734cb", func := "vivarium/vivariumlaw.WorldLoads", spec := "worldLoads", unfollowed := true, recurses := true, plainKeys := false, apart := false }
def WorldLoadsSaid : Prop := worldLoadsRow.holds Try.pinned (OpenSpec.ofChange worldLoadsSpec)

/-- ITS FALSE NEIGHBOUR: 'it returns false'. Refute it at one input. -/
def worldLoadsWrong : ChangeSpec := { name := "worldLoads", fn := fun _ => fun
  | [d1, d2, d3] => { results := [.lit (.bool false)], args := [d1, d2, d3] }
  | _ => none }
def WorldLoadsWrongFalsely : Prop := worldLoadsRow.holds Try.pinned (OpenSpec.ofChange worldLoadsWrong)

/- THE SECOND FORM. 'bulk': how many values and letters a reading holds, each counted each time it is reached (what is shared counts as often as it is met; a slice's spare places count too). A statement '..UptoSaid' is the law's where the arguments, and the package variables that the reading takes, are together of bulk at most 1048576: NARROWER than '..Said'. Prove '..Said' where nothing that the law and all that it calls make is longer than what came in: it says more and counts as full. Else prove '..UptoSaid'. A law counts once. -/
mutual
def uptoBulk {H : Type} : DataW H → Nat
  | .lit (.string bytes) => bytes.length + 1
  | .lit _ => 1
  | .nil => 1
  | .ptr d => uptoBulk d + 1
  | .slice elems spare => uptoBulkAll elems + uptoBulkAll spare + 1
  | .agg parts => uptoBulkAll parts + 1
  | .iface _ d => uptoBulk d + 1
  | .map entries => uptoBulkEntries entries + 1
  | .held _ => 1
def uptoBulkAll {H : Type} : List (DataW H) → Nat
  | [] => 0
  | d :: r => uptoBulk d + uptoBulkAll r
def uptoBulkEntries {H : Type} : List (Lit × DataW H) → Nat
  | [] => 0
  | x :: r => uptoBulkEntry x + uptoBulkEntries r
def uptoBulkEntry {H : Type} : Lit × DataW H → Nat
  | (.string bytes, d) => bytes.length + uptoBulk d + 1
  | (_, d) => uptoBulk d + 1
 end
def uptoSmall : (H : Type) → List (DataW H) → Bool := fun _ ds => decide (uptoBulkAll ds ≤ 1048576)
def OpenSpec.upto (s : _root_.Go.ChangeSpec) : _root_.Go.OpenSpec := { _root_.Go.OpenSpec.ofChange s with cond := some uptoSmall }

/-- 'vivariumlaw.MaskQueries', WHERE WHAT IT READS IS OF BULK AT MOST 1048576: true; the input reads as it did. -/
def maskQueriesUptoRow : OpenClaim := { program := "ythbbjbcojhljfaa", sum := "f0e51426a511c19171f2ed8e4ed475f7ba324d19b29a5cf1f21a56068c8734cb", func := "vivarium/vivariumlaw.MaskQueries", spec := "maskQueries", plainKeys := false, apart := false, narrowed := true }
def MaskQueriesUptoSaid : Prop := maskQueriesUptoRow.holds Try.pinned (OpenSpec.upto maskQueriesSpec)

/-- 'vivariumlaw.MaskOfs', WHERE WHAT IT READS IS OF BULK AT MOST 1048576: true; the input reads as it did. -/
def maskOfsUptoRow : OpenClaim := { program := "ythbbjbcojhljfaa", sum := "f0e51426a511c19171f2ed8e4ed475f7ba324d19b29a5cf1f21a56068c8734cb", func := "vivarium/vivariumlaw.MaskOfs", spec := "maskOfs", plainKeys := false, apart := false, narrowed := true }
def MaskOfsUptoSaid : Prop := maskOfsUptoRow.holds Try.pinned (OpenSpec.upto maskOfsSpec)

/-- 'vivariumlaw.MaskBeasts', WHERE WHAT IT READS IS OF BULK AT MOST 1048576: true; the input reads as it did. -/
def maskBeastsUptoRow : OpenClaim := { program := "ythbbjbcojhljfaa", sum := "f0e51426a511c19171f2ed8e4ed475f7ba324d19b29a5cf1f21a56068c8734cb", func := "vivarium/vivariumlaw.MaskBeasts", spec := "maskBeasts", plainKeys := false, apart := false, narrowed := true }
def MaskBeastsUptoSaid : Prop := maskBeastsUptoRow.holds Try.pinned (OpenSpec.upto maskBeastsSpec)

/-- 'vivariumlaw.MaskMatches', WHERE WHAT IT READS IS OF BULK AT MOST 1048576: true; the input reads as it did. -/
def maskMatchesUptoRow : OpenClaim := { program := "ythbbjbcojhljfaa", sum := "f0e51426a511c19171f2ed8e4ed475f7ba324d19b29a5cf1f21a56068c8734cb", func := "vivarium/vivariumlaw.MaskMatches", spec := "maskMatches", plainKeys := false, apart := false, narrowed := true }
def MaskMatchesUptoSaid : Prop := maskMatchesUptoRow.holds Try.pinned (OpenSpec.upto maskMatchesSpec)

/-- 'vivariumlaw.SystemChecks', WHERE WHAT IT READS IS OF BULK AT MOST 1048576: true; the input reads as it did. -/
def systemChecksUptoRow : OpenClaim := { program := "ythbbjbcojhljfaa", sum := "f0e51426a511c19171f2ed8e4ed475f7ba324d19b29a5cf1f21a56068c8734cb", func := "vivarium/vivariumlaw.SystemChecks", spec := "systemChecks", plainKeys := false, apart := false, narrowed := true }
def SystemChecksUptoSaid : Prop := systemChecksUptoRow.holds Try.pinned (OpenSpec.upto systemChecksSpec)

/-- 'vivariumlaw.MaskLists', WHERE WHAT IT READS IS OF BULK AT MOST 1048576: true; the input reads as it did. -/
def maskListsUptoRow : OpenClaim := { program := "ythbbjbcojhljfaa", sum := "f0e51426a511c19171f2ed8e4ed475f7ba324d19b29a5cf1f21a56068c8734cb", func := "vivarium/vivariumlaw.MaskLists", spec := "maskLists", plainKeys := false, apart := false, narrowed := true }
def MaskListsUptoSaid : Prop := maskListsUptoRow.holds Try.pinned (OpenSpec.upto maskListsSpec)

/-- 'vivariumlaw.SystemPlans', WHERE WHAT IT READS IS OF BULK AT MOST 1048576: true; the input reads as it did. -/
def systemPlansUptoRow : OpenClaim := { program := "ythbbjbcojhljfaa", sum := "f0e51426a511c19171f2ed8e4ed475f7ba324d19b29a5cf1f21a56068c8734cb", func := "vivarium/vivariumlaw.SystemPlans", spec := "systemPlans", plainKeys := false, apart := false, narrowed := true }
def SystemPlansUptoSaid : Prop := systemPlansUptoRow.holds Try.pinned (OpenSpec.upto systemPlansSpec)

/-- 'vivariumlaw.SlotsDo', WHERE WHAT IT READS IS OF BULK AT MOST 1048576: true; the input reads as it did. -/
def slotsDoUptoRow : OpenClaim := { program := "ythbbjbcojhljfaa", sum := "f0e51426a511c19171f2ed8e4ed475f7ba324d19b29a5cf1f21a56068c8734cb", func := "vivarium/vivariumlaw.SlotsDo", spec := "slotsDo", unfollowed := true, recurses := true, plainKeys := false, apart := false, narrowed := true }
def SlotsDoUptoSaid : Prop := slotsDoUptoRow.holds Try.pinned (OpenSpec.upto slotsDoSpec)

/-- 'vivariumlaw.SlotsLoads', WHERE WHAT IT READS IS OF BULK AT MOST 1048576: true; the input reads as it did. -/
def slotsLoadsUptoRow : OpenClaim := { program := "ythbbjbcojhljfaa", sum := "f0e51426a511c19171f2ed8e4ed475f7ba324d19b29a5cf1f21a56068c8734cb", func := "vivarium/vivariumlaw.SlotsLoads", spec := "slotsLoads", unfollowed := true, recurses := true, plainKeys := false, apart := false, narrowed := true }
def SlotsLoadsUptoSaid : Prop := slotsLoadsUptoRow.holds Try.pinned (OpenSpec.upto slotsLoadsSpec)

/-- 'vivariumlaw.SystemSteps', WHERE WHAT IT READS IS OF BULK AT MOST 1048576: true; the input reads as it did. -/
def systemStepsUptoRow : OpenClaim := { program := "ythbbjbcojhljfaa", sum := "f0e51426a511c19171f2ed8e4ed475f7ba324d19b29a5cf1f21a56068c8734cb", func := "vivarium/vivariumlaw.SystemSteps", spec := "systemSteps", plainKeys := false, apart := false, narrowed := true }
def SystemStepsUptoSaid : Prop := systemStepsUptoRow.holds Try.pinned (OpenSpec.upto systemStepsSpec)

/-- 'vivariumlaw.TableDoes', WHERE WHAT IT READS IS OF BULK AT MOST 1048576: true; the input reads as it did. -/
def tableDoesUptoRow : OpenClaim := { program := "ythbbjbcojhljfaa", sum := "f0e51426a511c19171f2ed8e4ed475f7ba324d19b29a5cf1f21a56068c8734cb", func := "vivarium/vivariumlaw.TableDoes", spec := "tableDoes", plainKeys := false, apart := false, narrowed := true }
def TableDoesUptoSaid : Prop := tableDoesUptoRow.holds Try.pinned (OpenSpec.upto tableDoesSpec)

/-- 'vivariumlaw.WorldDoes', WHERE WHAT IT READS IS OF BULK AT MOST 1048576: true; the input reads as it did. -/
def worldDoesUptoRow : OpenClaim := { program := "ythbbjbcojhljfaa", sum := "f0e51426a511c19171f2ed8e4ed475f7ba324d19b29a5cf1f21a56068c8734cb", func := "vivarium/vivariumlaw.WorldDoes", spec := "worldDoes", unfollowed := true, recurses := true, plainKeys := false, apart := false, narrowed := true }
def WorldDoesUptoSaid : Prop := worldDoesUptoRow.holds Try.pinned (OpenSpec.upto worldDoesSpec)

/-- 'vivariumlaw.FamilyDoes', WHERE WHAT IT READS IS OF BULK AT MOST 1048576: true; the input reads as it did. -/
def familyDoesUptoRow : OpenClaim := { program := "ythbbjbcojhljfaa", sum := "f0e51426a511c19171f2ed8e4ed475f7ba324d19b29a5cf1f21a56068c8734cb", func := "vivarium/vivariumlaw.FamilyDoes", spec := "familyDoes", unfollowed := true, recurses := true, plainKeys := false, apart := false, narrowed := true }
def FamilyDoesUptoSaid : Prop := familyDoesUptoRow.holds Try.pinned (OpenSpec.upto familyDoesSpec)

/-- 'vivariumlaw.FamilyTells', WHERE WHAT IT READS IS OF BULK AT MOST 1048576: true; the input reads as it did. -/
def familyTellsUptoRow : OpenClaim := { program := "ythbbjbcojhljfaa", sum := "f0e51426a511c19171f2ed8e4ed475f7ba324d19b29a5cf1f21a56068c8734cb", func := "vivarium/vivariumlaw.FamilyTells", spec := "familyTells", unfollowed := true, recurses := true, plainKeys := false, apart := false, narrowed := true }
def FamilyTellsUptoSaid : Prop := familyTellsUptoRow.holds Try.pinned (OpenSpec.upto familyTellsSpec)

/-- 'vivariumlaw.DiffBetweens', WHERE WHAT IT READS IS OF BULK AT MOST 1048576: true; the input reads as it did. -/
def diffBetweensUptoRow : OpenClaim := { program := "ythbbjbcojhljfaa", sum := "f0e51426a511c19171f2ed8e4ed475f7ba324d19b29a5cf1f21a56068c8734cb", func := "vivarium/vivariumlaw.DiffBetweens", spec := "diffBetweens", inPlace := ["maps.clone"], unfollowed := true, recurses := true, plainKeys := false, apart := false, narrowed := true }
def DiffBetweensUptoSaid : Prop := diffBetweensUptoRow.holds Try.pinned (OpenSpec.upto diffBetweensSpec)

/-- 'vivariumlaw.DiffInverts', WHERE WHAT IT READS IS OF BULK AT MOST 1048576: true; the input reads as it did. -/
def diffInvertsUptoRow : OpenClaim := { program := "ythbbjbcojhljfaa", sum := "f0e51426a511c19171f2ed8e4ed475f7ba324d19b29a5cf1f21a56068c8734cb", func := "vivarium/vivariumlaw.DiffInverts", spec := "diffInverts", inPlace := ["maps.clone"], unfollowed := true, recurses := true, plainKeys := false, apart := false, narrowed := true }
def DiffInvertsUptoSaid : Prop := diffInvertsUptoRow.holds Try.pinned (OpenSpec.upto diffInvertsSpec)

/-- 'vivariumlaw.DiffApplies', WHERE WHAT IT READS IS OF BULK AT MOST 1048576: true; the input reads as it did. -/
def diffAppliesUptoRow : OpenClaim := { program := "ythbbjbcojhljfaa", sum := "f0e51426a511c19171f2ed8e4ed475f7ba324d19b29a5cf1f21a56068c8734cb", func := "vivarium/vivariumlaw.DiffApplies", spec := "diffApplies", inPlace := ["maps.clone"], unfollowed := true, recurses := true, plainKeys := false, apart := false, narrowed := true }
def DiffAppliesUptoSaid : Prop := diffAppliesUptoRow.holds Try.pinned (OpenSpec.upto diffAppliesSpec)

/-- 'vivariumlaw.WorldRows', WHERE WHAT IT READS IS OF BULK AT MOST 1048576: true; the input reads as it did. -/
def worldRowsUptoRow : OpenClaim := { program := "ythbbjbcojhljfaa", sum := "f0e51426a511c19171f2ed8e4ed475f7ba324d19b29a5cf1f21a56068c8734cb", func := "vivarium/vivariumlaw.WorldRows", spec := "worldRows", unfollowed := true, recurses := true, plainKeys := false, apart := false, narrowed := true }
def WorldRowsUptoSaid : Prop := worldRowsUptoRow.holds Try.pinned (OpenSpec.upto worldRowsSpec)

/-- 'vivariumlaw.WorldLoads', WHERE WHAT IT READS IS OF BULK AT MOST 1048576: true; the input reads as it did. -/
def worldLoadsUptoRow : OpenClaim := { program := "ythbbjbcojhljfaa", sum := "f0e51426a511c19171f2ed8e4ed475f7ba324d19b29a5cf1f21a56068c8734cb", func := "vivarium/vivariumlaw.WorldLoads", spec := "worldLoads", unfollowed := true, recurses := true, plainKeys := false, apart := false, narrowed := true }
def WorldLoadsUptoSaid : Prop := worldLoadsUptoRow.holds Try.pinned (OpenSpec.upto worldLoadsSpec)

end Rows
end Go.Proofs.Ythbbjbcojhljfaa
