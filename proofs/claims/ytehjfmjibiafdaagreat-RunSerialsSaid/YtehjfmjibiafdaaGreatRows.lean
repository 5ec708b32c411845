/-
  No cell of these rows narrows 'for every input' (looked for: loops, veiled, ifaces, maps, wideKeys, modest, calm, conditions, laid).
  DERIVED. THE GIVEN ROWS OF THIS SEAT. 5 by the template 'for every input the law returns true; each argument reads behind the call as it read before'; 0 by the template 'total and deterministic' (their statements: YtehjfmjibiafdaaGreatTotals.lean).
  GIVEN WITH THE SEED: the statements are not yours to turn. If you find one false, say at which input.
  Laid BY PROGRAM, IN A SANDBOX (cutbox-rows.mjs): the forced cells as the released guide's own fill.sh prints them over the translation 1a03ac221370890c… (all of the seat's roots in one cut). By AI agents, Wed Nov 11 2026. No macro, syntax, notation, axiom, sorry.
-/
import Derived.Test.YtehjfmjibiafdaaGreatChecked
import GoSem.Claim
import GoSem.ClaimJoined
import GoSem.ClaimMapViews
import Derived.JoinedTies
import Derived.KernelRfl
namespace Go.Proofs.YtehjfmjibiafdaaGreat
/- THE CELL 'sum', in the pinned program and in every row, IS THE sha256 OF THE DUMP (.gsa) THAT YtehjfmjibiafdaaGreatProg.lean LOADS. Nothing in Lean hashes anything: it is a label: what it is worth is what the hold of that sum in a sandbox is worth. -/
noncomputable def Tryz.pinned : Pinned := { name := "ytehjfmjibiafdaagreat", sum := "1a03ac221370890c03c6ff5b182c667c1c0fcf6d285a472da614a1e5556366fb", checked := Tryz.checked }
namespace Rows
def none {H : Type} : Left H := { results := [], args := [] }

/-- 'vivariumlaw.ZooLoads': WHATEVER THE INPUT: true; the input reads as it did. -/
def zooLoadsSpec : ChangeSpec := { name := "zooLoads", fn := fun _ => fun
  | [d] => { results := [.lit (.bool true)], args := [d] }
  | _ => none }
def zooLoadsRow : OpenClaim := { program := "ytehjfmjibiafdaagreat", sum := "1a03ac221370890c03c6ff5b182c667c1c0fcf6d285a472da614a1e5556366fb", func := "vivarium/vivariumlaw.ZooLoads", spec := "zooLoads", unfollowed := true, recurses := true, plainKeys := false, apart := false }
def ZooLoadsSaid : Prop := zooLoadsRow.holds Tryz.pinned (OpenSpec.ofChange zooLoadsSpec)

/-- ITS FALSE NEIGHBOUR: 'it returns false'. Refute it at one input. -/
def zooLoadsWrong : ChangeSpec := { name := "zooLoads", fn := fun _ => fun
  | [d] => { results := [.lit (.bool false)], args := [d] }
  | _ => none }
def ZooLoadsWrongFalsely : Prop := zooLoadsRow.holds Tryz.pinned (OpenSpec.ofChange zooLoadsWrong)

/-- 'vivariumlaw.ZooTells': WHATEVER THE INPUT: true; the input reads as it did. -/
def zooTellsSpec : ChangeSpec := { name := "zooTells", fn := fun _ => fun
  | [d1, d2, d3] => { results := [.lit (.bool true)], args := [d1, d2, d3] }
  | _ => none }
def zooTellsRow : OpenClaim := { program := "ytehjfmjibiafdaagreat", sum := "1a03ac221370890c03c6ff5b182c667c1c0fcf6d285a472da614a1e5556366fb", func := "vivarium/vivariumlaw.ZooTells", spec := "zooTells", unfollowed := true, recurses := true, plainKeys := false, apart := false }
def ZooTellsSaid : Prop := zooTellsRow.holds Tryz.pinned (OpenSpec.ofChange zooTellsSpec)

/-- ITS FALSE NEIGHBOUR: 'it returns false'. Refute it at one input. -/
def zooTellsWrong : ChangeSpec := { name := "zooTells", fn := fun _ => fun
  | [d1, d2, d3] => { results := [.lit (.bool false)], args := [d1, d2, d3] }
  | _ => none }
def ZooTellsWrongFalsely : Prop := zooTellsRow.holds Tryz.pinned (OpenSpec.ofChange zooTellsWrong)

/-- 'vivariumlaw.ZooDoes': WHATEVER THE INPUT: true; the input reads as it did. -/
def zooDoesSpec : ChangeSpec := { name := "zooDoes", fn := fun _ => fun
  | [d] => { results := [.lit (.bool true)], args := [d] }
  | _ => none }
def zooDoesRow : OpenClaim := { program := "ytehjfmjibiafdaagreat", sum := "1a03ac221370890c03c6ff5b182c667c1c0fcf6d285a472da614a1e5556366fb", func := "vivarium/vivariumlaw.ZooDoes", spec := "zooDoes", unfollowed := true, recurses := true, plainKeys := false, apart := false }
def ZooDoesSaid : Prop := zooDoesRow.holds Tryz.pinned (OpenSpec.ofChange zooDoesSpec)

/-- ITS FALSE NEIGHBOUR: 'it returns false'. Refute it at one input. -/
def zooDoesWrong : ChangeSpec := { name := "zooDoes", fn := fun _ => fun
  | [d] => { results := [.lit (.bool false)], args := [d] }
  | _ => none }
def ZooDoesWrongFalsely : Prop := zooDoesRow.holds Tryz.pinned (OpenSpec.ofChange zooDoesWrong)

/-- 'vivariumlaw.RunSerials': WHATEVER THE INPUT: true; the input reads as it did. -/
def runSerialsSpec : ChangeSpec := { name := "runSerials", fn := fun _ => fun
  | [d1, d2] => { results := [.lit (.bool true)], args := [d1, d2] }
  | _ => none }
def runSerialsRow : OpenClaim := { program := "ytehjfmjibiafdaagreat", sum := "1a03ac221370890c03c6ff5b182c667c1c0fcf6d285a472da614a1e5556366fb", func := "vivarium/vivariumlaw.RunSerials", spec := "runSerials", unfollowed := true, recurses := true, plainKeys := false, apart := false }
def RunSerialsSaid : Prop := runSerialsRow.holds Tryz.pinned (OpenSpec.ofChange runSerialsSpec)

/-- ITS FALSE NEIGHBOUR: 'it returns false'. Refute it at one input. -/
def runSerialsWrong : ChangeSpec := { name := "runSerials", fn := fun _ => fun
  | [d1, d2] => { results := [.lit (.bool false)], args := [d1, d2] }
  | _ => none }
def RunSerialsWrongFalsely : Prop := runSerialsRow.holds Tryz.pinned (OpenSpec.ofChange runSerialsWrong)

/-- 'vivariumlaw.ZooAlls': WHATEVER THE INPUT: true; the input reads as it did. -/
def zooAllsSpec : ChangeSpec := { name := "zooAlls", fn := fun _ => fun
  | [d1, d2] => { results := [.lit (.bool true)], args := [d1, d2] }
  | _ => none }
def zooAllsRow : OpenClaim := { program := "ytehjfmjibiafdaagreat", sum := "1a03ac221370890c03c6ff5b182c667c1c0fcf6d285a472da614a1e5556366fb", func := "vivarium/vivariumlaw.ZooAlls", spec := "zooAlls", unfollowed := true, recurses := true, plainKeys := false, apart := false }
def ZooAllsSaid : Prop := zooAllsRow.holds Tryz.pinned (OpenSpec.ofChange zooAllsSpec)

/-- ITS FALSE NEIGHBOUR: 'it returns false'. Refute it at one input. -/
def zooAllsWrong : ChangeSpec := { name := "zooAlls", fn := fun _ => fun
  | [d1, d2] => { results := [.lit (.bool false)], args := [d1, d2] }
  | _ => none }
def ZooAllsWrongFalsely : Prop := zooAllsRow.holds Tryz.pinned (OpenSpec.ofChange zooAllsWrong)

/- THE SECOND FORM. 'bulk': how many values and letters a reading holds, each counted each time it is reached (what is shared counts as often as it is met; a slice's spare places count too). A statement '..UptoSaid' is the law's where the arguments, and the package variables that the reading takes, are together of bulk at most 1048576: NARROWER than '..Said'. Prove '..Said' where nothing that the law and all that it calls make is longer than what came in: it says more and counts as full. Else prove '..UptoSaid'. A law counts once. -/
mutual
def uptoBulk {H : Type} : DataW H → Nat
  | .lit (.string bytes) => bytes.length + 1
  | .lit _ => 1
  | .nil => 1
  | .ptr d => uptoBulk d + 1
  | .slice elems spare => uptoBulkAll elems + uptoBulkAll spare + 1
  | .agg parts => uptoBulkAll parts + 1
  | .iface _ d => uptoBulk d + 1
  | .map entries => uptoBulkEntries entries + 1
  | .held _ => 1
def uptoBulkAll {H : Type} : List (DataW H) → Nat
  | [] => 0
  | d :: r => uptoBulk d + uptoBulkAll r
def uptoBulkEntries {H : Type} : List (Lit × DataW H) → Nat
  | [] => 0
  | x :: r => uptoBulkEntry x + uptoBulkEntries r
def uptoBulkEntry {H : Type} : Lit × DataW H → Nat
  | (.string bytes, d) => bytes.length + uptoBulk d + 1
  | (_, d) => uptoBulk d + 1
 end
def uptoSmall : (H : Type) → List (DataW H) → Bool := fun _ ds => decide (uptoBulkAll ds ≤ 1048576)
def OpenSpec.upto (s : _root_.Go.ChangeSpec) : _root_.Go.OpenSpec := { _root_.Go.OpenSpec.ofChange s with cond := some uptoSmall }

/-- 'vivariumlaw.ZooLoads', WHERE WHAT IT READS IS OF BULK AT MOST 1048576: true; the input reads as it did. -/
def zooLoadsUptoRow : OpenClaim := { program := "ytehjfmjibiafdaagreat", sum := "1a03ac221370890c03c6ff5b182c667c1c0fcf6d285a472da614a1e5556366fb", func := "vivarium/vivariumlaw.ZooLoads", spec := "zooLoads", unfollowed := true, recurses := true, plainKeys := false, apart := false, narrowed := true }
def ZooLoadsUptoSaid : Prop := zooLoadsUptoRow.holds Tryz.pinned (OpenSpec.upto zooLoadsSpec)

/-- 'vivariumlaw.ZooTells', WHERE WHAT IT READS IS OF BULK AT MOST 1048576: true; the input reads as it did. -/
def zooTellsUptoRow : OpenClaim := { program := "ytehjfmjibiafdaagreat", sum := "1a03ac221370890c03c6ff5b182c667c1c0fcf6d285a472da614a1e5556366fb", func := "vivarium/vivariumlaw.ZooTells", spec := "zooTells", unfollowed := true, recurses := true, plainKeys := false, apart := false, narrowed := true }
def ZooTellsUptoSaid : Prop := zooTellsUptoRow.holds Tryz.pinned (OpenSpec.upto zooTellsSpec)

/-- 'vivariumlaw.ZooDoes', WHERE WHAT IT READS IS OF BULK AT MOST 1048576: true; the input reads as it did. -/
def zooDoesUptoRow : OpenClaim := { program := "ytehjfmjibiafdaagreat", sum := "1a03ac221370890c03c6ff5b182c667c1c0fcf6d285a472da614a1e5556366fb", func := "vivarium/vivariumlaw.ZooDoes", spec := "zooDoes", unfollowed := true, recurses := true, plainKeys := false, apart := false, narrowed := true }
def ZooDoesUptoSaid : Prop := zooDoesUptoRow.holds Tryz.pinned (OpenSpec.upto zooDoesSpec)

/-- 'vivariumlaw.RunSerials', WHERE WHAT IT READS IS OF BULK AT MOST 1048576: true; the input reads as it did. -/
def runSerialsUptoRow : OpenClaim := { program := "ytehjfmjibiafdaagreat", sum := "1a03ac221370890c03c6ff5b182c667c1c0fcf6d285a472da614a1e5556366fb", func := "vivarium/vivariumlaw.RunSerials", spec := "runSerials", unfollowed := true, recurses := true, plainKeys := false, apart := false, narrowed := true }
def RunSerialsUptoSaid : Prop := runSerialsUptoRow.holds Tryz.pinned (OpenSpec.upto runSerialsSpec)

/-- 'vivariumlaw.ZooAlls', WHERE WHAT IT READS IS OF BULK AT MOST 1048576: true; the input reads as it did. -/
def zooAllsUptoRow : OpenClaim := { program := "ytehjfmjibiafdaagreat", sum := "1a03ac221370890c03c6ff5b182c667c1c0fcf6d285a472da614a1e5556366fb", func := "vivarium/vivariumlaw.ZooAlls", spec := "zooAlls", unfollowed := true, recurses := true, plainKeys := false, apart := false, narrowed := true }
def ZooAllsUptoSaid : Prop := zooAllsUptoRow.holds Tryz.pinned (OpenSpec.upto zooAllsSpec)

end Rows
end Go.Proofs.YtehjfmjibiafdaaGreat
