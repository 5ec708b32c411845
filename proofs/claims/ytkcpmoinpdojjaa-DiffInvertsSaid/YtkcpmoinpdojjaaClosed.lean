/- Closed facts on the translated program that every law's row asks. -/
import Derived.Test.YtkcpmoinpdojjaaChecked
import Derived.ProofKit
import Derived.JoinedOf
import Derived.KernelRfl
namespace Go.Proofs.Ytkcpmoinpdojjaa
open Go
theorem own_ : ownKnob Try.prog.godebug = none := by kernel_rfl
theorem laid_ : laidOutB Try.prog = true := by kernel_rfl
theorem mapsRowed_ : mapsRowed Try.prog = true := by kernel_rfl
theorem stops_ : (Try.prog.stops == []) = true := by kernel_rfl
theorem stopKnobs_ : (Try.prog.stopKnobs == []) = true := by kernel_rfl
theorem plainKeys_ : (false == Try.prog.plainKeys) = true := by kernel_rfl
theorem stopsHeard_ : Try.prog.stopsHeard = true := by kernel_rfl
theorem mayEnter_ : Try.prog.mayEnter = true := by kernel_rfl
theorem liftsFinal_ : (false == Try.prog.liftsFinal) = true := by kernel_rfl
theorem make_ : (Try.prog.make == some .cut) = true := by kernel_rfl
theorem and_intro {a b : Bool} (ha : a = true) (hb : b = true) : (a && b) = true := by rw [ha, hb]; rfl
end Go.Proofs.Ytkcpmoinpdojjaa
