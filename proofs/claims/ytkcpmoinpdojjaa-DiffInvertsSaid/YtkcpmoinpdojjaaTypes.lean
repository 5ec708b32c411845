/- Types whose cells are all integers. -/
import Derived.Test.YtkcpmoinpdojjaaProg
import Derived.Test.YtkcpmoinpdojjaaOpen
namespace Go.Proofs.Ytkcpmoinpdojjaa
open Go

theorem intCells_int : IntCells Try.prog 3 := IntCells.int Try.underlying3 (by kernel_rfl)
theorem intCells_arr : IntCells Try.prog 22 := IntCells.array Try.underlying22 (by kernel_rfl) (of_decide_eq_true (by kernel_rfl)) intCells_int
theorem intCells_Query : IntCells Try.prog 26 := IntCells.struct Try.underlying26 (by kernel_rfl) (by
  intro f hf
  simp only [List.mem_toArray, List.mem_cons, List.not_mem_nil, or_false] at hf
  rcases hf with rfl | rfl | rfl <;> exact intCells_int)
theorem intCells_Beast : IntCells Try.prog 24 := IntCells.struct Try.underlying24 (by kernel_rfl) (by
  intro f hf
  simp only [List.mem_toArray, List.mem_cons, List.not_mem_nil, or_false] at hf
  rcases hf with rfl | rfl
  · exact intCells_int
  · exact intCells_arr)
theorem intCells_System : IntCells Try.prog 28 := IntCells.struct Try.underlying28 (by kernel_rfl) (by
  intro f hf
  simp only [List.mem_toArray, List.mem_cons, List.not_mem_nil, or_false] at hf
  rcases hf with rfl | rfl | rfl | rfl | rfl
  · exact intCells_Query
  all_goals exact intCells_int)
theorem intCells_Handle : IntCells Try.prog 45 := IntCells.struct Try.underlying45 (by kernel_rfl) (by
  intro f hf
  simp only [List.mem_toArray, List.mem_cons, List.not_mem_nil, or_false] at hf
  rcases hf with rfl | rfl <;> exact intCells_int)
end Go.Proofs.Ytkcpmoinpdojjaa
