/- The closed fact 'masked', and the laws MaskOfs and MaskMatches on values. -/
import Derived.Test.YtkcpmoinpdojjaaMask3
namespace Go.Proofs.Ytkcpmoinpdojjaa
open Go.RowKit

theorem of13 : ofM [1, 3] = 10 ∧ ofE [1, 3] = 0 := by decide
end Go.Proofs.Ytkcpmoinpdojjaa
