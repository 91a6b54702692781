/- Laid: part of a calculus over an abstract machine that stands beside the model, and contracts of functions by it.
Conditions: what each theorem says of its arguments. -/
import Derived.Test.YtaaemamcdhebhaaLe
import Derived.Test.YtaaemamcdhebhaaAm19
open Go Go.Am Go.RowKit
namespace Go.Proofs.Ytaaemamcdhebhaa
open Go.Proofs.Try
theorem mixed : prog.follows .mixedOrders = true := by kernel_rfl
theorem routines : noRoutine prog = true := by kernel_rfl
end Go.Proofs.Ytaaemamcdhebhaa
