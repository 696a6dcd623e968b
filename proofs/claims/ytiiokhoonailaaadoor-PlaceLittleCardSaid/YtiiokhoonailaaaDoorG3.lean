/- The example of the chapter holds, in the form that the laws' walks ask for. Conditions: none. -/
import Derived.Test.YtiiokhoonailaaaDoorC5
import Derived.Test.YtiiokhoonailaaaDoorG1
import Derived.Test.YtiiokhoonailaaaDoorO1
namespace Go.Proofs.YtiiokhoonailaaaDoor.D
open Go.RowKit
theorem exOk : ExOk := fun W => (example_calls W).mono fun _ _ h => h
end Go.Proofs.YtiiokhoonailaaaDoor.D
