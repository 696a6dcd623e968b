-- PRINTED by the kit's print program for chosen functions (xprint.sh)
import Derived.Test.YtiiokhoonailaaaDoorR0
import Derived.Test.YtiiokhoonailaaaDoorR1
import Derived.Test.YtiiokhoonailaaaDoorR2
import Derived.Test.YtiiokhoonailaaaDoorR3
namespace Go.Proofs.YtiiokhoonailaaaDoor.R
open Go.RowKit Go.Proofs.YtiiokhoonailaaaDoorW.PrintWords Go.Proofs.YtiiokhoonailaaaDoorW.PrintLast Go.Proofs.YtiiokhoonailaaaDoorW.PrintMore
attribute [local go_sem] max2_int min2_int max_two min_two max_three min_three max_four min_four   -- for this text's walks alone
set_option linter.unusedVariables false
set_option linter.unusedSimpArgs false

end Go.Proofs.YtiiokhoonailaaaDoor.R
