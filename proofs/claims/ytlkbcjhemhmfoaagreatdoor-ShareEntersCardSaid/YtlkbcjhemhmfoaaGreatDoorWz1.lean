/- The statement ShareEnters of the seat holds: told, and tied to its row. -/
import Derived.Test.YtlkbcjhemhmfoaaGreatDoorWr5
import Derived.Test.YtlkbcjhemhmfoaaGreatDoorTs2
set_option maxRecDepth 10000
namespace Go.Proofs.YtlkbcjhemhmfoaaGreatDoor
open Go Go.Proofs Go.AM

theorem shareEnters_holds : Rows.ShareEntersCardSaid := fnEnters.card (envB_ok sane)

end Go.Proofs.YtlkbcjhemhmfoaaGreatDoor
