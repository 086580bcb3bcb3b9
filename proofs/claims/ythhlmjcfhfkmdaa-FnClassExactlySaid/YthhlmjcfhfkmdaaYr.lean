/- Words of the print that this claim needs, shaken from WInvWords. -/
import Derived.Test.YthhlmjcfhfkmdaaYq
import Derived.Test.YthhlmjcfhfkmdaaYm
namespace Go.Proofs.YthhlmjcfhfkmdaaW.PrintWords
open Go.RowKit
end Go.Proofs.YthhlmjcfhfkmdaaW.PrintWords
namespace Go.Proofs.YthhlmjcfhfkmdaaW.PrintLast
end Go.Proofs.YthhlmjcfhfkmdaaW.PrintLast
