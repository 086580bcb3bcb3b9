/- Words of the print that this claim needs, shaken from WEqStruct. -/
import Derived.Test.YthhlmjcfhfkmdaaYa
import Derived.Laws.StructEq
namespace Go.Proofs.YthhlmjcfhfkmdaaW.PrintWords
open Go.RowKit
end Go.Proofs.YthhlmjcfhfkmdaaW.PrintWords
