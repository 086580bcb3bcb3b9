/- Words of the print that this claim needs, shaken from WNEv. -/
import Derived.Test.YthhlmjcfhfkmdaaYl
namespace Go.Proofs.YthhlmjcfhfkmdaaW.PrintWords
open Go.RowKit
namespace Kd
end Kd
end Go.Proofs.YthhlmjcfhfkmdaaW.PrintWords
