/- Words of the print that this claim needs, shaken from WZeros. -/
import Derived.Test.YthhlmjcfhfkmdaaYd
import Derived.Test.YthhlmjcfhfkmdaaYe
namespace Go.Proofs.YthhlmjcfhfkmdaaW.PrintWords
open Go.RowKit
namespace Kd
end Kd
end Go.Proofs.YthhlmjcfhfkmdaaW.PrintWords
