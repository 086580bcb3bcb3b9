/- Words of the print that this claim needs, shaken from WQPut. -/
import Derived.Test.YthhlmjcfhfkmdaaYa
import Derived.Test.YthhlmjcfhfkmdaaYb
namespace Go.Proofs.YthhlmjcfhfkmdaaW.PrintWords
open Go.RowKit
namespace Kd
end Kd
end Go.Proofs.YthhlmjcfhfkmdaaW.PrintWords
