/- Words of the print that this claim needs, shaken from WFour. -/
import Derived.Test.YthhlmjcfhfkmdaaYc
namespace Go.Proofs.YthhlmjcfhfkmdaaW.PrintLast
end Go.Proofs.YthhlmjcfhfkmdaaW.PrintLast
