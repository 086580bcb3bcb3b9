/- Words of the print that this claim needs, shaken from WInv. -/
import Derived.Test.YthhlmjcfhfkmdaaYc
namespace Go.Proofs.YthhlmjcfhfkmdaaW.PrintLast
def up (b : Nat → Bool) (i : Nat) : Nat → Bool := fun j => if j = i then true else b j
end Go.Proofs.YthhlmjcfhfkmdaaW.PrintLast
