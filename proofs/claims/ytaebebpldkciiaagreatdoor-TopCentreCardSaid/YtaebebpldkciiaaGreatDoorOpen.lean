/- Opening the arguments of a law: slices of structs of one-cell fields; arrays of ints. -/
import Derived.Test.YtaebebpldkciiaaGreatDoorG01
import Derived.Deep.Slices
import Derived.Deep.Fields
import Derived.ChangeSame
import Derived.OpenShut
import Derived.SizedLaws
namespace Go.Proofs.YtaebebpldkciiaaGreatDoor
open Go.RowKit Go.ChangeShapes Go.WideShapes Go.Deep

section
variable {H : Type} {enc : TypeId × Value → H} {P : Program} {w : World} {base : Nat} {spare : Nat → Bool} {held : Bool}
end

end Go.Proofs.YtaebebpldkciiaaGreatDoor
