/- TopHolds: the walk, with the fixed example. -/
import Derived.Test.YtaebebpldkciiaaGreatDoorS17
import Derived.Test.YtaebebpldkciiaaGreatDoorS26
namespace Go.Proofs.YtaebebpldkciiaaGreatDoor
open Go.RowKit

theorem TopHolds_all (S : Su) (l : List Inp) (hs : List Hd) (n : Nat) (A : Option Addr) (cA : Nat) (w : World) (hW : SeaW w) (hI : SArg l hs A n cA w) :
    Calls Tryz.prog 4 #[suA S, .slice A n cA] w fun e w' => e = .returned (.bool true) ∧ Below w.heap.size w w' :=
  TopHolds_any S l hs n A cA w hW.ks hW.pos hI.ins hI.cap hI.nil fun W hb => fact10_any W (hW.below hb)
end Go.Proofs.YtaebebpldkciiaaGreatDoor
