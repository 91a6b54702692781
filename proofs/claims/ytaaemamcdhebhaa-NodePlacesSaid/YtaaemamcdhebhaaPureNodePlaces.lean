import Derived.Test.YtaaemamcdhebhaaDnpNodePlaces
namespace Go.Proofs.Ytaaemamcdhebhaa.Pure
open Go.RowKit Go.Proofs.Ytaaemamcdhebhaa.PNP
/-- NodePlaces's plain law: for all arguments the printed function tells true, with enough rounds. -/
theorem NodePlaces : woodcutlaw07_NodePlaces.Pure := PNP.NodePlaces
end Go.Proofs.Ytaaemamcdhebhaa.Pure
