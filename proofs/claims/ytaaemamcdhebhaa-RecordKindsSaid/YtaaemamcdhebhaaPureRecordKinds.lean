import Derived.Test.YtaaemamcdhebhaaDrkRecordKinds
namespace Go.Proofs.Ytaaemamcdhebhaa.Pure
open Go.RowKit Go.Proofs.Ytaaemamcdhebhaa.PRK Go.Proofs.YtaaemamcdhebhaaW.PrintWords Go.Proofs.YtaaemamcdhebhaaW.PrintLast
/-- RecordKinds's plain law: for all arguments the printed function tells true, with enough rounds. -/
theorem RecordKinds : woodcutlaw08_RecordKinds.Pure := PRK.RecordKinds
end Go.Proofs.Ytaaemamcdhebhaa.Pure
