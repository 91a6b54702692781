/- RunsOne's plain law: for every three 64-bit numbers the printed function woodcutlaw21_RunsOne.f tells true, with enough rounds. -/
import Derived.Test.YtijfghknjkegpaaRunsOne2
namespace Go.Proofs.Ytijfghknjkegpaa.Pure
open Go.RowKit Go.Proofs.Ytijfghknjkegpaa.PRunsOne Go.Proofs.YtijfghknjkegpaaW.PrintWords Go.Proofs.YtijfghknjkegpaaW.PrintLast
theorem RunsOne : woodcutlaw21_RunsOne.Pure := PRunsOne.RunsOne
end Go.Proofs.Ytijfghknjkegpaa.Pure
