/- RunsBack's plain law: for every list of 64-bit numbers that lies in memory and every 64-bit number the printed function woodcutlaw21_RunsBack.f tells true, with enough rounds. -/
import Derived.Test.YtijfghknjkegpaaRunsBack2
import Derived.Test.YtijfghknjkegpaaWSized
namespace Go.Proofs.Ytijfghknjkegpaa.PrintWords
abbrev sized_ints := @Go.Proofs.YtijfghknjkegpaaW.PrintWords.sized_ints   -- the printed row asks for it under this name
end Go.Proofs.Ytijfghknjkegpaa.PrintWords
namespace Go.Proofs.Ytijfghknjkegpaa.Pure
open Go.RowKit Go.Proofs.Ytijfghknjkegpaa.PRunsBack Go.Proofs.YtijfghknjkegpaaW.PrintWords Go.Proofs.YtijfghknjkegpaaW.PrintLast
theorem RunsBack : woodcutlaw21_RunsBack.Pure := PRunsBack.RunsBack
end Go.Proofs.Ytijfghknjkegpaa.Pure
