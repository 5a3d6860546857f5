/- toDisk, its files ahead of its directories. No condition but lengths. -/
import Derived.Test.YtgjfjjhmgbemcaaDoorDkAdd
import Derived.Test.YtgjfjjhmgbemcaaDoorLa
namespace Go.Proofs.YtgjfjjhmgbemcaaDoor
open Go.RowKit

end Go.Proofs.YtgjfjjhmgbemcaaDoor
