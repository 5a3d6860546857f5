/- The laws' own counting, comparing and copying of directories and disks: the walks. No condition but lengths. -/
import Derived.Test.YtgjfjjhmgbemcaaDoorDir
import Derived.Test.YtgjfjjhmgbemcaaDoorIa
namespace Go.Proofs.YtgjfjjhmgbemcaaDoor
open Go.RowKit

/-- The size of a disk. -/
def szDk (l : List Fi) (dl : List Di) (n : Int) : Int := if szFis l n < 0 then -1 else if szDis dl (szFis l n) < 0 then -1 else szDis dl (szFis l n)
/-! ### Comparing -/
end Go.Proofs.YtgjfjjhmgbemcaaDoor
