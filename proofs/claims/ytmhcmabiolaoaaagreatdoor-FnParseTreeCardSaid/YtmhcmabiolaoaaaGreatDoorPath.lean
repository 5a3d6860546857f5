/- The generators of search paths. No condition but that the reader has not read too far. -/
import Derived.Test.YtmhcmabiolaoaaaGreatDoorMe
namespace Go.Proofs.YtmhcmabiolaoaaaGreatDoor
open Go.RowKit

end Go.Proofs.YtmhcmabiolaoaaaGreatDoor
