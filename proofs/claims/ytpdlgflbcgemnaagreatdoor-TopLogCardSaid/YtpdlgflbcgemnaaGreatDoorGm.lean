/- Plain laws and walks: CodD4, CodD5, CodD6. -/
import Derived.Test.YtpdlgflbcgemnaaGreatDoorCodDp
import Derived.Test.YtpdlgflbcgemnaaGreatDoorCodMm
import Derived.Test.YtpdlgflbcgemnaaGreatDoorCodTE
-- CodD4
/- codec: the reference's Decode by shapes: walks. -/
set_option linter.unusedSimpArgs false
set_option linter.unusedVariables false
namespace Go.Proofs.YtpdlgflbcgemnaaGreatDoor
open Go.RowKit Octs
set_option maxHeartbeats 2000000
set_option maxRecDepth 100000
end Go.Proofs.YtpdlgflbcgemnaaGreatDoor
-- CodD5
/- codec: the reference's Decode by shapes: walks. -/
set_option linter.unusedSimpArgs false
set_option linter.unusedVariables false
namespace Go.Proofs.YtpdlgflbcgemnaaGreatDoor
open Go.RowKit Octs
set_option maxHeartbeats 2000000
set_option maxRecDepth 100000
end Go.Proofs.YtpdlgflbcgemnaaGreatDoor
-- CodD6
/- codec: the reference's Decode by shapes: walks. -/
set_option linter.unusedSimpArgs false
set_option linter.unusedVariables false
namespace Go.Proofs.YtpdlgflbcgemnaaGreatDoor
open Go.RowKit Octs
set_option maxHeartbeats 2000000
set_option maxRecDepth 100000
end Go.Proofs.YtpdlgflbcgemnaaGreatDoor
