/- The walks of the reference of package sum. -/
import Derived.Test.YtdhlklidenfbeaaGreatDoorSumP
namespace Go.Proofs.YtdhlklidenfbeaaGreatDoor
open Go.RowKit
end Go.Proofs.YtdhlklidenfbeaaGreatDoor
