/- The walks of package sum. -/
import Derived.Test.YtdhlklidenfbeaaGreatDoorBase
import Derived.Test.YtdhlklidenfbeaaGreatDoorSumPlain
namespace Go.Proofs.YtdhlklidenfbeaaGreatDoor
open Go.RowKit

theorem num_u64 (a b : UInt64) (h : a = b) : Value.int .u64 (a.toNat : Int) = Value.int .u64 (b.toNat : Int) := by rw [h]


def begin64 : UInt64 := 14695981039346656037
theorem begin64_eq : (14695981039346656037 : Int) = (begin64.toNat : Int) := rfl

end Go.Proofs.YtdhlklidenfbeaaGreatDoor
