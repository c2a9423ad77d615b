/- The walks of sum.Text, sum.Parse and of their reference. -/
import Derived.Test.YtdhlklidenfbeaaGreatDoorSum
import Derived.Test.YtdhlklidenfbeaaGreatDoorSumParse
namespace Go.Proofs.YtdhlklidenfbeaaGreatDoor
open Go.RowKit

theorem digs_at (d : Nat) (h : d < 16) (h' : d < (ByteArray.mk #[48, 49, 50, 51, 52, 53, 54, 55, 56, 57, 97, 98, 99, 100, 101, 102]).size) :
    (ByteArray.mk #[48, 49, 50, 51, 52, 53, 54, 55, 56, 57, 97, 98, 99, 100, 101, 102])[d] = dig d := by
  have : ∀ d : Fin 16, ∀ h : (d : Nat) < (ByteArray.mk #[48, 49, 50, 51, 52, 53, 54, 55, 56, 57, 97, 98, 99, 100, 101, 102]).size, (ByteArray.mk #[48, 49, 50, 51, 52, 53, 54, 55, 56, 57, 97, 98, 99, 100, 101, 102])[(d : Nat)] = dig d := by decide
  exact this ⟨d, h⟩ h'

theorem digs_ext (d : Nat) (h : d < 16) : (ByteArray.mk #[48, 49, 50, 51, 52, 53, 54, 55, 56, 57, 97, 98, 99, 100, 101, 102]).extract d (d + 1) = ⟨[dig d].toArray⟩ := by
  have : ∀ d : Fin 16, (ByteArray.mk #[48, 49, 50, 51, 52, 53, 54, 55, 56, 57, 97, 98, 99, 100, 101, 102]).extract (d : Nat) ((d : Nat) + 1) = ⟨[dig d].toArray⟩ := by decide
  exact this ⟨d, h⟩

theorem mk16 : ∀ w : World, (Instr.makeSlice 32 (.int .i64 16) (.int .i64 16)).run Tryz.prog w = .ok (.slice (some ⟨w.heap.size, 0, none⟩) 16 16) (w.alloc (.cells (zbytes 16) 5)) := fun _ => by kernel_rfl

def textCells (m s : Nat) : Array Value := ((List.replicate m (Value.int .u8 0)) ++ (hexl (16 - m) s).map bv).toArray
theorem textCells_size (m s : Nat) (h : m ≤ 16) : (textCells m s).size = 16 := by simp [textCells, hexl_length]; omega
theorem textCells_zero (s : Nat) : textCells 16 s = zbytes 16 := by simp [textCells, hexl, zbytes]
theorem textCells_at (m s : Nat) : (textCells (m + 1) s)[m]? = some (.int .u8 0) := by simp [textCells, List.getElem?_append]
theorem textCells_set (m s : Nat) (h : m < 16) : (textCells (m + 1) s).setIfInBounds m (bv (dig (s / 16 ^ (15 - m) % 16))) = textCells m s := by
  unfold textCells
  rw [show 16 - m = (15 - m) + 1 by omega, hexl_succ, show 16 - (m + 1) = 15 - m by omega]
  apply Array.ext'
  simp [List.replicate_succ']


end Go.Proofs.YtdhlklidenfbeaaGreatDoor
