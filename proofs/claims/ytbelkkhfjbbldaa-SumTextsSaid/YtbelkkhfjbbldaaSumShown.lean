/- The walk of the examples at the head of the laws on sums. -/
import Derived.Test.YtbelkkhfjbbldaaSumRef
import Derived.Lib.SlBytesConst
namespace Go.Proofs.Ytbelkkhfjbbldaa
open Go.RowKit

theorem slc_nil (w : World) (B sz c : Nat) (hc : c ≤ maxLen) : Slc w B sz none 0 c [] := ⟨by simp, Nat.zero_le _, hc, fun h => absurd h (by decide)⟩

set_option maxRecDepth 100000 in
set_option maxHeartbeats 400000 in
theorem shown_any (w : World) :
    Calls Try.prog 10 #[] w fun e w' => e = .returned (.bool true) ∧ Below w.heap.size w w' := by
  have kc := fun (w : World) (C : Array Value) (n c : Nat) => Lib.run_convert_bytes_const (P := Try.prog) w 23 5 C n c Try.underlying23 Try.underlying5
  go_enter Try.func10, Try.ntmps10
  go_wp2_with fail
  refine (parse_any _ _ (by decide)).mono ?_
  have hp1 : optRes (parsed (ByteArray.mk #[48, 48, 48, 48, 48, 48, 48, 48, 48, 48, 48, 48, 48, 48, 102, 102]).data.toList) = .tuple #[.int .u64 255, .bool true] := by
    have : parsed (ByteArray.mk #[48, 48, 48, 48, 48, 48, 48, 48, 48, 48, 48, 48, 48, 48, 102, 102]).data.toList = some 255 := by decide
    rw [this]; rfl
  rintro e w1 ⟨rfl, hb1⟩
  rw [hp1]
  clear hp1
  go_wp2_with fail
  refine (parse_any _ _ (by decide)).mono ?_
  have hp2 : optRes (parsed (ByteArray.mk #[102, 102]).data.toList) = .tuple #[.int .u64 0, .bool false] := by
    have : parsed (ByteArray.mk #[102, 102]).data.toList = none := by decide
    rw [this]; rfl
  rintro e w2 ⟨rfl, hb2⟩
  rw [hp2]
  clear hp2
  go_wp2_with fail
  refine (sum_any none 0 0 0 [] _ (slc_nil _ _ _ _ (Nat.zero_le _))).mono ?_
  rintro e w3 ⟨rfl, rfl⟩
  go_wp2_with fail
  refine (text_any _ _).mono ?_
  rintro e w3 ⟨rfl, hb3⟩
  have ht : hexl 16 (updAll begin64 []).toNat = [99, 98, 102, 50, 57, 99, 101, 52, 56, 52, 50, 50, 50, 51, 50, 53] := by decide
  rw [ht]
  clear ht
  go_wp2_with fail
  refine (sum_any (some ⟨w3.heap.size, 0, none⟩) 1 1 (w3.heap.size + 1) [97] _ ?_).mono ?_
  · exact slc_new w3 5 (1, 2) #[.int .u8 97] (sz := 1) rfl (by omega) (by unfold maxLen; omega)
  rintro e w4 ⟨rfl, rfl⟩
  go_wp2_with fail
  refine (text_any _ _).mono ?_
  rintro e w4 ⟨rfl, hb4⟩
  have ht : hexl 16 (updAll begin64 [97]).toNat = [97, 102, 54, 51, 100, 99, 52, 99, 56, 54, 48, 49, 101, 99, 56, 99] := by decide
  rw [ht]
  clear ht
  go_wp2_with fail
  go_ret
  have hs := hb1.size
  have hs2 := hb2.size
  have hs3 := hb3.size
  have hb4' : Below w.heap.size (w3.alloc (.cells #[.int .u8 97] 5 (1, 2))) w4 := hb4.mono (by simp; omega)
  exact ⟨rfl, ((hb1.trans (hb2.mono (by omega))).trans ((hb3.mono (by omega)).alloc (by omega) _)).trans hb4'⟩
end Go.Proofs.Ytbelkkhfjbbldaa
