/- The walks of the reference of package sum. -/
import Derived.Test.YtdhlklidenfbeaaDoorSumP
namespace Go.Proofs.YtdhlklidenfbeaaDoor
open Go.RowKit

set_option maxHeartbeats 400000 in
theorem refUpdate_any (s : UInt64) (A : Option Addr) (n c B : Nat) (l : List UInt8) (w : World) (h : Slc w B 1 A n c (l.map bv)) :
    Calls Tryd.prog 133 #[.int .u64 (s.toNat : Int), .slice A n c] w fun e w' => e = .returned (.int .u64 ((updAll s l).toNat : Int)) ∧ w = w' := by
  have hlen : l.length = n := by have := h.len; simpa using this
  have hm : n ≤ 9223372036854775807 := by have := h.le; have := h.cmax; unfold maxLen at *; omega
  have HL := Lib.hid hlen
  clear hlen
  go_enter Tryd.func133, Tryd.ntmps133
  go_wp2
  go_loop [0, 5] (fun t i => ∃ k : Nat, k ≤ n ∧ i = .int .i64 k ∧ t = .int .u64 ((updAll s (l.take k)).toNat : Int)) (fun _ i => n - (intOf i).toNat)
  case atStart => exact ⟨0, Nat.zero_le _, rfl, rfl⟩
  case round =>
    obtain ⟨k, hk, rfl, rfl⟩ := hrel
    by_cases hlt : k < n
    · obtain ⟨b, off, rfl, hb, hl, hc⟩ := h.byte hlt
      have HU := Lib.hid (updAll_take s l k hl)
      generalize updAll s (l.take k) = t at *
      go_wp2
      exact ⟨⟨k + 1, by omega, by go_num, by rw [HU.out, upd_wrap]⟩, by simp [intOf]; omega⟩
    · go_wp2
      go_ret
      exact ⟨by rw [List.take_of_length_le (by rw [HL.out]; omega)]; rfl, rfl⟩

theorem refSum_any (A : Option Addr) (n c B : Nat) (l : List UInt8) (w : World) (h : Slc w B 1 A n c (l.map bv)) :
    Calls Tryd.prog 97 #[.slice A n c] w fun e w' => e = .returned (.int .u64 ((updAll begin64 l).toNat : Int)) ∧ w = w' := by
  go_enter Tryd.func97, Tryd.ntmps97
  go_wp2_with fail
  refine (refUpdate_any begin64 A n c B l _ h).mono ?_
  rintro e w' ⟨rfl, rfl⟩
  go_wp2
  go_ret
  exact ⟨rfl, rfl⟩
end Go.Proofs.YtdhlklidenfbeaaDoor
