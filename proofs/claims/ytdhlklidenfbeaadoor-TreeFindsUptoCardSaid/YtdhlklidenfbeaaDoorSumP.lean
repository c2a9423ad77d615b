/- The walks of package sum. -/
import Derived.Test.YtdhlklidenfbeaaDoorBase
import Derived.Test.YtdhlklidenfbeaaDoorSumPlain
namespace Go.Proofs.YtdhlklidenfbeaaDoor
open Go.RowKit

theorem num_u64 (a b : UInt64) (h : a = b) : Value.int .u64 (a.toNat : Int) = Value.int .u64 (b.toNat : Int) := by rw [h]

set_option maxHeartbeats 400000 in
theorem update_any (s : UInt64) (A : Option Addr) (n c B : Nat) (l : List UInt8) (w : World) (h : Slc w B 1 A n c (l.map bv)) :
    Calls Tryd.prog 131 #[.int .u64 (s.toNat : Int), .slice A n c] w fun e w' => e = .returned (.int .u64 ((updAll s l).toNat : Int)) ∧ w = w' := by
  have hlen : l.length = n := by have := h.len; simpa using this
  have hm : n ≤ 9223372036854775807 := by have := h.le; have := h.cmax; unfold maxLen at *; omega
  have HL := Lib.hid hlen
  clear hlen
  go_enter Tryd.func131, Tryd.ntmps131
  go_wp2
  go_loop [0, 9] (fun t i => ∃ k : Nat, k ≤ n ∧ i = .int .i64 k ∧ t = .int .u64 ((updAll s (l.take k)).toNat : Int)) (fun _ i => n - (intOf i).toNat)
  case atStart => exact ⟨0, Nat.zero_le _, rfl, rfl⟩
  case round =>
    obtain ⟨k, hk, rfl, rfl⟩ := hrel
    by_cases hlt : k < n
    · obtain ⟨b, off, rfl, hb, hl, hc⟩ := h.byte hlt
      have HU := Lib.hid (updAll_take s l k hl)
      generalize updAll s (l.take k) = t at *
      go_wp2
      exact ⟨⟨k + 1, by omega, by go_num, by rw [HU.out, upd_wrap]⟩, by simp [intOf]; omega⟩
    · go_wp2
      go_ret
      exact ⟨by rw [List.take_of_length_le (by rw [HL.out]; omega)]; rfl, rfl⟩

def begin64 : UInt64 := 14695981039346656037
theorem begin64_eq : (14695981039346656037 : Int) = (begin64.toNat : Int) := rfl

theorem sum_any (A : Option Addr) (n c B : Nat) (l : List UInt8) (w : World) (h : Slc w B 1 A n c (l.map bv)) :
    Calls Tryd.prog 93 #[.slice A n c] w fun e w' => e = .returned (.int .u64 ((updAll begin64 l).toNat : Int)) ∧ w = w' := by
  go_enter Tryd.func93, Tryd.ntmps93
  go_wp2_with fail
  refine (update_any begin64 A n c B l _ h).mono ?_
  rintro e w' ⟨rfl, rfl⟩
  go_wp2
  go_ret
  exact ⟨rfl, rfl⟩
end Go.Proofs.YtdhlklidenfbeaaDoor
