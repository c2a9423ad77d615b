/- The walks of sum.Text, sum.Parse and of their reference. -/
import Derived.Test.YtdhlklidenfbeaaDoorSum
import Derived.Test.YtdhlklidenfbeaaDoorSumParse
namespace Go.Proofs.YtdhlklidenfbeaaDoor
open Go.RowKit

theorem digs_at (d : Nat) (h : d < 16) (h' : d < (ByteArray.mk #[48, 49, 50, 51, 52, 53, 54, 55, 56, 57, 97, 98, 99, 100, 101, 102]).size) :
    (ByteArray.mk #[48, 49, 50, 51, 52, 53, 54, 55, 56, 57, 97, 98, 99, 100, 101, 102])[d] = dig d := by
  have : ∀ d : Fin 16, ∀ h : (d : Nat) < (ByteArray.mk #[48, 49, 50, 51, 52, 53, 54, 55, 56, 57, 97, 98, 99, 100, 101, 102]).size, (ByteArray.mk #[48, 49, 50, 51, 52, 53, 54, 55, 56, 57, 97, 98, 99, 100, 101, 102])[(d : Nat)] = dig d := by decide
  exact this ⟨d, h⟩ h'

theorem digs_ext (d : Nat) (h : d < 16) : (ByteArray.mk #[48, 49, 50, 51, 52, 53, 54, 55, 56, 57, 97, 98, 99, 100, 101, 102]).extract d (d + 1) = ⟨[dig d].toArray⟩ := by
  have : ∀ d : Fin 16, (ByteArray.mk #[48, 49, 50, 51, 52, 53, 54, 55, 56, 57, 97, 98, 99, 100, 101, 102]).extract (d : Nat) ((d : Nat) + 1) = ⟨[dig d].toArray⟩ := by decide
  exact this ⟨d, h⟩

theorem mk16 : ∀ w : World, (Instr.makeSlice 42 (.int .i64 16) (.int .i64 16)).run Tryd.prog w = .ok (.slice (some ⟨w.heap.size, 0, none⟩) 16 16) (w.alloc (.cells (zbytes 16) 5)) := fun _ => by kernel_rfl

def textCells (m s : Nat) : Array Value := ((List.replicate m (Value.int .u8 0)) ++ (hexl (16 - m) s).map bv).toArray
theorem textCells_size (m s : Nat) (h : m ≤ 16) : (textCells m s).size = 16 := by simp [textCells, hexl_length]; omega
theorem textCells_zero (s : Nat) : textCells 16 s = zbytes 16 := by simp [textCells, hexl, zbytes]
theorem textCells_at (m s : Nat) : (textCells (m + 1) s)[m]? = some (.int .u8 0) := by simp [textCells, List.getElem?_append]
theorem textCells_set (m s : Nat) (h : m < 16) : (textCells (m + 1) s).setIfInBounds m (bv (dig (s / 16 ^ (15 - m) % 16))) = textCells m s := by
  unfold textCells
  rw [show 16 - m = (15 - m) + 1 by omega, hexl_succ, show 16 - (m + 1) = 15 - m by omega]
  apply Array.ext'
  simp [List.replicate_succ']

set_option maxHeartbeats 400000 in
theorem text_any (s : UInt64) (w : World) :
    Calls Tryd.prog 92 #[.int .u64 (s.toNat : Int)] w fun e w' => e = .returned (.string ⟨(hexl 16 s.toNat).toArray⟩) ∧ Below w.heap.size w w' := by
  have hmk := mk16
  go_enter Tryd.func92, Tryd.ntmps92
  go_wp2
  go_loopw [0, 4] (fun t i wr => ∃ m : Nat, m ≤ 16 ∧ i = .int .i64 ((m : Int) - 1) ∧ t = .int .u64 ((s.toNat / 16 ^ (16 - m) : Nat) : Int) ∧ Below w.heap.size w wr ∧ Blk wr w.heap.size 5 (textCells m s.toNat)) (fun _ i _ => (intOf i + 1).toNat)
  case atStart => exact ⟨16, by omega, rfl, by simp, (Below.refl _ _).alloc (Nat.le_refl _) _, by rw [textCells_zero]; exact Blk.new _ _ _⟩
  case round =>
    obtain ⟨m, hm, rfl, rfl, hb, hB⟩ := hrel
    by_cases h0 : m = 0
    · subst h0
      have hs : Slc wr (w.heap.size + 1) 1 (some ⟨w.heap.size, 0, none⟩) 16 16 ((hexl 16 s.toNat).map bv) := by
        have := hB.slc (sz := 1) (n := 16) (c := 16) (by rw [textCells_size _ _ (by omega)]; omega) (by omega) (by unfold maxLen; omega)
        rwa [List.take_of_length_le (by simp [textCells, hexl_length]), show (textCells 0 s.toNat).toList = (hexl 16 s.toNat).map bv from by simp [textCells]] at this
      have hcv := convert_bytes Tryd.underlying42 Tryd.underlying5 hs 9 Tryd.underlying9
      go_wp2
      go_ret
      exact ⟨rfl, hb⟩
    · obtain ⟨j, rfl⟩ : ∃ j, m = j + 1 := ⟨m - 1, by omega⟩
      rw [show (((j + 1 : Nat) : Int) - 1) = (j : Int) from by omega]
      have hfz := hB.frozen j
      have hce : wr.cell? ⟨w.heap.size, j, none⟩ = some (.int .u8 0) := by
        rw [hB.cell, textCells_at]
      have HT := textCells_set j s.toNat (by omega)
      have HD : s.toNat / 16 ^ (16 - (j + 1)) / 16 = s.toNat / 16 ^ (16 - j) := by
        rw [Nat.div_div_eq_div_mul, ← Nat.pow_succ, show (16 - (j + 1)).succ = 16 - j by omega]
      have ht : s.toNat / 16 ^ (16 - (j + 1)) < 18446744073709551616 := Nat.lt_of_le_of_lt (Nat.div_le_self _ _) (u64_lt s)
      rw [show 16 - (j + 1) = 15 - j by omega] at *
      generalize (s.toNat / 16 ^ (15 - j)) = t at *
      have hmask : bits BinOp.and IntKind.u64 (t : Int) 15 = ((t % 16 : Nat) : Int) := by
        rw [show (15 : Int) = ((15 : Nat) : Int) from rfl, u64_and_nat _ _ ht (by decide), nat_mask4]
      have hd : t % 16 < 16 := Nat.mod_lt _ (by decide)
      have HT' := Lib.hid HT
      have HD' := Lib.hid HD
      clear HT HD
      generalize hdd : t % 16 = d at *
      have Hdd := Lib.hid hdd
      clear hdd ht
      go_wp2
      rw [digs_at d hd]
      refine ⟨⟨j, by omega, rfl, by rw [← HD'.out]; rfl, hb.setCell (Nat.le_refl _) _, ?_⟩, by simp [intOf]⟩
      rw [← HT'.out]
      exact hB.set_ _ _

set_option maxHeartbeats 400000 in
theorem refText_any (s : UInt64) (w : World) :
    Calls Tryd.prog 96 #[.int .u64 (s.toNat : Int)] w fun e w' => e = .returned (.string ⟨(hexl 16 s.toNat).toArray⟩) ∧ w = w' := by
  go_enter Tryd.func96, Tryd.ntmps96
  go_wp2
  go_loop [0, 3, 4] (fun t x i => ∃ k : Nat, k ≤ 16 ∧ i = .int .i64 (k : Int) ∧ t = .int .u64 ((s.toNat / 16 ^ k : Nat) : Int) ∧ x = .string ⟨(hexl k s.toNat).toArray⟩) (fun _ _ i => 16 - (intOf i).toNat)
  case atStart => exact ⟨0, by omega, rfl, by simp, rfl⟩
  case round =>
    obtain ⟨k, hk, rfl, rfl, rfl⟩ := hrel
    by_cases hlt : k < 16
    · have HT := Lib.hid (hexl_succ k s.toNat)
      have hlen := hexl_length k s.toNat
      have HD : s.toNat / 16 ^ k / 16 = s.toNat / 16 ^ (k + 1) := by rw [Nat.div_div_eq_div_mul, ← Nat.pow_succ]
      have HD' := Lib.hid HD
      have ht : s.toNat / 16 ^ k < 18446744073709551616 := Nat.lt_of_le_of_lt (Nat.div_le_self _ _) (u64_lt s)
      clear HD
      generalize s.toNat / 16 ^ k = t at *
      have hd : t % 16 < 16 := Nat.mod_lt _ (by decide)
      generalize hx : hexl k s.toNat = x at *
      have Hx := Lib.hid hx
      clear hx
      go_wp2
      refine ⟨⟨k + 1, by omega, by go_num, by rw [← HD'.out]; rfl, ?_⟩, by simp [intOf]; omega⟩
      rw [HT.out, digs_ext _ hd, ByteArray.mk_append_mk]
      rfl
    · obtain rfl : k = 16 := by omega
      go_wp2
      go_ret
      exact ⟨rfl, rfl⟩
end Go.Proofs.YtdhlklidenfbeaaDoor
