/- The walks of sum.Text, sum.Parse and of their reference. -/
import Derived.Test.YtbelkkhfjbbldaaSum
namespace Go.Proofs.Ytbelkkhfjbbldaa
open Go.RowKit

theorem digs_at (d : Nat) (h : d < 16) (h' : d < (ByteArray.mk #[48, 49, 50, 51, 52, 53, 54, 55, 56, 57, 97, 98, 99, 100, 101, 102]).size) :
    (ByteArray.mk #[48, 49, 50, 51, 52, 53, 54, 55, 56, 57, 97, 98, 99, 100, 101, 102])[d] = dig d := by
  have : ∀ d : Fin 16, ∀ h : (d : Nat) < (ByteArray.mk #[48, 49, 50, 51, 52, 53, 54, 55, 56, 57, 97, 98, 99, 100, 101, 102]).size, (ByteArray.mk #[48, 49, 50, 51, 52, 53, 54, 55, 56, 57, 97, 98, 99, 100, 101, 102])[(d : Nat)] = dig d := by decide
  exact this ⟨d, h⟩ h'

theorem digs_ext (d : Nat) (h : d < 16) : (ByteArray.mk #[48, 49, 50, 51, 52, 53, 54, 55, 56, 57, 97, 98, 99, 100, 101, 102]).extract d (d + 1) = ⟨[dig d].toArray⟩ := by
  have : ∀ d : Fin 16, (ByteArray.mk #[48, 49, 50, 51, 52, 53, 54, 55, 56, 57, 97, 98, 99, 100, 101, 102]).extract (d : Nat) ((d : Nat) + 1) = ⟨[dig d].toArray⟩ := by decide
  exact this ⟨d, h⟩

theorem mk16 : ∀ w : World, (Instr.makeSlice 23 (.int .i64 16) (.int .i64 16)).run Try.prog w = .ok (.slice (some ⟨w.heap.size, 0, none⟩) 16 16) (w.alloc (.cells (zbytes 16) 5)) := fun _ => by kernel_rfl

def textCells (m s : Nat) : Array Value := ((List.replicate m (Value.int .u8 0)) ++ (hexl (16 - m) s).map bv).toArray
theorem textCells_size (m s : Nat) (h : m ≤ 16) : (textCells m s).size = 16 := by simp [textCells, hexl_length]; omega
theorem textCells_zero (s : Nat) : textCells 16 s = zbytes 16 := by simp [textCells, hexl, zbytes]
theorem textCells_at (m s : Nat) : (textCells (m + 1) s)[m]? = some (.int .u8 0) := by simp [textCells, List.getElem?_append]
theorem textCells_set (m s : Nat) (h : m < 16) : (textCells (m + 1) s).setIfInBounds m (bv (dig (s / 16 ^ (15 - m) % 16))) = textCells m s := by
  unfold textCells
  rw [show 16 - m = (15 - m) + 1 by omega, hexl_succ, show 16 - (m + 1) = 15 - m by omega]
  apply Array.ext'
  simp [List.replicate_succ']

set_option maxHeartbeats 400000 in
theorem text_any (s : UInt64) (w : World) :
    Calls Try.prog 17 #[.int .u64 (s.toNat : Int)] w fun e w' => e = .returned (.string ⟨(hexl 16 s.toNat).toArray⟩) ∧ Below w.heap.size w w' := by
  have hmk := mk16
  go_enter Try.func17, Try.ntmps17
  go_wp2
  go_loopw [0, 4] (fun t i wr => ∃ m : Nat, m ≤ 16 ∧ i = .int .i64 ((m : Int) - 1) ∧ t = .int .u64 ((s.toNat / 16 ^ (16 - m) : Nat) : Int) ∧ Below w.heap.size w wr ∧ Blk wr w.heap.size 5 (textCells m s.toNat)) (fun _ i _ => (intOf i + 1).toNat)
  case atStart => exact ⟨16, by omega, rfl, by simp, (Below.refl _ _).alloc (Nat.le_refl _) _, by rw [textCells_zero]; exact Blk.new _ _ _⟩
  case round =>
    obtain ⟨m, hm, rfl, rfl, hb, hB⟩ := hrel
    by_cases h0 : m = 0
    · subst h0
      have hs : Slc wr (w.heap.size + 1) 1 (some ⟨w.heap.size, 0, none⟩) 16 16 ((hexl 16 s.toNat).map bv) := by
        have := hB.slc (sz := 1) (n := 16) (c := 16) (by rw [textCells_size _ _ (by omega)]; omega) (by omega) (by unfold maxLen; omega)
        rwa [List.take_of_length_le (by simp [textCells, hexl_length]), show (textCells 0 s.toNat).toList = (hexl 16 s.toNat).map bv from by simp [textCells]] at this
      have hcv := convert_bytes Try.underlying23 Try.underlying5 hs 9 Try.underlying9
      go_wp2
      go_ret
      exact ⟨rfl, hb⟩
    · obtain ⟨j, rfl⟩ : ∃ j, m = j + 1 := ⟨m - 1, by omega⟩
      rw [show (((j + 1 : Nat) : Int) - 1) = (j : Int) from by omega]
      have hfz := hB.frozen j
      have hce : wr.cell? ⟨w.heap.size, j, none⟩ = some (.int .u8 0) := by
        rw [hB.cell, textCells_at]
      have HT := textCells_set j s.toNat (by omega)
      have HD : s.toNat / 16 ^ (16 - (j + 1)) / 16 = s.toNat / 16 ^ (16 - j) := by
        rw [Nat.div_div_eq_div_mul, ← Nat.pow_succ, show (16 - (j + 1)).succ = 16 - j by omega]
      have ht : s.toNat / 16 ^ (16 - (j + 1)) < 18446744073709551616 := Nat.lt_of_le_of_lt (Nat.div_le_self _ _) (u64_lt s)
      rw [show 16 - (j + 1) = 15 - j by omega] at *
      generalize (s.toNat / 16 ^ (15 - j)) = t at *
      have hmask : bits BinOp.and IntKind.u64 (t : Int) 15 = ((t % 16 : Nat) : Int) := by
        rw [show (15 : Int) = ((15 : Nat) : Int) from rfl, u64_and_nat _ _ ht (by decide), nat_mask4]
      have hd : t % 16 < 16 := Nat.mod_lt _ (by decide)
      have HT' := Lib.hid HT
      have HD' := Lib.hid HD
      clear HT HD
      generalize hdd : t % 16 = d at *
      have Hdd := Lib.hid hdd
      clear hdd ht
      go_wp2
      rw [digs_at d hd]
      refine ⟨⟨j, by omega, rfl, by rw [← HD'.out]; rfl, hb.setCell (Nat.le_refl _) _, ?_⟩, by simp [intOf]⟩
      rw [← HT'.out]
      exact hB.set_ _ _

set_option maxHeartbeats 400000 in
theorem refText_any (s : UInt64) (w : World) :
    Calls Try.prog 18 #[.int .u64 (s.toNat : Int)] w fun e w' => e = .returned (.string ⟨(hexl 16 s.toNat).toArray⟩) ∧ w = w' := by
  go_enter Try.func18, Try.ntmps18
  go_wp2
  go_loop [0, 3, 4] (fun t x i => ∃ k : Nat, k ≤ 16 ∧ i = .int .i64 (k : Int) ∧ t = .int .u64 ((s.toNat / 16 ^ k : Nat) : Int) ∧ x = .string ⟨(hexl k s.toNat).toArray⟩) (fun _ _ i => 16 - (intOf i).toNat)
  case atStart => exact ⟨0, by omega, rfl, by simp, rfl⟩
  case round =>
    obtain ⟨k, hk, rfl, rfl, rfl⟩ := hrel
    by_cases hlt : k < 16
    · have HT := Lib.hid (hexl_succ k s.toNat)
      have hlen := hexl_length k s.toNat
      have HD : s.toNat / 16 ^ k / 16 = s.toNat / 16 ^ (k + 1) := by rw [Nat.div_div_eq_div_mul, ← Nat.pow_succ]
      have HD' := Lib.hid HD
      have ht : s.toNat / 16 ^ k < 18446744073709551616 := Nat.lt_of_le_of_lt (Nat.div_le_self _ _) (u64_lt s)
      clear HD
      generalize s.toNat / 16 ^ k = t at *
      have hd : t % 16 < 16 := Nat.mod_lt _ (by decide)
      generalize hx : hexl k s.toNat = x at *
      have Hx := Lib.hid hx
      clear hx
      go_wp2
      refine ⟨⟨k + 1, by omega, by go_num, by rw [← HD'.out]; rfl, ?_⟩, by simp [intOf]; omega⟩
      rw [HT.out, digs_ext _ hd, ByteArray.mk_append_mk]
      rfl
    · obtain rfl : k = 16 := by omega
      go_wp2
      go_ret
      exact ⟨rfl, rfl⟩

/-- What Parse answers. -/
def parsed (l : List UInt8) : Option Nat := if l.length = 16 then hexVal 0 l else none
theorem hexVal_take (l : List UInt8) (k : Nat) (h : k < l.length) (t : Nat) (ht : hexVal 0 (l.take k) = some t) :
    hexVal 0 (l.take (k + 1)) = (val l[k]).map fun d => t * 16 + d := by
  rw [List.take_succ_eq_append_getElem h, hexVal_append, ht]
  simp only [Option.bind_some, hexVal]
  cases val l[k] <;> rfl
theorem hexVal_none (l : List UInt8) (k : Nat) (h : hexVal 0 (l.take k) = none) : hexVal 0 l = none := by
  rw [← List.take_append_drop k l, hexVal_append, h]; rfl

theorem shl_or (t d : Nat) (h : t < 16 ^ 15) (hd : d < 16) :
    bits BinOp.or IntKind.u64 (IntKind.u64.wrap ((t : Int) * 16)) (d : Int) = ((t * 16 + d : Nat) : Int) := by
  rw [show ((t : Int) * 16) = ((t * 16 : Nat) : Int) by omega, wrap_u64_nat _ (by omega), u64_or_nat _ _ (by omega) (by omega), nat_join 4 _ _ (by omega) (by omega)]

def optRes : Option Nat → Value
  | some t => .tuple #[.int .u64 (t : Int), .bool true]
  | none => .tuple #[.int .u64 0, .bool false]

set_option maxRecDepth 100000 in
set_option maxHeartbeats 400000 in
theorem parse_any (s : ByteArray) (w : World) (hs : s.size ≤ maxLen) :
    Calls Try.prog 15 #[.string s] w fun e w' => e = .returned (optRes (parsed s.data.toList)) ∧ Below w.heap.size w w' := by
  have hsz : s.data.toList.length = s.size := by rw [Array.length_toList]; rfl
  by_cases h16 : s.size = 16
  · obtain ⟨cap, w1, hcv, hb1, hz1, hS⟩ := convert_string Try.underlying9 Try.underlying23 Try.underlying5 w s hs
    have H16 := Lib.hid h16
    have hne : ((s.size : Int) != 16) = false := by simp; omega
    generalize hl : s.data.toList = l at *
    have HL := Lib.hid hl
    have HZ := Lib.hid hsz
    have HZ1 := Lib.hid hz1
    have hle : s.size ≤ 16 := by omega
    have hpn : ∀ k, hexVal 0 (l.take k) = none → parsed l = none := fun k hk => by unfold parsed; rw [if_pos (by omega)]; exact hexVal_none l k hk
    have HPN := Lib.hid hpn
    clear hl h16 hsz hz1 hpn
    go_enter Try.func15, Try.ntmps15
    go_wp2
    go_loop [4, 13] (fun t i => ∃ k v : Nat, k ≤ s.size ∧ i = .int .i64 (k : Int) ∧ t = .int .u64 (v : Int) ∧ hexVal 0 (l.take k) = some v) (fun _ i => s.size - (intOf i).toNat)
    case atStart => exact ⟨0, 0, by omega, rfl, rfl, rfl⟩
    case round =>
      obtain ⟨k, v, hk, rfl, rfl, hv⟩ := hrel
      by_cases hlt : k < s.size
      · obtain ⟨b, off, e, hb, hlk, hc⟩ := hS.byte hlt
        obtain ⟨rfl, rfl, _⟩ : b = w.heap.size ∧ off = 0 ∧ True := by injection e with e; injection e with e1 e2; exact ⟨e1.symm, e2.symm, trivial⟩
        rw [Nat.zero_add] at hc
        have hvlt : v < 16 ^ 15 := by
          have h1 := (hexVal_lt _ _ _ hv).1
          have h2 : (l.take k).length ≤ 15 := by rw [List.length_take]; omega
          have h3 : 16 ^ (l.take k).length ≤ 16 ^ 15 := Nat.pow_le_pow_right (by decide) h2
          omega
        have HV := Lib.hid hvlt
        have HT := Lib.hid (hexVal_take l k hlk v hv)
        generalize l[k] = c at *
        have hc2 : (c.toNat : Int) < 256 := by have := u8_lt c; omega
        have Hv := Lib.hid hv
        clear e hv hvlt
        by_cases hdig : 48 ≤ c.toNat ∧ c.toNat ≤ 57
        · obtain ⟨hd1, hd2⟩ := hdig
          have hval : val c = some (c.toNat - 48) := by unfold val; rw [if_pos ⟨hd1, hd2⟩]
          have HVal := Lib.hid hval
          clear hval
          go_wp2
          refine ⟨⟨k + 1, v * 16 + (c.toNat - 48), by omega, by go_num, ?_, by rw [HT.out, HVal.out]; rfl⟩, by simp [intOf]; omega⟩
          rw [show ((c.toNat : Int) - 48) = ((c.toNat - 48 : Nat) : Int) by omega, shl_or _ _ HV.out (by omega)]
        · by_cases hdig2 : 97 ≤ c.toNat ∧ c.toNat ≤ 102
          · obtain ⟨hd1, hd2⟩ := hdig2
            have hval : val c = some (c.toNat - 87) := by unfold val; rw [if_neg hdig, if_pos ⟨hd1, hd2⟩]
            have HVal := Lib.hid hval
            clear hval hdig
            go_wp2
            refine ⟨⟨k + 1, v * 16 + (c.toNat - 87), by omega, by go_num, ?_, by rw [HT.out, HVal.out]; rfl⟩, by simp [intOf]; omega⟩
            rw [show ((c.toNat : Int) - 97 + 10) = ((c.toNat - 87 : Nat) : Int) by omega, shl_or _ _ HV.out (by omega)]
          · have hval : val c = none := by unfold val; rw [if_neg hdig, if_neg hdig2]
            have hN : parsed l = none := HPN.out (k + 1) (by rw [HT.out, hval]; rfl)
            have HN := Lib.hid hN
            clear hval hN
            have h3 : c.toNat < 48 ∨ (57 < c.toNat ∧ c.toNat < 97) ∨ 102 < c.toNat := by omega
            clear hdig hdig2
            rcases h3 with h3 | ⟨h3, h4⟩ | h3
            all_goals
              go_wp2
              go_ret2
              exact ⟨by rw [HN.out]; rfl, hb1⟩
      · have hP : parsed l = some v := by
          unfold parsed
          rw [if_pos (by have := HZ.out; have := H16.out; omega), ← hv, List.take_of_length_le (by have := HZ.out; omega)]
        have HP := Lib.hid hP
        clear hP hv
        go_wp2
        go_ret2
        exact ⟨by rw [HP.out]; rfl, hb1⟩
  · have hN : parsed s.data.toList = none := by unfold parsed; rw [if_neg (by omega)]
    have HN := Lib.hid hN
    have hne : ((s.size : Int) != 16) = true := by simp; omega
    clear hN hsz
    go_enter Try.func15, Try.ntmps15
    go_wp2
    go_ret2
    exact ⟨by rw [HN.out]; rfl, Below.refl _ _⟩
end Go.Proofs.Ytbelkkhfjbbldaa
