/- The walk of sum.Parse. -/
import Derived.Test.YtdhlklidenfbeaaGreatDoorSumP
namespace Go.Proofs.YtdhlklidenfbeaaGreatDoor
open Go.RowKit

theorem hexVal_take (l : List UInt8) (k : Nat) (h : k < l.length) (t : Nat) (ht : hexVal 0 (l.take k) = some t) :
    hexVal 0 (l.take (k + 1)) = (val l[k]).map fun d => t * 16 + d := by
  rw [List.take_succ_eq_append_getElem h, hexVal_append, ht]
  simp only [Option.bind_some, hexVal]
  cases val l[k] <;> rfl
theorem hexVal_none (l : List UInt8) (k : Nat) (h : hexVal 0 (l.take k) = none) : hexVal 0 l = none := by
  rw [← List.take_append_drop k l, hexVal_append, h]; rfl

theorem shl_or (t d : Nat) (h : t < 16 ^ 15) (hd : d < 16) :
    bits BinOp.or IntKind.u64 (IntKind.u64.wrap ((t : Int) * 16)) (d : Int) = ((t * 16 + d : Nat) : Int) := by
  rw [show ((t : Int) * 16) = ((t * 16 : Nat) : Int) by omega, wrap_u64_nat _ (by omega), u64_or_nat _ _ (by omega) (by omega), nat_join 4 _ _ (by omega) (by omega)]

def optRes : Option Nat → Value
  | some t => .tuple #[.int .u64 (t : Int), .bool true]
  | none => .tuple #[.int .u64 0, .bool false]

set_option maxRecDepth 100000 in
set_option maxHeartbeats 400000 in
theorem parse_any (s : ByteArray) (w : World) (hs : s.size ≤ maxLen) :
    Calls Tryz.prog 110 #[.string s] w fun e w' => e = .returned (optRes (parsed s.data.toList)) ∧ Below w.heap.size w w' := by
  have hsz : s.data.toList.length = s.size := by rw [Array.length_toList]; rfl
  by_cases h16 : s.size = 16
  · obtain ⟨cap, w1, hcv, hb1, hz1, hS⟩ := convert_string Tryz.underlying9 Tryz.underlying32 Tryz.underlying5 w s hs
    have H16 := Lib.hid h16
    have hne : ((s.size : Int) != 16) = false := by simp; omega
    generalize hl : s.data.toList = l at *
    have HL := Lib.hid hl
    have HZ := Lib.hid hsz
    have HZ1 := Lib.hid hz1
    have hle : s.size ≤ 16 := by omega
    have hpn : ∀ k, hexVal 0 (l.take k) = none → parsed l = none := fun k hk => by unfold parsed; rw [if_pos (by omega)]; exact hexVal_none l k hk
    have HPN := Lib.hid hpn
    clear hl h16 hsz hz1 hpn
    go_enter Tryz.func110, Tryz.ntmps110
    go_wp2
    go_loop [4, 13] (fun t i => ∃ k v : Nat, k ≤ s.size ∧ i = .int .i64 (k : Int) ∧ t = .int .u64 (v : Int) ∧ hexVal 0 (l.take k) = some v) (fun _ i => s.size - (intOf i).toNat)
    case atStart => exact ⟨0, 0, by omega, rfl, rfl, rfl⟩
    case round =>
      obtain ⟨k, v, hk, rfl, rfl, hv⟩ := hrel
      by_cases hlt : k < s.size
      · obtain ⟨b, off, e, hb, hlk, hc⟩ := hS.byte hlt
        obtain ⟨rfl, rfl, _⟩ : b = w.heap.size ∧ off = 0 ∧ True := by injection e with e; injection e with e1 e2; exact ⟨e1.symm, e2.symm, trivial⟩
        rw [Nat.zero_add] at hc
        have hvlt : v < 16 ^ 15 := by
          have h1 := (hexVal_lt _ _ _ hv).1
          have h2 : (l.take k).length ≤ 15 := by rw [List.length_take]; omega
          have h3 : 16 ^ (l.take k).length ≤ 16 ^ 15 := Nat.pow_le_pow_right (by decide) h2
          omega
        have HV := Lib.hid hvlt
        have HT := Lib.hid (hexVal_take l k hlk v hv)
        generalize l[k] = c at *
        have hc2 : (c.toNat : Int) < 256 := by have := u8_lt c; omega
        have Hv := Lib.hid hv
        clear e hv hvlt
        by_cases hdig : 48 ≤ c.toNat ∧ c.toNat ≤ 57
        · obtain ⟨hd1, hd2⟩ := hdig
          have hval : val c = some (c.toNat - 48) := by unfold val; rw [if_pos ⟨hd1, hd2⟩]
          have HVal := Lib.hid hval
          clear hval
          go_wp2
          refine ⟨⟨k + 1, v * 16 + (c.toNat - 48), by omega, by go_num, ?_, by rw [HT.out, HVal.out]; rfl⟩, by simp [intOf]; omega⟩
          rw [show ((c.toNat : Int) - 48) = ((c.toNat - 48 : Nat) : Int) by omega, shl_or _ _ HV.out (by omega)]
        · by_cases hdig2 : 97 ≤ c.toNat ∧ c.toNat ≤ 102
          · obtain ⟨hd1, hd2⟩ := hdig2
            have hval : val c = some (c.toNat - 87) := by unfold val; rw [if_neg hdig, if_pos ⟨hd1, hd2⟩]
            have HVal := Lib.hid hval
            clear hval hdig
            go_wp2
            refine ⟨⟨k + 1, v * 16 + (c.toNat - 87), by omega, by go_num, ?_, by rw [HT.out, HVal.out]; rfl⟩, by simp [intOf]; omega⟩
            rw [show ((c.toNat : Int) - 97 + 10) = ((c.toNat - 87 : Nat) : Int) by omega, shl_or _ _ HV.out (by omega)]
          · have hval : val c = none := by unfold val; rw [if_neg hdig, if_neg hdig2]
            have hN : parsed l = none := HPN.out (k + 1) (by rw [HT.out, hval]; rfl)
            have HN := Lib.hid hN
            clear hval hN
            have h3 : c.toNat < 48 ∨ (57 < c.toNat ∧ c.toNat < 97) ∨ 102 < c.toNat := by omega
            clear hdig hdig2
            rcases h3 with h3 | ⟨h3, h4⟩ | h3
            all_goals
              go_wp2
              go_ret2
              exact ⟨by rw [HN.out]; rfl, hb1⟩
      · have hP : parsed l = some v := by
          unfold parsed
          rw [if_pos (by have := HZ.out; have := H16.out; omega), ← hv, List.take_of_length_le (by have := HZ.out; omega)]
        have HP := Lib.hid hP
        clear hP hv
        go_wp2
        go_ret2
        exact ⟨by rw [HP.out]; rfl, hb1⟩
  · have hN : parsed s.data.toList = none := by unfold parsed; rw [if_neg (by omega)]
    have HN := Lib.hid hN
    have hne : ((s.size : Int) != 16) = true := by simp; omega
    clear hN hsz
    go_enter Tryz.func110, Tryz.ntmps110
    go_wp2
    go_ret2
    exact ⟨by rw [HN.out]; rfl, Below.refl _ _⟩
end Go.Proofs.YtdhlklidenfbeaaGreatDoor
