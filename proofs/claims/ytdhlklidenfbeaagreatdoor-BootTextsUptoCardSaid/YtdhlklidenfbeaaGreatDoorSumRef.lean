/- The walk of the reference's Parse. -/
import Derived.Test.YtdhlklidenfbeaaGreatDoorSumText
import Derived.Deep.QuietTactic
import Derived.BigQuiet
namespace Go.Proofs.YtdhlklidenfbeaaGreatDoor
open Go.RowKit

/-- The digit that the reference has found behind k tries. -/
def dOf (c : UInt8) (k : Nat) : Int := match val c with | some v => if v < k then (v : Int) else -1 | none => -1
theorem dOf_hit (c : UInt8) (k : Nat) (hk : k < 16) (h : dig k = c) : dOf c (k + 1) = k := by
  subst h; unfold dOf; rw [val_dig k hk]; simp
theorem dOf_miss (c : UInt8) (k : Nat) (hk : k < 16) (h : dig k ≠ c) : dOf c (k + 1) = dOf c k := by
  unfold dOf
  cases hv : val c with
  | none => rfl
  | some v =>
    have := (val_some hv).2
    have hne : v ≠ k := by rintro rfl; exact h this
    by_cases hlt : v < k
    · simp [hlt, show v < k + 1 by omega]
    · simp [hlt, show ¬ v < k + 1 by omega]
theorem wrap_join (v d : Nat) : Value.int .u64 (IntKind.u64.wrap (IntKind.u64.wrap (IntKind.u64.wrap (v : Int) * 16) + (d : Int))) = .int .u64 (IntKind.u64.wrap ((v * 16 + d : Nat) : Int)) := by
  simp only [wrap_u64]; congr 1; omega
theorem dOf_le (c : UInt8) (k : Nat) : -1 ≤ dOf c k ∧ dOf c k < 16 := by
  unfold dOf
  cases hv : val c with
  | none => simp
  | some v => have := (val_some hv).1; simp only; split <;> omega

set_option maxRecDepth 100000 in
set_option maxHeartbeats 400000 in
theorem refParse_any (s : ByteArray) (w : World) (hs : s.size ≤ maxLen) :
    Calls Tryz.prog 55 #[.string s] w fun e w' => e = .returned (optRes (parsed s.data.toList)) ∧ Below w.heap.size w w' := by
  have hsz : s.data.toList.length = s.size := by rw [Array.length_toList]; rfl
  unfold maxLen at hs
  go_enter Tryz.func55, Tryz.ntmps55
  go_wp2
  go_loopw [4, 5] (fun t i wr => ∃ k v : Nat, k ≤ s.size ∧ k ≤ 17 ∧ i = .int .i64 (k : Int) ∧ t = .int .u64 (IntKind.u64.wrap (v : Int)) ∧ hexVal 0 (s.data.toList.take k) = some v ∧ Below w.heap.size w wr) (fun _ i _ => s.size - (intOf i).toNat)
  case atStart => exact ⟨0, 0, by omega, by omega, rfl, rfl, rfl, Below.refl _ _⟩
  case round =>
    obtain ⟨k, v, hk, hk17, rfl, rfl, hv, hb⟩ := hrel
    by_cases hlt : k < s.size ∧ k < 17
    · obtain ⟨hlt, hlt17⟩ := hlt
      obtain ⟨wo, rfl⟩ : ∃ wo : World, wo = wr := ⟨_, rfl⟩
      go_wp2
      go_loopw [6, 7] (fun d i wr => ∃ j : Nat, j ≤ 16 ∧ i = .int .i64 (j : Int) ∧ d = .int .i64 (dOf s[k] j) ∧ Below w.heap.size w wr) (fun _ i _ => 16 - (intOf i).toNat)
      case atStart => exact ⟨0, by omega, rfl, by unfold dOf; cases val s[k] <;> simp, hb⟩
      case round =>
        obtain ⟨j, hj, rfl, rfl, hb2⟩ := hrel
        by_cases hj16 : j < 16
        · go_wp2
          go_quiet (fail)
          by_cases hdg : dig j = s[k]
          · have HD := Lib.hid (dOf_hit _ j hj16 hdg)
            have ht : (((ByteArray.mk #[48, 49, 50, 51, 52, 53, 54, 55, 56, 57, 97, 98, 99, 100, 101, 102])[j].toNat : Int) == (s[k].toNat : Int)) = true := by rw [digs_at j hj16, hdg]; simp
            clear hdg
            go_wp2
            exact ⟨⟨j + 1, by omega, by go_num, by rw [HD.out], ⟨hb2.os, hb2.tape, hb2.output, hb2.size, hb2.block⟩⟩, by simp [intOf]; omega⟩
          · have HD := Lib.hid (dOf_miss _ j hj16 hdg)
            have ht : (((ByteArray.mk #[48, 49, 50, 51, 52, 53, 54, 55, 56, 57, 97, 98, 99, 100, 101, 102])[j].toNat : Int) == (s[k].toNat : Int)) = false := by
              rw [digs_at j hj16, beq_eq_false_iff_ne]
              intro h
              exact hdg (UInt8.toNat_inj.1 (by omega))
            clear hdg
            go_wp2
            exact ⟨⟨j + 1, by omega, by go_num, by rw [HD.out], ⟨hb2.os, hb2.tape, hb2.output, hb2.size, hb2.block⟩⟩, by simp [intOf]; omega⟩
        · obtain rfl : j = 16 := by omega
          have hT := hexVal_take s.data.toList k (by omega) v hv
          have hsk : s.data.toList[k] = s[k] := rfl
          rw [hsk] at hT
          have hle := dOf_le s[k] 16
          cases hval : val s[k] with
          | none =>
            rw [hval] at hT
            have hN : parsed s.data.toList = none := by unfold parsed; split; exact hexVal_none _ (k + 1) hT; rfl
            have HN := Lib.hid hN
            have hd : dOf s[k] 16 = -1 := by unfold dOf; rw [hval]
            clear hT hN hval hv
            rw [hd]
            clear hd hle
            go_wp2
            go_ret2
            exact ⟨by rw [HN.out]; rfl, hb2⟩
          | some d =>
            rw [hval] at hT
            have hd16 := (val_some hval).1
            have hd : dOf s[k] 16 = (d : Int) := by unfold dOf; rw [hval]; simp [hd16]
            have HT := Lib.hid hT
            clear hT hval hv
            rw [hd]
            clear hd hle
            go_wp2
            refine ⟨⟨k + 1, v * 16 + d, by omega, by omega, by go_num, ?_, by rw [HT.out]; rfl, hb2⟩, by simp [intOf]; omega⟩
            rw [wrap_join]
    · by_cases h16 : s.size = 16
      · obtain rfl : k = 16 := by omega
        have hvlt : v < 16 ^ 16 := by
          have h1 := (hexVal_lt _ _ _ hv).1
          rw [List.length_take, hsz, h16] at h1
          simpa using h1
        have hP : parsed s.data.toList = some v := by
          unfold parsed
          rw [if_pos (by omega), ← hv, List.take_of_length_le (by omega)]
        have HP := Lib.hid hP
        have hlt' : (decide ((16 : Int) < (s.size : Int))) = false := by simp; omega
        have hne : ((s.size : Int) != 16) = false := by simp; omega
        have HV := Lib.hid hvlt
        have H16 := Lib.hid h16
        clear hP hv hvlt h16 hsz
        go_wp2
        go_ret2
        exact ⟨by rw [HP.out]; show Ending.returned (.tuple #[.int .u64 (IntKind.u64.wrap (v : Int)), .bool true]) = _; rw [wrap_u64_nat _ (by have := HV.out; omega)]; rfl, hb⟩
      · have hN : parsed s.data.toList = none := by unfold parsed; rw [if_neg (by omega)]
        have HN := Lib.hid hN
        have hne : ((s.size : Int) != 16) = true := by simp; omega
        clear hN hv hsz
        by_cases hk2 : k < s.size
        · obtain rfl : k = 17 := by omega
          go_wp2
          go_ret2
          exact ⟨by rw [HN.out]; rfl, hb⟩
        · obtain rfl : k = s.size := by omega
          go_wp2
          go_ret2
          exact ⟨by rw [HN.out]; rfl, hb⟩
end Go.Proofs.YtdhlklidenfbeaaGreatDoor
