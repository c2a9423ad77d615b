/- The walk of the reference's Name (bootjackref06). -/
import Derived.Test.YtdhlklidenfbeaaGreatDoorTreeN
import Derived.Deep.QuietTactic
import Derived.BigQuiet
namespace Go.Proofs.YtdhlklidenfbeaaGreatDoor
open Go.RowKit
set_option linter.unusedVariables false
set_option linter.unusedSimpArgs false

def lettersL : List UInt8 := [97, 98, 99, 100, 101, 102, 103, 104, 105, 106, 107, 108, 109, 110, 111, 112, 113, 114, 115, 116, 117, 118, 119, 120, 121, 122, 65, 66, 67, 68, 69, 70, 71, 72, 73, 74, 75, 76, 77, 78, 79, 80, 81, 82, 83, 84, 85, 86, 87, 88, 89, 90, 48, 49, 50, 51, 52, 53, 54, 55, 56, 57, 46, 95, 45, 43]
theorem letters_iff (c : UInt8) : lettersL.contains c = letterB c := by
  have key : ∀ n : Fin 256, lettersL.contains (UInt8.ofNat n.1) = letterB (UInt8.ofNat n.1) := by decide +kernel
  have := key ⟨c.toNat, u8_lt c⟩
  simpa using this
theorem letters_len : lettersL.length = 66 := rfl
def hasL (c : UInt8) (j : Nat) : Bool := (lettersL.take j).contains c
theorem hasL_succ (c : UInt8) (j : Nat) (h : j < 66) : hasL c (j + 1) = (hasL c j || lettersL[j]'(by rw [letters_len]; exact h) == c) := by
  unfold hasL
  rw [List.take_succ_eq_append_getElem (by rw [letters_len]; exact h)]
  simp only [List.contains_eq_any_beq, List.any_append, List.any_cons, List.any_nil, Bool.or_false]
  congr 1
  exact Bool.beq_comm
theorem hasL_all (c : UInt8) : hasL c 66 = letterB c := by rw [← letters_iff]; rfl

theorem byte_cmp (a c : UInt8) : ((a.toNat : Int) == (c.toNat : Int)) = (a == c) := by
  rw [Bool.eq_iff_iff]
  simp only [beq_iff_eq]
  rw [← UInt8.toNat_inj]
  omega
theorem lets_cmp (c : UInt8) (j : Nat) (h : j < 66) (h' : j < (ByteArray.mk #[97, 98, 99, 100, 101, 102, 103, 104, 105, 106, 107, 108, 109, 110, 111, 112, 113, 114, 115, 116, 117, 118, 119, 120, 121, 122, 65, 66, 67, 68, 69, 70, 71, 72, 73, 74, 75, 76, 77, 78, 79, 80, 81, 82, 83, 84, 85, 86, 87, 88, 89, 90, 48, 49, 50, 51, 52, 53, 54, 55, 56, 57, 46, 95, 45, 43]).size) : (((ByteArray.mk #[97, 98, 99, 100, 101, 102, 103, 104, 105, 106, 107, 108, 109, 110, 111, 112, 113, 114, 115, 116, 117, 118, 119, 120, 121, 122, 65, 66, 67, 68, 69, 70, 71, 72, 73, 74, 75, 76, 77, 78, 79, 80, 81, 82, 83, 84, 85, 86, 87, 88, 89, 90, 48, 49, 50, 51, 52, 53, 54, 55, 56, 57, 46, 95, 45, 43])[j].toNat : Int) == (c.toNat : Int)) = (false || lettersL[j]'(by rw [letters_len]; exact h) == c) := by
  rw [byte_cmp, Bool.false_or]
  rfl

set_option maxRecDepth 100000 in
set_option maxHeartbeats 1000000 in
theorem refName_any (s : ByteArray) (w : World) (hs : s.size ≤ maxLen) :
    Calls Tryz.prog 76 #[.string s] w fun e w' => e = .returned (.bool (nameB s.data.toList)) ∧ Below w.heap.size w w' := by
  have hsz : s.data.toList.length = s.size := by rw [Array.length_toList]; rfl
  have ht : s.toList = s.data.toList := Go.ByteArray.toList_eq s
  have hget : ∀ k (h : k < s.size), s.data.toList[k]? = some s[k] := fun k h => by
    rw [List.getElem?_eq_getElem (by rw [hsz]; exact h)]
    rfl
  generalize hl : s.data.toList = l at *
  clear hl
  have hN : ¬ (l ≠ [] ∧ l.length ≤ 36 ∧ l ≠ [46] ∧ l ≠ [46, 46]) → nameB l = false := fun h => by unfold nameB; rw [decide_eq_false h]; rfl
  by_cases hlong : 36 < s.size
  · have H := Lib.hid (hN (by omega))
    clear hN hsz hget
    go_enter Tryz.func76, Tryz.ntmps76
    go_wp2
    go_ret
    exact ⟨by rw [H.out]; rfl, Below.refl _ _⟩
  by_cases h0 : l = []
  · have H := Lib.hid (hN (fun h => h.1 h0))
    subst h0
    have hz : s.size = 0 := by simpa using hsz.symm
    clear hN hsz hget
    go_enter Tryz.func76, Tryz.ntmps76
    go_wp2
    go_ret
    exact ⟨by rw [H.out]; rfl, Below.refl _ _⟩
  by_cases h1 : l = [46]
  · have H := Lib.hid (hN (fun h => h.2.2.1 h1))
    subst h1
    have hle : s.size = 1 := by simpa using hsz.symm
    clear hN hsz hget
    go_enter Tryz.func76, Tryz.ntmps76
    go_wp2
    go_ret
    exact ⟨by rw [H.out]; rfl, Below.refl _ _⟩
  by_cases h2 : l = [46, 46]
  · have H := Lib.hid (hN (fun h => h.2.2.2 h2))
    subst h2
    have hle : s.size = 2 := by simpa using hsz.symm
    clear hN hsz hget
    go_enter Tryz.func76, Tryz.ntmps76
    go_wp2
    go_ret
    exact ⟨by rw [H.out]; rfl, Below.refl _ _⟩
  have hpos : 0 < s.size := by rw [← hsz]; cases l with | nil => exact absurd rfl h0 | cons => simp
  have h1' : (l == [46]) = false := by simpa using h1
  have h2' : (l == [46, 46]) = false := by simpa using h2
  have hle : s.size ≤ 36 := by omega
  have hYES := Lib.hid (fun h => nameB_of (l := l) h0 (by omega) h1 h2 h)
  have hNO := Lib.hid (fun k hk h => nameB_not (l := l) k hk h)
  have HZ := Lib.hid hsz
  have HG := Lib.hid hget
  clear hN hsz hlong hget h0 h1 h2
  go_enter Tryz.func76, Tryz.ntmps76
  go_wp2
  go_loopw [3] (fun i wr => ∃ k : Nat, k ≤ s.size ∧ i = .int .i64 (k : Int) ∧ Aside ((l.take k).all letterB = true) ∧ Aside (Below w.heap.size w wr)) (fun i _ => s.size - (intOf i).toNat)
  case atStart => exact ⟨0, by omega, rfl, rfl, Below.refl _ _⟩
  case round =>
    obtain ⟨k, hk, rfl, hv, hb⟩ := hrel
    by_cases hlt : k < s.size
    · have hlk : k < l.length := by have := HZ.out; omega
      have HT := Lib.hid (show (l.take (k + 1)).all letterB = letterB l[k] by rw [List.take_succ_eq_append_getElem hlk, List.all_append, hv.out]; simp)
      have HK := Lib.hid (fun h => hNO.out k hlk h)
      have HGK := Lib.hid (show s[k] = l[k] from by have := HG.out k hlt; rw [List.getElem?_eq_getElem hlk] at this; exact (Option.some.inj this).symm)
      obtain ⟨wo, rfl⟩ : ∃ wo : World, wo = wr := ⟨_, rfl⟩
      go_wp2
      go_loopw [4, 5] (fun d i wr => ∃ j : Nat, j ≤ 66 ∧ i = .int .i64 (j : Int) ∧ d = .bool (hasL s[k] j) ∧ Aside (Below w.heap.size w wr)) (fun _ i _ => 66 - (intOf i).toNat)
      case atStart => exact ⟨0, by omega, rfl, rfl, hb.out⟩
      case round =>
        obtain ⟨j, hj, rfl, rfl, hb2⟩ := hrel
        by_cases hj66 : j < 66
        · have HS := Lib.hid (hasL_succ s[k] j hj66)
          cases ho : hasL s[k] j with
          | true =>
            rw [ho] at HS
            clear ho
            go_wp2
            go_quiet (fail)
            go_wp2
            exact ⟨⟨j + 1, by omega, by go_num, by rw [HS.out]; rfl, ⟨hb2.out.os, hb2.out.tape, hb2.out.output, hb2.out.size, hb2.out.block⟩⟩, by simp [intOf]; omega⟩
          | false =>
            rw [ho] at HS
            clear ho
            go_wp2
            go_quiet (fail)
            go_wp2
            exact ⟨⟨j + 1, by omega, by go_num, by rw [HS.out, lets_cmp _ j hj66], ⟨hb2.out.os, hb2.out.tape, hb2.out.output, hb2.out.size, hb2.out.block⟩⟩, by simp [intOf]; omega⟩
        · obtain rfl : j = 66 := by omega
          rw [hasL_all, HGK.out]
          cases hlet : letterB l[k] with
          | true =>
            have H3 := Lib.hid (HT.out.trans hlet)
            clear hlet
            go_wp2
            exact ⟨⟨k + 1, by omega, by go_num, H3.out, hb2.out⟩, by simp [intOf]; omega⟩
          | false =>
            have H3 := Lib.hid (HK.out hlet)
            clear hlet
            go_wp2
            go_ret
            exact ⟨by rw [H3.out]; rfl, hb2.out⟩
    · have HY := Lib.hid (hYES.out (by rw [show l.length = k by have := HZ.out; omega]; exact hv.out))
      go_wp2
      go_ret
      exact ⟨by rw [HY.out]; rfl, hb.out⟩

set_option maxRecDepth 100000 in
/-- bootjackref08.tail: may a byte stand in a store path's end? -/
theorem refTail_any (c : UInt8) (w : World) : Calls Tryz.prog 56 #[.int .u8 (c.toNat : Int)] w fun e w' => e = .returned (.bool (letterB c)) ∧ Below w.heap.size w w' := by
  have hS := slc_new w 5 (0, 0) #[bv c] (sz := 1) (n := 1) (c := 1) rfl (Nat.le_refl _) (by decide)
  have hcv := convert_bytes (P := Tryz.prog) Tryz.underlying32 Tryz.underlying5 (l := [c]) hS
  unfold bv at hcv
  have hnm := refName_any (⟨#[120]⟩ ++ ⟨[c].toArray⟩) (w.alloc (.cells #[.int .u8 (c.toNat : Int)] 5)) (by rw [ByteArray.size_append]; exact (by decide : 1 + 1 ≤ maxLen))
  rw [show ((ByteArray.mk #[120]) ++ (ByteArray.mk [c].toArray)).data.toList = [120, c] by simp, nameB_x] at hnm
  have HB := Lib.hid ((Below.refl w.heap.size w).alloc (Nat.le_refl _) (.cells #[.int .u8 (c.toNat : Int)] 5))
  clear hS
  go_enter Tryz.func56, Tryz.ntmps56
  go_wp2_with (go_at_call 76; refine hnm.mono ?_; clear hnm; rintro e2 w2 ⟨rfl, hb2⟩)
  go_ret
  exact ⟨rfl, HB.out.trans (hb2.mono HB.out.size)⟩
end Go.Proofs.YtdhlklidenfbeaaGreatDoor
