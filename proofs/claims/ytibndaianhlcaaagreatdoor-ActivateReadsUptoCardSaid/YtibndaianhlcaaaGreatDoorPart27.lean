/- The walk of the reference's Name (bootjackref06). ref21.cut: a line's first word, the rest of the line, and what is behind it. System and ref21.System: what both do in memory around their loops. -/
import Derived.Test.YtibndaianhlcaaaGreatDoorPart2
import Derived.Deep.QuietTactic
import Derived.BigQuiet
import Derived.Test.YtibndaianhlcaaaGreatDoorPart26
import Derived.Test.YtibndaianhlcaaaGreatDoorPart23
import Derived.Test.YtibndaianhlcaaaGreatDoorPart17
namespace Go.Proofs.YtibndaianhlcaaaGreatDoor
open Go.RowKit
set_option linter.unusedVariables false
set_option linter.unusedSimpArgs false

def lettersL : List UInt8 := [97, 98, 99, 100, 101, 102, 103, 104, 105, 106, 107, 108, 109, 110, 111, 112, 113, 114, 115, 116, 117, 118, 119, 120, 121, 122, 65, 66, 67, 68, 69, 70, 71, 72, 73, 74, 75, 76, 77, 78, 79, 80, 81, 82, 83, 84, 85, 86, 87, 88, 89, 90, 48, 49, 50, 51, 52, 53, 54, 55, 56, 57, 46, 95, 45, 43]
theorem letters_iff (c : UInt8) : lettersL.contains c = letterB c := by
  have key : ∀ n : Fin 256, lettersL.contains (UInt8.ofNat n.1) = letterB (UInt8.ofNat n.1) := by decide +kernel
  have := key ⟨c.toNat, u8_lt c⟩
  simpa using this
theorem letters_len : lettersL.length = 66 := rfl
def hasL (c : UInt8) (j : Nat) : Bool := (lettersL.take j).contains c
theorem hasL_succ (c : UInt8) (j : Nat) (h : j < 66) : hasL c (j + 1) = (hasL c j || lettersL[j]'(by rw [letters_len]; exact h) == c) := by
  unfold hasL
  rw [List.take_succ_eq_append_getElem (by rw [letters_len]; exact h)]
  simp only [List.contains_eq_any_beq, List.any_append, List.any_cons, List.any_nil, Bool.or_false]
  congr 1
  exact Bool.beq_comm
theorem hasL_all (c : UInt8) : hasL c 66 = letterB c := by rw [← letters_iff]; rfl

theorem byte_cmp (a c : UInt8) : ((a.toNat : Int) == (c.toNat : Int)) = (a == c) := by
  rw [Bool.eq_iff_iff]
  simp only [beq_iff_eq]
  rw [← UInt8.toNat_inj]
  omega
theorem lets_cmp (c : UInt8) (j : Nat) (h : j < 66) (h' : j < (ByteArray.mk #[97, 98, 99, 100, 101, 102, 103, 104, 105, 106, 107, 108, 109, 110, 111, 112, 113, 114, 115, 116, 117, 118, 119, 120, 121, 122, 65, 66, 67, 68, 69, 70, 71, 72, 73, 74, 75, 76, 77, 78, 79, 80, 81, 82, 83, 84, 85, 86, 87, 88, 89, 90, 48, 49, 50, 51, 52, 53, 54, 55, 56, 57, 46, 95, 45, 43]).size) : (((ByteArray.mk #[97, 98, 99, 100, 101, 102, 103, 104, 105, 106, 107, 108, 109, 110, 111, 112, 113, 114, 115, 116, 117, 118, 119, 120, 121, 122, 65, 66, 67, 68, 69, 70, 71, 72, 73, 74, 75, 76, 77, 78, 79, 80, 81, 82, 83, 84, 85, 86, 87, 88, 89, 90, 48, 49, 50, 51, 52, 53, 54, 55, 56, 57, 46, 95, 45, 43])[j].toNat : Int) == (c.toNat : Int)) = (false || lettersL[j]'(by rw [letters_len]; exact h) == c) := by
  rw [byte_cmp, Bool.false_or]
  rfl

set_option maxRecDepth 100000 in
set_option maxHeartbeats 1000000 in
theorem refName_any (s : ByteArray) (w : World) (hs : s.size ≤ maxLen) :
    Calls Tryz.prog 45 #[.string s] w fun e w' => e = .returned (.bool (nameB s.data.toList)) ∧ Below w.heap.size w w' := by
  have hsz : s.data.toList.length = s.size := by rw [Array.length_toList]; rfl
  have ht : s.toList = s.data.toList := Go.ByteArray.toList_eq s
  have hget : ∀ k (h : k < s.size), s.data.toList[k]? = some s[k] := fun k h => by
    rw [List.getElem?_eq_getElem (by rw [hsz]; exact h)]
    rfl
  generalize hl : s.data.toList = l at *
  clear hl
  have hN : ¬ (l ≠ [] ∧ l.length ≤ 36 ∧ l ≠ [46] ∧ l ≠ [46, 46]) → nameB l = false := fun h => by unfold nameB; rw [decide_eq_false h]; rfl
  by_cases hlong : 36 < s.size
  · have H := Lib.hid (hN (by omega))
    clear hN hsz hget
    go_enter Tryz.func45, Tryz.ntmps45
    go_wp2
    go_ret
    exact ⟨by rw [H.out]; rfl, Below.refl _ _⟩
  by_cases h0 : l = []
  · have H := Lib.hid (hN (fun h => h.1 h0))
    subst h0
    have hz : s.size = 0 := by simpa using hsz.symm
    clear hN hsz hget
    go_enter Tryz.func45, Tryz.ntmps45
    go_wp2
    go_ret
    exact ⟨by rw [H.out]; rfl, Below.refl _ _⟩
  by_cases h1 : l = [46]
  · have H := Lib.hid (hN (fun h => h.2.2.1 h1))
    subst h1
    have hle : s.size = 1 := by simpa using hsz.symm
    clear hN hsz hget
    go_enter Tryz.func45, Tryz.ntmps45
    go_wp2
    go_ret
    exact ⟨by rw [H.out]; rfl, Below.refl _ _⟩
  by_cases h2 : l = [46, 46]
  · have H := Lib.hid (hN (fun h => h.2.2.2 h2))
    subst h2
    have hle : s.size = 2 := by simpa using hsz.symm
    clear hN hsz hget
    go_enter Tryz.func45, Tryz.ntmps45
    go_wp2
    go_ret
    exact ⟨by rw [H.out]; rfl, Below.refl _ _⟩
  have hpos : 0 < s.size := by rw [← hsz]; cases l with | nil => exact absurd rfl h0 | cons => simp
  have h1' : (l == [46]) = false := by simpa using h1
  have h2' : (l == [46, 46]) = false := by simpa using h2
  have hle : s.size ≤ 36 := by omega
  have hYES := Lib.hid (fun h => nameB_of (l := l) h0 (by omega) h1 h2 h)
  have hNO := Lib.hid (fun k hk h => nameB_not (l := l) k hk h)
  have HZ := Lib.hid hsz
  have HG := Lib.hid hget
  clear hN hsz hlong hget h0 h1 h2
  go_enter Tryz.func45, Tryz.ntmps45
  go_wp2
  go_loopw [3] (fun i wr => ∃ k : Nat, k ≤ s.size ∧ i = .int .i64 (k : Int) ∧ Aside ((l.take k).all letterB = true) ∧ Aside (Below w.heap.size w wr)) (fun i _ => s.size - (intOf i).toNat)
  case atStart => exact ⟨0, by omega, rfl, rfl, Below.refl _ _⟩
  case round =>
    obtain ⟨k, hk, rfl, hv, hb⟩ := hrel
    by_cases hlt : k < s.size
    · have hlk : k < l.length := by have := HZ.out; omega
      have HT := Lib.hid (show (l.take (k + 1)).all letterB = letterB l[k] by rw [List.take_succ_eq_append_getElem hlk, List.all_append, hv.out]; simp)
      have HK := Lib.hid (fun h => hNO.out k hlk h)
      have HGK := Lib.hid (show s[k] = l[k] from by have := HG.out k hlt; rw [List.getElem?_eq_getElem hlk] at this; exact (Option.some.inj this).symm)
      obtain ⟨wo, rfl⟩ : ∃ wo : World, wo = wr := ⟨_, rfl⟩
      go_wp2
      go_loopw [4, 5] (fun d i wr => ∃ j : Nat, j ≤ 66 ∧ i = .int .i64 (j : Int) ∧ d = .bool (hasL s[k] j) ∧ Aside (Below w.heap.size w wr)) (fun _ i _ => 66 - (intOf i).toNat)
      case atStart => exact ⟨0, by omega, rfl, rfl, hb.out⟩
      case round =>
        obtain ⟨j, hj, rfl, rfl, hb2⟩ := hrel
        by_cases hj66 : j < 66
        · have HS := Lib.hid (hasL_succ s[k] j hj66)
          cases ho : hasL s[k] j with
          | true =>
            rw [ho] at HS
            clear ho
            go_wp2
            go_quiet (fail)
            go_wp2
            exact ⟨⟨j + 1, by omega, by go_num, by rw [HS.out]; rfl, ⟨hb2.out.os, hb2.out.tape, hb2.out.output, hb2.out.size, hb2.out.block⟩⟩, by simp [intOf]; omega⟩
          | false =>
            rw [ho] at HS
            clear ho
            go_wp2
            go_quiet (fail)
            go_wp2
            exact ⟨⟨j + 1, by omega, by go_num, by rw [HS.out, lets_cmp _ j hj66], ⟨hb2.out.os, hb2.out.tape, hb2.out.output, hb2.out.size, hb2.out.block⟩⟩, by simp [intOf]; omega⟩
        · obtain rfl : j = 66 := by omega
          rw [hasL_all, HGK.out]
          cases hlet : letterB l[k] with
          | true =>
            have H3 := Lib.hid (HT.out.trans hlet)
            clear hlet
            go_wp2
            exact ⟨⟨k + 1, by omega, by go_num, H3.out, hb2.out⟩, by simp [intOf]; omega⟩
          | false =>
            have H3 := Lib.hid (HK.out hlet)
            clear hlet
            go_wp2
            go_ret
            exact ⟨by rw [H3.out]; rfl, hb2.out⟩
    · have HY := Lib.hid (hYES.out (by rw [show l.length = k by have := HZ.out; omega]; exact hv.out))
      go_wp2
      go_ret
      exact ⟨by rw [HY.out]; rfl, hb.out⟩

end Go.Proofs.YtibndaianhlcaaaGreatDoor
namespace Go.Proofs.YtibndaianhlcaaaGreatDoor
open Go.RowKit
set_option linter.unusedVariables false
set_option linter.unusedSimpArgs false

theorem extW (l : List UInt8) (a b : Nat) : (ByteArray.mk l.toArray).extract a b = ⟨((l.drop a).take (b - a)).toArray⟩ := by
  apply Go.WideShapes.bytes_inj
  simp [List.extract_eq_take_drop]
theorem take_calm {s : Txt} {k : Nat} {c : UInt8} (hk : k < s.length) (h : ∀ x ∈ s.take k, x ≠ c) (hx : s[k] ≠ c) : ∀ x ∈ s.take (k + 1), x ≠ c := fun x hm => by
  rw [List.take_succ_eq_append_getElem hk] at hm
  rcases List.mem_append.1 hm with hm | hm
  · exact h x hm
  · rw [List.mem_singleton.1 hm]; exact hx
theorem byte_ne {a c : UInt8} (h : a ≠ c) : ((a.toNat : Int) != (c.toNat : Int)) = true := by
  rw [bne_iff_ne]
  intro e
  exact h (UInt8.toNat_inj.1 (by omega))
theorem byte_eq {a c : UInt8} (h : a = c) : ((a.toNat : Int) != (c.toNat : Int)) = false := by
  subst h
  simp
/-- What cut gives. -/
def cutV (s : Txt) : Value := .tuple #[.string ⟨(wordT (frontT 10 s)).toArray⟩, .string ⟨(behindT (frontT 10 s)).toArray⟩, .string ⟨(afterT 10 s).toArray⟩]
theorem cut_of {s : Txt} {k j : Nat} (hk : k ≤ s.length) (h1 : ∀ x ∈ s.take k, x ≠ 10) (he : k = s.length ∨ s[k]? = some 10) (hj : j ≤ (s.take k).length) (h2 : ∀ x ∈ (s.take k).take j, x ≠ 32) (hf : j = (s.take k).length ∨ (s.take k)[j]? = some 32) :
    cutV s = .tuple #[.string ⟨((s.take k).take j).toArray⟩, .string ⟨((s.take k).drop (j + 1)).toArray⟩, .string ⟨(s.drop (k + 1)).toArray⟩] := by
  obtain ⟨a1, a2⟩ := front_at hk h1 he
  obtain ⟨b1, b2⟩ := front_at hj h2 hf
  unfold cutV wordT behindT frontT afterT
  rw [a1, a2, b1, b2, List.drop_drop, List.drop_drop]
set_option maxRecDepth 100000 in
set_option maxHeartbeats 1000000 in
theorem refCut_any (s : Txt) (hn : s.length ≤ 1000000000) (w : World) :
    Calls Tryz.prog 68 #[.string ⟨s.toArray⟩] w fun e w' => e = .returned (cutV s) ∧ ∃ q, w' = w.drewN q := by
  have HCV := Lib.hid (fun k j hk h1 he hj h2 hf => cut_of (s := s) (k := k) (j := j) hk h1 he hj h2 hf)
  generalize cutV s = V at *
  go_enter Tryz.func68, Tryz.ntmps68
  go_upto_block 0 with (fail)
  go_cut [5] (fun s5 wx => ∃ k : Nat, k ≤ s.length ∧ s5 = .int .i64 (k : Int) ∧ (∀ x ∈ s.take k, x ≠ 10) ∧ (k = s.length ∨ s[k]? = some 10) ∧ wx = w)
  case first =>
    go_wp2
    go_loopw [5] (fun i wr => ∃ k : Nat, k ≤ s.length ∧ i = .int .i64 (k : Int) ∧ Aside (∀ x ∈ s.take k, x ≠ 10) ∧ wr = w) (fun i _ => s.length - (intOf i).toNat)
    case atStart => exact ⟨0, Nat.zero_le _, rfl, (by intro x hx; simp at hx), rfl⟩
    case round =>
      obtain ⟨k, hk, rfl, hall, rfl⟩ := hrel
      by_cases hlt : k < s.length
      · have hx2 : k < (ByteArray.mk s.toArray).size := hlt
        by_cases hc : s[k] = 10
        · have hcc : (((ByteArray.mk s.toArray)[k].toNat : Int) != 10) = false := byte_eq (c := 10) hc
          have HT := Lib.hid (show s[k]? = some 10 by rw [List.getElem?_eq_getElem hlt, hc])
          have HA := Lib.hid hall.out
          clear hc hall
          go_wp2
          go_meet
          case rel => exact ⟨k, hk, rfl, HA.out, .inr HT.out, rfl⟩
        · have hcc : (((ByteArray.mk s.toArray)[k].toNat : Int) != 10) = true := byte_ne (c := 10) hc
          have HT := Lib.hid (take_calm hlt hall.out hc)
          clear hc hall
          go_wp2
          exact ⟨⟨k + 1, hlt, by go_num, HT.out, by trivial⟩, by simp [intOf]; omega⟩
      · obtain rfl : k = s.length := by omega
        have HA := Lib.hid hall.out
        clear hall
        go_wp2
        go_meet
        case rel => exact ⟨s.length, hk, rfl, HA.out, .inl rfl, rfl⟩
  case rest =>
    obtain ⟨k, hk, rfl, hall, hend, hwx⟩ := hcut
    obtain rfl := hwx.symm
    have HA := Lib.hid hall
    have HE := Lib.hid hend
    have e1 : (ByteArray.mk s.toArray).extract 0 k = ⟨(s.take k).toArray⟩ := extW s 0 k
    have e2 : (ByteArray.mk s.toArray).extract (k + 1) s.length = ⟨(s.drop (k + 1)).toArray⟩ := by
      rw [extW, List.take_of_length_le (by rw [List.length_drop]; exact Nat.le_refl _)]
    have HD := Lib.hid (show s.length ≤ k → s.drop (k + 1) = [] from fun h => List.drop_eq_nil_of_le (by omega))
    have hle : (s.take k).length = k := by rw [List.length_take]; omega
    have HCK := Lib.hid (fun j hj h2 hf => HCV.out k j hk hall hend hj h2 hf)
    clear hall hend HCV
    generalize ht : s.take k = t at *
    generalize hr : s.drop (k + 1) = r at *
    have HT := Lib.hid ht
    have HR := Lib.hid hr
    clear ht hr
    have key : (k < s.length) ∨ (k = s.length) := by omega
    have hkl : (k : Int) ≤ (s.length : Int) := by omega
    have hlen2 : (t.length : Int) = (k : Int) := by omega
    have HX : ∀ j : Nat, j ≤ t.length → (ByteArray.mk t.toArray).extract 0 j = ⟨(t.take j).toArray⟩ ∧ (ByteArray.mk t.toArray).extract (j + 1) t.length = ⟨(t.drop (j + 1)).toArray⟩ := fun j _ => ⟨extW t 0 j, by rw [extW, List.take_of_length_le (by rw [List.length_drop]; exact Nat.le_refl _)]⟩
    have HXX := Lib.hid HX
    have htn : t.length ≤ 1000000000 := by omega
    clear HX
    clear hle hlen2
    rcases key with hlt | hlt
    · have hd : decide ((k : Int) < (s.length : Int)) = true := decide_eq_true (by omega)
      go_upto_block 2 with (fail)
      clear e1 e2 hd hlt hkl
      go_cut [8] (fun s8 wx => ∃ j : Nat, j ≤ t.length ∧ s8 = .int .i64 (j : Int) ∧ (∀ x ∈ t.take j, x ≠ 32) ∧ (j = t.length ∨ t[j]? = some 32) ∧ wx = w)
      case first =>
        go_wp2
        go_loopw [8] (fun i wr => ∃ j : Nat, j ≤ t.length ∧ i = .int .i64 (j : Int) ∧ Aside (∀ x ∈ t.take j, x ≠ 32) ∧ wr = w) (fun i _ => t.length - (intOf i).toNat)
        case atStart => exact ⟨0, Nat.zero_le _, rfl, (by intro x hx; simp at hx), rfl⟩
        case round =>
          obtain ⟨j, hj, rfl, hall, rfl⟩ := hrel
          by_cases hlt : j < t.length
          · have hx2 : j < (ByteArray.mk t.toArray).size := hlt
            by_cases hc : t[j] = 32
            · have hcc : (((ByteArray.mk t.toArray)[j].toNat : Int) != 32) = false := byte_eq (c := 32) hc
              have HT2 := Lib.hid (show t[j]? = some 32 by rw [List.getElem?_eq_getElem hlt, hc])
              have HA2 := Lib.hid hall.out
              clear hc hall
              go_wp2
              go_meet
              case rel => exact ⟨j, hj, rfl, HA2.out, .inr HT2.out, rfl⟩
            · have hcc : (((ByteArray.mk t.toArray)[j].toNat : Int) != 32) = true := byte_ne (c := 32) hc
              have HT2 := Lib.hid (take_calm hlt hall.out hc)
              clear hc hall
              go_wp2
              exact ⟨⟨j + 1, hlt, by go_num, HT2.out, by trivial⟩, by simp [intOf]; omega⟩
          · obtain rfl : j = t.length := by omega
            have HA2 := Lib.hid hall.out
            clear hall
            go_wp2
            go_meet
            case rel => exact ⟨t.length, hj, rfl, HA2.out, .inl rfl, rfl⟩
      case rest =>
        obtain ⟨j, hj, rfl, hall, hend, hwx⟩ := hcut
        obtain rfl := hwx.symm
        have HV := Lib.hid (HCK.out j hj hall hend)
        obtain ⟨x1, x2⟩ := HXX.out j hj
        clear hall hend HXX HCK HA HE
        rcases Nat.lt_or_ge j t.length with hlt | hge
        · have hd : ((j : Int) == (t.length : Int)) = false := by rw [beq_eq_false_iff_ne]; omega
          go_wp2
          go_quiet (fail)
          go_wp2_with (fail)
          refine bodyPost_ret (results_tmp3 rfl _ _ _) rfl ?_
          exact ⟨by rw [HV.out]; rfl, _, rfl⟩
        · obtain rfl : j = t.length := by omega
          have e3 : t.take t.length = t := List.take_length
          have e4 : t.drop (t.length + 1) = [] := List.drop_eq_nil_of_le (by omega)
          go_wp2
          refine bodyPost_ret (results_tmp3 rfl _ _ _) rfl ?_
          exact ⟨by rw [HV.out, e3, e4]; rfl, 0, rfl⟩
    · have hd : decide ((k : Int) < (s.length : Int)) = false := decide_eq_false (by omega)
      have hr0 : r = [] := HD.out (by omega)
      subst hr0
      have hd2 : ¬ ((k : Int) < (s.length : Int)) := by omega
      clear hlt
      go_upto_block 2 with (fail)
      clear e1 e2 hd hd2 hkl
      go_cut [8] (fun s8 wx => ∃ j : Nat, j ≤ t.length ∧ s8 = .int .i64 (j : Int) ∧ (∀ x ∈ t.take j, x ≠ 32) ∧ (j = t.length ∨ t[j]? = some 32) ∧ wx = w)
      case first =>
        go_wp2
        go_loopw [8] (fun i wr => ∃ j : Nat, j ≤ t.length ∧ i = .int .i64 (j : Int) ∧ Aside (∀ x ∈ t.take j, x ≠ 32) ∧ wr = w) (fun i _ => t.length - (intOf i).toNat)
        case atStart => exact ⟨0, Nat.zero_le _, rfl, (by intro x hx; simp at hx), rfl⟩
        case round =>
          obtain ⟨j, hj, rfl, hall, rfl⟩ := hrel
          by_cases hlt : j < t.length
          · have hx2 : j < (ByteArray.mk t.toArray).size := hlt
            by_cases hc : t[j] = 32
            · have hcc : (((ByteArray.mk t.toArray)[j].toNat : Int) != 32) = false := byte_eq (c := 32) hc
              have HT2 := Lib.hid (show t[j]? = some 32 by rw [List.getElem?_eq_getElem hlt, hc])
              have HA2 := Lib.hid hall.out
              clear hc hall
              go_wp2
              go_meet
              case rel => exact ⟨j, hj, rfl, HA2.out, .inr HT2.out, rfl⟩
            · have hcc : (((ByteArray.mk t.toArray)[j].toNat : Int) != 32) = true := byte_ne (c := 32) hc
              have HT2 := Lib.hid (take_calm hlt hall.out hc)
              clear hc hall
              go_wp2
              exact ⟨⟨j + 1, hlt, by go_num, HT2.out, by trivial⟩, by simp [intOf]; omega⟩
          · obtain rfl : j = t.length := by omega
            have HA2 := Lib.hid hall.out
            clear hall
            go_wp2
            go_meet
            case rel => exact ⟨t.length, hj, rfl, HA2.out, .inl rfl, rfl⟩
      case rest =>
        obtain ⟨j, hj, rfl, hall, hend, hwx⟩ := hcut
        obtain rfl := hwx.symm
        have HV := Lib.hid (HCK.out j hj hall hend)
        obtain ⟨x1, x2⟩ := HXX.out j hj
        clear hall hend HXX HCK HA HE
        rcases Nat.lt_or_ge j t.length with hlt | hge
        · have hd : ((j : Int) == (t.length : Int)) = false := by rw [beq_eq_false_iff_ne]; omega
          go_wp2
          go_quiet (fail)
          go_wp2_with (fail)
          refine bodyPost_ret (results_tmp3 rfl _ _ _) rfl ?_
          exact ⟨by rw [HV.out]; rfl, _, rfl⟩
        · obtain rfl : j = t.length := by omega
          have e3 : t.take t.length = t := List.take_length
          have e4 : t.drop (t.length + 1) = [] := List.drop_eq_nil_of_le (by omega)
          go_wp2
          refine bodyPost_ret (results_tmp3 rfl _ _ _) rfl ?_
          exact ⟨by rw [HV.out, e3, e4]; rfl, 0, rfl⟩
end Go.Proofs.YtibndaianhlcaaaGreatDoor
namespace Go.Proofs.YtibndaianhlcaaaGreatDoor
open Go.RowKit Go.Sort
set_option linter.unusedVariables false
set_option linter.unusedSimpArgs false

def zeroC : Array Value := #[.slice none 0 0, .slice none 0 0, .slice none 0 0]
/-- The result's box and the system's. -/
def WX (w : World) (v : Value) : World := (w.alloc (.cells #[.slice none 0 0, .slice none 0 0, .slice none 0 0] 26)).alloc (.cells #[v, .slice none 0 0, .slice none 0 0] 26)
theorem WX_size (w : World) (v : Value) : (WX w v).heap.size = w.heap.size + 2 := by simp [WX]
theorem WX_bel (w : World) (v : Value) : Below w.heap.size w (WX w v) := (bel_new _ _).alloc (by simp) _
theorem WX_res (w : World) (v : Value) : Blk (WX w v) w.heap.size 26 #[.slice none 0 0, .slice none 0 0, .slice none 0 0] := (Blk.new _ _ _).alloc _
theorem WX_box (w : World) (v : Value) : Blk (WX w v) (w.heap.size + 1) 26 #[v, .slice none 0 0, .slice none 0 0] := by
  have h := Blk.new (w.alloc (.cells #[.slice none 0 0, .slice none 0 0, .slice none 0 0] 26)) 26 #[v, .slice none 0 0, .slice none 0 0]
  rwa [World.size_alloc] at h
theorem WX_set {w W : World} {v v' : Value} (h : Below (w.heap.size + 2) (WX w v) W) : Below (w.heap.size + 2) (WX w v') (W.setCell ⟨w.heap.size + 1, 0, none⟩ v') := by
  refine ⟨h.os, h.tape, h.output, ?_, fun k hk => ?_⟩
  · have := h.size
    rw [WX_size] at this ⊢
    simpa using this
  · by_cases h1 : k = w.heap.size + 1
    · subst h1
      have hb : Blk W (w.heap.size + 1) 26 #[v, .slice none 0 0, .slice none 0 0] := (WX_box w v).below h (by omega)
      exact (hb.set_ 0 v').trans (WX_box w v').symm
    · rw [Below.heap_setCell W _ _ k (fun e => h1 e), h.block k hk]
      by_cases h2 : k = w.heap.size
      · subst h2
        exact (WX_res w v).trans (WX_res w v').symm
      · rw [(WX_bel w v).block k (by omega), (WX_bel w v').block k (by omega)]
theorem OwnEnts.keepB {w w' : World} {base : Nat} {v : Value} {n : Nat} {es : List EV} (h : OwnEnts w base v n es) (hs : w.heap.size ≤ w'.heap.size) (hb : ∀ k, base ≤ k → k < w.heap.size → w'.heap[k]? = w.heap[k]?) : OwnEnts w' base v n es := by
  refine ⟨own_keep h.own (fun k hk => hb k (h.own.lt k hk).1 (h.own.lt k hk).2), fun e he => ?_, fun e he => ?_, fun e he g hg => ?_⟩
  · obtain ⟨g, g1, g2, g3, g4⟩ := h.data e he
    have hx := h.slc e he
    refine ⟨hx.len, hx.le, hx.cmax, fun hn => ?_⟩
    obtain ⟨b, off, e1, hlt, hcc⟩ := hx.at_ hn
    rw [g1] at e1
    injection e1 with e1
    injection e1 with e1 e2
    subst e1 e2
    exact ⟨g, 0, g1, by omega, fun j u hu => by rw [World.cell?_of_block (w := w) (a := ⟨g, 0 + j, none⟩) (hb g g2 g3)]; exact hcc j u hu⟩
  · obtain ⟨g, g1, g2, g3, g4⟩ := h.data e he
    exact ⟨g, g1, g2, by omega, g4⟩
  · obtain ⟨g', g1, g2, g3, g4⟩ := h.data e he
    rw [hg] at g1
    injection g1 with g1
    injection g1 with g1
    subst g1
    exact (h.free e he g hg).of (hb g g2 g3)
theorem trim_lib (p : Txt) : Lib.trimPrefix p [101, 116, 99, 47] = trimE p := rfl
/-- One entry is read: what lies in memory at each step. -/
structure SysPut (w wr : World) (A' : Option Addr) (k c' : Nat) (es : List EV) (e : EV) (w3 : World) (g3 c3 : Nat) (A6 : Option Addr) (c6 : Nat) (w6 : World) : Prop where
  r3 : (Builtin.append_ #[33, 33] 33 #[.slice (some ⟨wr.heap.size + 1, 0, none⟩) 0 0, .slice e.A e.n e.c]).run Tryz.prog ((wr.alloc (.cells #[.string ⟨e.path.toArray⟩, .int .i64 e.kind, .slice e.A e.n e.c] 35)).alloc (.cells #[] 5)).drew = .ok (.slice (some ⟨g3, 0, none⟩) e.n c3) w3
  r6 : (Builtin.append_ #[22, 22] 22 #[.slice A' k c', .slice (some ⟨w3.heap.size, 0, none⟩) 1 1]).run Tryz.prog (w3.alloc (.cells #[.string ⟨(trimE e.path).toArray⟩, .int .i64 e.kind, .slice (some ⟨g3, 0, none⟩) e.n c3] 35)) = .ok (.slice A6 (k + 1) c6) w6
  s3 : Blk w3 wr.heap.size 35 #[.string ⟨e.path.toArray⟩, .int .i64 e.kind, .slice e.A e.n e.c] ∧ Blk w3 (w.heap.size + 1) 26 #[.slice A' k c', .slice none 0 0, .slice none 0 0]
  s6 : Blk w6 wr.heap.size 35 #[.string ⟨e.path.toArray⟩, .int .i64 e.kind, .slice e.A e.n e.c] ∧ Blk w6 (w.heap.size + 1) 26 #[.slice A' k c', .slice none 0 0, .slice none 0 0]
  own : OwnEnts (w6.setCell ⟨w.heap.size + 1, 0, none⟩ (.slice A6 (k + 1) c6)) (w.heap.size + 2) (.slice A6 (k + 1) c6) (k + 1) (es ++ [⟨trimE e.path, e.kind, e.data, some ⟨g3, 0, none⟩, e.n, c3⟩])
  bel : Below (w.heap.size + 2) (WX w (.slice A6 (k + 1) c6)) (w6.setCell ⟨w.heap.size + 1, 0, none⟩ (.slice A6 (k + 1) c6))
theorem sys_put {w wr : World} {A' : Option Addr} {k c' : Nat} {es : List EV} {B : Nat} (h : OwnEnts wr (w.heap.size + 2) (.slice A' k c') k es) (hb : Below (w.heap.size + 2) (WX w (.slice A' k c')) wr) (e : EV) (hS : Slc wr B 1 e.A e.n e.c (e.data.map bv)) (hB : B ≤ wr.heap.size) (hk : k ≤ 1000000000) (hn : e.n ≤ 1000000000) :
    ∃ w3 g3 c3 A6 c6 w6, SysPut w wr A' k c' es e w3 g3 c3 A6 c6 w6 := by
  have hz := WX_size w (.slice A' k c')
  obtain ⟨W1, hW1⟩ : ∃ W1, W1 = (wr.alloc (.cells #[.string ⟨e.path.toArray⟩, .int .i64 e.kind, .slice e.A e.n e.c] 35)).drew := ⟨_, rfl⟩
  have hb1 : Below wr.heap.size wr W1 := by rw [hW1]; exact ((Below.refl _ wr).alloc (Nat.le_refl _) _).drew
  have hz1 : W1.heap.size = wr.heap.size + 1 := by rw [hW1]; simp
  obtain ⟨g3, c3, w3, S⟩ := bytes_copy (hS.below (hb1.mono hB)) (by omega) hn
  have hbw3 : Below wr.heap.size wr w3 := hb1.trans (S.bel.mono hb1.size)
  have h3 := h.below hbw3
  have hs := hb.size
  rw [hz] at hs
  have hge := S.ge
  obtain ⟨A6, c6, w6, r6, o6, g6, _⟩ := h3.append ⟨trimE e.path, e.kind, e.data, some ⟨g3, 0, none⟩, e.n, c3⟩ (own_slc_of S.own) ⟨g3, rfl, by omega, S.lt, fun e9 => by have := (h.own.lt _ e9).2; omega⟩ (fun g hg => by injection hg with hg; injection hg with hg; subst hg; exact FreeB.own S.own) hk (Nat.le_trans hs hbw3.size)
  have r3 := S.run
  rw [hz1, hW1] at r3
  have hG : Blk W1 wr.heap.size 35 #[.string ⟨e.path.toArray⟩, .int .i64 e.kind, .slice e.A e.n e.c] := by rw [hW1]; exact (Blk.new _ _ _).drew
  have hG3 := hG.below S.bel hG.lt
  have hG6 : Blk w6 wr.heap.size 35 #[.string ⟨e.path.toArray⟩, .int .i64 e.kind, .slice e.A e.n e.c] :=
    (g6.block wr.heap.size (Nat.lt_of_lt_of_le hG3.lt (by simp)) (fun e9 => by have := (h.own.lt _ e9.symm).2; omega)).trans (hG3.alloc _)
  have hX : Blk wr (w.heap.size + 1) 26 #[.slice A' k c', .slice none 0 0, .slice none 0 0] := (WX_box w _).below hb (by omega)
  have hX3 := hX.below hbw3 hX.lt
  have hX6 : Blk w6 (w.heap.size + 1) 26 #[.slice A' k c', .slice none 0 0, .slice none 0 0] :=
    (g6.block (w.heap.size + 1) (Nat.lt_of_lt_of_le hX3.lt (by simp)) (fun e9 => by have := (h.own.lt _ e9.symm).1; omega)).trans (hX3.alloc _)
  have hb6 : Below (w.heap.size + 2) (WX w (.slice A' k c')) w6 := grown_below ((hb.trans (hbw3.mono (by omega))).alloc (by have := hbw3.size; omega) _) (h3.own.alloc _) (by have := hbw3.size; simp; omega) g6
  refine ⟨w3, g3, c3, A6, c6, w6, r3, r6, ⟨hG3, hX3⟩, ⟨hG6, hX6⟩, ?_, WX_set hb6⟩
  exact o6.keepB (by simp) (fun i hi _ => Below.heap_setCell w6 _ _ i (fun e1 => by simp only at e1; omega))
/-- The system that stands after some lines. -/
def SysAt (wL : World) (G : Nat → Prop) (sB H : Nat) (fv : Value) (s : SysP) (W : World) : Prop := ∃ F A2 n2 c2 users A3 n3 c3 us, SysI wL G sB H fv W F A2 n2 c2 users A3 n3 c3 us ∧ users = s.users ∧ us.map SV.srv = s.units
theorem SysAt.apart {wL : World} {G : Nat → Prop} {sB H : Nat} {fv : Value} {s : SysP} {W W' : World} {P : Nat → Prop} (h : SysAt wL G sB H fv s W) (hs : Step W W' P P) (hP : ∀ k, P k → k ≠ sB ∧ k < H ∧ (G k ∨ wL.heap.size ≤ k)) : SysAt wL G sB H fv s W' := by
  obtain ⟨F, A2, n2, c2, users, A3, n3, c3, us, h1, h2⟩ := h
  exact ⟨F, A2, n2, c2, users, A3, n3, c3, us, h1.apart hs hP, h2⟩
theorem SysAt.below {wL : World} {G : Nat → Prop} {sB H : Nat} {fv : Value} {s : SysP} {W W' : World} (h : SysAt wL G sB H fv s W) (hb : Below W.heap.size W W') : SysAt wL G sB H fv s W' := by
  obtain ⟨F, A2, n2, c2, users, A3, n3, c3, us, h1, h2⟩ := h
  exact ⟨F, A2, n2, c2, users, A3, n3, c3, us, h1.below hb, h2⟩
theorem SysAt.begin {wL : World} {G : Nat → Prop} {sB H : Nat} {fv : Value} {F : List Ent} (hB : Blk wL sB 26 #[fv, .slice none 0 0, .slice none 0 0]) (hG : G sB) (hH : wL.heap.size ≤ H) : SysAt wL G sB H fv ⟨F, [], []⟩ wL :=
  ⟨fun _ => False, none, 0, 0, [], none, 0, 0, [], ⟨Step.refl _ _, hB, Row.nil _ _ _ _, BldU.nil _ _, (fun k h => h.elim), hG, hB.lt, hH⟩, rfl, rfl⟩
theorem step_put (W : World) (l : Nat) (o : Obj) : Step W (W.putObj l o) (fun k => k = l) (fun k => k = l) :=
  ⟨rfl, rfl, rfl, by simp [World.putObj], fun k _ hn => World.putObj_heap_other (fun e => hn e), fun k h => .inl h⟩
theorem step_setC (W : World) (p : Addr) (v : Value) : Step W (W.setCell p v) (fun k => k = p.block) (fun k => k = p.block) := (Step.refl W (fun k => k = p.block)).setCell (p := p) (.inl rfl) v
theorem SysI.wide {wL : World} {G G' : Nat → Prop} {sB H : Nat} {fv : Value} {W : World} {F : Nat → Prop} {A2 : Option Addr} {n2 c2 : Nat} {users : List Txt} {A3 : Option Addr} {n3 c3 : Nat} {us : List SV} (h : SysI wL G sB H fv W F A2 n2 c2 users A3 n3 c3 us) (hG : ∀ k, G k → G' k) : SysI wL G' sB H fv W F A2 n2 c2 users A3 n3 c3 us :=
  ⟨⟨h.step.os, h.step.tape, h.step.output, h.step.size, fun k hk hn => h.step.block k hk (fun hg => hn (hG k hg)), fun k hk => .inl hk⟩, h.box, h.users, h.units, h.foot, hG _ h.gbox, h.low, h.high⟩
/-- What both give: the system, or none. -/
def SysPost (w : World) (L : List Ent) (yes no : Value) : Ending → World → Prop := fun e w' => ∃ o : OV, e = .returned (.tuple #[.agg (ovArr o), if (sysR L).isSome = true then yes else no]) ∧ sysO o = (sysR L).getD ⟨[], [], []⟩ ∧ ObsAt w' w'.heap.size o ∧ Below w.heap.size w w'
def ov0 : OV := ⟨none, 0, 0, [], none, 0, 0, [], none, 0, 0, []⟩
theorem obs_none (w : World) (B : Nat) : ObsAt w B ov0 := ⟨⟨slc_none _ _ _, rfl, fun e he => by cases he⟩, slc_none _ _ _, ⟨slc_none _ _ _, rfl, (fun u hu => by cases hu), (fun u hu => by cases hu)⟩⟩
theorem SysPost.none_ {w w' : World} {L : List Ent} {yes no : Value} (h : sysR L = none) (hb : Below w.heap.size w w') : SysPost w L yes no (.returned (.tuple #[.agg #[.slice none 0 0, .slice none 0 0, .slice none 0 0], no])) w' :=
  ⟨ov0, by rw [h]; rfl, by rw [h]; rfl, obs_none _ _, hb⟩
theorem SysPost.some_ {w w' : World} {L : List Ent} {yes no : Value} {o : OV} (h : sysR L = some (sysO o)) (ho : ObsAt w' w'.heap.size o) (hb : Below w.heap.size w w') : SysPost w L yes no (.returned (.tuple #[.agg (ovArr o), yes])) w' :=
  ⟨o, by rw [h]; rfl, by rw [h]; rfl, ho, hb⟩
theorem sys_none {L : List Ent} (h : rightS (partS L) = false ∨ laidS (partS L) ≠ L) : sysR L = none := by
  unfold sysR
  rw [if_neg]
  rintro ⟨_, h2, h3⟩
  rcases h with h | h
  · rw [h] at h2; cases h2
  · exact h h3
theorem sys_some {L : List Ent} (hn : L ≠ []) (h : rightS (partS L) = true) (h2 : laidS (partS L) = L) : sysR L = some (partS L) := by
  unfold sysR
  rw [if_pos ⟨hn, h, h2⟩]
theorem Capsmall {s : SysP} {k : Nat} (h : CapS s k 1048576) (hk : k ≤ 1048576) {o : OV} (ho : o.users = s.users) (hu : o.us.map SV.srv = s.units) (h1 : ∀ e ∈ o.es, e.path.length ≤ 1048576 ∧ e.data.length ≤ 1048576) (h2 : o.n ≤ 1048576) (h3 : o.n2 = o.users.length) (h4 : o.n3 = o.us.length)
    (h5 : ∀ u ∈ o.us, u.n = u.req.length ∧ u.n2 = u.aft.length) : SmallO o := by
  refine ⟨h1, by rw [ho]; exact h.texts, fun u hm => ?_, h2, ?_, ?_⟩
  · have hm2 : u.srv ∈ s.units := by rw [← hu]; exact List.mem_map.2 ⟨u, hm, rfl⟩
    obtain ⟨c1, c2, c3, c4⟩ := h.names _ hm2
    obtain ⟨l1, l2⟩ := h.lists _ hm2
    obtain ⟨q1, q2⟩ := h5 u hm
    refine ⟨c1, c2, fun t ht => ?_, ?_, ?_⟩
    · rcases List.mem_append.1 ht with ht | ht
      · exact c3 t ht
      · exact c4 t ht
    · rw [q1]; exact Nat.le_trans l1 hk
    · rw [q2]; exact Nat.le_trans l2 hk
  · rw [h3, ho]; exact Nat.le_trans h.users hk
  · have : o.us.length = s.units.length := by rw [← hu, List.length_map]
    rw [h4, this]; exact Nat.le_trans h.units hk
/-- Below H nothing turned but the box. -/
def LowK (H sB : Nat) (W W' : World) : Prop := W.heap.size ≤ W'.heap.size ∧ ∀ k, k < H → k ≠ sB → W'.heap[k]? = W.heap[k]?
theorem LowK.of {H sB : Nat} {W W' : World} {P P' : Nat → Prop} (hs : Step W W' P P') (hP : ∀ k, P k → H ≤ k) (hH : H ≤ W.heap.size) : LowK H sB W W' :=
  ⟨hs.size, fun k hk _ => hs.block k (by omega) (fun hp => by have := hP k hp; omega)⟩
theorem LowK.set {H sB : Nat} {W W' : World} (h : LowK H sB W W') (i : Nat) (v : Value) : LowK H sB W (W'.setCell ⟨sB, i, none⟩ v) :=
  ⟨by simpa using h.1, fun k hk hn => (Below.heap_setCell W' _ _ k (fun e => hn e)).trans (h.2 k hk hn)⟩
theorem LowK.trans {H sB : Nat} {a b c : World} (h : LowK H sB a b) (k : LowK H sB b c) : LowK H sB a c := ⟨Nat.le_trans h.1 k.1, fun i hi hn => (k.2 i hi hn).trans (h.2 i hi hn)⟩
theorem LowK.drewN {H sB : Nat} {W W' : World} {q : Nat} (h : W' = W.drewN q) : LowK H sB W W' := by subst h; exact ⟨Nat.le_refl _, fun _ _ _ => rfl⟩
theorem LowK.rec_ {H sB D : Nat} {W W' : World} (h : LowK H sB W W') (h1 : D + 1 < H) (h2 : sB < D) : RecKept D W W' := ⟨h.1, h.2 D (by omega) (by omega), h.2 (D + 1) h1 (by omega)⟩
theorem LowK.kp {H sB b1 b2 b3 : Nat} {W W' : World} (h : LowK H sB W W') (h1 : b1 < H) (h2 : b2 < H) (h3 : b3 < H) (n1 : b1 ≠ sB) (n2 : b2 ≠ sB) (n3 : b3 ≠ sB) : Kp3 b1 b2 b3 W W' := ⟨h.2 _ h1 n1, h.2 _ h2 n2, h.2 _ h3 n3⟩
theorem line_is_user {s : SysP} {x : Txt} (h : wordT x = wUser) : sysLine s x = ⟨s.files, s.users ++ [behindT x], s.units⟩ := by unfold sysLine; rw [if_pos h]
theorem line_is_unit {s : SysP} {x : Txt} (h : ¬ wordT x = wUser) (h2 : wordT x = wUnit) : sysLine s x = ⟨s.files, s.users, s.units ++ [⟨behindT x, [], [], []⟩]⟩ := by unfold sysLine; rw [if_neg h, if_pos h2]
theorem line_is_none {s : SysP} {x : Txt} (h : ¬ wordT x = wUser) (h2 : ¬ wordT x = wUnit) (h3 : s.units = []) : sysLine s x = s := by
  unfold sysLine
  rw [if_neg h, if_neg h2, h3]
  obtain ⟨f, u, v⟩ := s
  simp only at h3
  subst h3
  rfl
theorem line_is_more {s : SysP} {x : Txt} (h : ¬ wordT x = wUser) (h2 : ¬ wordT x = wUnit) {M : List Srv} {u : Srv} (h3 : s.units = M ++ [u]) : sysLine s x = ⟨s.files, s.users, M ++ [(moreU u (wordT x) (behindT x)).1]⟩ := by
  unfold sysLine
  rw [if_neg h, if_neg h2, h3, last_app]
theorem fold_snoc (pre : List Txt) (x : Txt) (s : SysP) : (pre ++ [x]).foldl sysLine s = sysLine (pre.foldl sysLine s) x := by simp
/-- The result is told: its box R is written. -/
def put3W (W : World) (R : Nat) (a b c : Value) : World := ((W.setCell ⟨R, 0, none⟩ a).setCell ⟨R, 1, none⟩ b).setCell ⟨R, 2, none⟩ c
theorem put3_step (W : World) (R : Nat) (a b c : Value) : Step W (put3W W R a b c) (fun k => k = R) (fun k => k = R) :=
  (((Step.refl W (fun k => k = R)).setCell (p := ⟨R, 0, none⟩) (.inl rfl) a).setCell (p := ⟨R, 1, none⟩) (.inl rfl) b).setCell (p := ⟨R, 2, none⟩) (.inl rfl) c
theorem put3_blk {W : World} {R : Nat} {T : TypeId} {x y z : Value} (h : Blk W R T #[x, y, z]) (a b c : Value) : Blk (put3W W R a b c) R T #[a, b, c] := ((h.set_ 0 a).set_ 1 b).set_ 2 c
theorem SysI.put3 {wL : World} {G : Nat → Prop} {sB H : Nat} {fv : Value} {W : World} {F : Nat → Prop} {A2 : Option Addr} {n2 c2 : Nat} {users : List Txt} {A3 : Option Addr} {n3 c3 : Nat} {us : List SV} (h : SysI wL G sB H fv W F A2 n2 c2 users A3 n3 c3 us) {R : Nat} (h1 : R ≠ sB) (h2 : R < H) (a b c : Value) : SysI wL (fun k => G k ∨ k = R) sB H fv (put3W W R a b c) F A2 n2 c2 users A3 n3 c3 us :=
  (h.wide (fun k hk => .inl hk)).apart (put3_step W R a b c) (fun k hk => by subst hk; exact ⟨h1, h2, .inl (.inr rfl)⟩)
theorem SysI.put_ {wL : World} {G : Nat → Prop} {sB H : Nat} {fv : Value} {W : World} {F : Nat → Prop} {A2 : Option Addr} {n2 c2 : Nat} {users : List Txt} {A3 : Option Addr} {n3 c3 : Nat} {us : List SV} (h : SysI wL G sB H fv W F A2 n2 c2 users A3 n3 c3 us) {D : Nat} (h1 : D ≠ sB) (h2 : D < H) (h3 : wL.heap.size ≤ D) (o : Obj) : SysI wL G sB H fv (W.putObj D o) F A2 n2 c2 users A3 n3 c3 us :=
  h.apart (step_put W D o) (fun k hk => by subst hk; exact ⟨h1, h2, .inr h3⟩)
end Go.Proofs.YtibndaianhlcaaaGreatDoor
