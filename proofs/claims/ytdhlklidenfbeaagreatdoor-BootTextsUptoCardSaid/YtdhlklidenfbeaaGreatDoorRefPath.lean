/- The walk of the reference's IsPath (bootjackref08). -/
import Derived.Test.YtdhlklidenfbeaaGreatDoorRefName
import Derived.Test.YtdhlklidenfbeaaGreatDoorSumRef
namespace Go.Proofs.YtdhlklidenfbeaaGreatDoor
open Go.RowKit
set_option linter.unusedVariables false
set_option linter.unusedSimpArgs false

theorem extL (l : List UInt8) (a b : Nat) : (ByteArray.mk l.toArray).extract a b = ⟨((l.drop a).take (b - a)).toArray⟩ := by
  apply Go.WideShapes.bytes_inj
  simp [List.extract_eq_take_drop]
/-- What IsPath has found ahead of a place. -/
def okTo (l : List UInt8) (k : Nat) : Bool := (parsed ((l.drop 7).take 16)).isSome && ((l.drop 24).take (k - 24)).all letterB
theorem okTo_succ (l : List UInt8) (k : Nat) (h : 24 ≤ k) (hk : k < l.length) : okTo l (k + 1) = (okTo l k && letterB l[k]) := by
  unfold okTo
  have hd : k - 24 < (l.drop 24).length := by rw [List.length_drop]; omega
  rw [show k + 1 - 24 = (k - 24) + 1 by omega, List.take_succ_eq_append_getElem hd, List.all_append, List.getElem_drop]
  simp only [List.all_cons, List.all_nil, Bool.and_true, Bool.and_assoc]
  congr 3
  simp only [show 24 + (k - 24) = k by omega]
theorem pathB_short {l : List UInt8} (h : l.length < 25 ∨ 43 < l.length) : pathB l = false := by
  cases hp : pathB l with
  | false => rfl
  | true => have := pathB_len hp; omega
theorem pathB_not7 {l : List UInt8} (h : l.take 7 ≠ slash7) : pathB l = false := by
  unfold pathB headB
  rw [decide_eq_false h]
  rfl
theorem pathB_not23 {l : List UInt8} (h : l[23]? ≠ some 45) : pathB l = false := by
  unfold pathB headB
  rw [decide_eq_false h]
  simp
theorem pathB_okTo {l : List UInt8} (h1 : 25 ≤ l.length) (h2 : l.length ≤ 43) (h3 : l.take 7 = slash7) (h4 : l[23]? = some 45) : okTo l l.length = pathB l := by
  unfold okTo pathB headB
  have ht : (l.drop 24).take (l.length - 24) = l.drop 24 := List.take_of_length_le (by rw [List.length_drop]; exact Nat.le_refl _)
  rw [decide_eq_true h3, decide_eq_true h1, decide_eq_true h2, decide_eq_true h4, ht]
  simp

set_option maxRecDepth 100000 in
set_option maxHeartbeats 1000000 in
theorem isPath_any (l : List UInt8) (w : World) (hs : l.length ≤ maxLen) :
    Calls Tryz.prog 31 #[.string ⟨l.toArray⟩] w fun e w' => e = .returned (.bool (pathB l)) ∧ Below w.heap.size w w' := by
  have hs' : l.length ≤ 9223372036854775807 := by unfold maxLen at hs; omega
  by_cases hlen : l.length < 25 ∨ 43 < l.length
  · have H := Lib.hid (pathB_short hlen)
    rcases hlen with hlen | hlen
    all_goals
      go_enter Tryz.func31, Tryz.ntmps31
      go_wp2
      go_ret
      exact ⟨by rw [H.out]; rfl, Below.refl _ _⟩
  have hl1 : 25 ≤ l.length := by omega
  have hl2 : l.length ≤ 43 := by omega
  clear hlen
  have e7 : (ByteArray.mk l.toArray).extract 0 7 = ⟨(l.take 7).toArray⟩ := extL l 0 7
  have t7 : (ByteArray.mk (l.take 7).toArray).toList = l.take 7 := Go.ByteArray.toList_eq _
  have h23 : 23 < l.length := by omega
  have g23 : l[23]? = some l[23] := List.getElem?_eq_getElem h23
  have e17 : (ByteArray.mk l.toArray).extract 7 23 = ⟨((l.drop 7).take 16).toArray⟩ := extL l 7 23
  by_cases h3 : l.take 7 = slash7
  case neg =>
    have H := Lib.hid (pathB_not7 h3)
    have hb : (l.take 7 == [47, 115, 116, 111, 114, 101, 47]) = false := by simpa [slash7] using h3
    clear h3 e17 g23
    go_enter Tryz.func31, Tryz.ntmps31
    go_wp2
    go_ret
    exact ⟨by rw [H.out]; rfl, Below.refl _ _⟩
  have hb : (l.take 7 == [47, 115, 116, 111, 114, 101, 47]) = true := by rw [h3]; rfl
  by_cases h4 : l[23] = 45
  case neg =>
    have H := Lib.hid (pathB_not23 (l := l) (by rw [g23]; simpa using h4))
    have hx : 23 < (ByteArray.mk l.toArray).size := h23
    have hc : (((ByteArray.mk l.toArray)[23].toNat : Int) != 45) = true := by
      show ((l[23].toNat : Int) != 45) = true
      have : l[23].toNat ≠ 45 := fun h => h4 (UInt8.toNat_inj.1 (by rw [h]; rfl))
      simp; omega
    clear h3 h4 e17 g23
    go_enter Tryz.func31, Tryz.ntmps31
    go_wp2
    go_ret
    exact ⟨by rw [H.out]; rfl, Below.refl _ _⟩
  have hx : 23 < (ByteArray.mk l.toArray).size := h23
  have hc : (((ByteArray.mk l.toArray)[23].toNat : Int) != 45) = false := by
    show ((l[23].toNat : Int) != 45) = false
    rw [h4]
    rfl
  have hpr := refParse_any ⟨((l.drop 7).take 16).toArray⟩ w (by
    show ((l.drop 7).take 16).length ≤ maxLen
    rw [List.length_take]
    unfold maxLen
    omega)
  have e16 : (ByteArray.mk ((l.drop 7).take 16).toArray).data.toList = (l.drop 7).take 16 := rfl
  rw [e16] at hpr
  have HP := Lib.hid (pathB_okTo hl1 hl2 h3 (by rw [g23, h4]))
  have H0 := Lib.hid (show okTo l 24 = (parsed ((l.drop 7).take 16)).isSome by simp [okTo])
  have HS := Lib.hid (fun k h hk => okTo_succ l k h hk)
  have hB24 : (24 : Int) < (l.length : Int) := by omega
  clear h3 h4 g23 e16
  obtain ⟨v, hv⟩ : ∃ v, v = parsed ((l.drop 7).take 16) := ⟨_, rfl⟩
  rw [← hv] at hpr H0
  clear hv
  have hpr2 : Calls Tryz.prog 55 #[.string ⟨((l.drop 7).take 16).toArray⟩] w fun e w' => ∃ x, e = .returned (.tuple #[.int .u64 x, .bool v.isSome]) ∧ Below w.heap.size w w' := by
    refine hpr.mono ?_
    rintro e w' ⟨rfl, hb⟩
    cases v with
    | none => exact ⟨0, rfl, hb⟩
    | some t => exact ⟨t, rfl, hb⟩
  clear hpr
  go_enter Tryz.func31, Tryz.ntmps31
  go_wp2_with (go_at_call 55; refine hpr2.mono ?_; clear hpr2; rintro e2 w2 ⟨x, rfl, hb2⟩)
  go_loopw [4, 5] (fun o i wr => ∃ k : Nat, 24 ≤ k ∧ k ≤ l.length ∧ i = .int .i64 (k : Int) ∧ o = .bool (okTo l k) ∧ Aside (Below w.heap.size w wr)) (fun _ i _ => l.length - (intOf i).toNat)
  case atStart => exact ⟨24, by omega, by omega, rfl, by rw [H0.out], hb2⟩
  case round =>
    obtain ⟨k, hk24, hk, rfl, rfl, hb⟩ := hrel
    by_cases hlt : k < l.length
    · have hx2 : k < (ByteArray.mk l.toArray).size := hlt
      have htl := refTail_any ((ByteArray.mk l.toArray)[k]) wr
      have HSK := Lib.hid (show okTo l (k + 1) = (okTo l k && letterB ((ByteArray.mk l.toArray)[k])) from HS.out k hk24 hlt)
      generalize okTo l k = o at *
      cases o with
      | false =>
        go_wp2_with (go_at_call 56; refine htl.mono ?_; clear htl; rintro e3 w3 ⟨rfl, hb3⟩)
        exact ⟨⟨k + 1, by omega, by omega, by go_num, by rw [HSK.out]; rfl, hb.out.trans (hb3.mono hb.out.size)⟩, by simp [intOf]; omega⟩
      | true =>
        go_wp2_with (go_at_call 56; refine htl.mono ?_; clear htl; rintro e3 w3 ⟨rfl, hb3⟩)
        exact ⟨⟨k + 1, by omega, by omega, by go_num, by rw [HSK.out]; rfl, hb.out.trans (hb3.mono hb.out.size)⟩, by simp [intOf]; omega⟩
    · obtain rfl : k = l.length := by omega
      go_wp2_with (fail)
      go_ret
      exact ⟨by rw [← HP.out]; rfl, hb.out⟩
end Go.Proofs.YtdhlklidenfbeaaGreatDoor
