/- The walk of tree.ref: the store path at the front of a text. -/
import Derived.Test.YtdhlklidenfbeaaGreatDoorTreeN
import Derived.Test.YtdhlklidenfbeaaGreatDoorLay
namespace Go.Proofs.YtdhlklidenfbeaaGreatDoor
open Go.RowKit
set_option linter.unusedVariables false
set_option linter.unusedSimpArgs false

theorem ext_list (l : List UInt8) (a b : Nat) : (ByteArray.mk l.toArray).extract a b = ⟨((l.drop a).take (b - a)).toArray⟩ := by
  apply Go.WideShapes.bytes_inj
  simp [List.extract_eq_take_drop]
theorem digits_any (l : List UInt8) (w : World) (hs : l.length ≤ maxLen) :
    Calls Tryz.prog 86 #[.string ⟨l.toArray⟩] w fun e w' => e = .returned (.bool (parsed l).isSome) ∧ Below w.heap.size w w' := by
  have hp := parse_any ⟨l.toArray⟩ w hs
  have e0 : (ByteArray.mk l.toArray).data.toList = l := rfl
  rw [e0] at hp
  cases hq : parsed l with
  | none =>
    rw [hq] at hp
    go_enter Tryz.func86, Tryz.ntmps86
    go_wp2_with (go_at_call 110; refine hp.mono ?_; rintro e w' ⟨rfl, hb⟩; simp only [optRes])
    go_ret
    exact ⟨rfl, hb⟩
  | some v =>
    rw [hq] at hp
    go_enter Tryz.func86, Tryz.ntmps86
    go_wp2_with (go_at_call 110; refine hp.mono ?_; rintro e w' ⟨rfl, hb⟩; simp only [optRes])
    go_ret
    exact ⟨rfl, hb⟩

theorem pre7 (l : List UInt8) : Lib.hasPrefix l slash7 = decide (l.take 7 = slash7) := by
  unfold Lib.hasPrefix slash7
  rw [Bool.eq_iff_iff]
  simp only [List.isPrefixOf_iff_prefix, decide_eq_true_eq]
  rw [List.prefix_iff_eq_take]
  exact ⟨fun h => h.symm, fun h => h.symm⟩
theorem headB_false_pre {l : List UInt8} (h : l.take 7 ≠ slash7) : refP l = [] := by unfold refP; rw [if_neg]; rintro ⟨h1, _⟩; exact h ((headB_iff l).1 h1).1
theorem headB_false_dig {l : List UInt8} (h : (parsed ((l.drop 7).take 16)).isSome = false) : refP l = [] := by unfold refP; rw [if_neg]; rintro ⟨h1, _⟩; rw [((headB_iff l).1 h1).2.2.1] at h; cases h
theorem headB_false_dash {l : List UInt8} (h : l[23]? ≠ some 45) : refP l = [] := by unfold refP; rw [if_neg]; rintro ⟨h1, _⟩; exact h ((headB_iff l).1 h1).2.2.2

/-- n letters stand behind a store path's head. -/
def lettersTo (l : List UInt8) (n : Nat) : Prop := n ≤ 19 ∧ 24 + n ≤ l.length ∧ ((l.drop 24).take n).all letterB = true
theorem lettersTo_end {l : List UInt8} {n : Nat} (hh : headB l = true) (h : lettersTo l n) (he : n = 19 ∨ 24 + n = l.length ∨ ∃ hk : 24 + n < l.length, letterB l[24 + n] = false) : refP l = if n = 0 then [] else l.take (24 + n) := by
  have hn : tailN l = n := by
    unfold tailN
    have h1 := all_takeWhile letterB (l.drop 24) n (by rw [List.length_drop]; have := h.2.1; omega) h.2.2
    rcases he with he | he | ⟨hk, he⟩
    · have := h.1; omega
    · have h2 := (List.takeWhile_sublist letterB (l := l.drop 24)).length_le
      rw [List.length_drop] at h2
      have := h.1
      omega
    · have h3 : ¬ n + 1 ≤ ((l.drop 24).takeWhile letterB).length := by
        intro h3
        have h4 := takeWhile_all letterB (l.drop 24) (n + 1) h3
        rw [List.take_succ_eq_append_getElem (by rw [List.length_drop]; omega), List.all_append, Bool.and_eq_true] at h4
        have h5 := h4.2
        simp only [List.all_cons, List.all_nil, Bool.and_true, List.getElem_drop] at h5
        rw [he] at h5
        cases h5
      have := h.1
      omega
  unfold refP
  rw [hn]
  by_cases h0 : n = 0
  · subst h0
    rw [if_neg (by omega), if_pos rfl]
  · rw [if_pos ⟨hh, by omega⟩, if_neg h0]
theorem lettersTo_succ {l : List UInt8} {n : Nat} (h : lettersTo l n) (h1 : n < 19) (h2 : 24 + n < l.length) (h3 : letterB l[24 + n] = true) : lettersTo l (n + 1) := by
  refine ⟨by omega, by omega, ?_⟩
  rw [List.take_succ_eq_append_getElem (by rw [List.length_drop]; omega), List.all_append, h.2.2]
  simp [List.getElem_drop, h3]

set_option maxRecDepth 100000 in
set_option maxHeartbeats 1000000 in
theorem ref_any (l : List UInt8) (w : World) (hs : l.length ≤ maxLen) :
    Calls Tryz.prog 61 #[.string ⟨l.toArray⟩] w fun e w' => e = .returned (.string ⟨(refP l).toArray⟩) ∧ Below w.heap.size w w' := by
  have hcp := Tryz.strings_CutPrefix ⟨l.toArray⟩ ⟨#[47, 115, 116, 111, 114, 101, 47]⟩ w
  change Calls _ _ _ _ (fun e w' => e = .returned (.tuple #[.string ⟨(if Lib.hasPrefix l slash7 = true then l.drop 7 else l).toArray⟩, .bool (Lib.hasPrefix l slash7)]) ∧ w' = w) at hcp
  rw [pre7 l] at hcp
  by_cases hpre : l.take 7 = slash7
  case neg =>
    have H := Lib.hid (headB_false_pre hpre)
    rw [decide_eq_false hpre, if_neg (by decide)] at hcp
    clear hpre
    go_enter Tryz.func61, Tryz.ntmps61
    go_wp2_with (go_at_call 85; refine hcp.mono ?_; rintro e w' ⟨rfl, hw⟩; obtain rfl := hw.symm)
    go_ret
    exact ⟨by rw [H.out]; rfl, Below.refl _ _⟩
  rw [decide_eq_true hpre, if_pos rfl] at hcp
  have h7 : 7 ≤ l.length := by have := congrArg List.length hpre; simp [slash7] at this; omega
  obtain ⟨r, hr⟩ : ∃ r, r = l.drop 7 := ⟨_, rfl⟩
  have hrl : r.length = l.length - 7 := by rw [hr, List.length_drop]
  rw [← hr] at hcp
  have HR := Lib.hid hr
  have hsz : (ByteArray.mk r.toArray).size = r.length := by simp [ByteArray.size]
  have hd16 : (l.drop 7).take 16 = r.take 16 := by rw [hr]
  have h23' : ∀ c, r[16]? = some c → l[23]? = some c := fun c hc => by rw [← hc, hr, List.getElem?_drop]
  clear hr
  by_cases hshort : r.length < 18
  · have H := Lib.hid (refP_short l (by omega))
    clear hpre
    go_enter Tryz.func61, Tryz.ntmps61
    go_wp2_with (go_at_call 85; refine hcp.mono ?_; rintro e w' ⟨rfl, hw⟩; obtain rfl := hw.symm)
    go_ret
    exact ⟨by rw [H.out]; rfl, Below.refl _ _⟩
  have h18 : 18 ≤ r.length := by omega
  have hdg := digits_any (r.take 16) w (by rw [List.length_take]; omega)
  have hex := ext_list r 0 16
  rw [List.drop_zero, show 16 - 0 = 16 from rfl] at hex
  cases hdig : (parsed (r.take 16)).isSome with
  | false =>
    have H := Lib.hid (headB_false_dig (l := l) (by rw [hd16]; exact hdig))
    rw [hdig] at hdg
    clear hpre hdig hd16
    go_enter Tryz.func61, Tryz.ntmps61
    go_wp2_with (first
      | (go_at_call 85; refine hcp.mono ?_; rintro e w' ⟨rfl, hw⟩; obtain rfl := hw.symm)
      | (go_at_call 86; refine hdg.mono ?_; rintro e w' ⟨rfl, hb1⟩))
    go_ret
    exact ⟨by rw [H.out]; rfl, hb1⟩
  | true =>
  rw [hdig] at hdg
  have h16 : ∃ c : UInt8, r[16]? = some c := ⟨r[16], List.getElem?_eq_getElem (by omega)⟩
  obtain ⟨c, hc⟩ := h16
  have h23 := h23' c hc
  clear h23'
  have hgi : ∀ h : 16 < (ByteArray.mk r.toArray).size, (ByteArray.mk r.toArray)[16]'h = c := fun h => by
    have h1 : r[16]'(by omega) = c := (List.getElem?_eq_some_iff.1 hc).2
    exact h1
  by_cases hdash : c = 45
  case neg =>
    have H := Lib.hid (headB_false_dash (l := l) (by rw [h23]; intro e; injection e with e; exact hdash e))
    have hne : ((c.toNat : Int) != 45) = true := by
      simp only [bne_iff_ne, ne_eq]
      intro e
      exact hdash (UInt8.toNat_inj.1 (by have h45 : UInt8.toNat 45 = 45 := rfl; omega))
    clear hpre hdig hd16 hc h23
    go_enter Tryz.func61, Tryz.ntmps61
    go_wp2_with (first
      | (go_at_call 85; refine hcp.mono ?_; rintro e w' ⟨rfl, hw⟩; obtain rfl := hw.symm)
      | (go_at_call 86; refine hdg.mono ?_; rintro e w' ⟨rfl, hb1⟩))
    all_goals first
      | (go_ret
         exact ⟨by rw [H.out]; rfl, hb1⟩)
      | (rename_i hx
         simp [hne] at hx <;> (exfalso; omega))
  have hh : headB l = true := (headB_iff l).2 ⟨hpre, by omega, by rw [hd16]; exact hdig, by rw [h23, hdash]⟩
  have hne : ((c.toNat : Int) != 45) = false := by subst hdash; decide
  have HE := Lib.hid (fun n h he => lettersTo_end (l := l) (n := n) hh h he)
  have HS := Lib.hid (fun n h h1 h2 h3 => lettersTo_succ (l := l) (n := n) h h1 h2 h3)
  have hrn : ∀ n (hn : 17 + n < r.length) (hn' : 24 + n < l.length), r[17 + n] = l[24 + n] := by
    intro n hn hn'
    have hr2 := HR.out
    subst hr2
    rw [List.getElem_drop]
    congr 1
    omega
  have HRN := Lib.hid hrn
  have hcut : ∀ n, 7 ≤ l.length → (ByteArray.mk l.toArray).extract 0 (l.length - (l.length - 7) + 17 + n) = ⟨(l.take (24 + n)).toArray⟩ := fun n h7 => by
    rw [ext_list, List.drop_zero, show l.length - (l.length - 7) + 17 + n - 0 = 24 + n by omega]
  have hcut := Lib.hid hcut
  have H0 := Lib.hid (show lettersTo l 0 from ⟨by omega, by omega, rfl⟩)
  clear hpre hdig hd16 hc h23 hh hrn hdash
  go_enter Tryz.func61, Tryz.ntmps61
  go_wp2_with (first
    | (go_at_call 85; refine hcp.mono ?_; rintro e w' ⟨rfl, hw⟩; obtain rfl := hw.symm)
    | (go_at_call 86; refine hdg.mono ?_; rintro e w' ⟨rfl, hb1⟩))
  go_loopw [5] (fun t wr => ∃ n : Nat, lettersTo l n ∧ t = .int .i64 (n : Int) ∧ Below w.heap.size w wr) (fun t _ => 19 - (intOf t).toNat)
  case atStart => exact ⟨0, H0.out, rfl, hb1⟩
  case round =>
    obtain ⟨n, hn, rfl, hb⟩ := hrel
    have hn1 := hn.1
    have hn2 := hn.2.1
    have HN := Lib.hid hn
    clear hn
    by_cases h19 : n < 19
    · by_cases hlen : 24 + n < l.length
      · have hc := HRN.out n (by omega) hlen
        have hlr : 17 + n < r.length := by omega
        have hx : (ByteArray.mk r.toArray).extract (17 + n) (18 + n) = ⟨[l[24 + n]].toArray⟩ := by
          rw [ext_list, show 18 + n - (17 + n) = 1 by omega, List.drop_eq_getElem_cons hlr, List.take_succ_cons, List.take_zero, hc]
        have hnm := name_any (⟨#[120]⟩ ++ ⟨[l[24 + n]].toArray⟩) wr (by rw [ByteArray.size_append]; exact (by decide : 1 + 1 ≤ maxLen))
        rw [show ((ByteArray.mk #[120]) ++ (ByteArray.mk [l[24 + n]].toArray)).data.toList = [120, l[24 + n]] by simp, nameB_x] at hnm
        cases hlet : letterB l[24 + n] with
        | true =>
          rw [hlet] at hnm
          have H3 := Lib.hid (HS.out n HN.out h19 hlen hlet)
          clear hlet hc
          generalize l[24 + n] = c at *
          go_wp2_with (go_at_call 71; refine hnm.mono ?_; rintro e w2 ⟨rfl, hb2⟩)
          exact ⟨⟨n + 1, H3.out, by go_num, hb.trans (hb2.mono hb.size)⟩, by simp [intOf]; omega⟩
        | false =>
          rw [hlet] at hnm
          have H3 := Lib.hid (HE.out n HN.out (.inr (.inr ⟨hlen, hlet⟩)))
          clear hlet hc
          generalize l[24 + n] = c at *
          by_cases h0 : n = 0
          · subst h0
            go_wp2_with (go_at_call 71; refine hnm.mono ?_; rintro e w2 ⟨rfl, hb2⟩)
            go_ret
            exact ⟨by rw [H3.out]; rfl, hb.trans (hb2.mono hb.size)⟩
          · go_wp2_with (go_at_call 71; refine hnm.mono ?_; rintro e w2 ⟨rfl, hb2⟩)
            go_ret
            exact ⟨by rw [H3.out, if_neg h0]; exact congrArg (fun x => Ending.returned (.string x)) (hcut.out n h7), hb.trans (hb2.mono hb.size)⟩
      · have H3 := Lib.hid (HE.out n HN.out (.inr (.inl (by omega))))
        by_cases h0 : n = 0
        · exfalso; omega
        · go_wp2_with (fail)
          go_ret
          exact ⟨by rw [H3.out, if_neg h0]; first | rfl | exact congrArg (fun x => Ending.returned (.string x)) (hcut.out n h7), hb⟩
    · have H3 := Lib.hid (HE.out n HN.out (.inl (by omega)))
      by_cases h0 : n = 0
      · exfalso; omega
      · go_wp2_with (fail)
        go_ret
        exact ⟨by rw [H3.out, if_neg h0]; first | rfl | exact congrArg (fun x => Ending.returned (.string x)) (hcut.out n h7), hb⟩
end Go.Proofs.YtdhlklidenfbeaaGreatDoor
