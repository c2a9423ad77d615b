/- The walk of the reference's Name (bootjackref06). The reference of layer 20: May. A path cut name by name, place by place: plain facts for the reference's Path (bootjackref06). The walk of the reference's Path (bootjackref06). The walks of the reference's one and Right (bootjackref08). -/
import Derived.Test.YtibndaianhlcaaaGreatDoorPart2
import Derived.Deep.QuietTactic
import Derived.BigQuiet
import Derived.Test.YtibndaianhlcaaaGreatDoorPart21
import Derived.Test.YtibndaianhlcaaaGreatDoorPart9
import Derived.Test.YtibndaianhlcaaaGreatDoorPart10
namespace Go.Proofs.YtibndaianhlcaaaGreatDoor
open Go.RowKit
set_option linter.unusedVariables false
set_option linter.unusedSimpArgs false

def lettersL : List UInt8 := [97, 98, 99, 100, 101, 102, 103, 104, 105, 106, 107, 108, 109, 110, 111, 112, 113, 114, 115, 116, 117, 118, 119, 120, 121, 122, 65, 66, 67, 68, 69, 70, 71, 72, 73, 74, 75, 76, 77, 78, 79, 80, 81, 82, 83, 84, 85, 86, 87, 88, 89, 90, 48, 49, 50, 51, 52, 53, 54, 55, 56, 57, 46, 95, 45, 43]
theorem letters_iff (c : UInt8) : lettersL.contains c = letterB c := by
  have key : ∀ n : Fin 256, lettersL.contains (UInt8.ofNat n.1) = letterB (UInt8.ofNat n.1) := by decide +kernel
  have := key ⟨c.toNat, u8_lt c⟩
  simpa using this
theorem letters_len : lettersL.length = 66 := rfl
def hasL (c : UInt8) (j : Nat) : Bool := (lettersL.take j).contains c
theorem hasL_succ (c : UInt8) (j : Nat) (h : j < 66) : hasL c (j + 1) = (hasL c j || lettersL[j]'(by rw [letters_len]; exact h) == c) := by
  unfold hasL
  rw [List.take_succ_eq_append_getElem (by rw [letters_len]; exact h)]
  simp only [List.contains_eq_any_beq, List.any_append, List.any_cons, List.any_nil, Bool.or_false]
  congr 1
  exact Bool.beq_comm
theorem hasL_all (c : UInt8) : hasL c 66 = letterB c := by rw [← letters_iff]; rfl

theorem byte_cmp (a c : UInt8) : ((a.toNat : Int) == (c.toNat : Int)) = (a == c) := by
  rw [Bool.eq_iff_iff]
  simp only [beq_iff_eq]
  rw [← UInt8.toNat_inj]
  omega
theorem lets_cmp (c : UInt8) (j : Nat) (h : j < 66) (h' : j < (ByteArray.mk #[97, 98, 99, 100, 101, 102, 103, 104, 105, 106, 107, 108, 109, 110, 111, 112, 113, 114, 115, 116, 117, 118, 119, 120, 121, 122, 65, 66, 67, 68, 69, 70, 71, 72, 73, 74, 75, 76, 77, 78, 79, 80, 81, 82, 83, 84, 85, 86, 87, 88, 89, 90, 48, 49, 50, 51, 52, 53, 54, 55, 56, 57, 46, 95, 45, 43]).size) : (((ByteArray.mk #[97, 98, 99, 100, 101, 102, 103, 104, 105, 106, 107, 108, 109, 110, 111, 112, 113, 114, 115, 116, 117, 118, 119, 120, 121, 122, 65, 66, 67, 68, 69, 70, 71, 72, 73, 74, 75, 76, 77, 78, 79, 80, 81, 82, 83, 84, 85, 86, 87, 88, 89, 90, 48, 49, 50, 51, 52, 53, 54, 55, 56, 57, 46, 95, 45, 43])[j].toNat : Int) == (c.toNat : Int)) = (false || lettersL[j]'(by rw [letters_len]; exact h) == c) := by
  rw [byte_cmp, Bool.false_or]
  rfl

set_option maxRecDepth 100000 in
set_option maxHeartbeats 1000000 in
theorem refName_any (s : ByteArray) (w : World) (hs : s.size ≤ maxLen) :
    Calls Tryz.prog 45 #[.string s] w fun e w' => e = .returned (.bool (nameB s.data.toList)) ∧ Below w.heap.size w w' := by
  have hsz : s.data.toList.length = s.size := by rw [Array.length_toList]; rfl
  have ht : s.toList = s.data.toList := Go.ByteArray.toList_eq s
  have hget : ∀ k (h : k < s.size), s.data.toList[k]? = some s[k] := fun k h => by
    rw [List.getElem?_eq_getElem (by rw [hsz]; exact h)]
    rfl
  generalize hl : s.data.toList = l at *
  clear hl
  have hN : ¬ (l ≠ [] ∧ l.length ≤ 36 ∧ l ≠ [46] ∧ l ≠ [46, 46]) → nameB l = false := fun h => by unfold nameB; rw [decide_eq_false h]; rfl
  by_cases hlong : 36 < s.size
  · have H := Lib.hid (hN (by omega))
    clear hN hsz hget
    go_enter Tryz.func45, Tryz.ntmps45
    go_wp2
    go_ret
    exact ⟨by rw [H.out]; rfl, Below.refl _ _⟩
  by_cases h0 : l = []
  · have H := Lib.hid (hN (fun h => h.1 h0))
    subst h0
    have hz : s.size = 0 := by simpa using hsz.symm
    clear hN hsz hget
    go_enter Tryz.func45, Tryz.ntmps45
    go_wp2
    go_ret
    exact ⟨by rw [H.out]; rfl, Below.refl _ _⟩
  by_cases h1 : l = [46]
  · have H := Lib.hid (hN (fun h => h.2.2.1 h1))
    subst h1
    have hle : s.size = 1 := by simpa using hsz.symm
    clear hN hsz hget
    go_enter Tryz.func45, Tryz.ntmps45
    go_wp2
    go_ret
    exact ⟨by rw [H.out]; rfl, Below.refl _ _⟩
  by_cases h2 : l = [46, 46]
  · have H := Lib.hid (hN (fun h => h.2.2.2 h2))
    subst h2
    have hle : s.size = 2 := by simpa using hsz.symm
    clear hN hsz hget
    go_enter Tryz.func45, Tryz.ntmps45
    go_wp2
    go_ret
    exact ⟨by rw [H.out]; rfl, Below.refl _ _⟩
  have hpos : 0 < s.size := by rw [← hsz]; cases l with | nil => exact absurd rfl h0 | cons => simp
  have h1' : (l == [46]) = false := by simpa using h1
  have h2' : (l == [46, 46]) = false := by simpa using h2
  have hle : s.size ≤ 36 := by omega
  have hYES := Lib.hid (fun h => nameB_of (l := l) h0 (by omega) h1 h2 h)
  have hNO := Lib.hid (fun k hk h => nameB_not (l := l) k hk h)
  have HZ := Lib.hid hsz
  have HG := Lib.hid hget
  clear hN hsz hlong hget h0 h1 h2
  go_enter Tryz.func45, Tryz.ntmps45
  go_wp2
  go_loopw [3] (fun i wr => ∃ k : Nat, k ≤ s.size ∧ i = .int .i64 (k : Int) ∧ Aside ((l.take k).all letterB = true) ∧ Aside (Below w.heap.size w wr)) (fun i _ => s.size - (intOf i).toNat)
  case atStart => exact ⟨0, by omega, rfl, rfl, Below.refl _ _⟩
  case round =>
    obtain ⟨k, hk, rfl, hv, hb⟩ := hrel
    by_cases hlt : k < s.size
    · have hlk : k < l.length := by have := HZ.out; omega
      have HT := Lib.hid (show (l.take (k + 1)).all letterB = letterB l[k] by rw [List.take_succ_eq_append_getElem hlk, List.all_append, hv.out]; simp)
      have HK := Lib.hid (fun h => hNO.out k hlk h)
      have HGK := Lib.hid (show s[k] = l[k] from by have := HG.out k hlt; rw [List.getElem?_eq_getElem hlk] at this; exact (Option.some.inj this).symm)
      obtain ⟨wo, rfl⟩ : ∃ wo : World, wo = wr := ⟨_, rfl⟩
      go_wp2
      go_loopw [4, 5] (fun d i wr => ∃ j : Nat, j ≤ 66 ∧ i = .int .i64 (j : Int) ∧ d = .bool (hasL s[k] j) ∧ Aside (Below w.heap.size w wr)) (fun _ i _ => 66 - (intOf i).toNat)
      case atStart => exact ⟨0, by omega, rfl, rfl, hb.out⟩
      case round =>
        obtain ⟨j, hj, rfl, rfl, hb2⟩ := hrel
        by_cases hj66 : j < 66
        · have HS := Lib.hid (hasL_succ s[k] j hj66)
          cases ho : hasL s[k] j with
          | true =>
            rw [ho] at HS
            clear ho
            go_wp2
            go_quiet (fail)
            go_wp2
            exact ⟨⟨j + 1, by omega, by go_num, by rw [HS.out]; rfl, ⟨hb2.out.os, hb2.out.tape, hb2.out.output, hb2.out.size, hb2.out.block⟩⟩, by simp [intOf]; omega⟩
          | false =>
            rw [ho] at HS
            clear ho
            go_wp2
            go_quiet (fail)
            go_wp2
            exact ⟨⟨j + 1, by omega, by go_num, by rw [HS.out, lets_cmp _ j hj66], ⟨hb2.out.os, hb2.out.tape, hb2.out.output, hb2.out.size, hb2.out.block⟩⟩, by simp [intOf]; omega⟩
        · obtain rfl : j = 66 := by omega
          rw [hasL_all, HGK.out]
          cases hlet : letterB l[k] with
          | true =>
            have H3 := Lib.hid (HT.out.trans hlet)
            clear hlet
            go_wp2
            exact ⟨⟨k + 1, by omega, by go_num, H3.out, hb2.out⟩, by simp [intOf]; omega⟩
          | false =>
            have H3 := Lib.hid (HK.out hlet)
            clear hlet
            go_wp2
            go_ret
            exact ⟨by rw [H3.out]; rfl, hb2.out⟩
    · have HY := Lib.hid (hYES.out (by rw [show l.length = k by have := HZ.out; omega]; exact hv.out))
      go_wp2
      go_ret
      exact ⟨by rw [HY.out]; rfl, hb.out⟩

end Go.Proofs.YtibndaianhlcaaaGreatDoor
namespace Go.Proofs.YtibndaianhlcaaaGreatDoor
open Go.RowKit Go.Sort Go.Shelf
set_option linter.unusedVariables false
set_option linter.unusedSimpArgs false

theorem print_lo {c : UInt8} (h : (c.toNat : Int) < 32) : printB c = false := by unfold printB; exact decide_eq_false (by omega)
theorem print_hi {c : UInt8} (h : (126 : Int) < (c.toNat : Int)) : printB c = false := by unfold printB; exact decide_eq_false (by omega)
theorem print_ok {c : UInt8} (h : ¬ (c.toNat : Int) < 32) (h2 : ¬ (126 : Int) < (c.toNat : Int)) : printB c = true := by unfold printB; exact decide_eq_true (by omega)
set_option maxRecDepth 100000 in
set_option maxHeartbeats 2000000 in
theorem refMay_any {w : World} {B : Nat} (u : SV) (h1 : Slc w B 1 u.A u.n u.c (u.req.map encStr)) (h2 : Slc w B 1 u.A2 u.n2 u.c2 (u.aft.map encStr)) (hB : B ≤ w.heap.size) (hn : u.n ≤ 1000000000 ∧ u.n2 ≤ 1000000000) (hs : ∀ t ∈ u.name :: (u.req ++ u.aft), t.length ≤ 1000000000) (hst : u.start.length ≤ 1000000000) :
    Calls Tryz.prog 46 #[.agg (svArr u)] w fun e w' => e = .returned (.bool (mayU u.srv)) ∧ Below w.heap.size w w' := by
  have hbv : Below w.heap.size w (w.alloc (.cells (svArr u) 59)).drew := ((Below.refl _ w).alloc (Nat.le_refl _) _).drew
  have hzv : (w.alloc (.cells (svArr u) 59)).drew.heap.size = w.heap.size + 1 := by simp
  have hGv : Blk (w.alloc (.cells (svArr u) 59)).drew w.heap.size 59 (svArr u) := (Blk.new _ _ _).drew
  obtain ⟨A1, c1, w1, A2, c2, w2, S⟩ := names20 (w := w) u (h1.below (hbv.mono hB)) (h2.below (hbv.mono hB)) (by rw [hzv]; omega) hn
  have HG2 := Lib.hid (hGv.below S.bel hGv.lt)
  have HG1 := Lib.hid (hGv.below S.bel1 hGv.lt)
  have HG0 := Lib.hid hGv
  have HB2 := Lib.hid (hbv.trans (S.bel.mono (by rw [hzv]; omega)))
  have HW := Lib.hid S.row
  have r1 := S.r1
  have r2 := S.r2
  rw [hzv] at r1
  obtain ⟨L, hL⟩ : ∃ L, L = u.name :: (u.req ++ u.aft) := ⟨_, rfl⟩
  have HM := Lib.hid (show mayU u.srv = (L.all nameB && decide (1 ≤ u.start.length ∧ u.start.length ≤ 120) && u.start.all printB) by rw [hL]; rfl)
  rw [← hL] at HW hs
  have hLn : L.length = 1 + u.n + u.n2 := by have e1 := h1.len; have e2 := h2.len; rw [List.length_map] at e1 e2; rw [hL]; simp; omega
  obtain ⟨N, hN⟩ : ∃ N, N = 1 + u.n + u.n2 := ⟨_, rfl⟩
  rw [← hN] at r2 HW hLn
  have hN62 : N ≤ 9000000000 := by omega
  have hw2 : w.heap.size < w2.heap.size := by have := S.bel.size; omega
  have HS := Lib.hid hs
  have HLN := Lib.hid hLn
  have HN := Lib.hid hN
  clear h1 h2 hB hn S hbv hzv hGv hL hs hLn hN
  have HLEN : Hid (u.start.length ≤ 1000000000) := hst
  obtain ⟨nm, st, rq, A, n, c, af, A', n', c'⟩ := u
  have x0 := HG0.out.cell 0
  have x1 := HG0.out.cell 1
  have x2 := HG0.out.cell 2
  have x3 := HG0.out.cell 3
  have y2 := HG1.out.cell 2
  have y3 := HG1.out.cell 3
  unfold svArr at r1 x0 x1 x2 x3 y2 y3 ⊢
  simp only [List.getElem?_toArray, List.getElem?_cons_zero, List.getElem?_cons_succ] at x0 x1 x2 x3 y2 y3
  simp only at r1 r2
  have r1' : (Builtin.append_ #[23, 23] 23 #[.slice (some ⟨w.heap.size + 1, 0, none⟩) 1 1, .slice A n c]).run Tryz.prog ((w.alloc (.cells #[.string ⟨nm.toArray⟩, .string ⟨st.toArray⟩, .slice A n c, .slice A' n' c'] 59)).alloc (.cells #[.string ⟨nm.toArray⟩] 9)).drew = .ok (.slice A1 (1 + n) c1) w1 := r1
  have HR1 := Lib.hid r1'
  clear r1'
  have HR2 := Lib.hid r2
  have HX := Lib.hid (And.intro x0 (And.intro x2 x3))
  have HGA := Lib.hid ((HG0.out).alloc (.cells #[.string ⟨nm.toArray⟩] 9))
  have HXA := Lib.hid (And.intro (HGA.out.cell 0) (And.intro (HGA.out.cell 2) (HGA.out.cell 3)))
  have HX1 := Lib.hid (And.intro (HG1.out.cell 0) (And.intro (HG1.out.cell 2) (HG1.out.cell 3)))
  have HX2 := Lib.hid (And.intro (HG2.out.cell 0) (And.intro (HG2.out.cell 2) (HG2.out.cell 3)))
  clear r1 r2 x0 x1 x2 x3 y2 y3
  go_enter Tryz.func46, Tryz.ntmps46
  go_wp2_with (fail)
  go_region_held3 (fun W' => W'.cell? ⟨w.heap.size, 0, none⟩ = some (.string ⟨nm.toArray⟩) ∧ W'.cell? ⟨w.heap.size, 2, none⟩ = some (.slice A n c) ∧ W'.cell? ⟨w.heap.size, 3, none⟩ = some (.slice A' n' c')) (first | exact HX.out | exact HXA.out | exact HX1.out | exact HX2.out) (first
    | (refine step_append_at (by rfl) _ _ _ (by rfl) HR1.out (by with_reducible rfl) (by rfl) (by rfl) (by rfl) ?_)
    | (refine step_append_at (by rfl) _ _ _ (by rfl) HR2.out (by with_reducible rfl) (by rfl) (by rfl) (by rfl) ?_))
  go_wp2_with (fail)
  go_loopw [4, 5] (fun i _ wr => ∃ k : Nat, k ≤ N ∧ i = .int .i64 (k : Int) ∧ Aside ((L.take k).all nameB = true) ∧ Aside (Below w2.heap.size w2 wr)) (fun i _ _ => N - (intOf i).toNat)
  case atStart => exact ⟨0, Nat.zero_le _, rfl, rfl, Below.refl _ _⟩
  case round =>
    obtain ⟨k, hk, rfl, hall, hb⟩ := hrel
    by_cases hlt : k < N
    · obtain ⟨b, off, rfl, hbB, hc⟩ := (HW.out.below hb.out).at_ (by omega)
      have hkL : k < L.length := by rw [HLN.out]; exact hlt
      have c0 : wr.cell? ⟨b, off + k, none⟩ = some (.string ⟨L[k].toArray⟩) := hc k _ (by rw [List.getElem?_map, List.getElem?_eq_getElem hkL]; rfl)
      have hsh := HS.out _ (List.getElem_mem hkL)
      have hnm := refName_any ⟨L[k].toArray⟩ wr (by show L[k].toArray.size ≤ maxLen; rw [List.size_toArray]; unfold maxLen; omega)
      have HTK := Lib.hid (show (L.take (k + 1)).all nameB = nameB L[k] by rw [List.take_succ_eq_append_getElem hkL, List.all_append, hall.out]; simp)
      have HAL := Lib.hid (show nameB L[k] = false → L.all nameB = false from fun h9 => by rw [List.all_eq_false]; exact ⟨_, List.getElem_mem hkL, by rw [h9]; decide⟩)
      generalize L[k] = t at *
      have ht : (ByteArray.mk t.toArray).data.toList = t := rfl
      rw [ht] at hnm
      clear hc hsh ht
      cases hb9 : nameB t with
      | false =>
        rw [hb9] at hnm
        have HF := Lib.hid (show mayU ⟨nm, st, rq, af⟩ = false by have h8 := HM.out; rw [HAL.out hb9] at h8; exact h8)
        clear hb9
        go_wp2_with (go_at_call 45; refine hnm.mono ?_; clear hnm; rintro e9 w9 ⟨rfl, hb9⟩; have HB9 := Lib.hid (hb.out.trans (hb9.mono hb.out.size)); clear hb9)
        go_ret
        exact ⟨by show _ = Ending.returned (.bool (mayU ⟨nm, st, rq, af⟩)); rw [HF.out]; rfl, HB2.out.trans (HB9.out.mono (by have := HB2.out.size; omega))⟩
      | true =>
        rw [hb9] at hnm
        have HT := Lib.hid (HTK.out.trans hb9)
        clear hb9
        go_wp2_with (go_at_call 45; refine hnm.mono ?_; clear hnm; rintro e9 w9 ⟨rfl, hb9⟩; have HB9 := Lib.hid (hb.out.trans (hb9.mono hb.out.size)); clear hb9)
        exact ⟨⟨k + 1, by omega, by go_num, HT.out, HB9.out⟩, by simp [intOf]; omega⟩
    · have HM2 := Lib.hid (show mayU ⟨nm, st, rq, af⟩ = (decide (1 ≤ st.length ∧ st.length ≤ 120) && st.all printB) by
        have h8 := HM.out
        have h9 := hall.out
        rw [List.take_of_length_le (by have := HLN.out; omega)] at h9
        rw [h9, Bool.true_and] at h8
        exact h8)
      have hGr := HG2.out.below hb.out hw2
      have z1 := hGr.cell 1
      unfold svArr at z1
      simp only [List.getElem?_toArray, List.getElem?_cons_zero, List.getElem?_cons_succ] at z1
      have HBR := Lib.hid (HB2.out.trans (hb.out.mono (by have := HB2.out.size; omega)))
      have hst9 := HLEN.out
      obtain ⟨wo, hwo⟩ : ∃ wo : World, wo = wr := ⟨_, rfl⟩
      have HWO := Lib.hid hwo
      clear hGr HG0 HG1 HG2 HX HX1 HX2 HXA HGA hwo
      go_wp2_with (fail)
      go_loopw [6] (fun i wr => ∃ k : Nat, k ≤ st.length ∧ i = .int .i64 (k : Int) ∧ wr = wo ∧ Aside ((st.take k).all printB = true)) (fun i _ => st.length - (intOf i).toNat)
      case atStart => exact ⟨0, Nat.zero_le _, rfl, HWO.out.symm, rfl⟩
      case round =>
        obtain ⟨k2, hk2, rfl, rfl, hall2⟩ := hrel
        have z1' := z1
        rw [← HWO.out] at z1'
        by_cases hlt2 : k2 < st.length
        · have hx2 : k2 < (ByteArray.mk st.toArray).size := hlt2
          have hce : (ByteArray.mk st.toArray)[k2] = st[k2] := rfl
          have HTK2 := Lib.hid (show (st.take (k2 + 1)).all printB = printB st[k2] by rw [List.take_succ_eq_append_getElem hlt2, List.all_append, hall2.out]; simp)
          have HAL2 := Lib.hid (show printB st[k2] = false → mayU ⟨nm, st, rq, af⟩ = false from fun h9 => by
            have h8 : st.all printB = false := by rw [List.all_eq_false]; exact ⟨_, List.getElem_mem hlt2, by rw [h9]; decide⟩
            rw [HM2.out, h8, Bool.and_false])
          rw [← hce] at HTK2 HAL2
          clear hce
          generalize hcc : (ByteArray.mk st.toArray)[k2] = ch at *
          by_cases hc1 : (ch.toNat : Int) < 32
          · have HF := Lib.hid (HAL2.out (print_lo hc1))
            go_wp2_with (fail)
            go_ret
            exact ⟨by show _ = Ending.returned (.bool (mayU ⟨nm, st, rq, af⟩)); rw [HF.out]; rfl, HWO.out ▸ HBR.out⟩
          · by_cases hc2 : (126 : Int) < (ch.toNat : Int)
            · have HF := Lib.hid (HAL2.out (print_hi hc2))
              go_wp2_with (fail)
              go_ret
              exact ⟨by show _ = Ending.returned (.bool (mayU ⟨nm, st, rq, af⟩)); rw [HF.out]; rfl, HWO.out ▸ HBR.out⟩
            · have HT := Lib.hid (HTK2.out.trans (print_ok hc1 hc2))
              go_wp2_with (fail)
              exact ⟨⟨k2 + 1, by omega, by go_num, by first | rfl | trivial, HT.out⟩, by simp [intOf]; omega⟩
        · obtain rfl : k2 = st.length := by omega
          have HM3 := Lib.hid (show mayU ⟨nm, st, rq, af⟩ = decide (1 ≤ st.length ∧ st.length ≤ 120) by
            have h9 := hall2.out
            rw [List.take_of_length_le (Nat.le_refl _)] at h9
            rw [HM2.out, h9, Bool.and_true])
          by_cases ha : (1 : Int) ≤ (st.length : Int)
          · by_cases hbb : (st.length : Int) ≤ 120
            · have HF := Lib.hid (show mayU ⟨nm, st, rq, af⟩ = true by rw [HM3.out]; exact decide_eq_true (by omega))
              go_wp2_with (fail)
              go_ret
              exact ⟨by show _ = Ending.returned (.bool (mayU ⟨nm, st, rq, af⟩)); rw [HF.out]; rfl, HWO.out ▸ HBR.out⟩
            · have HF := Lib.hid (show mayU ⟨nm, st, rq, af⟩ = false by rw [HM3.out]; exact decide_eq_false (by omega))
              go_wp2_with (fail)
              go_ret
              exact ⟨by show _ = Ending.returned (.bool (mayU ⟨nm, st, rq, af⟩)); rw [HF.out]; rfl, HWO.out ▸ HBR.out⟩
          · have HF := Lib.hid (show mayU ⟨nm, st, rq, af⟩ = false by rw [HM3.out]; exact decide_eq_false (by omega))
            go_wp2_with (fail)
            go_ret
            exact ⟨by show _ = Ending.returned (.bool (mayU ⟨nm, st, rq, af⟩)); rw [HF.out]; rfl, HWO.out ▸ HBR.out⟩
end Go.Proofs.YtibndaianhlcaaaGreatDoor
namespace Go.Proofs.YtibndaianhlcaaaGreatDoor
set_option linter.unusedVariables false
set_option linter.unusedSimpArgs false

/-- What is known ahead of place k: the names up to place f, and that no slash stands from f to k. -/
structure PathInv (r : Txt) (f k : Nat) (out : List Txt) : Prop where
  names : out.all nameB = true
  split : splitS r = out ++ splitS (r.drop f)
  le : f ≤ k
  len : k ≤ r.length
  free : (47 : UInt8) ∉ (r.drop f).take (k - f)
/-- The name that ends at place k. -/
def nameAt (r : Txt) (f k : Nat) : Txt := (r.drop f).take (k - f)
theorem PathInv.zero (r : Txt) : PathInv r 0 0 [] := ⟨rfl, rfl, Nat.le_refl _, Nat.zero_le _, by simp⟩
theorem drop_at (r : Txt) (f k : Nat) (hf : f ≤ k) (hk : k < r.length) : r.drop f = nameAt r f k ++ r[k] :: r.drop (k + 1) := by
  have h1 : (r.drop f).drop (k - f) = r[k] :: r.drop (k + 1) := by
    rw [List.drop_drop, show f + (k - f) = k by omega, List.drop_eq_getElem_cons hk]
  rw [← h1]
  exact (List.take_append_drop _ _).symm
theorem PathInv.other {r : Txt} {f k : Nat} {out : List Txt} (h : PathInv r f k out) (hk : k < r.length) (hc : r[k] ≠ 47) : PathInv r f (k + 1) out := by
  refine ⟨h.names, h.split, by have := h.le; omega, hk, ?_⟩
  have hd := drop_at r f k h.le hk
  have hn : (nameAt r f k).length = k - f := by unfold nameAt; rw [List.length_take, List.length_drop]; have := h.le; omega
  rw [hd, show k + 1 - f = (nameAt r f k).length + 1 by have := h.le; omega, List.take_length_add_append]
  intro hm
  rcases List.mem_append.1 hm with hm | hm
  · exact h.free hm
  · simp only [List.take_succ_cons, List.take_zero, List.mem_singleton] at hm
    exact hc hm.symm
theorem PathInv.cutEq {r : Txt} {f k : Nat} {out : List Txt} (h : PathInv r f k out) (hk : k < r.length) (hc : r[k] = 47) : splitS r = out ++ nameAt r f k :: splitS (r.drop (k + 1)) := by
  rw [h.split, drop_at r f k h.le hk, hc]
  exact congrArg (out ++ ·) (splitS_cut _ _ h.free)
theorem PathInv.cut {r : Txt} {f k : Nat} {out : List Txt} (h : PathInv r f k out) (hk : k < r.length) (hc : r[k] = 47) (hn : nameB (nameAt r f k) = true) : PathInv r (k + 1) (k + 1) (out ++ [nameAt r f k]) := by
  refine ⟨by rw [List.all_append, h.names]; simp [hn], ?_, Nat.le_refl _, hk, by simp⟩
  rw [h.cutEq hk hc, List.append_assoc]
  rfl
theorem PathInv.endEq {r : Txt} {f k : Nat} {out : List Txt} (h : PathInv r f k out) (hk : k = r.length) : splitS r = out ++ [nameAt r f k] := by
  subst hk
  have e : nameAt r f r.length = r.drop f := by unfold nameAt; rw [List.take_of_length_le (by rw [List.length_drop]; exact Nat.le_refl _)]
  rw [h.split, e]
  congr 1
  refine splitS_none _ ?_
  have := h.free
  rwa [show (r.drop f).take (r.length - f) = r.drop f from e] at this
theorem PathInv.bad {r : Txt} {f k : Nat} {out : List Txt} (h : PathInv r f k out) (hk : k = r.length ∨ ∃ hk : k < r.length, r[k] = 47) (hn : nameB (nameAt r f k) = false) : (splitS r).all nameB = false := by
  rcases hk with hk | ⟨hk, hc⟩
  · rw [h.endEq hk, List.all_append]; simp [hn]
  · rw [h.cutEq hk hc, List.all_append]; simp [hn]
/-- A path of one byte more, by its names. -/
theorem pathNames_slash (r : Txt) (h0 : r ≠ []) (h1 : r.length < 200) : pathNames (47 :: r) = if (splitS r).all nameB = true ∧ (splitS r).length ≤ 16 then some (splitS r) else none := by
  unfold pathNames
  simp only
  rw [if_neg (by simp; omega), if_neg h0]
theorem pathNames_one : pathNames [47] = some [] := by simp [pathNames]
theorem pathNames_refuse {l : Txt} (h : l.length = 0 ∨ 200 < l.length ∨ l[0]? ≠ some 47) : pathNames l = none := by
  unfold pathNames
  cases l with
  | nil => rfl
  | cons c r =>
    simp only
    rw [if_pos]
    rcases h with h | h | h
    · simp at h
    · exact .inr h
    · exact .inl (fun e => h (by rw [e]; rfl))
theorem splitS_mem_length' (r : Txt) : (splitS r).length ≤ r.length + 1 := by
  rw [splitS_length]
  have := List.count_le_length (a := (47 : UInt8)) (l := r)
  omega
/-- An entry by its whole path. -/
theorem entryB_by (x : Ent) : entryB x = (decide (x.path.length ≤ 120 ∧ x.data.length ≤ 2048) && (match pathNames (47 :: x.path) with
    | some l => decide (1 ≤ l.length ∧ l.length ≤ 4)
    | none => false) && (if x.kind = 3 then (pathNames x.data).isSome else decide (x.kind = 1))) := by
  unfold entryB
  by_cases hl : x.path.length ≤ 120 ∧ x.data.length ≤ 2048
  · rw [decide_eq_true hl, Bool.true_and, Bool.true_and]
    congr 1
    by_cases h0 : x.path = []
    · rw [h0, pathNames_one]
      rfl
    · rw [pathNames_slash _ h0 (by omega)]
      by_cases hn : (splitS x.path).all nameB = true
      · by_cases h16 : (splitS x.path).length ≤ 16
        · rw [if_pos ⟨hn, h16⟩, hn, Bool.and_true]
          have := splitS_ne x.path
          have : 1 ≤ (splitS x.path).length := by cases hs : splitS x.path with | nil => exact absurd hs this | cons => simp
          simp only
          rw [Bool.eq_iff_iff, decide_eq_true_iff, decide_eq_true_iff]
          omega
        · rw [if_neg (fun h => h16 h.2), decide_eq_false (by omega)]
          rfl
      · have hn' : (splitS x.path).all nameB = false := by simpa using hn
        rw [if_neg (fun h => hn h.1), hn', Bool.and_false]
  · rw [decide_eq_false hl]
    simp
end Go.Proofs.YtibndaianhlcaaaGreatDoor
namespace Go.Proofs.YtibndaianhlcaaaGreatDoor
open Go.RowKit Go.Sort
set_option linter.unusedVariables false
set_option linter.unusedSimpArgs false

def RefPathPost (w : World) (s : Txt) : Ending → World → Prop := fun e w' => ∃ A n c, e = .returned (.tuple #[.slice A n c, .bool (pathNames s).isSome]) ∧ (∀ l, pathNames s = some l → w'.ownsRow w.heap.size 9 1 (.slice A n c) n (l.map encStr)) ∧ Below w.heap.size w w'
/-- What is known ahead of place q of a text '/' and r. -/
def PathAt (r : Txt) (p q : Nat) (out : List Txt) : Prop := 1 ≤ p ∧ 1 ≤ q ∧ ((q ≤ r.length + 1 ∧ PathInv r (p - 1) (q - 1) out) ∨ (q = r.length + 2 ∧ splitS r = out ∧ out.all nameB = true))
theorem nameAt_cut (r : Txt) (p q : Nat) (hp : 1 ≤ p) (hpq : p ≤ q) : (ByteArray.mk (47 :: r : Txt).toArray).extract p q = ⟨(nameAt r (p - 1) (q - 1)).toArray⟩ := by
  apply Go.WideShapes.bytes_inj
  obtain ⟨f, rfl⟩ : ∃ f, p = f + 1 := ⟨p - 1, by omega⟩
  simp [List.extract_eq_take_drop, nameAt]
  congr 1
  omega
theorem nameAt_length (r : Txt) (f k : Nat) : (nameAt r f k).length ≤ r.length := by
  unfold nameAt
  rw [List.length_take, List.length_drop]
  omega

set_option maxRecDepth 100000 in
set_option maxHeartbeats 2000000 in
theorem refPath_any (s : Txt) (w : World) (hs : s.length ≤ maxLen) :
    Calls Tryz.prog 120 #[.string ⟨s.toArray⟩] w (RefPathPost w s) := by
  have hs' : s.length ≤ 9223372036854775807 := by unfold maxLen at hs; omega
  have tl : (ByteArray.mk s.toArray).toList = s := Go.ByteArray.toList_eq _
  by_cases h1 : s = [47]
  · subst h1
    go_enter Tryz.func120, Tryz.ntmps120
    go_wp2
    go_ret2
    exact ⟨none, 0, 0, rfl, (fun l h => by rw [pathNames_one] at h; injection h with h; subst h; exact World.ownsRow_nil _ _ _ _), Below.refl _ _⟩
  have b1 : (s == [47]) = false := by simpa using h1
  by_cases hbad : s.length = 0 ∨ 200 < s.length ∨ s[0]? ≠ some 47
  · have HN := Lib.hid (pathNames_refuse hbad)
    have hq : s.length = 0 ∨ (¬ s.length = 0 ∧ 200 < s.length) ∨ (¬ s.length = 0 ∧ ¬ 200 < s.length ∧ ∃ h : 0 < s.length, s[0] ≠ 47) := by
      rcases hbad with h | h | h
      · exact .inl h
      · exact .inr (.inl ⟨by omega, h⟩)
      · by_cases h0 : s.length = 0
        · exact .inl h0
        · by_cases h2 : 200 < s.length
          · exact .inr (.inl ⟨h0, h2⟩)
          · refine .inr (.inr ⟨h0, h2, by omega, fun e => h ?_⟩)
            rw [List.getElem?_eq_getElem (by omega), e]
    clear hbad h1
    rcases hq with h0 | ⟨h0, h2⟩ | ⟨h0, h2, hp, h3⟩
    · have k0 : ((s.length : Int) == 0) = true := by rw [beq_iff_eq]; omega
      go_enter Tryz.func120, Tryz.ntmps120
      go_wp2
      go_ret2
      exact ⟨none, 0, 0, by rw [HN.out]; rfl, (fun l h => by rw [HN.out] at h; cases h), Below.refl _ _⟩
    · have k0 : ((s.length : Int) == 0) = false := by rw [beq_eq_false_iff_ne]; omega
      go_enter Tryz.func120, Tryz.ntmps120
      go_wp2
      go_ret2
      exact ⟨none, 0, 0, by rw [HN.out]; rfl, (fun l h => by rw [HN.out] at h; cases h), Below.refl _ _⟩
    · have k0 : ((s.length : Int) == 0) = false := by rw [beq_eq_false_iff_ne]; omega
      have hx : 0 < (ByteArray.mk s.toArray).size := hp
      have hc : (((ByteArray.mk s.toArray)[0].toNat : Int) != 47) = true := by
        show ((s[0].toNat : Int) != 47) = true
        have : s[0].toNat ≠ 47 := fun h => h3 (UInt8.toNat_inj.1 (by rw [h]; rfl))
        simp; omega
      clear h3
      go_enter Tryz.func120, Tryz.ntmps120
      go_wp2
      go_ret2
      exact ⟨none, 0, 0, by rw [HN.out]; rfl, (fun l h => by rw [HN.out] at h; cases h), Below.refl _ _⟩
  obtain ⟨r, hsr⟩ : ∃ r, s = 47 :: r := by
    cases s with
    | nil => exact absurd (.inl rfl) hbad
    | cons c r =>
      refine ⟨r, ?_⟩
      by_cases hc : c = 47
      · rw [hc]
      · exact absurd (.inr (.inr (fun e => hc (by simpa using e)))) hbad
  have hlen : s.length = r.length + 1 := by rw [hsr]; rfl
  have hr0 : r ≠ [] := fun e => h1 (by rw [hsr, e])
  have hL : s.length ≤ 200 := by
    rcases Nat.lt_or_ge 200 s.length with h | h
    · exact absurd (.inr (.inl h)) hbad
    · exact h
  have HPN := Lib.hid (show pathNames s = if (splitS r).all nameB = true ∧ (splitS r).length ≤ 16 then some (splitS r) else none by rw [hsr]; exact pathNames_slash r hr0 (by omega))
  have hx : 0 < (ByteArray.mk s.toArray).size := show 0 < s.length by omega
  have hc : (((ByteArray.mk s.toArray)[0].toNat : Int) != 47) = false := by
    subst hsr
    show (((47 : UInt8).toNat : Int) != 47) = false
    rfl
  have k0 : ((s.length : Int) == 0) = false := by rw [beq_eq_false_iff_ne]; omega
  have HCUT := Lib.hid (show ∀ p q, 1 ≤ p → p ≤ q → (ByteArray.mk s.toArray).extract p q = ⟨(nameAt r (p - 1) (q - 1)).toArray⟩ by rw [hsr]; exact fun p q h1 h2 => nameAt_cut r p q h1 h2)
  have HGET := Lib.hid (show ∀ q (h : q < s.length) (h' : q - 1 < r.length), 1 ≤ q → s[q] = r[q - 1] by
    subst hsr
    intro q h h' hq
    obtain ⟨k, rfl⟩ : ∃ k, q = k + 1 := ⟨q - 1, by omega⟩
    rfl)
  have HPI := Lib.hid (PathInv.zero r)
  have HLEN := Lib.hid hlen
  clear hbad h1 hs hr0 hlen hsr
  go_enter Tryz.func120, Tryz.ntmps120
  go_wp2_with (fail)
  go_loopw [4, 5, 6] (fun o f i wr => ∃ (p q : Nat) (out : List Txt) (A : Option Addr) (n c : Nat), q ≤ s.length + 1 ∧ p ≤ q ∧ 1 ≤ p ∧ i = .int .i64 (q : Int) ∧ f = .int .i64 (p : Int) ∧ o = .slice A n c ∧ Aside (PathAt r p q out) ∧ Aside (wr.ownsRow w.heap.size 9 1 (.slice A n c) n (out.map encStr)) ∧ Aside (Below w.heap.size w wr)) (fun _ _ i _ => s.length + 1 - (intOf i).toNat)
  case atStart => exact ⟨1, 1, [], none, 0, 0, by omega, Nat.le_refl _, Nat.le_refl _, rfl, rfl, rfl, ⟨Nat.le_refl _, Nat.le_refl _, .inl ⟨by have := HLEN.out; omega, HPI.out⟩⟩, World.ownsRow_nil _ _ _ _, Below.refl _ _⟩
  case round =>
    obtain ⟨p, q, out, A, n, c, hq, hpq, hp1, rfl, rfl, rfl, hat, hown, hb⟩ := hrel
    by_cases hlt : q ≤ s.length
    · have HI := Lib.hid (show PathInv r (p - 1) (q - 1) out by
        rcases hat.out.2.2 with h | h
        · exact h.2
        · have := HLEN.out; omega)
      clear hat
      have hex := HCUT.out p q hp1 hpq
      have hnl := nameAt_length r (p - 1) (q - 1)
      have hrl := HLEN.out
      have HNL := Lib.hid (show (nameAt r (p - 1) (q - 1)).length ≤ 200 by omega)
      have hnm := refName_any ⟨(nameAt r (p - 1) (q - 1)).toArray⟩ wr (by show (nameAt r (p - 1) (q - 1)).length ≤ maxLen; unfold maxLen; omega)
      have hnd : (ByteArray.mk (nameAt r (p - 1) (q - 1)).toArray).data.toList = nameAt r (p - 1) (q - 1) := rfl
      rw [hnd] at hnm
      clear hnl hnd hrl
      -- what a name that ends here makes
      have hcont : q < s.length ∧ (∃ h : q < s.length, s[q] ≠ 47) ∨ (q = s.length ∨ ∃ h : q < s.length, s[q] = 47) := by
        by_cases h : q < s.length
        · by_cases h' : s[q] = 47
          · exact .inr (.inr ⟨h, h'⟩)
          · exact .inl ⟨h, h, h'⟩
        · exact .inr (.inl (by omega))
      rcases hcont with ⟨hqs, _, hne⟩ | hend
      · have HNX := Lib.hid (show PathAt r p (q + 1) out from ⟨hp1, by omega, .inl ⟨by have := HLEN.out; omega, by
          have h := HI.out.other (by have := HLEN.out; omega) (by rw [← HGET.out q hqs (by have := HLEN.out; omega) (by omega)]; exact hne)
          rwa [show q - 1 + 1 = q + 1 - 1 by omega] at h⟩⟩)
        have hx2 : q < (ByteArray.mk s.toArray).size := hqs
        have hc2 : (((ByteArray.mk s.toArray)[q].toNat : Int) != 47) = true := by
          show ((s[q].toNat : Int) != 47) = true
          have : s[q].toNat ≠ 47 := fun h => hne (UInt8.toNat_inj.1 (by rw [h]; rfl))
          simp; omega
        clear hne hnm hex
        go_wp2_with (fail)
        exact ⟨⟨p, q + 1, out, A, n, c, by omega, by omega, hp1, by go_num, rfl, rfl, HNX.out, hown.out, hb.out⟩, by simp [intOf]; omega⟩
      · have HBAD := Lib.hid (fun (hn : nameB (nameAt r (p - 1) (q - 1)) = false) => HI.out.bad (by
          rcases hend with h | ⟨h, h'⟩
          · exact .inl (by have := HLEN.out; omega)
          · exact .inr ⟨by have := HLEN.out; omega, by rw [← HGET.out q h (by have := HLEN.out; omega) (by omega)]; exact h'⟩) hn)
        have HGOOD := Lib.hid (fun (hn : nameB (nameAt r (p - 1) (q - 1)) = true) => show PathAt r (q + 1) (q + 1) (out ++ [nameAt r (p - 1) (q - 1)]) from ⟨by omega, by omega, by
          rcases hend with h | ⟨h, h'⟩
          · refine .inr ⟨by have := HLEN.out; omega, HI.out.endEq (by have := HLEN.out; omega), ?_⟩
            rw [List.all_append, HI.out.names]
            simp [hn]
          · refine .inl ⟨by have := HLEN.out; omega, ?_⟩
            have h3 := HI.out.cut (by have := HLEN.out; omega) (by rw [← HGET.out q h (by have := HLEN.out; omega) (by omega)]; exact h') hn
            rwa [show q - 1 + 1 = q + 1 - 1 by omega] at h3⟩)
        have hlo : out.length ≤ 300 := by
          have h1 := splitS_mem_length' r
          have h3 := HLEN.out
          have h2 : out.length ≤ (splitS r).length := by rw [HI.out.split, List.length_append]; omega
          omega
        have hnl : n = out.length := by have := hown.out.1; rw [List.length_map] at this; omega
        have PREP : ∀ w2, Below wr.heap.size wr w2 → ∃ A4 c4 w4, (Builtin.append_ #[23, 23] 23 #[.slice A n c, .slice (some ⟨w2.heap.size, 0, none⟩) 1 1]).run Tryz.prog (w2.alloc (.cells #[.string ⟨(nameAt r (p - 1) (q - 1)).toArray⟩] 9)) = .ok (.slice A4 (n + 1) c4) w4 ∧
            w4.ownsRow w.heap.size 9 1 (.slice A4 (n + 1) c4) (n + 1) ((out ++ [nameAt r (p - 1) (q - 1)]).map encStr) ∧ Below w.heap.size w w4 := by
          intro w2 hb3
          have hsz := Nat.le_trans hb.out.size hb3.size
          obtain ⟨A4, c4, w4, h1, h2, h3, h4⟩ := append_str w2 w.heap.size _ n _ (own_below hown.out hb3) (nameAt r (p - 1) (q - 1)) (by omega) hsz
          refine ⟨A4, c4, w4, h1, h2, ?_⟩
          refine ((hb.out.trans (hb3.mono hb.out.size)).alloc hsz _).grown h3 (by simp; omega) (fun q hq => ?_)
          exact (hown.out.lt q hq).1
        have PREP := Lib.hid PREP
        clear hlo hnl
        generalize nameAt r (p - 1) (q - 1) = x at *
        have hcase : (s.length ≤ q ∧ ¬ q < s.length) ∨ ∃ hx2 : q < (ByteArray.mk s.toArray).size, q < s.length ∧ (((ByteArray.mk s.toArray)[q].toNat : Int) != 47) = false := by
          rcases hend with h | ⟨h, h'⟩
          · exact .inl ⟨by omega, by omega⟩
          · refine .inr ⟨h, h, ?_⟩
            show ((s[q].toNat : Int) != 47) = false
            rw [h']
            rfl
        clear hend
        cases hnx : nameB x with
        | false =>
          have HX := Lib.hid (show pathNames s = none by rw [HPN.out, if_neg]; rintro ⟨h, _⟩; rw [HBAD.out hnx] at h; cases h)
          rw [hnx] at hnm
          clear hnx
          rcases hcase with ⟨hq1, hq2⟩ | ⟨hx2, hq2, hc2⟩
          all_goals
            go_wp2_with (go_at_call 45; refine hnm.mono ?_; clear hnm; rintro e2 w2 ⟨rfl, hb2⟩)
            go_ret2
            exact ⟨none, 0, 0, by rw [HX.out]; rfl, (fun l h => by rw [HX.out] at h; cases h), hb.out.trans (hb2.mono hb.out.size)⟩
        | true =>
          have HX := Lib.hid (HGOOD.out hnx)
          rw [hnx] at hnm
          clear hnx
          rcases hcase with ⟨hq1, hq2⟩ | ⟨hx2, hq2, hc2⟩
          all_goals
            go_wp2_with (first
              | (go_at_call 45; refine hnm.mono ?_; clear hnm; rintro e2 w2 ⟨rfl, hb2⟩; obtain ⟨A4, c4, w4, hrun, hown4, hb4⟩ := PREP.out w2 hb2)
              | (at_builtin; refine wpList_append_run rfl _ _ _ rfl rfl rfl hrun ?_; clear hrun))
            exact ⟨⟨q + 1, q + 1, out ++ [x], A4, n + 1, c4, by omega, by omega, by omega, by go_num, by go_num, rfl, HX.out, hown4, hb4⟩, by simp [intOf]; omega⟩
    · have hout : splitS r = out ∧ out.all nameB = true := by
        rcases hat.out.2.2 with h | h
        · have := HLEN.out; omega
        · exact h.2
      have hl2 : n = out.length := by have := hown.out.1; rw [List.length_map] at this; omega
      have HB := Lib.hid hb.out
      by_cases h16 : n ≤ 16
      · have HX := Lib.hid (show pathNames s = some out by rw [HPN.out, hout.1, if_pos ⟨hout.2, by omega⟩])
        have HO := Lib.hid hown.out
        have k16 : decide ((n : Int) ≤ 16) = true := decide_eq_true (by omega)
        clear hout hl2
        go_wp2_with (fail)
        go_ret2
        exact ⟨A, n, c, by rw [HX.out]; rfl, (fun l h => by rw [HX.out] at h; injection h with h; subst h; exact HO.out), HB.out⟩
      · have HX := Lib.hid (show pathNames s = none by rw [HPN.out, hout.1, if_neg]; rintro ⟨_, h⟩; omega)
        have k16 : decide ((n : Int) ≤ 16) = false := decide_eq_false (by omega)
        clear hout hl2
        go_wp2_with (fail)
        go_ret2
        exact ⟨A, n, c, by rw [HX.out]; rfl, (fun l h => by rw [HX.out] at h; cases h), HB.out⟩
end Go.Proofs.YtibndaianhlcaaaGreatDoor
namespace Go.Proofs.YtibndaianhlcaaaGreatDoor
open Go.RowKit Go.Sort
set_option linter.unusedVariables false
set_option linter.unusedSimpArgs false

theorem slash_cat (t : Txt) : ((⟨#[47]⟩ : ByteArray) ++ ⟨t.toArray⟩) = ⟨(47 :: t).toArray⟩ := by
  apply Go.WideShapes.bytes_inj
  simp
theorem oneB_long {x : Ent} (h : 120 < x.path.length ∨ 2048 < x.data.length) : entryB x = false := by
  unfold entryB
  rw [decide_eq_false (by omega)]
  rfl
theorem oneB_none {x : Ent} (h : pathNames (47 :: x.path) = none) : entryB x = false := by
  rw [entryB_by, h]
  simp
theorem oneB_few {x : Ent} {l : List Txt} (h : pathNames (47 :: x.path) = some l) (hl : l.length < 1 ∨ 4 < l.length) : entryB x = false := by
  rw [entryB_by, h]
  simp only
  rw [decide_eq_false (p := 1 ≤ l.length ∧ l.length ≤ 4) (by omega)]
  simp
theorem oneB_end {x : Ent} {l : List Txt} (h1 : x.path.length ≤ 120) (h2 : x.data.length ≤ 2048) (h : pathNames (47 :: x.path) = some l) (hl1 : 1 ≤ l.length) (hl2 : l.length ≤ 4) : entryB x = if x.kind = 3 then (pathNames x.data).isSome else decide (x.kind = 1) := by
  rw [entryB_by, h, decide_eq_true (show x.path.length ≤ 120 ∧ x.data.length ≤ 2048 from ⟨h1, h2⟩)]
  simp only
  rw [decide_eq_true (show 1 ≤ l.length ∧ l.length ≤ 4 from ⟨hl1, hl2⟩)]
  simp

set_option maxRecDepth 100000 in
set_option maxHeartbeats 2000000 in
theorem refOne_any {w : World} {B : Nat} (e : EV) (hd : Slc w B 1 e.A e.n e.c (e.data.map bv)) (hB : B ≤ w.heap.size) (hp : e.path.length ≤ 1000000000) :
    Calls Tryz.prog 91 #[.agg (evArr e)] w fun v w' => v = .returned (.bool (entryB e.ent)) ∧ Below w.heap.size w w' := by
  obtain ⟨path, kind, data, A, n, c⟩ := e
  simp only at hd hp
  have hdl : data.length = n := by have := hd.len; simpa using this
  have hnm : n ≤ 9223372036854775807 := by have h1 := hd.le; have h2 := hd.cmax; unfold maxLen at h2; omega
  unfold evArr
  simp only [EV.ent]
  obtain ⟨W1, hW1⟩ : ∃ W1, W1 = w.alloc (.cells #[.string ⟨path.toArray⟩, .int .i64 kind, .slice A n c] 35) := ⟨_, rfl⟩
  have hb1 : Below w.heap.size w W1 := by rw [hW1]; exact (Below.refl _ w).alloc (Nat.le_refl _) _
  have hG : Blk W1 w.heap.size 35 #[.string ⟨path.toArray⟩, .int .i64 kind, .slice A n c] := by rw [hW1]; exact Blk.new _ _ _
  by_cases hlong : 120 < path.length ∨ 2048 < data.length
  · have HX := Lib.hid (oneB_long (x := ⟨path, kind, data⟩) hlong)
    have hq : 120 < path.length ∨ (¬ 120 < path.length ∧ 2048 < n) := by omega
    have HB1 := Lib.hid (hW1 ▸ hb1)
    clear hlong hdl hd hG hb1 hW1
    rcases hq with h0 | ⟨h0, h1⟩
    all_goals
      go_enter Tryz.func91, Tryz.ntmps91
      go_wp2_with (fail)
      go_ret
      exact ⟨by rw [HX.out]; rfl, HB1.out⟩
  have hl1 : ¬ 120 < path.length := by omega
  have hl2 : ¬ 2048 < n := by omega
  have hcat : ¬ 9223372036854775807 < 1 + path.length := by omega
  have hpa := fun W => refPath_any (47 :: path) W (by rw [List.length_cons]; unfold maxLen; omega)
  have HD := Lib.hid hd
  have HG := Lib.hid hG
  have HB1 := Lib.hid hb1
  have HDL := Lib.hid hdl
  have hpd := fun W => refPath_any data W (by unfold maxLen; omega)
  have hpathl : path.length ≤ 120 := by omega
  have hdatal : data.length ≤ 2048 := by omega
  cases hpn : pathNames (47 :: path) with
  | none =>
    have HX := Lib.hid (oneB_none (x := ⟨path, kind, data⟩) hpn)
    have HPN := Lib.hid hpn
    rw [← slash_cat] at hpa
    clear hlong hdl hd hG hb1 hpn hpd
    go_enter Tryz.func91, Tryz.ntmps91
    go_wp2_with (go_at_call 120; rw [← hW1]; refine (hpa _).mono ?_; clear hpa; rintro e2 w2 ⟨A2, n2, c2, rfl, ho2, hb2⟩; rw [HPN.out])
    go_ret
    exact ⟨by rw [HX.out]; rfl, HB1.out.trans (hb2.mono HB1.out.size)⟩
  | some l =>
    have HPN := Lib.hid hpn
    rw [← slash_cat] at hpa
    by_cases hfew : l.length < 1 ∨ 4 < l.length
    · have HX := Lib.hid (oneB_few (x := ⟨path, kind, data⟩) hpn hfew)
      have hq : l.length < 1 ∨ (¬ l.length < 1 ∧ 4 < l.length) := by omega
      clear hlong hdl hd hG hb1 hpn hpd hfew
      rcases hq with h0 | ⟨h0, h1⟩
      all_goals
        go_enter Tryz.func91, Tryz.ntmps91
        go_wp2_with (go_at_call 120; rw [← hW1]; refine (hpa _).mono ?_; clear hpa; rintro e2 w2 ⟨A2, n2, c2, rfl, ho2, hb2⟩; rw [HPN.out]; have hn2 : n2 = l.length := (by have h := (ho2 l HPN.out).1; rw [List.length_map] at h; omega); subst hn2)
        go_ret
        exact ⟨by rw [HX.out]; rfl, HB1.out.trans (hb2.mono HB1.out.size)⟩
    · have hf1 : ¬ l.length < 1 := by omega
      have hf2 : ¬ 4 < l.length := by omega
      have HEND := Lib.hid (oneB_end (x := ⟨path, kind, data⟩) hpathl hdatal hpn (by omega) (by omega))
      clear hlong hdl hd hG hb1 hpn hfew
      by_cases h3 : kind = 3
      · have HX := Lib.hid (HEND.out.trans (if_pos h3))
        have hk3 : (kind == 3) = true := by simpa using h3
        clear h3 HEND
        go_enter Tryz.func91, Tryz.ntmps91
        go_wp2_with (first
          | (go_at_call 120; rw [← hW1]; refine (hpa _).mono ?_; clear hpa; rintro e2 w2 ⟨A2, n2, c2, rfl, ho2, hb2⟩; rw [HPN.out]; have hn2 : n2 = l.length := (by have h := (ho2 l HPN.out).1; rw [List.length_map] at h; omega); subst hn2; have g1 := (HG.out.below hb2 HG.out.lt).cell 1; have g2 := (HG.out.below hb2 HG.out.lt).cell 2; simp only [List.getElem?_toArray, List.getElem?_cons_zero, List.getElem?_cons_succ] at g1 g2; have hcv := convert_bytes (P := Tryz.prog) Tryz.underlying33 Tryz.underlying5 (HD.out.below ((HB1.out.trans (hb2.mono HB1.out.size)).mono hB)) 9 Tryz.underlying9)
          | (go_at_call 120; refine (hpd _).mono ?_; clear hpd; rintro e3 w3 ⟨A3, n3, c3, rfl, ho3, hb3⟩))
        go_ret
        have hb12 := HB1.out.trans (hb2.mono HB1.out.size)
        exact ⟨by rw [HX.out]; rfl, hb12.trans (hb3.mono hb12.size)⟩
      · have HX := Lib.hid (HEND.out.trans (if_neg h3))
        have hk3 : (kind == 3) = false := by simpa using h3
        have hkd : (kind == 1) = decide (kind = 1) := by rw [Bool.eq_iff_iff]; simp
        have HKD := Lib.hid hkd
        clear h3 HEND hpd hkd
        go_enter Tryz.func91, Tryz.ntmps91
        go_wp2_with (go_at_call 120; rw [← hW1]; refine (hpa _).mono ?_; clear hpa; rintro e2 w2 ⟨A2, n2, c2, rfl, ho2, hb2⟩; rw [HPN.out]; have hn2 : n2 = l.length := (by have h := (ho2 l HPN.out).1; rw [List.length_map] at h; omega); subst hn2; have g1 := (HG.out.below hb2 HG.out.lt).cell 1; have g2 := (HG.out.below hb2 HG.out.lt).cell 2; simp only [List.getElem?_toArray, List.getElem?_cons_zero, List.getElem?_cons_succ] at g1 g2)
        go_ret
        exact ⟨by rw [HX.out, ← HKD.out]; rfl, HB1.out.trans (hb2.mono HB1.out.size)⟩
end Go.Proofs.YtibndaianhlcaaaGreatDoor
