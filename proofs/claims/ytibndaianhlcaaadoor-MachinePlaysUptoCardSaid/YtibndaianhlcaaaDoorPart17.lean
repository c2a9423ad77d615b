/- The walk of the reference's Name (bootjackref06). The reference of layer 20: May. The reference's machine in memory; at, try. The reference of layer 20: try, stop. -/
import Derived.Test.YtibndaianhlcaaaDoorPart2
import Derived.Deep.QuietTactic
import Derived.BigQuiet
import Derived.Test.YtibndaianhlcaaaDoorPart15
import Derived.Test.YtibndaianhlcaaaDoorPart8
import Derived.Test.YtibndaianhlcaaaDoorPart16
namespace Go.Proofs.YtibndaianhlcaaaDoor
open Go.RowKit
set_option linter.unusedVariables false
set_option linter.unusedSimpArgs false

def lettersL : List UInt8 := [97, 98, 99, 100, 101, 102, 103, 104, 105, 106, 107, 108, 109, 110, 111, 112, 113, 114, 115, 116, 117, 118, 119, 120, 121, 122, 65, 66, 67, 68, 69, 70, 71, 72, 73, 74, 75, 76, 77, 78, 79, 80, 81, 82, 83, 84, 85, 86, 87, 88, 89, 90, 48, 49, 50, 51, 52, 53, 54, 55, 56, 57, 46, 95, 45, 43]
theorem letters_iff (c : UInt8) : lettersL.contains c = letterB c := by
  have key : ∀ n : Fin 256, lettersL.contains (UInt8.ofNat n.1) = letterB (UInt8.ofNat n.1) := by decide +kernel
  have := key ⟨c.toNat, u8_lt c⟩
  simpa using this
theorem letters_len : lettersL.length = 66 := rfl
def hasL (c : UInt8) (j : Nat) : Bool := (lettersL.take j).contains c
theorem hasL_succ (c : UInt8) (j : Nat) (h : j < 66) : hasL c (j + 1) = (hasL c j || lettersL[j]'(by rw [letters_len]; exact h) == c) := by
  unfold hasL
  rw [List.take_succ_eq_append_getElem (by rw [letters_len]; exact h)]
  simp only [List.contains_eq_any_beq, List.any_append, List.any_cons, List.any_nil, Bool.or_false]
  congr 1
  exact Bool.beq_comm
theorem hasL_all (c : UInt8) : hasL c 66 = letterB c := by rw [← letters_iff]; rfl

theorem byte_cmp (a c : UInt8) : ((a.toNat : Int) == (c.toNat : Int)) = (a == c) := by
  rw [Bool.eq_iff_iff]
  simp only [beq_iff_eq]
  rw [← UInt8.toNat_inj]
  omega
theorem lets_cmp (c : UInt8) (j : Nat) (h : j < 66) (h' : j < (ByteArray.mk #[97, 98, 99, 100, 101, 102, 103, 104, 105, 106, 107, 108, 109, 110, 111, 112, 113, 114, 115, 116, 117, 118, 119, 120, 121, 122, 65, 66, 67, 68, 69, 70, 71, 72, 73, 74, 75, 76, 77, 78, 79, 80, 81, 82, 83, 84, 85, 86, 87, 88, 89, 90, 48, 49, 50, 51, 52, 53, 54, 55, 56, 57, 46, 95, 45, 43]).size) : (((ByteArray.mk #[97, 98, 99, 100, 101, 102, 103, 104, 105, 106, 107, 108, 109, 110, 111, 112, 113, 114, 115, 116, 117, 118, 119, 120, 121, 122, 65, 66, 67, 68, 69, 70, 71, 72, 73, 74, 75, 76, 77, 78, 79, 80, 81, 82, 83, 84, 85, 86, 87, 88, 89, 90, 48, 49, 50, 51, 52, 53, 54, 55, 56, 57, 46, 95, 45, 43])[j].toNat : Int) == (c.toNat : Int)) = (false || lettersL[j]'(by rw [letters_len]; exact h) == c) := by
  rw [byte_cmp, Bool.false_or]
  rfl

set_option maxRecDepth 100000 in
set_option maxHeartbeats 1000000 in
theorem refName_any (s : ByteArray) (w : World) (hs : s.size ≤ maxLen) :
    Calls Tryd.prog 30 #[.string s] w fun e w' => e = .returned (.bool (nameB s.data.toList)) ∧ Below w.heap.size w w' := by
  have hsz : s.data.toList.length = s.size := by rw [Array.length_toList]; rfl
  have ht : s.toList = s.data.toList := Go.ByteArray.toList_eq s
  have hget : ∀ k (h : k < s.size), s.data.toList[k]? = some s[k] := fun k h => by
    rw [List.getElem?_eq_getElem (by rw [hsz]; exact h)]
    rfl
  generalize hl : s.data.toList = l at *
  clear hl
  have hN : ¬ (l ≠ [] ∧ l.length ≤ 36 ∧ l ≠ [46] ∧ l ≠ [46, 46]) → nameB l = false := fun h => by unfold nameB; rw [decide_eq_false h]; rfl
  by_cases hlong : 36 < s.size
  · have H := Lib.hid (hN (by omega))
    clear hN hsz hget
    go_enter Tryd.func30, Tryd.ntmps30
    go_wp2
    go_ret
    exact ⟨by rw [H.out]; rfl, Below.refl _ _⟩
  by_cases h0 : l = []
  · have H := Lib.hid (hN (fun h => h.1 h0))
    subst h0
    have hz : s.size = 0 := by simpa using hsz.symm
    clear hN hsz hget
    go_enter Tryd.func30, Tryd.ntmps30
    go_wp2
    go_ret
    exact ⟨by rw [H.out]; rfl, Below.refl _ _⟩
  by_cases h1 : l = [46]
  · have H := Lib.hid (hN (fun h => h.2.2.1 h1))
    subst h1
    have hle : s.size = 1 := by simpa using hsz.symm
    clear hN hsz hget
    go_enter Tryd.func30, Tryd.ntmps30
    go_wp2
    go_ret
    exact ⟨by rw [H.out]; rfl, Below.refl _ _⟩
  by_cases h2 : l = [46, 46]
  · have H := Lib.hid (hN (fun h => h.2.2.2 h2))
    subst h2
    have hle : s.size = 2 := by simpa using hsz.symm
    clear hN hsz hget
    go_enter Tryd.func30, Tryd.ntmps30
    go_wp2
    go_ret
    exact ⟨by rw [H.out]; rfl, Below.refl _ _⟩
  have hpos : 0 < s.size := by rw [← hsz]; cases l with | nil => exact absurd rfl h0 | cons => simp
  have h1' : (l == [46]) = false := by simpa using h1
  have h2' : (l == [46, 46]) = false := by simpa using h2
  have hle : s.size ≤ 36 := by omega
  have hYES := Lib.hid (fun h => nameB_of (l := l) h0 (by omega) h1 h2 h)
  have hNO := Lib.hid (fun k hk h => nameB_not (l := l) k hk h)
  have HZ := Lib.hid hsz
  have HG := Lib.hid hget
  clear hN hsz hlong hget h0 h1 h2
  go_enter Tryd.func30, Tryd.ntmps30
  go_wp2
  go_loopw [3] (fun i wr => ∃ k : Nat, k ≤ s.size ∧ i = .int .i64 (k : Int) ∧ Aside ((l.take k).all letterB = true) ∧ Aside (Below w.heap.size w wr)) (fun i _ => s.size - (intOf i).toNat)
  case atStart => exact ⟨0, by omega, rfl, rfl, Below.refl _ _⟩
  case round =>
    obtain ⟨k, hk, rfl, hv, hb⟩ := hrel
    by_cases hlt : k < s.size
    · have hlk : k < l.length := by have := HZ.out; omega
      have HT := Lib.hid (show (l.take (k + 1)).all letterB = letterB l[k] by rw [List.take_succ_eq_append_getElem hlk, List.all_append, hv.out]; simp)
      have HK := Lib.hid (fun h => hNO.out k hlk h)
      have HGK := Lib.hid (show s[k] = l[k] from by have := HG.out k hlt; rw [List.getElem?_eq_getElem hlk] at this; exact (Option.some.inj this).symm)
      obtain ⟨wo, rfl⟩ : ∃ wo : World, wo = wr := ⟨_, rfl⟩
      go_wp2
      go_loopw [4, 5] (fun d i wr => ∃ j : Nat, j ≤ 66 ∧ i = .int .i64 (j : Int) ∧ d = .bool (hasL s[k] j) ∧ Aside (Below w.heap.size w wr)) (fun _ i _ => 66 - (intOf i).toNat)
      case atStart => exact ⟨0, by omega, rfl, rfl, hb.out⟩
      case round =>
        obtain ⟨j, hj, rfl, rfl, hb2⟩ := hrel
        by_cases hj66 : j < 66
        · have HS := Lib.hid (hasL_succ s[k] j hj66)
          cases ho : hasL s[k] j with
          | true =>
            rw [ho] at HS
            clear ho
            go_wp2
            go_quiet (fail)
            go_wp2
            exact ⟨⟨j + 1, by omega, by go_num, by rw [HS.out]; rfl, ⟨hb2.out.os, hb2.out.tape, hb2.out.output, hb2.out.size, hb2.out.block⟩⟩, by simp [intOf]; omega⟩
          | false =>
            rw [ho] at HS
            clear ho
            go_wp2
            go_quiet (fail)
            go_wp2
            exact ⟨⟨j + 1, by omega, by go_num, by rw [HS.out, lets_cmp _ j hj66], ⟨hb2.out.os, hb2.out.tape, hb2.out.output, hb2.out.size, hb2.out.block⟩⟩, by simp [intOf]; omega⟩
        · obtain rfl : j = 66 := by omega
          rw [hasL_all, HGK.out]
          cases hlet : letterB l[k] with
          | true =>
            have H3 := Lib.hid (HT.out.trans hlet)
            clear hlet
            go_wp2
            exact ⟨⟨k + 1, by omega, by go_num, H3.out, hb2.out⟩, by simp [intOf]; omega⟩
          | false =>
            have H3 := Lib.hid (HK.out hlet)
            clear hlet
            go_wp2
            go_ret
            exact ⟨by rw [H3.out]; rfl, hb2.out⟩
    · have HY := Lib.hid (hYES.out (by rw [show l.length = k by have := HZ.out; omega]; exact hv.out))
      go_wp2
      go_ret
      exact ⟨by rw [HY.out]; rfl, hb.out⟩

end Go.Proofs.YtibndaianhlcaaaDoor
namespace Go.Proofs.YtibndaianhlcaaaDoor
open Go.RowKit Go.Sort Go.Shelf
set_option linter.unusedVariables false
set_option linter.unusedSimpArgs false

theorem print_lo {c : UInt8} (h : (c.toNat : Int) < 32) : printB c = false := by unfold printB; exact decide_eq_false (by omega)
theorem print_hi {c : UInt8} (h : (126 : Int) < (c.toNat : Int)) : printB c = false := by unfold printB; exact decide_eq_false (by omega)
theorem print_ok {c : UInt8} (h : ¬ (c.toNat : Int) < 32) (h2 : ¬ (126 : Int) < (c.toNat : Int)) : printB c = true := by unfold printB; exact decide_eq_true (by omega)
set_option maxRecDepth 100000 in
set_option maxHeartbeats 2000000 in
theorem refMay_any {w : World} {B : Nat} (u : SV) (h1 : Slc w B 1 u.A u.n u.c (u.req.map encStr)) (h2 : Slc w B 1 u.A2 u.n2 u.c2 (u.aft.map encStr)) (hB : B ≤ w.heap.size) (hn : u.n ≤ 1000000000 ∧ u.n2 ≤ 1000000000) (hs : ∀ t ∈ u.name :: (u.req ++ u.aft), t.length ≤ 1000000000) (hst : u.start.length ≤ 1000000000) :
    Calls Tryd.prog 13 #[.agg (svArr u)] w fun e w' => e = .returned (.bool (mayU u.srv)) ∧ Below w.heap.size w w' := by
  have hbv : Below w.heap.size w (w.alloc (.cells (svArr u) 46)).drew := ((Below.refl _ w).alloc (Nat.le_refl _) _).drew
  have hzv : (w.alloc (.cells (svArr u) 46)).drew.heap.size = w.heap.size + 1 := by simp
  have hGv : Blk (w.alloc (.cells (svArr u) 46)).drew w.heap.size 46 (svArr u) := (Blk.new _ _ _).drew
  obtain ⟨A1, c1, w1, A2, c2, w2, S⟩ := names20 (w := w) u (h1.below (hbv.mono hB)) (h2.below (hbv.mono hB)) (by rw [hzv]; omega) hn
  have HG2 := Lib.hid (hGv.below S.bel hGv.lt)
  have HG1 := Lib.hid (hGv.below S.bel1 hGv.lt)
  have HG0 := Lib.hid hGv
  have HB2 := Lib.hid (hbv.trans (S.bel.mono (by rw [hzv]; omega)))
  have HW := Lib.hid S.row
  have r1 := S.r1
  have r2 := S.r2
  rw [hzv] at r1
  obtain ⟨L, hL⟩ : ∃ L, L = u.name :: (u.req ++ u.aft) := ⟨_, rfl⟩
  have HM := Lib.hid (show mayU u.srv = (L.all nameB && decide (1 ≤ u.start.length ∧ u.start.length ≤ 120) && u.start.all printB) by rw [hL]; rfl)
  rw [← hL] at HW hs
  have hLn : L.length = 1 + u.n + u.n2 := by have e1 := h1.len; have e2 := h2.len; rw [List.length_map] at e1 e2; rw [hL]; simp; omega
  obtain ⟨N, hN⟩ : ∃ N, N = 1 + u.n + u.n2 := ⟨_, rfl⟩
  rw [← hN] at r2 HW hLn
  have hN62 : N ≤ 9000000000 := by omega
  have hw2 : w.heap.size < w2.heap.size := by have := S.bel.size; omega
  have HS := Lib.hid hs
  have HLN := Lib.hid hLn
  have HN := Lib.hid hN
  clear h1 h2 hB hn S hbv hzv hGv hL hs hLn hN
  have HLEN : Hid (u.start.length ≤ 1000000000) := hst
  obtain ⟨nm, st, rq, A, n, c, af, A', n', c'⟩ := u
  have x0 := HG0.out.cell 0
  have x1 := HG0.out.cell 1
  have x2 := HG0.out.cell 2
  have x3 := HG0.out.cell 3
  have y2 := HG1.out.cell 2
  have y3 := HG1.out.cell 3
  unfold svArr at r1 x0 x1 x2 x3 y2 y3 ⊢
  simp only [List.getElem?_toArray, List.getElem?_cons_zero, List.getElem?_cons_succ] at x0 x1 x2 x3 y2 y3
  simp only at r1 r2
  have r1' : (Builtin.append_ #[29, 29] 29 #[.slice (some ⟨w.heap.size + 1, 0, none⟩) 1 1, .slice A n c]).run Tryd.prog ((w.alloc (.cells #[.string ⟨nm.toArray⟩, .string ⟨st.toArray⟩, .slice A n c, .slice A' n' c'] 46)).alloc (.cells #[.string ⟨nm.toArray⟩] 9)).drew = .ok (.slice A1 (1 + n) c1) w1 := r1
  have HR1 := Lib.hid r1'
  clear r1'
  have HR2 := Lib.hid r2
  have HX := Lib.hid (And.intro x0 (And.intro x2 x3))
  have HGA := Lib.hid ((HG0.out).alloc (.cells #[.string ⟨nm.toArray⟩] 9))
  have HXA := Lib.hid (And.intro (HGA.out.cell 0) (And.intro (HGA.out.cell 2) (HGA.out.cell 3)))
  have HX1 := Lib.hid (And.intro (HG1.out.cell 0) (And.intro (HG1.out.cell 2) (HG1.out.cell 3)))
  have HX2 := Lib.hid (And.intro (HG2.out.cell 0) (And.intro (HG2.out.cell 2) (HG2.out.cell 3)))
  clear r1 r2 x0 x1 x2 x3 y2 y3
  go_enter Tryd.func13, Tryd.ntmps13
  go_wp2_with (fail)
  go_region_held3 (fun W' => W'.cell? ⟨w.heap.size, 0, none⟩ = some (.string ⟨nm.toArray⟩) ∧ W'.cell? ⟨w.heap.size, 2, none⟩ = some (.slice A n c) ∧ W'.cell? ⟨w.heap.size, 3, none⟩ = some (.slice A' n' c')) (first | exact HX.out | exact HXA.out | exact HX1.out | exact HX2.out) (first
    | (refine step_append_at (by rfl) _ _ _ (by rfl) HR1.out (by with_reducible rfl) (by rfl) (by rfl) (by rfl) ?_)
    | (refine step_append_at (by rfl) _ _ _ (by rfl) HR2.out (by with_reducible rfl) (by rfl) (by rfl) (by rfl) ?_))
  go_wp2_with (fail)
  go_loopw [4, 5] (fun i _ wr => ∃ k : Nat, k ≤ N ∧ i = .int .i64 (k : Int) ∧ Aside ((L.take k).all nameB = true) ∧ Aside (Below w2.heap.size w2 wr)) (fun i _ _ => N - (intOf i).toNat)
  case atStart => exact ⟨0, Nat.zero_le _, rfl, rfl, Below.refl _ _⟩
  case round =>
    obtain ⟨k, hk, rfl, hall, hb⟩ := hrel
    by_cases hlt : k < N
    · obtain ⟨b, off, rfl, hbB, hc⟩ := (HW.out.below hb.out).at_ (by omega)
      have hkL : k < L.length := by rw [HLN.out]; exact hlt
      have c0 : wr.cell? ⟨b, off + k, none⟩ = some (.string ⟨L[k].toArray⟩) := hc k _ (by rw [List.getElem?_map, List.getElem?_eq_getElem hkL]; rfl)
      have hsh := HS.out _ (List.getElem_mem hkL)
      have hnm := refName_any ⟨L[k].toArray⟩ wr (by show L[k].toArray.size ≤ maxLen; rw [List.size_toArray]; unfold maxLen; omega)
      have HTK := Lib.hid (show (L.take (k + 1)).all nameB = nameB L[k] by rw [List.take_succ_eq_append_getElem hkL, List.all_append, hall.out]; simp)
      have HAL := Lib.hid (show nameB L[k] = false → L.all nameB = false from fun h9 => by rw [List.all_eq_false]; exact ⟨_, List.getElem_mem hkL, by rw [h9]; decide⟩)
      generalize L[k] = t at *
      have ht : (ByteArray.mk t.toArray).data.toList = t := rfl
      rw [ht] at hnm
      clear hc hsh ht
      cases hb9 : nameB t with
      | false =>
        rw [hb9] at hnm
        have HF := Lib.hid (show mayU ⟨nm, st, rq, af⟩ = false by have h8 := HM.out; rw [HAL.out hb9] at h8; exact h8)
        clear hb9
        go_wp2_with (go_at_call 30; refine hnm.mono ?_; clear hnm; rintro e9 w9 ⟨rfl, hb9⟩; have HB9 := Lib.hid (hb.out.trans (hb9.mono hb.out.size)); clear hb9)
        go_ret
        exact ⟨by show _ = Ending.returned (.bool (mayU ⟨nm, st, rq, af⟩)); rw [HF.out]; rfl, HB2.out.trans (HB9.out.mono (by have := HB2.out.size; omega))⟩
      | true =>
        rw [hb9] at hnm
        have HT := Lib.hid (HTK.out.trans hb9)
        clear hb9
        go_wp2_with (go_at_call 30; refine hnm.mono ?_; clear hnm; rintro e9 w9 ⟨rfl, hb9⟩; have HB9 := Lib.hid (hb.out.trans (hb9.mono hb.out.size)); clear hb9)
        exact ⟨⟨k + 1, by omega, by go_num, HT.out, HB9.out⟩, by simp [intOf]; omega⟩
    · have HM2 := Lib.hid (show mayU ⟨nm, st, rq, af⟩ = (decide (1 ≤ st.length ∧ st.length ≤ 120) && st.all printB) by
        have h8 := HM.out
        have h9 := hall.out
        rw [List.take_of_length_le (by have := HLN.out; omega)] at h9
        rw [h9, Bool.true_and] at h8
        exact h8)
      have hGr := HG2.out.below hb.out hw2
      have z1 := hGr.cell 1
      unfold svArr at z1
      simp only [List.getElem?_toArray, List.getElem?_cons_zero, List.getElem?_cons_succ] at z1
      have HBR := Lib.hid (HB2.out.trans (hb.out.mono (by have := HB2.out.size; omega)))
      have hst9 := HLEN.out
      obtain ⟨wo, hwo⟩ : ∃ wo : World, wo = wr := ⟨_, rfl⟩
      have HWO := Lib.hid hwo
      clear hGr HG0 HG1 HG2 HX HX1 HX2 HXA HGA hwo
      go_wp2_with (fail)
      go_loopw [6] (fun i wr => ∃ k : Nat, k ≤ st.length ∧ i = .int .i64 (k : Int) ∧ wr = wo ∧ Aside ((st.take k).all printB = true)) (fun i _ => st.length - (intOf i).toNat)
      case atStart => exact ⟨0, Nat.zero_le _, rfl, HWO.out.symm, rfl⟩
      case round =>
        obtain ⟨k2, hk2, rfl, rfl, hall2⟩ := hrel
        have z1' := z1
        rw [← HWO.out] at z1'
        by_cases hlt2 : k2 < st.length
        · have hx2 : k2 < (ByteArray.mk st.toArray).size := hlt2
          have hce : (ByteArray.mk st.toArray)[k2] = st[k2] := rfl
          have HTK2 := Lib.hid (show (st.take (k2 + 1)).all printB = printB st[k2] by rw [List.take_succ_eq_append_getElem hlt2, List.all_append, hall2.out]; simp)
          have HAL2 := Lib.hid (show printB st[k2] = false → mayU ⟨nm, st, rq, af⟩ = false from fun h9 => by
            have h8 : st.all printB = false := by rw [List.all_eq_false]; exact ⟨_, List.getElem_mem hlt2, by rw [h9]; decide⟩
            rw [HM2.out, h8, Bool.and_false])
          rw [← hce] at HTK2 HAL2
          clear hce
          generalize hcc : (ByteArray.mk st.toArray)[k2] = ch at *
          by_cases hc1 : (ch.toNat : Int) < 32
          · have HF := Lib.hid (HAL2.out (print_lo hc1))
            go_wp2_with (fail)
            go_ret
            exact ⟨by show _ = Ending.returned (.bool (mayU ⟨nm, st, rq, af⟩)); rw [HF.out]; rfl, HWO.out ▸ HBR.out⟩
          · by_cases hc2 : (126 : Int) < (ch.toNat : Int)
            · have HF := Lib.hid (HAL2.out (print_hi hc2))
              go_wp2_with (fail)
              go_ret
              exact ⟨by show _ = Ending.returned (.bool (mayU ⟨nm, st, rq, af⟩)); rw [HF.out]; rfl, HWO.out ▸ HBR.out⟩
            · have HT := Lib.hid (HTK2.out.trans (print_ok hc1 hc2))
              go_wp2_with (fail)
              exact ⟨⟨k2 + 1, by omega, by go_num, by first | rfl | trivial, HT.out⟩, by simp [intOf]; omega⟩
        · obtain rfl : k2 = st.length := by omega
          have HM3 := Lib.hid (show mayU ⟨nm, st, rq, af⟩ = decide (1 ≤ st.length ∧ st.length ≤ 120) by
            have h9 := hall2.out
            rw [List.take_of_length_le (Nat.le_refl _)] at h9
            rw [HM2.out, h9, Bool.and_true])
          by_cases ha : (1 : Int) ≤ (st.length : Int)
          · by_cases hbb : (st.length : Int) ≤ 120
            · have HF := Lib.hid (show mayU ⟨nm, st, rq, af⟩ = true by rw [HM3.out]; exact decide_eq_true (by omega))
              go_wp2_with (fail)
              go_ret
              exact ⟨by show _ = Ending.returned (.bool (mayU ⟨nm, st, rq, af⟩)); rw [HF.out]; rfl, HWO.out ▸ HBR.out⟩
            · have HF := Lib.hid (show mayU ⟨nm, st, rq, af⟩ = false by rw [HM3.out]; exact decide_eq_false (by omega))
              go_wp2_with (fail)
              go_ret
              exact ⟨by show _ = Ending.returned (.bool (mayU ⟨nm, st, rq, af⟩)); rw [HF.out]; rfl, HWO.out ▸ HBR.out⟩
          · have HF := Lib.hid (show mayU ⟨nm, st, rq, af⟩ = false by rw [HM3.out]; exact decide_eq_false (by omega))
            go_wp2_with (fail)
            go_ret
            exact ⟨by show _ = Ending.returned (.bool (mayU ⟨nm, st, rq, af⟩)); rw [HF.out]; rfl, HWO.out ▸ HBR.out⟩
end Go.Proofs.YtibndaianhlcaaaDoor
namespace Go.Proofs.YtibndaianhlcaaaDoor
open Go.RowKit Go.Sort Go.Shelf
set_option linter.unusedVariables false
set_option linter.unusedSimpArgs false

theorem rowT_txt : RowT 29 9 1 := rowT_of Tryd.underlying29 str_info rfl (by decide) (by decide) (by decide) (by decide)
theorem rowT_ent : RowT 28 44 3 := rowT_of Tryd.underlying28 ent_info rfl (by decide) (by decide) (by decide) (by decide)
theorem rowT_unit : RowT 32 46 4 := rowT_of Tryd.underlying32 unit_info rfl (by decide) (by decide) (by decide) (by decide)
theorem rowT_bool : RowT 22 4 1 := rowT_of Tryd.underlying22 bool_info rfl (by decide) (by decide) (by decide) (by decide)
structure RefV (w : World) (R : Nat → Prop) (r : Nat) (s : Mach) (o : OV) (pA : Option Addr) (pn pc : Nat) : Prop where
  blk : Blk w r 56 #[.slice o.A o.n o.c, .slice o.A2 o.n2 o.c2, .slice o.A3 o.n3 o.c3, .slice pA pn pc]
  out : ¬ R r
  obs : ObsK w R o
  ents : o.es.map EV.ent = s.files
  users : o.users = s.users
  srvs : o.us.map SV.srv = s.units
  plan : Slc w w.heap.size 1 pA pn pc (s.plan.map bl)
  pfoot : ∀ a, pA = some a → R a.block
def RefAt (w : World) (R : Nat → Prop) (r : Nat) (s : Mach) : Prop := ∃ o pA pn pc, RefV w R r s o pA pn pc
def RefPost (w : World) (R : Nat → Prop) (r : Nat) (res : Mach × Int) : Ending → World → Prop := fun e w' => e = .returned (.int .i64 res.2) ∧ RefAt w' (Fn R w w') r res.1 ∧ Step w w' (fun k => k = r) (fun k => k = r)
section
variable {w w' : World} {R : Nat → Prop} {r : Nat} {s : Mach} {o : OV} {pA : Option Addr} {pn pc : Nat}
theorem RefV.step {F F' : Nat → Prop} (h : RefV w R r s o pA pn pc) (st : Step w w' F F') (hd : ∀ k, R k → ¬ F k) (hr : ¬ F r) : RefV w' R r s o pA pn pc :=
  ⟨h.blk.step st hr, h.out, h.obs.step st hd, h.ents, h.users, h.srvs, (h.plan.apart st (fun a ha hF => hd _ (h.pfoot a ha) hF)).more st.size, h.pfoot⟩
theorem step_below (hb : Below w.heap.size w w') : Step w w' (fun _ => False) (fun _ => False) := ⟨hb.os, hb.tape, hb.output, hb.size, fun k hk _ => hb.block k hk, fun k hk => .inl hk⟩
theorem RefV.below (h : RefV w R r s o pA pn pc) (hb : Below w.heap.size w w') : RefV w' R r s o pA pn pc := h.step (step_below hb) (fun _ _ h => h) (fun h => h)
theorem ObsK.wide {R' : Nat → Prop} (h : ObsK w R o) (hR : ∀ k, R k → R' k) : ObsK w R' o := ⟨h.at_, fun a ha => hR _ (h.files a ha), fun a ha => hR _ (h.users a ha), fun a ha => hR _ (h.units a ha), fun e he a ha => hR _ (h.data e he a ha), fun u hu a ha => hR _ (h.req u hu a ha), fun u hu a ha => hR _ (h.aft u hu a ha)⟩
theorem RefV.wide {R' : Nat → Prop} (h : RefV w R r s o pA pn pc) (hR : ∀ k, R k → R' k) (ho : ¬ R' r) : RefV w R' r s o pA pn pc :=
  ⟨h.blk, ho, h.obs.wide hR, h.ents, h.users, h.srvs, h.plan, fun a ha => hR _ (h.pfoot a ha)⟩
theorem RefV.fn (h : RefV w R r s o pA pn pc) (w' : World) : ¬ Fn R w w' r := fun hk => by rcases hk with hk | hk; exact h.out hk; have := h.blk.lt; omega
theorem RefV.facts (h : RefV w R r s o pA pn pc) : w.cell? ⟨r, 0, none⟩ = some (.slice o.A o.n o.c) ∧ w.cell? ⟨r, 1, none⟩ = some (.slice o.A2 o.n2 o.c2) ∧ w.cell? ⟨r, 2, none⟩ = some (.slice o.A3 o.n3 o.c3) ∧ w.cell? ⟨r, 3, none⟩ = some (.slice pA pn pc) ∧ ∀ i, w.frozen? ⟨r, i, none⟩ = false := ⟨h.blk.cell 0, h.blk.cell 1, h.blk.cell 2, h.blk.cell 3, h.blk.frozen⟩
theorem RefV.lens (h : RefV w R r s o pA pn pc) : s.files.length = o.n ∧ o.es.length = o.n ∧ s.users.length = o.n2 ∧ s.units.length = o.n3 ∧ o.us.length = o.n3 ∧ s.plan.length = pn := by
  have h1 := h.obs.at_.files.len
  have h2 := h.obs.at_.users.len
  have h3 := h.obs.at_.units.len
  have h4 := h.plan.len
  rw [h.users] at h2
  simp only [List.length_map, Nat.mul_one] at h2 h4
  have e1 := congrArg List.length h.ents
  have e3 := congrArg List.length h.srvs
  rw [List.length_map] at e1 e3
  exact ⟨by omega, h1, h2, by omega, h3, h4⟩
theorem step_set (p : Addr) (v : Value) : Step w (w.setCell p v) (fun k => k = p.block) (fun k => k = p.block) := (Step.refl w (fun k => k = p.block)).setCell (p := p) (.inl rfl) v
/-- What is written anew into one of its cells. -/
theorem RefV.setUnits (h : RefV w R r s o pA pn pc) {A : Option Addr} {n c : Nat} {us : List SV} (hu : UnitsAt w w.heap.size A n c us) (h1 : ∀ a, A = some a → R a.block) (h2 : ∀ u ∈ us, (∀ a, u.A = some a → R a.block) ∧ ∀ a, u.A2 = some a → R a.block) :
    RefV (w.setCell ⟨r, 2, none⟩ (.slice A n c)) R r ⟨s.files, s.users, us.map SV.srv, s.plan⟩ ⟨o.A, o.n, o.c, o.es, o.A2, o.n2, o.c2, o.users, A, n, c, us⟩ pA pn pc := by
  have hd : ∀ k, R k → ¬ k = (⟨r, 2, none⟩ : Addr).block := fun k hk e => h.out (by rw [← show k = r from e]; exact hk)
  have ho : ObsK w R ⟨o.A, o.n, o.c, o.es, o.A2, o.n2, o.c2, o.users, A, n, c, us⟩ := ⟨⟨h.obs.at_.files, h.obs.at_.users, hu⟩, h.obs.files, h.obs.users, h1, h.obs.data, fun u hu => (h2 u hu).1, fun u hu => (h2 u hu).2⟩
  exact ⟨h.blk.set_ 2 _, h.out, ho.step (step_set _ _) hd, h.ents, h.users, rfl, (h.plan.apart (step_set _ _) (fun a ha hF => hd _ (h.pfoot a ha) hF)).more (step_set ⟨r, 2, none⟩ (.slice A n c)).size, h.pfoot⟩
theorem RefV.setUsers (h : RefV w R r s o pA pn pc) {A : Option Addr} {n c : Nat} {l : List Txt} (hu : Slc w w.heap.size 1 A n c (l.map encStr)) (h1 : ∀ a, A = some a → R a.block) :
    RefV (w.setCell ⟨r, 1, none⟩ (.slice A n c)) R r ⟨s.files, l, s.units, s.plan⟩ ⟨o.A, o.n, o.c, o.es, A, n, c, l, o.A3, o.n3, o.c3, o.us⟩ pA pn pc := by
  have hd : ∀ k, R k → ¬ k = (⟨r, 1, none⟩ : Addr).block := fun k hk e => h.out (by rw [← show k = r from e]; exact hk)
  have ho : ObsK w R ⟨o.A, o.n, o.c, o.es, A, n, c, l, o.A3, o.n3, o.c3, o.us⟩ := ⟨⟨h.obs.at_.files, hu, h.obs.at_.units⟩, h.obs.files, h1, h.obs.units, h.obs.data, h.obs.req, h.obs.aft⟩
  exact ⟨h.blk.set_ 1 _, h.out, ho.step (step_set _ _) hd, h.ents, rfl, h.srvs, (h.plan.apart (step_set _ _) (fun a ha hF => hd _ (h.pfoot a ha) hF)).more (step_set ⟨r, 1, none⟩ (.slice A n c)).size, h.pfoot⟩
theorem RefV.setFiles (h : RefV w R r s o pA pn pc) {A : Option Addr} {n c : Nat} {es : List EV} (hu : EntsAt w w.heap.size A n c es) (h1 : ∀ a, A = some a → R a.block) (h2 : ∀ e ∈ es, ∀ a, e.A = some a → R a.block) :
    RefV (w.setCell ⟨r, 0, none⟩ (.slice A n c)) R r ⟨es.map EV.ent, s.users, s.units, s.plan⟩ ⟨A, n, c, es, o.A2, o.n2, o.c2, o.users, o.A3, o.n3, o.c3, o.us⟩ pA pn pc := by
  have hd : ∀ k, R k → ¬ k = (⟨r, 0, none⟩ : Addr).block := fun k hk e => h.out (by rw [← show k = r from e]; exact hk)
  have ho : ObsK w R ⟨A, n, c, es, o.A2, o.n2, o.c2, o.users, o.A3, o.n3, o.c3, o.us⟩ := ⟨⟨hu, h.obs.at_.users, h.obs.at_.units⟩, h1, h.obs.users, h.obs.units, h2, h.obs.req, h.obs.aft⟩
  exact ⟨h.blk.set_ 0 _, h.out, ho.step (step_set _ _) hd, rfl, h.users, h.srvs, (h.plan.apart (step_set _ _) (fun a ha hF => hd _ (h.pfoot a ha) hF)).more (step_set ⟨r, 0, none⟩ (.slice A n c)).size, h.pfoot⟩
theorem RefV.setPlan (h : RefV w R r s o pA pn pc) {A : Option Addr} {n c : Nat} {p : List Bool} (hu : Slc w w.heap.size 1 A n c (p.map bl)) (h1 : ∀ a, A = some a → R a.block) :
    RefV (w.setCell ⟨r, 3, none⟩ (.slice A n c)) R r ⟨s.files, s.users, s.units, p⟩ o A n c := by
  have hd : ∀ k, R k → ¬ k = (⟨r, 3, none⟩ : Addr).block := fun k hk e => h.out (by rw [← show k = r from e]; exact hk)
  exact ⟨h.blk.set_ 3 _, h.out, h.obs.step (step_set _ _) hd, h.ents, h.users, h.srvs, (hu.apart (step_set _ _) (fun a ha hF => hd _ (h1 a ha) hF)).more (step_set ⟨r, 3, none⟩ (.slice A n c)).size, h1⟩
theorem atU_at {l : List Srv} {n : Txt} {k : Nat} (hk : k < l.length) (h1 : l[k].name = n) (h2 : ∀ i (hi : i < l.length), i < k → l[i].name ≠ n) : atU l n = (k : Int) := by
  obtain ⟨e1, e2⟩ := idxU_eq hk h1 h2
  unfold atU
  rw [if_pos e2, e1]
theorem atU_no {l : List Srv} {n : Txt} (h : ∀ i (hi : i < l.length), l[i].name ≠ n) : atU l n = -1 := by
  unfold atU
  rw [if_neg (by rw [hasU_none h]; decide)]
set_option maxRecDepth 100000 in
set_option maxHeartbeats 1000000 in
theorem refAt20_any (h : RefV w R r s o pA pn pc) (name : Txt) :
    Calls Tryd.prog 51 #[.pointer (some ⟨r, 0, none⟩), .string ⟨name.toArray⟩] w fun e w' => e = .returned (.int .i64 (atU s.units name)) ∧ w' = w := by
  have hl := h.lens
  obtain ⟨L, hL⟩ : ∃ L, L = s.units := ⟨_, rfl⟩
  rw [← hL]
  have hLe : L = o.us.map SV.srv := by rw [hL, h.srvs]
  have hLn : L.length = o.n3 := by rw [hL]; exact hl.2.2.2.1
  have HL := Lib.hid hLe
  have HLN := Lib.hid hLn
  have m2 := h.facts.2.2.1
  have hU := h.obs.at_.units
  have hn62 : o.n3 ≤ 9223372036854775807 := by have h1 := hU.slc.le; have h2 := hU.slc.cmax; unfold maxLen at h2; omega
  have HU := Lib.hid hU
  obtain ⟨w0, hw0⟩ : ∃ w0 : World, w0 = w := ⟨_, rfl⟩
  have HW := Lib.hid hw0
  obtain ⟨A, n, c, es, A2, n2, c2, users, A3, n3, c3, us⟩ := o
  simp only at m2 hn62 HU HL HLN
  clear h hl hL hLe hLn hU hw0
  go_enter Tryd.func51, Tryd.ntmps51
  go_wp2
  go_loopw [5] (fun i wr => ∃ k : Nat, k ≤ n3 ∧ i = .int .i64 (k : Int) ∧ wr = w0 ∧ Aside (∀ j (hj : j < L.length), j < k → L[j].name ≠ name)) (fun i _ => n3 - (intOf i).toNat)
  case atStart => exact ⟨0, Nat.zero_le _, rfl, HW.out.symm, fun j _ h => absurd h (Nat.not_lt_zero _)⟩
  case round =>
    obtain ⟨k, hk, rfl, rfl, hno⟩ := hrel
    rw [← HW.out] at m2 HU
    by_cases hlt : k < n3
    · obtain ⟨b, off, rfl, hgB, hkl, c0, c1, c2', c3', p1, p2⟩ := HU.out.at_ hlt
      have hkL : k < L.length := by rw [HLN.out]; exact hlt
      have e1 : L[k] = us[k].srv := by have := HL.out; subst this; simp
      have HHIT := Lib.hid (fun (e : L[k].name = name) => atU_at hkL e (fun i hi hik => hno.out i hi hik))
      have HNEXT := Lib.hid (fun (e : L[k].name ≠ name) => show ∀ j (hj : j < L.length), j < k + 1 → L[j].name ≠ name from fun j hj hjk => by
        rcases Nat.lt_or_ge j k with h | h
        · exact hno.out j hj h
        · obtain rfl : j = k := by omega
          exact e)
      rw [e1] at HHIT HNEXT
      clear e1 c1 c2' c3' p1 p2 hgB
      generalize us[k] = x at *
      have tx : (ByteArray.mk x.name.toArray).toList = x.name := Go.ByteArray.toList_eq _
      have ty : (ByteArray.mk name.toArray).toList = name := Go.ByteArray.toList_eq _
      cases k1 : (x.name == name) with
      | true =>
        have HX := Lib.hid (HHIT.out (show x.name = name by simpa using k1))
        go_wp2
        go_ret
        exact ⟨by rw [HX.out]; rfl, HW.out⟩
      | false =>
        have HX := Lib.hid (HNEXT.out (show x.name ≠ name by simpa using k1))
        go_wp2
        exact ⟨⟨k + 1, by omega, by go_num, by first | rfl | trivial, HX.out⟩, by simp [intOf]; omega⟩
    · obtain rfl : k = n3 := by omega
      have HX := Lib.hid (atU_no (fun i hi => hno.out i hi (by have := HLN.out; omega)))
      go_wp2
      go_ret
      exact ⟨by rw [HX.out]; rfl, HW.out⟩
end
end Go.Proofs.YtibndaianhlcaaaDoor
namespace Go.Proofs.YtibndaianhlcaaaDoor
open Go.RowKit Go.Sort Go.Shelf
set_option linter.unusedVariables false
set_option linter.unusedSimpArgs false

theorem slice_mark_bool (x : Value) (lo hi mx : Option Value) : Instr.slice 22 x lo hi mx = CutS 22 x lo hi mx := rfl
theorem slice_mark_unit (x : Value) (lo hi mx : Option Value) : Instr.slice 32 x lo hi mx = CutS 32 x lo hi mx := rfl
theorem slice_mark_txt (x : Value) (lo hi mx : Option Value) : Instr.slice 29 x lo hi mx = CutS 29 x lo hi mx := rfl
theorem slice_mark_ent (x : Value) (lo hi mx : Option Value) : Instr.slice 28 x lo hi mx = CutS 28 x lo hi mx := rfl
theorem fn_set (F : Nat → Prop) (w w' : World) (p : Addr) (v : Value) : Fn F w (w'.setCell p v) = Fn F w w' := by
  have hsz : (w'.setCell p v).heap.size = w'.heap.size := by simp [World.setCell]
  unfold Fn
  rw [hsz]
theorem step_bel_set {w w' : World} (hb : Below w.heap.size w w') (r i : Nat) (v : Value) : Step w (w'.setCell ⟨r, i, none⟩ v) (fun k => k = r) (fun k => k = r) := (Step.of_below hb (fun k => k = r)).setCell (p := ⟨r, i, none⟩) (.inl rfl) v
theorem own_fn {w w' : World} {R : Nat → Prop} {e : TypeId} {sz : Nat} {A : Option Addr} {n m c : Nat} {xs : List Value} (h : w'.ownsRow w.heap.size e sz (.slice A m c) n xs) : ∀ a, A = some a → Fn R w w' a.block := fun a ha => .inr (own_in h a ha)
section
variable {w w' : World} {R : Nat → Prop} {r : Nat} {s : Mach} {o : OV} {pA : Option Addr} {pn pc : Nat}
def TryPost (w : World) (R : Nat → Prop) (r : Nat) (s : Mach) (o : OV) : Ending → World → Prop := fun e w' => e = .returned (.bool (failsP s.plan)) ∧ (∃ qA qn qc, RefV w' (Fn R w w') r ⟨s.files, s.users, s.units, s.plan.tail⟩ o qA qn qc ∧ qn ≤ 1000000000) ∧ Step w w' (fun k => k = r) (fun k => k = r)
theorem try_end {b : Bool} (h : RefV w R r s o pA pn pc) {w1 : World} (hb : Below w.heap.size w w1) {A1 : Option Addr} {c1 m : Nat} (hm : m ≤ 1000000000) (ho : w1.ownsRow w.heap.size 4 1 (.slice A1 m c1) m (s.plan.tail.map bl)) (hf : failsP s.plan = b) : TryPost w R r s o (.returned (.bool b)) (w1.setCell ⟨r, 3, none⟩ (.slice A1 m c1)) := by
  subst hf
  refine ⟨rfl, ⟨A1, m, c1, ?_, hm⟩, step_bel_set hb r 3 _⟩
  rw [fn_set]
  exact ((h.below hb).wide (fn_wide R w w1) (h.fn w1)).setPlan (own_slc_of ho) (own_fn ho)
section
attribute [local go_sem ↓] slice_mark_bool
set_option maxRecDepth 100000 in
set_option maxHeartbeats 1000000 in
theorem refTry20_any (h : RefV w R r s o pA pn pc) (hn : pn ≤ 1000000000) :
    Calls Tryd.prog 52 #[.pointer (some ⟨r, 0, none⟩)] w (TryPost w R r s o) := by
  have hpl := h.lens.2.2.2.2.2
  cases hp : s.plan with
  | nil =>
    have hp0 : pn = 0 := by rw [hp] at hpl; simpa using hpl.symm
    subst hp0
    have m3 := h.facts.2.2.2.1
    have hs : (⟨s.files, s.users, s.units, s.plan.tail⟩ : Mach) = s := by cases s; simp only at hp; subst hp; rfl
    have HX : Hid (TryPost w R r s o (.returned (.bool false)) w) := ⟨by rw [hp]; rfl, ⟨pA, 0, pc, by rw [hs]; exact h.wide (fn_wide R w w) (h.fn w), by omega⟩, Step.refl _ _⟩
    clear h hs hpl
    go_enter Tryd.func52, Tryd.ntmps52
    go_wp2_with (fail)
    go_ret
    exact HX.out
  | cons b p =>
    have hpn : 1 ≤ pn := by rw [hp] at hpl; simp at hpl; omega
    obtain ⟨q, off, hA, hq, hc⟩ := h.plan.at_ (by omega)
    have c0 := hc 0 (.bool b) (by rw [hp]; rfl)
    rw [Nat.add_zero] at c0
    subst hA
    have m3 := h.facts.2.2.2.1
    have mf3 := h.facts.2.2.2.2 3
    have hcut := cut_high rowT_bool (A := some ⟨q, off, none⟩) (n := pn) (c := pc) (k := 1) (z := 1) rfl hpn
    obtain ⟨At, ct, et, ht⟩ := tail_slc h.plan hpn
    have hb0 : Below w.heap.size w (w.alloc (.cells #[] 4)) := (Below.refl _ w).alloc (Nat.le_refl _) _
    obtain ⟨A1, c1, w1, r1, o1, b1, _, hz1⟩ := put_one rowT_bool ht (Nat.le_refl _) (fun u hu => bls_one s.plan u (List.mem_of_mem_drop hu)) (by omega) hb0 (heap_alloc_new w _) (Nat.le_refl _)
    rw [← et] at r1
    have hdr : (s.plan.map bl).drop (1 * 1) = s.plan.tail.map bl := by rw [hp]; rfl
    rw [hdr] at o1
    have HX := Lib.hid (try_end h b1 (b := b) (by omega) o1 (by rw [hp]; rfl))
    have hB1 := h.blk.below b1 h.blk.lt
    have n3 := hB1.cell 3
    have nf3 := hB1.frozen 3
    simp only [List.getElem?_toArray, List.getElem?_cons_zero, List.getElem?_cons_succ] at n3
    have hrl := h.blk.lt
    have hneq : ((pn : Int) == 0) = false := by rw [beq_eq_false_iff_ne]; omega
    have h1p : (0 : Int) < (pn : Int) := by omega
    have HR1 := Lib.hid r1
    clear h hc ht et hb0 o1 b1 hdr hB1 hpl r1 hq hz1
    go_enter Tryd.func52, Tryd.ntmps52
    go_wp2_with (at_builtin; refine wpList_append_run rfl _ _ _ rfl rfl rfl HR1.out ?_; clear HR1)
    go_ret
    exact HX.out
end
theorem units_one (us : List SV) : ∀ v ∈ us.flatMap svCells, v.oneCell' = true := svCells_one us
/-- A unit less. -/
structure StopEnd (w : World) (R : Nat → Prop) (r : Nat) (s : Mach) (w2 : World) (A3 : Option Addr) (n3 c3 i : Nat) (A1 : Option Addr) (c1 : Nat) (w3 : World) (A2 : Option Addr) (c2 : Nat) (w4 : World) : Prop where
  r1 : (Builtin.append_ #[32, 32] 32 #[.slice (some ⟨w2.heap.size, 0, none⟩) 0 0, headG A3 n3 c3 i]).run Tryd.prog (w2.alloc (.cells #[] 46)).drew = .ok (.slice A1 i c1) w3
  r2 : (Builtin.append_ #[32, 32] 32 #[.slice A1 i c1, tailG A3 n3 c3 (i + 1) 4]).run Tryd.prog w3 = .ok (.slice A2 (n3 - 1) c2) w4
  a2 : w2.cell? ⟨r, 2, none⟩ = some (.slice A3 n3 c3)
  a3 : w3.cell? ⟨r, 2, none⟩ = some (.slice A3 n3 c3)
  a4 : w4.cell? ⟨r, 2, none⟩ = some (.slice A3 n3 c3)
  f4 : w4.frozen? ⟨r, 2, none⟩ = false
  post : RefPost w R r (⟨s.files, s.users, s.units.eraseIdx i, s.plan⟩, 0) (.returned (.int .i64 0)) (w4.setCell ⟨r, 2, none⟩ (.slice A2 (n3 - 1) c2))
theorem stop_end {w2 : World} {S : Nat → Prop} (h : RefV w2 S r s o pA pn pc) (hS : ∀ k, S k → Fn R w w2 k) (hst : Step w w2 (fun k => k = r) (fun k => k = r)) (hR : ¬ R r) (hrw : r < w.heap.size) {i : Nat} (hi : i < o.n3) (hn : o.n3 ≤ 1000000) :
    ∃ A1 c1 w3 A2 c2 w4, StopEnd w R r s w2 o.A3 o.n3 o.c3 i A1 c1 w3 A2 c2 w4 := by
  have hU := h.obs.at_.units
  obtain ⟨A1, c1, w3, A2, c2, w4, E⟩ := era_run rowT_unit hU.slc (Nat.le_refl _) (units_one o.us) (by omega) hi
  have h3 := h.below E.bel1
  have h4 := h.below E.bel
  have hf : ∀ k, Fn S w2 w4 k → Fn R w w4 k := fun k hk => by
    have := hst.size
    rcases hk with hk | hk
    · rcases hS k hk with h | h
      · exact .inl h
      · exact .inr ⟨h.1, by have := E.bel.size; omega⟩
    · exact .inr ⟨by omega, hk.2⟩
  have hout : ¬ Fn R w w4 r := fun hk => by rcases hk with hk | hk; exact hR hk; omega
  have hl : (o.us.take i ++ o.us.drop (i + 1)).length = o.n3 - 1 := by rw [List.length_append, List.length_take, List.length_drop, hU.len]; omega
  have ho := E.own
  have hfm := fun k => flatMap_take svCells 4 o.us k (fun x _ => svCells_length x)
  rw [(hfm i).1, (hfm (i + 1)).2, ← List.flatMap_append] at ho
  have hU4 := h4.obs.at_.units
  have hset := ((h4.wide (fn_wide S w2 w4) (h.fn w4)).wide hf hout).setUnits (A := A2) (n := o.n3 - 1) (c := c2) (us := o.us.take i ++ o.us.drop (i + 1)) ⟨own_slc_of ho, hl, fun u hu => hU4.req u (mem_cut hu), fun u hu => hU4.aft u (mem_cut hu)⟩ (fun a ha => hf _ (own_fn E.own a ha)) (fun u hu => ⟨fun a ha => hf _ (.inl (h.obs.req u (mem_cut hu) a ha)), fun a ha => hf _ (.inl (h.obs.aft u (mem_cut hu) a ha))⟩)
  refine ⟨A1, c1, w3, A2, c2, w4, E.r1, E.r2, h.facts.2.2.1, h3.facts.2.2.1, h4.facts.2.2.1, h4.facts.2.2.2.2 2, rfl, ?_, hst.trans (step_bel_set E.bel r 2 _)⟩
  rw [fn_set]
  rw [srvs_erase, h.srvs] at hset
  exact ⟨_, _, _, _, hset⟩
section
attribute [local go_sem ↓] slice_mark_unit
set_option maxRecDepth 100000 in
set_option maxHeartbeats 2000000 in
theorem refStop20_any (h : RefV w R r s o pA pn pc) (hn : pn ≤ 1000000000) (hn3 : o.n3 ≤ 1000000) (name : Txt) :
    Calls Tryd.prog 31 #[.pointer (some ⟨r, 0, none⟩), .string ⟨name.toArray⟩] w (RefPost w R r (doStop s name)) := by
  have ha := refAt20_any h name
  have hl := h.lens
  have hout := h.out
  have hrw := h.blk.lt
  have htry := refTry20_any h hn
  cases hh : hasU s.units name with
  | false =>
    have HX : Hid (RefPost w R r (doStop s name) (.returned (.int .i64 0)) w) := by
      rw [show doStop s name = (s, 0) by unfold doStop; rw [if_pos hh]]
      exact ⟨rfl, ⟨_, _, _, _, h.wide (fn_wide R w w) (h.fn w)⟩, Step.refl _ _⟩
    rw [show atU s.units name = -1 by unfold atU; rw [if_neg (by rw [hh]; decide)]] at ha
    clear h hl hh htry
    go_enter Tryd.func31, Tryd.ntmps31
    go_wp2_with (go_at_call 51; refine ha.mono ?_; clear ha; rintro e w1 ⟨rfl, rfl⟩)
    go_ret
    exact HX.out
  | true =>
    obtain ⟨hi, _⟩ := idxU_at hh
    obtain ⟨i, hix⟩ : ∃ i, i = idxU s.units name := ⟨_, rfl⟩
    rw [show atU s.units name = (idxU s.units name : Int) by unfold atU; rw [if_pos hh], ← hix] at ha
    rw [← hix] at hi
    have hin : i < o.n3 := by omega
    have hneg : ¬ (i : Int) < 0 := by omega
    cases hf : failsP s.plan with
    | true =>
      unfold TryPost at htry
      rw [hf] at htry
      have HX := Lib.hid (show doStop s name = (⟨s.files, s.users, s.units, s.plan.tail⟩, 71) by unfold doStop; rw [if_neg (by rw [hh]; decide), if_pos hf])
      clear h hl hh hf hix hi
      go_enter Tryd.func31, Tryd.ntmps31
      go_wp2_with (first
        | (go_at_call 51; refine ha.mono ?_; clear ha; rintro e w1 ⟨rfl, rfl⟩)
        | (go_at_call 52; refine htry.mono ?_; clear htry; rintro e w2 ⟨rfl, ⟨qA, qn, qc, hv2, -⟩, hst2⟩; have HV2 := Lib.hid hv2; have HS2 := Lib.hid hst2; clear hv2 hst2))
      go_ret
      rw [HX.out]
      exact ⟨rfl, ⟨_, _, _, _, HV2.out⟩, HS2.out⟩
    | false =>
      unfold TryPost at htry
      rw [hf] at htry
      have HX := Lib.hid (show doStop s name = (⟨s.files, s.users, s.units.eraseIdx i, s.plan.tail⟩, 0) by unfold doStop; rw [if_neg (by rw [hh]; decide), if_neg (by rw [hf]; decide), hix])
      have hnc := h.obs.at_.units.slc.le
      have hcl := cut_low rowT_unit (A := o.A3) (n := o.n3) (c := o.c3) (k := i) (z := (i : Int)) rfl (by omega)
      have hch := cut_high rowT_unit (A := o.A3) (n := o.n3) (c := o.c3) (k := i + 1) (z := (i : Int) + 1) (by omega) (by omega)
      have hw1 : IntKind.i64.wrap ((i : Int) + 1) = (i : Int) + 1 := IntWalk.i64_in _ (by omega)
      have HE : Hid (∀ {w2 : World} {qA : Option Addr} {qn qc : Nat}, RefV w2 (Fn R w w2) r ⟨s.files, s.users, s.units, s.plan.tail⟩ o qA qn qc → Step w w2 (fun k => k = r) (fun k => k = r) → ∃ A1 c1 w3 A2 c2 w4, StopEnd w R r ⟨s.files, s.users, s.units, s.plan.tail⟩ w2 o.A3 o.n3 o.c3 i A1 c1 w3 A2 c2 w4) := fun hv hst => stop_end hv (fun k hk => hk) hst hout hrw hin hn3
      obtain ⟨A, n, c, es, A2', n2, c2', users, A3, n3, c3, us⟩ := o
      simp only at hcl hch HE hin hn3 hnc
      clear h hl hh hf hix hi
      go_enter Tryd.func31, Tryd.ntmps31
      go_wp2_with (first
        | (go_at_call 51; refine ha.mono ?_; clear ha; rintro e w1 ⟨rfl, rfl⟩)
        | (go_at_call 52; refine htry.mono ?_; clear htry; rintro e w2 ⟨rfl, ⟨qA, qn, qc, hv2, -⟩, hst2⟩; obtain ⟨A1, c1, w3, A2, c2, w4, E⟩ := HE.out hv2 hst2; have hrw2 : r < w2.heap.size := Nat.lt_of_lt_of_le hrw hst2.size; have HR1 := Lib.hid E.r1; have HR2 := Lib.hid E.r2; have a2 := E.a2; have a3 := E.a3; have a4 := E.a4; have f4 := E.f4; have HP := Lib.hid E.post; clear hv2 hst2 E))
      go_region_law (first
        | (refine step_append_at (by rfl) _ _ _ (by rfl) HR1.out (by with_reducible rfl) (by rfl) (by rfl) (by rfl) ?_)
        | (refine step_append_at (by rfl) _ _ _ (by rfl) HR2.out (by with_reducible rfl) (by rfl) (by rfl) (by rfl) ?_))
      all_goals go_wp2_with (fail)
      all_goals go_ret
      all_goals rw [HX.out]
      all_goals exact HP.out
end
end
end Go.Proofs.YtibndaianhlcaaaDoor
