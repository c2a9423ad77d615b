/- The walk of the reference's Right (bootjackref08). -/
import Derived.Test.YtdhlklidenfbeaaGreatDoorRef08A
namespace Go.Proofs.YtdhlklidenfbeaaGreatDoor
open Go.RowKit Go.Sort
set_option linter.unusedVariables false
set_option linter.unusedSimpArgs false

theorem aheadB_ge {a b : Txt} (h : ¬ a < b) : aheadB a b = false := by unfold aheadB; rw [decide_eq_false h]; rfl
theorem prefix_cut (a b : Txt) : (a ++ [47]).isPrefixOf b = true ↔ b.take (a.length + 1) = a ++ [47] := by
  rw [List.isPrefixOf_iff_prefix, List.prefix_iff_eq_take, List.length_append]
  exact ⟨fun h => h.symm, fun h => h.symm⟩
theorem aheadB_cut {a b : Txt} (h : b.take (a.length + 1) = a ++ [47]) : aheadB a b = false := by unfold aheadB; rw [(prefix_cut a b).2 h]; simp
theorem aheadB_ok {a b : Txt} (h : a < b) (h2 : b.take (a.length + 1) ≠ a ++ [47]) : aheadB a b = true := by
  unfold aheadB
  rw [decide_eq_true h]
  cases hp : (a ++ [47]).isPrefixOf b with
  | true => exact absurd ((prefix_cut a b).1 hp) h2
  | false => rfl
def aheadTo (l : List Ent) (x : Ent) (j : Nat) : Bool := (l.take j).all fun y => aheadB y.path x.path
theorem aheadTo_succ (l : List Ent) (x : Ent) (j : Nat) (h : j < l.length) : aheadTo l x (j + 1) = (aheadTo l x j && aheadB l[j].path x.path) := by
  unfold aheadTo
  rw [List.take_succ_eq_append_getElem h, List.all_append]
  simp
theorem fits_to (l : List Ent) (i : Nat) (x : Ent) : fitsB l i x = (entryB x && aheadTo l x i) := rfl

set_option maxRecDepth 100000 in
set_option maxHeartbeats 2000000 in
theorem refRight08_any {w : World} {B : Nat} {A : Option Addr} {n c : Nat} {es : List EV} (h : EntsAt w B A n c es) (hB : B ≤ w.heap.size) (hp : ∀ e ∈ es, e.path.length ≤ 1000000000) :
    Calls Tryz.prog 64 #[.slice A n c] w fun e w' => e = .returned (.bool (rightB (es.map EV.ent))) ∧ Below w.heap.size w w' := by
  obtain ⟨l, hl⟩ : ∃ l, l = es.map EV.ent := ⟨_, rfl⟩
  have hll : l.length = n := by rw [hl, List.length_map, h.len]
  rw [← hl]
  have hnc := h.slc.le
  have hcm := h.slc.cmax
  have hn62 : n ≤ 9223372036854775807 := by unfold maxLen at hcm; omega
  by_cases h24 : 24 < n
  · have HG := Lib.hid (show rightB l = false by unfold rightB; rw [decide_eq_false (by omega)]; rfl)
    clear h hl hp hll
    go_enter Tryz.func64, Tryz.ntmps64
    go_wp2
    go_ret
    exact ⟨by rw [HG.out]; rfl, Below.refl _ _⟩
  have hn24 : n ≤ 24 := by omega
  have HG := Lib.hid (show rightB l = rightTo l l.length by unfold rightB; rw [decide_eq_true (by omega)]; rfl)
  have HBAD := Lib.hid (fun (k : Nat) (hk : k < l.length) (h : fitsB l k l[k] = false) => rightB_false (l := l) hk (fun _ => h))
  have H := Lib.hid h
  have HP := Lib.hid hp
  have HL := Lib.hid hl
  have HLL := Lib.hid hll
  clear h hp hl hll
  go_enter Tryz.func64, Tryz.ntmps64
  go_wp2_with (fail)
  go_loopw [3] (fun i wr => ∃ (k : Nat), k ≤ n ∧ i = .int .i64 (k : Int) ∧ Aside (rightTo l k = true) ∧ Aside (Below w.heap.size w wr)) (fun i _ => n - (intOf i).toNat)
  case atStart => exact ⟨0, Nat.zero_le _, rfl, rightTo_zero l, Below.refl _ _⟩
  case round =>
    obtain ⟨k, hk, rfl, hr, hb⟩ := hrel
    by_cases hlt : k < n
    · obtain ⟨b, off, rfl, hbB, hkl, c0, c1, c2, hS⟩ := (H.out.below (hb.out.mono hB)).at_ hlt
      have hkl' : k < l.length := by rw [HLL.out]; exact hlt
      have HLK := Lib.hid (show l[k] = es[k].ent by have := HL.out; subst this; exact ents_get hkl hkl')
      have hpl := HP.out _ (List.getElem_mem hkl)
      have HBK := Lib.hid (HBAD.out k hkl')
      rw [HLK.out] at HBK
      have HNX := Lib.hid (rightTo_succ l k hkl')
      rw [HLK.out] at HNX
      generalize es[k] = e at *
      have hone := refOne_any (w := wr) e hS (Nat.le_trans hB hb.out.size) hpl
      unfold evArr at hone
      have hbl : b < wr.heap.size := Nat.lt_of_lt_of_le hbB (Nat.le_trans hB hb.out.size)
      have HBB := Lib.hid hb.out
      clear hS hb
      cases hev : entryB e.ent with
      | false =>
        have HX := Lib.hid (HBK.out (by rw [fits_to, hev]; rfl))
        rw [hev] at hone
        clear hev
        go_wp2_with (go_at_call 89; refine hone.mono ?_; clear hone; rintro e2 w2 ⟨rfl, hb2⟩)
        go_ret
        exact ⟨by rw [HX.out]; rfl, HBB.out.trans (hb2.mono HBB.out.size)⟩
      | true =>
        rw [hev] at hone
        have HNO := Lib.hid (fun (j : Nat) (hjk : j < k) (hj : j < l.length) (ha : aheadB l[j].path e.ent.path = false) => HBK.out (fits_at (l := l) (k := j) hjk hj ha))
        have HOK := Lib.hid (fun (ha : aheadTo l e.ent k = true) => show rightTo l (k + 1) = true by rw [HNX.out, hr.out, fits_to, hev, ha]; rfl)
        clear hev
        go_wp2_with (go_at_call 89; refine hone.mono ?_; clear hone; rintro e2 w2 ⟨rfl, hb2⟩; have f0 := (hb2.cell (p := ⟨b, off + k * 3, none⟩) hbl).trans c0)
        have HB2 := Lib.hid (HBB.out.trans (hb2.mono HBB.out.size))
        clear hb2
        go_loop [5] (fun i => ∃ (j : Nat), j ≤ k ∧ i = .int .i64 (j : Int) ∧ Aside (aheadTo l e.ent j = true)) (fun i => k - (intOf i).toNat)
        case atStart => exact ⟨0, Nat.zero_le _, rfl, rfl⟩
        case round =>
          obtain ⟨j, hj, rfl, hah⟩ := hrel
          by_cases hjk : j < k
          · obtain ⟨bj, offj, hA, _, hjl, g0, _, _, _⟩ := (H.out.below (HB2.out.mono hB)).at_ (k := j) (by omega)
            injection hA with hA
            injection hA with e1 e2
            subst e1 e2
            have hjl' : j < l.length := by rw [HLL.out]; omega
            have hyl := HP.out _ (List.getElem_mem hjl)
            have HLJ := Lib.hid (show l[j] = es[j].ent by have := HL.out; subst this; exact ents_get hjl hjl')
            have HNJ := Lib.hid (HNO.out j hjk hjl')
            have HSJ := Lib.hid (aheadTo_succ l e.ent j hjl')
            rw [HLJ.out] at HNJ HSJ
            generalize es[j] = y at *
            have hjn : j < n := by omega
            have hcmp := less_str y.path e.path
            have hcmp2 := bytesLess_txt y.path e.path
            have hn1 : ¬ 9223372036854775807 < y.path.length + 1 := by omega
            have hyl2 : y.path.length + 1 ≤ 9223372036854775807 := by omega
            have hpl2 : e.path.length ≤ 9223372036854775807 := by omega
            have hex := ext_list e.path 0 (y.path.length + 1)
            rw [List.drop_zero, Nat.sub_zero] at hex
            have htl : ((⟨y.path.toArray⟩ : ByteArray) ++ ⟨#[47]⟩).toList = y.path ++ [47] := by rw [Go.ByteArray.toList_eq]; simp
            by_cases hlp : y.path < e.path
            case neg =>
              have HX := Lib.hid (HNJ.out (aheadB_ge hlp))
              rw [decide_eq_false hlp] at hcmp hcmp2
              clear hlp hex
              go_wp2_with (fail)
              go_ret
              exact ⟨by rw [HX.out]; rfl, HB2.out⟩
            rw [decide_eq_true hlp] at hcmp hcmp2
            by_cases hlen : y.path.length < e.path.length
            · by_cases hcut : e.path.take (y.path.length + 1) = y.path ++ [47]
              · have HX := Lib.hid (HNJ.out (aheadB_cut hcut))
                rw [hcut] at hex
                clear hlp hcut
                go_wp2_with (fail)
                go_ret
                exact ⟨by rw [HX.out]; rfl, HB2.out⟩
              · have HX := Lib.hid (show aheadTo l e.ent (j + 1) = true by rw [HSJ.out, hah.out]; exact aheadB_ok hlp hcut)
                have hcb : (e.path.take (y.path.length + 1) == y.path ++ [47]) = false := by simpa using hcut
                clear hlp hcut
                go_wp2_with (fail)
                exact ⟨⟨j + 1, by omega, by go_num, HX.out⟩, by simp [intOf]; omega⟩
            · have hcut : e.path.take (y.path.length + 1) ≠ y.path ++ [47] := fun h => by
                have := congrArg List.length h
                simp only [List.length_take, List.length_append, List.length_cons, List.length_nil] at this
                omega
              have HX := Lib.hid (show aheadTo l e.ent (j + 1) = true by rw [HSJ.out, hah.out]; exact aheadB_ok hlp hcut)
              clear hlp hcut hex
              go_wp2_with (fail)
              exact ⟨⟨j + 1, by omega, by go_num, HX.out⟩, by simp [intOf]; omega⟩
          · obtain rfl : j = k := by omega
            have HX := Lib.hid (HOK.out hah.out)
            go_wp2_with (fail)
            exact ⟨⟨j + 1, by omega, by go_num, HX.out, HB2.out⟩, by simp [intOf]; omega⟩
    · obtain rfl : k = n := by omega
      have HR := Lib.hid (show rightB l = true by rw [HG.out, HLL.out]; exact hr.out)
      go_wp2
      go_ret
      exact ⟨by rw [HR.out]; rfl, hb.out⟩
end Go.Proofs.YtdhlklidenfbeaaGreatDoor
