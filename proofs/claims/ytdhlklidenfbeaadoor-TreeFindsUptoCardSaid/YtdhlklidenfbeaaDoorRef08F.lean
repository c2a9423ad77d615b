/- The walks of the reference's Refs and SameTexts (bootjackref08). -/
import Derived.Test.YtdhlklidenfbeaaDoorRef08E
import Derived.Test.YtdhlklidenfbeaaDoorRef08C
import Derived.Test.YtdhlklidenfbeaaDoorRefPath
namespace Go.Proofs.YtdhlklidenfbeaaDoor
open Go.RowKit Go.Sort
set_option linter.unusedVariables false
set_option linter.unusedSimpArgs false

theorem refsOne_short (d : Txt) (k : Nat) (h : d.length < k + 25) (hk : k ≤ d.length) : refsTo d k = refsOne d := by
  unfold refsOne
  exact (refsTo_short d k h d.length hk).symm
theorem refsOne_short' (d : Txt) (k : Nat) (h : d.length < k + 25) (hk : d.length < k) (h0 : refsTo d k = refsTo d d.length) : refsTo d k = refsOne d := h0
set_option maxRecDepth 100000 in
set_option maxHeartbeats 4000000 in
theorem refRefs_any {w : World} {B : Nat} {A : Option Addr} {n c : Nat} {es : List EV} (h : EntsAt w B A n c es) (hB : B ≤ w.heap.size) (hdd : ∀ e ∈ es, e.data.length ≤ 1000000000) (hroom : (refsAll (es.map (·.data))).length ≤ 10000000) :
    Calls Tryd.prog 49 #[.slice A n c] w fun e w' => ∃ A' n' c', e = .returned (.slice A' n' c') ∧ w'.ownsRow w.heap.size 9 1 (.slice A' n' c') n' ((addAll [] (refsAll (es.map (·.data)))).map encStr) ∧ Below w.heap.size w w' := by
  have hcm := h.slc.cmax
  have hnc := h.slc.le
  obtain ⟨ds, hds⟩ : ∃ ds, ds = es.map (·.data) := ⟨_, rfl⟩
  have hdl : ds.length = n := by rw [hds, List.length_map, h.len]
  rw [← hds] at hroom ⊢
  obtain ⟨out, hout⟩ : ∃ out, out = (addAll [] (refsAll ds)).map encStr := ⟨_, rfl⟩
  rw [← hout]
  have HOUT := Lib.hid hout
  have HDS := Lib.hid hds
  have HR := Lib.hid hroom
  have HDL := Lib.hid hdl
  have H := Lib.hid h
  have HDD := Lib.hid hdd
  clear h hout hds hroom hdl hdd
  have hn62 : n ≤ 9223372036854775807 := by unfold maxLen at hcm; omega
  go_enter Tryd.func49, Tryd.ntmps49
  go_wp2_with (fail)
  go_loopw [3, 4] (fun o i wr => ∃ (k : Nat) (A' : Option Addr) (n' c' : Nat), k ≤ n ∧ i = .int .i64 (k : Int) ∧ o = .slice A' n' c' ∧ Aside (wr.ownsRow w.heap.size 9 1 (.slice A' n' c') n' ((addAll [] (refsAll (ds.take k))).map encStr)) ∧ Aside (Below w.heap.size w wr)) (fun _ i _ => n - (intOf i).toNat)
  case atStart => exact ⟨0, none, 0, 0, Nat.zero_le _, rfl, rfl, World.ownsRow_nil _ _ _ _, Below.refl _ _⟩
  case round =>
    obtain ⟨k, A', n', c', hk, rfl, rfl, hown, hb⟩ := hrel
    obtain ⟨wo, rfl⟩ : ∃ wo : World, wo = wr := ⟨_, rfl⟩
    by_cases hlt : k < n
    · obtain ⟨b, off, rfl, hbB, hl, c0, c1, c2, hS⟩ := (H.out.below (hb.out.mono hB)).at_ hlt
      have HD := Lib.hid (show ∃ hd : k < ds.length, ds[k] = es[k].data from ⟨by rw [HDL.out]; exact hlt, by rw [List.getElem_of_eq HDS.out]; simp⟩)
      have hd62 := HDD.out _ (List.getElem_mem hl)
      generalize es[k] = e at *
      obtain ⟨d, hd⟩ : ∃ d, d = e.data := ⟨_, rfl⟩
      rw [← hd] at hS HD hd62
      have hcv := convert_bytes (P := Tryd.prog) Tryd.underlying42 Tryd.underlying5 hS 9 Tryd.underlying9
      have hdl : d.length ≤ maxLen := by have h1 := hS.len; have h2 := hS.le; have h3 := hS.cmax; rw [List.length_map] at h1; omega
      clear hd hS
      obtain ⟨hkd, hdk⟩ := HD.out
      have HP := Lib.hid (show refsAll (ds.take (k + 1)) = refsAll (ds.take k) ++ refsOne d by rw [refsAll_take ds k hkd, hdk])
      have HLE := Lib.hid (show ∀ j, j ≤ d.length → (refsAll (ds.take k) ++ refsTo d j).length ≤ 10000000 from fun j hj => by
        have h1 : (refsAll (ds.take k) ++ refsTo d j).length ≤ (refsAll (ds.take (k + 1))).length := by
          rw [HP.out, List.length_append, List.length_append]
          have := refsTo_le_one d j hj
          omega
        have h2 := refsAll_le ds (k + 1)
        have h3 := HR.out
        omega)
      clear hdk
      go_wp2_with (fail)
      go_loopw [3, 6] (fun o i wr => ∃ (j : Nat) (A2 : Option Addr) (n2 c2 : Nat), j ≤ d.length ∧ i = .int .i64 (j : Int) ∧ o = .slice A2 n2 c2 ∧ Aside (wr.ownsRow w.heap.size 9 1 (.slice A2 n2 c2) n2 ((addAll [] (refsAll (ds.take k) ++ refsTo d j)).map encStr)) ∧ Aside (Below w.heap.size w wr)) (fun _ i _ => d.length + 1 - (intOf i).toNat)
      case atStart => exact ⟨0, A', n', c', Nat.zero_le _, rfl, rfl, by rw [show refsTo d 0 = [] from rfl, List.append_nil]; exact hown.out, hb.out⟩
      case round =>
        obtain ⟨j, A2, n2, c2', hj, rfl, rfl, hown2, hb2⟩ := hrel
        obtain ⟨wm, rfl⟩ : ∃ wo : World, wo = wr := ⟨_, rfl⟩
        by_cases hjl : j + 25 ≤ d.length
        · have hdb : decide ((j : Int) + 25 ≤ (d.length : Int)) = true := decide_eq_true (by omega)
          go_wp2_with (fail)
          go_loopw [7, 8] (fun o i wr => ∃ (q : Nat), 25 ≤ q ∧ q ≤ 44 ∧ (q = 25 ∨ j + q ≤ d.length + 1) ∧ i = .int .i64 (q : Int) ∧ o = .string ⟨(bestR (d.drop j) q).toArray⟩ ∧ Aside (Below wm.heap.size wm wr)) (fun _ i _ => 44 - (intOf i).toNat)
          case atStart => exact ⟨25, by omega, by omega, .inl rfl, rfl, by rw [bestR_zero], Below.refl _ _⟩
          case round =>
            obtain ⟨q, hq25, hq44, hqd, rfl, rfl, hbq⟩ := hrel
            by_cases hin : q ≤ 43 ∧ j + q ≤ d.length
            · obtain ⟨hin1, hin2⟩ := hin
              have hex : (ByteArray.mk d.toArray).extract j (j + q) = ⟨((d.drop j).take q).toArray⟩ := by rw [ext_list, show j + q - j = q by omega]
              have hjq : j ≤ j + q := by omega
              have hip := isPath_any ((d.drop j).take q) wr (by rw [List.length_take]; unfold maxLen; omega)
              have hbs := bestR_succ (d.drop j) q hq25 (by rw [List.length_drop]; omega)
              have hbl : (bestR (d.drop j) q).length ≤ 100 := by
                unfold bestR
                split
                · rw [List.length_take]; have : tailN (d.drop j) ≤ 19 := Nat.min_le_left _ _; omega
                · simp
              clear hqd
              cases hpb : pathB ((d.drop j).take q) with
              | true =>
                have HX := Lib.hid (show bestR (d.drop j) (q + 1) = (d.drop j).take q by rw [hbs, hpb]; rfl)
                rw [hpb] at hip
                clear hbs hpb hbl
                generalize (d.drop j).take q = x at *
                go_wp2_with (go_at_call 44; refine hip.mono ?_; clear hip; rintro e2 w2 ⟨rfl, hb3⟩)
                exact ⟨⟨q + 1, by omega, by omega, .inr (by omega), by go_num, by rw [HX.out]; first | done | rfl | rw [hex], hbq.out.trans (hb3.mono hbq.out.size)⟩, by simp [intOf]; omega⟩
              | false =>
                have HX := Lib.hid (show bestR (d.drop j) (q + 1) = bestR (d.drop j) q by rw [hbs, hpb]; rfl)
                rw [hpb] at hip
                clear hbs hpb hbl
                generalize (d.drop j).take q = x at *
                go_wp2_with (go_at_call 44; refine hip.mono ?_; clear hip; rintro e2 w2 ⟨rfl, hb3⟩)
                exact ⟨⟨q + 1, by omega, by omega, .inr (by omega), by go_num, by rw [HX.out]; first | done | rfl | rw [hex], hbq.out.trans (hb3.mono hbq.out.size)⟩, by simp [intOf]; omega⟩
            · have hend := bestR_end (d.drop j) q hq25 (by rw [List.length_drop]; omega)
              rw [hend]
              clear hend
              have hown3 := own_below hown2.out hbq.out
              have hlen2 : n2 ≤ 10000000 := by
                have h1 := hown2.out.1
                have h2 := addAll_length (refsAll (ds.take k) ++ refsTo d j) []
                have h3 := HLE.out j hj
                rw [List.length_map] at h1
                simp only [List.length_nil] at h2
                omega
              have hbwr := hb2.out.trans (hbq.out.mono hb2.out.size)
              have hkk : (q ≤ 43 ∧ ¬ j + q ≤ d.length) ∨ ¬ q ≤ 43 := by omega
              by_cases hr : refP (d.drop j) = []
              · have HX := Lib.hid (refsTo_none d j hr)
                rw [hr]
                have HO3 := Lib.hid hown3
                have HBW := Lib.hid hbwr
                clear hr hown3 hbwr hin
                rcases hkk with ⟨k1, k2⟩ | k1
                all_goals
                  go_wp2_with (fail)
                  exact ⟨⟨j + 1, A2, n2, c2', by omega, by go_num, rfl, by rw [HX.out]; exact HO3.out, HBW.out⟩, by simp [intOf]; omega⟩
              · have HX := Lib.hid (refsTo_some d j hr)
                have had := refAdd_any hown3 hbwr.size (by omega) (refP (d.drop j))
                rw [← addAll_snoc] at had
                have hrl : (refP (d.drop j)).length ≤ 1000 := by
                  obtain ⟨_, _, _, h4⟩ := refP_len _ hr
                  have : tailN (d.drop j) ≤ 19 := Nat.min_le_left _ _
                  omega
                generalize refP (d.drop j) = r at *
                have hne : (r == []) = false := by simpa using hr
                have hnil : r.isEmpty = false := by cases r with | nil => exact absurd rfl hr | cons => rfl
                have HBW := Lib.hid hbwr
                clear hr hown3 hbwr hin
                rcases hkk with ⟨k1, k2⟩ | k1
                all_goals
                  go_wp2_with (go_at_call 85; refine had.mono ?_; clear had; rintro e2 w2 ⟨A4, n4, c4, rfl, ho4, hb4⟩)
                  exact ⟨⟨j + 1, A4, n4, c4, by omega, by go_num, rfl, by rw [HX.out, ← List.append_assoc]; exact ho4, HBW.out.trans (hb4.mono HBW.out.size)⟩, by simp [intOf]; omega⟩
        · have HX := Lib.hid (show refsTo d j = refsOne d from refsOne_short d j (by omega) hj)
          go_wp2_with (fail)
          exact ⟨⟨k + 1, A2, n2, c2', by omega, by go_num, rfl, by rw [HP.out, ← HX.out]; exact hown2.out, hb2.out⟩, by simp [intOf]; omega⟩
    · obtain rfl : k = n := by omega
      have HX := Lib.hid (show refsAll (ds.take k) = refsAll ds by rw [List.take_of_length_le (by have := HDL.out; omega)])
      go_wp2_with (fail)
      go_ret
      exact ⟨A', n', c', rfl, by rw [HOUT.out, ← HX.out]; exact hown.out, hb.out⟩

theorem textsEq_cases (a b : List Txt) (k : Nat) (ha : k < a.length) (hb : k < b.length) (h : a = b) : a[k] = b[k] := by subst h; rfl
set_option maxRecDepth 100000 in
set_option maxHeartbeats 1000000 in
/-- Two lists of the same texts are the same. -/
theorem refSameTexts_any {w : World} {B B' : Nat} {A A' : Option Addr} {n n' c c' : Nat} {L : List Txt} (h : Slc w B 1 A n c (L.map encStr)) (h' : Slc w B' 1 A' n' c' (L.map encStr)) :
    Calls Tryd.prog 48 #[.slice A n c, .slice A' n' c'] w fun e w' => e = .returned (.bool true) ∧ ∃ q, w' = w.drewN q := by
  obtain rfl : n = n' := by have h1 := h.len; have h2 := h'.len; omega
  have hn62 : n ≤ 9223372036854775807 := by have h1 := h.le; have h2 := h.cmax; unfold maxLen at h2; omega
  have H := Lib.hid h
  have H' := Lib.hid h'
  clear h h'
  go_enter Tryd.func48, Tryd.ntmps48
  go_wp2
  go_loopw [5] (fun i wr => ∃ k : Nat, k ≤ n ∧ i = .int .i64 (k : Int) ∧ Aside (∃ q, wr = w.drewN q)) (fun i _ => n - (intOf i).toNat)
  case atStart => exact ⟨0, Nat.zero_le _, rfl, 0, rfl⟩
  case round =>
    obtain ⟨k, hk, rfl, hdr⟩ := hrel
    have hbw : ∀ B, Below B w wr := fun B => by obtain ⟨q0, hq0⟩ := hdr.out; rw [hq0]; exact ⟨rfl, rfl, rfl, Nat.le_refl _, fun _ _ => rfl⟩
    by_cases hlt : k < n
    · obtain ⟨g, off, rfl, _, hkl, c0⟩ := strAt (H.out.below (hbw _)) hlt
      obtain ⟨g', off', rfl, _, hkl', d0⟩ := strAt (H'.out.below (hbw _)) hlt
      clear hbw
      generalize L[k] = x at *
      have tx : (ByteArray.mk x.toArray).toList = x := Go.ByteArray.toList_eq _
      have k1 : (x == x) = true := by simp
      go_wp2
      go_quiet (fail)
      go_wp2
      exact ⟨⟨k + 1, by omega, by go_num, drewN_more hdr.out _⟩, by simp [intOf]; omega⟩
    · obtain rfl : k = n := by omega
      go_wp2
      go_ret
      exact ⟨rfl, hdr.out⟩
end Go.Proofs.YtdhlklidenfbeaaDoor
