/- The walk of tree.Right: is a list a tree? -/
import Derived.Test.YtdhlklidenfbeaaGreatDoorEntry
import Derived.Lib.QuietBelow
import Derived.BigQuiet
namespace Go.Proofs.YtdhlklidenfbeaaGreatDoor
open Go.RowKit Go.Shelf
open Go.Sort (grow grow_empty)
set_option linter.unusedVariables false
set_option linter.unusedSimpArgs false

theorem bytesLess_txt : ∀ a b : Txt, Op.bytesLess a b = decide (a < b)
  | a, [] => by cases a <;> simp [Op.bytesLess]
  | [], b :: l => by simp [Op.bytesLess]
  | x :: a, y :: b => by
    rw [Op.bytesLess, bytesLess_txt a b, Bool.eq_iff_iff]
    simp [List.cons_lt_cons_iff]
theorem less_str (a b : Txt) : Op.bytesLess (ByteArray.mk a.toArray).toList (ByteArray.mk b.toArray).toList = decide (a < b) := by
  rw [Go.ByteArray.toList_eq, Go.ByteArray.toList_eq]
  exact bytesLess_txt a b
theorem fits_entry {l : List Ent} {i : Nat} {x : Ent} (h : entryB x = false) : fitsB l i x = false := by unfold fitsB; rw [h]; rfl
theorem fits_at {l : List Ent} {i k : Nat} {x : Ent} (hk : k < i) (hl : k < l.length) (h : aheadB l[k].path x.path = false) : fitsB l i x = false := by
  unfold fitsB
  rw [show ((l.take i).all fun y => aheadB y.path x.path) = false from List.all_eq_false.2 ⟨l[k], List.mem_iff_getElem?.2 ⟨k, by rw [List.getElem?_take, if_pos hk, List.getElem?_eq_getElem hl]⟩, by rw [h]; decide⟩, Bool.and_false]
theorem fits_last {l : List Ent} {i : Nat} {x : Ent} (h0 : 0 < i) (hl : i - 1 < l.length) (h : ¬ l[i - 1].path < x.path) : fitsB l i x = false := fits_at (k := i - 1) (by omega) hl (by unfold aheadB; rw [decide_eq_false h]; rfl)
theorem fits_pre {l : List Ent} {i k : Nat} {x : Ent} (hk : k < i) (hl : k < l.length) (h : (l[k].path ++ [47]).isPrefixOf x.path = true) : fitsB l i x = false := fits_at hk hl (by unfold aheadB; rw [h]; simp)
theorem fits_ok {l : List Ent} {i : Nat} {x : Ent} (hi : i ≤ l.length) (he : entryB x = true) (hr : rightTo l i = true) (h0 : ∀ (h : 0 < i) (hl : i - 1 < l.length), l[i - 1].path < x.path) (hp : ∀ k (hk : k < l.length), k < i → (l[k].path ++ [47]).isPrefixOf x.path = false) : fitsB l i x = true := by
  unfold fitsB
  rw [he, Bool.true_and]
  refine List.all_eq_true.2 fun y hy => ?_
  obtain ⟨k, hk⟩ := List.mem_iff_getElem?.1 hy
  rw [List.getElem?_take] at hk
  split at hk
  · rename_i hki
    obtain ⟨hkl, rfl⟩ := List.getElem?_eq_some_iff.1 hk
    unfold aheadB
    rw [hp k hkl hki, Bool.and_eq_true]
    refine ⟨decide_eq_true ?_, rfl⟩
    have hlast := h0 (by omega) (by omega)
    by_cases hq : k = i - 1
    · subst hq; exact hlast
    · exact txt_trans (rightTo_lt hr k (i - 1) hkl (by omega) (by omega) (by omega)) hlast
  · cases hk
theorem pre_str (x y : Txt) (W : World) : Calls Tryz.prog 47 #[.string ⟨x.toArray⟩, .string (⟨y.toArray⟩ ++ ⟨#[47]⟩)] W fun e w' => e = .returned (.bool ((y ++ [47]).isPrefixOf x)) ∧ w' = W := by
  have h := Tryz.strings_HasPrefix ⟨x.toArray⟩ (⟨y.toArray⟩ ++ ⟨#[47]⟩) W
  have e1 : ((⟨y.toArray⟩ : ByteArray) ++ ⟨#[47]⟩).data.toList = y ++ [47] := by simp
  rw [e1] at h
  exact h
theorem ents_get {es : List EV} {k : Nat} (h : k < es.length) (h' : k < (es.map EV.ent).length) : (es.map EV.ent)[k] = es[k].ent := by simp

set_option maxRecDepth 100000 in
set_option maxHeartbeats 1000000 in
theorem right_any {w : World} {B : Nat} {A : Option Addr} {n c : Nat} {es : List EV} (h : EntsAt w B A n c es) (hB : B ≤ w.heap.size) (hp : ∀ e ∈ es, e.path.length ≤ 1000000000) :
    Calls Tryz.prog 20 #[.slice A n c] w fun e w' => e = .returned (.bool (rightB (es.map EV.ent))) ∧ Below w.heap.size w w' := by
  obtain ⟨l, hl⟩ : ∃ l, l = es.map EV.ent := ⟨_, rfl⟩
  have hll : l.length = n := by rw [hl, List.length_map, h.len]
  rw [← hl]
  have hnc := h.slc.le
  have hcm := h.slc.cmax
  have hn62 : n ≤ 9223372036854775807 := by unfold maxLen at hcm; omega
  have hc62 : c ≤ 9223372036854775807 := by unfold maxLen at hcm; omega
  by_cases h24 : 24 < n
  · have HG := Lib.hid (show rightB l = false by unfold rightB; rw [decide_eq_false (by omega)]; rfl)
    clear h hl hp hll
    go_enter Tryz.func20, Tryz.ntmps20
    go_wp2
    go_ret
    exact ⟨by rw [HG.out]; rfl, Below.refl _ _⟩
  have hn24 : n ≤ 24 := by omega
  have HG := Lib.hid (show rightB l = rightTo l l.length by unfold rightB; rw [decide_eq_true (by omega)]; rfl)
  have HBAD := Lib.hid (fun (k : Nat) (hk : k < l.length) (h : fitsB l k l[k] = false) => rightB_false (l := l) hk (fun _ => h))
  have H := Lib.hid h
  have HP := Lib.hid hp
  have HL := Lib.hid hl
  have HLL := Lib.hid hll
  clear h hp hl hll
  go_enter Tryz.func20, Tryz.ntmps20
  go_wp2_with (fail)
  go_loopw [12] (fun i wr => ∃ (k : Nat), k ≤ n ∧ i = .int .i64 (k : Int) ∧ Aside (rightTo l k = true) ∧ Aside (Below w.heap.size w wr)) (fun i _ => n - (intOf i).toNat)
  case atStart => exact ⟨0, Nat.zero_le _, rfl, rightTo_zero l, Below.refl _ _⟩
  case round =>
    obtain ⟨k, hk, rfl, hr, hb⟩ := hrel
    by_cases hlt : k < n
    · obtain ⟨b, off, rfl, hbB, hkl, c0, c1, c2, hS⟩ := (H.out.below (hb.out.mono hB)).at_ hlt
      have hkl' : k < l.length := by rw [HLL.out]; exact hlt
      have HLK := Lib.hid (show l[k] = es[k].ent by have := HL.out; subst this; exact ents_get hkl hkl')
      have hpl := HP.out _ (List.getElem_mem hkl)
      have HBK := Lib.hid (HBAD.out k hkl')
      rw [HLK.out] at HBK
      generalize es[k] = e at *
      have hbb : b < wr.heap.size := Nat.lt_of_lt_of_le hbB (Nat.le_trans hB hb.out.size)
      obtain ⟨W1, hW1⟩ : ∃ W1, W1 = wr.alloc (.cells #[.string ⟨e.path.toArray⟩, .int .i64 e.kind, .slice e.A e.n e.c] 73) := ⟨_, rfl⟩
      have hbw : Below wr.heap.size wr W1 := by rw [hW1]; exact (Below.refl _ _).alloc (Nat.le_refl _) _
      have hbox : Blk W1 wr.heap.size 73 #[.string ⟨e.path.toArray⟩, .int .i64 e.kind, .slice e.A e.n e.c] := by rw [hW1]; exact Blk.new _ _ _
      have hz1 : W1.heap.size = wr.heap.size + 1 := by rw [hW1]; simp
      have HE := Lib.hid (fun (W : World) (hw : Below W1.heap.size W1 W) => entry_any (w := W) (B := B) e ((hS.below (hbw.mono (Nat.le_trans hB hb.out.size))).below (hw.mono (by rw [hz1]; have := hb.out.size; omega))) (by have := hw.size; have := hb.out.size; omega) hpl)
      have HK := Lib.hid (fun (W : World) (hw : Below W1.heap.size W1 W) => show W.cell? ⟨wr.heap.size, 0, none⟩ = some (.string ⟨e.path.toArray⟩) ∧ W.cell? ⟨wr.heap.size, 1, none⟩ = some (.int .i64 e.kind) ∧ W.cell? ⟨wr.heap.size, 2, none⟩ = some (.slice e.A e.n e.c) from ⟨(hbox.below hw hbox.lt).cell 0, (hbox.below hw hbox.lt).cell 1, (hbox.below hw hbox.lt).cell 2⟩)
      have hdr : Below W1.heap.size W1 W1.drew := (Below.refl _ W1).drew
      obtain ⟨k0, k1, k2⟩ := HK.out W1 (Below.refl _ W1)
      have HW1 := Lib.hid hW1
      have HB1' := Lib.hid hbw
      have HSZ := Lib.hid (show w.heap.size ≤ W1.heap.size by have := hb.out.size; omega)
      have HB1 := Lib.hid (show Below w.heap.size wr W1 from hbw.mono hb.out.size)
      have hr0 := cell_regrown k0
      have hr1 := cell_regrown k1
      have hr2 := cell_regrown k2
      clear hbw hbox hS hpl hW1
      have HC0 : ∀ d os, Calls Tryz.prog 46 #[.agg (evArr e)] (grow (redrawn W1 d) os) fun v w'' => v = .returned (.bool (entryB e.ent)) ∧ ∃ p : Regrown, w'' = grow (redrawn W1 p.d) p.os := fun d os => Calls.regrown_of ((HE.out _ (below_regrown W1 d os)).mono fun v w' h => ⟨h.1, h.2⟩)
      cases hev : entryB e.ent with
      | false =>
        have HR := Lib.hid (HBK.out (fits_entry hev))
        rw [hev] at HC0
        have HC := Lib.hid HC0
        clear HC0
        go_wp2_with (fail)
        rw [← HW1.out]
        clear HW1
        refine wp_region_quiet_below (by kernel_rfl) (by kernel_rfl) ?_
        repeat (any_goals (first | go_big_quiet_step ((go_at_call 46; exact HC.out _ _)) | quiet_step ((go_at_call 46; exact HC.out _ _))))
        refine wpQuiet_nil ?_
        intro _ hw'
        obtain ⟨⟨dq, osq⟩, hw''⟩ := hw'
        subst hw''
        go_wp2
        go_ret
        exact ⟨by rw [HR.out]; rfl, hb.out.trans (HB1.out.trans ((below_regrown _ dq osq).mono (by have := hb.out.size; omega)))⟩
      | true =>
        rw [hev] at HC0
        have HC := Lib.hid HC0
        clear HC0
        have HFIT := Lib.hid (fun h0 hp => (rightTo_succ l k hkl').trans (by rw [HLK.out, fits_ok (x := e.ent) (Nat.le_of_lt hkl') hev hr.out h0 hp, hr.out]))
        have HBP := Lib.hid (fun (j : Nat) (hj : j < l.length) (hjk : j < k) h => HBK.out (fits_pre (k := j) hjk hj h))
        by_cases hk0 : 0 < k
        focus
          obtain ⟨m, hm⟩ : ∃ m, k = m + 1 := ⟨k - 1, by omega⟩
          obtain ⟨b', off', hA, _, hml, d0, _, _, _⟩ := (H.out.below (hb.out.mono hB)).at_ (k := m) (by omega)
          injection hA with hA
          injection hA with e1 e2
          subst e1 e2
          have hml' : m < l.length := by rw [HLL.out]; omega
          have hlm : l[m] = es[m].ent := by have := HL.out; subst this; exact ents_get hml hml'
          have HPV := Lib.hid hlm
          have hd0 := cell_regrown ((HB1'.out.cell (p := ⟨b, off + m * 3, none⟩) hbb).trans d0)
          generalize es[m] = pe at *
          have hwm : IntKind.i64.wrap ((k : Int) - 1) = (m : Int) := by rw [IntWalk.i64_in _ (by omega)]; omega
          have hmn : m < n := by omega
          have h2 : k - 1 = m := by omega
          have hcmp := less_str pe.path e.path
          have hcmp2 := bytesLess_txt pe.path e.path
          by_cases hlp : pe.path < e.path
          rotate_left
          focus
            rw [decide_eq_false hlp] at hcmp hcmp2
            have HR := Lib.hid (HBK.out (fits_last (l := l) hk0 (by omega) (by simp only [h2, HPV.out]; exact hlp)))
            clear d0 hlp hm h2
            go_wp2_with (fail)
            rw [← HW1.out]
            clear HW1
            refine wp_region_quiet_below (by kernel_rfl) (by kernel_rfl) ?_
            repeat (any_goals (first | go_big_quiet_step ((go_at_call 46; exact HC.out _ _)) | quiet_step ((go_at_call 46; exact HC.out _ _))))
            refine wpQuiet_nil ?_
            intro _ hw'
            obtain ⟨⟨dq, osq⟩, hw''⟩ := hw'
            subst hw''
            go_wp2
            go_ret
            exact ⟨by rw [HR.out]; rfl, hb.out.trans (HB1.out.trans ((below_regrown _ dq osq).mono (by have := hb.out.size; omega)))⟩
          rw [decide_eq_true hlp] at hcmp hcmp2
          replace HFIT := Lib.hid (HFIT.out (fun _ hl' => by simp only [h2, HPV.out]; exact hlp))
          clear d0 hlp hm h2
        rotate_left
        focus
          replace HFIT := Lib.hid (HFIT.out (fun h _ => absurd h hk0))
          have hk1 : decide (0 < k) = false := decide_eq_false hk0
          have hk2 : decide ((0 : Int) < (k : Int)) = false := decide_eq_false (by omega)
        all_goals
          go_wp2_with (fail)
          rw [← HW1.out]
          clear HW1
          refine wp_region_quiet_below (by kernel_rfl) (by kernel_rfl) ?_
          repeat (any_goals (first | go_big_quiet_step ((go_at_call 46; exact HC.out _ _)) | quiet_step ((go_at_call 46; exact HC.out _ _))))
          refine wpQuiet_nil ?_
          intro _ hw'
          obtain ⟨⟨dq, osq⟩, hw''⟩ := hw'
          subst hw''
          obtain ⟨w3, hw3⟩ : ∃ w3, w3 = grow (redrawn W1 dq) osq := ⟨_, rfl⟩
          have hb3 : Below W1.heap.size W1 w3 := by rw [hw3]; exact below_regrown _ _ _
          rw [← hw3]
          clear hw3 hk0
          try clear hk1 hk2
          have hkc : k ≤ c := by omega
          obtain ⟨gx, hgx⟩ : ∃ gx, gx = wr.heap.size := ⟨_, rfl⟩
          have hgl : gx < W1.heap.size := by omega
          rw [← hgx] at HK ⊢
          clear hgx k0 k1 k2 hr0 hr1 hr2
          go_wp2_with (fail)
          go_loopw [39] (fun i wq => ∃ (j : Nat), j ≤ k ∧ i = .int .i64 (j : Int) ∧ Aside (∀ j' (hj : j' < l.length), j' < j → (l[j'].path ++ [47]).isPrefixOf e.path = false) ∧ Aside (Below W1.heap.size W1 wq)) (fun i _ => k - (intOf i).toNat)
          case atStart => exact ⟨0, Nat.zero_le _, rfl, fun j' _ h => absurd h (Nat.not_lt_zero _), hb3⟩
          case round =>
            obtain ⟨j, hj, rfl, hpre, hbq⟩ := hrel
            have hbQ : Below w.heap.size w wr := hb.out.trans (HB1.out.trans (hbq.out.mono HSZ.out))
            by_cases hjk : j < k
            · obtain ⟨bj, offj, hA, _, hjl, g0, g1, g2, _⟩ := (H.out.below (hbQ.mono hB)).at_ (k := j) (by omega)
              injection hA with hA
              injection hA with e1 e2
              subst e1 e2
              have hjl' : j < l.length := by rw [HLL.out]; omega
              have HLJ := Lib.hid (show l[j] = es[j].ent by have := HL.out; subst this; exact ents_get hjl hjl')
              have hyl := HP.out _ (List.getElem_mem hjl)
              generalize es[j] = y at *
              have hn1 : ¬ 9223372036854775807 < y.path.length + 1 := by omega
              have hgw : gx < wr.heap.size := Nat.lt_of_lt_of_le hgl hbq.out.size
              have hgn : ¬ gx = wr.heap.size := by omega
              have hgn2 : ¬ wr.heap.size = gx := by omega
              have hjn : j < n := by omega
              obtain ⟨x0, x1, x2⟩ := HK.out (wr.alloc (.cells #[.string ⟨y.path.toArray⟩, .int .i64 y.kind, .slice y.A y.n y.c] 73)) (hbq.out.alloc hbq.out.size _)
              have hHP := pre_str e.path y.path
              have hbq2 := hbq.out.alloc hbq.out.size (.cells #[.string ⟨y.path.toArray⟩, .int .i64 y.kind, .slice y.A y.n y.c] 73)
              cases hpx : (y.path ++ [47]).isPrefixOf e.path with
              | true =>
                have HR := Lib.hid (HBP.out j hjl' hjk (by rw [HLJ.out]; exact hpx))
                rw [hpx] at hHP
                clear hyl
                go_wp2_with (go_at_call 47; refine (hHP _).mono ?_; rintro e5 w5 ⟨rfl, rfl⟩)
                go_ret
                exact ⟨by rw [HR.out]; rfl, hb.out.trans (HB1.out.trans (hbq2.mono HSZ.out))⟩
              | false =>
                rw [hpx] at hHP
                clear hyl
                go_wp2_with (go_at_call 47; refine (hHP _).mono ?_; rintro e5 w5 ⟨rfl, rfl⟩)
                refine ⟨⟨j + 1, by omega, by go_num, fun j' hj' hlt' => ?_, hbq2⟩, by simp [intOf]; omega⟩
                by_cases he : j' = j
                · subst he; rw [HLJ.out]; exact hpx
                · exact hpre.out j' hj' (by omega)
            · obtain rfl : j = k := by omega
              have hnext := HFIT.out (fun k' hk' hlt' => hpre.out k' hk' hlt')
              go_wp2_with (fail)
              exact ⟨⟨j + 1, by omega, by go_num, hnext, hbQ⟩, by simp [intOf]; omega⟩
    · obtain rfl : k = n := by omega
      have HR := Lib.hid (show rightB l = true by rw [HG.out, HLL.out]; exact hr.out)
      go_wp2
      go_ret
      exact ⟨by rw [HR.out]; rfl, hb.out⟩
end Go.Proofs.YtdhlklidenfbeaaGreatDoor
