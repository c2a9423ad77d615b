/- The walk of tree.Right: is a list a tree? A number's text, and what stays beside a writer of bytes. The walk of tree.Bytes. Lists of entries in memory of the call's own. -/
import Derived.Test.YtibndaianhlcaaaDoorPart5
import Derived.Lib.QuietBelow
import Derived.BigQuiet
import Derived.Test.YtibndaianhlcaaaDoorPart1
import Derived.Lib.OthersKept
import Derived.Lib.ItoaLen
import Derived.Deep.RegionHeld3
import Derived.Lib.BufferOld
import Derived.Test.YtibndaianhlcaaaDoorPart3
namespace Go.Proofs.YtibndaianhlcaaaDoor
open Go.RowKit Go.Shelf
open Go.Sort (grow grow_empty)
set_option linter.unusedVariables false
set_option linter.unusedSimpArgs false

theorem bytesLess_txt : ∀ a b : Txt, Op.bytesLess a b = decide (a < b)
  | a, [] => by cases a <;> simp [Op.bytesLess]
  | [], b :: l => by simp [Op.bytesLess]
  | x :: a, y :: b => by
    rw [Op.bytesLess, bytesLess_txt a b, Bool.eq_iff_iff]
    simp [List.cons_lt_cons_iff]
theorem less_str (a b : Txt) : Op.bytesLess (ByteArray.mk a.toArray).toList (ByteArray.mk b.toArray).toList = decide (a < b) := by
  rw [Go.ByteArray.toList_eq, Go.ByteArray.toList_eq]
  exact bytesLess_txt a b
theorem fits_entry {l : List Ent} {i : Nat} {x : Ent} (h : entryB x = false) : fitsB l i x = false := by unfold fitsB; rw [h]; rfl
theorem fits_at {l : List Ent} {i k : Nat} {x : Ent} (hk : k < i) (hl : k < l.length) (h : aheadB l[k].path x.path = false) : fitsB l i x = false := by
  unfold fitsB
  rw [show ((l.take i).all fun y => aheadB y.path x.path) = false from List.all_eq_false.2 ⟨l[k], List.mem_iff_getElem?.2 ⟨k, by rw [List.getElem?_take, if_pos hk, List.getElem?_eq_getElem hl]⟩, by rw [h]; decide⟩, Bool.and_false]
theorem fits_last {l : List Ent} {i : Nat} {x : Ent} (h0 : 0 < i) (hl : i - 1 < l.length) (h : ¬ l[i - 1].path < x.path) : fitsB l i x = false := fits_at (k := i - 1) (by omega) hl (by unfold aheadB; rw [decide_eq_false h]; rfl)
theorem fits_pre {l : List Ent} {i k : Nat} {x : Ent} (hk : k < i) (hl : k < l.length) (h : (l[k].path ++ [47]).isPrefixOf x.path = true) : fitsB l i x = false := fits_at hk hl (by unfold aheadB; rw [h]; simp)
theorem fits_ok {l : List Ent} {i : Nat} {x : Ent} (hi : i ≤ l.length) (he : entryB x = true) (hr : rightTo l i = true) (h0 : ∀ (h : 0 < i) (hl : i - 1 < l.length), l[i - 1].path < x.path) (hp : ∀ k (hk : k < l.length), k < i → (l[k].path ++ [47]).isPrefixOf x.path = false) : fitsB l i x = true := by
  unfold fitsB
  rw [he, Bool.true_and]
  refine List.all_eq_true.2 fun y hy => ?_
  obtain ⟨k, hk⟩ := List.mem_iff_getElem?.1 hy
  rw [List.getElem?_take] at hk
  split at hk
  · rename_i hki
    obtain ⟨hkl, rfl⟩ := List.getElem?_eq_some_iff.1 hk
    unfold aheadB
    rw [hp k hkl hki, Bool.and_eq_true]
    refine ⟨decide_eq_true ?_, rfl⟩
    have hlast := h0 (by omega) (by omega)
    by_cases hq : k = i - 1
    · subst hq; exact hlast
    · exact txt_trans (rightTo_lt hr k (i - 1) hkl (by omega) (by omega) (by omega)) hlast
  · cases hk
theorem pre_str (x y : Txt) (W : World) : Calls Tryd.prog 57 #[.string ⟨x.toArray⟩, .string (⟨y.toArray⟩ ++ ⟨#[47]⟩)] W fun e w' => e = .returned (.bool ((y ++ [47]).isPrefixOf x)) ∧ w' = W := by
  have h := Tryd.strings_HasPrefix ⟨x.toArray⟩ (⟨y.toArray⟩ ++ ⟨#[47]⟩) W
  have e1 : ((⟨y.toArray⟩ : ByteArray) ++ ⟨#[47]⟩).data.toList = y ++ [47] := by simp
  rw [e1] at h
  exact h
theorem ents_get {es : List EV} {k : Nat} (h : k < es.length) (h' : k < (es.map EV.ent).length) : (es.map EV.ent)[k] = es[k].ent := by simp

set_option maxRecDepth 100000 in
set_option maxHeartbeats 1000000 in
theorem right_any {w : World} {B : Nat} {A : Option Addr} {n c : Nat} {es : List EV} (h : EntsAt w B A n c es) (hB : B ≤ w.heap.size) (hp : ∀ e ∈ es, e.path.length ≤ 1000000000) :
    Calls Tryd.prog 40 #[.slice A n c] w fun e w' => e = .returned (.bool (rightB (es.map EV.ent))) ∧ Below w.heap.size w w' := by
  obtain ⟨l, hl⟩ : ∃ l, l = es.map EV.ent := ⟨_, rfl⟩
  have hll : l.length = n := by rw [hl, List.length_map, h.len]
  rw [← hl]
  have hnc := h.slc.le
  have hcm := h.slc.cmax
  have hn62 : n ≤ 9223372036854775807 := by unfold maxLen at hcm; omega
  have hc62 : c ≤ 9223372036854775807 := by unfold maxLen at hcm; omega
  by_cases h24 : 24 < n
  · have HG := Lib.hid (show rightB l = false by unfold rightB; rw [decide_eq_false (by omega)]; rfl)
    clear h hl hp hll
    go_enter Tryd.func40, Tryd.ntmps40
    go_wp2
    go_ret
    exact ⟨by rw [HG.out]; rfl, Below.refl _ _⟩
  have hn24 : n ≤ 24 := by omega
  have HG := Lib.hid (show rightB l = rightTo l l.length by unfold rightB; rw [decide_eq_true (by omega)]; rfl)
  have HBAD := Lib.hid (fun (k : Nat) (hk : k < l.length) (h : fitsB l k l[k] = false) => rightB_false (l := l) hk (fun _ => h))
  have H := Lib.hid h
  have HP := Lib.hid hp
  have HL := Lib.hid hl
  have HLL := Lib.hid hll
  clear h hp hl hll
  go_enter Tryd.func40, Tryd.ntmps40
  go_wp2_with (fail)
  go_loopw [12] (fun i wr => ∃ (k : Nat), k ≤ n ∧ i = .int .i64 (k : Int) ∧ Aside (rightTo l k = true) ∧ Aside (Below w.heap.size w wr)) (fun i _ => n - (intOf i).toNat)
  case atStart => exact ⟨0, Nat.zero_le _, rfl, rightTo_zero l, Below.refl _ _⟩
  case round =>
    obtain ⟨k, hk, rfl, hr, hb⟩ := hrel
    by_cases hlt : k < n
    · obtain ⟨b, off, rfl, hbB, hkl, c0, c1, c2, hS⟩ := (H.out.below (hb.out.mono hB)).at_ hlt
      have hkl' : k < l.length := by rw [HLL.out]; exact hlt
      have HLK := Lib.hid (show l[k] = es[k].ent by have := HL.out; subst this; exact ents_get hkl hkl')
      have hpl := HP.out _ (List.getElem_mem hkl)
      have HBK := Lib.hid (HBAD.out k hkl')
      rw [HLK.out] at HBK
      generalize es[k] = e at *
      have hbb : b < wr.heap.size := Nat.lt_of_lt_of_le hbB (Nat.le_trans hB hb.out.size)
      obtain ⟨W1, hW1⟩ : ∃ W1, W1 = wr.alloc (.cells #[.string ⟨e.path.toArray⟩, .int .i64 e.kind, .slice e.A e.n e.c] 44) := ⟨_, rfl⟩
      have hbw : Below wr.heap.size wr W1 := by rw [hW1]; exact (Below.refl _ _).alloc (Nat.le_refl _) _
      have hbox : Blk W1 wr.heap.size 44 #[.string ⟨e.path.toArray⟩, .int .i64 e.kind, .slice e.A e.n e.c] := by rw [hW1]; exact Blk.new _ _ _
      have hz1 : W1.heap.size = wr.heap.size + 1 := by rw [hW1]; simp
      have HE := Lib.hid (fun (W : World) (hw : Below W1.heap.size W1 W) => entry_any (w := W) (B := B) e ((hS.below (hbw.mono (Nat.le_trans hB hb.out.size))).below (hw.mono (by rw [hz1]; have := hb.out.size; omega))) (by have := hw.size; have := hb.out.size; omega) hpl)
      have HK := Lib.hid (fun (W : World) (hw : Below W1.heap.size W1 W) => show W.cell? ⟨wr.heap.size, 0, none⟩ = some (.string ⟨e.path.toArray⟩) ∧ W.cell? ⟨wr.heap.size, 1, none⟩ = some (.int .i64 e.kind) ∧ W.cell? ⟨wr.heap.size, 2, none⟩ = some (.slice e.A e.n e.c) from ⟨(hbox.below hw hbox.lt).cell 0, (hbox.below hw hbox.lt).cell 1, (hbox.below hw hbox.lt).cell 2⟩)
      have hdr : Below W1.heap.size W1 W1.drew := (Below.refl _ W1).drew
      obtain ⟨k0, k1, k2⟩ := HK.out W1 (Below.refl _ W1)
      have HW1 := Lib.hid hW1
      have HB1' := Lib.hid hbw
      have HSZ := Lib.hid (show w.heap.size ≤ W1.heap.size by have := hb.out.size; omega)
      have HB1 := Lib.hid (show Below w.heap.size wr W1 from hbw.mono hb.out.size)
      have hr0 := cell_regrown k0
      have hr1 := cell_regrown k1
      have hr2 := cell_regrown k2
      clear hbw hbox hS hpl hW1
      have HC0 : ∀ d os, Calls Tryd.prog 56 #[.agg (evArr e)] (grow (redrawn W1 d) os) fun v w'' => v = .returned (.bool (entryB e.ent)) ∧ ∃ p : Regrown, w'' = grow (redrawn W1 p.d) p.os := fun d os => Calls.regrown_of ((HE.out _ (below_regrown W1 d os)).mono fun v w' h => ⟨h.1, h.2⟩)
      cases hev : entryB e.ent with
      | false =>
        have HR := Lib.hid (HBK.out (fits_entry hev))
        rw [hev] at HC0
        have HC := Lib.hid HC0
        clear HC0
        go_wp2_with (fail)
        rw [← HW1.out]
        clear HW1
        refine wp_region_quiet_below (by kernel_rfl) (by kernel_rfl) ?_
        repeat (any_goals (first | go_big_quiet_step ((go_at_call 56; exact HC.out _ _)) | quiet_step ((go_at_call 56; exact HC.out _ _))))
        refine wpQuiet_nil ?_
        intro _ hw'
        obtain ⟨⟨dq, osq⟩, hw''⟩ := hw'
        subst hw''
        go_wp2
        go_ret
        exact ⟨by rw [HR.out]; rfl, hb.out.trans (HB1.out.trans ((below_regrown _ dq osq).mono (by have := hb.out.size; omega)))⟩
      | true =>
        rw [hev] at HC0
        have HC := Lib.hid HC0
        clear HC0
        have HFIT := Lib.hid (fun h0 hp => (rightTo_succ l k hkl').trans (by rw [HLK.out, fits_ok (x := e.ent) (Nat.le_of_lt hkl') hev hr.out h0 hp, hr.out]))
        have HBP := Lib.hid (fun (j : Nat) (hj : j < l.length) (hjk : j < k) h => HBK.out (fits_pre (k := j) hjk hj h))
        by_cases hk0 : 0 < k
        focus
          obtain ⟨m, hm⟩ : ∃ m, k = m + 1 := ⟨k - 1, by omega⟩
          obtain ⟨b', off', hA, _, hml, d0, _, _, _⟩ := (H.out.below (hb.out.mono hB)).at_ (k := m) (by omega)
          injection hA with hA
          injection hA with e1 e2
          subst e1 e2
          have hml' : m < l.length := by rw [HLL.out]; omega
          have hlm : l[m] = es[m].ent := by have := HL.out; subst this; exact ents_get hml hml'
          have HPV := Lib.hid hlm
          have hd0 := cell_regrown ((HB1'.out.cell (p := ⟨b, off + m * 3, none⟩) hbb).trans d0)
          generalize es[m] = pe at *
          have hwm : IntKind.i64.wrap ((k : Int) - 1) = (m : Int) := by rw [IntWalk.i64_in _ (by omega)]; omega
          have hmn : m < n := by omega
          have h2 : k - 1 = m := by omega
          have hcmp := less_str pe.path e.path
          have hcmp2 := bytesLess_txt pe.path e.path
          by_cases hlp : pe.path < e.path
          rotate_left
          focus
            rw [decide_eq_false hlp] at hcmp hcmp2
            have HR := Lib.hid (HBK.out (fits_last (l := l) hk0 (by omega) (by simp only [h2, HPV.out]; exact hlp)))
            clear d0 hlp hm h2
            go_wp2_with (fail)
            rw [← HW1.out]
            clear HW1
            refine wp_region_quiet_below (by kernel_rfl) (by kernel_rfl) ?_
            repeat (any_goals (first | go_big_quiet_step ((go_at_call 56; exact HC.out _ _)) | quiet_step ((go_at_call 56; exact HC.out _ _))))
            refine wpQuiet_nil ?_
            intro _ hw'
            obtain ⟨⟨dq, osq⟩, hw''⟩ := hw'
            subst hw''
            go_wp2
            go_ret
            exact ⟨by rw [HR.out]; rfl, hb.out.trans (HB1.out.trans ((below_regrown _ dq osq).mono (by have := hb.out.size; omega)))⟩
          rw [decide_eq_true hlp] at hcmp hcmp2
          replace HFIT := Lib.hid (HFIT.out (fun _ hl' => by simp only [h2, HPV.out]; exact hlp))
          clear d0 hlp hm h2
        rotate_left
        focus
          replace HFIT := Lib.hid (HFIT.out (fun h _ => absurd h hk0))
          have hk1 : decide (0 < k) = false := decide_eq_false hk0
          have hk2 : decide ((0 : Int) < (k : Int)) = false := decide_eq_false (by omega)
        all_goals
          go_wp2_with (fail)
          rw [← HW1.out]
          clear HW1
          refine wp_region_quiet_below (by kernel_rfl) (by kernel_rfl) ?_
          repeat (any_goals (first | go_big_quiet_step ((go_at_call 56; exact HC.out _ _)) | quiet_step ((go_at_call 56; exact HC.out _ _))))
          refine wpQuiet_nil ?_
          intro _ hw'
          obtain ⟨⟨dq, osq⟩, hw''⟩ := hw'
          subst hw''
          obtain ⟨w3, hw3⟩ : ∃ w3, w3 = grow (redrawn W1 dq) osq := ⟨_, rfl⟩
          have hb3 : Below W1.heap.size W1 w3 := by rw [hw3]; exact below_regrown _ _ _
          rw [← hw3]
          clear hw3 hk0
          try clear hk1 hk2
          have hkc : k ≤ c := by omega
          obtain ⟨gx, hgx⟩ : ∃ gx, gx = wr.heap.size := ⟨_, rfl⟩
          have hgl : gx < W1.heap.size := by omega
          rw [← hgx] at HK ⊢
          clear hgx k0 k1 k2 hr0 hr1 hr2
          go_wp2_with (fail)
          go_loopw [39] (fun i wq => ∃ (j : Nat), j ≤ k ∧ i = .int .i64 (j : Int) ∧ Aside (∀ j' (hj : j' < l.length), j' < j → (l[j'].path ++ [47]).isPrefixOf e.path = false) ∧ Aside (Below W1.heap.size W1 wq)) (fun i _ => k - (intOf i).toNat)
          case atStart => exact ⟨0, Nat.zero_le _, rfl, fun j' _ h => absurd h (Nat.not_lt_zero _), hb3⟩
          case round =>
            obtain ⟨j, hj, rfl, hpre, hbq⟩ := hrel
            have hbQ : Below w.heap.size w wr := hb.out.trans (HB1.out.trans (hbq.out.mono HSZ.out))
            by_cases hjk : j < k
            · obtain ⟨bj, offj, hA, _, hjl, g0, g1, g2, _⟩ := (H.out.below (hbQ.mono hB)).at_ (k := j) (by omega)
              injection hA with hA
              injection hA with e1 e2
              subst e1 e2
              have hjl' : j < l.length := by rw [HLL.out]; omega
              have HLJ := Lib.hid (show l[j] = es[j].ent by have := HL.out; subst this; exact ents_get hjl hjl')
              have hyl := HP.out _ (List.getElem_mem hjl)
              generalize es[j] = y at *
              have hn1 : ¬ 9223372036854775807 < y.path.length + 1 := by omega
              have hgw : gx < wr.heap.size := Nat.lt_of_lt_of_le hgl hbq.out.size
              have hgn : ¬ gx = wr.heap.size := by omega
              have hgn2 : ¬ wr.heap.size = gx := by omega
              have hjn : j < n := by omega
              obtain ⟨x0, x1, x2⟩ := HK.out (wr.alloc (.cells #[.string ⟨y.path.toArray⟩, .int .i64 y.kind, .slice y.A y.n y.c] 44)) (hbq.out.alloc hbq.out.size _)
              have hHP := pre_str e.path y.path
              have hbq2 := hbq.out.alloc hbq.out.size (.cells #[.string ⟨y.path.toArray⟩, .int .i64 y.kind, .slice y.A y.n y.c] 44)
              cases hpx : (y.path ++ [47]).isPrefixOf e.path with
              | true =>
                have HR := Lib.hid (HBP.out j hjl' hjk (by rw [HLJ.out]; exact hpx))
                rw [hpx] at hHP
                clear hyl
                go_wp2_with (go_at_call 57; refine (hHP _).mono ?_; rintro e5 w5 ⟨rfl, rfl⟩)
                go_ret
                exact ⟨by rw [HR.out]; rfl, hb.out.trans (HB1.out.trans (hbq2.mono HSZ.out))⟩
              | false =>
                rw [hpx] at hHP
                clear hyl
                go_wp2_with (go_at_call 57; refine (hHP _).mono ?_; rintro e5 w5 ⟨rfl, rfl⟩)
                refine ⟨⟨j + 1, by omega, by go_num, fun j' hj' hlt' => ?_, hbq2⟩, by simp [intOf]; omega⟩
                by_cases he : j' = j
                · subst he; rw [HLJ.out]; exact hpx
                · exact hpre.out j' hj' (by omega)
            · obtain rfl : j = k := by omega
              have hnext := HFIT.out (fun k' hk' hlt' => hpre.out k' hk' hlt')
              go_wp2_with (fail)
              exact ⟨⟨j + 1, by omega, by go_num, hnext, hbQ⟩, by simp [intOf]; omega⟩
    · obtain rfl : k = n := by omega
      have HR := Lib.hid (show rightB l = true by rw [HG.out, HLL.out]; exact hr.out)
      go_wp2
      go_ret
      exact ⟨by rw [HR.out]; rfl, hb.out⟩
end Go.Proofs.YtibndaianhlcaaaDoor
namespace Go.Proofs.YtibndaianhlcaaaDoor
open Go.RowKit Go.Sort
set_option linter.unusedVariables false
set_option linter.unusedSimpArgs false

theorem blk_others {w w' : World} {b g : Nat} {t : TypeId} {cs : Array Value} (h : Blk w g t cs) (hk : Lib.OthersKept 5 (some b) w w') (hg : g ≠ b) (ht : t ≠ 5) : Blk w' g t cs :=
  hk g _ h (fun e => hg (Option.some.inj e)) (fun c fz e => by injection e with _ e2 _; exact ht e2)

theorem below_drewN {B : Nat} (w : World) (k : Nat) : Below B w (w.drewN k) := ⟨rfl, rfl, rfl, Nat.le_refl _, fun _ _ => rfl⟩
theorem below_grown (w : World) (k : Nat) (os : Array Obj) : Below w.heap.size w (grow (w.drewN k) os) :=
  ⟨rfl, rfl, rfl, by simp [grow], fun i hi => by simp [grow, Array.getElem?_append, hi]⟩
theorem itoa_len (n : Nat) (h : n < 100000) : (Lib.itoa (n : Int)).length ≤ 1000 := Nat.le_trans (Lib.itoa_length_le n (by omega) (by omega)) (by decide)
end Go.Proofs.YtibndaianhlcaaaDoor
namespace Go.Proofs.YtibndaianhlcaaaDoor
open Go.RowKit Go.Shelf
set_option linter.unusedVariables false
set_option linter.unusedSimpArgs false

def kindW (k : Int) : Txt := if k = 3 then [108, 32] else [102, 32]
def entT (x : Ent) : Txt := kindW x.kind ++ x.path ++ [32] ++ Lib.itoa (x.data.length : Int) ++ [10] ++ x.data ++ [10]
def entsT (l : List Ent) (k : Nat) : Txt := [116, 114, 101, 101, 10] ++ (l.take k).flatMap entT
/-- A tree's bytes. -/
def bytesB (l : List Ent) : Txt := if rightB l = true then entsT l l.length ++ [101, 110, 100, 10] else []
theorem entsT_zero (l : List Ent) : entsT l 0 = [116, 114, 101, 101, 10] := by simp [entsT]
theorem entsT_succ (l : List Ent) (k : Nat) (h : k < l.length) : entsT l (k + 1) = entsT l k ++ entT l[k] := by
  unfold entsT
  rw [List.take_succ_eq_append_getElem h, List.flatMap_append, ← List.append_assoc]
  simp
theorem kindW_length (k : Int) : (kindW k).length = 2 := by unfold kindW; split <;> rfl
theorem entryB_len {x : Ent} (h : entryB x = true) : x.path.length ≤ 120 ∧ x.data.length ≤ 2048 := by
  unfold entryB at h
  simp only [Bool.and_eq_true, decide_eq_true_eq] at h
  exact h.1.1.1
theorem entryB_kind {x : Ent} (h : entryB x = true) : x.kind = 3 ∨ x.kind = 1 := by
  unfold entryB at h
  simp only [Bool.and_eq_true, decide_eq_true_eq] at h
  by_cases h3 : x.kind = 3
  · exact .inl h3
  · have := h.2
    rw [if_neg h3] at this
    exact .inr (by simpa using this)
theorem rightB_entry {l : List Ent} (h : rightB l = true) : l.length ≤ 24 ∧ ∀ (i : Nat) (hi : i < l.length), fitsB l i l[i] = true := by
  unfold rightB at h
  rw [Bool.and_eq_true, decide_eq_true_eq] at h
  refine ⟨h.1, fun i hi => ?_⟩
  have h1 := List.all_eq_true.1 (show ((List.range l.length).all fun i => match l[i]? with | some x => fitsB l i x | none => true) = true from h.2) i (List.mem_range.2 hi)
  rw [List.getElem?_eq_getElem hi] at h1
  exact h1
theorem rightB_len {l : List Ent} (h : rightB l = true) : l.length ≤ 24 ∧ ∀ x ∈ l, x.path.length ≤ 120 ∧ x.data.length ≤ 2048 := by
  obtain ⟨h1, h2⟩ := rightB_entry h
  refine ⟨h1, fun x hx => ?_⟩
  obtain ⟨i, hi, rfl⟩ := List.mem_iff_getElem.1 hx
  have := h2 i hi
  unfold fitsB at this
  rw [Bool.and_eq_true] at this
  exact entryB_len this.1
theorem entT_length {x : Ent} (h : x.path.length ≤ 120 ∧ x.data.length ≤ 2048) : (entT x).length ≤ 4000 := by
  have := itoa_len x.data.length (by omega)
  unfold entT
  simp only [List.length_append, List.length_cons, List.length_nil, kindW_length]
  omega
theorem flat_length {α β : Type} (f : α → List β) (b : Nat) : ∀ l : List α, (∀ x ∈ l, (f x).length ≤ b) → (l.flatMap f).length ≤ l.length * b
  | [], _ => by simp
  | x :: l, h => by
    have h1 := h x (List.mem_cons_self ..)
    have h2 := flat_length f b l (fun y hy => h y (List.mem_cons_of_mem _ hy))
    rw [List.flatMap_cons, List.length_append, List.length_cons, Nat.succ_mul]
    omega
theorem entsT_length {l : List Ent} (h : l.length ≤ 24 ∧ ∀ x ∈ l, x.path.length ≤ 120 ∧ x.data.length ≤ 2048) (k : Nat) : (entsT l k).length ≤ 100000 := by
  have h1 := flat_length entT 4000 (l.take k) (fun x hx => entT_length (h.2 x (List.mem_of_mem_take hx)))
  have h2 : (l.take k).length ≤ 24 := by rw [List.length_take]; omega
  unfold entsT
  simp only [List.length_append, List.length_cons, List.length_nil]
  have := Nat.mul_le_mul_right 4000 h2
  omega

def BytesPost (w : World) (t : Txt) : Ending → World → Prop := fun e w' => ∃ A n c, e = .returned (.slice A n c) ∧ w'.ownsRow w.heap.size 5 1 (.slice A n c) n (t.map bv) ∧ Below w.heap.size w w'
theorem own_mono {w : World} {b b' : Nat} {e : TypeId} {size : Nat} {v : Value} {n : Nat} {xs : List Value} (h : w.ownsRow b e size v n xs) (hb : b' ≤ b) : w.ownsRow b' e size v n xs :=
  ⟨h.1, h.2.imp id fun ⟨g, c, cur, e1, h1, h2⟩ => ⟨g, c, cur, e1, Nat.le_trans hb h1, h2⟩⟩
end Go.Proofs.YtibndaianhlcaaaDoor
namespace Go.Proofs.YtibndaianhlcaaaDoor
open Go.RowKit Go.Shelf
set_option linter.unusedVariables false
set_option linter.unusedSimpArgs false

theorem ent_info : (Tryd.prog.info? 44).map (fun i => (i.zero, i.size, i.bytes)) = some (some (.agg #[.string .empty, .int .i64 0, .slice none 0 0]), 3, 48) := by kernel_rfl
theorem evCells_one (es : List EV) : ∀ u ∈ es.flatMap evCells, u.oneCell' = true := by
  intro u hu
  obtain ⟨e, _, he⟩ := List.mem_flatMap.1 hu
  simp only [evCells, List.mem_cons, List.not_mem_nil, or_false] at he
  rcases he with rfl | rfl | rfl <;> rfl
/-- A block of bytes that may be written. -/
def FreeB (w : World) (g : Nat) : Prop := ∃ cur, w.heap[g]? = some (.cells cur 5 (0, 0))
theorem FreeB.of {w w' : World} {g : Nat} (h : FreeB w g) (hb : w'.heap[g]? = w.heap[g]?) : FreeB w' g := by
  obtain ⟨c, hc⟩ := h
  exact ⟨c, hb.trans hc⟩
theorem FreeB.set_ {w : World} {g : Nat} (h : FreeB w g) (p : Addr) (u : Value) : FreeB (w.setCell p u) g := by
  obtain ⟨c, hc⟩ := h
  by_cases e : p.block = g
  · subst e
    cases hs : p.spot with
    | none => exact ⟨c.setIfInBounds p.off u, by simp [World.setCell, Array.getElem?_modify, hc, hs]⟩
    | some i => exact ⟨c, by simp [World.setCell, Array.getElem?_modify, hc, hs]⟩
  · refine ⟨c, (Below.heap_setCell w p u g (fun e' => e e'.symm)).trans hc⟩
theorem FreeB.own {w : World} {base : Nat} {g n c : Nat} {xs : List Value} (h : w.ownsRow base 5 1 (.slice (some ⟨g, 0, none⟩) n c) n xs) : FreeB w g := by
  rcases h.2 with ⟨e, _⟩ | ⟨g', cap, cur, e, _, h2, _⟩
  · injection e with e; cases e
  · injection e with e
    injection e with e
    injection e with e
    subst e
    exact ⟨cur, h2⟩
/-- Entries in memory of the call's own, each one's bytes in a block of their own. -/
structure OwnEnts (w : World) (base : Nat) (v : Value) (n : Nat) (es : List EV) : Prop where
  own : w.ownsRow base 44 3 v n (es.flatMap evCells)
  slc : ∀ e ∈ es, Slc w w.heap.size 1 e.A e.n e.c (e.data.map bv)
  data : ∀ e ∈ es, ∃ g, e.A = some ⟨g, 0, none⟩ ∧ base ≤ g ∧ g < w.heap.size ∧ v.ownBlock ≠ some g
  free : ∀ e ∈ es, ∀ g, e.A = some ⟨g, 0, none⟩ → FreeB w g
theorem OwnEnts.len {w : World} {base : Nat} {v : Value} {n : Nat} {es : List EV} (h : OwnEnts w base v n es) : es.length = n := by
  have := h.own.1
  rw [flatMap_len evCells 3 es (fun o _ => evCells_length o)] at this
  omega
theorem OwnEnts.nil (w : World) (base : Nat) : OwnEnts w base (.slice none 0 0) 0 [] := ⟨World.ownsRow_nil _ _ _ _, (fun e he => by cases he), (fun e he => by cases he), (fun e he => by cases he)⟩
theorem OwnEnts.below {w w' : World} {base : Nat} {v : Value} {n : Nat} {es : List EV} (h : OwnEnts w base v n es) (hb : Below w.heap.size w w') : OwnEnts w' base v n es :=
  ⟨own_below h.own hb, fun e he => ((h.slc e he).below hb).more hb.size, fun e he => by
    obtain ⟨g, h1, h2, h3, h4⟩ := h.data e he
    exact ⟨g, h1, h2, Nat.lt_of_lt_of_le h3 hb.size, h4⟩, fun e he g hg => by
    obtain ⟨g', h1, h2, h3, h4⟩ := h.data e he
    rw [hg] at h1
    injection h1 with h1
    injection h1 with h1
    subst h1
    exact (h.free e he g hg).of (hb.block g h3)⟩
theorem OwnEnts.ents {w : World} {base : Nat} {A : Option Addr} {n c : Nat} {es : List EV} (h : OwnEnts w base (.slice A n c) n es) : EntsAt w w.heap.size A n c es :=
  ⟨own_slc_of h.own, h.len, h.slc⟩
/-- append of an entry whose bytes lie in a block of their own. -/
theorem OwnEnts.append {w : World} {base : Nat} {v : Value} {n : Nat} {es : List EV} (h : OwnEnts w base v n es) (e : EV) (hS : Slc w w.heap.size 1 e.A e.n e.c (e.data.map bv)) (hg : ∃ g, e.A = some ⟨g, 0, none⟩ ∧ base ≤ g ∧ g < w.heap.size ∧ v.ownBlock ≠ some g) (hf : ∀ g, e.A = some ⟨g, 0, none⟩ → FreeB w g)
    (hn : n ≤ 1000000000) (hbase : base ≤ w.heap.size) :
    ∃ A' c' w', (Builtin.append_ #[28, 28] 28 #[v, .slice (some ⟨w.heap.size, 0, none⟩) 1 1]).run Tryd.prog (w.alloc (.cells #[.string ⟨e.path.toArray⟩, .int .i64 e.kind, .slice e.A e.n e.c] 44)) = .ok (.slice A' (n + 1) c') w' ∧
      OwnEnts w' base (.slice A' (n + 1) c') (n + 1) (es ++ [e]) ∧ (w.alloc (.cells #[.string ⟨e.path.toArray⟩, .int .i64 e.kind, .slice e.A e.n e.c] 44)).grownBy w' v.ownBlock ∧
      ((Value.slice A' (n + 1) c').ownBlock = v.ownBlock ∨ (Value.slice A' (n + 1) c').ownBlock = some (w.heap.size + 1)) := by
  obtain ⟨i, hi, hz0, hz1, hz2⟩ := info_parts ent_info
  have hs := slc_new w 44 (0, 0) #[.string ⟨e.path.toArray⟩, .int .i64 e.kind, .slice e.A e.n e.c] (sz := 3) (n := 1) (c := 1) rfl (Nat.le_refl _) (by decide)
  obtain ⟨A', c', w', h1, h2, h3, h4⟩ := append_slc (P := Tryd.prog) (w.alloc (.cells #[.string ⟨e.path.toArray⟩, .int .i64 e.kind, .slice e.A e.n e.c] 44)) base 28 28 44 i _ 3 48 Tryd.underlying28 hi hz0 hz1 hz2 rfl (by decide) v n (es.flatMap evCells) (h.own.alloc _) _ _ 1 1 (evCells e) hs (fun u hu => evCells_one [e] u (by simpa using hu)) (by unfold maxLen; omega) (by omega) (by simp; omega)
  rw [World.size_alloc] at h4
  have hz : w.heap.size + 1 ≤ w'.heap.size := by have := h3.size; simpa using this
  have key : ∀ x : EV, Slc w w.heap.size 1 x.A x.n x.c (x.data.map bv) → (∃ g, x.A = some ⟨g, 0, none⟩ ∧ base ≤ g ∧ g < w.heap.size ∧ v.ownBlock ≠ some g) →
      Slc w' w'.heap.size 1 x.A x.n x.c (x.data.map bv) ∧ ∃ g, x.A = some ⟨g, 0, none⟩ ∧ base ≤ g ∧ g < w'.heap.size ∧ (Value.slice A' (n + 1) c').ownBlock ≠ some g := by
    rintro x hx ⟨g, g1, g2, g3, g4⟩
    refine ⟨⟨hx.len, hx.le, hx.cmax, fun hp => ?_⟩, g, g1, g2, by omega, fun e' => ?_⟩
    · obtain ⟨b, off, e1, hb, hc⟩ := hx.at_ hp
      rw [g1] at e1
      injection e1 with e1
      injection e1 with e1 e2
      subst e1 e2
      refine ⟨g, 0, g1, by omega, fun j u hu => ?_⟩
      have h5 : w'.heap[g]? = w.heap[g]? := (h3.block g (by simp; omega) (fun e => g4 e.symm)).trans (Below.heap_alloc w _ g g3)
      rw [World.cell?_of_block (w := w) (a := ⟨g, 0 + j, none⟩) h5]
      exact hc j u hu
    · rcases h4 with h4 | h4
      · rw [h4] at e'; exact g4 e'
      · rw [h4] at e'; injection e' with e'; omega
  have keyf : ∀ x : EV, (∃ g, x.A = some ⟨g, 0, none⟩ ∧ base ≤ g ∧ g < w.heap.size ∧ v.ownBlock ≠ some g) → (∀ g, x.A = some ⟨g, 0, none⟩ → FreeB w g) → ∀ g, x.A = some ⟨g, 0, none⟩ → FreeB w' g := by
    rintro x ⟨g, g1, g2, g3, g4⟩ hfx g' hg'
    have h6 := hfx g' hg'
    rw [g1] at hg'
    injection hg' with hg'
    injection hg' with hg'
    subst hg'
    refine h6.of ?_
    exact (h3.block g (by simp; omega) (fun e => g4 e.symm)).trans (Below.heap_alloc w _ g g3)
  refine ⟨A', c', w', h1, ⟨?_, fun x hx => ?_, fun x hx => ?_, fun x hx => ?_⟩, h3, h4⟩
  · rw [List.flatMap_append]
    simpa using h2
  · rcases List.mem_append.1 hx with hx | hx
    · exact (key x (h.slc x hx) (h.data x hx)).1
    · rw [List.mem_singleton.1 hx]; exact (key e hS hg).1
  · rcases List.mem_append.1 hx with hx | hx
    · exact (key x (h.slc x hx) (h.data x hx)).2
    · rw [List.mem_singleton.1 hx]; exact (key e hS hg).2
  · rcases List.mem_append.1 hx with hx | hx
    · exact keyf x (h.data x hx) (h.free x hx)
    · rw [List.mem_singleton.1 hx]; exact keyf e hg hf
theorem own_keep {w w' : World} {base : Nat} {e : TypeId} {sz : Nat} {v : Value} {n : Nat} {xs : List Value} (h : w.ownsRow base e sz v n xs) (hb : ∀ k, v.ownBlock = some k → w'.heap[k]? = w.heap[k]?) : w'.ownsRow base e sz v n xs := by
  refine ⟨h.1, ?_⟩
  rcases h.2 with hn | ⟨g, cap, cur, rfl, h1, h2, rest⟩
  · exact .inl hn
  · exact .inr ⟨g, cap, cur, rfl, h1, by rw [hb g rfl]; exact h2, rest⟩
/-- A store elsewhere. -/
theorem OwnEnts.set_ {w : World} {base : Nat} {v : Value} {n : Nat} {es : List EV} (h : OwnEnts w base v n es) {p : Addr} (hp : v.ownBlock ≠ some p.block) (hd : ∀ e ∈ es, ∀ g, e.A = some ⟨g, 0, none⟩ → g ≠ p.block) (u : Value) : OwnEnts (w.setCell p u) base v n es := by
  have hsz : (w.setCell p u).heap.size = w.heap.size := by simp [World.setCell]
  refine ⟨own_keep h.own (fun k hk => Below.heap_setCell w p u k (fun e => hp (by rw [hk, e]))), fun e he => ?_, fun e he => by rw [hsz]; exact h.data e he, fun e he g hg => (h.free e he g hg).set_ p u⟩
  obtain ⟨g, g1, g2, g3, g4⟩ := h.data e he
  have hx := h.slc e he
  refine ⟨hx.len, hx.le, hx.cmax, fun hn => ?_⟩
  obtain ⟨b, off, e1, hb, hc⟩ := hx.at_ hn
  rw [g1] at e1
  injection e1 with e1
  injection e1 with e1 e2
  subst e1 e2
  refine ⟨g, 0, g1, by rw [hsz]; exact hb, fun j w' hu => ?_⟩
  rw [World.cell?_of_block (w := w) (a := ⟨g, 0 + j, none⟩) (Below.heap_setCell w p u g (hd e he g g1))]
  exact hc j w' hu
end Go.Proofs.YtibndaianhlcaaaDoor
