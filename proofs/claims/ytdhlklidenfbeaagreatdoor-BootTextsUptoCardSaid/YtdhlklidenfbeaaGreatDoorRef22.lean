/- The walks of the reference's has and Right (bootjackref22). -/
import Derived.Test.YtdhlklidenfbeaaGreatDoorRefPath
import Derived.Test.YtdhlklidenfbeaaGreatDoorBootS
import Derived.Deep.QuietTactic
import Derived.BigQuiet
namespace Go.Proofs.YtdhlklidenfbeaaGreatDoor
open Go.RowKit
set_option linter.unusedVariables false
set_option linter.unusedSimpArgs false

set_option maxRecDepth 100000 in
set_option maxHeartbeats 1000000 in
theorem has_any {w : World} {B : Nat} {A : Option Addr} {n c : Nat} {m : Menu} (h : GensAt w B A n c m.gens) (hB : B ≤ w.heap.size) (num : Int) :
    Calls Tryz.prog 32 #[menuV m A n c, .int .i64 num] w fun e w' => e = .returned (.bool (hasB m.gens num)) ∧ Below w.heap.size w w' := by
  obtain ⟨W1, hW1⟩ : ∃ W1, W1 = w.alloc (.cells #[.int .i64 m.last, .int .i64 m.def_, .int .i64 m.next, .int .i64 m.trial, .slice A n c] 24) := ⟨_, rfl⟩
  have hb1 : Below w.heap.size w W1 := by rw [hW1]; exact (Below.refl _ w).alloc (Nat.le_refl _) _
  have hM1 : Blk W1 w.heap.size 24 #[.int .i64 m.last, .int .i64 m.def_, .int .i64 m.next, .int .i64 m.trial, .slice A n c] := by rw [hW1]; exact Blk.new _ _ _
  obtain ⟨c0, c1, c2, c3, c4, cf⟩ := menu_facts hM1
  have hG := h.below (hb1.mono hB)
  have hlen := h.len
  have hn62 : n ≤ 9223372036854775807 := by have := h.slc.le; have := h.slc.cmax; unfold maxLen at this; omega
  have H := Lib.hid hG
  have HL := Lib.hid hlen
  have HB1 := Lib.hid hb1
  rw [hW1] at c0 c1 c2 c3 c4 cf
  clear hM1 hG hlen h hb1
  unfold menuV
  go_enter Tryz.func32, Tryz.ntmps32
  go_wp2
  go_loop [5] (fun i => ∃ k : Nat, k ≤ n ∧ i = .int .i64 (k : Int) ∧ Aside (∀ i (hi : i < m.gens.length), i < k → m.gens[i].num ≠ num)) (fun i => n - (intOf i).toNat)
  case atStart => exact ⟨0, Nat.zero_le _, rfl, fun i _ h => absurd h (Nat.not_lt_zero _)⟩
  case round =>
    obtain ⟨k, hk, rfl, hno⟩ := hrel
    by_cases hlt : k < n
    · obtain ⟨b, off, rfl, hbB, hl, d0, d1⟩ := H.out.at_ hlt
      rw [hW1] at d0 d1
      by_cases hhit : m.gens[k].num = num
      · have HA := Lib.hid (atG_eq m.gens num k hl hhit (fun i hi hik => hno.out i hi hik)).2
        have he : (m.gens[k].num == num) = true := by simpa using hhit
        clear hhit
        generalize m.gens[k] = g at *
        go_wp2
        go_ret
        exact ⟨by rw [HA.out]; rfl, hW1 ▸ HB1.out⟩
      · have HN := Lib.hid (show ∀ i (hi : i < m.gens.length), i < k + 1 → m.gens[i].num ≠ num from fun i hi hik => by
          rcases Nat.lt_or_ge i k with h1 | h1
          · exact hno.out i hi h1
          · obtain rfl : i = k := by omega
            exact hhit)
        have he : (m.gens[k].num == num) = false := by simpa using hhit
        clear hhit
        generalize m.gens[k] = g at *
        go_wp2
        exact ⟨⟨k + 1, by omega, by go_num, HN.out⟩, by simp [intOf]; omega⟩
    · have HF := Lib.hid (hasB_false (l := m.gens) (n := num) fun i hi => hno.out i hi (by have := HL.out; omega))
      go_wp2
      go_ret
      exact ⟨by rw [HF.out]; rfl, hW1 ▸ HB1.out⟩

theorem ref3 (m : Menu) (x : Int) : ((x == 0) = true ∧ refB m x = true) ∨ ((x == 0) = false ∧ hasB m.gens x = true ∧ refB m x = true) ∨ ((x == 0) = false ∧ hasB m.gens x = false ∧ refB m x = false) := by
  rcases refB_cases m x with ⟨a, b⟩ | ⟨a, b, c⟩ | ⟨a, b, c⟩
  · exact .inl ⟨by simpa using a, b⟩
  · exact .inr (.inl ⟨by simpa using a, b, c⟩)
  · exact .inr (.inr ⟨by simpa using a, b, c⟩)

theorem drewN_below {B : Nat} {a w : World} (h : Below B a w) (q : Nat) : Below B a (w.drewN q) := ⟨h.os, h.tape, h.output, h.size, h.block⟩
section
attribute [local go_sem ↓] load_menu_mark
set_option maxRecDepth 100000 in
set_option maxHeartbeats 8000000 in
theorem refRight_any {w : World} {B : Nat} {A : Option Addr} {n c : Nat} {m : Menu} (h : GensAt w B A n c m.gens) (hB : B ≤ w.heap.size) (hpl : ∀ g ∈ m.gens, g.path.length ≤ 1000000000) :
    Calls Tryz.prog 9 #[menuV m A n c] w fun e w' => e = .returned (.bool (menuB m)) ∧ Below w.heap.size w w' := by
  have hlen := h.len
  have hn62 : n ≤ 9223372036854775807 := by have := h.slc.le; have := h.slc.cmax; unfold maxLen at this; omega
  obtain ⟨W1, hW1⟩ : ∃ W1, W1 = w.alloc (.cells #[.int .i64 m.last, .int .i64 m.def_, .int .i64 m.next, .int .i64 m.trial, .slice A n c] 24) := ⟨_, rfl⟩
  have hb1 : Below w.heap.size w W1 := by rw [hW1]; exact (Below.refl _ w).alloc (Nat.le_refl _) _
  have hz1 : W1.heap.size = w.heap.size + 1 := by rw [hW1]; simp
  have hM1 : Blk W1 w.heap.size 24 #[.int .i64 m.last, .int .i64 m.def_, .int .i64 m.next, .int .i64 m.trial, .slice A n c] := by rw [hW1]; exact Blk.new _ _ _
  by_cases hhead : 0 ≤ m.last ∧ m.last ≤ 999999 ∧ m.gens.length ≤ 16
  case neg =>
    have HF := Lib.hid (menuB_false_head hhead)
    have hc : m.last < 0 ∨ 999999 < m.last ∨ (¬ m.last < 0 ∧ ¬ 999999 < m.last ∧ 16 < n) := by omega
    clear hhead
    rw [hW1] at hb1
    clear hM1 hz1 hW1 hlen h
    unfold menuV
    rcases hc with hc | hc | ⟨hc1, hc2, hc3⟩
    all_goals
      go_enter Tryz.func9, Tryz.ntmps9
      go_wp2_with (fail)
      go_ret
      exact ⟨by rw [HF.out]; rfl, hb1⟩
  obtain ⟨hl0, hl1, hl2⟩ := hhead
  have hn16 : n ≤ 16 := by omega
  have H := Lib.hid h
  have HPL := Lib.hid hpl
  have HLEN := Lib.hid hlen
  have HB1 := Lib.hid hb1
  have HM1 := Lib.hid hM1
  have HHEAD := Lib.hid (show 0 ≤ m.last ∧ m.last ≤ 999999 ∧ m.gens.length ≤ 16 from ⟨hl0, hl1, hl2⟩)
  clear h hpl hlen hb1 hM1 hl2 hz1
  subst hW1
  unfold menuV
  go_enter Tryz.func9, Tryz.ntmps9
  go_wp2_with (fail)
  go_loopw [3] (fun i wr => ∃ k : Nat, k ≤ n ∧ i = .int .i64 (k : Int) ∧ Aside (gensTo m k = true) ∧ Aside (Blk wr w.heap.size 24 #[.int .i64 m.last, .int .i64 m.def_, .int .i64 m.next, .int .i64 m.trial, .slice A n c]) ∧ Aside (Below w.heap.size w wr)) (fun i _ => n - (intOf i).toNat)
  case atStart => exact ⟨0, Nat.zero_le _, rfl, gensTo_zero m, HM1.out, HB1.out⟩
  case round =>
    obtain ⟨k, hk, rfl, hto, hM, hb⟩ := hrel
    obtain ⟨c0, c1, c2, c3, c4, cf⟩ := menu_facts hM.out
    by_cases hlt : k < n
    · obtain ⟨b, off, rfl, hbB, hl, d0, d1⟩ := (H.out.below (hb.out.mono hB)).at_ hlt
      have hbl : b < wr.heap.size := Nat.lt_of_lt_of_le hbB (Nat.le_trans hB hb.out.size)
      obtain ⟨W2, hW2⟩ : ∃ W2, W2 = wr.alloc (.cells #[.int .i64 m.gens[k].num, .string ⟨m.gens[k].path.toArray⟩] 61) := ⟨_, rfl⟩
      have hbw : Below wr.heap.size wr W2 := by rw [hW2]; exact (Below.refl wr.heap.size wr).alloc (Nat.le_refl _) _
      have hG2 : Blk W2 wr.heap.size 61 #[.int .i64 m.gens[k].num, .string ⟨m.gens[k].path.toArray⟩] := by rw [hW2]; exact Blk.new _ _ _
      have hip := isPath_any m.gens[k].path W2 (by have := HPL.out _ (List.getElem_mem hl); unfold maxLen; omega)
      have HP0 := Lib.hid (gensTo_pos hto.out (by rw [HLEN.out]; exact hk))
      have HGB := Lib.hid (genB_at m k hl)
      have HF := Lib.hid (fun (he : genB m k = false) => menuB_false_gen (m := m) hl (fun _ => he))
      have HT := Lib.hid (fun (he : genB m k = true) => show gensTo m (k + 1) = true by rw [gensTo_succ, hto.out, he]; rfl)
      have HMA := Lib.hid (hM.out.below hbw hM.out.lt)
      have HBA := Lib.hid (hb.out.trans (hbw.mono hb.out.size))
      have hMlt := hM.out.lt
      have HG := Lib.hid hG2
      have HG2LT := Lib.hid hG2.lt
      have hprev : (k = 0 ∧ prevN m.gens k = 0 ∨ ∃ j, k = j + 1 ∧ ∃ hj : j < m.gens.length, prevN m.gens k = m.gens[j].num ∧ ∀ W', Below wr.heap.size wr W' → W'.cell? ⟨b, off + j * 2, none⟩ = some (.int .i64 m.gens[j].num)) := by
        cases k with
        | zero => exact .inl ⟨rfl, rfl⟩
        | succ j =>
          have hj : j < m.gens.length := by omega
          refine .inr ⟨j, rfl, hj, prevN_succ _ _ hj, fun W' hw => ?_⟩
          obtain ⟨b', off', e, _, _, q0, _⟩ := (H.out.below ((hb.out.trans (hw.mono hb.out.size)).mono hB)).at_ (k := j) (by omega)
          injection e with e
          injection e with e1 e2
          subst e1 e2
          exact q0
      have HPREV := Lib.hid hprev
      clear hprev
      rw [hW2] at hip
      have hbw0 := hbw
      clear hbw hG2
      generalize hgk : m.gens[k] = g at *
      cases hpb : pathB g.path with
      | false =>
        have HX := Lib.hid (HF.out (by rw [HGB.out, hpb]; rfl))
        rw [hpb] at hip
        clear hgk
        go_wp2_with (go_at_call 31; refine hip.mono ?_; clear hip; rintro e5 w5 ⟨rfl, hb5⟩; rw [← hW2] at hb5; obtain ⟨g0, g1, gf⟩ : w5.cell? ⟨wr.heap.size, 0, none⟩ = some (.int .i64 g.num) ∧ w5.cell? ⟨wr.heap.size, 1, none⟩ = some (.string ⟨g.path.toArray⟩) ∧ True := ⟨(HG.out.below hb5 HG2LT.out).cell 0, (HG.out.below hb5 HG2LT.out).cell 1, trivial⟩; obtain ⟨e0, e1, e2, e3, e4, ef⟩ := menu_facts (HMA.out.below hb5 HMA.out.lt))
        go_quiet (fail)
        go_wp2
        go_ret
        exact ⟨by rw [HX.out]; rfl, HBA.out.trans (drewN_below (hb5.mono HBA.out.size) _)⟩
      | true =>
        rw [hpb] at hip
        rw [hpb, Bool.true_and] at HGB
        by_cases q1 : g.num < 1
        · have HX := Lib.hid (HF.out (by rw [HGB.out]; have := HP0.out; simp; omega))
          have k1 : decide (g.num < 1) = true := decide_eq_true q1
          clear hgk q1
          go_wp2_with (go_at_call 31; refine hip.mono ?_; clear hip; rintro e5 w5 ⟨rfl, hb5⟩; rw [← hW2] at hb5; obtain ⟨g0, g1, gf⟩ : w5.cell? ⟨wr.heap.size, 0, none⟩ = some (.int .i64 g.num) ∧ w5.cell? ⟨wr.heap.size, 1, none⟩ = some (.string ⟨g.path.toArray⟩) ∧ True := ⟨(HG.out.below hb5 HG2LT.out).cell 0, (HG.out.below hb5 HG2LT.out).cell 1, trivial⟩; obtain ⟨e0, e1, e2, e3, e4, ef⟩ := menu_facts (HMA.out.below hb5 HMA.out.lt))
          go_quiet (fail)
          go_wp2
          go_ret
          exact ⟨by rw [HX.out]; rfl, HBA.out.trans (drewN_below (hb5.mono HBA.out.size) _)⟩
        have k1 : decide (g.num < 1) = false := decide_eq_false q1
        by_cases q2 : m.last < g.num
        · have HX := Lib.hid (HF.out (by rw [HGB.out]; simp; omega))
          have k2 : decide (m.last < g.num) = true := decide_eq_true q2
          clear hgk q1 q2
          go_wp2_with (go_at_call 31; refine hip.mono ?_; clear hip; rintro e5 w5 ⟨rfl, hb5⟩; rw [← hW2] at hb5; obtain ⟨g0, g1, gf⟩ : w5.cell? ⟨wr.heap.size, 0, none⟩ = some (.int .i64 g.num) ∧ w5.cell? ⟨wr.heap.size, 1, none⟩ = some (.string ⟨g.path.toArray⟩) ∧ True := ⟨(HG.out.below hb5 HG2LT.out).cell 0, (HG.out.below hb5 HG2LT.out).cell 1, trivial⟩; obtain ⟨e0, e1, e2, e3, e4, ef⟩ := menu_facts (HMA.out.below hb5 HMA.out.lt))
          go_quiet (fail)
          go_wp2
          go_ret
          exact ⟨by rw [HX.out]; rfl, HBA.out.trans (drewN_below (hb5.mono HBA.out.size) _)⟩
        have k2 : decide (m.last < g.num) = false := decide_eq_false q2
        rcases HPREV.out with ⟨hk0, hpv⟩ | ⟨j, hkj, hj, hpv, hcell⟩
        · have HX := Lib.hid (HT.out (by rw [HGB.out, hpv]; simp; omega))
          have k3 : decide ((0 : Int) < (k : Int)) = false := decide_eq_false (by omega)
          have k5 : decide (0 < k) = false := decide_eq_false (by omega)
          clear hgk hpv q1 q2 hk0
          go_wp2_with (go_at_call 31; refine hip.mono ?_; clear hip; rintro e5 w5 ⟨rfl, hb5⟩; rw [← hW2] at hb5; obtain ⟨g0, g1, gf⟩ : w5.cell? ⟨wr.heap.size, 0, none⟩ = some (.int .i64 g.num) ∧ w5.cell? ⟨wr.heap.size, 1, none⟩ = some (.string ⟨g.path.toArray⟩) ∧ True := ⟨(HG.out.below hb5 HG2LT.out).cell 0, (HG.out.below hb5 HG2LT.out).cell 1, trivial⟩; obtain ⟨e0, e1, e2, e3, e4, ef⟩ := menu_facts (HMA.out.below hb5 HMA.out.lt))
          go_quiet (fail)
          go_wp2
          exact ⟨⟨k + 1, by omega, by go_num, HX.out, (HMA.out.below hb5 HMA.out.lt).drewN _, HBA.out.trans (drewN_below (hb5.mono HBA.out.size) _)⟩, by simp [intOf]; omega⟩
        · have hcell := Lib.hid hcell
          have HBW := Lib.hid hbw0
          have hwr1 : IntKind.i64.wrap ((k : Int) - 1) = (j : Int) := by rw [hkj, IntKind.wrap_i64]; omega
          have hwr2 : wrap64 ((k : Int) - 1) = (j : Int) := by rw [hkj]; unfold wrap64; omega
          have k3 : decide ((0 : Int) < (k : Int)) = true := decide_eq_true (by omega)
          have k5 : decide (0 < k) = true := decide_eq_true (by omega)
          have hjn : j < n := by omega
          have hj0 : (0 : Int) ≤ (j : Int) := by omega
          have hjn' : (j : Int) < (n : Int) := by omega
          by_cases q3 : g.num ≤ m.gens[j].num
          · have HX := Lib.hid (HF.out (by rw [HGB.out, hpv]; simp; omega))
            have k4 : decide (g.num ≤ m.gens[j].num) = true := decide_eq_true q3
            clear hgk hpv q1 q2 q3 hkj
            generalize m.gens[j].num = pv at *
            go_wp2_with (go_at_call 31; refine hip.mono ?_; clear hip; rintro e5 w5 ⟨rfl, hb5⟩; rw [← hW2] at hb5; obtain ⟨g0, g1, gf⟩ : w5.cell? ⟨wr.heap.size, 0, none⟩ = some (.int .i64 g.num) ∧ w5.cell? ⟨wr.heap.size, 1, none⟩ = some (.string ⟨g.path.toArray⟩) ∧ True := ⟨(HG.out.below hb5 HG2LT.out).cell 0, (HG.out.below hb5 HG2LT.out).cell 1, trivial⟩; obtain ⟨e0, e1, e2, e3, e4, ef⟩ := menu_facts (HMA.out.below hb5 HMA.out.lt); have p0 := hcell.out w5 (HBW.out.trans (hb5.mono HBW.out.size)))
            go_quiet (fail)
            go_wp2
            go_ret
            exact ⟨by rw [HX.out]; rfl, HBA.out.trans (drewN_below (hb5.mono HBA.out.size) _)⟩
          · have HX := Lib.hid (HT.out (by rw [HGB.out, hpv]; simp; omega))
            have k4 : decide (g.num ≤ m.gens[j].num) = false := decide_eq_false q3
            clear hgk hpv q1 q2 q3 hkj
            generalize m.gens[j].num = pv at *
            go_wp2_with (go_at_call 31; refine hip.mono ?_; clear hip; rintro e5 w5 ⟨rfl, hb5⟩; rw [← hW2] at hb5; obtain ⟨g0, g1, gf⟩ : w5.cell? ⟨wr.heap.size, 0, none⟩ = some (.int .i64 g.num) ∧ w5.cell? ⟨wr.heap.size, 1, none⟩ = some (.string ⟨g.path.toArray⟩) ∧ True := ⟨(HG.out.below hb5 HG2LT.out).cell 0, (HG.out.below hb5 HG2LT.out).cell 1, trivial⟩; obtain ⟨e0, e1, e2, e3, e4, ef⟩ := menu_facts (HMA.out.below hb5 HMA.out.lt); have p0 := hcell.out w5 (HBW.out.trans (hb5.mono HBW.out.size)))
            go_quiet (fail)
            go_wp2
            exact ⟨⟨k + 1, by omega, by go_num, HX.out, (HMA.out.below hb5 HMA.out.lt).drewN _, HBA.out.trans (drewN_below (hb5.mono HBA.out.size) _)⟩, by simp [intOf]; omega⟩
    · obtain rfl : k = n := by omega
      have HMB := Lib.hid (menuB_of HHEAD.out (by rw [HLEN.out]; exact hto.out))
      have hMlt := hM.out.lt
      have HH := Lib.hid (fun (num : Int) (W' : World) (hw : Below wr.heap.size wr W') => (has_any (m := m) (H.out.below ((hb.out.trans (hw.mono hb.out.size)).mono hB)) (Nat.le_trans hB (Nat.le_trans hb.out.size hw.size)) num).mono (fun e w' hq => show e = .returned (.bool (hasB m.gens num)) ∧ Below wr.heap.size wr w' from ⟨hq.1, hw.trans (hq.2.mono hw.size)⟩))
      unfold menuV at HH
      have hl := load_menu hM.out
      have hw0 : Below wr.heap.size wr wr := Below.refl _ _
      clear hto hlt
      rcases ref3 m m.def_ with ⟨z1, E1⟩ | ⟨z1, x1, E1⟩ | ⟨z1, x1, E1⟩
      all_goals rcases ref3 m m.next with ⟨z2, E2⟩ | ⟨z2, x2, E2⟩ | ⟨z2, x2, E2⟩
      all_goals rcases ref3 m m.trial with ⟨z3, E3⟩ | ⟨z3, x3, E3⟩ | ⟨z3, x3, E3⟩
      all_goals
        have E1' := Lib.hid E1
        have E2' := Lib.hid E2
        have E3' := Lib.hid E3
        clear E1 E2 E3
        go_wp2_with (go_at_call 32; refine (HH.out _ _ (by assumption)).mono ?_; rintro e5 w5 ⟨rfl, hw5⟩; have hm5 := hM.out.below hw5 hMlt; obtain ⟨d0, d1, d2, d3, d4, df⟩ := menu_facts hm5; have hl5 := load_menu hm5)
        go_ret
        exact ⟨by rw [HMB.out, E1'.out, E2'.out, E3'.out]; rfl, hb.out.trans (by first | exact (by assumption : Below w.heap.size wr _) | exact Below.mono (by assumption) hb.out.size)⟩
end
end Go.Proofs.YtdhlklidenfbeaaGreatDoor
