/- The walks of the space by definition: Free, FreeInode, Count. -/
import Derived.Test.YtmhgahkainmbkaaAllocRefT
namespace Go.Proofs.Ytmhgahkainmbkaa
open Go.RowKit
set_option linter.unusedVariables false
set_option linter.unusedSimpArgs false
section
variable {w w' : World} {F G K : Nat → Prop} {pr n gb cb gi ci : Nat} {sv : Value} {R : RefM}
theorem countF_le (l : List Bool) : ∀ k, countF l k ≤ k
  | 0 => Nat.le_refl _
  | k + 1 => by unfold countF; have := countF_le l k; split <;> omega
set_option maxRecDepth 100000 in
set_option maxHeartbeats 2000000 in
theorem refCount_any {g cap : Nat} {l : List Bool} (h : BRow w g cap l) (hl : l.length ≤ 2000) :
    Calls Try.prog 61 #[.slice (some ⟨g, 0, none⟩) l.length cap] w fun e w' => e = .returned (.int .i64 (countF l l.length : Int)) ∧ w = w' := by
  have hcb := h.most
  have hcl := h.le
  unfold maxLen at hcb
  have H := Lib.hid h
  obtain ⟨m, hmm⟩ : ∃ m, m = l.length := ⟨_, rfl⟩
  rw [← hmm] at hl hcl ⊢
  have HMM := Lib.hid hmm
  clear h hmm
  go_enter Try.func61, Try.ntmps61
  go_wp2_with fail
  go_loop [3, 4] (fun c i => ∃ j : Nat, j ≤ m ∧ i = .int .i64 (j : Int) ∧ c = .int .i64 (countF l j : Int)) (fun _ i => m - (intOf i).toNat)
  case atStart => exact ⟨0, Nat.zero_le _, rfl, rfl⟩
  case round =>
    obtain ⟨j, hj, rfl, rfl⟩ := hrel
    have hcj := countF_le l j
    by_cases hlt : j < m
    · have hjl : j < l.length := by rw [← HMM.out]; exact hlt
      have hcell := H.out.cell hjl
      obtain ⟨b, hb⟩ : ∃ b, b = l.getD j false := ⟨_, rfl⟩
      rw [← hb] at hcell
      have HC := Lib.hid (show countF l (j + 1) = countF l j + if b then 0 else 1 by rw [hb]; rfl)
      clear hjl hb
      generalize countF l j = c at *
      cases b with
      | true =>
        go_wp2_with fail
        refine ⟨⟨j + 1, by omega, by go_num, by rw [HC.out]; rfl⟩, by simp [intOf]; omega⟩
      | false =>
        go_wp2_with fail
        refine ⟨⟨j + 1, by omega, by go_num, by rw [HC.out]; go_num⟩, by simp [intOf]; omega⟩
    · obtain rfl : j = m := by omega
      go_wp2_with fail
      go_ret
      exact ⟨rfl, rfl⟩
theorem int_sub_lt {b : Int} {d : Nat} (h : (d : Int) ≤ b) : ∃ k : Nat, b - (d : Int) = (k : Int) := ⟨(b - d).toNat, by omega⟩
set_option maxRecDepth 100000 in
set_option maxHeartbeats 4000000 in
theorem refFree_any (h : RefAt w F pr n R) (h64 : 64 ≤ n) (hm : n ≤ 1024) (hs : R.stg.length ≤ 3000) (hbl : R.blk.length ≤ n) (b : Int) (hb : -9223372036854775808 ≤ b ∧ b ≤ 9223372036854775807) :
    Calls Try.prog 58 #[.pointer (some ⟨pr, 0, none⟩), .int .i64 b] w fun e w' => e = .returned (.int .i64 (R.free n b).1) ∧ RefEnd w w' F pr n (R.free n b).1 (R.free n b).2 := by
  have HA := Lib.hid h
  obtain ⟨gb, cb, gi, ci, sv, h⟩ := h
  obtain ⟨c0, c1, c2, c3, c4, c5, c6, c7, c8, c9⟩ := h.cells
  have hcb := h.blk.most
  have hcl := h.blk.le
  unfold maxLen at hcb
  obtain ⟨T, hT⟩ : ∃ T, T = R.free n b := ⟨_, rfl⟩
  rw [← hT]
  have H := Lib.hid h
  obtain ⟨m, hmm⟩ : ∃ m, m = R.blk.length := ⟨_, rfl⟩
  rw [← hmm] at c7 hbl hcl
  have HMM := Lib.hid hmm
  have hld : lData n ≤ 2000 ∧ lMap n ≤ 2000 := by have := lay_facts h64 hm; omega
  obtain ⟨hld1, hld2⟩ := hld
  obtain ⟨hb1, hb2⟩ := hb
  by_cases hbd : b < (lData n : Int)
  · have HT := Lib.hid (show T = (48, R) by
      rw [hT]; unfold RefM.free RefM.hasB; rw [decide_eq_false (by omega)]; rfl)
    clear h hmm hT c0 c1 c2 c3 c4 c5 c8 c9
    go_enter Try.func58, Try.ntmps58
    go_wp2_with fail
    rw [HT.out]
    go_ret
    exact ⟨rfl, _, _, Step.refl _ _, HA.out, fun _ => rfl⟩
  · obtain ⟨k, hk⟩ := int_sub_lt (show (lData n : Int) ≤ b by omega)
    have hbd2 : decide (b < (lData n : Int)) = false := by simpa using hbd
    have HK := Lib.hid hk
    by_cases hkm : k < m
    · have hjl : k < R.blk.length := by rw [← hmm]; exact hkm
      have hcell := h.blk.cell hjl
      obtain ⟨bo, hbo⟩ : ∃ bo, bo = R.blk.getD k false := ⟨_, rfl⟩
      rw [← hbo] at hcell
      have HHB := Lib.hid (show R.hasB n b = bo by
        unfold RefM.hasB; rw [decide_eq_true (by omega), hk, hbo]; rfl)
      have HT := Lib.hid hT
      have HJL := Lib.hid hjl
      have HBO := Lib.hid hbo
      clear h hmm hT c0 c1 c3 c4 c5 c8 c9 hjl hbo hk
      go_enter Try.func58, Try.ntmps58
      go_upto_region 2 with (fail)
      rw [HK.out]
      clear hbd
      cases bo with
      | false =>
        have HT1 := Lib.hid (show T = (48, R) by rw [HT.out]; unfold RefM.free; rw [HHB.out, if_pos rfl])
        go_wp2_with fail
        rw [HT1.out]
        go_ret
        exact ⟨rfl, _, _, Step.refl _ _, HA.out, fun _ => rfl⟩
      | true =>
        have HT1 := Lib.hid (show T = R.freeAt n k by rw [HT.out]; unfold RefM.free; rw [HHB.out, if_neg (by simp), HK.out]; rfl)
        go_wp2_with fail
        refine (refStage_any HA.out h64 hm (by omega) (lMap n) (by omega)).mono ?_
        rintro e w2 ⟨hsome, hnone⟩
        cases hst : R.stage n (lMap n) with
        | none =>
          obtain ⟨rfl, hs2, hA2⟩ := hnone hst
          have HA2 := Lib.hid (And.intro hs2 hA2)
          have HT2 := Lib.hid (show T = (45, R) by rw [HT1.out]; unfold RefM.freeAt; rw [hst])
          clear hsome hnone hst hs2 hA2
          go_wp2_with fail
          rw [HT2.out]
          go_ret
          exact ⟨rfl, _, _, HA2.out.1, HA2.out.2, fun h => absurd rfl h⟩
        | some R1 =>
          obtain ⟨rfl, F2, hs2, hA2⟩ := hsome R1 hst
          obtain ⟨e1, e2, e3⟩ := RefM.stage_some hst
          have HT2 := Lib.hid (show T = (0, { R1 with blk := R1.blk.set k false }) by rw [HT1.out]; unfold RefM.freeAt; rw [hst])
          obtain ⟨gb2, cb2, gi2, ci2, sv2, h2⟩ := hA2
          obtain ⟨x0, x1, x2, x3, x4, x5, x6, x7, x8, x9⟩ := h2.cells
          have hjl1 : k < R1.blk.length := by rw [e1]; exact HJL.out
          have hcl1 := h2.blk.le
          have hcb1 := h2.blk.most
          have hzl : R1.blk.length = m := by rw [e1, HMM.out]
          have hcell1 := h2.blk.cell hjl1
          have hfz1 := h2.blk.frozen k
          have hset := h2.setB hjl1 false
          have hss := hs2.setCell (p := ⟨gb2, k, none⟩) (hs2.next gb2 h2.fb) (.bool false)
          have HS2 := Lib.hid (And.intro hset hss)
          rw [hzl] at x7 hcl1
          unfold maxLen at hcb1
          clear hsome hnone hst hs2 h2 e1 e2 e3 x0 x1 x2 x3 x4 x5 x6 x8 x9 hjl1 hzl hset hss
          generalize R1.blk.getD k false = bo at hcell1
          go_wp2_with fail
          rw [HT2.out]
          go_ret
          exact ⟨rfl, _, _, HS2.out.2, ⟨_, _, _, _, _, HS2.out.1⟩, fun _ => rfl⟩
    · have hkm2 : decide ((k : Int) ≥ (m : Int)) = true := by simp; omega
      have HT := Lib.hid (show T = (48, R) by
        rw [hT]; unfold RefM.free RefM.hasB; rw [decide_eq_false (by omega)]; rfl)
      clear h hmm hT c0 c1 c2 c3 c4 c5 c8 c9 hk
      go_enter Try.func58, Try.ntmps58
      go_upto_region 2 with (fail)
      rw [HK.out]
      clear hbd
      go_wp2_with fail
      rw [HT.out]
      go_ret
      exact ⟨rfl, _, _, Step.refl _ _, HA.out, fun _ => rfl⟩
set_option maxRecDepth 100000 in
set_option maxHeartbeats 4000000 in
theorem refFreeI_any (h : RefAt w F pr n R) (h64 : 64 ≤ n) (hm : n ≤ 1024) (hs : R.stg.length ≤ 3000) (hbl : R.ino.length ≤ n) (b : Int) (hb : -9223372036854775808 ≤ b ∧ b ≤ 9223372036854775807) :
    Calls Try.prog 60 #[.pointer (some ⟨pr, 0, none⟩), .int .i64 b] w fun e w' => e = .returned (.int .i64 (R.freeI n b).1) ∧ RefEnd w w' F pr n (R.freeI n b).1 (R.freeI n b).2 := by
  have HA := Lib.hid h
  obtain ⟨gb, cb, gi, ci, sv, h⟩ := h
  obtain ⟨c0, c1, c2, c3, c4, c5, c6, c7, c8, c9⟩ := h.cells
  have hcb := h.ino.most
  have hcl := h.ino.le
  unfold maxLen at hcb
  obtain ⟨T, hT⟩ : ∃ T, T = R.freeI n b := ⟨_, rfl⟩
  rw [← hT]
  have H := Lib.hid h
  obtain ⟨m, hmm⟩ : ∃ m, m = R.ino.length := ⟨_, rfl⟩
  rw [← hmm] at c8 hbl hcl
  have HMM := Lib.hid hmm
  have hld : lTable n ≤ 2000 ∧ lNodes n ≤ 2000 := by have := lay_facts h64 hm; omega
  obtain ⟨hld1, hld2⟩ := hld
  obtain ⟨hb1, hb2⟩ := hb
  by_cases hbd : b < 1
  · have HT := Lib.hid (show T = (49, R) by
      rw [hT]; unfold RefM.freeI RefM.hasI; rw [decide_eq_false (by omega)]; rfl)
    clear h hmm hT c0 c1 c2 c4 c5 c6 c7 c9
    go_enter Try.func60, Try.ntmps60
    go_wp2_with fail
    rw [HT.out]
    go_ret
    exact ⟨rfl, _, _, Step.refl _ _, HA.out, fun _ => rfl⟩
  · obtain ⟨k, hk⟩ : ∃ k : Nat, b = (k : Int) := ⟨b.toNat, by omega⟩
    subst hk
    have hbd2 : decide ((k : Int) < 1) = false := by simpa using hbd
    have hbd3 : 1 ≤ k := by omega
    by_cases hkm : k < m
    · have hjl : k < R.ino.length := by rw [← hmm]; exact hkm
      have hcell := h.ino.cell hjl
      obtain ⟨bo, hbo⟩ : ∃ bo, bo = R.ino.getD k false := ⟨_, rfl⟩
      rw [← hbo] at hcell
      have HHB := Lib.hid (show R.hasI (k : Int) = bo by
        unfold RefM.hasI; rw [decide_eq_true (by omega), hbo]; rfl)
      have HT := Lib.hid hT
      have HJL := Lib.hid hjl
      have HBO := Lib.hid hbo
      clear h hmm hT c0 c1 c2 c4 c5 c6 c7 c9 hjl hbo hbd
      go_enter Try.func60, Try.ntmps60
      cases bo with
      | false =>
        have HT1 := Lib.hid (show T = (49, R) by rw [HT.out]; unfold RefM.freeI; rw [HHB.out, if_pos rfl])
        go_wp2_with fail
        rw [HT1.out]
        go_ret
        exact ⟨rfl, _, _, Step.refl _ _, HA.out, fun _ => rfl⟩
      | true =>
        have HT1 := Lib.hid (show T = R.freeIAt n k by rw [HT.out]; unfold RefM.freeI; rw [HHB.out, if_neg (by simp)]; rfl)
        go_wp2_with fail
        refine (refStage_any HA.out h64 hm (by omega) (lNodes n) (by omega)).mono ?_
        rintro e w2 ⟨hsome, hnone⟩
        cases hst : R.stage n (lNodes n) with
        | none =>
          obtain ⟨rfl, hs2, hA2⟩ := hnone hst
          have HA2 := Lib.hid (And.intro hs2 hA2)
          have HT2 := Lib.hid (show T = (45, R) by rw [HT1.out]; unfold RefM.freeIAt; rw [hst])
          clear hsome hnone hst hs2 hA2
          go_wp2_with fail
          rw [HT2.out]
          go_ret
          exact ⟨rfl, _, _, HA2.out.1, HA2.out.2, fun h => absurd rfl h⟩
        | some R1 =>
          obtain ⟨rfl, F2, hs2, hA2⟩ := hsome R1 hst
          obtain ⟨e1, e2, e3⟩ := RefM.stage_some hst
          have HT2 := Lib.hid (show T = (0, { R1 with ino := R1.ino.set k false }) by rw [HT1.out]; unfold RefM.freeIAt; rw [hst])
          obtain ⟨gb2, cb2, gi2, ci2, sv2, h2⟩ := hA2
          obtain ⟨x0, x1, x2, x3, x4, x5, x6, x7, x8, x9⟩ := h2.cells
          have hjl1 : k < R1.ino.length := by rw [e2]; exact HJL.out
          have hcl1 := h2.ino.le
          have hcb1 := h2.ino.most
          have hzl : R1.ino.length = m := by rw [e2, HMM.out]
          have hcell1 := h2.ino.cell hjl1
          have hfz1 := h2.ino.frozen k
          have hset := h2.setI hjl1 false
          have hss := hs2.setCell (p := ⟨gi2, k, none⟩) (hs2.next gi2 h2.fi) (.bool false)
          have HS2 := Lib.hid (And.intro hset hss)
          rw [hzl] at x8 hcl1
          unfold maxLen at hcb1
          clear hsome hnone hst hs2 h2 e1 e2 e3 x0 x1 x2 x3 x4 x5 x6 x7 x9 hjl1 hzl hset hss
          generalize R1.ino.getD k false = bo at hcell1
          go_wp2_with fail
          rw [HT2.out]
          go_ret
          exact ⟨rfl, _, _, HS2.out.2, ⟨_, _, _, _, _, HS2.out.1⟩, fun _ => rfl⟩
    · have hkm2 : decide ((k : Int) ≥ (m : Int)) = true := by simp; omega
      have HT := Lib.hid (show T = (49, R) by
        rw [hT]; unfold RefM.freeI RefM.hasI; rw [decide_eq_false (by omega)]; rfl)
      clear h hmm hT c0 c1 c2 c4 c5 c6 c7 c9 hbd
      go_enter Try.func60, Try.ntmps60
      go_wp2_with fail
      rw [HT.out]
      go_ret
      exact ⟨rfl, _, _, Step.refl _ _, HA.out, fun _ => rfl⟩
end
end Go.Proofs.Ytmhgahkainmbkaa
