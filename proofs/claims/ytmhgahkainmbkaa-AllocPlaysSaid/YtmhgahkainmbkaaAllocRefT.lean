/- The walks of the space by definition: Take, Free, TakeInode, FreeInode, Count. -/
import Derived.Test.YtmhgahkainmbkaaAllocRefW
namespace Go.Proofs.Ytmhgahkainmbkaa
open Go.RowKit
set_option linter.unusedVariables false
set_option linter.unusedSimpArgs false
/-- What a change of the space by definition leaves: a space; but for the error 45 the one that is said. -/
def RefEnd (w w' : World) (F : Nat → Prop) (pr n : Nat) (e : Int) (R1 : RefM) : Prop := ∃ F' R', Step w w' F F' ∧ RefAt w' F' pr n R' ∧ (e ≠ 45 → R' = R1)
theorem RefM.stage_some {n : Nat} {R R' : RefM} {k : Nat} (h : R.stage n k = some R') : R'.blk = R.blk ∧ R'.ino = R.ino ∧ R'.stg.length ≤ R.stg.length + 1 := by
  unfold RefM.stage at h
  split at h
  · injection h with h; subst h; exact ⟨rfl, rfl, by omega⟩
  · split at h
    · cases h
    · injection h with h; subst h; exact ⟨rfl, rfl, by simp⟩
theorem firstF_drop {l : List Bool} {j : Nat} (hj : j < l.length) : firstF (l.drop j) j = if l.getD j false then firstF (l.drop (j + 1)) (j + 1) else some j := by
  rw [List.drop_eq_getElem_cons hj]
  show (if l[j] then _ else _) = _
  rw [List.getD_eq_getElem?_getD, List.getElem?_eq_getElem hj]
  rfl
theorem firstF_end {l : List Bool} : firstF (l.drop l.length) l.length = none := by rw [List.drop_length]; rfl
section
variable {w w' : World} {F G K : Nat → Prop} {pr n gb cb gi ci : Nat} {sv : Value} {R : RefM}
theorem refStage_at (h : RefAt w F pr n R) (h64 : 64 ≤ n) (hm : n ≤ 1024) (hs : R.stg.length ≤ 4000) (k : Nat) (hk : k ≤ 4000) {z : Int} (hz : z = (k : Int)) :
    Calls Try.prog 78 #[.pointer (some ⟨pr, 0, none⟩), .int .i64 z] w (RefStaged w F pr n (R.stage n k) R) := by
  subst hz; exact refStage_any h h64 hm hs k hk
set_option maxRecDepth 100000 in
set_option maxHeartbeats 4000000 in
theorem refTake_any (h : RefAt w F pr n R) (h64 : 64 ≤ n) (hm : n ≤ 1024) (hs : R.stg.length ≤ 3000) (hbl : R.blk.length ≤ n) :
    Calls Try.prog 57 #[.pointer (some ⟨pr, 0, none⟩)] w fun e w' => e = .returned (.tuple #[.int .i64 (R.take n).1, .int .i64 (R.take n).2.1]) ∧ RefEnd w w' F pr n (R.take n).2.1 (R.take n).2.2 := by
  have HA := Lib.hid h
  obtain ⟨gb, cb, gi, ci, sv, h⟩ := h
  obtain ⟨c0, c1, c2, c3, c4, c5, c6, c7, c8, c9⟩ := h.cells
  have f7 := (lay_facts h64 hm).2.2.2.2.2.2.1
  have hcb := h.blk.most
  have hcl := h.blk.le
  unfold maxLen at hcb
  obtain ⟨T, hT⟩ : ∃ T, T = R.take n := ⟨_, rfl⟩
  rw [← hT]
  have HT := Lib.hid hT
  have H := Lib.hid h
  obtain ⟨m, hmm⟩ : ∃ m, m = R.blk.length := ⟨_, rfl⟩
  rw [← hmm] at c7 hbl hcl
  have HMM := Lib.hid hmm
  have hld : lData n ≤ 2000 ∧ lMap n ≤ 2000 := by have := lay_facts h64 hm; omega
  obtain ⟨hld1, hld2⟩ := hld
  clear h hmm hT c0 c1 c3 c4 c5 c8 c9 f7
  go_enter Try.func57, Try.ntmps57
  go_wp2_with fail
  go_loop [4] (fun i => ∃ j : Nat, j ≤ m ∧ i = .int .i64 (j : Int) ∧ Hid (firstF R.blk 0 = firstF (R.blk.drop j) j)) (fun i => m - (intOf i).toNat)
  case atStart => exact ⟨0, Nat.zero_le _, rfl, Lib.hid rfl⟩
  case round =>
    obtain ⟨j, hj, rfl, HN⟩ := hrel
    by_cases hlt : j < m
    · have hjl : j < R.blk.length := by rw [← HMM.out]; exact hlt
      have hcell := H.out.blk.cell hjl
      obtain ⟨b, hb⟩ : ∃ b, b = R.blk.getD j false := ⟨_, rfl⟩
      rw [← hb] at hcell
      have hfd := firstF_drop hjl
      rw [← hb] at hfd
      have HFD := Lib.hid hfd
      have HJL := Lib.hid hjl
      have HB := Lib.hid hb
      clear hfd hjl hb
      cases b with
      | true =>
        go_wp2_with fail
        refine ⟨⟨j + 1, by omega, by go_num, Lib.hid (HN.out.trans (by rw [HFD.out, if_pos rfl]))⟩, by simp [intOf]; omega⟩
      | false =>
        have htk : T = R.take1 n j := by
          rw [HT.out]; unfold RefM.take; rw [HN.out, HFD.out, if_neg (by simp)]
        have HTK := Lib.hid htk
        clear htk
        go_wp2_with fail
        refine (refStage_any HA.out h64 hm (by omega) (lMap n) (by omega)).mono ?_
        rintro e w2 ⟨hsome, hnone⟩
        cases hst : R.stage n (lMap n) with
        | none =>
          obtain ⟨rfl, hs2, hA2⟩ := hnone hst
          have HA2 := Lib.hid (And.intro hs2 hA2)
          have HT1 := Lib.hid (show T = (0, 45, R) by rw [HTK.out]; unfold RefM.take1; rw [hst])
          clear hsome hnone hst hs2 hA2
          go_wp2_with fail
          rw [HT1.out]
          go_ret2
          exact ⟨rfl, _, _, HA2.out.1, HA2.out.2, fun h => absurd rfl h⟩
        | some R1 =>
          obtain ⟨rfl, F2, hs2, hA2⟩ := hsome R1 hst
          obtain ⟨e1, e2, e3⟩ := RefM.stage_some hst
          have HT1 := Lib.hid (show T = RefM.take2 n j { R1 with blk := R1.blk.set j true } by rw [HTK.out]; unfold RefM.take1; rw [hst])
          obtain ⟨gb2, cb2, gi2, ci2, sv2, h2⟩ := hA2
          obtain ⟨x0, x1, x2, x3, x4, x5, x6, x7, x8, x9⟩ := h2.cells
          have hjl1 : j < R1.blk.length := by rw [e1]; exact HJL.out
          have hcl1 := h2.blk.le
          have hcb1 := h2.blk.most
          have hzl : R1.blk.length = m := by rw [e1, HMM.out]
          have hcell1 := h2.blk.cell hjl1
          have hfz1 := h2.blk.frozen j
          have hset := h2.setB hjl1 true
          have hss := hs2.setCell (p := ⟨gb2, j, none⟩) (hs2.next gb2 h2.fb) (.bool true)
          have hl2 : ({ R1 with blk := R1.blk.set j true } : RefM).stg.length ≤ 4000 := by show R1.stg.length ≤ 4000; omega
          obtain ⟨R2, hR2⟩ : ∃ R2 : RefM, R2 = { R1 with blk := R1.blk.set j true } := ⟨_, rfl⟩
          rw [← hR2] at hset HT1 hl2
          have HS2 := Lib.hid (And.intro hset hss)
          rw [hzl] at x7 hcl1
          unfold maxLen at hcb1
          have HL2 := Lib.hid hl2
          obtain ⟨nb1, nb2⟩ := h2.nbp
          have nb3 := Ne.symm nb1
          have nb4 := Ne.symm nb2
          clear hsome hnone hst hs2 h2 e1 e2 e3 x0 x1 x2 x3 x4 x5 x8 x9 hjl1 hzl hset hss hR2 hl2
          generalize R1.blk.getD j false = bo at hcell1
          go_wp2_with fail
          refine (refStage_at ⟨_, _, _, _, _, HS2.out.1⟩ h64 hm HL2.out (lData n + j) (by omega) (z := (lData n : Int) + (j : Int)) (by omega)).mono ?_
          rintro e w3 ⟨hsome, hnone⟩
          cases hst : R2.stage n (lData n + j) with
          | none =>
            obtain ⟨rfl, hs3, hA3⟩ := hnone hst
            have HA3 := Lib.hid (And.intro (HS2.out.2.trans hs3) hA3)
            have HT2 := Lib.hid (show T = (0, 45, R2) by rw [HT1.out]; unfold RefM.take2; rw [hst])
            clear hsome hnone hst hs3 hA3
            go_wp2_with fail
            rw [HT2.out]
            go_ret2
            exact ⟨rfl, _, _, HA3.out.1, HA3.out.2, fun h => absurd rfl h⟩
          | some R3 =>
            obtain ⟨rfl, F3, hs3, hA3⟩ := hsome R3 hst
            have HA3 := Lib.hid (And.intro (HS2.out.2.trans hs3) hA3)
            have HT2 := Lib.hid (show T = (((lData n + j : Nat) : Int), 0, R3) by rw [HT1.out]; unfold RefM.take2; rw [hst])
            obtain ⟨gb3, cb3, gi3, ci3, sv3, h3⟩ := hA3
            have y6 := h3.cells.2.2.2.2.2.2.1
            clear hsome hnone hst hs3 h3 x6 x7 hcell1 hfz1 nb1 nb2 nb3 nb4
            go_wp2_with fail
            rw [HT2.out]
            go_ret2
            exact ⟨by simp, _, _, HA3.out.1, HA3.out.2, fun _ => rfl⟩
    · obtain rfl : j = m := by omega
      have HTK := Lib.hid (show T = (0, 47, R) by
        rw [HT.out]; unfold RefM.take; rw [HN.out, HMM.out, firstF_end])
      go_wp2_with fail
      rw [HTK.out]
      go_ret2
      exact ⟨rfl, _, _, Step.refl _ _, HA.out, fun _ => rfl⟩
set_option maxRecDepth 100000 in
set_option maxHeartbeats 4000000 in
theorem refTakeI_any (h : RefAt w F pr n R) (h64 : 64 ≤ n) (hm : n ≤ 1024) (hs : R.stg.length ≤ 3000) (hbl : R.ino.length ≤ n) :
    Calls Try.prog 59 #[.pointer (some ⟨pr, 0, none⟩)] w fun e w' => e = .returned (.tuple #[.int .i64 (R.takeI n).1, .int .i64 (R.takeI n).2.1]) ∧ RefEnd w w' F pr n (R.takeI n).2.1 (R.takeI n).2.2 := by
  have HA := Lib.hid h
  obtain ⟨gb, cb, gi, ci, sv, h⟩ := h
  obtain ⟨c0, c1, c2, c3, c4, c5, c6, c7, c8, c9⟩ := h.cells
  have f7 := (lay_facts h64 hm).2.2.2.2.2.2.1
  have hcb := h.ino.most
  have hcl := h.ino.le
  unfold maxLen at hcb
  obtain ⟨T, hT⟩ : ∃ T, T = R.takeI n := ⟨_, rfl⟩
  rw [← hT]
  have HT := Lib.hid hT
  have H := Lib.hid h
  obtain ⟨m, hmm⟩ : ∃ m, m = R.ino.length := ⟨_, rfl⟩
  rw [← hmm] at c8 hbl hcl
  have HMM := Lib.hid hmm
  have hld : lTable n ≤ 2000 ∧ lNodes n ≤ 2000 := by have := lay_facts h64 hm; omega
  obtain ⟨hld1, hld2⟩ := hld
  clear h hmm hT c0 c1 c2 c4 c5 c6 c7 c9 f7
  go_enter Try.func59, Try.ntmps59
  go_wp2_with fail
  go_loop [4] (fun i => ∃ j : Nat, j ≤ m ∧ i = .int .i64 (j : Int) ∧ Hid (firstF R.ino 0 = firstF (R.ino.drop j) j)) (fun i => m - (intOf i).toNat)
  case atStart => exact ⟨0, Nat.zero_le _, rfl, Lib.hid rfl⟩
  case round =>
    obtain ⟨j, hj, rfl, HN⟩ := hrel
    by_cases hlt : j < m
    · have hjl : j < R.ino.length := by rw [← HMM.out]; exact hlt
      have hcell := H.out.ino.cell hjl
      obtain ⟨b, hb⟩ : ∃ b, b = R.ino.getD j false := ⟨_, rfl⟩
      rw [← hb] at hcell
      have hfd := firstF_drop hjl
      rw [← hb] at hfd
      have HFD := Lib.hid hfd
      have HJL := Lib.hid hjl
      have HB := Lib.hid hb
      clear hfd hjl hb
      cases b with
      | true =>
        go_wp2_with fail
        refine ⟨⟨j + 1, by omega, by go_num, Lib.hid (HN.out.trans (by rw [HFD.out, if_pos rfl]))⟩, by simp [intOf]; omega⟩
      | false =>
        have htk : T = R.takeI1 n j := by
          rw [HT.out]; unfold RefM.takeI; rw [HN.out, HFD.out, if_neg (by simp)]
        have HTK := Lib.hid htk
        clear htk
        go_wp2_with fail
        refine (refStage_any HA.out h64 hm (by omega) (lNodes n) (by omega)).mono ?_
        rintro e w2 ⟨hsome, hnone⟩
        cases hst : R.stage n (lNodes n) with
        | none =>
          obtain ⟨rfl, hs2, hA2⟩ := hnone hst
          have HA2 := Lib.hid (And.intro hs2 hA2)
          have HT1 := Lib.hid (show T = (0, 45, R) by rw [HTK.out]; unfold RefM.takeI1; rw [hst])
          clear hsome hnone hst hs2 hA2
          go_wp2_with fail
          rw [HT1.out]
          go_ret2
          exact ⟨rfl, _, _, HA2.out.1, HA2.out.2, fun h => absurd rfl h⟩
        | some R1 =>
          obtain ⟨rfl, F2, hs2, hA2⟩ := hsome R1 hst
          obtain ⟨e1, e2, e3⟩ := RefM.stage_some hst
          have HT1 := Lib.hid (show T = RefM.takeI2 n j { R1 with ino := R1.ino.set j true } by rw [HTK.out]; unfold RefM.takeI1; rw [hst])
          obtain ⟨gb2, cb2, gi2, ci2, sv2, h2⟩ := hA2
          obtain ⟨x0, x1, x2, x3, x4, x5, x6, x7, x8, x9⟩ := h2.cells
          have hjl1 : j < R1.ino.length := by rw [e2]; exact HJL.out
          have hcl1 := h2.ino.le
          have hcb1 := h2.ino.most
          have hzl : R1.ino.length = m := by rw [e2, HMM.out]
          have hcell1 := h2.ino.cell hjl1
          have hfz1 := h2.ino.frozen j
          have hset := h2.setI hjl1 true
          have hss := hs2.setCell (p := ⟨gi2, j, none⟩) (hs2.next gi2 h2.fi) (.bool true)
          have hl2 : ({ R1 with ino := R1.ino.set j true } : RefM).stg.length ≤ 4000 := by show R1.stg.length ≤ 4000; omega
          obtain ⟨R2, hR2⟩ : ∃ R2 : RefM, R2 = { R1 with ino := R1.ino.set j true } := ⟨_, rfl⟩
          rw [← hR2] at hset HT1 hl2
          have HS2 := Lib.hid (And.intro hset hss)
          rw [hzl] at x8 hcl1
          unfold maxLen at hcb1
          have HL2 := Lib.hid hl2
          obtain ⟨nb1, nb2⟩ := h2.nbp
          have nb3 := Ne.symm nb1
          have nb4 := Ne.symm nb2
          clear hsome hnone hst hs2 h2 e1 e2 e3 x0 x1 x2 x3 x5 x6 x7 x9 hjl1 hzl hset hss hR2 hl2
          generalize R1.ino.getD j false = bo at hcell1
          go_wp2_with fail
          refine (refStage_at ⟨_, _, _, _, _, HS2.out.1⟩ h64 hm HL2.out (lTable n + j / 4) (by omega) (z := (lTable n : Int) + (j : Int) / 4) (by omega)).mono ?_
          rintro e w3 ⟨hsome, hnone⟩
          cases hst : R2.stage n (lTable n + j / 4) with
          | none =>
            obtain ⟨rfl, hs3, hA3⟩ := hnone hst
            have HA3 := Lib.hid (And.intro (HS2.out.2.trans hs3) hA3)
            have HT2 := Lib.hid (show T = (0, 45, R2) by rw [HT1.out]; unfold RefM.takeI2; rw [hst])
            clear hsome hnone hst hs3 hA3
            go_wp2_with fail
            rw [HT2.out]
            go_ret2
            exact ⟨rfl, _, _, HA3.out.1, HA3.out.2, fun h => absurd rfl h⟩
          | some R3 =>
            obtain ⟨rfl, F3, hs3, hA3⟩ := hsome R3 hst
            have HA3 := Lib.hid (And.intro (HS2.out.2.trans hs3) hA3)
            have HT2 := Lib.hid (show T = ((j : Int), 0, R3) by rw [HT1.out]; unfold RefM.takeI2; rw [hst])
            clear hsome hnone hst hs3 hA3 x8 hcell1 hfz1
            go_wp2_with fail
            rw [HT2.out]
            go_ret2
            exact ⟨rfl, _, _, HA3.out.1, HA3.out.2, fun _ => rfl⟩
    · obtain rfl : j = m := by omega
      have HTK := Lib.hid (show T = (0, 47, R) by
        rw [HT.out]; unfold RefM.takeI; rw [HN.out, HMM.out, firstF_end])
      go_wp2_with fail
      rw [HTK.out]
      go_ret2
      exact ⟨rfl, _, _, Step.refl _ _, HA.out, fun _ => rfl⟩
end
end Go.Proofs.Ytmhgahkainmbkaa
