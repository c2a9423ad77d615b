/- The walk of step: Has and HasInode; all of it. -/
import Derived.Test.YtmhgahkainmbkaaAllocPlayX
import Derived.BigQuiet
import Derived.Deep.QuietTactic
namespace Go.Proofs.Ytmhgahkainmbkaa
open Go.RowKit Go.ChangeShapes Go.WideShapes
set_option linter.unusedVariables false
set_option linter.unusedSimpArgs false
section
variable {w : Ground} {wi wj : World} {F F' FR FR' FS FS' : Nat → Prop} {p go gs pd ps pr qs gq n : Nat} {L L' : LogM} {D D' : DiskM} {R R' S S' : RefM}
set_option maxRecDepth 100000 in
set_option maxHeartbeats 4000000 in
theorem step_has (h : PlayW w wi F FR FS p go gs pd ps pr qs gq n L D R S) (sim : Sim n L D R) (sf : Safe n L D S) (i : Int) (hi : -9223372036854775808 ≤ i ∧ i ≤ 9223372036854775807) :
    Calls Try.prog 27 #[.pointer (some ⟨p, 0, none⟩), .pointer (some ⟨ps, 0, none⟩), .pointer (some ⟨pr, 0, none⟩), .pointer (some ⟨gq, 0, none⟩), .agg #[.int .i64 6, .int .i64 i]] wi fun e w' => e = .returned (.bool true) ∧ StepEnd w w' p go gs pd ps pr gq n := by
  have h64 := h.run.log.n64
  have hm := h.run.log.most
  have hlaid := h.run.log.laid
  have h1 := h.free ((Below.refl wi.heap.size wi).alloc (Nat.le_refl _) (.cells #[.int .i64 6, .int .i64 i] 49))
  have HSS := Lib.hid (And.intro sim sf)
  have HOP := Lib.hid (Blk.new wi 49 #[.int .i64 6, .int .i64 i])
  have HB := Lib.hid (sim.v.bounds h64 hm)
  have hld : lData n ≤ 2000 := by have := lay_facts h64 hm; omega
  obtain ⟨gb, cb, gi, ci, sv, h2⟩ := h1.ref
  have H2 := Lib.hid h2
  have hhb := ahasBlock_any h1.run i hi
  rw [sim.hasB hlaid] at hhb
  have HHB := Lib.hid hhb
  have HHI := Lib.hid (fun (W : World) (hb : Below (wi.alloc (.cells #[.int .i64 6, .int .i64 i] 49)).heap.size (wi.alloc (.cells #[.int .i64 6, .int .i64 i] 49)) W) => by
    have := ahasInode_any (h1.run.free hb) i hi
    rw [sim.hasI hlaid] at this
    exact this)
  have HP1 := Lib.hid h1
  have hcB := h2.blk.most
  have hcI := h2.ino.most
  have hlB := h2.blk.le
  have hlI := h2.ino.le
  unfold maxLen at hcB hcI
  obtain ⟨hi1, hi2⟩ := hi
  -- what the definition says, and why
  obtain ⟨z, hz, hzc⟩ : ∃ z, R.hasB n i = z ∧ ((i < (lData n : Int) ∧ z = false) ∨ ∃ k : Nat, i - (lData n : Int) = (k : Int) ∧ ((R.blk.length ≤ k ∧ z = false) ∨ (k < R.blk.length ∧ R.blk.getD k false = z))) := by
    refine ⟨_, rfl, ?_⟩
    by_cases c1 : i < (lData n : Int)
    · exact .inl ⟨c1, by unfold RefM.hasB; rw [decide_eq_false (by omega)]; rfl⟩
    · obtain ⟨k, hk⟩ := int_sub_lt (show (lData n : Int) ≤ i by omega)
      refine .inr ⟨k, hk, ?_⟩
      by_cases c2 : k < R.blk.length
      · exact .inr ⟨c2, by unfold RefM.hasB; rw [decide_eq_true (by omega), hk]; rfl⟩
      · exact .inl ⟨by omega, by unfold RefM.hasB; rw [decide_eq_false (by omega)]; rfl⟩
  obtain ⟨v, hv, hvc⟩ : ∃ v, R.hasI i = v ∧ ((i < 1 ∧ v = false) ∨ ∃ k : Nat, i = (k : Int) ∧ 1 ≤ k ∧ ((R.ino.length ≤ k ∧ v = false) ∨ (k < R.ino.length ∧ R.ino.getD k false = v))) := by
    refine ⟨_, rfl, ?_⟩
    by_cases c1 : i < 1
    · exact .inl ⟨c1, by unfold RefM.hasI; rw [decide_eq_false (by omega)]; rfl⟩
    · obtain ⟨k, rfl⟩ : ∃ k : Nat, i = (k : Int) := ⟨i.toNat, by omega⟩
      refine .inr ⟨k, rfl, by omega, ?_⟩
      by_cases c2 : k < R.ino.length
      · exact .inr ⟨c2, by unfold RefM.hasI; rw [decide_eq_true (by omega)]; rfl⟩
      · exact .inl ⟨by omega, by unfold RefM.hasI; rw [decide_eq_false (by omega)]; rfl⟩
  rw [hz] at HHB
  rw [hv] at HHI
  have HZC := Lib.hid hzc
  have HVC := Lib.hid hvc
  have HBL := Lib.hid (fun k (hk : k < R.blk.length) => h2.blk.cell hk)
  have HIL := Lib.hid (fun k (hk : k < R.ino.length) => h2.ino.cell hk)
  generalize hmb : R.blk.length = mb at *
  generalize hmi : R.ino.length = mi at *
  have HMB := Lib.hid hmb
  have HMI := Lib.hid hmi
  have t0 : ((6 : Int) == 0) = false := by decide
  have t1 : ((6 : Int) == 1) = false := by decide
  have t2 : ((6 : Int) == 2) = false := by decide
  have t3 : ((6 : Int) == 3) = false := by decide
  have t4 : ((6 : Int) == 4) = false := by decide
  have t5 : ((6 : Int) == 5) = false := by decide
  have t6 : ((6 : Int) == 6) = true := by decide
  clear h h1 h2 sim sf hlaid h64 hm hhb hmb hmi hz hv hzc hvc
  go_enter Try.func27, Try.ntmps27
  go_wp2_with fail
  refine HHB.out.mono ?_
  rintro e w2 ⟨rfl, hb2⟩
  have hc1 := (HOP.out.below hb2 HOP.out.lt).cell 1
  have HHI2 := Lib.hid (HHI.out _ hb2)
  have HB2 := Lib.hid hb2
  clear hb2
  go_wp2_with fail
  refine HHI2.out.mono ?_
  rintro e w3 ⟨rfl, hb3⟩
  have hb13 := HB2.out.trans (hb3.mono HB2.out.size)
  have h3 : RefParts w3 FR pr n gb cb gi ci sv R := H2.out.step (Step.of_below hb13 (fun _ => False)) (fun _ _ h => h)
  have HP3 := Lib.hid (HP1.out.free hb13)
  have hc1 := (HOP.out.below hb13 HOP.out.lt).cell 1
  obtain ⟨c0, _, _, _, _, _, c6, c7, c8, _⟩ := h3.cells
  rw [HMB.out] at c7
  rw [HMI.out] at c8
  have HBL3 := Lib.hid (fun k (hk : k < mb) => h3.blk.cell (show k < R.blk.length by rw [HMB.out]; exact hk))
  have HIL3 := Lib.hid (fun k (hk : k < mi) => h3.ino.cell (show k < R.ino.length by rw [HMI.out]; exact hk))
  clear h3 hb3 hb13 c0
  go_wp2_with fail
  rcases HZC.out with ⟨c1, rfl⟩ | ⟨k, hk, ⟨c2, rfl⟩ | ⟨c2, c3⟩⟩
  · have g1 : decide (i ≥ (lData n : Int)) = false := by simp; omega
    go_quiet (fail)
    go_wp2_with fail
    go_quiet (fail)
    go_wp2_with fail
    clear c1 g1
    rcases HVC.out with ⟨d1, rfl⟩ | ⟨k2, rfl, d1, ⟨d2, rfl⟩ | ⟨d2, d3⟩⟩
    · have q1 : decide (i ≥ 1) = false := by simp; omega
      go_quiet (fail)
      go_wp2_with fail
      go_ret
      exact ⟨by simp, _, _, _, _, _, _, _, _, HP3.out.free (below_drewN _ _ _), HSS.out.1, HSS.out.2⟩
    · have q1 : decide ((k2 : Int) ≥ 1) = true := by simp; omega
      have q2 : decide (k2 < mi) = false := by simp; omega
      go_quiet (fail)
      go_wp2_with fail
      go_ret
      exact ⟨by simp, _, _, _, _, _, _, _, _, HP3.out.free (below_drewN _ _ _), HSS.out.1, HSS.out.2⟩
    · have q1 : decide ((k2 : Int) ≥ 1) = true := by simp; omega
      have q2 : decide (k2 < mi) = true := by simp; omega
      have q3 := HIL3.out k2 d2
      rw [d3] at q3
      go_quiet (fail)
      go_wp2_with fail
      go_ret
      exact ⟨by simp, _, _, _, _, _, _, _, _, HP3.out.free (below_drewN _ _ _), HSS.out.1, HSS.out.2⟩
  · have g1 : decide (i ≥ (lData n : Int)) = true := by simp; omega
    have g2 : decide (k < mb) = false := by simp; omega
    have hw : IntKind.i64.wrap (i - (lData n : Int)) = (k : Int) := by rw [IntWalk.i64_in _ (by omega), hk]
    have HK := Lib.hid hk
    clear hk
    go_quiet (fail)
    go_wp2_with fail
    go_quiet (fail)
    go_wp2_with fail
    clear hw g1 g2 c2
    rcases HVC.out with ⟨d1, rfl⟩ | ⟨k2, rfl, d1, ⟨d2, rfl⟩ | ⟨d2, d3⟩⟩
    · have q1 : decide (i ≥ 1) = false := by simp; omega
      go_quiet (fail)
      go_wp2_with fail
      go_ret
      exact ⟨by simp, _, _, _, _, _, _, _, _, HP3.out.free (below_drewN _ _ _), HSS.out.1, HSS.out.2⟩
    · have q1 : decide ((k2 : Int) ≥ 1) = true := by simp; omega
      have q2 : decide (k2 < mi) = false := by simp; omega
      go_quiet (fail)
      go_wp2_with fail
      go_ret
      exact ⟨by simp, _, _, _, _, _, _, _, _, HP3.out.free (below_drewN _ _ _), HSS.out.1, HSS.out.2⟩
    · have q1 : decide ((k2 : Int) ≥ 1) = true := by simp; omega
      have q2 : decide (k2 < mi) = true := by simp; omega
      have q3 := HIL3.out k2 d2
      rw [d3] at q3
      go_quiet (fail)
      go_wp2_with fail
      go_ret
      exact ⟨by simp, _, _, _, _, _, _, _, _, HP3.out.free (below_drewN _ _ _), HSS.out.1, HSS.out.2⟩
  · have g1 : decide (i ≥ (lData n : Int)) = true := by simp; omega
    have g2 : decide (k < mb) = true := by simp; omega
    have hw : IntKind.i64.wrap (i - (lData n : Int)) = (k : Int) := by rw [IntWalk.i64_in _ (by omega), hk]
    have HK := Lib.hid hk
    have g3 := HBL3.out k c2
    rw [c3] at g3
    clear hk c3
    go_quiet (fail)
    go_wp2_with fail
    go_quiet (fail)
    go_wp2_with fail
    clear hw g1 g2 g3 c2
    rcases HVC.out with ⟨d1, rfl⟩ | ⟨k2, rfl, d1, ⟨d2, rfl⟩ | ⟨d2, d3⟩⟩
    · have q1 : decide (i ≥ 1) = false := by simp; omega
      go_quiet (fail)
      go_wp2_with fail
      go_ret
      exact ⟨by simp, _, _, _, _, _, _, _, _, HP3.out.free (below_drewN _ _ _), HSS.out.1, HSS.out.2⟩
    · have q1 : decide ((k2 : Int) ≥ 1) = true := by simp; omega
      have q2 : decide (k2 < mi) = false := by simp; omega
      go_quiet (fail)
      go_wp2_with fail
      go_ret
      exact ⟨by simp, _, _, _, _, _, _, _, _, HP3.out.free (below_drewN _ _ _), HSS.out.1, HSS.out.2⟩
    · have q1 : decide ((k2 : Int) ≥ 1) = true := by simp; omega
      have q2 : decide (k2 < mi) = true := by simp; omega
      have q3 := HIL3.out k2 d2
      rw [d3] at q3
      go_quiet (fail)
      go_wp2_with fail
      go_ret
      exact ⟨by simp, _, _, _, _, _, _, _, _, HP3.out.free (below_drewN _ _ _), HSS.out.1, HSS.out.2⟩
/-- A step. -/
theorem step_any (h : PlayW w wi F FR FS p go gs pd ps pr qs gq n L D R S) (sim : Sim n L D R) (sf : Safe n L D S) (kd i : Int) (hi : -9223372036854775808 ≤ i ∧ i ≤ 9223372036854775807) :
    Calls Try.prog 27 #[.pointer (some ⟨p, 0, none⟩), .pointer (some ⟨ps, 0, none⟩), .pointer (some ⟨pr, 0, none⟩), .pointer (some ⟨gq, 0, none⟩), .agg #[.int .i64 kd, .int .i64 i]] wi fun e w' => e = .returned (.bool true) ∧ StepEnd w w' p go gs pd ps pr gq n := by
  by_cases h7 : kd < 0 ∨ 6 < kd
  · exact (step_count h.run h.ref sim 0 kd i _ h7).mono fun e w' ⟨he, hb⟩ => ⟨he, _, _, _, _, _, _, _, _, h.free hb, sim, sf⟩
  · have : kd = 0 ∨ kd = 1 ∨ kd = 2 ∨ kd = 3 ∨ kd = 4 ∨ kd = 5 ∨ kd = 6 := by omega
    rcases this with rfl | rfl | rfl | rfl | rfl | rfl | rfl
    · exact step_block h sim sf i hi
    · exact step_free h sim sf i hi
    · exact step_inode h sim sf i hi
    · exact step_freei h sim sf i hi
    · exact step_commit h sim sf i hi
    · exact step_drop h sim sf i hi
    · exact step_has h sim sf i hi
end
end Go.Proofs.Ytmhgahkainmbkaa
