/- The walk of step: Commit and Drop. -/
import Derived.Test.YtmhgahkainmbkaaAllocPlayW
namespace Go.Proofs.Ytmhgahkainmbkaa
open Go.RowKit Go.ChangeShapes Go.WideShapes
set_option linter.unusedVariables false
set_option linter.unusedSimpArgs false
section
variable {w : Ground} {wi wj : World} {F F' FR FR' FS FS' : Nat → Prop} {p go gs pd ps pr qs gq n : Nat} {L L' : LogM} {D D' : DiskM} {R R' S S' : RefM}
attribute [local go_sem ↓] load_rs_mark store_rs_mark
set_option maxRecDepth 100000 in
set_option maxHeartbeats 4000000 in
theorem step_commit (h : PlayW w wi F FR FS p go gs pd ps pr qs gq n L D R S) (sim : Sim n L D R) (sf : Safe n L D S) (i : Int) (hi : -9223372036854775808 ≤ i ∧ i ≤ 9223372036854775807) :
    Calls Try.prog 27 #[.pointer (some ⟨p, 0, none⟩), .pointer (some ⟨ps, 0, none⟩), .pointer (some ⟨pr, 0, none⟩), .pointer (some ⟨gq, 0, none⟩), .agg #[.int .i64 4, .int .i64 i]] wi fun e w' => e = .returned (.bool true) ∧ StepEnd w w' p go gs pd ps pr gq n := by
  have h64 := h.run.log.n64
  have hm := h.run.log.most
  have hlaid := h.run.log.laid
  have HB := Lib.hid (sim.v.bounds h64 hm)
  have HBS := Lib.hid (sf.1.bounds h64 hm)
  have HS0 := Lib.hid (show S.stg.length ≤ 4000 by rw [sf.2]; simp)
  have h1 := h.free ((Below.refl wi.heap.size wi).alloc (Nat.le_refl _) (.cells #[.int .i64 4, .int .i64 i] 49))
  have HSIM := Lib.hid (sim.commit hlaid h.run.log.armed)
  have hc := h1.run.here.commitA
  have HC := Lib.hid hc
  have HP1 := Lib.hid h1
  clear h sim sf hlaid h64 hm h1 hc hi
  go_enter Try.func27, Try.ntmps27
  go_wp2_with fail
  refine HC.out.mono ?_
  rintro e w2 ⟨rfl, F2, hA2⟩
  have hp2 := HP1.out.nextA hA2
  obtain ⟨sv, c9, f9⟩ := hp2.ref.cell9
  have hp3 := hp2.nextR ((Step.refl w2 FR).setCell (p := ⟨pr, 9, none⟩) (.inl hp2.ref.blk.1) (.slice none 0 0)) hp2.ref.unstage
  have HP3 := Lib.hid hp3
  clear hA2 hp2 hp3
  go_wp2_with fail
  refine (refClone_any HP3.out.ref HB.out.1 HB.out.2.1 HB.out.2.2.1 HB.out.2.2.2.1 (Nat.zero_le _)).mono ?_
  rintro e w4 ⟨q, FC, rfl, he4, hr4, hn4⟩
  have hpt := HP3.out.ptr.ext he4
  have cq := hpt.cell 0
  have fq := hpt.frozen 0
  have hp5 := HP3.out.setq he4 hr4 hn4
  have HP5 := Lib.hid hp5
  clear he4 hr4 hn4 hpt hp5 c9 f9
  go_wp2_with fail
  go_ret
  exact ⟨by simp, _, _, _, _, _, _, _, _, HP5.out, HSIM.out.1, HSIM.out.2⟩
set_option maxRecDepth 100000 in
set_option maxHeartbeats 4000000 in
theorem step_drop (h : PlayW w wi F FR FS p go gs pd ps pr qs gq n L D R S) (sim : Sim n L D R) (sf : Safe n L D S) (i : Int) (hi : -9223372036854775808 ≤ i ∧ i ≤ 9223372036854775807) :
    Calls Try.prog 27 #[.pointer (some ⟨p, 0, none⟩), .pointer (some ⟨ps, 0, none⟩), .pointer (some ⟨pr, 0, none⟩), .pointer (some ⟨gq, 0, none⟩), .agg #[.int .i64 5, .int .i64 i]] wi fun e w' => e = .returned (.bool true) ∧ StepEnd w w' p go gs pd ps pr gq n := by
  have h64 := h.run.log.n64
  have hm := h.run.log.most
  have hlaid := h.run.log.laid
  have HB := Lib.hid (sim.v.bounds h64 hm)
  have HBS := Lib.hid (sf.1.bounds h64 hm)
  have HS0 := Lib.hid (show S.stg.length ≤ 4000 by rw [sf.2]; simp)
  have h1 := h.free ((Below.refl wi.heap.size wi).alloc (Nat.le_refl _) (.cells #[.int .i64 5, .int .i64 i] 49))
  have HSF3 := Lib.hid sf
  have hc := h1.run.here.dropA
  have HC := Lib.hid hc
  have HP1 := Lib.hid h1
  clear h sim sf hlaid h64 hm h1 hc hi
  go_enter Try.func27, Try.ntmps27
  go_wp2_with fail
  refine HC.out.mono ?_
  rintro e w4 ⟨rfl, hA4⟩
  have HP4 := Lib.hid (HP1.out.nextA hA4)
  have hq := HP4.out.ptr.cell 0
  clear hA4
  go_wp2_with fail
  refine (refClone_any HP4.out.safe HBS.out.1 HBS.out.2.1 HBS.out.2.2.1 HBS.out.2.2.2.1 HS0.out).mono ?_
  rintro e w5 ⟨q, FC, rfl, he5, hr5, hn5⟩
  obtain ⟨x, hld, cs', hst, hp6⟩ := HP4.out.setr he5 hr5 hn5
  have HP6 := Lib.hid hp6
  clear he5 hr5 hn5 hp6 hq
  go_wp2_with fail
  go_ret
  exact ⟨by simp, _, _, _, _, _, _, _, _, HP6.out, HSF3.out.drop, HSF3.out.over rfl⟩
set_option maxRecDepth 100000 in
set_option maxHeartbeats 4000000 in
theorem step_count (h : ARun w wi F p go gs pd ps n L D) (hr : RefAt wi FR pr n R) (sim : Sim n L D R) (g kd i : Int) (gv : Value) (hkd : kd < 0 ∨ 6 < kd) :
    Calls Try.prog 27 #[.pointer (some ⟨p, 0, none⟩), .pointer (some ⟨ps, 0, none⟩), .pointer (some ⟨pr, 0, none⟩), gv, .agg #[.int .i64 kd, .int .i64 i]] wi fun e w' => e = .returned (.bool true) ∧ Below wi.heap.size wi w' := by
  have h64 := h.log.n64
  have hm := h.log.most
  have HB := Lib.hid (sim.v.bounds h64 hm)
  have hb1 : Below wi.heap.size wi (wi.alloc (.cells #[.int .i64 kd, .int .i64 i] 49)) := (Below.refl wi.heap.size wi).alloc (Nat.le_refl _) _
  have HCB := Lib.hid sim.countB
  have HCI := Lib.hid sim.countI
  have HA := Lib.hid (h.free hb1)
  have HR := Lib.hid (hr.free hb1)
  have HB1 := Lib.hid hb1
  clear h hr sim h64 hm hb1
  have t0 : ((kd : Int) == 0) = false := by rw [beq_eq_false_iff_ne]; omega
  have t1 : ((kd : Int) == 1) = false := by rw [beq_eq_false_iff_ne]; omega
  have t2 : ((kd : Int) == 2) = false := by rw [beq_eq_false_iff_ne]; omega
  have t3 : ((kd : Int) == 3) = false := by rw [beq_eq_false_iff_ne]; omega
  have t4 : ((kd : Int) == 4) = false := by rw [beq_eq_false_iff_ne]; omega
  have t5 : ((kd : Int) == 5) = false := by rw [beq_eq_false_iff_ne]; omega
  have t6 : ((kd : Int) == 6) = false := by rw [beq_eq_false_iff_ne]; omega
  clear hkd
  go_enter Try.func27, Try.ntmps27
  go_wp2_with fail
  have hbl := ablocks_any HA.out
  rw [HCB.out] at hbl
  refine hbl.mono ?_
  rintro e w2 ⟨rfl, hb2⟩
  have HB2 := Lib.hid (HB1.out.trans (hb2.mono HB1.out.size))
  have HA2 := Lib.hid (HA.out.free hb2)
  have hr2 := HR.out.free hb2
  clear hb2 hbl
  obtain ⟨gb, cb, gi, ci, sv, h2⟩ := hr2
  obtain ⟨c0, c1, c2, c3, c4, c5, c6, c7, c8, c9⟩ := h2.cells
  have H2 := Lib.hid h2
  clear h2 c0 c1 c2 c3 c4 c5 c6 c8 c9
  go_wp2_with fail
  refine (refCount_any H2.out.blk HB.out.2.1).mono ?_
  rintro e w3 ⟨rfl, rfl⟩
  have hin := ainodes_any HA2.out
  rw [HCI.out] at hin
  have HIN := Lib.hid hin
  clear hin c7
  go_wp2_with fail
  refine HIN.out.mono ?_
  rintro e w4 ⟨rfl, hb4⟩
  have h4 : RefParts w4 FR pr n gb cb gi ci sv R := H2.out.step (Step.of_below hb4 (fun _ => False)) (fun _ _ h => h)
  obtain ⟨c0, c1, c2, c3, c4, c5, c6, c7, c8, c9⟩ := h4.cells
  have H4 := Lib.hid h4
  have HB4 := Lib.hid (HB2.out.trans (hb4.mono HB2.out.size))
  clear h4 hb4 c0 c1 c2 c3 c4 c5 c6 c7 c9
  go_wp2_with fail
  refine (refCount_any H4.out.ino HB.out.2.2.2.1).mono ?_
  rintro e w5 ⟨rfl, rfl⟩
  clear c8
  go_wp2_with fail
  go_ret
  exact ⟨by simp, HB4.out⟩
end
end Go.Proofs.Ytmhgahkainmbkaa
