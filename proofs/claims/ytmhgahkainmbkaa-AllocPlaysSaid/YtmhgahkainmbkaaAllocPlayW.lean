/- The walk of step: one call is done on the space and on the space by definition. -/
import Derived.Test.YtmhgahkainmbkaaAllocPlayM
import Derived.BigQuiet
import Derived.Deep.QuietTactic
namespace Go.Proofs.Ytmhgahkainmbkaa
open Go.RowKit Go.ChangeShapes Go.WideShapes
set_option linter.unusedVariables false
set_option linter.unusedSimpArgs false
section
variable {w : Ground} {wi wj : World} {F F' FR FR' FS FS' : Nat → Prop} {p go gs pd ps pr qs gq n : Nat} {L L' : LogM} {D D' : DiskM} {R R' S S' : RefM}
theorem SimV.bounds {f : Nat → List UInt8} (v : SimV n f R) (h64 : 64 ≤ n) (hm : n ≤ 1024) : 0 < R.blk.length ∧ R.blk.length ≤ 2000 ∧ 0 < R.ino.length ∧ R.ino.length ≤ 2000 ∧ R.blk.length ≤ n ∧ R.ino.length ≤ n := by
  have := lay_facts h64 hm
  have hi : lInodes n ≤ n := by unfold lInodes; omega
  rw [v.blen, v.ilen]
  omega
/-- What a step leaves. -/
def StepEnd (w : Ground) (wj : World) (p go gs pd ps pr gq n : Nat) : Prop := ∃ F FR FS qs L D R S, PlayW w wj F FR FS p go gs pd ps pr qs gq n L D R S ∧ Sim n L D R ∧ Safe n L D S
theorem step_ret (a f : Int) : ((a == a) && (f == f)) = true := by simp
attribute [local go_sem ↓] load_rs_mark store_rs_mark
set_option maxRecDepth 100000 in
set_option maxHeartbeats 4000000 in
theorem step_block (h : PlayW w wi F FR FS p go gs pd ps pr qs gq n L D R S) (sim : Sim n L D R) (sf : Safe n L D S) (i : Int) (hi : -9223372036854775808 ≤ i ∧ i ≤ 9223372036854775807) :
    Calls Try.prog 27 #[.pointer (some ⟨p, 0, none⟩), .pointer (some ⟨ps, 0, none⟩), .pointer (some ⟨pr, 0, none⟩), .pointer (some ⟨gq, 0, none⟩), .agg #[.int .i64 0, .int .i64 i]] wi fun e w' => e = .returned (.bool true) ∧ StepEnd w w' p go gs pd ps pr gq n := by
  have h64 := h.run.log.n64
  have hm := h.run.log.most
  have hlaid := h.run.log.laid
  have HS := Lib.hid (sim.s.small hlaid)
  have HB := Lib.hid (sim.v.bounds h64 hm)
  have HBS := Lib.hid (sf.1.bounds h64 hm)
  have HS0 := Lib.hid (show S.stg.length ≤ 4000 by rw [sf.2]; simp)
  have h1 := h.free ((Below.refl wi.heap.size wi).alloc (Nat.le_refl _) (.cells #[.int .i64 0, .int .i64 i] 49))
  obtain ⟨s1, s2, s3⟩ := hlaid.simBlock sim
  obtain ⟨a, f, R1, hT⟩ : ∃ a f R1, R.take n = (a, f, R1) := ⟨_, _, _, rfl⟩
  rw [hT] at s1 s2 s3
  have hsp := ablock_any h1.run.here
  rw [s1, s2] at hsp
  have HSP := Lib.hid hsp
  have hrf := fun (W : World) (hr : RefAt W FR pr n R) => refTake_any hr h64 hm (by have := HS.out; omega) (by have := HB.out; omega)
  rw [hT] at hrf
  have HRF := Lib.hid hrf
  have HSIM := Lib.hid s3
  have HSF3 := Lib.hid (sf.over (L' := (blockR n L D).2.2) (block_over _ _ _))
  have HP1 := Lib.hid h1
  have HNB := Lib.hid (show ¬ Both F p go gs wi.heap.size from fun hb => absurd (h.run.both_lt hb) (Nat.lt_irrefl _))
  clear h sim sf hlaid h64 hm h1 s1 s2 s3 hT hsp hrf hi
  have t0 : ((0 : Int) == 0) = true := by decide
  have t45 := fun h : ¬ f = 45 => (show (f == 45) = false by simpa using h)
  have T45 := Lib.hid t45
  clear t45
  go_enter Try.func27, Try.ntmps27
  go_wp2_with fail
  refine HSP.out.mono ?_
  rintro e w2 ⟨rfl, hA2⟩
  have HP2 := Lib.hid (HP1.out.nextA hA2)
  have hc1 := ((Blk.new wi 49 #[.int .i64 0, .int .i64 i]).step hA2.log.run.kept HNB.out).cell 1
  clear hA2
  go_wp2_with fail
  clear hc1
  refine (HRF.out _ HP2.out.ref).mono ?_
  rintro e w3 ⟨rfl, FR3, R3, hs3, hr3, heq⟩
  have HP3 := Lib.hid (HP2.out.nextR hs3 hr3)
  have HEQ := Lib.hid heq
  clear hs3 hr3 heq
  by_cases h45 : f = 45
  · subst h45
    go_wp2_with fail
    refine HP3.out.run.here.dropA.mono ?_
    rintro e w4 ⟨rfl, hA4⟩
    have HP4 := Lib.hid (HP3.out.nextA hA4)
    have hq := HP4.out.ptr.cell 0
    clear hA4
    go_wp2_with fail
    refine (refClone_any HP4.out.safe HBS.out.1 HBS.out.2.1 HBS.out.2.2.1 HBS.out.2.2.2.1 HS0.out).mono ?_
    rintro e w5 ⟨q, FC, rfl, he5, hr5, hn5⟩
    obtain ⟨x, hld, cs', hst, hp6⟩ := HP4.out.setr he5 hr5 hn5
    have HP6 := Lib.hid hp6
    clear he5 hr5 hn5 hp6 hq
    go_wp2_with fail
    go_ret
    exact ⟨by simp, _, _, _, _, _, _, _, _, HP6.out, HSF3.out.drop, HSF3.out.over rfl⟩
  · have hb := T45.out h45
    have HN := Lib.hid h45
    clear h45
    go_wp2_with fail
    go_ret
    have hp := HP3.out
    rw [HEQ.out HN.out] at hp
    exact ⟨by simp, _, _, _, _, _, _, _, _, hp, HSIM.out HN.out, HSF3.out⟩
set_option maxRecDepth 100000 in
set_option maxHeartbeats 4000000 in
theorem step_free (h : PlayW w wi F FR FS p go gs pd ps pr qs gq n L D R S) (sim : Sim n L D R) (sf : Safe n L D S) (i : Int) (hi : -9223372036854775808 ≤ i ∧ i ≤ 9223372036854775807) :
    Calls Try.prog 27 #[.pointer (some ⟨p, 0, none⟩), .pointer (some ⟨ps, 0, none⟩), .pointer (some ⟨pr, 0, none⟩), .pointer (some ⟨gq, 0, none⟩), .agg #[.int .i64 1, .int .i64 i]] wi fun e w' => e = .returned (.bool true) ∧ StepEnd w w' p go gs pd ps pr gq n := by
  have h64 := h.run.log.n64
  have hm := h.run.log.most
  have hlaid := h.run.log.laid
  have HS := Lib.hid (sim.s.small hlaid)
  have HB := Lib.hid (sim.v.bounds h64 hm)
  have HBS := Lib.hid (sf.1.bounds h64 hm)
  have HS0 := Lib.hid (show S.stg.length ≤ 4000 by rw [sf.2]; simp)
  have h1 := h.free ((Below.refl wi.heap.size wi).alloc (Nat.le_refl _) (.cells #[.int .i64 1, .int .i64 i] 49))
  obtain ⟨s2, s3⟩ := hlaid.simFree sim i
  obtain ⟨f, R1, hT⟩ : ∃ f R1, R.free n i = (f, R1) := ⟨_, _, rfl⟩
  rw [hT] at s2 s3
  have hsp := afreeBlock_any h1.run.here i hi
  rw [s2] at hsp
  have HSP := Lib.hid hsp
  have hrf := fun (W : World) (hr : RefAt W FR pr n R) => refFree_any hr h64 hm (by have := HS.out; omega) (by have := HB.out; omega) i hi
  rw [hT] at hrf
  have HRF := Lib.hid hrf
  have HSIM := Lib.hid s3
  have HSF3 := Lib.hid (sf.over (L' := (freeR n L D i).2) (free_over _ _ _ _))
  have HP1 := Lib.hid h1
  have HNB := Lib.hid (show ¬ Both F p go gs wi.heap.size from fun hb => absurd (h.run.both_lt hb) (Nat.lt_irrefl _))
  clear h sim sf hlaid h64 hm h1 s2 s3 hT hsp hrf hi
  have t0 : ((1 : Int) == 0) = false := by decide
  have t1 : ((1 : Int) == 1) = true := by decide
  have t45 := fun h : ¬ f = 45 => (show (f == 45) = false by simpa using h)
  have T45 := Lib.hid t45
  clear t45
  go_enter Try.func27, Try.ntmps27
  go_wp2_with fail
  refine HSP.out.mono ?_
  rintro e w2 ⟨rfl, hA2⟩
  have HP2 := Lib.hid (HP1.out.nextA hA2)
  have hc1 := ((Blk.new wi 49 #[.int .i64 1, .int .i64 i]).step hA2.log.run.kept HNB.out).cell 1
  clear hA2
  go_wp2_with fail
  clear hc1
  refine (HRF.out _ HP2.out.ref).mono ?_
  rintro e w3 ⟨rfl, FR3, R3, hs3, hr3, heq⟩
  have HP3 := Lib.hid (HP2.out.nextR hs3 hr3)
  have HEQ := Lib.hid heq
  clear hs3 hr3 heq
  by_cases h45 : f = 45
  · subst h45
    go_wp2_with fail
    refine HP3.out.run.here.dropA.mono ?_
    rintro e w4 ⟨rfl, hA4⟩
    have HP4 := Lib.hid (HP3.out.nextA hA4)
    have hq := HP4.out.ptr.cell 0
    clear hA4
    go_wp2_with fail
    refine (refClone_any HP4.out.safe HBS.out.1 HBS.out.2.1 HBS.out.2.2.1 HBS.out.2.2.2.1 HS0.out).mono ?_
    rintro e w5 ⟨q, FC, rfl, he5, hr5, hn5⟩
    obtain ⟨x, hld, cs', hst, hp6⟩ := HP4.out.setr he5 hr5 hn5
    have HP6 := Lib.hid hp6
    clear he5 hr5 hn5 hp6 hq
    go_wp2_with fail
    go_ret
    exact ⟨by simp, _, _, _, _, _, _, _, _, HP6.out, HSF3.out.drop, HSF3.out.over rfl⟩
  · have hb := T45.out h45
    have HN := Lib.hid h45
    clear h45
    go_wp2_with fail
    go_ret
    have hp := HP3.out
    rw [HEQ.out HN.out] at hp
    exact ⟨by simp, _, _, _, _, _, _, _, _, hp, HSIM.out HN.out, HSF3.out⟩
set_option maxRecDepth 100000 in
set_option maxHeartbeats 4000000 in
theorem step_inode (h : PlayW w wi F FR FS p go gs pd ps pr qs gq n L D R S) (sim : Sim n L D R) (sf : Safe n L D S) (i : Int) (hi : -9223372036854775808 ≤ i ∧ i ≤ 9223372036854775807) :
    Calls Try.prog 27 #[.pointer (some ⟨p, 0, none⟩), .pointer (some ⟨ps, 0, none⟩), .pointer (some ⟨pr, 0, none⟩), .pointer (some ⟨gq, 0, none⟩), .agg #[.int .i64 2, .int .i64 i]] wi fun e w' => e = .returned (.bool true) ∧ StepEnd w w' p go gs pd ps pr gq n := by
  have h64 := h.run.log.n64
  have hm := h.run.log.most
  have hlaid := h.run.log.laid
  have HS := Lib.hid (sim.s.small hlaid)
  have HB := Lib.hid (sim.v.bounds h64 hm)
  have HBS := Lib.hid (sf.1.bounds h64 hm)
  have HS0 := Lib.hid (show S.stg.length ≤ 4000 by rw [sf.2]; simp)
  have h1 := h.free ((Below.refl wi.heap.size wi).alloc (Nat.le_refl _) (.cells #[.int .i64 2, .int .i64 i] 49))
  obtain ⟨s1, s2, s3⟩ := hlaid.simInode sim
  obtain ⟨a, f, R1, hT⟩ : ∃ a f R1, R.takeI n = (a, f, R1) := ⟨_, _, _, rfl⟩
  rw [hT] at s1 s2 s3
  have hsp := ainode_any h1.run.here
  rw [s1, s2] at hsp
  have HSP := Lib.hid hsp
  have hrf := fun (W : World) (hr : RefAt W FR pr n R) => refTakeI_any hr h64 hm (by have := HS.out; omega) (by have := HB.out; omega)
  rw [hT] at hrf
  have HRF := Lib.hid hrf
  have HSIM := Lib.hid s3
  have HSF3 := Lib.hid (sf.over (L' := (inodeR n L D).2.2) (inode_over _ _ _))
  have HP1 := Lib.hid h1
  have HNB := Lib.hid (show ¬ Both F p go gs wi.heap.size from fun hb => absurd (h.run.both_lt hb) (Nat.lt_irrefl _))
  clear h sim sf hlaid h64 hm h1 s1 s2 s3 hT hsp hrf hi
  have t0 : ((2 : Int) == 0) = false := by decide
  have t1 : ((2 : Int) == 1) = false := by decide
  have t2 : ((2 : Int) == 2) = true := by decide
  have t45 := fun h : ¬ f = 45 => (show (f == 45) = false by simpa using h)
  have T45 := Lib.hid t45
  clear t45
  go_enter Try.func27, Try.ntmps27
  go_wp2_with fail
  refine HSP.out.mono ?_
  rintro e w2 ⟨rfl, hA2⟩
  have HP2 := Lib.hid (HP1.out.nextA hA2)
  have hc1 := ((Blk.new wi 49 #[.int .i64 2, .int .i64 i]).step hA2.log.run.kept HNB.out).cell 1
  clear hA2
  go_wp2_with fail
  clear hc1
  refine (HRF.out _ HP2.out.ref).mono ?_
  rintro e w3 ⟨rfl, FR3, R3, hs3, hr3, heq⟩
  have HP3 := Lib.hid (HP2.out.nextR hs3 hr3)
  have HEQ := Lib.hid heq
  clear hs3 hr3 heq
  by_cases h45 : f = 45
  · subst h45
    go_wp2_with fail
    refine HP3.out.run.here.dropA.mono ?_
    rintro e w4 ⟨rfl, hA4⟩
    have HP4 := Lib.hid (HP3.out.nextA hA4)
    have hq := HP4.out.ptr.cell 0
    clear hA4
    go_wp2_with fail
    refine (refClone_any HP4.out.safe HBS.out.1 HBS.out.2.1 HBS.out.2.2.1 HBS.out.2.2.2.1 HS0.out).mono ?_
    rintro e w5 ⟨q, FC, rfl, he5, hr5, hn5⟩
    obtain ⟨x, hld, cs', hst, hp6⟩ := HP4.out.setr he5 hr5 hn5
    have HP6 := Lib.hid hp6
    clear he5 hr5 hn5 hp6 hq
    go_wp2_with fail
    go_ret
    exact ⟨by simp, _, _, _, _, _, _, _, _, HP6.out, HSF3.out.drop, HSF3.out.over rfl⟩
  · have hb := T45.out h45
    have HN := Lib.hid h45
    clear h45
    go_wp2_with fail
    go_ret
    have hp := HP3.out
    rw [HEQ.out HN.out] at hp
    exact ⟨by simp, _, _, _, _, _, _, _, _, hp, HSIM.out HN.out, HSF3.out⟩
set_option maxRecDepth 100000 in
set_option maxHeartbeats 4000000 in
theorem step_freei (h : PlayW w wi F FR FS p go gs pd ps pr qs gq n L D R S) (sim : Sim n L D R) (sf : Safe n L D S) (i : Int) (hi : -9223372036854775808 ≤ i ∧ i ≤ 9223372036854775807) :
    Calls Try.prog 27 #[.pointer (some ⟨p, 0, none⟩), .pointer (some ⟨ps, 0, none⟩), .pointer (some ⟨pr, 0, none⟩), .pointer (some ⟨gq, 0, none⟩), .agg #[.int .i64 3, .int .i64 i]] wi fun e w' => e = .returned (.bool true) ∧ StepEnd w w' p go gs pd ps pr gq n := by
  have h64 := h.run.log.n64
  have hm := h.run.log.most
  have hlaid := h.run.log.laid
  have HS := Lib.hid (sim.s.small hlaid)
  have HB := Lib.hid (sim.v.bounds h64 hm)
  have HBS := Lib.hid (sf.1.bounds h64 hm)
  have HS0 := Lib.hid (show S.stg.length ≤ 4000 by rw [sf.2]; simp)
  have h1 := h.free ((Below.refl wi.heap.size wi).alloc (Nat.le_refl _) (.cells #[.int .i64 3, .int .i64 i] 49))
  obtain ⟨s2, s3⟩ := hlaid.simFreeI sim i
  obtain ⟨f, R1, hT⟩ : ∃ f R1, R.freeI n i = (f, R1) := ⟨_, _, rfl⟩
  rw [hT] at s2 s3
  have hsp := afreeInode_any h1.run.here i hi
  rw [s2] at hsp
  have HSP := Lib.hid hsp
  have hrf := fun (W : World) (hr : RefAt W FR pr n R) => refFreeI_any hr h64 hm (by have := HS.out; omega) (by have := HB.out; omega) i hi
  rw [hT] at hrf
  have HRF := Lib.hid hrf
  have HSIM := Lib.hid s3
  have HSF3 := Lib.hid (sf.over (L' := (freeInodeR n L D i).2) (freeInode_over _ _ _ _))
  have HP1 := Lib.hid h1
  have HNB := Lib.hid (show ¬ Both F p go gs wi.heap.size from fun hb => absurd (h.run.both_lt hb) (Nat.lt_irrefl _))
  clear h sim sf hlaid h64 hm h1 s2 s3 hT hsp hrf hi
  have t0 : ((3 : Int) == 0) = false := by decide
  have t1 : ((3 : Int) == 1) = false := by decide
  have t2 : ((3 : Int) == 2) = false := by decide
  have t3 : ((3 : Int) == 3) = true := by decide
  have t45 := fun h : ¬ f = 45 => (show (f == 45) = false by simpa using h)
  have T45 := Lib.hid t45
  clear t45
  go_enter Try.func27, Try.ntmps27
  go_wp2_with fail
  refine HSP.out.mono ?_
  rintro e w2 ⟨rfl, hA2⟩
  have HP2 := Lib.hid (HP1.out.nextA hA2)
  have hc1 := ((Blk.new wi 49 #[.int .i64 3, .int .i64 i]).step hA2.log.run.kept HNB.out).cell 1
  clear hA2
  go_wp2_with fail
  clear hc1
  refine (HRF.out _ HP2.out.ref).mono ?_
  rintro e w3 ⟨rfl, FR3, R3, hs3, hr3, heq⟩
  have HP3 := Lib.hid (HP2.out.nextR hs3 hr3)
  have HEQ := Lib.hid heq
  clear hs3 hr3 heq
  by_cases h45 : f = 45
  · subst h45
    go_wp2_with fail
    refine HP3.out.run.here.dropA.mono ?_
    rintro e w4 ⟨rfl, hA4⟩
    have HP4 := Lib.hid (HP3.out.nextA hA4)
    have hq := HP4.out.ptr.cell 0
    clear hA4
    go_wp2_with fail
    refine (refClone_any HP4.out.safe HBS.out.1 HBS.out.2.1 HBS.out.2.2.1 HBS.out.2.2.2.1 HS0.out).mono ?_
    rintro e w5 ⟨q, FC, rfl, he5, hr5, hn5⟩
    obtain ⟨x, hld, cs', hst, hp6⟩ := HP4.out.setr he5 hr5 hn5
    have HP6 := Lib.hid hp6
    clear he5 hr5 hn5 hp6 hq
    go_wp2_with fail
    go_ret
    exact ⟨by simp, _, _, _, _, _, _, _, _, HP6.out, HSF3.out.drop, HSF3.out.over rfl⟩
  · have hb := T45.out h45
    have HN := Lib.hid h45
    clear h45
    go_wp2_with fail
    go_ret
    have hp := HP3.out
    rw [HEQ.out HN.out] at hp
    exact ⟨by simp, _, _, _, _, _, _, _, _, hp, HSIM.out HN.out, HSF3.out⟩
end
end Go.Proofs.Ytmhgahkainmbkaa
