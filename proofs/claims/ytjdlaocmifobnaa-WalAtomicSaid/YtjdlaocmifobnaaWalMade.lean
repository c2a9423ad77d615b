/- A log of a call's own; the walks of made, homes and play. -/
import Derived.Test.YtjdlaocmifobnaaWalOps
import Derived.Test.YtjdlaocmifobnaaWalH
import Derived.Test.YtjdlaocmifobnaaWalCommit
namespace Go.Proofs.Ytjdlaocmifobnaa
open Go.RowKit
set_option linter.unusedVariables false
set_option linter.unusedSimpArgs false

/-- A log and its disk, of the call's own. -/
structure WRun (w wi : World) (F : Nat → Prop) (p go gs pd N : Nat) (L : LogM) (D : DiskM) : Prop where
  below : Below w.heap.size w wi
  wal : Wal wi F p go gs pd N L D
  foot : ∀ k, Both F p go gs k → w.heap.size ≤ k
section
variable {w wi wj : World} {p go gs pd N : Nat} {L L' : LogM} {F Fi Fj : Nat → Prop} {D D' : DiskM}
theorem WRun.ws (r : WRun w wi F p go gs pd N L D) (s : WS wi F wj Fj p go gs pd N L' D') : WRun w wj Fj p go gs pd N L' D' :=
  ⟨r.below.trans (s.step.below r.below.size r.foot), s.wal, s.step.from_ r.below.size r.foot⟩
theorem WRun.free (r : WRun w wi F p go gs pd N L D) (hb : Below wi.heap.size wi wj) : WRun w wj F p go gs pd N L D := r.ws (r.wal.start.free hb)
theorem WRun.drew (r : WRun w wi F p go gs pd N L D) : WRun w wi.drew F p go gs pd N L D := r.free (Below.refl wi.heap.size wi).drew
theorem WRun.dstep (r : WRun w wi F p go gs pd N L D) (s : Step wi wj F Fj) (d : Disk wj Fj pd N D') : WRun w wj Fj p go gs pd N L D' := r.ws (r.wal.start.diskStep s d)
theorem WRun.lstep (r : WRun w wi F p go gs pd N L D) (s : Step wi wj (Foot p go gs) (Foot p go gs)) (l : LogAt wj p go gs pd N L') : WRun w wj F p go gs pd N L' D := r.ws (r.wal.start.logStep s l)
theorem WRun.run (r : WRun w wi F p go gs pd N L D) : Run w wi F pd N D := ⟨r.below, r.wal.disk, fun k hk => r.foot k (.inl hk)⟩
theorem WRun.done3 (r : WRun w wi F p go gs pd N L D) {R : Int × LogM × DiskM} {e : Ending} (h : Done3 wi F p go gs pd N R e wj) : e = .returned (.int .i64 R.1) ∧ ∃ F', WRun w wj F' p go gs pd N R.2.1 R.2.2 :=
  ⟨h.1, h.2.elim fun F' h => ⟨F', r.ws h⟩⟩
theorem WRun.commit (r : WRun w wi F p go gs pd N L D) (hl : D.loose.length ≤ 800000) (hc : costN L.staged.length < L.n) :
    Calls Try.prog 21 #[.pointer (some ⟨p, 0, none⟩)] wi fun e w' => e = .returned (.int .i64 (commitR N L D).1) ∧ ∃ F', WRun w w' F' p go gs pd N (commitR N L D).2.1 (commitR N L D).2.2 :=
  (commit_any r.wal hl hc).mono fun _ _ h => r.done3 h
theorem WRun.home (r : WRun w wi F p go gs pd N L D) (hl : D.loose.length ≤ 900000) :
    Calls Try.prog 26 #[.pointer (some ⟨p, 0, none⟩)] wi fun e w' => e = .returned (.int .i64 (homeR N L D).1) ∧ ∃ F', WRun w w' F' p go gs pd N (homeR N L D).2.1 (homeR N L D).2.2 :=
  (home2_any r.wal hl).mono fun _ _ h => r.done3 h
theorem WRun.drop (r : WRun w wi F p go gs pd N L D) :
    Calls Try.prog 11 #[.pointer (some ⟨p, 0, none⟩)] wi fun e w' => e = .returned (.tuple #[]) ∧ WRun w w' F p go gs pd N { L with staged := [] } D :=
  (drop_any r.wal.log).mono fun _ _ ⟨he, hl, hs⟩ => ⟨he, r.lstep hs hl⟩
theorem WRun.stage (r : WRun w wi F p go gs pd N L D) (i : Int) (hi : -9223372036854775808 ≤ i ∧ i ≤ 9223372036854775807) {A : Option Addr} {n c B : Nat} {l : List UInt8} (hS : Slc wi B 1 A n c (l.map bv)) :
    Calls Try.prog 19 #[.pointer (some ⟨p, 0, none⟩), .int .i64 i, .slice A n c] wi fun e w' => e = .returned (.int .i64 (L.stageE N i n)) ∧ WRun w w' F p go gs pd N (L.stage N i n l) D :=
  (stage_any r.wal.log r.wal.disk i hi hS).mono fun _ _ ⟨he, hl, hs⟩ => ⟨he, r.lstep hs hl⟩
/-- A sector of one byte is staged. -/
theorem WRun.stageFull (r : WRun w wi F p go gs pd N L D) {c : UInt8} {g : Nat} (hf : NewFull wi wj c g) (i : Int) (hi : -9223372036854775808 ≤ i ∧ i ≤ 9223372036854775807) :
    Calls Try.prog 19 #[.pointer (some ⟨p, 0, none⟩), .int .i64 i, .slice (some ⟨g, 0, none⟩) 128 128] wj fun e w' => e = .returned (.int .i64 (L.stageE N i 128)) ∧ WRun w w' F p go gs pd N (L.stage N i 128 (fulls c)) D :=
  (r.free hf.below).stage i hi (full_slc hf.blk)
end

/-- The size of the room that made takes. -/
def madeK (n : Int) : Nat := 4 + smallN n 12
theorem madeK_le (n : Int) : 4 ≤ madeK n ∧ madeK n ≤ 15 := by have := smallN_lt n (n := 12) (by decide); unfold madeK; omega
def madeL (k : Nat) : LogM := { base := 0, n := k, epoch := 1, used := 0, sum := begin64.toNat, over := [], staged := [], dead := false }
def madeG (N k : Nat) : DiskM := (formatR N (DiskM.fresh N) 0 (k : Int)).2
theorem made_factsG {N k : Nat} (h4 : 4 ≤ k) (h15 : k ≤ 255) (hkN : k ≤ N) (hN : N ≤ 1024) : (formatR N (DiskM.fresh N) 0 (k : Int)).1 = 0 ∧ LInv N (madeL k) (madeG N k) ∧ (madeG N k).armed = false ∧ (madeG N k).now = (DiskM.fresh N).now.set 0 ctl0 := by
  have hok := fresh_ok (N := N) (by omega) (by omega)
  have hm : mayB N 0 (k : Int) = true := by unfold mayB; rw [decide_eq_true_eq]; omega
  have hr : Rest N (DiskM.fresh N) := ⟨hok, rfl, rfl, rfl⟩
  have hg : DG N (fun _ => True) (DiskM.fresh N) := hr.dg trivial
  have hf : (formatR N (DiskM.fresh N) 0 (k : Int)) = (((DiskM.fresh N).write N 0 ctl0).flushE, ((DiskM.fresh N).write N 0 ctl0).flush) ∧ ((DiskM.fresh N).write N 0 ctl0).flushE = 0 ∧ Rest N ((DiskM.fresh N).write N 0 ctl0).flush ∧
      ((DiskM.fresh N).write N 0 ctl0).flush.now = (DiskM.fresh N).now.set 0 ctl0 ∧ ((DiskM.fresh N).write N 0 ctl0).flush.armed = false := by
    rcases hg.write (i := 0) (x := ctl0) (by omega) (ctl_length _ _ _) (fun _ _ => trivial) with ⟨e1, hg1, hn1, ha1⟩ | ⟨_, ha, _⟩
    · rw [show ((0 : Nat) : Int) = 0 from rfl] at e1 hg1 hn1 ha1
      rcases hg1.flush with ⟨e2, hr2, hn2, ha2⟩ | ⟨_, ha, _⟩
      · refine ⟨?_, e2, hr2, hn2.trans hn1, ha2.trans ha1⟩
        unfold formatR
        rw [if_neg (by simp [hm]), if_neg (by simp [e1])]
      · rw [ha1] at ha; cases ha
    · cases ha
  obtain ⟨e, e0, hr2, hn2, ha2⟩ := hf
  have hD : madeG N k = ((DiskM.fresh N).write N 0 ctl0).flush := by unfold madeG; rw [e]
  rw [e, hD]
  have hlen : (DiskM.fresh N).now.length = N := hok.nowLen
  refine ⟨e0, ⟨⟨hok.most, h4, h15, by simp only [madeL]; omega, by simp [madeL], by simp only [madeL]; omega, UInt64.toNat_lt _⟩, rfl, hr2, ⟨?_, ?_, ?_, rfl⟩, List.Pairwise.nil, List.Pairwise.nil, (fun x hx => by cases hx), (fun x hx => by cases hx), by simp only [madeL, costN, List.length_nil]; omega⟩, ha2, hn2⟩
  · rw [hn2, List.length_set, hlen]
  · rw [hn2]
    show ((DiskM.fresh N).now.set 0 ctl0).getD 0 [] = _
    rw [getD_set_eq (by omega)]
    rfl
  · simp [roomS, updAll, madeL]

def madeD (k : Nat) : DiskM := madeG (k + 24) k
theorem made_facts {k : Nat} (h4 : 4 ≤ k) (h15 : k ≤ 255) : (formatR (k + 24) (DiskM.fresh (k + 24)) 0 (k : Int)).1 = 0 ∧ LInv (k + 24) (madeL k) (madeD k) ∧ (madeD k).armed = false ∧ (madeD k).now = (DiskM.fresh (k + 24)).now.set 0 ctl0 := made_factsG h4 h15 (by omega) (by omega)

set_option maxRecDepth 100000 in
set_option maxHeartbeats 1000000 in
theorem made_any (n : Int) (hn : -9223372036854775808 ≤ n ∧ n ≤ 9223372036854775807) (w : World) :
    Calls Try.prog 9 #[.int .i64 n] w fun e w' => ∃ p go gs pd F, e = .returned (.tuple #[.pointer (some ⟨pd, 0, none⟩), .pointer (some ⟨p, 0, none⟩), .int .i64 (madeK n : Int)]) ∧ WRun w w' F p go gs pd (madeK n + 24) (madeL (madeK n)) (madeD (madeK n)) := by
  have hk := madeK_le n
  have hsm := fun w => small_any n hn 12 (by decide) (by decide) w
  have HSM := Lib.hid hsm
  have hke : (4 : Int) + (smallN n 12 : Int) = (madeK n : Int) := by unfold madeK; omega
  have hlt := smallN_lt n (n := 12) (by decide)
  obtain ⟨q, hq⟩ : ∃ q, q = smallN n 12 := ⟨_, rfl⟩
  rw [← hq] at hke hlt
  have HQ := Lib.hid hq
  generalize madeK n = K at *
  obtain ⟨hf0, hinv, ha, hnow⟩ := made_facts hk.1 (by omega)
  obtain ⟨D, hD⟩ : ∃ D, D = madeD K := ⟨_, rfl⟩
  have hfm : formatR (K + 24) (DiskM.fresh (K + 24)) 0 (K : Int) = (0, D) := by rw [hD]; exact Prod.ext hf0 rfl
  have hop : openR (K + 24) D 0 K = (0, some (madeL K)) := by
    rw [hD]
    exact open_coded hinv.coded hinv.ok hinv.rest.up
  rw [← hD]
  have HFM := Lib.hid hfm
  have HOP := Lib.hid hop
  have hke2 : (K : Int) + 24 = ((K + 24 : Nat) : Int) := by omega
  have HKE2 := Lib.hid hke2
  have hkk := hk.2
  have hw24 : IntKind.i64.wrap ((K : Int) + 24) = (K : Int) + 24 := IntWalk.i64_in _ (by omega)
  clear hke2
  clear hsm hq hf0 hinv ha hnow hD hfm hop
  go_enter Try.func9, Try.ntmps9
  go_wp2_with fail
  refine (HSM.out _).mono ?_
  rintro e w1 ⟨rfl, rfl⟩
  rw [← HQ.out]
  go_wp2_with fail
  rw [HKE2.out]
  refine (new_any (K + 24) (by omega) (by omega) _).mono ?_
  rintro e w1 ⟨pd, rfl, hb1, hd1⟩
  have R1 : Run w w1 (fun k => w.heap.size ≤ k ∧ k < w1.heap.size) pd (K + 24) (DiskM.fresh (K + 24)) := ⟨hb1, hd1, fun k hk => hk.1⟩
  have HR1 := Lib.hid R1
  clear hb1 hd1 R1
  go_wp2_with fail
  have hfo := format_any HR1.out.disk 0 (K : Int) (by omega) (by omega) (by simp [DiskM.fresh])
  rw [HFM.out] at hfo
  have HFO := Lib.hid hfo
  clear hfo
  refine HFO.out.mono ?_
  rintro e w2 ⟨rfl, F2, hs2, hd2⟩
  have R2 := HR1.out.step hs2 hd2
  have HR2 := Lib.hid R2
  clear hs2 hd2 R2
  go_wp2_with fail
  have hop := open_any HR2.out.disk 0 K (by unfold mayB; rw [decide_eq_true_eq]; omega)
  rw [HOP.out] at hop
  have HO := Lib.hid hop
  clear hop
  refine HO.out.mono ?_
  rintro e w3 ⟨hb3, _, hl3⟩
  obtain ⟨p, go, gs, rfl, hlog, hft⟩ := hl3 _ rfl
  have R3 : WRun w w3 F2 p go gs pd (K + 24) (madeL K) D := ⟨HR2.out.below.trans (hb3.mono HR2.out.below.size), ⟨hlog, HR2.out.disk.free hb3, fun k hk hf => by
    have h1 := hft k hk
    have h2 := HR2.out.disk.1 k hf
    omega⟩, fun k hk => by
    rcases hk with hk | hk
    · exact HR2.out.foot k hk
    · have h1 := hft k hk
      have h2 := HR2.out.below.size
      omega⟩
  have HR3 := Lib.hid R3
  clear hb3 hl3 hlog hft R3
  go_wp2_with fail
  go_ret3
  exact ⟨p, go, gs, pd, F2, rfl, HR3.out⟩
end Go.Proofs.Ytjdlaocmifobnaa
