/- The walk of the examples at the head of the laws on logs. -/
import Derived.Test.YtjdlaocmifobnaaWalPlay
import Derived.Deep.RegionHeld
namespace Go.Proofs.Ytjdlaocmifobnaa
open Go.RowKit
set_option linter.unusedVariables false
set_option linter.unusedSimpArgs false

def q0 : DiskM := madeG 20 8
def l1 : LogM := (madeL 8).stage 20 3 128 (fulls 1)
def l2 : LogM := l1.stage 20 9 128 (fulls 1)
def c3 : Int × LogM × DiskM := commitR 20 l2 q0
def h4 : Int × LogM × DiskM := homeR 20 c3.2.1 c3.2.2
theorem w_facts : (formatR 20 (DiskM.fresh 20) 0 8).1 = 0 ∧ (madeL 8).stageE 20 3 128 = 43 ∧ l1.stageE 20 9 128 = 0 ∧ q0.loose.length ≤ 800000 ∧ costN l2.staged.length < l2.n ∧ c3.1 = 0 ∧ c3.2.1.used = 2 ∧ c3.2.2.mayE 20 9 = 0 ∧ c3.2.2.now.getD 9 [] = fulls 0 ∧ c3.2.2.loose.length ≤ 900000 ∧ h4.1 = 0 ∧ h4.2.2.mayE 20 9 = 0 ∧ h4.2.2.now.getD 9 [] = fulls 1 ∧ h4.2.1.n = 8 := by decide +kernel

set_option maxRecDepth 100000 in
set_option maxHeartbeats 4000000 in
theorem wshown_any (w : World) :
    Calls Try.prog 8 #[] w fun e w' => e = .returned (.bool true) ∧ Below w.heap.size w w' := by
  obtain ⟨f1, f2, f3, f4, f5, f6, f7, f8, f9, f10, f11, f12, f13, f14⟩ := w_facts
  have hfm : formatR 20 (DiskM.fresh 20) 0 8 = (0, q0) := Prod.ext f1 rfl
  obtain ⟨_, hinv, _, _⟩ := made_factsG (N := 20) (k := 8) (by decide) (by decide) (by decide) (by decide)
  have hop : openR 20 q0 0 8 = (0, some (madeL 8)) := open_coded hinv.coded hinv.ok hinv.rest.up
  have HFM := Lib.hid hfm
  have HOP := Lib.hid hop
  have HF2 := Lib.hid f2
  have HF3 := Lib.hid f3
  have HF4 := Lib.hid (And.intro f4 (And.intro f5 f10))
  have HF6 := Lib.hid f6
  have HF7 := Lib.hid f7
  have HF8 := Lib.hid f8
  have HF9 := Lib.hid f9
  have HF11 := Lib.hid f11
  have HF12 := Lib.hid f12
  have HF13 := Lib.hid f13
  have HF14 := Lib.hid f14
  clear f1 f2 f3 f4 f5 f6 f7 f8 f9 f10 f11 f12 f13 f14 hfm hinv hop
  go_enter Try.func8, Try.ntmps8
  go_wp2_with fail
  refine (new_any 20 (by decide) (by decide) w).mono ?_
  rintro e w1 ⟨pd, rfl, hb1, hd1⟩
  have HR1 := Lib.hid (show Run w w1 (fun k => w.heap.size ≤ k ∧ k < w1.heap.size) pd 20 (DiskM.fresh 20) from ⟨hb1, hd1, fun k hk => hk.1⟩)
  clear hb1 hd1
  go_wp2_with fail
  have hfo := format_any HR1.out.disk 0 8 (by omega) (by omega) (by simp [DiskM.fresh])
  rw [HFM.out] at hfo
  have HFO := Lib.hid hfo
  clear hfo
  refine HFO.out.mono ?_
  rintro e w2 ⟨rfl, F2, hs2, hd2⟩
  have HR2 := Lib.hid (HR1.out.step hs2 hd2)
  clear hs2 hd2
  go_wp2_with fail
  have hop := open_any HR2.out.disk 0 8 (by decide)
  rw [HOP.out] at hop
  have HO := Lib.hid hop
  clear hop
  refine HO.out.mono ?_
  rintro e w3 ⟨hb3, _, hl3⟩
  obtain ⟨p, go, gs, rfl, hlog, hft⟩ := hl3 _ rfl
  have HR3 := Lib.hid (show WRun w w3 F2 p go gs pd 20 (madeL 8) q0 from ⟨HR2.out.below.trans (hb3.mono HR2.out.below.size), ⟨hlog, HR2.out.disk.free hb3, fun k hk hf => by
    have h1 := hft k hk
    have h2 := HR2.out.disk.1 k hf
    omega⟩, fun k hk => by
    rcases hk with hk | hk
    · exact HR2.out.foot k hk
    · have h1 := hft k hk
      have h2 := HR2.out.below.size
      omega⟩)
  clear hb3 hl3 hlog hft
  go_wp2_with fail
  refine (full_lit 1 1 rfl _).mono ?_
  rintro e w4 ⟨g, rfl, hn⟩
  go_wp2_with fail
  refine (HR3.out.stageFull hn 3 (by omega)).mono ?_
  rintro e w5 ⟨rfl, R5⟩
  have HR5 := Lib.hid (show WRun w w5 F2 p go gs pd 20 l1 q0 from R5)
  rw [HF2.out]
  clear R5 hn
  go_wp2_with fail
  refine (full_lit 1 1 rfl _).mono ?_
  rintro e w6 ⟨g, rfl, hn⟩
  go_wp2_with fail
  refine (HR5.out.stageFull hn 9 (by omega)).mono ?_
  rintro e w7 ⟨rfl, R7⟩
  have HR7 := Lib.hid (show WRun w w7 F2 p go gs pd 20 l2 q0 from R7)
  rw [HF3.out]
  clear R7 hn
  go_wp2_with fail
  refine (HR7.out.commit HF4.out.1 HF4.out.2.1).mono ?_
  rintro e w8 ⟨rfl, F8, R8⟩
  have HR8 := Lib.hid (show WRun w w8 F8 p go gs pd 20 c3.2.1 c3.2.2 from R8)
  rw [show (commitR 20 l2 q0).1 = 0 from HF6.out]
  clear R8
  go_wp2_with fail
  refine (used_any HR8.out.wal.log).mono ?_
  rintro e w9 ⟨rfl, rfl⟩
  rw [HF7.out]
  go_wp2_with fail
  refine (readAny HR8.out.wal.disk 9 HF8.out).mono ?_
  rintro e w9 ⟨ga, rfl, hga, hBa, hb9⟩
  rw [show (9 : Int).toNat = 9 from rfl, HF9.out] at hBa
  have HR9 := Lib.hid (HR8.out.free hb9)
  have hna : ¬ Both F8 p go gs ga := fun h => by have := HR8.out.wal.both_lt ga h; omega
  have HBA := Lib.hid hBa
  have HNA := Lib.hid hna
  clear hBa hb9 hga hna
  go_wp2_with fail
  refine (home2_any HR9.out.wal HF4.out.2.2).mono ?_
  rintro e w10 ⟨rfl, F10, h10⟩
  have HR10 := Lib.hid (show WRun w w10 F10 p go gs pd 20 h4.2.1 h4.2.2 from HR9.out.ws h10)
  have HBA10 := Lib.hid (HBA.out.step h10.step HNA.out)
  rw [show (homeR 20 c3.2.1 c3.2.2).1 = 0 from HF11.out]
  clear h10
  go_wp2_with fail
  refine (readAny HR10.out.wal.disk 9 HF12.out).mono ?_
  rintro e w11 ⟨gb, rfl, hgb, hBb, hb11⟩
  rw [show (9 : Int).toNat = 9 from rfl, HF13.out] at hBb
  have HR11 := Lib.hid (HR10.out.free hb11)
  have hBa11 := HBA10.out.below hb11 HBA10.out.lt
  have hS : ∀ W, Below w11.heap.size w11 W → (convert 33 9 (.slice (some ⟨ga, 0, none⟩) 128 128)).run Try.prog W = .ok (.string ⟨(fulls 0).toArray⟩) W ∧ (convert 33 9 (.slice (some ⟨gb, 0, none⟩) 128 128)).run Try.prog W = .ok (.string ⟨(fulls 1).toArray⟩) W := fun W hW =>
    ⟨sector_string (fulls_length 0) (hBa11.below hW hBa11.lt), sector_string (fulls_length 1) (hBb.below hW hBb.lt)⟩
  have HSS := Lib.hid hS
  have hw11 : Below w11.heap.size w11 w11.drew := (Below.refl _ _).drew
  have hlen := llen_any HR11.out.drew.wal.log
  rw [show ((h4.2.1.n - 1 : Nat) : Int) = 7 by rw [HF14.out]; rfl] at hlen
  have HLEN := Lib.hid hlen
  clear hS hBb hb11 hgb hBa11 hlen
  have tok1 : True := trivial
  go_wp2_with fail
  go_region_held (fun W => (convert 33 9 (.slice (some ⟨ga, 0, none⟩) 128 128)).run Try.prog W = .ok (.string ⟨(fulls 0).toArray⟩) W ∧ (convert 33 9 (.slice (some ⟨gb, 0, none⟩) 128 128)).run Try.prog W = .ok (.string ⟨(fulls 1).toArray⟩) W) (exact HSS.out _ (by assumption)) (first | (go_at_call 20; have _t := tok1; refine (full_lit 0 0 rfl _).mono ?_; rintro e w18 ⟨g18, rfl, hn18⟩; have hb18 : Below w11.heap.size w11 w18 := hw11.trans hn18.below; have hc18 := full_string hn18.blk; clear tok1) | (go_at_call 20; refine (full_lit 1 1 rfl _).mono ?_; rintro e w19 ⟨g19, rfl, hn19⟩; have hb19 : Below w11.heap.size w11 w19 := hb18.trans (hn19.below.mono hb18.size); have hc19 := full_string hn19.blk) | (go_at_call 18; refine HLEN.out.mono ?_; rintro e w20 ⟨rfl, rfl⟩))
  all_goals
    go_wp2_with fail
    go_ret
    exact ⟨rfl, (HR11.out.free hb19).below⟩
end Go.Proofs.Ytjdlaocmifobnaa
