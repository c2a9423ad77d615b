/- The walks of Format and Open. The walk of Open. -/
import Derived.Test.YtmhgahkainmbkaaAllocRun
import Derived.Deep.RegionHeld3
import Derived.Deep.RegionHeld
namespace Go.Proofs.Ytmhgahkainmbkaa
open Go.RowKit
set_option linter.unusedVariables false
set_option linter.unusedSimpArgs false
section
attribute [local go_sem ↓] load_layout_mark store_layout_mark alloc_layout_mark make_bytes_mark
attribute [local go_sem] alloc_layout store_layout make128
variable {w : Ground} {wi wj : World} {p go gs pd ps n : Nat} {L L' : LogM} {F Fj : Nat → Prop} {D : DiskM}
theorem LRun.foot_lt (h : LRun w wi F p go gs pd n L D) : ∀ k, Foot p go gs k → k < wi.heap.size := h.run.wal.log.lt
theorem zbytes_z : (zbytes 128) = ((zsec).map bv).toArray := by simp [zbytes, zsec, bv]
theorem bytes_slc {w : World} {g : Nat} {l : List UInt8} (hl : l.length = 128) (h : Blk w g 5 (l.map bv).toArray) : Slc w (g + 1) 1 (some ⟨g, 0, none⟩) 128 128 (l.map bv) := by
  have := h.slc (sz := 1) (n := 128) (c := 128) (by simp [hl]) (Nat.le_refl _) (by decide)
  rwa [List.take_of_length_le (by simp [hl])] at this
set_option maxRecDepth 100000 in
set_option maxHeartbeats 2000000 in
theorem aformat_any (h : LRun w wi F p go gs pd n L D) :
    Calls Try.prog 35 #[.pointer (some ⟨p, 0, none⟩), .int .i64 (n : Int)] wi fun e w' => e = .returned (.int .i64 (aformatR n L).1) ∧ LRun w w' F p go gs pd n (aformatR n L).2 D := by
  have hm := h.most
  have h64 := h.n64
  obtain ⟨f1, f2, f3, f4, f5, f6, f7, f8, f9⟩ := lay_facts h64 hm
  obtain ⟨L1, hL1⟩ : ∃ L1, L1 = L.stage n 0 128 (headB n) := ⟨_, rfl⟩
  obtain ⟨E1, hE1⟩ : ∃ E1, E1 = L.stageE n 0 128 := ⟨_, rfl⟩
  obtain ⟨L2, hL2⟩ : ∃ L2, L2 = L1.stage n (lMap n : Int) 128 zsec := ⟨_, rfl⟩
  obtain ⟨E2, hE2⟩ : ∃ E2, E2 = L1.stageE n (lMap n : Int) 128 := ⟨_, rfl⟩
  obtain ⟨R, hR⟩ : ∃ R, R = aformatR n L := ⟨_, rfl⟩
  rw [← hR]
  have HR := Lib.hid (show R = if E1 ≠ 0 then (E1, L1) else if E2 ≠ 0 then (E2, L2) else (L2.stageE n (lNodes n : Int) 128, L2.stage n (lNodes n : Int) 128 (zsec.set 0 1)) by rw [hR, hE2, hL2, hE1, hL1]; rfl)
  have HE := Lib.hid (And.intro hL1 (And.intro hE1 (And.intro hL2 hE2)))
  have HN := Lib.hid (show lMap n < n ∧ lNodes n < n ∧ lMap n ≤ lNodes n by omega)
  have HLAY := Lib.hid (fun W : World => lay_any h64 hm W)
  have HHD := Lib.hid (fun W : World => head_any (n := n) (by omega) W)
  have H := Lib.hid h
  clear h h64 f1 f2 f3 f4 f5 f6 f7 f8 f9 hL1 hE1 hL2 hE2 hR
  go_enter Try.func35, Try.ntmps35
  go_wp2_with fail
  refine (HLAY.out _).mono ?_
  rintro e w1 ⟨rfl, hb1⟩
  have hst := store_layout n w1
  obtain ⟨w2, hw2⟩ : ∃ w2, w2 = w1.alloc (.cells (layCells n).toArray 24) := ⟨_, rfl⟩
  have hY : Blk w2 w1.heap.size 24 (layCells n).toArray := by rw [hw2]; exact Blk.new _ _ _
  have hb2 : Below wi.heap.size wi w2 := by rw [hw2]; exact hb1.alloc hb1.size _
  obtain ⟨gy, hgy⟩ : ∃ gy, gy = w1.heap.size := ⟨_, rfl⟩
  have hgyw : wi.heap.size ≤ gy := by rw [hgy]; exact hb1.size
  rw [← hgy] at hY
  have HY := Lib.hid hY
  have HW2 := Lib.hid hw2
  have H2 := Lib.hid (H.out.free hb2)
  clear hY hw2 hb1 hb2
  go_wp2_with fail
  rw [← HW2.out]
  refine (HHD.out w2).mono ?_
  rintro e w3 ⟨rfl, hb3, hB3⟩
  have hst := (H2.out.free hb3).stage (k := 0) (.inl rfl) (by have := HN.out.1; omega) (z := 0) rfl (headB_length n) (bytes_slc (headB_length n) hB3)
  rw [show L.stageE n ((0 : Nat) : Int) 128 = E1 from HE.out.2.1.symm, show L.stage n ((0 : Nat) : Int) 128 (headB n) = L1 from HE.out.1.symm] at hst
  have HST := Lib.hid hst
  have HY3 := Lib.hid (HY.out.below hb3 HY.out.lt)
  have hfl : ∀ k, Foot p go gs k → k < wi.heap.size := H.out.foot_lt
  have HFL := Lib.hid hfl
  have hb3s := hb3.size
  clear hst hb3 hB3 hfl
  go_wp2_with fail
  refine HST.out.mono ?_
  rintro e w4 ⟨rfl, hs4, hr4⟩
  have hny : ¬ Foot p go gs gy := fun hf => by have := HFL.out gy hf; omega
  have hY4 := HY3.out.step hs4 hny
  have HY4 := Lib.hid hY4
  have H4 := Lib.hid hr4
  clear hY4 hr4 hs4
  by_cases hE1 : E1 = 0
  · subst hE1
    have hR : R = if E2 ≠ 0 then (E2, L2) else (L2.stageE n (lNodes n : Int) 128, L2.stage n (lNodes n : Int) 128 (zsec.set 0 1)) := by rw [HR.out, if_neg (by simp)]
    have HR2 := Lib.hid hR
    obtain ⟨w5, hw5⟩ : ∃ w5, w5 = w4.alloc (.cells (zbytes 128) 5) := ⟨_, rfl⟩
    have hB5 : Blk w5 w4.heap.size 5 (zsec.map bv).toArray := by rw [hw5, ← zbytes_z]; exact Blk.new _ _ _
    have hb5 : Below w4.heap.size w4 w5 := by rw [hw5]; exact (Below.refl _ _).alloc (Nat.le_refl _) _
    have hY5 := HY4.out.below hb5 HY4.out.lt
    have hc3 := hY5.cell 3
    have hc3' : (w4.alloc (.cells (zbytes 128) 5)).cell? ⟨w1.heap.size, 3, none⟩ = some (.int .i64 (lMap n : Int)) := by rw [← hw5, ← hgy]; exact hc3
    have hst := (H4.out.free hb5).stage (k := lMap n) (.inr (Nat.le_refl _)) HN.out.1 (z := (lMap n : Int)) rfl (by simp [zsec]) (bytes_slc (by simp [zsec]) hB5)
    rw [← HE.out.2.2.1, ← HE.out.2.2.2] at hst
    have HST2 := Lib.hid hst
    have HB5 := Lib.hid hB5
    have HY5 := Lib.hid hY5
    have HW5 := Lib.hid hw5
    have hg4 : gy < w4.heap.size := HY4.out.lt
    have hwi4 : wi.heap.size ≤ w4.heap.size := by omega
    clear hR hw5 hB5 hb5 hY5 hc3 hst
    go_wp2_with fail
    rw [← HW5.out]
    refine HST2.out.mono ?_
    rintro e w6 ⟨rfl, hs6, hr6⟩
    have hY6 := HY5.out.step hs6 (fun hf => by have := HFL.out _ hf; omega)
    have hB6 := HB5.out.step hs6 (fun hf => by have := HFL.out _ hf; omega)
    have H6 := Lib.hid hr6
    have hc0 : w6.cell? ⟨w4.heap.size, 0, none⟩ = some (.int .u8 0) := by rw [hB6.cell]; rfl
    have hfz := hB6.frozen
    by_cases hE2 : E2 = 0
    · subst hE2
      have hR : R = (L2.stageE n (lNodes n : Int) 128, L2.stage n (lNodes n : Int) 128 (zsec.set 0 1)) := by rw [HR2.out, if_neg (by simp)]
      have HR3 := Lib.hid hR
      obtain ⟨w7, hw7⟩ : ∃ w7, w7 = w6.setCell ⟨w4.heap.size, 0, none⟩ (.int .u8 1) := ⟨_, rfl⟩
      have hB7 : Blk w7 w4.heap.size 5 ((zsec.set 0 1).map bv).toArray := by
        rw [hw7]
        have := hB6.set_ 0 (.int .u8 1)
        rw [show ((zsec.set 0 1).map bv).toArray = ((zsec.map bv).toArray).setIfInBounds 0 (.int .u8 1) by simp [bv]]
        exact this
      have hs7 : Step w6 w7 (fun k => k = w4.heap.size) (fun k => k = w4.heap.size) := by rw [hw7]; exact (Step.refl w6 (fun k => k = w4.heap.size)).setCell (p := ⟨w4.heap.size, 0, none⟩) (.inl rfl) _
      have hY7 := hY6.step hs7 (by omega)
      have hc4 : w7.cell? ⟨w1.heap.size, 4, none⟩ = some (.int .i64 (lNodes n : Int)) := by rw [← hgy]; exact hY7.cell 4
      rw [hw7] at hc4
      have hr7 : LRun w w7 F p go gs pd n L2 D := ⟨H6.out.run.other hs7 (fun k hk hf => by subst hk; exact absurd (H.out.run.wal.both_lt _ hf) (by omega)) (fun k hk => .inr (by have := H.out.run.kept.size; omega)), H6.out.inv, H6.out.armed, H6.out.base, H6.out.size, H6.out.n64⟩
      have hst := hr7.stage (k := lNodes n) (.inr HN.out.2.2) HN.out.2.1 (z := (lNodes n : Int)) rfl (by simp [zsec]) (bytes_slc (by simp [zsec]) hB7)
      have HST3 := Lib.hid hst
      have HW7 := Lib.hid hw7
      clear hs6 hr6 hY6 hB6 hR hw7 hB7 hs7 hY7 hr7 hst
      go_wp2_with fail
      rw [← HW7.out]
      refine HST3.out.mono ?_
      rintro e w8 ⟨rfl, _, hr8⟩
      have H8 := Lib.hid hr8
      clear hr8
      go_wp2_with fail
      go_ret
      rw [HR3.out]
      exact ⟨rfl, H8.out⟩
    · have hR : R = (E2, L2) := by rw [HR2.out, if_pos hE2]
      have HR3 := Lib.hid hR
      clear hs6 hr6 hY6 hB6 hR
      go_wp2_with fail
      go_ret
      rw [HR3.out]
      exact ⟨rfl, H6.out⟩
  · have hR : R = (E1, L1) := by rw [HR.out, if_pos hE1]
    have HR3 := Lib.hid hR
    clear hR
    go_wp2_with fail
    go_ret
    rw [HR3.out]
    exact ⟨rfl, H4.out⟩
end
end Go.Proofs.Ytmhgahkainmbkaa
namespace Go.Proofs.Ytmhgahkainmbkaa
open Go.RowKit
set_option linter.unusedVariables false
set_option linter.unusedSimpArgs false
theorem build_space_mark (parts : Array (Nat × Value)) : Instr.build 85 parts = BuildS 85 parts := rfl
theorem build_space (p n : Nat) (W : World) : Sem.run Try.prog (BuildS 85 #[(0, .pointer (some ⟨p, 0, none⟩)), (1, .agg (layCells n).toArray)]) W = .ok (.agg (spaceV p n)) W := by kernel_rfl
theorem bytes_string {w : World} {g cap : Nat} {cur : Array Value} {l : List UInt8} (h : Blk w g 5 cur) (h1 : l.length = 128) (h2 : 128 ≤ cap) (h3 : cap ≤ maxLen) (h4 : cur.size = cap) (h5 : cur.toList.take 128 = l.map bv) : Slc w (g + 1) 1 (some ⟨g, 0, none⟩) 128 cap (l.map bv) := by
  have := h.slc (sz := 1) (n := 128) (c := cap) (by omega) h2 h3
  rw [Nat.mul_one, h5] at this
  exact this
section
attribute [local go_sem ↓] load_layout_mark store_layout_mark alloc_layout_mark build_space_mark
attribute [local go_sem] alloc_layout store_layout build_space
variable {w : Ground} {wi wj : World} {p go gs pd ps n : Nat} {L L' : LogM} {F Fj : Nat → Prop} {D : DiskM}
set_option maxRecDepth 100000 in
set_option maxHeartbeats 2000000 in
theorem aopen_any (h : LRun w wi F p go gs pd n L D) {m : Nat} (hm1 : 64 ≤ m) (hm2 : m ≤ 1024) :
    Calls Try.prog 15 #[.pointer (some ⟨p, 0, none⟩), .int .i64 (m : Int)] wi fun e w' => Below wi.heap.size wi w' ∧ (L.val D 0 = headB m → ∃ ps, e = .returned (.tuple #[.pointer (some ⟨ps, 0, none⟩), .int .i64 0]) ∧ wi.heap.size ≤ ps ∧ SpaceAt w' ps p m) ∧ (L.val D 0 ≠ headB m → e = .returned (.tuple #[.pointer none, .int .i64 46])) := by
  have hvl : (L.val D 0).length = 128 := h.val_length (.inl rfl) (by have := h.n64; omega)
  have hhl := headB_length m
  have hn0 : 0 < n := by have := h.n64; omega
  have HRD := Lib.hid (fun (W : World) (hb : Below wi.heap.size wi W) => (h.free hb).read (.inl rfl) hn0)
  obtain ⟨a, ha⟩ : ∃ a, a = L.val D 0 := ⟨_, rfl⟩
  rw [← ha] at hvl HRD ⊢
  obtain ⟨b, hb⟩ : ∃ b, b = headB m := ⟨_, rfl⟩
  have HHD := Lib.hid (fun W : World => (head_any (n := m) (by omega) W).mono fun e w' (h : e = .returned (.slice (some ⟨W.heap.size, 0, none⟩) 128 128) ∧ Below W.heap.size W w' ∧ Blk w' W.heap.size 5 ((headB m).map bv).toArray) => (⟨_, h⟩ : ∃ g2, e = .returned (.slice (some ⟨g2, 0, none⟩) 128 128) ∧ Below W.heap.size W w' ∧ Blk w' g2 5 ((headB m).map bv).toArray))
  rw [← hb] at hhl HHD ⊢
  have HLAY := Lib.hid (fun W : World => lay_any hm1 hm2 W)
  clear h ha hb
  go_enter Try.func15, Try.ntmps15
  go_wp2_with fail
  refine (HLAY.out _).mono ?_
  rintro e w1 ⟨rfl, hb1⟩
  have hst := store_layout m w1
  obtain ⟨w2, hw2⟩ : ∃ w2, w2 = w1.alloc (.cells (layCells m).toArray 24) := ⟨_, rfl⟩
  have hY : Blk w2 w1.heap.size 24 (layCells m).toArray := by rw [hw2]; exact Blk.new _ _ _
  have hb2 : Below wi.heap.size wi w2 := by rw [hw2]; exact hb1.alloc hb1.size _
  have HY := Lib.hid hY
  have HW2 := Lib.hid hw2
  have HB2 := Lib.hid hb2
  have hs1 := hb1.size
  clear hY hw2 hb1 hb2
  go_wp2_with fail
  rw [← HW2.out]
  refine (HRD.out w2 HB2.out).mono ?_
  rintro e w3 ⟨g, cap, cur, rfl, hb3, hg, hB3, hcap, hcm, hcs, htk⟩
  have hY3 := HY.out.below hb3 HY.out.lt
  have hS : ∀ W, Below w3.heap.size w3 W → (convert 39 9 (.slice (some ⟨g, 0, none⟩) 128 cap)).run Try.prog W = .ok (.string ⟨a.toArray⟩) W := fun W hW =>
    convert_bytes Try.underlying39 Try.underlying5 (bytes_string (hB3.below hW hB3.lt) hvl hcap hcm hcs htk) 9 Try.underlying9
  have HSS := Lib.hid hS
  have HY3 := Lib.hid hY3
  have HB3 := Lib.hid (HB2.out.trans (hb3.mono HB2.out.size))
  have hw3 : Below w3.heap.size w3 w3.drew := (Below.refl _ _).drew
  clear hb3 hg hB3 hcap hcm hcs htk hY3 hS
  go_wp2_with fail
  go_region_held (fun W => (convert 39 9 (.slice (some ⟨g, 0, none⟩) 128 cap)).run Try.prog W = .ok (.string ⟨a.toArray⟩) W) (exact HSS.out _ (by assumption)) (first | (go_at_call 41; refine (HHD.out _).mono ?_; rintro e w4 ⟨g4, rfl, hb4, hB4⟩; have hbw4 : Below w3.heap.size w3 w4 := hw3.trans hb4; have hc4 := convert_bytes (P := Try.prog) Try.underlying39 Try.underlying5 (bytes_slc hhl hB4) 9 Try.underlying9))
  all_goals
    have hY4 := HY3.out.below hbw4 HY3.out.lt
    have hld := LoadS.of_blk (P := Try.prog) (ty := 24) (o := 0) (n := 8) hY4 Try.underlying24 rfl i_layout (by simp [layCells])
    rw [show (layCells m).toArray.extract 0 (0 + 8) = (layCells m).toArray by simp [layCells]] at hld
    have HB4 := Lib.hid (HB3.out.trans (hbw4.mono HB3.out.size))
    have HNB := Lib.hid (Blk.new w4 85 (spaceV p m))
    have hs4 := HB4.out.size
    clear hb4 hB4 hY4 hbw4 hc4
    by_cases hab : a = b
    · rw [show (!(a == b)) = false by simp [hab]]
      have HAB := Lib.hid hab
      clear hab
      go_wp2_with fail
      go_ret2
      exact ⟨HB4.out.alloc HB4.out.size _, fun _ => ⟨_, rfl, hs4, HNB.out⟩, fun h => absurd HAB.out h⟩
    · rw [show (!(a == b)) = true by simpa using hab]
      have HAB := Lib.hid hab
      clear hab
      go_wp2_with fail
      go_ret2
      exact ⟨HB4.out, fun h => absurd h HAB.out, fun _ => rfl⟩
end
end Go.Proofs.Ytmhgahkainmbkaa
