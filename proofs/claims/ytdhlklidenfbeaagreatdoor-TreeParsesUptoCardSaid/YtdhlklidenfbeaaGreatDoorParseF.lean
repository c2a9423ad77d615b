/- tree.entry, where all is well. -/
import Derived.Test.YtdhlklidenfbeaaGreatDoorParseEH
namespace Go.Proofs.YtdhlklidenfbeaaGreatDoor
open Go.RowKit Go.Shelf
set_option linter.unusedVariables false
set_option linter.unusedSimpArgs false

set_option maxRecDepth 100000 in
set_option maxHeartbeats 4000000 in
theorem entry_good {w : World} {B : Nat} {A : Option Addr} {n c : Nat} {b head : Txt} (h : TextIn w B A n c b) (hB : B ≤ w.heap.size) (hn : n ≤ 1000000000) (hh : head.length ≤ 1000000000) (hm : MaxOk w) (ha : AtoiOk w)
    {k p q : Txt} (hw : words head = [k, p, q]) (hq : q.length ≤ 4) {j : Nat} (hv : Lib.atoiAll q = .ok (j : Int)) (hj : j < n) (hten : ∀ hjb : j < b.length, b[j] = 10) :
    Calls Tryz.prog 41 #[.string ⟨head.toArray⟩, .slice A n c] w (EntryPost w B head b) := by
  have hb1 : Below w.heap.size w (w.alloc (.cells #[.string .empty, .int .i64 0, .slice none 0 0] 73)) := (Below.refl _ w).alloc (Nat.le_refl _) _
  have hS := split_words (w.alloc (.cells #[.string .empty, .int .i64 0, .slice none 0 0] 73)) head hh (hm.max _ hb1)
  rw [World.size_alloc] at hS
  have hb2 := hb1.alloc hb1.size (.cells ((words head).map encStr).toArray 9)
  have hG0 := (Blk.new w 73 #[.string .empty, .int .i64 0, .slice none 0 0]).alloc (.cells ((words head).map encStr).toArray 9)
  have hW0 := Blk.new (w.alloc (.cells #[.string .empty, .int .i64 0, .slice none 0 0] 73)) 9 ((words head).map encStr).toArray
  have ha2 := ha.below (hb2.mono (Nat.le_refl _))
  rw [hw] at hS hb2 hG0 hW0 ha2
  simp only [List.map_cons, List.map_nil, encStr, List.length_cons, List.length_nil, World.size_alloc] at hS hb2 hG0 hW0 ha2
  generalize hW2 : (w.alloc (.cells #[.string .empty, .int .i64 0, .slice none 0 0] 73)).alloc (.cells #[.string ⟨k.toArray⟩, .string ⟨p.toArray⟩, .string ⟨q.toArray⟩] 9) = W2 at *
  have hz : w.heap.size + 1 < W2.heap.size := by rw [← hW2]; simp
  have y2 := hW0.cell 2
  simp only [List.getElem?_toArray, List.getElem?_cons_zero, List.getElem?_cons_succ] at y2
  have sz : (ByteArray.mk q.toArray).size = q.length := rfl
  have k4 : (q.length : Int) ≤ 4 := by omega
  have hbl := h.len
  have hjb : j < b.length := by omega
  have ht := hten hjb
  have HE := Lib.hid (show entryR head b = some (⟨p, if k = [108] then 3 else 1, b.take j⟩, b.drop (j + 1)) by
    rw [entryR_ok hw hq hv, if_neg]
    · simp only [Int.toNat_natCast]
    · rintro (h1 | h1 | h1)
      · omega
      · omega
      · rw [Int.toNat_natCast, List.getElem?_eq_getElem hjb, ht] at h1
        exact h1 rfl)
  have HS := Lib.hid hS
  have HA := Lib.hid (atoi_ok hq ha2 hv)
  have HG0 := Lib.hid hG0
  have HW0 := Lib.hid hW0
  have HB2 := Lib.hid hb2
  have k5 : (j : Int) < (n : Int) := by omega
  have k6 : (0 : Int) ≤ (j : Int) := by omega
  have hc1 := h.slc.le
  have k7 : (j : Int) ≤ (c : Int) := by omega
  have k8 : (j : Int) ≤ (n : Int) := by omega
  obtain ⟨bb, off, hA0, hbB, hjl, hcell⟩ := h.slc.byte hj
  rw [ht] at hcell
  have HBB := Lib.hid (show bb < w.heap.size by omega)
  have H := Lib.hid h
  have HH := Lib.hid hB
  have HN := Lib.hid hn
  have HJ := Lib.hid hj
  subst hA0
  have tk : (ByteArray.mk k.toArray).toList = k := Go.ByteArray.toList_eq _
  clear hS hG0 hW0 hb2 ha2 hm ha hb1 hv hw hten ht hW2 hbl hjb h hB hn hh
  go_enter Tryz.func41, Tryz.ntmps41
  go_wp2_with (first
    | (go_at_call 34; refine HS.out.mono ?_; clear HS; rintro e w' ⟨rfl, rfl⟩)
    | (go_at_call 36; refine HA.out.mono ?_; clear HA; rintro e w3 ⟨rfl, hb3⟩; have hG3 := HG0.out.below hb3 (by omega); have hW3 := HW0.out.below hb3 (by omega); have HB3 := Lib.hid (HB2.out.trans (hb3.mono (by omega))); clear y2; have x0 := hG3.cell 0; have x1 := hG3.cell 1; have x2 := hG3.cell 2; have xf0 := hG3.frozen 0; have xf1 := hG3.frozen 1; have xf2 := hG3.frozen 2; have y0 := hW3.cell 0; have y1 := hW3.cell 1; simp only [List.getElem?_toArray, List.getElem?_cons_zero, List.getElem?_cons_succ] at x0 x1 x2 y0 y1; have HG3 := Lib.hid hG3; have HW3 := Lib.hid hW3; have hc3 := (HB3.out.cell (p := ⟨bb, off + j, none⟩) HBB.out).trans hcell; clear hG3 hb3 hW3))
  have hzw := HW3.out.lt
  have hT3 := H.out.below (HB3.out.mono HH.out)
  have hB3 : B ≤ w3.heap.size := by have := HH.out; have := HG3.out.lt; omega
  obtain ⟨ga, ca, wa, DA, SA⟩ := ap_a hT3 hB3 (j := j) (Nat.le_of_lt HJ.out) HN.out
  obtain ⟨gb, cb, wb, DB, SB⟩ := ap_b hT3 hB3 (j := j) (Nat.le_of_lt HJ.out) HN.out
  obtain ⟨gd, cd, wd, DC⟩ := ap_c hT3 hB3 (j := j) (Nat.le_of_lt HJ.out) HN.out
  have HK := Lib.hid (show ∀ W', Below w3.heap.size w3 W' → W'.cell? ⟨w.heap.size + 1, 1, none⟩ = some (.string ⟨p.toArray⟩) from fun W' hb => (hb.cell (p := ⟨w.heap.size + 1, 1, none⟩) hzw).trans y1)
  have a0 := SA.cell 0
  have a1 := SA.cell 1
  have a2 := SA.cell 2
  have af0 := SA.frozen 0
  have af1 := SA.frozen 1
  have af2 := SA.frozen 2
  have b0 := SB.cell 0
  have b1 := SB.cell 1
  have b2 := SB.cell 2
  have bf0 := SB.frozen 0
  have bf1 := SB.frozen 1
  have bf2 := SB.frozen 2
  simp only [List.getElem?_toArray, List.getElem?_cons_zero, List.getElem?_cons_succ] at a0 a1 a2 b0 b1 b2
  have HDA := Lib.hid DA
  have HDB := Lib.hid DB
  have HDC := Lib.hid DC
  have RA := Lib.hid DA.r
  have RB := Lib.hid DB.r
  have RC := Lib.hid DC.r
  have QA := Lib.hid DA.bel
  have QB := Lib.hid DB.bel
  have QC := Lib.hid DC.bel
  have HSA := Lib.hid SA
  have HSB := Lib.hid SB
  have HZ := Lib.hid hzw
  have HY := Lib.hid (And.intro y0 y1)
  clear DA DB DC SA SB hT3 hB3 hzw x0 x1 x2 xf0 xf1 xf2 hc3 y0
  go_region_held3 (fun W' => W'.cell? ⟨w.heap.size + 1, 1, none⟩ = some (.string ⟨p.toArray⟩)) (exact HK.out _ (by (repeat (first | exact Below.refl _ _ | exact QC.out.alloc QC.out.size _ | exact QA.out | exact QB.out | exact QC.out | refine Below.alloc ?_ (by simp <;> omega) _ | refine Below.drew ?_ | refine Below.setCell ?_ (by first | exact Nat.le_refl _ | exact Nat.le_succ _ | exact QC.out.size) _)))) (first
    | (refine step_append_at (by rfl) _ _ _ (by rfl) RA.out (by with_reducible rfl) (by rfl) (by rfl) (by rfl) ?_; clear RA RB RC HDB HDC b0 b1 b2 bf0 bf1 bf2)
    | (refine step_append_at (by rfl) _ _ _ (by rfl) RB.out (by with_reducible rfl) (by rfl) (by rfl) (by rfl) ?_; clear RA RB RC HDA HDC a0 a1 a2 af0 af1 af2)
    | (refine step_append_at (by rfl) _ _ _ (by rfl) RC.out (by with_reducible rfl) (by rfl) (by rfl) (by rfl) ?_; clear RA RB RC HDA HDB a0 a1 a2 af0 af1 af2 b0 b1 b2 bf0 bf1 bf2))
  all_goals first
    | (have M := mid_put (p := p) HDA.out HSA.out (Nat.le_refl _) (by have := HDA.out.ne; simp at this; omega) (by have := HZ.out; omega) HG3.out HY.out.1 HB3.out
       revert M
       generalize (((wa.setCell ⟨w3.heap.size, 0, none⟩ (.string ⟨p.toArray⟩)).setCell ⟨w3.heap.size, 1, none⟩ (.int .i64 1)).setCell ⟨w3.heap.size, 2, none⟩ (.slice (some ⟨ga, 0, none⟩) j ca)) = W7
       generalize ga = g
       generalize ca = c4
       generalize w3.heap.size = s
       intro M)
    | (have M := mid_put (p := p) HDB.out HSB.out (Nat.le_succ _) (by have := HDB.out.ne; simp at this; omega) (by have := HZ.out; omega) HG3.out HY.out.1 HB3.out
       revert M
       generalize (((wb.setCell ⟨w3.heap.size + 1, 0, none⟩ (.string ⟨p.toArray⟩)).setCell ⟨w3.heap.size + 1, 1, none⟩ (.int .i64 1)).setCell ⟨w3.heap.size + 1, 2, none⟩ (.slice (some ⟨gb, 0, none⟩) j cb)) = W7
       generalize gb = g
       generalize cb = c4
       generalize w3.heap.size + 1 = s
       intro M)
    | (have M := mid_new (p := p) HDC.out (by have := HZ.out; omega) HG3.out HY.out.1 HB3.out
       revert M
       generalize wd.alloc (.cells #[.string ⟨p.toArray⟩, .int .i64 1, .slice (some ⟨gd, 0, none⟩) j cd] 73) = W7
       generalize gd = g
       generalize cd = c4
       generalize wd.heap.size = s
       intro M)
  all_goals clear y1 HK
  all_goals
    have z0 := M.var.cell 0
    have z1 := M.var.cell 1
    have z2 := M.var.cell 2
    have zf0 := M.var.frozen 0
    have zf1 := M.var.frozen 1
    have zf2 := M.var.frozen 2
    have o0 := M.out.cell 0
    have o1 := M.out.cell 1
    have o2 := M.out.cell 2
    have of0 := M.out.frozen 0
    have of1 := M.out.frozen 1
    have of2 := M.out.frozen 2
    have wk := M.wrd
    simp only [List.getElem?_toArray, List.getElem?_cons_zero, List.getElem?_cons_succ] at z0 z1 z2 o0 o1 o2
    have hs1 : ¬ s = w.heap.size := by have := M.slo; omega
    have hs2 : ¬ w.heap.size = s := by have := M.slo; omega
    have hs3 : ¬ w.heap.size + 1 = s := by have := M.slo; omega
    have jw : IntKind.i64.wrap ((j : Int) + 1) = (j : Int) + 1 := IntWalk.i64_in _ (by have := HN.out; omega)
    have j1 : (0 : Int) ≤ (j : Int) + 1 := by omega
    have j2 : (j : Int) + 1 ≤ (n : Int) := by omega
    have j3 : (j : Int) + 1 ≤ (c : Int) := by omega
    have HM := Lib.hid M
    clear M
  all_goals clear k4 k7 k8 sz hc1 hcell hjl
  all_goals by_cases hk : k = [108]
  all_goals first
    | (have k1 : (k == [108]) = true := by rw [hk]; rfl
       have HKK := Lib.hid hk
       clear hk)
    | (have k1 : (k == [108]) = false := by simpa using hk
       have HKK := Lib.hid hk
       clear hk)
  all_goals by_cases hjc : j + 1 = c
  all_goals go_wp2_with (fail)
  all_goals first
    | (have e : k = [108] := HKK.out
       have he := HE.out
       rw [if_pos e] at he
       have M8 := HM.out.link
       clear z0 z1 z2 zf0 zf1 zf2 o0 o1 o2 of0 of1 of2 wk
       revert M8
       generalize W7.setCell ⟨s, 1, none⟩ (.int .i64 3) = W8
       intro M8
       have o0 := M8.out.cell 0
       have o1 := M8.out.cell 1
       have o2 := M8.out.cell 2
       have of0 := M8.out.frozen 0
       have of1 := M8.out.frozen 1
       have of2 := M8.out.frozen 2
       simp only [List.getElem?_toArray, List.getElem?_cons_zero, List.getElem?_cons_succ] at o0 o1 o2
       have HE8 := Lib.hid he
       have HM8 := Lib.hid M8
       have HS8 := Lib.hid M8.keep
       clear M8 he e
       go_region_held3 (fun W' => W'.cell? ⟨s, 0, none⟩ = some (.string ⟨p.toArray⟩) ∧ W'.cell? ⟨s, 1, none⟩ = some (.int .i64 3) ∧ W'.cell? ⟨s, 2, none⟩ = some (.slice (some ⟨g, 0, none⟩) j c4)) (exact HS8.out _ (by first | rfl | exact Below.heap_setCell _ _ _ _ hs1 | exact (Below.heap_setCell _ _ _ _ hs1).trans (Below.heap_setCell _ _ _ _ hs1) | exact (Below.heap_setCell _ _ _ _ hs1).trans ((Below.heap_setCell _ _ _ _ hs1).trans (Below.heap_setCell _ _ _ _ hs1)))) (fail)
       go_wp2_with (fail))
    | (have e : ¬ k = [108] := HKK.out
       have he := HE.out
       rw [if_neg e] at he
       have M8 := HM.out.file
       clear z0 z1 z2 zf0 zf1 zf2 o0 o1 o2 of0 of1 of2 wk
       revert M8
       generalize W7 = W8
       intro M8
       have o0 := M8.out.cell 0
       have o1 := M8.out.cell 1
       have o2 := M8.out.cell 2
       have of0 := M8.out.frozen 0
       have of1 := M8.out.frozen 1
       have of2 := M8.out.frozen 2
       simp only [List.getElem?_toArray, List.getElem?_cons_zero, List.getElem?_cons_succ] at o0 o1 o2
       have HE8 := Lib.hid he
       have HM8 := Lib.hid M8
       have HS8 := Lib.hid M8.keep
       clear M8 he e
       go_region_held3 (fun W' => W'.cell? ⟨s, 0, none⟩ = some (.string ⟨p.toArray⟩) ∧ W'.cell? ⟨s, 1, none⟩ = some (.int .i64 1) ∧ W'.cell? ⟨s, 2, none⟩ = some (.slice (some ⟨g, 0, none⟩) j c4)) (exact HS8.out _ (by first | rfl | exact Below.heap_setCell _ _ _ _ hs1 | exact (Below.heap_setCell _ _ _ _ hs1).trans (Below.heap_setCell _ _ _ _ hs1) | exact (Below.heap_setCell _ _ _ _ hs1).trans ((Below.heap_setCell _ _ _ _ hs1).trans (Below.heap_setCell _ _ _ _ hs1)))) (fail)
       go_wp2_with (fail))
  all_goals first
    | (refine entry_end HM8.out ((H.out.below (HM8.out.bel.mono HH.out)).tail_at HJ.out hjc) HH.out HE8.out ?_ ?_ ?_ <;> rfl)
    | (refine entry_end HM8.out ((H.out.below (HM8.out.bel.mono HH.out)).tail_in HJ.out hjc) HH.out HE8.out ?_ ?_ ?_ <;> rfl)
end Go.Proofs.YtdhlklidenfbeaaGreatDoor
