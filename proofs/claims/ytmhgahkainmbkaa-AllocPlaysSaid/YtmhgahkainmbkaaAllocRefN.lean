/- The walk of the space by definition: New. -/
import Derived.Test.YtmhgahkainmbkaaAllocRefC
namespace Go.Proofs.Ytmhgahkainmbkaa
open Go.RowKit
set_option linter.unusedVariables false
set_option linter.unusedSimpArgs false
/-- The space by definition, behind a format. -/
def newR (n : Nat) : RefM := { blk := List.replicate (n - lData n) false, ino := (List.replicate (lInodes n) false).set 0 true, stg := [] }
theorem build_rn (n : Nat) (g1 n1 c1 g2 n2 c2 : Nat) (W : World) : Sem.run Try.prog (BuildS 103 #[(0, .agg (refCells n (lData n)).toArray), (1, .slice (some ⟨g1, 0, none⟩) n1 c1), (2, .slice (some ⟨g2, 0, none⟩) n2 c2)]) W = .ok (.agg (refV n g1 n1 c1 g2 n2 c2 (.slice none 0 0)).toArray) W := by kernel_rfl
section
variable {w w' : World} {n : Nat}
theorem RefParts.setI0 {F : Nat → Prop} {pr gb cb gi ci : Nat} {sv : Value} {R : RefM} (h : RefParts w F pr n gb cb gi ci sv R) (hi : 0 < R.ino.length) : RefParts (w.setCell ⟨gi, 0, none⟩ (.bool true)) F pr n gb cb gi ci sv { R with ino := R.ino.set 0 true } := h.setI hi true
theorem new_parts {X : World} {g1 g2 q B : Nat} (m1 : n - lData n ≤ 2000) (m2 : lInodes n ≤ 2000) (h1 : Blk X g1 4 (boolV (List.replicate (n - lData n) false))) (h2 : Blk X g2 4 (boolV (List.replicate (lInodes n) false)))
    (hq : Blk X q 103 (refV n g1 (n - lData n) (n - lData n) g2 (lInodes n) (lInodes n) (.slice none 0 0)).toArray) (hne : g1 ≠ g2) (hi : 0 < lInodes n) (b1 : B ≤ g1) (b2 : B ≤ g2) (b3 : B ≤ q) :
    RefAt (X.setCell ⟨g2, 0, none⟩ (.bool true)) (fun k => B ≤ k ∧ k < X.heap.size) q n (newR n) := by
  have hp : RefParts X (fun k => B ≤ k ∧ k < X.heap.size) q n g1 (n - lData n) g2 (lInodes n) (.slice none 0 0) { blk := List.replicate (n - lData n) false, ino := List.replicate (lInodes n) false, stg := [] } :=
    ⟨by simpa using hq, BRow.make h1 m1, BRow.make h2 m2, IRow.nil _ _ _, hne, ⟨b3, hq.lt⟩, ⟨b1, h1.lt⟩, ⟨b2, h2.lt⟩, fun k hk => hk.2⟩
  exact ⟨_, _, _, _, _, hp.setI (by simpa using hi) true⟩
attribute [local go_sem ↓] load_ref_mark store_ref_mark alloc_ref_mark build_rs_mark make_bools_mark Go.wp_at_zero Go.wp_at_succ
attribute [local go_sem] alloc_ref build_rn
set_option maxRecDepth 100000 in
set_option maxHeartbeats 4000000 in
theorem refNew_any (h1 : 64 ≤ n) (h2 : n ≤ 1024) (w : World) :
    Calls Try.prog 25 #[.int .i64 (n : Int)] w fun e w' => ∃ q F', e = .returned (.pointer (some ⟨q, 0, none⟩)) ∧ Ext w w' ∧ RefAt w' F' q n (newR n) ∧ ∀ k, F' k → w.heap.size ≤ k := by
  have hfacts : lData n ≤ n ∧ n - lData n ≤ 1024 ∧ 0 < lInodes n ∧ lInodes n ≤ 1024 := by have := lay_facts h1 h2; omega
  obtain ⟨hd, hmb, hi0, hib⟩ := hfacts
  have hmk1 := fun W : World => make_bools (n - lData n) hmb W
  have hmk2 := fun W : World => make_bools (lInodes n) hib W
  have hsub : (n : Int) - (lData n : Int) = ((n - lData n : Nat) : Int) := by omega
  have HSUB := Lib.hid hsub
  clear hsub
  go_enter Try.func25, Try.ntmps25
  go_wp2_with fail
  refine (refLay_any h1 h2 w).mono ?_
  rintro e w1 ⟨rfl, hb1⟩
  have hst := store_ref_all n (lData n) w1
  obtain ⟨w2, hw2⟩ : ∃ w2, w2 = w1.alloc (.cells (refCells n (lData n)).toArray 29) := ⟨_, rfl⟩
  have hY : Blk w2 w1.heap.size 29 (refCells n (lData n)).toArray := by rw [hw2]; exact Blk.new _ _ _
  have he2 : Ext w w2 := by rw [hw2]; exact Ext.alloc hb1 _
  have HK := Lib.hid (fun (W : World) (e : Ext w2 W) => show (LoadS 29 (.pointer (some ⟨w1.heap.size, 0, none⟩))).run Try.prog W = .ok (.agg (refCells n (lData n)).toArray) W ∧ W.cell? ⟨w1.heap.size, 5, none⟩ = some (.int .i64 (lInodes n : Int)) ∧ W.cell? ⟨w1.heap.size, 6, none⟩ = some (.int .i64 (lData n : Int)) by
    have hB := hY.ext e
    refine ⟨?_, hB.cell 5, hB.cell 6⟩
    have := LoadS.of_blk (P := Try.prog) (ty := 29) (o := 0) (n := 7) hB Try.underlying29 rfl i_ref (by simp [refCells])
    rw [show (refCells n (lData n)).toArray.extract 0 (0 + 7) = (refCells n (lData n)).toArray by simp [refCells]] at this
    exact this)
  have HW2 := Lib.hid hw2
  have HE2 := Lib.hid he2
  have hs1 := Below.size hb1
  have hsz2 : w2.heap.size = w1.heap.size + 1 := by rw [hw2]; simp
  have HSZ := Lib.hid hsz2
  clear hw2 he2 hY hb1 hsz2
  go_wp2_with fail
  rw [← HW2.out]
  obtain ⟨k0, k5, k6⟩ := HK.out w2.drew (Ext.refl _).drew
  have hE := (Ext.refl w2).drew
  generalize w1.heap.size = gy at *
  have hw : IntKind.i64.wrap ((n : Int) - (lData n : Int)) = ((n - lData n : Nat) : Int) := by rw [HSUB.out]; exact IntWalk.i64_in _ (by omega)
  generalize hm : n - lData n = m at *
  have HM := Lib.hid hm
  clear hm
  go_region_held3 (fun W => (LoadS 29 (.pointer (some ⟨gy, 0, none⟩))).run Try.prog W = .ok (.agg (refCells n (lData n)).toArray) W ∧ W.cell? ⟨gy, 5, none⟩ = some (.int .i64 (lInodes n : Int)) ∧ W.cell? ⟨gy, 6, none⟩ = some (.int .i64 (lData n : Int))) (exact HK.out _ (by (repeat (first | exact Ext.refl _ | assumption | refine Ext.alloc ?_ _ | refine Ext.drew ?_)))) (fail)
  · obtain ⟨X, hX⟩ : ∃ X : World, X = (((w2.alloc (.cells (boolV (List.replicate m false)) 4)).alloc (.cells (boolV (List.replicate (lInodes n) false)) 4)).alloc (.cells (refV n w2.heap.size m m (w2.heap.size + 1) (lInodes n) (lInodes n) (.slice none 0 0)).toArray 103)).drew := ⟨_, rfl⟩
    have hB1 : Blk X (w2.heap.size) 4 (boolV (List.replicate m false)) := by rw [hX]; exact Blk.drew (((Blk.newAt w2 _ _ rfl).alloc _).alloc _)
    have hB2 : Blk X (w2.heap.size + 1) 4 (boolV (List.replicate (lInodes n) false)) := by rw [hX]; exact Blk.drew ((Blk.newAt _ _ _ (by simp only [World.size_alloc])).alloc _)
    have hBQ : Blk X (w2.heap.size + 1 + 1) 103 (refV n (w2.heap.size) m m (w2.heap.size + 1) (lInodes n) (lInodes n) (.slice none 0 0)).toArray := by rw [hX]; exact Blk.drew (Blk.newAt _ _ _ (by simp only [World.size_alloc]))
    have hEX : Ext w X := by rw [hX]; exact (((HE2.out.alloc _).alloc _).alloc _).drew
    rw [← hX]
    have HX := Lib.hid hX
    have c8 := hBQ.cell 8
    rw [show (refV n (w2.heap.size) m m (w2.heap.size + 1) (lInodes n) (lInodes n) (.slice none 0 0)).toArray[8]? = some (.slice (some ⟨w2.heap.size + 1, 0, none⟩) (lInodes n) (lInodes n)) from rfl] at c8
    have c0 := hB2.cell 0
    rw [boolV_at (by simpa using hi0)] at c0
    have fz := hB2.frozen 0
    have hs2 := HE2.out.size
    rw [HM.out.symm] at hB1 hBQ
    have hfin := new_parts (B := w.heap.size) (by rw [HM.out]; omega) (by omega) hB1 hB2 hBQ (by omega) hi0 (by omega) (by omega) (by omega)
    have HF := Lib.hid (And.intro hfin (show Ext w (X.setCell ⟨w2.heap.size + 1, 0, none⟩ (.bool true)) from Below.setCell hEX (p := ⟨w2.heap.size + 1, 0, none⟩) (Nat.le_trans hs2 (by simp)) _))
    clear hX hB1 hB2 hBQ hEX hfin hst k0 k5 k6 hE hmk1 hmk2 hw hs1
    go_wp2_with fail
    go_ret
    exact ⟨_, _, rfl, HF.out.2, HF.out.1, fun k hk => hk.1⟩
  · obtain ⟨X, hX⟩ : ∃ X : World, X = (((w2.alloc (.cells (boolV (List.replicate (lInodes n) false)) 4)).alloc (.cells (boolV (List.replicate m false)) 4)).alloc (.cells (refV n (w2.heap.size + 1) m m w2.heap.size (lInodes n) (lInodes n) (.slice none 0 0)).toArray 103)).drew := ⟨_, rfl⟩
    have hB1 : Blk X (w2.heap.size + 1) 4 (boolV (List.replicate m false)) := by rw [hX]; exact Blk.drew ((Blk.newAt _ _ _ (by simp only [World.size_alloc])).alloc _)
    have hB2 : Blk X (w2.heap.size) 4 (boolV (List.replicate (lInodes n) false)) := by rw [hX]; exact Blk.drew (((Blk.newAt w2 _ _ rfl).alloc _).alloc _)
    have hBQ : Blk X (w2.heap.size + 1 + 1) 103 (refV n (w2.heap.size + 1) m m (w2.heap.size) (lInodes n) (lInodes n) (.slice none 0 0)).toArray := by rw [hX]; exact Blk.drew (Blk.newAt _ _ _ (by simp only [World.size_alloc]))
    have hEX : Ext w X := by rw [hX]; exact (((HE2.out.alloc _).alloc _).alloc _).drew
    rw [← hX]
    have HX := Lib.hid hX
    have c8 := hBQ.cell 8
    rw [show (refV n (w2.heap.size + 1) m m (w2.heap.size) (lInodes n) (lInodes n) (.slice none 0 0)).toArray[8]? = some (.slice (some ⟨w2.heap.size, 0, none⟩) (lInodes n) (lInodes n)) from rfl] at c8
    have c0 := hB2.cell 0
    rw [boolV_at (by simpa using hi0)] at c0
    have fz := hB2.frozen 0
    have hs2 := HE2.out.size
    rw [HM.out.symm] at hB1 hBQ
    have hfin := new_parts (B := w.heap.size) (by rw [HM.out]; omega) (by omega) hB1 hB2 hBQ (by omega) hi0 (by omega) (by omega) (by omega)
    have HF := Lib.hid (And.intro hfin (show Ext w (X.setCell ⟨w2.heap.size, 0, none⟩ (.bool true)) from Below.setCell hEX (p := ⟨w2.heap.size, 0, none⟩) (Nat.le_trans hs2 (by simp)) _))
    clear hX hB1 hB2 hBQ hEX hfin hst k0 k5 k6 hE hmk1 hmk2 hw hs1
    go_wp2_with fail
    go_ret
    exact ⟨_, _, rfl, HF.out.2, HF.out.1, fun k hk => hk.1⟩
end
end Go.Proofs.Ytmhgahkainmbkaa
