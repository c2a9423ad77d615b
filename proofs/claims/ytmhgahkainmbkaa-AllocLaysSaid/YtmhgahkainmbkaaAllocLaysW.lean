/- The walk of the law AllocLays. -/
import Derived.Test.YtmhgahkainmbkaaAllocE
import Derived.Test.YtmhgahkainmbkaaAllocLay
namespace Go.Proofs.Ytmhgahkainmbkaa
open Go.RowKit Go.ChangeShapes Go.WideShapes
set_option linter.unusedVariables false
set_option linter.unusedSimpArgs false
theorem build_layout_mark (parts : Array (Nat × Value)) : Instr.build 24 parts = BuildS 24 parts := rfl
theorem build_lay (a b c d e f g h : Int) (W : World) : Sem.run Try.prog (BuildS 24 #[(0, .int .i64 a), (1, .int .i64 b), (2, .int .i64 c), (3, .int .i64 d), (4, .int .i64 e), (5, .int .i64 f), (6, .int .i64 g), (7, .int .i64 h)]) W = .ok (.agg #[.int .i64 a, .int .i64 b, .int .i64 c, .int .i64 d, .int .i64 e, .int .i64 f, .int .i64 g, .int .i64 h]) W := by kernel_rfl
theorem build_lay0 (W : World) : Sem.run Try.prog (BuildS 24 #[]) W = .ok (.agg noLay.toArray) W := by kernel_rfl
theorem store_nolay (W : World) : (StoreS 24 (.pointer (some ⟨W.heap.size, 0, none⟩)) (.agg noLay.toArray)).run Try.prog (W.alloc (.cells noLay.toArray 24)) = .ok () (W.alloc (.cells noLay.toArray 24)) :=
  StoreS.new (P := Try.prog) (ty := 24) (t := 24) (c := noLay.toArray) (x := noLay.toArray) i_layout rfl (fun v hv => by simp [noLay] at hv; subst hv; rfl) W
theorem same_lay (n : Nat) (W : World) : (EqLayS 24 (.agg (layCells n).toArray) (.agg (layCells n).toArray)).run Try.prog W = .ok true W := EqLayS.same _ _ _ _ _ _ _ _ W
theorem same_nolay (W : World) : (EqLayS 24 (.agg noLay.toArray) (.agg noLay.toArray)).run Try.prog W = .ok true W := EqLayS.same _ _ _ _ _ _ _ _ W
theorem ref_cells {W : World} {g n d : Nat} (h : Blk W g 29 (refCells n d).toArray) : W.cell? ⟨g, 1, none⟩ = some (.int .i64 (logLen n : Int)) ∧ W.cell? ⟨g, 2, none⟩ = some (.int .i64 (lMap n : Int)) ∧ W.cell? ⟨g, 3, none⟩ = some (.int .i64 (lNodes n : Int)) ∧ W.cell? ⟨g, 4, none⟩ = some (.int .i64 (lTable n : Int)) ∧ W.cell? ⟨g, 5, none⟩ = some (.int .i64 (lInodes n : Int)) ∧ W.cell? ⟨g, 6, none⟩ = some (.int .i64 (d : Int)) := ⟨h.cell 1, h.cell 2, h.cell 3, h.cell 4, h.cell 5, h.cell 6⟩
section
attribute [local go_sem ↓] load_layout_mark store_layout_mark alloc_layout_mark build_layout_mark load_ref_mark store_ref_mark alloc_ref_mark eqlay_mark
attribute [local go_sem] alloc_layout build_lay build_lay0 alloc_ref same_lay same_nolay
set_option maxRecDepth 100000 in
set_option maxHeartbeats 4000000 in
theorem alays_law (w : World) (n : Int) (hn : -9223372036854775808 ≤ n ∧ n ≤ 9223372036854775807) :
    Calls Try.prog 3 #[.int .i64 n] w fun e w' => e = .returned (.bool true) ∧ Below w.heap.size w w' := by
  by_cases hr : 64 ≤ n ∧ n ≤ 1024
  · obtain ⟨m, rfl⟩ : ∃ m : Nat, n = (m : Int) := ⟨n.toNat, by omega⟩
    have hm1 : 64 ≤ m := by omega
    have hm2 : m ≤ 1024 := by omega
    clear hn hr
    go_enter Try.func3, Try.ntmps3
    go_wp2_with fail
    refine (ashown_any w).mono ?_
    rintro e w1 ⟨rfl, hb1⟩
    have HB1 := Lib.hid hb1
    clear hb1
    go_wp2_with fail
    refine (lay_any hm1 hm2 w1).mono ?_
    rintro e w2 ⟨rfl, hb2⟩
    have hst := store_layout m w2
    obtain ⟨w3, hw3⟩ : ∃ w3, w3 = w2.alloc (.cells (layCells m).toArray 24) := ⟨_, rfl⟩
    have hY : Blk w3 w2.heap.size 24 (layCells m).toArray := by rw [hw3]; exact Blk.new _ _ _
    have HB3 := Lib.hid (show Below w.heap.size w w3 by rw [hw3]; exact (HB1.out.trans (hb2.mono HB1.out.size)).alloc (Nat.le_trans HB1.out.size hb2.size) _)
    have HW3 := Lib.hid hw3
    have HY := Lib.hid hY
    clear hb2 hw3 hY
    go_wp2_with fail
    rw [← HW3.out]
    refine (refLay_any hm1 hm2 w3).mono ?_
    rintro e w4 ⟨rfl, hb4⟩
    have hst4 := store_ref_all m (lData m) w4
    obtain ⟨w5, hw5⟩ : ∃ w5, w5 = w4.alloc (.cells (refCells m (lData m)).toArray 29) := ⟨_, rfl⟩
    have hZ : Blk w5 w4.heap.size 29 (refCells m (lData m)).toArray := by rw [hw5]; exact Blk.new _ _ _
    obtain ⟨w6, hw6⟩ : ∃ w6, w6 = w5.alloc (.cells (layCells m).toArray 24) := ⟨_, rfl⟩
    have hb5 : Below w.heap.size w w5 := by rw [hw5]; exact (HB3.out.trans (hb4.mono HB3.out.size)).alloc (Nat.le_trans HB3.out.size hb4.size) _
    have hb6 : Below w.heap.size w w6 := by rw [hw6]; exact hb5.alloc hb5.size _
    have hY6 : Blk w6 w2.heap.size 24 (layCells m).toArray := by rw [hw6, hw5]; exact ((HY.out.below hb4 HY.out.lt).alloc _).alloc _
    have hU : Blk w6 w5.heap.size 24 (layCells m).toArray := by rw [hw6]; exact Blk.new _ _ _
    have hl1 := LoadS.of_blk (P := Try.prog) (ty := 24) (o := 0) (n := 8) hY6 Try.underlying24 rfl i_layout (by simp [layCells])
    have hl2 := LoadS.of_blk (P := Try.prog) (ty := 24) (o := 0) (n := 8) hU Try.underlying24 rfl i_layout (by simp [layCells])
    rw [show (layCells m).toArray.extract 0 (0 + 8) = (layCells m).toArray by simp [layCells]] at hl1 hl2
    have hsl := store_layout m w5
    obtain ⟨c1, c2, c3, c4, c5, c6⟩ := ref_cells (hZ.alloc (.cells noLay.toArray 24))
    obtain ⟨d1, d2, d3, d4, d5, d6⟩ := ref_cells hZ
    rw [hw6, hw5] at hl1 hl2
    rw [hw5] at hsl c1 c2 c3 c4 c5 c6 d1 d2 d3 d4 d5 d6
    simp only [World.size_alloc] at hsl hl2
    have HB6 := Lib.hid (show Below w.heap.size w ((w4.alloc (.cells (refCells m (lData m)).toArray 29)).alloc (.cells (layCells m).toArray 24)) by rw [← hw5, ← hw6]; exact hb6)
    have hsb := same_lay m
    unfold layCells at hsl hl1 hl2 hsb
    clear hb4 hw5 hw6 hZ hY6 hU hb5 hb6
    go_wp2_with fail
    go_ret
    exact ⟨rfl, HB6.out⟩
  · have hr' : n < 64 ∨ 1024 < n := by omega
    have HR := Lib.hid hr'
    clear hn hr hr'
    go_enter Try.func3, Try.ntmps3
    go_wp2_with fail
    refine (ashown_any w).mono ?_
    rintro e w1 ⟨rfl, hb1⟩
    have HB1 := Lib.hid hb1
    clear hb1
    go_wp2_with fail
    refine (layNo_any HR.out w1).mono ?_
    rintro e w2 ⟨rfl, hb2⟩
    have hst := store_nolay w2
    obtain ⟨w3, hw3⟩ : ∃ w3, w3 = w2.alloc (.cells noLay.toArray 24) := ⟨_, rfl⟩
    have hY : Blk w3 w2.heap.size 24 noLay.toArray := by rw [hw3]; exact Blk.new _ _ _
    have HB3 := Lib.hid (show Below w.heap.size w w3 by rw [hw3]; exact (HB1.out.trans (hb2.mono HB1.out.size)).alloc (Nat.le_trans HB1.out.size hb2.size) _)
    have HW3 := Lib.hid hw3
    have HY := Lib.hid hY
    clear hb2 hw3 hY
    go_wp2_with fail
    rw [← HW3.out]
    refine (refLayNo_any HR.out w3).mono ?_
    rintro e w4 ⟨rfl, hb4⟩
    have hst4 := store_ref_no w4
    obtain ⟨w5, hw5⟩ : ∃ w5, w5 = w4.alloc (.cells noRef.toArray 29) := ⟨_, rfl⟩
    have hb5 : Below w.heap.size w w5 := by rw [hw5]; exact (HB3.out.trans (hb4.mono HB3.out.size)).alloc (Nat.le_trans HB3.out.size hb4.size) _
    have hY5 : Blk w5 w2.heap.size 24 noLay.toArray := by rw [hw5]; exact (HY.out.below hb4 HY.out.lt).alloc _
    have hl1 := LoadS.of_blk (P := Try.prog) (ty := 24) (o := 0) (n := 8) hY5 Try.underlying24 rfl i_layout (by simp [noLay])
    rw [show noLay.toArray.extract 0 (0 + 8) = noLay.toArray by simp [noLay]] at hl1
    rw [hw5] at hl1
    have HB5 := Lib.hid (show Below w.heap.size w (w4.alloc (.cells noRef.toArray 29)) by rw [← hw5]; exact hb5)
    clear hb4 hw5 hb5 hY5
    go_wp2_with fail
    go_ret
    exact ⟨rfl, HB5.out⟩
end
set_option maxRecDepth 100000 in
theorem AllocLays_walk {H : Type} {enc : TypeId × Value → H} (W : World) (base : Nat) (v0 : Value) (d0 : DataW H) (p0 : List MemPlace)
    (o0 : Value.okWide Try.prog W .any base 3 v0)
    (k0 : DataW.Trod enc Try.prog W 0 (fun _ => true) true 3 v0 d0 p0)
    (hsz : (DataW.weightsEach Try.prog [3] [d0]).all (· ≤ reachBytes) = true) :
    Calls Try.prog 3 #[v0] W fun e w' => e = .returned (.bool true) ∧ Below W.heap.size W w' := by
  obtain ⟨x, rfl, rfl, rfl, wx⟩ := open_int Try.underlying3 o0 k0
  exact alays_law W x (int_wf wx)
end Go.Proofs.Ytmhgahkainmbkaa
