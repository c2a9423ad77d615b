/- The layout by definition, the comparison of two layouts. -/
import Derived.Test.YtmhgahkainmbkaaAllocA
namespace Go.Proofs.Ytmhgahkainmbkaa
open Go.RowKit Go.ChangeShapes Go.WideShapes
set_option linter.unusedVariables false
set_option linter.unusedSimpArgs false

theorem Blk.cast_ {w : World} {g : Nat} {t : TypeId} {cs cs' : Array Value} (h : Blk w g t cs) (e : cs = cs') : Blk w g t cs' := e ▸ h
def EqLayS (t : TypeId) (x y : Value) : Sem Bool := Op.equalIn 10000 t x y
theorem eqlay_mark (x y : Value) : Op.equalIn 10000 24 x y = EqLayS 24 x y := rfl
/-- One field of a struct of numbers. -/
theorem part_int {P : Program} {e : TypeId} (ha : ∀ w, (isAgg e).run P w = .ok false w) {cs : Array Value} {i : Nat} {v : Value} (h : cs[i]? = some v) (w : World) : (part e cs i).run P w = .ok v w := by
  simp only [part, Sem.run_bind, ha, Result.andThen_ok, Bool.false_eq_true, if_false, h, Sem.run_pure]
theorem agg_int (w : World) : (isAgg 3).run Try.prog w = .ok false w := by kernel_rfl
theorem EqLayS.same (a b c d e f g h : Int) (w : World) : (EqLayS 24 (.agg #[.int .i64 a, .int .i64 b, .int .i64 c, .int .i64 d, .int .i64 e, .int .i64 f, .int .i64 g, .int .i64 h]) (.agg #[.int .i64 a, .int .i64 b, .int .i64 c, .int .i64 d, .int .i64 e, .int .i64 f, .int .i64 g, .int .i64 h])).run Try.prog w = .ok true w := by
  unfold EqLayS
  have hsi : (Try.prog.stoodInHeld 24) = false := by kernel_rfl
  have hq : ∀ (x : Int) (w : World), (Op.equalIn 9999 3 (.int .i64 x) (.int .i64 x)).run Try.prog w = .ok true w := fun x w => by
    rw [show (9999 : Nat) = 9998 + 1 from rfl, run_equalIn_int w 9998 3 .i64 .i64 x x Try.underlying3, beq_self_eq_true]
  have hp := fun (cs : Array Value) (i : Nat) (v : Value) (hc : cs[i]? = some v) (w : World) => part_int (P := Try.prog) agg_int hc w
  rw [show (10000 : Nat) = 9999 + 1 from rfl, Op.equalIn]
  simp only [Sem.run_bind, run_underlying Try.underlying24, Result.andThen_ok, run_program, hsi, Bool.false_eq_true, if_false, List.forIn_toArray, List.forIn_cons, List.forIn_nil]
  simp [Sem.run_bind, hp, hq, Sem.run_pure]
/-- The layout by definition. -/
def refCells (n d : Nat) : List Value := [.int .i64 (n : Int), .int .i64 (logLen n : Int), .int .i64 (lMap n : Int), .int .i64 (lNodes n : Int), .int .i64 (lTable n : Int), .int .i64 (lInodes n : Int), .int .i64 (d : Int)]
def noRef : List Value := List.replicate 7 (.int .i64 0)
theorem i_ref : (Try.prog.info? 29).map (·.size) = some 7 := by kernel_rfl
theorem load_ref_mark (x : Value) : Instr.loadAt 29 x = LoadS 29 x := rfl
theorem store_ref_mark (x v : Value) : Instr.storeAt 29 x v = StoreS 29 x v := rfl
theorem alloc_ref_mark : Instr.alloc 29 true (.tuple #[]) = AllocS 29 := rfl
theorem build_ref_mark (parts : Array (Nat × Value)) : Instr.build 29 parts = BuildS 29 parts := rfl
theorem alloc_ref (w : World) : Sem.run Try.prog (AllocS 29) w = .ok (.pointer (some ⟨w.heap.size, 0, none⟩)) (w.alloc (.cells noRef.toArray 29)) := by kernel_rfl
theorem build_ref (a b c : Int) (W : World) : Sem.run Try.prog (BuildS 29 #[(0, .int .i64 a), (1, .int .i64 b), (5, .int .i64 c)]) W = .ok (.agg #[.int .i64 a, .int .i64 b, .int .i64 0, .int .i64 0, .int .i64 0, .int .i64 c, .int .i64 0]) W := by kernel_rfl
theorem build_ref0 (W : World) : Sem.run Try.prog (BuildS 29 #[]) W = .ok (.agg noRef.toArray) W := by kernel_rfl
theorem store_ref_new (a b c d e f g : Int) (W : World) : (StoreS 29 (.pointer (some ⟨W.heap.size, 0, none⟩)) (.agg #[.int .i64 a, .int .i64 b, .int .i64 c, .int .i64 d, .int .i64 e, .int .i64 f, .int .i64 g])).run Try.prog (W.alloc (.cells noRef.toArray 29)) = .ok () (W.alloc (.cells #[.int .i64 a, .int .i64 b, .int .i64 c, .int .i64 d, .int .i64 e, .int .i64 f, .int .i64 g] 29)) :=
  StoreS.new (P := Try.prog) (ty := 29) (t := 29) (c := noRef.toArray) (x := #[.int .i64 a, .int .i64 b, .int .i64 c, .int .i64 d, .int .i64 e, .int .i64 f, .int .i64 g]) i_ref rfl (fun v hv => by simp at hv; rcases hv with rfl | rfl | rfl | rfl | rfl | rfl | rfl <;> rfl) W
section
attribute [local go_sem ↓] load_ref_mark store_ref_mark alloc_ref_mark build_ref_mark
attribute [local go_sem] alloc_ref build_ref build_ref0 store_ref_new
set_option maxRecDepth 100000 in
set_option maxHeartbeats 2000000 in
theorem refLay_any {n : Nat} (h1 : 64 ≤ n) (h2 : n ≤ 1024) (w : World) :
    Calls Try.prog 10 #[.int .i64 (n : Int)] w fun e w' => e = .returned (.tuple #[.agg (refCells n (lData n)).toArray, .bool true]) ∧ Below w.heap.size w w' := by
  obtain ⟨ll, hll⟩ : ∃ ll, ll = logLen n := ⟨_, rfl⟩
  obtain ⟨li, hli⟩ : ∃ li, li = lInodes n := ⟨_, rfl⟩
  obtain ⟨q8, hq8⟩ : ∃ q : Nat, (n : Int) / 8 = (q : Int) := ⟨n / 8, by omega⟩
  obtain ⟨q4, hq4⟩ : ∃ q : Nat, (n : Int) / 4 = (q : Int) := ⟨n / 4, by omega⟩
  have hl8 : ll = max 16 q8 := by rw [hll]; unfold logLen; omega
  have hl4 : li = min 128 q4 := by rw [hli]; unfold lInodes; omega
  have hlm : lMap n = 1 + ll := by rw [hll]; rfl
  have hln : lNodes n = 2 + ll := by rw [hll]; unfold lNodes lMap; omega
  have hlt : lTable n = 3 + ll := by rw [hll]; unfold lTable lNodes lMap; omega
  have hld : lData n = 3 + ll + (li + 3) / 4 := by rw [hll, hli]; unfold lData lTable lNodes lMap; omega
  have hq8b : q8 ≤ 128 := by omega
  have hq4b : q4 ≤ 256 := by omega
  have HC := Lib.hid (show ∀ d : Nat, refCells n d = [.int .i64 (n : Int), .int .i64 (ll : Int), .int .i64 ((1 + ll : Nat) : Int), .int .i64 ((2 + ll : Nat) : Int), .int .i64 ((3 + ll : Nat) : Int), .int .i64 (li : Int), .int .i64 (d : Int)] by intro d; unfold refCells; rw [hlm, hln, hlt, ← hll, ← hli])
  rw [hld]
  have hst := store_ref_new (n : Int) (q8 : Int) 0 0 0 (q4 : Int) 0 (w.alloc (.cells noRef.toArray 29))
  rw [World.size_alloc] at hst
  have HL8 := Lib.hid hl8
  have HL4 := Lib.hid hl4
  clear hll hli hlm hln hlt hld hl8 hl4
  have hcc : (q8 < 16 ∧ q4 ≤ 128) ∨ (16 ≤ q8 ∧ q4 ≤ 128) ∨ (16 ≤ q8 ∧ 128 < q4) := by omega
  rcases hcc with ⟨c8, c4⟩ | ⟨c8, c4⟩ | ⟨c8, c4⟩
  all_goals
    go_enter Try.func10, Try.ntmps10
    go_wp2_with fail
    go_loopw [5] (fun k wr => ∃ j : Nat, k = .int .i64 ((4 * j : Nat) : Int) ∧ j ≤ (li + 3) / 4 ∧ Blk wr (w.heap.size + 1) 29 (refCells n (3 + ll + j)).toArray ∧ Blk wr w.heap.size 29 noRef.toArray ∧ Below w.heap.size w wr) (fun k _ => li - (intOf k).toNat)
    case atStart =>
      refine ⟨0, rfl, Nat.zero_le _, ?_, (Blk.new w _ _).alloc _, ((Below.refl _ w).alloc (Nat.le_refl _) _).alloc (by simp) _⟩
      have hnb := fun cs : Array Value => Blk.new (w.alloc (.cells noRef.toArray 29)) 29 cs
      simp only [World.size_alloc] at hnb
      refine (hnb _).cast_ ?_
      rw [HC.out]
      have e1 := HL8.out
      have e2 := HL4.out
      simp
      omega
    case round =>
      obtain ⟨j, rfl, hj, hB, hB0, hb⟩ := hrel
      have c5 : wr.cell? ⟨w.heap.size + 1, 5, none⟩ = some (.int .i64 (li : Int)) := by rw [hB.cell, HC.out]; rfl
      have c6 : wr.cell? ⟨w.heap.size + 1, 6, none⟩ = some (.int .i64 ((3 + ll + j : Nat) : Int)) := by rw [hB.cell, HC.out]; rfl
      have hfz := hB.frozen 6
      have hlb : ll ≤ 128 ∧ li ≤ 128 := by have e1 := HL8.out; have e2 := HL4.out; omega
      obtain ⟨hlb1, hlb2⟩ := hlb
      have hst6 := hB.set_ 6 (.int .i64 ((3 + ll + (j + 1) : Nat) : Int))
      have HB6 := Lib.hid (And.intro hst6 (And.intro (hB0.far (p := ⟨w.heap.size + 1, 6, none⟩) (by simp) (.int .i64 ((3 + ll + (j + 1) : Nat) : Int))) (hb.setCell (p := ⟨w.heap.size + 1, 6, none⟩) (by simp) (.int .i64 ((3 + ll + (j + 1) : Nat) : Int)))))
      have HB := Lib.hid (And.intro hB (And.intro hB0 hb))
      clear hB hB0 hb hst6
      by_cases hlt : 4 * j < li
      · have hw : 3 + (ll : Int) + (j : Int) + 1 = ((3 + ll + (j + 1) : Nat) : Int) := by omega
        have HW := Lib.hid hw
        clear hw
        go_wp2_with fail
        refine ⟨⟨j + 1, by go_num, by omega, ?_⟩, by simp [intOf]; omega⟩
        rw [HW.out]
        refine ⟨?_, HB6.out.2.1, HB6.out.2.2⟩
        refine HB6.out.1.cast_ ?_
        rw [HC.out, HC.out]
        rfl
      · obtain rfl : j = (li + 3) / 4 := by omega
        have hld := LoadS.of_blk (P := Try.prog) (ty := 29) (o := 0) (n := 7) HB.out.1 Try.underlying29 rfl i_ref (by rw [HC.out]; simp)
        rw [show (refCells n (3 + ll + (li + 3) / 4)).toArray.extract 0 (0 + 7) = (refCells n (3 + ll + (li + 3) / 4)).toArray by rw [HC.out]; simp] at hld
        have hss := StoreS.of_blk (P := Try.prog) (ty := 29) (o := 0) (vs := (refCells n (3 + ll + (li + 3) / 4)).toArray) HB.out.2.1 (by rw [HC.out]; exact i_ref) (by rw [HC.out]; simp [noRef]) (fun v hv => by rw [HC.out] at hv; simp at hv; rcases hv with rfl | rfl | rfl | rfl | rfl | rfl | rfl <;> rfl)
        rw [show (noRef.toArray.toList.take 0 ++ (refCells n (3 + ll + (li + 3) / 4)).toArray.toList ++ noRef.toArray.toList.drop (0 + (refCells n (3 + ll + (li + 3) / 4)).toArray.toList.length)).toArray = (refCells n (3 + ll + (li + 3) / 4)).toArray by rw [HC.out]; simp [noRef]] at hss
        clear c6 hfz
        go_wp2_with fail
        (try simp only [Exit.inBlock, Exit.then])
        exact bodyPost_ret (results_row2 (t := 2) (g := w.heap.size) rfl rfl (HB.out.2.1.row (refCells n (3 + ll + (li + 3) / 4)).toArray) Try.underlying29 rfl (by rw [HC.out]; exact i_ref)) rfl ⟨rfl, below_setRow HB.out.2.2 (Nat.le_refl _) _⟩
theorem store_ref_no (W : World) : (StoreS 29 (.pointer (some ⟨W.heap.size, 0, none⟩)) (.agg noRef.toArray)).run Try.prog (W.alloc (.cells noRef.toArray 29)) = .ok () (W.alloc (.cells noRef.toArray 29)) := store_ref_new 0 0 0 0 0 0 0 W
theorem store_ref_all (n d : Nat) (W : World) : (StoreS 29 (.pointer (some ⟨W.heap.size, 0, none⟩)) (.agg (refCells n d).toArray)).run Try.prog (W.alloc (.cells noRef.toArray 29)) = .ok () (W.alloc (.cells (refCells n d).toArray 29)) := store_ref_new _ _ _ _ _ _ _ W
set_option maxRecDepth 100000 in
set_option maxHeartbeats 1000000 in
theorem refLayNo_any {n : Int} (h : n < 64 ∨ 1024 < n) (w : World) :
    Calls Try.prog 10 #[.int .i64 n] w fun e w' => e = .returned (.tuple #[.agg noRef.toArray, .bool false]) ∧ Below w.heap.size w w' := by
  have hst := store_ref_no w
  by_cases h1 : n < 64
  · clear h
    go_enter Try.func10, Try.ntmps10
    go_wp2_with fail
    (try simp only [Exit.inBlock, Exit.then])
    refine bodyPost_ret (results_row2 (t := 2) (g := w.heap.size) rfl rfl (Blk.new w _ _) Try.underlying29 rfl i_ref) rfl ⟨rfl, (Below.refl _ w).alloc (Nat.le_refl _) _⟩
  · have h2 : 1024 < n := by omega
    clear h
    have h1' : decide (n < 64) = false := by simpa using h1
    clear h1
    go_enter Try.func10, Try.ntmps10
    go_wp2_with fail
    (try simp only [Exit.inBlock, Exit.then])
    refine bodyPost_ret (results_row2 (t := 2) (g := w.heap.size) rfl rfl (Blk.new w _ _) Try.underlying29 rfl i_ref) rfl ⟨rfl, (Below.refl _ w).alloc (Nat.le_refl _) _⟩
end
end Go.Proofs.Ytmhgahkainmbkaa
