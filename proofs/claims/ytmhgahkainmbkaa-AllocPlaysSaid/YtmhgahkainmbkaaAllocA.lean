/- The walks of Lay, Layout, Log, blocks, inodes. The walk of head. -/
import Derived.Test.YtmhgahkainmbkaaAllocP
namespace Go.Proofs.Ytmhgahkainmbkaa
open Go.RowKit
set_option linter.unusedVariables false
set_option linter.unusedSimpArgs false

/-- Results of which the first is a row of cells. -/
theorem results_row2 {P : Program} {fn : Func} {t u : Tmp} {ty T : TypeId} {d : TypeDesc} {g : Nat} {cs : Array Value} {fr : Nat × Nat} {w : World} {tmps : Array Value} (h : fn.results = #[.cell t ty, .tmp u]) (ht : tmps.getD t undef = .pointer (some ⟨g, 0, none⟩))
    (hb : w.heap[g]? = some (.cells cs T fr)) (hu : P.underlying ty = some d) (hd : d.isRow = true) (hi : (P.info? ty).map (·.size) = some cs.size) : (results fn tmps).run P w = .ok (.tuple #[.agg cs, tmps.getD u undef]) w := by
  have hl := LoadS.of_blk (P := P) (o := 0) (n := cs.size) hb hu hd hi (by omega)
  rw [show cs.extract 0 (0 + cs.size) = cs by simp] at hl
  unfold LoadS at hl
  simp only [Instr.loadAt, Instr.sureAddr, Sem.run_bind, Sem.run_pure, Result.andThen_ok] at hl
  simp only [Array.getD_eq_getD_getElem?] at ht
  simp [results, h, ht, asAddr, hl]
theorem results_row3 {P : Program} {fn : Func} {t u v : Tmp} {ty T : TypeId} {d : TypeDesc} {g : Nat} {cs : Array Value} {fr : Nat × Nat} {w : World} {tmps : Array Value} (h : fn.results = #[.cell t ty, .tmp u, .tmp v]) (ht : tmps.getD t undef = .pointer (some ⟨g, 0, none⟩))
    (hb : w.heap[g]? = some (.cells cs T fr)) (hu : P.underlying ty = some d) (hd : d.isRow = true) (hi : (P.info? ty).map (·.size) = some cs.size) : (results fn tmps).run P w = .ok (.tuple #[.agg cs, tmps.getD u undef, tmps.getD v undef]) w := by
  have hl := LoadS.of_blk (P := P) (o := 0) (n := cs.size) hb hu hd hi (by omega)
  rw [show cs.extract 0 (0 + cs.size) = cs by simp] at hl
  unfold LoadS at hl
  simp only [Instr.loadAt, Instr.sureAddr, Sem.run_bind, Sem.run_pure, Result.andThen_ok] at hl
  simp only [Array.getD_eq_getD_getElem?] at ht
  simp [results, h, ht, asAddr, hl]
theorem i_layout : (Try.prog.info? 24).map (·.size) = some 8 := by kernel_rfl
theorem i_kind : (Try.prog.info? 121).map (·.size) = some 2 := by kernel_rfl
theorem i_space : (Try.prog.info? 85).map (·.size) = some 9 := by kernel_rfl

set_option maxRecDepth 100000 in
set_option maxHeartbeats 1000000 in
theorem lay_any {n : Nat} (h1 : 64 ≤ n) (h2 : n ≤ 1024) (w : World) :
    Calls Try.prog 9 #[.int .i64 (n : Int)] w fun e w' => e = .returned (.tuple #[.agg (layCells n).toArray, .int .i64 0]) ∧ Below w.heap.size w w' := by
  go_enter Try.func9, Try.ntmps9
  go_wp2_with fail
  all_goals
    (try simp only [Exit.inBlock, Exit.then])
    refine bodyPost_ret (results_row2 (t := 2) (g := w.heap.size) rfl rfl ((Blk.new w _ _).alloc _) Try.underlying24 rfl i_layout) rfl ⟨?_, ((Below.refl _ w).alloc (Nat.le_refl _) _).alloc (by simp) _⟩
    simp [layCells, logLen, lMap, lNodes, lTable, lInodes, lData]
    omega
/-- No layout. -/
def noLay : List Value := List.replicate 8 (.int .i64 0)
set_option maxRecDepth 100000 in
set_option maxHeartbeats 1000000 in
theorem layNo_any {n : Int} (h : n < 64 ∨ 1024 < n) (w : World) :
    Calls Try.prog 9 #[.int .i64 n] w fun e w' => e = .returned (.tuple #[.agg noLay.toArray, .int .i64 50]) ∧ Below w.heap.size w w' := by
  by_cases h1 : n < 64
  · clear h
    go_enter Try.func9, Try.ntmps9
    go_wp2_with fail
    (try simp only [Exit.inBlock, Exit.then])
    refine bodyPost_ret (results_row2 (t := 2) (g := w.heap.size) rfl rfl (Blk.new w _ _) Try.underlying24 rfl i_layout) rfl ⟨rfl, (Below.refl _ w).alloc (Nat.le_refl _) _⟩
  · have h2 : 1024 < n := by omega
    clear h h1
    go_enter Try.func9, Try.ntmps9
    go_wp2_with fail
    (try simp only [Exit.inBlock, Exit.then])
    refine bodyPost_ret (results_row2 (t := 2) (g := w.heap.size) rfl rfl (Blk.new w _ _) Try.underlying24 rfl i_layout) rfl ⟨rfl, (Below.refl _ w).alloc (Nat.le_refl _) _⟩

/-- A space: its log, and its layout. -/
def spaceV (p n : Nat) : Array Value := #[.pointer (some ⟨p, 0, none⟩), .int .i64 (n : Int), .int .i64 1, .int .i64 (logLen n : Int), .int .i64 (lMap n : Int), .int .i64 (lNodes n : Int), .int .i64 (lTable n : Int), .int .i64 (lInodes n : Int), .int .i64 (lData n : Int)]
abbrev SpaceAt (w : World) (ps p n : Nat) : Prop := Blk w ps 85 (spaceV p n)
theorem load_layout_mark (x : Value) : Instr.loadAt 24 x = LoadS 24 x := rfl
theorem store_layout_mark (x v : Value) : Instr.storeAt 24 x v = StoreS 24 x v := rfl
theorem alloc_layout_mark : Instr.alloc 24 true (.tuple #[]) = AllocS 24 := rfl
theorem alloc_layout (w : World) : Sem.run Try.prog (AllocS 24) w = .ok (.pointer (some ⟨w.heap.size, 0, none⟩)) (w.alloc (.cells noLay.toArray 24)) := by kernel_rfl
theorem store_layout (n : Nat) (W : World) : (StoreS 24 (.pointer (some ⟨W.heap.size, 0, none⟩)) (.agg (layCells n).toArray)).run Try.prog (W.alloc (.cells noLay.toArray 24)) = .ok () (W.alloc (.cells (layCells n).toArray 24)) :=
  StoreS.new (P := Try.prog) (ty := 24) (t := 24) (c := noLay.toArray) (x := (layCells n).toArray) i_layout rfl (fun v hv => by simp [layCells] at hv; rcases hv with rfl | rfl | rfl | rfl | rfl | rfl | rfl | rfl <;> rfl) W
section
variable {w : World} {ps p n : Nat}
theorem slog_any (h : SpaceAt w ps p n) : Calls Try.prog 29 #[.pointer (some ⟨ps, 0, none⟩)] w fun e w' => e = .returned (.pointer (some ⟨p, 0, none⟩)) ∧ w = w' := by
  have c0 := h.cell 0
  simp only [spaceV] at c0
  clear h
  go_enter Try.func29, Try.ntmps29
  go_wp2
  go_ret
  exact ⟨rfl, rfl⟩
section
attribute [local go_sem ↓] load_layout_mark store_layout_mark alloc_layout_mark
attribute [local go_sem] alloc_layout store_layout
set_option maxRecDepth 100000 in
set_option maxHeartbeats 1000000 in
theorem slayout_any (h : SpaceAt w ps p n) : Calls Try.prog 20 #[.pointer (some ⟨ps, 0, none⟩)] w fun e w' => e = .returned (.agg (layCells n).toArray) ∧ Below w.heap.size w w' := by
  have h2 : (w.alloc (.cells noLay.toArray 24)).heap[ps]? = some (.cells (spaceV p n) 85 (0, 0)) := h.alloc _
  have hld := LoadS.of_blk (P := Try.prog) (ty := 24) (o := 1) (n := 8) h2 Try.underlying24 rfl i_layout (by simp [spaceV])
  rw [show (spaceV p n).extract 1 (1 + 8) = (layCells n).toArray by simp [spaceV, layCells]] at hld
  clear h h2
  go_enter Try.func20, Try.ntmps20
  go_wp2_with fail
  (try simp only [Exit.inBlock, Exit.then])
  exact bodyPost_ret (results_row (t := 2) (g := w.heap.size) rfl rfl (Blk.new w _ _) Try.underlying24 rfl i_layout) rfl ⟨rfl, (Below.refl _ w).alloc (Nat.le_refl _) _⟩
end
theorem space_cells (h : SpaceAt w ps p n) : w.cell? ⟨ps, 0, none⟩ = some (.pointer (some ⟨p, 0, none⟩)) ∧ w.cell? ⟨ps, 1, none⟩ = some (.int .i64 (n : Int)) ∧ w.cell? ⟨ps, 4, none⟩ = some (.int .i64 (lMap n : Int)) ∧ w.cell? ⟨ps, 5, none⟩ = some (.int .i64 (lNodes n : Int)) ∧
    w.cell? ⟨ps, 6, none⟩ = some (.int .i64 (lTable n : Int)) ∧ w.cell? ⟨ps, 7, none⟩ = some (.int .i64 (lInodes n : Int)) ∧ w.cell? ⟨ps, 8, none⟩ = some (.int .i64 (lData n : Int)) :=
  ⟨h.cell 0, h.cell 1, h.cell 4, h.cell 5, h.cell 6, h.cell 7, h.cell 8⟩
/-- A kind: its sector, and how many things it has. -/
def kindV (a c : Nat) : Array Value := #[.int .i64 (a : Int), .int .i64 (c : Int)]
set_option maxRecDepth 100000 in
set_option maxHeartbeats 1000000 in
theorem blocks_any (h : SpaceAt w ps p n) (h1 : 64 ≤ n) (h2 : n ≤ 1024) : Calls Try.prog 53 #[.pointer (some ⟨ps, 0, none⟩)] w fun e w' => e = .returned (.agg (kindV (lMap n) (n - lData n))) ∧ Below w.heap.size w w' := by
  obtain ⟨f1, f2, f3, f4, f5, f6, f7, f8, f9⟩ := lay_facts h1 h2
  obtain ⟨c0, c1, c4, c5, c6, c7, c8⟩ := space_cells (h.alloc (.cells #[.int .i64 0, .int .i64 0] 121))
  have hw : IntKind.i64.wrap ((n : Int) - (lData n : Int)) = ((n - lData n : Nat) : Int) := by rw [IntWalk.i64_in _ (by omega)]; omega
  have HR := Lib.hid (fun W : World => Blk.new W 121 (kindV (lMap n) (n - lData n)))
  obtain ⟨cn, hcn⟩ : ∃ cn, cn = n - lData n := ⟨_, rfl⟩
  rw [← hcn] at hw HR ⊢
  obtain ⟨am, ham⟩ : ∃ am, am = lMap n := ⟨_, rfl⟩
  rw [← ham] at c4 HR ⊢
  clear h f1 f2 f3 f4 f5 f6 f7 f8 f9 hcn ham
  go_enter Try.func53, Try.ntmps53
  go_wp2_with fail
  go_region
  all_goals
    go_wp2_with fail
    (try simp only [Exit.inBlock, Exit.then])
    exact bodyPost_ret (results_row (t := 2) (g := w.heap.size) rfl rfl (HR.out w).drew Try.underlying121 rfl i_kind) rfl ⟨rfl, ((Below.refl _ w).alloc (Nat.le_refl _) _).drew⟩
set_option maxRecDepth 100000 in
set_option maxHeartbeats 1000000 in
theorem inodes_any (h : SpaceAt w ps p n) (h1 : 64 ≤ n) (h2 : n ≤ 1024) : Calls Try.prog 67 #[.pointer (some ⟨ps, 0, none⟩)] w fun e w' => e = .returned (.agg (kindV (lNodes n) (lInodes n))) ∧ Below w.heap.size w w' := by
  obtain ⟨c0, c1, c4, c5, c6, c7, c8⟩ := space_cells (h.alloc (.cells #[.int .i64 0, .int .i64 0] 121))
  have HR := Lib.hid (fun W : World => Blk.new W 121 (kindV (lNodes n) (lInodes n)))
  obtain ⟨cn, hcn⟩ : ∃ cn, cn = lInodes n := ⟨_, rfl⟩
  rw [← hcn] at c7 HR ⊢
  obtain ⟨am, ham⟩ : ∃ am, am = lNodes n := ⟨_, rfl⟩
  rw [← ham] at c5 HR ⊢
  clear h hcn ham
  go_enter Try.func67, Try.ntmps67
  go_wp2_with fail
  go_region
  all_goals
    go_wp2_with fail
    (try simp only [Exit.inBlock, Exit.then])
    exact bodyPost_ret (results_row (t := 2) (g := w.heap.size) rfl rfl (HR.out w).drew Try.underlying121 rfl i_kind) rfl ⟨rfl, ((Below.refl _ w).alloc (Nat.le_refl _) _).drew⟩
/-- A map: which function tells its kind, where it stands, how many things it has. -/
structure KindOf (n f a c : Nat) : Prop where
  is : (f = 53 ∧ a = lMap n ∧ c = n - lData n) ∨ (f = 67 ∧ a = lNodes n ∧ c = lInodes n)
theorem kind_any {f a c : Nat} (hk : KindOf n f a c) (h : SpaceAt w ps p n) (h1 : 64 ≤ n) (h2 : n ≤ 1024) : Calls Try.prog f #[.pointer (some ⟨ps, 0, none⟩)] w fun e w' => e = .returned (.agg (kindV a c)) ∧ Below w.heap.size w w' := by
  rcases hk.is with ⟨rfl, rfl, rfl⟩ | ⟨rfl, rfl, rfl⟩
  · exact blocks_any h h1 h2
  · exact inodes_any h h1 h2
theorem KindOf.facts {f a c : Nat} (hk : KindOf n f a c) (h1 : 64 ≤ n) (h2 : n ≤ 1024) : lMap n ≤ a ∧ a < n ∧ c ≤ 1023 ∧ 1 ≤ c := by
  obtain ⟨f1, f2, f3, f4, f5, f6, f7, f8, f9⟩ := lay_facts h1 h2
  rcases hk.is with ⟨_, rfl, rfl⟩ | ⟨_, rfl, rfl⟩ <;> omega
end
end Go.Proofs.Ytmhgahkainmbkaa
namespace Go.Proofs.Ytmhgahkainmbkaa
open Go.RowKit
set_option linter.unusedVariables false
set_option linter.unusedSimpArgs false

theorem make_bytes_mark (n c : Value) : Instr.makeSlice 39 n c = MakeS 39 n c := rfl
theorem make128 (W : World) : Sem.run Try.prog (MakeS 39 (.int .i64 128) (.int .i64 128)) W = .ok (.slice (some ⟨W.heap.size, 0, none⟩) 128 128) (W.alloc (.cells (zbytes 128) 5)) := by kernel_rfl
theorem filled_set (d : List UInt8) (c : UInt8) (h : d.length < 128) : (filled d).setIfInBounds d.length (bv c) = filled (d ++ [c]) := by
  obtain ⟨m, hm⟩ : ∃ m, 128 - d.length = m + 1 := ⟨127 - d.length, by omega⟩
  unfold filled
  rw [hm, show 128 - (d ++ [c]).length = m by simp; omega]
  apply Array.ext'
  simp [List.replicate_succ]
theorem filled_full {d : List UInt8} (h : d.length = 128) : filled d = (d.map bv).toArray := by rw [filled_pad]; congr 2; simp [pad, h]
section
attribute [local go_sem ↓] make_bytes_mark copyS_mark
attribute [local go_sem] make128
set_option maxRecDepth 100000 in
set_option maxHeartbeats 1000000 in
theorem head_any {n : Nat} (hn : n ≤ 65535) (w : World) :
    Calls Try.prog 41 #[.int .i64 (n : Int)] w fun e w' => e = .returned (.slice (some ⟨w.heap.size, 0, none⟩) 128 128) ∧ Below w.heap.size w w' ∧ Blk w' w.heap.size 5 ((headB n).map bv).toArray := by
  obtain ⟨W, hW⟩ : ∃ W, W = w.alloc (.cells (zbytes 128) 5) := ⟨_, rfl⟩
  have hb : Below w.heap.size w W := by subst hW; exact (Below.refl _ _).alloc (Nat.le_refl _) _
  have hB : Blk W w.heap.size 5 (filled []) := by subst hW; exact Blk.new w _ _
  have hcopy := CopyS.str (P := Try.prog) (w := W) (dT := 39) (sT := 9) (ty := 3) (o := 0) (dLen := 128) (dCap := 128) (s := ⟨#[114, 111, 111, 116, 100, 105, 115, 107]⟩) (l := rootB) Try.underlying39 byte_size1 hB rfl (by decide) (by rw [filled_size (by decide)]; decide)
  rw [laid_filled [] rootB (o := 0) rfl (by decide), List.nil_append] at hcopy
  obtain ⟨W1, hW1⟩ : ∃ W1, W1 = W.setRow w.heap.size (filled rootB) := ⟨_, rfl⟩
  rw [← hW1, hW] at hcopy
  have hB1 : Blk W1 w.heap.size 5 (filled rootB) := by rw [hW1]; exact hB.row _
  have hb1 : Below w.heap.size w W1 := by rw [hW1]; exact below_setRow hb (Nat.le_refl _) _
  obtain ⟨x0, hx0⟩ : ∃ x, x = UInt8.ofNat n := ⟨_, rfl⟩
  obtain ⟨x1, hx1⟩ : ∃ x, x = UInt8.ofNat (n / 256) := ⟨_, rfl⟩
  have hv0 : (x0.toNat : Int) = (n : Int) % 256 := by rw [hx0]; simp
  have hv1 : (x1.toNat : Int) = (n : Int) / 256 % 256 := by rw [hx1]; simp
  have hc8 : W1.cell? ⟨w.heap.size, 8, none⟩ = some (.int .u8 0) := by rw [hB1.cell]; rfl
  have hc9 : W1.cell? ⟨w.heap.size, 9, none⟩ = some (.int .u8 0) := by rw [hB1.cell]; rfl
  have hfz := hB1.frozen
  have HB1 := Lib.hid hB1
  have HV := Lib.hid (And.intro hv0 hv1)
  have HX := Lib.hid (And.intro hx0 hx1)
  have HBL := Lib.hid hb1
  have hw0 : IntKind.u8.wrap (n : Int) = (n : Int) % 256 := by simp [IntKind.wrap, IntKind.bits, IntKind.signed]
  have hw1 : IntKind.u8.wrap ((n : Int) / 256) = (n : Int) / 256 % 256 := by simp [IntKind.wrap, IntKind.bits, IntKind.signed]
  clear hW hb hB hW1 hB1 hb1 hx0 hx1 hv0 hv1
  go_enter Try.func41, Try.ntmps41
  go_wp2_with fail
  go_ret
  refine ⟨rfl, (HBL.out.setCell (Nat.le_refl _) _).setCell (Nat.le_refl _) _, ?_⟩
  have h := ((HB1.out.set_ 8 (bv x0)).set_ 9 (bv x1))
  rw [show (8 : Nat) = rootB.length from rfl, filled_set rootB x0 (by decide), show (9 : Nat) = (rootB ++ [x0]).length from by simp [rootB], filled_set (rootB ++ [x0]) x1 (by simp [rootB])] at h
  have e : rootB ++ le 2 n = rootB ++ [x0] ++ [x1] := by rw [HX.out.1, HX.out.2]; simp [le]
  unfold headB
  rw [← filled_pad, e]
  unfold bv at h
  rw [HV.out.1, HV.out.2] at h
  exact h
end
end Go.Proofs.Ytmhgahkainmbkaa
