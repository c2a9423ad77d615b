/- slices.Insert of an entry where there is no room. slices.Insert of an entry where there is room. slices.Insert of an entry, wherever it goes. machine.file. -/
import Derived.Test.YtibndaianhlcaaaDoorPart13
import Derived.Lib.AppendZerosOnto
import Derived.Shelf.Spec.SlicesInsertGrow
import Derived.Shelf.Spec.SlicesInsert
namespace Go.Proofs.YtibndaianhlcaaaDoor
open Go.RowKit Go.Sort Go.Shelf
set_option linter.unusedVariables false
set_option linter.unusedSimpArgs false

set_option maxRecDepth 100000 in
set_option maxHeartbeats 2000000 in
theorem insE_grow {w : World} {b n c i : Nat} {cs : List Value} (hi : i < n) (hn : n ≤ 1000000) (hnc : n ≤ c) (hroom : c < n + 1) (hcl : cs.length = n * 3) (h1c : ∀ v ∈ cs, v.oneCell' = true) (hcs : ∀ j v, cs[j]? = some v → w.cell? ⟨b, 0 + j, none⟩ = some v) (x : EV) {vb : Nat} (hv : Blk w vb 44 (evArr x)) :
    ∃ ROW : Array Value, ROW.size = grownCap w (n + 1) c 44 * 3 ∧ ROW.toList.take (i * 3) = cs.take (i * 3) ∧
    Calls Tryd.prog 44 #[.slice (some ⟨b, 0, none⟩) n c, .int .i64 (i : Int), .slice (some ⟨vb, 0, none⟩) 1 1] w fun e w' => e = .returned (.slice (some ⟨w.heap.size, 0, none⟩) (n + 1) (grownCap w (n + 1) c 44)) ∧
      w' = (((w.alloc (.cells ROW 44)).drew.setCells w.heap.size (i * 3) (evCells x)).drew).setCells w.heap.size ((i + 1) * 3) (cs.drop (i * 3)) := by
  obtain ⟨i0, hi0, hz0, hzs, hzb⟩ := info_parts ent_info
  have hz1 : ¬ ((1 : Int) = 0) := by decide
  have hz2 : ¬ ((i : Int) = (n : Int)) := by omega
  have hz3 : (c : Int) < (n : Int) + 1 := by omega
  have hsz : (Tryd.prog.info? 44).map (·.size) = some 3 := by rw [hi0]; simp [hzs]
  have hbw : b < w.heap.size := World.block_lt_of_cell? _ _ (hcs 0 _ (List.getElem?_eq_getElem (by omega)))
  have hvw : vb < w.heap.size := hv.lt
  have hkk : (n : Int) + 1 - (i : Int) = ((n + 1 - i : Nat) : Int) := by omega
  have hik : i + (n + 1 - i) = n + 1 := by omega
  have hold : (Builtin.firstCells i0.size i (.slice (some ⟨b, 0, none⟩) i c)).run Tryd.prog w.drew = .ok (cs.take (i * 3)).toArray w.drew := by
    rw [hzs]
    exact run_firstCells_some w.drew 3 i ⟨b, 0, none⟩ i c (cs.take (i * 3)) (by rw [List.length_take]; omega) (fun j v hj => by
      rw [addr_of_add]
      rw [List.getElem?_take] at hj
      split at hj
      · exact hcs j v hj
      · cases hj)
  obtain ⟨G, hG⟩ : ∃ G, G = grownCap w (n + 1) c 44 := ⟨_, rfl⟩
  have hGn : n + 1 ≤ G := by rw [hG]; exact grownCap_ge w _ _ _
  have hGm : G ≤ maxLen := by rw [hG]; exact grownCap_le_maxLen w (n + 1) c _ (by unfold maxLen; omega)
  obtain ⟨z, hz⟩ : ∃ z : Array Value, z = (Value.agg #[.string .empty, .int .i64 0, .slice none 0 0]).cells := ⟨_, rfl⟩
  have hz3' : z.size = 3 := by rw [hz]; rfl
  obtain ⟨ROW, hROW⟩ : ∃ ROW : Array Value, ROW = (cs.take (i * 3)).toArray ++ Builtin.zeroCells z (n + 1 - i) ++ Builtin.zeroCells z (G - (n + 1)) := ⟨_, rfl⟩
  have hrz : ∀ ty, (Builtin.append_ #[28, 3] ty #[.slice (some ⟨b, 0, none⟩) i c, .int .i64 ((n : Int) + 1 - (i : Int))]).run Tryd.prog w = .ok (.slice (some ⟨w.heap.size, 0, none⟩) (n + 1) G) (w.drew.alloc (.cells ROW 44)) := fun ty => by
    have h := Lib.run_append_grow_zeros w 28 3 ty 44 i0 _ .i64 .i64 Tryd.underlying28 Tryd.underlying3 hi0 hz0 (some ⟨b, 0, none⟩) i c (cs.take (i * 3)) hold (n + 1 - i) (by omega) (by omega) (by omega) (by omega) (by rw [hzb]; omega) (by rw [hzb, hik]; exact growslice_fits hroom (by omega))
    rw [hik, ← hG] at h
    rw [hkk, hROW, hz]
    exact h
  have hRs : ROW.size = G * 3 := by rw [hROW]; simp only [Array.size_append, List.size_toArray, size_zeroCells, hz3', List.length_take, hcl]; omega
  refine ⟨ROW, by rw [← hG]; exact hRs, by rw [hROW, Array.toList_append, Array.toList_append, List.append_assoc, List.take_append_of_le_length (by simp only [List.length_take, hcl]; omega)]; simp [List.take_take], ?_⟩
  rw [← hG]
  have hBR : Blk (w.alloc (.cells ROW 44)).drew w.heap.size 44 ROW := (Blk.new w _ _).drew
  have hvR : Blk (w.alloc (.cells ROW 44)).drew vb 44 (evArr x) := (hv.alloc _).drew
  have hcpA : ∀ ty dc, (Builtin.copy_ #[28, 28] ty #[.slice (some ⟨w.heap.size, i * 3, none⟩) (n + 1 - i) dc, .slice (some ⟨vb, 0, none⟩) 1 1]).run Tryd.prog (w.alloc (.cells ROW 44)).drew = .ok (goInt 1) ((w.alloc (.cells ROW 44)).drew.setCells w.heap.size (i * 3) (evCells x)) := fun ty dc =>
    run_copy_sized _ _ _ ty 44 3 1 w.heap.size (i * 3) (n + 1 - i) dc ⟨vb, 0, none⟩ 1 1 (evCells x) Tryd.underlying28 hsz (by simp only [Nat.min_def]; split <;> omega) rfl
      (fun j v hj => by rw [addr_of_add, Nat.zero_add, hvR.cell]; simpa [evArr, evCells] using hj)
      (fun j hj => by rw [evCells_length] at hj; rw [hBR.cell, Array.getElem?_eq_getElem (by omega)]; rfl) (fun j _ => hBR.frozen _) (fun v hv => evCells_one [x] v (by simpa using hv))
  have hBR2 := Blk.setCells (evCells x) (i * 3) hBR
  have hdl : (cs.drop (i * 3)).length = (n - i) * 3 := by rw [List.length_drop, hcl]; omega
  have hcpB : ∀ ty dc sc, (Builtin.copy_ #[28, 28] ty #[.slice (some ⟨w.heap.size, (i + 1) * 3, none⟩) (n + 1 - (i + 1)) dc, .slice (some ⟨b, i * 3, none⟩) (n - i) sc]).run Tryd.prog ((w.alloc (.cells ROW 44)).drew.setCells w.heap.size (i * 3) (evCells x)).drew = .ok (goInt ((n - i : Nat) : Int)) (((w.alloc (.cells ROW 44)).drew.setCells w.heap.size (i * 3) (evCells x)).drew.setCells w.heap.size ((i + 1) * 3) (cs.drop (i * 3))) := fun ty dc sc =>
    run_copy_sized _ _ _ ty 44 3 (n - i) w.heap.size ((i + 1) * 3) (n + 1 - (i + 1)) dc ⟨b, i * 3, none⟩ (n - i) sc (cs.drop (i * 3)) Tryd.underlying28 hsz (by simp only [Nat.min_def]; split <;> omega) hdl
      (fun j v hj => by
        rw [addr_of_add]
        have h9 := hcs (i * 3 + j) v (by rwa [List.getElem?_drop] at hj)
        rw [Nat.zero_add] at h9
        have hbl := (below_setCells (B := w.heap.size) (a := w) (g := w.heap.size) (Nat.le_refl _) (evCells x) (i * 3) (((Below.refl w.heap.size w).alloc (Nat.le_refl _) (.cells ROW 44)).drew)).drew
        rw [hbl.cell (p := ⟨b, i * 3 + j, none⟩) hbw]
        exact h9)
      (fun j hj => by rw [hdl] at hj; rw [hBR2.drew.cell, Array.getElem?_eq_getElem (by rw [sets_size]; omega)]; rfl) (fun j _ => hBR2.drew.frozen _) (fun v hv => h1c v (List.mem_of_mem_drop hv))
  have mixed : Tryd.prog.follows .mixedOrders = true := by kernel_rfl
  have hGi : ¬ (G = i) := by omega
  have hGim : ¬ (G = i + 1) := by omega
  have hci : ¬ (c = i) := by omega
  have hin : i ≤ n := by omega
  have hw1 : IntKind.i64.wrap ((i : Int) + 1) = (i : Int) + 1 := IntWalk.i64_in _ (by omega)
  have hb1 : (0 : Int) ≤ (i : Int) + 1 := by omega
  have htn : ((i : Int) + 1).toNat = i + 1 := by omega
  have hb3 : (i : Int) ≤ (n : Int) := by omega
  have hGm' : G ≤ 9223372036854775807 := by unfold maxLen at hGm; omega
  clear hold hROW hG hkk hik hBR hvR hBR2 hRs hz hz3' hv hcs h1c
  go_enter Tryd.func44, Tryd.ntmps44
  go_wp2_with (first
    | (at_builtin; refine Lib.wpList_append_run _ rfl _ _ _ _ rfl _ _ rfl rfl _ _ (hrz _) ?_)
    | (at_builtin; refine wpList_copy_runI _ rfl _ _ 28 28 rfl _ _ rfl rfl (hcpA _ _) ?_))
  go_region_law_o (refine step_copy_runI rfl _ _ 28 28 rfl (.slice (some ⟨w.heap.size, (i + 1) * 3, none⟩) (n + 1 - (i + 1)) (G - (i + 1))) (.slice (some ⟨b, i * 3, none⟩) (n - i) (c - i)) (by simp [Act.eval, Act.put]) (by simp [Act.eval, Act.put]) (hcpB 3 (G - (i + 1)) (c - i)) ?_)
  go_wp2
  go_ret
  exact ⟨rfl, rfl⟩
end Go.Proofs.YtibndaianhlcaaaDoor
namespace Go.Proofs.YtibndaianhlcaaaDoor
open Go.RowKit Go.Sort Go.Shelf
set_option linter.unusedVariables false
set_option linter.unusedSimpArgs false

set_option maxRecDepth 100000 in
set_option maxHeartbeats 2000000 in
theorem insE_shift {w : World} {b n c i : Nat} {cs : List Value} {cur : Array Value} (hi : i < n) (hn : n ≤ 1000000) (hroom : n + 1 ≤ c) (hc63 : c ≤ 9223372036854775807) (hB : Blk w b 44 cur) (hcs3 : cur.size = c * 3) (hcl : cs.length = n * 3) (h1c : ∀ v ∈ cs, v.oneCell' = true) (hcs : ∀ j v, cs[j]? = some v → w.cell? ⟨b, 0 + j, none⟩ = some v) (x : EV) {vb : Nat} (hv : Blk w vb 44 (evArr x)) (hvb : vb ≠ b) :
    Calls Tryd.prog 44 #[.slice (some ⟨b, 0, none⟩) n c, .int .i64 (i : Int), .slice (some ⟨vb, 0, none⟩) 1 1] w fun e w' => e = .returned (.slice (some ⟨b, 0, none⟩) (n + 1) c) ∧
      w' = (w.drew.setCells b ((i + 1) * 3) (cs.drop (i * 3))).setCells b (i * 3) (evCells x) := by
  obtain ⟨i0, hi0, hz0, hzs, hzb⟩ := info_parts ent_info
  have hz1 : ¬ ((1 : Int) = 0) := by decide
  have hz2 : ¬ ((i : Int) = (n : Int)) := by omega
  have hsz : (Tryd.prog.info? 44).map (·.size) = some 3 := by rw [hi0]; simp [hzs]
  have hsa : w.shape? vb = some (44, 3) := by unfold World.shape?; rw [show w.heap[vb]? = _ from hv]; rfl
  have hsb : w.shape? b = some (44, cur.size) := by unfold World.shape?; rw [show w.heap[b]? = _ from hB]
  have hov : ∀ lb cb, (callFunc 59 #[.slice (some ⟨vb, 0, none⟩) 1 1, .slice (some ⟨b, (i + 1) * 3, none⟩) lb cb]).run Tryd.prog w = .ok (.value (.bool false)) w := fun lb cb => by
    rw [run_callFunc_extern Tryd.func59 (by kernel_rfl) (by kernel_rfl) (by kernel_rfl) (e := Extern.SlicesOverlaps.overlaps #[28, 28] #[4]) (by kernel_rfl),
      Lib.run_overlaps_apart w 28 4 44 Tryd.underlying28 3 Tryd.sizeOf44 ⟨vb, 0, none⟩ ⟨b, (i + 1) * 3, none⟩ 1 1 lb cb hvb 44 44 3 cur.size hsa hsb (by omega) (hv.frozen _) (hv.frozen _)]
    rfl
  have hdl : (cs.drop (i * 3)).length = (n - i) * 3 := by rw [List.length_drop, hcl]; omega
  have mixed : Tryd.prog.follows .mixedOrders = true := by kernel_rfl
  have hcp1 : ∀ ty dc sc, (Builtin.copy_ #[28, 28] ty #[.slice (some ⟨b, (i + 1) * 3, none⟩) (n + 1 - (i + 1)) dc, .slice (some ⟨b, i * 3, none⟩) (n + 1 - i) sc]).run Tryd.prog w.drew = .ok (goInt ((n - i : Nat) : Int)) (w.drew.setCells b ((i + 1) * 3) (cs.drop (i * 3))) := fun ty dc sc =>
    run_copy_sized _ _ _ ty 44 3 (n - i) b ((i + 1) * 3) (n + 1 - (i + 1)) dc ⟨b, i * 3, none⟩ (n + 1 - i) sc (cs.drop (i * 3)) Tryd.underlying28 hsz (by simp only [Nat.min_def]; split <;> omega) hdl
      (fun j v hj => by
        rw [addr_of_add]
        have h9 := hcs (i * 3 + j) v (by rwa [List.getElem?_drop] at hj)
        rw [Nat.zero_add] at h9
        exact h9)
      (fun j hj => by rw [hdl] at hj; rw [hB.drew.cell, Array.getElem?_eq_getElem (by omega)]; rfl) (fun j _ => hB.drew.frozen _) (fun v hv => h1c v (List.mem_of_mem_drop hv))
  obtain ⟨W1, hW1⟩ : ∃ W1, W1 = w.drew.setCells b ((i + 1) * 3) (cs.drop (i * 3)) := ⟨_, rfl⟩
  have hB1 : Blk W1 b 44 (sets cur ((i + 1) * 3) (cs.drop (i * 3))) := by rw [hW1]; exact Blk.setCells _ _ hB.drew
  have hv1 : Blk W1 vb 44 (evArr x) := by
    have hg := grownBy_setCells (g := b) (cs.drop (i * 3)) ((i + 1) * 3) (a := w.drew) (World.grownBy.refl _ _)
    rw [← hW1] at hg
    exact (hg.block vb hv.lt (fun e => by injection e with e; exact hvb e)).trans hv
  have hcp2 : ∀ ty dc, (Builtin.copy_ #[28, 28] ty #[.slice (some ⟨b, i * 3, none⟩) (n + 1 - i) dc, .slice (some ⟨vb, 0, none⟩) 1 1]).run Tryd.prog W1 = .ok (goInt 1) (W1.setCells b (i * 3) (evCells x)) := fun ty dc =>
    run_copy_sized _ _ _ ty 44 3 1 b (i * 3) (n + 1 - i) dc ⟨vb, 0, none⟩ 1 1 (evCells x) Tryd.underlying28 hsz (by simp only [Nat.min_def]; split <;> omega) rfl
      (fun j v hj => by rw [addr_of_add, Nat.zero_add, hv1.cell]; simpa [evArr, evCells] using hj)
      (fun j hj => by rw [evCells_length] at hj; rw [hB1.cell, Array.getElem?_eq_getElem (by rw [sets_size]; omega)]; rfl) (fun j _ => hB1.frozen _) (fun v hv => evCells_one [x] v (by simpa using hv))
  have hcp3 : ∀ ty dc, (Builtin.copy_ #[28, 28] ty #[.slice (some ⟨b, i * 3, none⟩) (n + 1 - i) dc, .slice (some ⟨vb, 0, none⟩) 1 1]).run Tryd.prog W1.drew = .ok (goInt 1) (W1.drew.setCells b (i * 3) (evCells x)) := fun ty dc =>
    run_copy_sized _ _ _ ty 44 3 1 b (i * 3) (n + 1 - i) dc ⟨vb, 0, none⟩ 1 1 (evCells x) Tryd.underlying28 hsz (by simp only [Nat.min_def]; split <;> omega) rfl
      (fun j v hj => by rw [addr_of_add, Nat.zero_add, hv1.drew.cell]; simpa [evArr, evCells] using hj)
      (fun j hj => by rw [evCells_length] at hj; rw [hB1.drew.cell, Array.getElem?_eq_getElem (by rw [sets_size]; omega)]; rfl) (fun j _ => hB1.drew.frozen _) (fun v hv => evCells_one [x] v (by simpa using hv))
  rw [← hW1] at hcp1
  have hw1 : IntKind.i64.wrap ((i : Int) + 1) = (i : Int) + 1 := IntWalk.i64_in _ (by omega)
  have hb1 : (0 : Int) ≤ (i : Int) + 1 := by omega
  have hin : i ≤ n := by omega
  have htn : ((i : Int) + 1).toNat = i + 1 := by omega
  have hb2 : ¬ (c = i + 1) := by omega
  have hb3 : (i : Int) ≤ (n : Int) + 1 := by omega
  have hb4 : ¬ (c = i) := by omega
  have hb5 : ¬ ((c : Int) < (n : Int) + 1) := by omega
  have HCP2 := Lib.hid hcp2
  have HCP3 := Lib.hid hcp3
  have HWW := Lib.hid hW1
  clear hB hv hB1 hv1 hcs h1c hsa hsb hcp2 hcp3 hW1
  go_enter Tryd.func44, Tryd.ntmps44
  go_wp2_with (simp only [hov])
  go_region_law_o (refine step_copy_runI rfl _ _ 28 28 rfl (.slice (some ⟨b, (i + 1) * 3, none⟩) (n + 1 - (i + 1)) (c - (i + 1))) (.slice (some ⟨b, i * 3, none⟩) (n + 1 - i) (c - i)) (by simp [Act.eval, Act.put]) (by simp [Act.eval, Act.put]) (hcp1 3 (c - (i + 1)) (c - i)) ?_)
  go_wp2_with (fail)
  rw [HCP2.out]
  go_wp2
  go_ret
  first | exact ⟨rfl, rfl⟩ | exact ⟨rfl, by rw [HWW.out]⟩
end Go.Proofs.YtibndaianhlcaaaDoor
namespace Go.Proofs.YtibndaianhlcaaaDoor
open Go.RowKit Go.Sort Go.Shelf
set_option linter.unusedVariables false
set_option linter.unusedSimpArgs false

set_option maxHeartbeats 1000000 in
theorem insE_any {w : World} {F : Nat → Prop} {A : Option Addr} {n c : Nat} {l : List EV} (h : Row w F 44 3 (.slice A n c) n (l.flatMap evCells)) {i : Nat} (hi : i ≤ n) (hn : n ≤ 1000000) (x : EV) {vb : Nat} (hv : Blk w vb 44 (evArr x)) (hvF : ¬ F vb) :
    Calls Tryd.prog 44 #[.slice A n c, .int .i64 (i : Int), .slice (some ⟨vb, 0, none⟩) 1 1] w (InsPostE w F A n c l i x) := by
  have hl : l.length = n := by have h1 := h.own.1; rw [flatMap_len evCells 3 l (fun o _ => evCells_length o)] at h1; omega
  have hcl : (l.flatMap evCells).length = n * 3 := by rw [flatMap_len evCells 3 l (fun o _ => evCells_length o), hl]
  have h1c : ∀ v ∈ l.flatMap evCells, v.oneCell' = true := evCells_one l
  rcases Nat.eq_or_lt_of_le hi with hin | hin
  · subst hin
    exact insE_end h hn x hv
  rcases h.own.2 with ⟨e, h0⟩ | ⟨g, cap, cur, e, hb0, hb, hb1, hb2, hb3, hb4⟩
  · omega
  injection e with e1 _ e3
  subst e1 e3
  have hB : Blk w g 44 cur := hb
  have hFg : F g := h.foot g rfl
  have hcs : ∀ j v, (l.flatMap evCells)[j]? = some v → w.cell? ⟨g, 0 + j, none⟩ = some v := fun j v hj => by
    rw [hB.cell, Nat.zero_add, ← Array.getElem?_toList]
    rw [← hb4, List.getElem?_take] at hj
    split at hj
    · exact hj
    · cases hj
  have hfm := flatMap_take evCells 3 l i (fun o _ => evCells_length o)
  have hpre : ((l.take i).flatMap evCells).length = i * 3 := by rw [flatMap_len evCells 3 _ (fun o _ => evCells_length o), List.length_take, Nat.min_eq_left (by omega)]
  have hpost : ((l.drop i).flatMap evCells).length = (n - i) * 3 := by rw [flatMap_len evCells 3 _ (fun o _ => evCells_length o), List.length_drop, hl]
  have hsum : (n + 1) * 3 = i * 3 + 3 + (n - i) * 3 := by omega
  have hlen : ((insA l i x).flatMap evCells).length = (n + 1) * 3 := by rw [flatMap_len evCells 3 _ (fun o _ => evCells_length o), ins_length, hl]
  rcases Nat.lt_or_ge c (n + 1) with hroom | hroom
  · obtain ⟨ROW, hRs, hRt, hcall⟩ := insE_grow hin hn hb1 hroom hcl h1c hcs x hv
    have hGn := grownCap_ge w (n + 1) c 44
    have hGm : grownCap w (n + 1) c 44 ≤ maxLen := grownCap_le_maxLen w (n + 1) c _ (by unfold maxLen; omega)
    generalize grownCap w (n + 1) c 44 = G at *
    refine hcall.mono ?_
    rintro e w' ⟨rfl, hw⟩
    have hB1 : Blk w' w.heap.size 44 (sets (sets ROW (i * 3) (evCells x)) ((i + 1) * 3) ((l.flatMap evCells).drop (i * 3))) := by
      rw [hw]
      exact Blk.setCells _ _ ((Blk.setCells _ _ ((Blk.new w _ _).drew)).drew)
    have hgb : (w.alloc (.cells ROW 44)).grownBy w' (some w.heap.size) := by
      rw [hw]
      have g1 := grownBy_setCells (g := w.heap.size) (a := w.alloc (.cells ROW 44)) (evCells x) (i * 3) (w := (w.alloc (.cells ROW 44)).drew) ⟨rfl, rfl, rfl, Nat.le_refl _, fun _ _ _ => rfl⟩
      exact grownBy_setCells _ _ ⟨g1.os, g1.tape, g1.output, g1.size, g1.block⟩
    have hsz := hgb.size
    rw [World.size_alloc] at hsz
    refine ⟨_, _, rfl, ⟨⟨hlen, .inr ⟨w.heap.size, G, _, rfl, Nat.zero_le _, hB1, hGn, hGm, by rw [sets_size, sets_size, hRs], ?_⟩⟩, fun k hk => ?_⟩, ⟨hgb.os, hgb.tape, hgb.output, by omega, fun k hk _ => by rw [hgb.block k (by simp; omega) (by intro e9; injection e9 with e9; omega), Below.heap_alloc w _ k hk]⟩⟩
    · rw [hsum, hfm.2, show (i + 1) * 3 = i * 3 + 3 by omega, ins_flat]
      exact sets_two2 hpre rfl hpost (by rw [hRs]; omega) (fun j hj => by rw [← hfm.1, ← hRt, List.getElem?_take, if_pos hj])
    · injection hk with hk
      subst hk
      exact .inr ⟨Nat.le_refl _, (by show w.heap.size < w'.heap.size; omega)⟩
  · have hvb : vb ≠ g := by rintro rfl; exact hvF hFg
    refine (insE_shift hin hn hroom (by unfold maxLen at hb2; omega) hB hb3 hcl h1c hcs x hv hvb).mono ?_
    rintro e w' ⟨rfl, hw⟩
    have hB1 : Blk w' g 44 (sets (sets cur ((i + 1) * 3) ((l.flatMap evCells).drop (i * 3))) (i * 3) (evCells x)) := by
      rw [hw]
      exact Blk.setCells _ _ (Blk.setCells _ _ hB.drew)
    have hgb : w.grownBy w' (some g) := by
      rw [hw]
      exact grownBy_setCells _ _ (grownBy_setCells _ _ ⟨rfl, rfl, rfl, Nat.le_refl _, fun _ _ _ => rfl⟩)
    refine ⟨_, _, rfl, ⟨⟨hlen, .inr ⟨g, c, _, rfl, Nat.zero_le _, hB1, hroom, hb2, by rw [sets_size, sets_size, hb3], ?_⟩⟩, fun k hk => ?_⟩, hgb⟩
    · rw [hsum, hfm.2, show (i + 1) * 3 = i * 3 + 3 by omega, ins_flat]
      exact sets_two1 hpre rfl hpost (by omega) (fun j hj => by rw [← hfm.1, ← hb4, List.take_take, List.getElem?_take, if_pos (by omega)])
    · injection hk with hk
      subst hk
      exact .inl hFg
end Go.Proofs.YtibndaianhlcaaaDoor
namespace Go.Proofs.YtibndaianhlcaaaDoor
open Go.RowKit Go.Sort Go.Shelf
set_option linter.unusedVariables false
set_option linter.unusedSimpArgs false

section
variable {w w' : World} {F : Nat → Prop} {g : Nat} {s : Mach} {fA : Option Addr} {fn fc : Nat} {es : List EV} {uA : Option Addr} {un uc : Nat} {nA : Option Addr} {nn nc : Nat} {us : List SV} {pA : Option Addr} {pn pc : Nat}
/-- The cells of its files' row turn. -/
theorem MachV.turnFiles (h : MachV w F g s fA fn fc es uA un uc nA nn nc us pA pn pc) {G : Nat → Prop} (hg : w.grownBy w' (Value.slice fA fn fc).ownBlock) (hF : ∀ k, F k → G k) {es' : List EV}
    (hu : Row w' G 44 3 (.slice fA fn fc) fn (es'.flatMap evCells)) (hd : ∀ e ∈ es', e ∈ es ∨ Row w' G 5 1 (.slice e.A e.n e.c) e.n (e.data.map bv)) :
    MachV w' G g ⟨es'.map EV.ent, s.users, s.units, s.plan⟩ fA fn fc es' uA un uc nA nn nc us pA pn pc := by
  have ht := row_typed h.files
  have k1 : ∀ {e : TypeId}, e ≠ 44 → _ := fun {e} he => grown_other hg ht (e := e) he
  have hB : Blk w' g 36 _ := (k1 (by decide) g _ (0, 0) h.blk).trans h.blk
  refine ⟨hB, hF _ h.foot, hu, rfl, fun e he => ?_, (h.users.other (k1 (by decide))).wide hF, (h.units.other (k1 (by decide))).wide hF, h.srvs,
    fun u hu' => ((h.req u hu').other (k1 (by decide))).wide hF, fun u hu' => ((h.aft u hu').other (k1 (by decide))).wide hF, (h.plan.other hg.size (k1 (by decide))).wide hF, h.sep⟩
  rcases hd e he with h1 | h1
  · exact ((h.data e h1).other (k1 (by decide))).wide hF
  · exact h1
end
theorem set_ents (es : List EV) (i : Nat) (x : EV) : (es.set i x).map EV.ent = (es.map EV.ent).set i x.ent := List.map_set
theorem mem_set_or {es : List EV} {i : Nat} {x e : EV} (h : e ∈ es.set i x) : e ∈ es ∨ e = x := List.mem_or_eq_of_mem_set h
theorem ins_ents (es : List EV) (i : Nat) (x : EV) : (insA es i x).map EV.ent = insA (es.map EV.ent) i x.ent := by simp [insA, List.map_take, List.map_drop]
theorem mem_ins {α : Type} {l : List α} {i : Nat} {x e : α} (h : e ∈ insA l i x) : e ∈ l ∨ e = x := by
  unfold insA at h
  rcases List.mem_append.1 h with h | h
  · exact .inl (List.mem_of_mem_take h)
  · rcases List.mem_cons.1 h with h | h
    · exact .inr h
    · exact .inl (List.mem_of_mem_drop h)
theorem paths_ents (es : List EV) : es.map (·.path) = pathsE (es.map EV.ent) := by simp [pathsE, EV.ent, List.map_map, Function.comp_def]
/-- The file's data are copied. -/
structure FileCopy (w : World) (F : Nat → Prop) (w3 : World) (g : Nat) (fs : List Ent) (fA : Option Addr) (fn fc : Nat) (A : Option Addr) (n c : Nat) (path : Txt) (k : Int) (d : Txt) (g4 c4 : Nat) (w4 : World) : Prop where
  run : (Builtin.append_ #[42, 42] 42 #[.slice (some ⟨w3.heap.size, 0, none⟩) 0 0, .slice A n c]).run Tryd.prog (w3.alloc (.cells #[] 5)) = .ok (.slice (some ⟨g4, 0, none⟩) n c4) w4
  own : w4.ownsRow w.heap.size 5 1 (.slice (some ⟨g4, 0, none⟩) n c4) n (d.map bv)
  bel : Below w.heap.size w w4
  box : Blk w4 w.heap.size 44 #[.string ⟨path.toArray⟩, .int .i64 k, .slice A n c]
  b2 : w3.cell? ⟨w.heap.size, 2, none⟩ = some (.slice A n c)
  c2 : w4.cell? ⟨w.heap.size, 2, none⟩ = some (.slice A n c)
  cf2 : w4.frozen? ⟨w.heap.size, 2, none⟩ = false
  m4 : w4.cell? ⟨g, 0, none⟩ = some (.slice fA fn fc)
  lt3 : w.heap.size < w3.heap.size
  lt4 : w.heap.size < w4.heap.size
  ne : g4 ≠ w.heap.size
  bs : Calls Tryd.prog 41 #[.slice fA fn fc, .string ⟨path.toArray⟩, .func (.func 42) #[] #[]] (w4.setCell ⟨w.heap.size, 2, none⟩ (.slice (some ⟨g4, 0, none⟩) n c4)) fun e w' => e = .returned (.tuple #[.int .i64 (aheadN (pathsE fs) path : Int), .bool (decide ((pathsE fs)[aheadN (pathsE fs) path]? = some path))]) ∧ Below w4.heap.size (w4.setCell ⟨w.heap.size, 2, none⟩ (.slice (some ⟨g4, 0, none⟩) n c4)) w'
theorem file_copy {w : World} {F : Nat → Prop} {g : Nat} {s : Mach} {fA : Option Addr} {fn fc : Nat} {es : List EV} {uA : Option Addr} {un uc : Nat} {nA : Option Addr} {nn nc : Nat} {us : List SV} {pA : Option Addr} {pn pc : Nat} (h : MachV w F g s fA fn fc es uA un uc nA nn nc us pA pn pc)
    {B : Nat} {A : Option Addr} {n c : Nat} {path : Txt} {k : Int} {d : Txt} (hx : Slc w B 1 A n c (d.map bv)) (hB : B ≤ w.heap.size) {W2 w3 : World} (hG : Blk W2 w.heap.size 44 (evArr ⟨path, k, d, A, n, c⟩)) (hb2 : Below w.heap.size w W2) (hz2 : W2.heap.size = w.heap.size + 2) (hb : Below W2.heap.size W2 w3) (hn : n ≤ 1000000000) (hfn : fn ≤ 1000000) (hr : Rises (pathsE s.files)) :
    ∃ g4 c4 w4, FileCopy w F w3 g s.files fA fn fc A n c path k d g4 c4 w4 := by
  have hb3 : Below w.heap.size w w3 := hb2.trans (hb.mono hb2.size)
  have hs3 := hb.size
  obtain ⟨g4, c4, w4, S⟩ := bytes_copy (hx.below (hb3.mono hB)) (Nat.le_trans hB hb3.size) hn
  have hG3 := hG.below hb hG.lt
  have hG4 := hG3.below S.bel hG3.lt
  have hb4 : Below w.heap.size w w4 := hb3.trans (S.bel.mono hb3.size)
  have hs4 := S.bel.size
  have hb5 := hb4.setCell (p := ⟨w.heap.size, 2, none⟩) (Nat.le_refl _) (.slice (some ⟨g4, 0, none⟩) n c4)
  have hz5 : (w4.setCell ⟨w.heap.size, 2, none⟩ (.slice (some ⟨g4, 0, none⟩) n c4)).heap.size = w4.heap.size := by simp [World.setCell]
  have hbs := bsE_any (h.below hb5).entsAt (Nat.le_refl _) hfn (by rw [paths_ents, h.ents]; exact hr) path
  rw [paths_ents, h.ents, hz5] at hbs
  refine ⟨g4, c4, w4, S.run, ⟨S.own.1, S.own.2.imp id fun ⟨g', cap, cur, e, he, r⟩ => ⟨g', cap, cur, e, by have := hb3.size; omega, r⟩⟩, hb4, hG4, hG3.cell 2, hG4.cell 2, hG4.frozen 2, (h.below hb4).facts.1, by omega, by omega, by have := S.ge; omega, hbs⟩
/-- Behind the search. -/
structure FileMid (w : World) (F : Nat → Prop) (w6 : World) (g : Nat) (s : Mach) (fA : Option Addr) (fn fc : Nat) (es : List EV) (uA : Option Addr) (un uc : Nat) (nA : Option Addr) (nn nc : Nat) (us : List SV) (pA : Option Addr) (pn pc : Nat) (x : EV) : Prop where
  mach : MachV w6 F g s fA fn fc es uA un uc nA nn nc us pA pn pc
  box : Blk w6 w.heap.size 44 (evArr x)
  row : Row w6 (Fn F w w6) 5 1 (.slice x.A x.n x.c) x.n (x.data.map bv)
  bel : Below w.heap.size w w6
theorem file_mid {w : World} {F : Nat → Prop} {g : Nat} {s : Mach} {fA : Option Addr} {fn fc : Nat} {es : List EV} {uA : Option Addr} {un uc : Nat} {nA : Option Addr} {nn nc : Nat} {us : List SV} {pA : Option Addr} {pn pc : Nat} (h : MachV w F g s fA fn fc es uA un uc nA nn nc us pA pn pc)
    {A : Option Addr} {n c : Nat} {path : Txt} {k : Int} {d : Txt} {w3 w4 w6 : World} {g4 c4 : Nat} (S : FileCopy w F w3 g s.files fA fn fc A n c path k d g4 c4 w4) (hb : Below w4.heap.size (w4.setCell ⟨w.heap.size, 2, none⟩ (.slice (some ⟨g4, 0, none⟩) n c4)) w6) :
    FileMid w F w6 g s fA fn fc es uA un uc nA nn nc us pA pn pc ⟨path, k, d, some ⟨g4, 0, none⟩, n, c4⟩ := by
  have hb5 := S.bel.setCell (p := ⟨w.heap.size, 2, none⟩) (Nat.le_refl _) (.slice (some ⟨g4, 0, none⟩) n c4)
  have hz5 : (w4.setCell ⟨w.heap.size, 2, none⟩ (.slice (some ⟨g4, 0, none⟩) n c4)).heap.size = w4.heap.size := by simp [World.setCell]
  have hb6 : Below w.heap.size w w6 := hb5.trans (hb.mono S.bel.size)
  have hB5 := S.box.set_ 2 (.slice (some ⟨g4, 0, none⟩) n c4)
  have ho5 := own_put (p := ⟨w.heap.size, 2, none⟩) S.own (by simp only [Value.ownBlock]; intro e; injection e with e; exact S.ne e) (.slice (some ⟨g4, 0, none⟩) n c4)
  refine ⟨h.below hb6, hB5.below hb (by rw [← hz5]; exact hB5.lt), ?_, hb6⟩
  have ho6 := own_keep ho5 (fun k hk => hb.block k (by rw [← hz5]; exact (ho5.lt k hk).2))
  exact ⟨⟨ho6.1, ho6.2.imp id fun ⟨g', cap, cur, e, he, r⟩ => ⟨g', cap, cur, e, Nat.zero_le _, r⟩⟩, fun k hk => .inr (ho6.lt k hk)⟩
theorem file_put {w : World} {F : Nat → Prop} {w6 : World} {g : Nat} {s : Mach} {fA : Option Addr} {fn fc : Nat} {es : List EV} {uA : Option Addr} {un uc : Nat} {nA : Option Addr} {nn nc : Nat} {us : List SV} {pA : Option Addr} {pn pc : Nat} {x : EV} (M : FileMid w F w6 g s fA fn fc es uA un uc nA nn nc us pA pn pc x) {i : Nat} (hi : i < fn) :
    ∃ gf, fA = some ⟨gf, 0, none⟩ ∧ (∀ j, j < 3 → ∃ v, w6.cell? ⟨gf, i * 3 + j, none⟩ = some v) ∧ (∀ j, w6.frozen? ⟨gf, j, none⟩ = false) ∧ MachPost w F g (⟨s.files.set i x.ent, s.users, s.units, s.plan⟩, 0) (.returned (.int .i64 0)) (w6.setCells gf (i * 3) (evCells x)) := by
  obtain ⟨gf, cap, cur, e, hF, hlt, hB, h3, h4, h5, h6⟩ := M.mach.files.form (by omega)
  injection e with e1 _ e3
  subst e1 e3
  have hl := M.mach.flen.1
  have hms := sets_rec evCells 3 (fun o => evCells_length o) h5 hl h3 h6 hi x
  have hB' := Blk.setCells (evCells x) (i * 3) hB
  have hg := grownBy_setCells (g := gf) (evCells x) (i * 3) (World.grownBy.refl w6 _)
  have hsz := hg.size
  have hwid : ∀ k, Fn F w w6 k → Fn F w (w6.setCells gf (i * 3) (evCells x)) k := fun k hk => hk.imp id fun h => ⟨h.1, by omega⟩
  have hR : Row (w6.setCells gf (i * 3) (evCells x)) (Fn F w (w6.setCells gf (i * 3) (evCells x))) 44 3 (.slice (some ⟨gf, 0, none⟩) fn fc) fn ((es.set i x).flatMap evCells) := by
    refine ⟨⟨by rw [flatMap_len evCells 3 _ (fun o _ => evCells_length o), List.length_set, hl], .inr ⟨gf, fc, _, rfl, Nat.zero_le _, hB', h3, h4, by rw [sets_size, h5], hms⟩⟩, fun k hk => ?_⟩
    injection hk with hk
    subst hk
    exact .inl hF
  have hot := grown_other hg (row_typed M.mach.files) (e := 5) (by decide)
  have hv := M.mach.turnFiles hg (fn_wide F w _) hR (fun e he => by
    rcases mem_set_or he with h | h
    · exact .inl h
    · rw [h]; exact .inr ((M.row.other hot).wide hwid))
  refine ⟨gf, rfl, fun j hj => ?_, fun j => hB.frozen j, rfl, ?_, ((Step.of_below M.bel F).grown hg (fun k hk => by injection hk with hk; subst hk; exact .inl hF)).fn⟩
  · exact ⟨_, by rw [hB.cell, Array.getElem?_eq_getElem (by omega)]⟩
  · rw [set_ents, M.mach.ents] at hv
    exact ⟨_, _, _, _, _, _, _, _, _, _, _, _, _, _, hv⟩
theorem file_ins {w : World} {F : Nat → Prop} {w6 : World} {g : Nat} {s : Mach} {fA : Option Addr} {fn fc : Nat} {es : List EV} {uA : Option Addr} {un uc : Nat} {nA : Option Addr} {nn nc : Nat} {us : List SV} {pA : Option Addr} {pn pc : Nat} {x : EV} (M : FileMid w F w6 g s fA fn fc es uA un uc nA nn nc us pA pn pc x) {i : Nat} (hi : i ≤ fn) (hfn : fn ≤ 1000000) (hFl : ∀ k, F k → k < w.heap.size) :
    Calls Tryd.prog 44 #[.slice fA fn fc, .int .i64 (i : Int), .slice (some ⟨w6.heap.size, 0, none⟩) 1 1] ((w6.drew).alloc (.cells (evArr x) 44)) fun e w8 => ∃ A8 c8, e = .returned (.slice A8 (fn + 1) c8) ∧ (∃ v, w8.cell? ⟨g, 0, none⟩ = some v) ∧ w8.frozen? ⟨g, 0, none⟩ = false ∧ MachPost w F g (⟨insA s.files i x.ent, s.users, s.units, s.plan⟩, 0) (.returned (.int .i64 0)) (w8.setCell ⟨g, 0, none⟩ (.slice A8 (fn + 1) c8)) := by
  have hb7 : Below w.heap.size w ((w6.drew).alloc (.cells (evArr x) 44)) := (M.bel.drew).alloc M.bel.size _
  have hbx : Below w6.heap.size w6 ((w6.drew).alloc (.cells (evArr x) 44)) := ((Below.refl _ w6).drew).alloc (Nat.le_refl _) _
  have hm7 := M.mach.below hbx
  have hz7 : ((w6.drew).alloc (.cells (evArr x) 44)).heap.size = w6.heap.size + 1 := by simp
  have hw6 := M.bel.size
  refine (insE_any hm7.files hi hfn x (Blk.new w6.drew 44 (evArr x)) (fun h9 => by have := hFl _ h9; have h : w6.drew.heap.size = w6.heap.size := rfl; omega)).mono ?_
  rintro e w8 ⟨A8, c8, rfl, hR, hg⟩
  have hot := grown_other hg (row_typed hm7.files) (e := 5) (by decide)
  have hs8 := hg.size
  have hsz : (w8.setCell ⟨g, 0, none⟩ (.slice A8 (fn + 1) c8)).heap.size = w8.heap.size := by simp [World.setCell]
  have hwid : ∀ k, Fn F w w6 k → Fn F w w8 k := fun k hk => hk.imp id fun h => ⟨h.1, by omega⟩
  have hwid2 : ∀ k, Fn F ((w6.drew).alloc (.cells (evArr x) 44)) w8 k → Fn F w w8 k := fun k hk => hk.imp id fun h => ⟨by omega, h.2⟩
  have hrow7 := M.row.belo hbx
  have hv := hm7.setFiles hg (fn_wide F w w8) (hR.wide hwid2) (fun e he => by
    rcases mem_ins he with h | h
    · exact .inl h
    · rw [h]; exact .inr ((hrow7.other hot).wide hwid))
  obtain ⟨k1, k2⟩ := hm7.kept0 hg
  refine ⟨A8, c8, rfl, ⟨_, k1⟩, k2, rfl, ?_, ?_⟩
  · rw [ins_ents, hm7.ents] at hv
    exact ⟨_, _, _, _, _, _, _, _, _, _, _, _, _, _, by unfold Fn at hv ⊢; rw [hsz]; exact hv⟩
  · exact (((Step.of_below hb7 F).grown hg (fun k hk => .inl (hm7.files.foot k hk))).setCell (p := ⟨g, 0, none⟩) (.inl hm7.foot) _).fn
set_option maxRecDepth 100000 in
set_option maxHeartbeats 4000000 in
theorem file_any {w : World} {F : Nat → Prop} {g : Nat} {s : Mach} (h : MachAt w F g s) (hr : Rises (pathsE s.files)) (hn : s.files.length ≤ 1000000) (path : Txt) {B : Nat} (x : EV) (hx : Slc w B 1 x.A x.n x.c (x.data.map bv)) (hB : B ≤ w.heap.size) (hxn : x.n ≤ 1000000000) (hxp : x.path.length ≤ 1000000000) (hFl : ∀ k, F k → k < w.heap.size) :
    Calls Tryd.prog 24 #[.pointer (some ⟨g, 0, none⟩), .string ⟨path.toArray⟩, .agg (evArr x)] w (MachPost w F g (doFile s path x.ent)) := by
  obtain ⟨fA, fn, fc, es, uA, un, uc, nA, nn, nc, us, pA, pn, pc, h⟩ := h
  have hfl := h.flen
  obtain ⟨W1, hW1⟩ : ∃ W1, W1 = w.alloc (.cells (evArr x) 44) := ⟨_, rfl⟩
  obtain ⟨W2, hW2⟩ : ∃ W2, W2 = W1.alloc (.cells (evArr x) 44) := ⟨_, rfl⟩
  have hb1 : Below w.heap.size w W1 := by rw [hW1]; exact (Below.refl _ w).alloc (Nat.le_refl _) _
  have hz1 : W1.heap.size = w.heap.size + 1 := by rw [hW1]; simp
  have hb2 : Below w.heap.size w W2 := by rw [hW2]; exact hb1.alloc (by omega) _
  have hz2 : W2.heap.size = w.heap.size + 2 := by rw [hW2]; simp [hz1]
  have hG1 : Blk W1 w.heap.size 44 (evArr x) := by rw [hW1]; exact Blk.new _ _ _
  have hG2 : Blk W2 w.heap.size 44 (evArr x) := by rw [hW2]; exact hG1.alloc _
  have hX2 : Blk W2 (w.heap.size + 1) 44 (evArr x) := by rw [← hz1, hW2]; exact Blk.new _ _ _
  have hE2 : EntsAt W2 W2.heap.size (some ⟨w.heap.size + 1, 0, none⟩) 1 1 [x] := by
    refine ⟨(hX2.slc (sz := 3) (n := 1) (c := 1) (Nat.le_refl _) (Nat.le_refl _) (by decide)).more (by omega), rfl, fun e he => ?_⟩
    rw [List.mem_singleton.1 he]
    exact (hx.below (hb2.mono hB)).more (by omega)
  have hright := right_any hE2 (Nat.le_refl _) (fun e he => by rw [List.mem_singleton.1 he]; exact hxp)
  rw [show [x].map EV.ent = [x.ent] from rfl] at hright
  have H := Lib.hid h
  have HFL := Lib.hid hFl
  have HR := Lib.hid hr
  have HN := Lib.hid hfl
  have HB2 := Lib.hid hb2
  have HG2 := Lib.hid hG2
  have HX := Lib.hid hx
  have HBB := Lib.hid hB
  have hfn : fn ≤ 1000000 := by omega
  have fin : Hid (∀ k w', Below w.heap.size w w' → MachPost w F g (s, k) (.returned (.int .i64 k)) w') := fun k w' hb => ⟨rfl, ⟨fA, fn, fc, es, uA, un, uc, nA, nn, nc, us, pA, pn, pc, (H.out.below hb).wide (fn_wide _ _ _)⟩, (Step.of_below hb F).fn⟩
  have x0 := hG1.cell 0
  have x1 := hG1.cell 1
  have x2 := hG1.cell 2
  obtain ⟨xp, xk, xd, xA, xn, xc⟩ := x
  rw [hW2] at hright
  rw [hW1] at x0 x1 x2 hright
  have hWW := hW2
  rw [hW1] at hWW
  unfold evArr at hWW
  simp only at hWW
  have HWW := Lib.hid hWW
  have HZ1 := Lib.hid hz1
  have HZ2 := Lib.hid hz2
  unfold evArr at hright x0 x1 x2 ⊢
  unfold EV.ent at hright ⊢
  simp only [List.getElem?_toArray, List.getElem?_cons_zero, List.getElem?_cons_succ] at x0 x1 x2
  simp only at hright hxn hxp ⊢
  have tn : (ByteArray.mk path.toArray).toList = path := Go.ByteArray.toList_eq _
  have tm : (ByteArray.mk xp.toArray).toList = xp := Go.ByteArray.toList_eq _
  clear h hx hb1 hb2 hG1 hG2 hX2 hE2 hr hn hFl hB hz1 hz2 hW1 hW2 hfl hWW
  cases hnm : (path == xp) with
  | false =>
    have HX := Lib.hid (show doFile s path ⟨xp, xk, xd⟩ = (s, 70) by unfold doFile; rw [if_neg (fun h9 => by rw [h9.1] at hnm; simp at hnm)])
    have HB1 := Lib.hid (show Below w.heap.size w (w.alloc (.cells #[.string ⟨xp.toArray⟩, .int .i64 xk, .slice xA xn xc] 44)) from (Below.refl _ w).alloc (Nat.le_refl _) _)
    clear hright
    go_enter Tryd.func24, Tryd.ntmps24
    go_wp2_with (fail)
    go_ret
    rw [HX.out]
    exact fin.out 70 _ HB1.out
  | true =>
    have hnm' : path = xp := by simpa using hnm
    subst hnm'
    clear hnm
    cases hm : rightB [⟨path, xk, xd⟩] with
    | false =>
      rw [hm] at hright
      have HX := Lib.hid (show doFile s path ⟨path, xk, xd⟩ = (s, 70) by unfold doFile; rw [if_neg (fun h9 => by rw [hm] at h9; exact absurd h9.2 (by decide))])
      clear hm
      go_enter Tryd.func24, Tryd.ntmps24
      go_wp2_with (go_at_call 40; refine hright.mono ?_; clear hright; rintro e w3 ⟨rfl, hb3⟩)
      go_ret
      rw [HX.out]
      rw [← HWW.out] at hb3
      exact fin.out 70 _ (HB2.out.trans (hb3.mono HB2.out.size))
    | true =>
      rw [hm] at hright
      have HM := Lib.hid hm
      obtain ⟨i, hi⟩ : ∃ i, i = aheadN (pathsE s.files) path := ⟨_, rfl⟩
      have HI := Lib.hid hi
      have hin : i ≤ fn := by rw [hi]; have := aheadN_le (pathsE s.files) path; have h2 := HN.out.2; simp [pathsE] at this ⊢; omega
      have hgw : g < w.heap.size := H.out.blk.lt
      clear hm hi
      have hcp : Hid (∀ {w3 : World}, Below W2.heap.size W2 w3 → ∃ g4 c4 w4, FileCopy w F w3 g s.files fA fn fc xA xn xc path xk xd g4 c4 w4) := fun hb => file_copy H.out HX.out HBB.out HG2.out HB2.out HZ2.out hb hxn hfn HR.out
      cases hat : decide ((pathsE s.files)[i]? = some path) with
      | true =>
        have HAT := Lib.hid hat
        have hif : i < fn := by
          have h1 := (List.getElem?_eq_some_iff.1 (of_decide_eq_true hat)).1
          have h2 := HN.out.2
          simp [pathsE] at h1
          omega
        have HD := Lib.hid (show doFile s path ⟨path, xk, xd⟩ = (⟨s.files.set i ⟨path, xk, xd⟩, s.users, s.units, s.plan⟩, 0) by
          unfold doFile
          rw [if_pos ⟨rfl, HM.out⟩, if_pos (by rw [← HI.out]; exact of_decide_eq_true hat), ← HI.out])
        clear hat
        go_enter Tryd.func24, Tryd.ntmps24
        go_wp2_with (first
          | (go_at_call 40; refine hright.mono ?_; clear hright; rintro e w3 ⟨rfl, hb3⟩; rw [← HWW.out] at hb3; obtain ⟨g4, c4, w4, S⟩ := hcp.out hb3; have HS := Lib.hid S; have hrun := S.run; have b2 := S.b2; have c2 := S.c2; have cf2 := S.cf2; have m4 := S.m4; have hl3 := S.lt3; have hl4 := S.lt4; have hbs := S.bs; rw [← HI.out, HAT.out] at hbs; clear S hb3)
          | (at_builtin; refine wpList_append_run rfl _ _ _ rfl rfl rfl hrun ?_; clear hrun)
          | (go_at_call 41; refine hbs.mono ?_; clear hbs; rintro e w6 ⟨rfl, hb6⟩; have M := file_mid H.out HS.out hb6.drew; have m6 : w6.cell? ⟨g, 0, none⟩ = _ := M.mach.facts.1; have z0 : w6.cell? ⟨w.heap.size, 0, none⟩ = _ := M.box.cell 0; have z1 : w6.cell? ⟨w.heap.size, 1, none⟩ = _ := M.box.cell 1; have z2 : w6.cell? ⟨w.heap.size, 2, none⟩ = _ := M.box.cell 2; obtain ⟨gf, hfA, q1, q2, HP⟩ := file_put M hif; obtain ⟨v0, q10⟩ : ∃ v, w6.cell? ⟨gf, i * 3, none⟩ = some v := q1 0 (by decide); obtain ⟨v1, q11⟩ : ∃ v, w6.cell? ⟨gf, i * 3 + 1, none⟩ = some v := q1 1 (by decide); obtain ⟨v2, q12⟩ : ∃ v, w6.cell? ⟨gf, i * 3 + 2, none⟩ = some v := q1 2 (by decide); have q20 : w6.frozen? ⟨gf, i * 3, none⟩ = false := q2 (i * 3); have q21 : w6.frozen? ⟨gf, i * 3 + 1, none⟩ = false := q2 (i * 3 + 1); have q22 : w6.frozen? ⟨gf, i * 3 + 2, none⟩ = false := q2 (i * 3 + 2); have HP := Lib.hid HP; unfold evArr at z0 z1 z2; simp only [List.getElem?_toArray, List.getElem?_cons_zero, List.getElem?_cons_succ] at z0 z1 z2; subst hfA; clear M q1 q2 hb6))
        refine region_tail 7 (by kernel_rfl) (by kernel_rfl) ?_
        simp only [List.take_succ_cons, List.take_zero, List.drop_succ_cons, List.drop_zero]
        repeat still_step
        refine wpStill_nil ?_
        go_wp2
        go_ret
        rw [HD.out]
        exact HP.out
      | false =>
        have HAT := Lib.hid hat
        have HNAT := Lib.hid (of_decide_eq_false hat)
        clear hat
        by_cases h24 : fn = 24
        · have HD := Lib.hid (show doFile s path ⟨path, xk, xd⟩ = (s, 70) by
            unfold doFile
            rw [if_pos ⟨rfl, HM.out⟩, if_neg (by rw [← HI.out]; exact HNAT.out), if_pos (by have := HN.out.2; omega)])
          have h24b : ((fn : Int) == 24) = true := by rw [h24]; rfl
          clear h24
          go_enter Tryd.func24, Tryd.ntmps24
          go_wp2_with (first
            | (go_at_call 40; refine hright.mono ?_; clear hright; rintro e w3 ⟨rfl, hb3⟩; rw [← HWW.out] at hb3; obtain ⟨g4, c4, w4, S⟩ := hcp.out hb3; have HS := Lib.hid S; have hrun := S.run; have b2 := S.b2; have c2 := S.c2; have cf2 := S.cf2; have m4 := S.m4; have hl3 := S.lt3; have hl4 := S.lt4; have hbs := S.bs; rw [← HI.out, HAT.out] at hbs; clear S hb3)
            | (at_builtin; refine wpList_append_run rfl _ _ _ rfl rfl rfl hrun ?_; clear hrun)
            | (go_at_call 41; refine hbs.mono ?_; clear hbs; rintro e w6 ⟨rfl, hb6⟩; have M := file_mid H.out HS.out hb6; have m6 := M.mach.facts.1; have HBL := Lib.hid M.bel; clear M hb6))
          go_ret
          rw [HD.out]
          exact fin.out 70 _ HBL.out
        · have HD := Lib.hid (show doFile s path ⟨path, xk, xd⟩ = (⟨insA s.files i ⟨path, xk, xd⟩, s.users, s.units, s.plan⟩, 0) by
            unfold doFile
            rw [if_pos ⟨rfl, HM.out⟩, if_neg (by rw [← HI.out]; exact HNAT.out), if_neg (by have := HN.out.2; omega), ← HI.out])
          have h24b : ((fn : Int) == 24) = false := by rw [beq_eq_false_iff_ne]; omega
          clear h24
          go_enter Tryd.func24, Tryd.ntmps24
          go_wp2_with (first
            | (go_at_call 40; refine hright.mono ?_; clear hright; rintro e w3 ⟨rfl, hb3⟩; rw [← HWW.out] at hb3; obtain ⟨g4, c4, w4, S⟩ := hcp.out hb3; have HS := Lib.hid S; have hrun := S.run; have b2 := S.b2; have c2 := S.c2; have cf2 := S.cf2; have m4 := S.m4; have hl3 := S.lt3; have hl4 := S.lt4; have hbs := S.bs; rw [← HI.out, HAT.out] at hbs; clear S hb3)
            | (at_builtin; refine wpList_append_run rfl _ _ _ rfl rfl rfl hrun ?_; clear hrun)
            | (go_at_call 41; refine hbs.mono ?_; clear hbs; rintro e w6 ⟨rfl, hb6⟩; have M := file_mid H.out HS.out hb6; have m6 := M.mach.facts.1; have z0 := M.box.cell 0; have z1 := M.box.cell 1; have z2 := M.box.cell 2; have HMM := Lib.hid M; have hi9 := file_ins M hin hfn HFL.out; have l6 := M.box.lt; have g6 := M.mach.blk.lt; unfold evArr at z0 z1 z2 hi9; simp only [List.getElem?_toArray, List.getElem?_cons_zero, List.getElem?_cons_succ] at z0 z1 z2; clear M hb6))
          go_region_law (go_simp; go_at_call 44; refine hi9.mono ?_; clear hi9; rintro e w8 ⟨A8, c8, rfl, ⟨v8, m8⟩, f8, HP⟩; have HP := Lib.hid HP)
          all_goals go_wp2_with (fail)
          all_goals go_ret
          all_goals rw [HD.out]
          all_goals exact HP.out
end Go.Proofs.YtibndaianhlcaaaDoor
