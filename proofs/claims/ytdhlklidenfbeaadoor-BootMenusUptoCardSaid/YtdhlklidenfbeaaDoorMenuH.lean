/- The walk of copied (layer 22). -/
import Derived.Test.YtdhlklidenfbeaaDoorMenuG
namespace Go.Proofs.YtdhlklidenfbeaaDoor
open Go.RowKit
set_option linter.unusedVariables false
set_option linter.unusedSimpArgs false

/-- A menu in memory of its own, with one generation more behind. -/
structure Copied (w w' : World) (m : Menu) (A : Option Addr) (n c : Nat) : Prop where
  gens : GensAt w' w'.heap.size A n c m.gens
  room : n + 1 ≤ c
  more : ∃ g, A = some ⟨g, 0, none⟩ ∧ w'.cell? ⟨g, n * 2, none⟩ = some (.int .i64 (-7))
  bel : Below w.heap.size w w'
theorem Copied.of {w w' : World} {m : Menu} {A : Option Addr} {n c : Nat} (h : w'.ownsRow w.heap.size 69 2 (.slice A (n + 1) c) (n + 1) ((m.gens ++ [(⟨-7, []⟩ : Gen)]).flatMap genCells)) (hl : m.gens.length = n) (hb : Below w.heap.size w w') : Copied w w' m A n c := by
  rcases h.2 with ⟨_, h0⟩ | ⟨g, cap, cur, e1, e2, e3, e4, e5, e6, e7⟩
  · omega
  injection e1 with e1 e8 e9
  subst e1 e9
  have hB : Blk w' g 69 cur := e3
  have hfl : (m.gens.flatMap genCells).length = n * 2 := by rw [flatMap_len genCells 2 _ (fun o _ => genCells_length o), hl]
  have ht : cur.toList.take (n * 2) = m.gens.flatMap genCells := by
    have h1 : (cur.toList.take ((n + 1) * 2)).take (n * 2) = cur.toList.take (n * 2) := by rw [List.take_take]; congr 1; omega
    rw [← h1, e7, List.flatMap_append, List.take_left' hfl]
  refine ⟨⟨?_, hl⟩, e4, ⟨g, rfl, ?_⟩, hb⟩
  · have h1 := hB.slc (sz := 2) (n := n) (c := c) (by rw [e6]; exact Nat.mul_le_mul_right _ (by omega)) (by omega) e5
    rw [ht] at h1
    exact h1.more hB.lt
  · rw [hB.cell]
    have h1 : (cur.toList.take ((n + 1) * 2))[n * 2]? = cur.toList[n * 2]? := by rw [List.getElem?_take, if_pos (by omega)]
    rw [← Array.getElem?_toList, ← h1, e7, List.flatMap_append, List.getElem?_append_right (by omega), hfl, Nat.sub_self]
    rfl

section
attribute [local go_sem ↓] load_menu_mark store_menu_mark
set_option maxRecDepth 100000 in
set_option maxHeartbeats 2000000 in
theorem copied_any {w : World} {B : Nat} {A : Option Addr} {n c : Nat} {m : Menu} (h : GensAt w B A n c m.gens) (hB : B ≤ w.heap.size) (hn : n ≤ 1000000000) :
    Calls Tryd.prog 30 #[menuV m A n c] w fun e w' => ∃ A' c', e = .returned (menuV m A' n c') ∧ Copied w w' m A' n c' := by
  obtain ⟨W2, hW2⟩ : ∃ W2, W2 = (w.alloc (.cells #[.int .i64 m.last, .int .i64 m.def_, .int .i64 m.next, .int .i64 m.trial, .slice A n c] 63)).alloc (.cells #[.int .i64 0, .int .i64 0, .int .i64 0, .int .i64 0, .slice none 0 0] 63) := ⟨_, rfl⟩
  obtain ⟨hb2, hz2, hM2, hR2⟩ := pre2 m A n c w W2 hW2
  have e0 : menuV m A n c = .agg #[.int .i64 m.last, .int .i64 m.def_, .int .i64 m.next, .int .i64 m.trial, .slice A n c] := rfl
  have hlen := h.len
  have ho3 : (W2.alloc (.cells #[] 69)).ownsRow w.heap.size 69 2 (.slice (some ⟨W2.heap.size, 0, none⟩) 0 0) 0 (([] : List Gen).flatMap genCells) := by
    have := World.ownsRow_made (base := w.heap.size) (e := 69) (size := 2) W2 #[] 0 (by omega) (by decide) rfl
    simpa using this
  have hb3 := hb2.alloc hb2.size (.cells #[] 69)
  obtain ⟨A4, c4, w4, hrun4, ho4, hg4, hv4⟩ := append_gens (W2.alloc (.cells #[] 69)) w.heap.size _ 0 [] ho3 (h.below (hb3.mono hB)) (by omega) (by simp; omega)
  rw [Nat.zero_add] at hrun4 ho4 hv4
  rw [List.nil_append] at ho4
  have hne4 : ∀ q, (Value.slice A4 n c4).ownBlock = some q → w.heap.size + 1 + 1 ≤ q := fun q hq => by
    rcases hv4 with hv4 | hv4
    · rw [hv4] at hq; simp only [Value.ownBlock, Option.some.injEq] at hq; omega
    · rw [hv4] at hq; simp only [Option.some.injEq, World.size_alloc] at hq; omega
  have hb4 := hb3.grown hg4 hb3.size (fun q hq => (ho3.lt q hq).1)
  have hM4 : MenuBlk w4 w.heap.size m A n c := ((hM2.alloc (.cells #[] 69)).grown hg4 (by simp [Value.ownBlock]; omega))
  have hR4 := (hR2.alloc (.cells #[] 69)).grown hg4 (by simp [Value.ownBlock]; omega)
  have hk : GensAt (w4.alloc (.cells #[.int .i64 (-7), .string ⟨#[]⟩] 69)) (w4.heap.size + 1) (some ⟨w4.heap.size, 0, none⟩) 1 1 [⟨-7, []⟩] :=
    ⟨slc_new w4 69 (0, 0) #[.int .i64 (-7), .string ⟨#[]⟩] (sz := 2) (n := 1) (c := 1) rfl (Nat.le_refl _) (by decide), rfl⟩
  obtain ⟨A5, c5, w5, hrun5, ho5, hg5, hv5⟩ := append_gens (w4.alloc (.cells #[.int .i64 (-7), .string ⟨#[]⟩] 69)) w.heap.size _ n m.gens (ho4.alloc _) hk (by omega) (by have := hb4.size; simp; omega)
  have hz4 := hM4.lt
  have hz4' := hR4.lt
  have hne5 : ∀ q, (Value.slice A5 (n + 1) c5).ownBlock = some q → w.heap.size + 1 + 1 ≤ q := fun q hq => by
    rcases hv5 with hv5 | hv5
    · rw [hv5] at hq; exact hne4 q hq
    · rw [hv5] at hq; simp only [Option.some.injEq, World.size_alloc] at hq; omega
  have hb5 := (hb4.alloc hb4.size (.cells #[.int .i64 (-7), .string ⟨#[]⟩] 69)).grown hg5 (by have := hb4.size; simp; omega) (fun q hq => (ho4.lt q hq).1)
  have hM5 : MenuBlk w5 w.heap.size m A n c := (Blk.alloc hM4 (.cells #[.int .i64 (-7), .string ⟨#[]⟩] 69)).grown hg5 (fun e => by have := hne4 _ e.symm; omega)
  have hR5 := (hR4.alloc (.cells #[.int .i64 (-7), .string ⟨#[]⟩] 69)).grown hg5 (fun e => by have := hne4 _ e.symm; omega)
  obtain ⟨m0, m1, m2, m3, m4, mf⟩ := hM5.facts
  have g4 : (W2.alloc (.cells #[] 69)).cell? ⟨w.heap.size, 4, none⟩ = some (.slice A n c) := (hM2.alloc (.cells #[] 69)).cell 4
  have hcap : n + 1 ≤ c5 := by
    have := (own_slc_of ho5).le
    exact this
  have hM6 := Blk.set_ (show Blk w5 w.heap.size 63 #[.int .i64 m.last, .int .i64 m.def_, .int .i64 m.next, .int .i64 m.trial, .slice A n c] from hM5) 4 (.slice A5 n c5)
  simp only [List.setIfInBounds_toArray, List.set_cons_zero, List.set_cons_succ] at hM6
  have hl6 := load_menu hM6
  have hR6 := hR5.far (p := ⟨w.heap.size, 4, none⟩) (by simp) (.slice A5 n c5)
  have hst6 := store_menu hR6 rfl m.last m.def_ m.next m.trial A5 n c5
  have HO := Lib.hid (show ((w5.setCell ⟨w.heap.size, 4, none⟩ (.slice A5 n c5)).setRow (w.heap.size + 1) #[.int .i64 m.last, .int .i64 m.def_, .int .i64 m.next, .int .i64 m.trial, .slice A5 n c5]).ownsRow w.heap.size 69 2 (.slice A5 (n + 1) c5) (n + 1) ((m.gens ++ [(⟨-7, []⟩ : Gen)]).flatMap genCells) from
    own_row (own_set ho5 (fun e => by have := hne5 _ e; simp at this; omega) _) (fun e => by have := hne5 _ e; omega) _)
  have HB := Lib.hid (below_row (hb5.setCell (p := ⟨w.heap.size, 4, none⟩) (Nat.le_refl _) (.slice A5 n c5)) (show w.heap.size ≤ w.heap.size + 1 by omega) #[.int .i64 m.last, .int .i64 m.def_, .int .i64 m.next, .int .i64 m.trial, .slice A5 n c5])
  have HR6 := Lib.hid hR6
  have HL := Lib.hid hlen
  have hn62 : n ≤ 9223372036854775807 := by omega
  have hc62 : c5 ≤ 9223372036854775807 := by have := (own_slc_of ho5).cmax; unfold maxLen at this; omega
  rw [hW2] at hrun4 g4
  rw [World.size_alloc, World.size_alloc] at hrun4
  clear hb2 hz2 hM2 hR2 ho3 hb3 ho4 hg4 hv4 hne4 hb4 hM4 hR4 hk ho5 hg5 hv5 hne5 hb5 hM5 hR5 hM6 hR6 hlen h hW2
  rw [e0]
  go_enter Tryd.func30, Tryd.ntmps30
  go_wp2_with (first
    | (at_builtin; refine wpList_append_run rfl _ _ _ rfl rfl rfl hrun4 ?_; clear hrun4)
    | (at_builtin; refine wpList_append_run rfl _ _ _ rfl rfl rfl hrun5 ?_; clear hrun5))
  refine bodyPost_ret (results_agg (t := 2) (g := w.heap.size + 1) rfl rfl Tryd.isAgg63 Tryd.sizeOf63 rfl (HR6.out.row _)) rfl ⟨A5, c5, rfl, Copied.of HO.out HL.out HB.out⟩
end
end Go.Proofs.YtdhlklidenfbeaaDoor
