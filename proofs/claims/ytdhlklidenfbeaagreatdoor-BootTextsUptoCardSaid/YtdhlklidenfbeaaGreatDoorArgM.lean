/- A menu that came in, opened. -/
import Derived.Test.YtdhlklidenfbeaaGreatDoorBootM
import Derived.Test.YtdhlklidenfbeaaGreatDoorBulk
import Derived.Test.YtdhlklidenfbeaaGreatDoorRows
import Derived.Test.YtdhlklidenfbeaaGreatDoorArgs
import Derived.WideShapes
namespace Go.Proofs.YtdhlklidenfbeaaGreatDoor
open Go.RowKit Go.ChangeShapes Go.WideShapes
open Go.ChangeMaps (open_string)
set_option linter.unusedVariables false
set_option linter.unusedSimpArgs false


theorem cells_int : Tryz.prog.cellsOf 3 = 1 := by kernel_rfl
theorem cells_gens : Tryz.prog.cellsOf 22 = 1 := by kernel_rfl
theorem cells_menu : Tryz.prog.cellsOf 24 = 5 := by kernel_rfl
set_option maxRecDepth 100000 in
/-- A list of generations, opened. -/
theorem open_gens {H : Type} {enc : TypeId × Value → H} {W : World} {fuel : Nat} {v : Value} {y : DataW H × List MemPlace}
    (k : DataW.trod enc Tryz.prog W 0 (fun _ => true) true fuel 22 [v] = some y) (hbk : Rows.uptoBulk y.1 ≤ 1048576) :
    ∃ A n c, ∃ l : List Gen, v = .slice A n c ∧ GensAt W W.heap.size A n c l ∧ (∀ g ∈ l, g.path.length ≤ 1048576) ∧ n ≤ 1048576 := by
  rcases open_slice_fields Tryz.underlying22 Tryz.underlying61 (by kernel_rfl) (by kernel_rfl) k with ⟨hcs, hx⟩ | ⟨x, len, cap, m, D, Pl, hcs, _, hl, hm, hmm, hx, hel⟩
  · injection hcs with hcs _
    exact ⟨none, 0, 0, [], hcs, ⟨⟨rfl, Nat.le_refl _, Nat.zero_le _, fun h => absurd h (by decide)⟩, rfl⟩, (fun _ h => by cases h), Nat.zero_le _⟩
  · injection hcs with hcs _
    subst hcs
    simp only [if_true] at hmm
    subst hmm
    simp only [List.size_toArray, List.length_cons, List.length_nil] at hel
    have hb1 : Rows.uptoBulkAll ((List.range len).map D) ≤ 1048576 := by
      rw [hx] at hbk
      have := Bulk.slice_elems ((List.range len).map D) ((List.range (m - len)).map fun j => D (len + j))
      simp only at hbk
      omega
    have hlen : len ≤ 1048576 := by
      have := Bulk.length_le ((List.range len).map D)
      simp at this
      omega
    have key : ∀ i, ∃ o : Gen, i < len → o.path.length ≤ 1048576 ∧ ∀ j u, (genCells o)[j]? = some u → W.cell? (x.add (i * 2 + j)) = some u := by
      intro i
      by_cases hi : i < len
      · obtain ⟨ys, n, hD, _, hyl, hfs⟩ := hel i (by omega)
        obtain ⟨v0, y0, c0, e0, t0⟩ := hfs 0 _ rfl
        obtain ⟨v1, y1, c1, e1, t1⟩ := hfs 1 _ rfl
        obtain ⟨x0, h0, _, w0⟩ := DataW.trod_int Tryz.underlying3 t0
        obtain ⟨s, h1, hy1, _⟩ := DataW.trod_string Tryz.underlying9 t1
        simp only [List.cons.injEq, and_true] at h0 h1
        subst h0 h1
        refine ⟨⟨x0, s.data.toList⟩, fun _ => ⟨?_, fun j u hu => ?_⟩⟩
        · have hm1 : y1.1 ∈ ys.map (·.1) := List.mem_map.2 ⟨y1, List.mem_of_getElem? e1, rfl⟩
          have hm2 : D i ∈ (List.range len).map D := List.mem_map.2 ⟨i, List.mem_range.2 hi, rfl⟩
          have q1 := Bulk.part_le hm1
          have q2 := Bulk.part_le hm2
          rw [hD, ← Bulk.agg] at q2
          rw [hy1, Bulk.string_eq] at q1
          show s.data.toList.length ≤ _
          omega
        · have hj : j < 2 := by
            rcases Nat.lt_or_ge j 2 with h | h
            · exact h
            · rw [List.getElem?_eq_none (by rw [genCells_length]; exact h)] at hu; cases hu
          have : j = 0 ∨ j = 1 := by omega
          rcases this with rfl | rfl
          · injection hu with hu; subst hu; assumption
          · injection hu with hu; subst hu; simpa using c1
      · exact ⟨⟨0, []⟩, fun h => absurd h hi⟩
    obtain ⟨f, hf⟩ := Classical.axiomOfChoice key
    refine ⟨some x, len, _, (List.range len).map f, rfl, ⟨?_, by simp⟩, ?_, hlen⟩
    · rcases Nat.eq_zero_or_pos len with h0 | h0
      · subst h0
        exact ⟨by simp, hl, hm, fun h => absurd h (by decide)⟩
      · have h1 := (hf 0 h0).2 0 _ rfl
        have hs : x.spot = none := by simpa [Addr.add] using World.cell?_spot h1
        have hblk : x.block < W.heap.size := by have := World.block_lt_of_cell? _ _ h1; simpa [block_add] using this
        obtain ⟨b, off, sp⟩ := x
        simp only at hs hblk
        subst hs
        refine slc_of_elems genCells _ (fun o _ => genCells_length o) (by simp) hl hm hblk (fun i hi j u hu => ?_)
        have hi' : i < len := by simpa using hi
        have := (hf i hi').2 j u (by simpa using hu)
        rwa [addr_of_add] at this
    · intro o ho
      obtain ⟨i, hi, rfl⟩ := List.mem_map.1 ho
      exact (hf i (List.mem_range.1 hi)).1

set_option maxRecDepth 100000 in
/-- A menu, opened. -/
theorem open_menu {H : Type} {enc : TypeId × Value → H} {W : World} {base : Nat} {v : Value} {d : DataW H} {p : List MemPlace}
    (o : Value.okWide Tryz.prog W .any base 24 v) (k : DataW.Trod enc Tryz.prog W 0 (fun _ => true) true 24 v d p) (hbk : Rows.uptoBulk d ≤ 1048576) :
    ∃ (m : Menu) (A : Option Addr) (n c : Nat), v = menuV m A n c ∧ GensAt W W.heap.size A n c m.gens ∧ (∀ g ∈ m.gens, g.path.length ≤ 1048576) ∧ n ≤ 1048576 := by
  obtain ⟨cs, rfl, hsz⟩ := okWide_struct Tryz.underlying24 o
  rw [cells_menu] at hsz
  obtain ⟨fuel, hf⟩ := k
  obtain ⟨l⟩ := cs
  obtain ⟨a0, a1, a2, a3, a4, rfl⟩ : ∃ a0 a1 a2 a3 a4, l = [a0, a1, a2, a3, a4] := by
    match l, hsz with
    | [a0, a1, a2, a3, a4], _ => exact ⟨a0, a1, a2, a3, a4, rfl⟩
  obtain ⟨xs, n, _, hx, _, hxl, hfl⟩ := DataW.trod_struct Tryz.underlying24 hf
  have f0 : DataW.trod enc Tryz.prog W 0 (fun _ => true) true n 3 (([a0, a1, a2, a3, a4].drop 0).take (Tryz.prog.cellsOf 3)) = xs[0]? := hfl 0 _ rfl
  have f1 : DataW.trod enc Tryz.prog W 0 (fun _ => true) true n 3 (([a0, a1, a2, a3, a4].drop 1).take (Tryz.prog.cellsOf 3)) = xs[1]? := hfl 1 _ rfl
  have f2 : DataW.trod enc Tryz.prog W 0 (fun _ => true) true n 3 (([a0, a1, a2, a3, a4].drop 2).take (Tryz.prog.cellsOf 3)) = xs[2]? := hfl 2 _ rfl
  have f3 : DataW.trod enc Tryz.prog W 0 (fun _ => true) true n 3 (([a0, a1, a2, a3, a4].drop 3).take (Tryz.prog.cellsOf 3)) = xs[3]? := hfl 3 _ rfl
  have f4 : DataW.trod enc Tryz.prog W 0 (fun _ => true) true n 22 (([a0, a1, a2, a3, a4].drop 4).take (Tryz.prog.cellsOf 22)) = xs[4]? := hfl 4 _ rfl
  rw [cells_int] at f0 f1 f2 f3
  rw [cells_gens] at f4
  have hxl5 : xs.length = 5 := hxl
  obtain ⟨y0, y1, y2, y3, y4, rfl⟩ : ∃ y0 y1 y2 y3 y4, xs = [y0, y1, y2, y3, y4] := by
    match xs, hxl5 with
    | [y0, y1, y2, y3, y4], _ => exact ⟨y0, y1, y2, y3, y4, rfl⟩
  have g0 : DataW.trod enc Tryz.prog W 0 (fun _ => true) true n 3 [a0] = some y0 := f0
  have g1 : DataW.trod enc Tryz.prog W 0 (fun _ => true) true n 3 [a1] = some y1 := f1
  have g2 : DataW.trod enc Tryz.prog W 0 (fun _ => true) true n 3 [a2] = some y2 := f2
  have g3 : DataW.trod enc Tryz.prog W 0 (fun _ => true) true n 3 [a3] = some y3 := f3
  have g4 : DataW.trod enc Tryz.prog W 0 (fun _ => true) true n 22 [a4] = some y4 := f4
  obtain ⟨x0, h0, _, _⟩ := DataW.trod_int Tryz.underlying3 g0
  obtain ⟨x1, h1, _, _⟩ := DataW.trod_int Tryz.underlying3 g1
  obtain ⟨x2, h2, _, _⟩ := DataW.trod_int Tryz.underlying3 g2
  obtain ⟨x3, h3, _, _⟩ := DataW.trod_int Tryz.underlying3 g3
  have hb4 : Rows.uptoBulk y4.1 ≤ 1048576 := by
    have q1 := Bulk.part_le (d := y4.1) (l := [y0, y1, y2, y3, y4].map (·.1)) (by simp)
    have q2 : d = .agg ([y0, y1, y2, y3, y4].map (·.1)) := (Prod.mk.inj hx).1
    rw [q2, ← Bulk.agg] at hbk
    omega
  obtain ⟨A, n4, c4, l, rfl, hG, hpl, hn⟩ := open_gens g4 hb4
  injection h0 with h0 _
  injection h1 with h1 _
  injection h2 with h2 _
  injection h3 with h3 _
  subst h0 h1 h2 h3
  exact ⟨⟨x0, x1, x2, x3, l⟩, A, n4, c4, rfl, hG, hpl, hn⟩

end Go.Proofs.YtdhlklidenfbeaaGreatDoor
