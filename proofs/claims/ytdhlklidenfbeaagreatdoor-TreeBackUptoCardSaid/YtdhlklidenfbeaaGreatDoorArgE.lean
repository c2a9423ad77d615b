/- Arguments that are lists of entries, opened, where they are of bulk at most 1048576. -/
import Derived.Test.YtdhlklidenfbeaaGreatDoorTreeE
import Derived.Test.YtdhlklidenfbeaaGreatDoorBulk
import Derived.Test.YtdhlklidenfbeaaGreatDoorArgs
namespace Go.Proofs.YtdhlklidenfbeaaGreatDoor
open Go.RowKit Go.ChangeShapes Go.WideShapes
set_option linter.unusedVariables false
set_option linter.unusedSimpArgs false

theorem bulk_bytes {H : Type} {n : Nat} {d : DataW H} (h : n = 0 ∨ ∃ elems spare, d = .slice elems spare ∧ n ≤ elems.length + spare.length) (hb : Rows.uptoBulk d ≤ 1048576) : n ≤ 1048576 := by
  rcases h with rfl | ⟨elems, spare, rfl, h⟩
  · omega
  · have := Bulk.slice_spare elems spare
    omega
theorem bulk_sum {H α : Type} (g : α → Nat) (D : α → DataW H) : ∀ l : List α, (∀ x ∈ l, g x ≤ Rows.uptoBulk (D x)) → (l.map g).sum ≤ Rows.uptoBulkAll (l.map D)
  | [], _ => by simp
  | x :: l, h => by
    have h1 := h x List.mem_cons_self
    have h2 := bulk_sum g D l (fun y hy => h y (List.mem_cons_of_mem _ hy))
    simp only [List.map_cons, List.sum_cons, Rows.uptoBulkAll]
    omega
set_option maxRecDepth 100000 in
/-- A list of entries, opened. -/
theorem open_ents_cells {H : Type} {enc : TypeId × Value → H} {W : World} {fuel : Nat} {cs : List Value} {y : DataW H × List MemPlace}
    (k : DataW.trod enc Tryz.prog W 0 (fun _ => true) true fuel 35 cs = some y) (hbk : Rows.uptoBulk y.1 ≤ 1048576) :
    ∃ A n c, ∃ l : List EV, cs = [.slice A n c] ∧ EntsAt W W.heap.size A n c l ∧ (∀ e ∈ l, e.path.length ≤ 1048576 ∧ e.data.length ≤ 1048576) ∧ n ≤ 1048576 ∧ (l.map (·.data.length)).sum ≤ 1048576 := by
  rcases open_slice_fields Tryz.underlying35 Tryz.underlying73 (by kernel_rfl) (by kernel_rfl) k with ⟨hcs, hx⟩ | ⟨x, len, cap, m, D, Pl, hcs, _, hl, hm, hmm, hx, hel⟩
  · exact ⟨none, 0, 0, [], hcs, ⟨⟨rfl, Nat.le_refl _, Nat.zero_le _, fun h => absurd h (by decide)⟩, rfl, fun _ h => by cases h⟩, (fun _ h => by cases h), Nat.zero_le _, Nat.zero_le _⟩
  · subst hcs
    simp only [if_true] at hmm
    subst hmm
    simp only [List.size_toArray, List.length_cons, List.length_nil] at hel
    have hb1 : Rows.uptoBulkAll ((List.range len).map D) ≤ 1048576 := by
      rw [hx] at hbk
      have := Bulk.slice_elems ((List.range len).map D) ((List.range (m - len)).map fun j => D (len + j))
      simp only at hbk
      omega
    have hlen : len ≤ 1048576 := by
      have := Bulk.length_le ((List.range len).map D)
      simp at this
      omega
    have key : ∀ i, ∃ e : EV, i < len → (e.path.length ≤ 1048576 ∧ e.data.length ≤ 1048576 ∧ e.data.length ≤ Rows.uptoBulk (D i)) ∧ (∀ j u, (evCells e)[j]? = some u → W.cell? (x.add (i * 3 + j)) = some u) ∧ Slc W W.heap.size 1 e.A e.n e.c (e.data.map bv) := by
      intro i
      by_cases hi : i < len
      · obtain ⟨ys, n, hD, _, hyl, hfs⟩ := hel i (by omega)
        obtain ⟨v0, y0, c0, e0, t0⟩ := hfs 0 _ rfl
        obtain ⟨v1, y1, c1, e1, t1⟩ := hfs 1 _ rfl
        obtain ⟨v2, y2, c2, e2, t2⟩ := hfs 2 _ rfl
        obtain ⟨s, h0, hy0, _⟩ := DataW.trod_string Tryz.underlying9 t0
        obtain ⟨x1, h1, _, w1⟩ := DataW.trod_int Tryz.underlying3 t1
        obtain ⟨A, q, c, l, rfl, hS, hq⟩ := open_bytes_cells ⟨n, t2⟩
        simp only [List.cons.injEq, and_true] at h0 h1
        subst h0 h1
        have hm2 : D i ∈ (List.range len).map D := List.mem_map.2 ⟨i, List.mem_range.2 hi, rfl⟩
        have q2 := Bulk.part_le hm2
        rw [hD, ← Bulk.agg] at q2
        have p0 := Bulk.part_le (List.mem_map.2 ⟨y0, List.mem_of_getElem? e0, rfl⟩ : y0.1 ∈ ys.map (·.1))
        have p2 := Bulk.part_le (List.mem_map.2 ⟨y2, List.mem_of_getElem? e2, rfl⟩ : y2.1 ∈ ys.map (·.1))
        have hql : l.length = q := by have := hS.len; simpa using this
        refine ⟨⟨s.data.toList, x1, l, A, q, c⟩, fun _ => ⟨⟨?_, ?_, ?_⟩, fun j u hu => ?_, hS⟩⟩
        · rw [hy0, Bulk.string_eq] at p0
          show s.data.toList.length ≤ _
          omega
        · have := bulk_bytes hq (by omega)
          show l.length ≤ _
          omega
        · show l.length ≤ Rows.uptoBulk (D i)
          have h7 : l.length ≤ Rows.uptoBulk y2.1 := by
            rcases hq with h | ⟨elems, spare, h, h'⟩
            · omega
            · rw [h]
              have := Bulk.slice_spare elems spare
              omega
          rw [hD, ← Bulk.agg]
          omega
        · have hj : j < 3 := by
            rcases Nat.lt_or_ge j 3 with h | h
            · exact h
            · rw [List.getElem?_eq_none (by rw [evCells_length]; exact h)] at hu; cases hu
          have : j = 0 ∨ j = 1 ∨ j = 2 := by omega
          rcases this with rfl | rfl | rfl
          · injection hu with hu; subst hu; simpa using c0
          · injection hu with hu; subst hu; simpa using c1
          · injection hu with hu; subst hu; simpa using c2
      · exact ⟨⟨[], 0, [], none, 0, 0⟩, fun h => absurd h hi⟩
    obtain ⟨f, hf⟩ := Classical.axiomOfChoice key
    refine ⟨some x, len, _, (List.range len).map f, rfl, ⟨?_, by simp, fun e he => ?_⟩, fun e he => ?_, hlen, ?_⟩
    · rcases Nat.eq_zero_or_pos len with h0 | h0
      · subst h0
        exact ⟨by simp, hl, hm, fun h => absurd h (by decide)⟩
      · have h1 := (hf 0 h0).2.1 0 _ rfl
        have hs : x.spot = none := by simpa [Addr.add] using World.cell?_spot h1
        have hblk : x.block < W.heap.size := by have := World.block_lt_of_cell? _ _ h1; simpa [block_add] using this
        obtain ⟨b, off, sp⟩ := x
        simp only at hs hblk
        subst hs
        refine slc_of_elems evCells _ (fun o _ => evCells_length o) (by simp) hl hm hblk (fun i hi j u hu => ?_)
        have hi' : i < len := by simpa using hi
        have := (hf i hi').2.1 j u (by simpa using hu)
        rwa [addr_of_add] at this
    · obtain ⟨i, hi, rfl⟩ := List.mem_map.1 he
      exact (hf i (List.mem_range.1 hi)).2.2
    · obtain ⟨i, hi, rfl⟩ := List.mem_map.1 he
      exact ⟨(hf i (List.mem_range.1 hi)).1.1, (hf i (List.mem_range.1 hi)).1.2.1⟩
    · have h9 := bulk_sum (fun i => (f i).data.length) D (List.range len) (fun i hi => (hf i (List.mem_range.1 hi)).1.2.2)
      rw [List.map_map]
      exact Nat.le_trans h9 hb1
set_option maxRecDepth 100000 in
theorem open_ents {H : Type} {enc : TypeId × Value → H} {W : World} {base : Nat} {v : Value} {d : DataW H} {p : List MemPlace}
    (o : Value.okWide Tryz.prog W .any base 35 v) (k : DataW.Trod enc Tryz.prog W 0 (fun _ => true) true 35 v d p) (hbk : Rows.uptoBulk d ≤ 1048576) :
    ∃ A n c, ∃ l : List EV, v = .slice A n c ∧ EntsAt W W.heap.size A n c l ∧ (∀ e ∈ l, e.path.length ≤ 1048576 ∧ e.data.length ≤ 1048576) ∧ n ≤ 1048576 ∧ (l.map (·.data.length)).sum ≤ 1048576 := by
  obtain ⟨a0, len, cap, rfl⟩ := okWide_slice Tryz.underlying35 o
  obtain ⟨fuel, hf⟩ := k
  obtain ⟨A, n, c, l, hcs, h1, h2, h3⟩ := open_ents_cells hf hbk
  simp [Value.cells] at hcs
  obtain ⟨rfl, rfl, rfl⟩ := hcs
  exact ⟨a0, len, cap, l, rfl, h1, h2, h3⟩
end Go.Proofs.YtdhlklidenfbeaaGreatDoor
