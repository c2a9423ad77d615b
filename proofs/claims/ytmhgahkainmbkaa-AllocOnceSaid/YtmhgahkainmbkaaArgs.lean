/- Arguments of plain types, opened. -/
import Derived.Test.YtmhgahkainmbkaaStructs
namespace Go.Proofs.Ytmhgahkainmbkaa
open Go.RowKit Go.ChangeShapes Go.WideShapes
open Go.ChangeMaps (open_string)
set_option linter.unusedVariables false

theorem reach_eq : reachBytes = 140737488351232 := rfl

theorem u64_of_wf {x : Int} (h : (Lit.int .u64 x).wf = true) : ∃ s : UInt64, x = (s.toNat : Int) := by
  have h1 : 0 ≤ x ∧ x ≤ 18446744073709551615 := by simpa [Lit.wf, IntKind.min, IntKind.max, IntKind.signed, IntKind.bits] using h
  have hx : x.toNat < 2 ^ 64 := by omega
  refine ⟨UInt64.ofNat x.toNat, ?_⟩
  rw [UInt64.toNat_ofNat_of_lt' hx]
  omega

theorem byte_wf {x : Int} (h : (Lit.int .u8 x).wf = true) : 0 ≤ x ∧ x < 256 := by
  have h1 : 0 ≤ x ∧ x ≤ 255 := by simpa [Lit.wf, IntKind.min, IntKind.max, IntKind.signed, IntKind.bits] using h
  omega

set_option maxRecDepth 100000 in
/-- An argument of type []byte, opened. -/
theorem open_bytes {H : Type} {enc : TypeId × Value → H} {W : World} {base : Nat} {v : Value} {d : DataW H} {p : List MemPlace}
    (o : Value.okWide Try.prog W .any base 39 v) (k : DataW.Trod enc Try.prog W 0 (fun _ => true) true 39 v d p) :
    ∃ A n c, ∃ l : List UInt8, v = .slice A n c ∧ Slc W W.heap.size 1 A n c (l.map bv) ∧ (n = 0 ∨ ∃ elems spare, d = .slice elems spare ∧ n ≤ elems.length + spare.length) := by
  obtain ⟨a0, len, cap, rfl⟩ := okWide_slice Try.underlying39 o
  obtain ⟨fuel, hf⟩ := k
  rcases open_ints Try.underlying39 Try.underlying5 (by kernel_rfl) hf with ⟨hcs, _⟩ | ⟨x, l, c, zs, hcs, _, hl, hm, hz, hx, hcell, hwz⟩
  · simp [Value.cells] at hcs
    obtain ⟨rfl, rfl, rfl⟩ := hcs
    exact ⟨none, 0, 0, [], rfl, ⟨rfl, Nat.le_refl _, Nat.zero_le _, fun h => absurd h (by decide)⟩, .inl rfl⟩
  · simp [Value.cells] at hcs
    obtain ⟨rfl, rfl, rfl⟩ := hcs
    simp only [if_true] at hz
    have hcast : ∀ i (hi : i < zs.length), ((UInt8.ofNat zs[i].toNat).toNat : Int) = zs[i] := fun i hi => by
      have := byte_wf (hwz zs[i] (List.getElem_mem hi))
      rw [UInt8.toNat_ofNat_of_lt' (show zs[i].toNat < 2 ^ 8 by omega)]
      omega
    refine ⟨some x, len, cap, (zs.take len).map fun z => UInt8.ofNat z.toNat, rfl, ⟨by simp; omega, hl, hm, fun h0 => ?_⟩, ?_⟩
    · have h1 := hcell 0 (by omega)
      have hs : x.spot = none := by simpa [Addr.add] using World.cell?_spot h1
      have hblk : x.block < W.heap.size := by have := World.block_lt_of_cell? _ _ h1; simpa [block_add] using this
      obtain ⟨b, off, sp⟩ := x
      simp only at hs hblk
      subst hs
      refine ⟨b, off, rfl, hblk, fun j u hu => ?_⟩
      have hj : j < len := by
        rcases Nat.lt_or_ge j len with h | h
        · exact h
        · rw [List.getElem?_eq_none (by simp; omega)] at hu; cases hu
      have hjz : j < zs.length := by omega
      have h2 := hcell j hjz
      rw [addr_of_add] at h2
      rw [h2]
      simp only [List.map_map, List.getElem?_map, List.getElem?_take, hj, if_true, List.getElem?_eq_getElem hjz, Option.map_some, Option.some.injEq] at hu
      subst hu
      simp only [Function.comp, bv, hcast j hjz, List.getD, List.getElem?_eq_getElem hjz, Option.getD_some]
    · refine .inr ?_
      have hd := congrArg Prod.fst hx
      simp only at hd
      refine ⟨_, _, hd, ?_⟩
      simp [lits]
      omega

/-- A cell that reads as a []byte, opened. -/
theorem open_bytes_cells {H : Type} {enc : TypeId × Value → H} {W : World} {v : Value} {y : DataW H × List MemPlace}
    (k : ∃ n, DataW.trod enc Try.prog W 0 (fun _ => true) true n 39 [v] = some y) :
    ∃ A n c, ∃ l : List UInt8, v = .slice A n c ∧ Slc W W.heap.size 1 A n c (l.map bv) ∧ (n = 0 ∨ ∃ elems spare, y.1 = .slice elems spare ∧ n ≤ elems.length + spare.length) := by
  obtain ⟨fuel, hf⟩ := k
  rcases open_ints Try.underlying39 Try.underlying5 (by kernel_rfl) hf with ⟨hcs, _⟩ | ⟨x, len, cap, zs, hcs, _, hl, hm, hz, hx, hcell, hwz⟩
  · injection hcs with hcs
    subst hcs
    exact ⟨none, 0, 0, [], rfl, ⟨rfl, Nat.le_refl _, Nat.zero_le _, fun h => absurd h (by decide)⟩, .inl rfl⟩
  · injection hcs with hcs
    subst hcs
    simp only [if_true] at hz
    have hcast : ∀ i (hi : i < zs.length), ((UInt8.ofNat zs[i].toNat).toNat : Int) = zs[i] := fun i hi => by
      have := byte_wf (hwz zs[i] (List.getElem_mem hi))
      rw [UInt8.toNat_ofNat_of_lt' (show zs[i].toNat < 2 ^ 8 by omega)]
      omega
    refine ⟨some x, len, cap, (zs.take len).map fun z => UInt8.ofNat z.toNat, rfl, ⟨by simp; omega, hl, hm, fun h0 => ?_⟩, ?_⟩
    · have h1 := hcell 0 (by omega)
      have hs : x.spot = none := by simpa [Addr.add] using World.cell?_spot h1
      have hblk : x.block < W.heap.size := by have := World.block_lt_of_cell? _ _ h1; simpa [block_add] using this
      obtain ⟨b, off, sp⟩ := x
      simp only at hs hblk
      subst hs
      refine ⟨b, off, rfl, hblk, fun j u hu => ?_⟩
      have hj : j < len := by
        rcases Nat.lt_or_ge j len with h | h
        · exact h
        · rw [List.getElem?_eq_none (by simp; omega)] at hu; cases hu
      have hjz : j < zs.length := by omega
      have h2 := hcell j hjz
      rw [addr_of_add] at h2
      rw [h2]
      simp only [List.map_map, List.getElem?_map, List.getElem?_take, hj, if_true, List.getElem?_eq_getElem hjz, Option.map_some, Option.some.injEq] at hu
      subst hu
      simp only [Function.comp, bv, hcast j hjz, List.getD, List.getElem?_eq_getElem hjz, Option.getD_some]
    · refine .inr ?_
      have hd := congrArg Prod.fst hx
      simp only at hd
      refine ⟨_, _, hd, ?_⟩
      simp [lits]
      omega

theorem bytes_size : Try.prog.bytesOf 5 = 1 := by kernel_rfl


set_option maxRecDepth 100000 in
/-- An argument of type []int, opened. -/
theorem open_nums {H : Type} {enc : TypeId × Value → H} {W : World} {base : Nat} {v : Value} {d : DataW H} {p : List MemPlace}
    (o : Value.okWide Try.prog W .any base 53 v) (k : DataW.Trod enc Try.prog W 0 (fun _ => true) true 53 v d p) :
    ∃ A n c, ∃ l : List Int, v = .slice A n c ∧ Slc W W.heap.size 1 A n c (l.map (Value.int .i64)) ∧ (∀ z ∈ l, -9223372036854775808 ≤ z ∧ z ≤ 9223372036854775807) ∧ (n = 0 ∨ ∃ elems spare, d = .slice elems spare ∧ n ≤ elems.length + spare.length) := by
  obtain ⟨a0, len, cap, rfl⟩ := okWide_slice Try.underlying53 o
  obtain ⟨fuel, hf⟩ := k
  rcases open_ints Try.underlying53 Try.underlying3 (by kernel_rfl) hf with ⟨hcs, _⟩ | ⟨x, l, c, zs, hcs, _, hl, hm, hz, hx, hcell, hwz⟩
  · simp [Value.cells] at hcs
    obtain ⟨rfl, rfl, rfl⟩ := hcs
    exact ⟨none, 0, 0, [], rfl, ⟨rfl, Nat.le_refl _, Nat.zero_le _, fun h => absurd h (by decide)⟩, (fun _ h => by cases h), .inl rfl⟩
  · simp [Value.cells] at hcs
    obtain ⟨rfl, rfl, rfl⟩ := hcs
    simp only [if_true] at hz
    refine ⟨some x, len, cap, zs.take len, rfl, ⟨by simp; omega, hl, hm, fun h0 => ?_⟩, fun z hz' => ?_, ?_⟩
    · have h1 := hcell 0 (by omega)
      have hs : x.spot = none := by simpa [Addr.add] using World.cell?_spot h1
      have hblk : x.block < W.heap.size := by have := World.block_lt_of_cell? _ _ h1; simpa [block_add] using this
      obtain ⟨b, off, sp⟩ := x
      simp only at hs hblk
      subst hs
      refine ⟨b, off, rfl, hblk, fun j u hu => ?_⟩
      have hj : j < len := by
        rcases Nat.lt_or_ge j len with h | h
        · exact h
        · rw [List.getElem?_eq_none (by simp; omega)] at hu; cases hu
      have hjz : j < zs.length := by omega
      have h2 := hcell j hjz
      rw [addr_of_add] at h2
      rw [h2]
      simp only [List.getElem?_map, List.getElem?_take, hj, if_true, List.getElem?_eq_getElem hjz, Option.map_some, Option.some.injEq] at hu
      subst hu
      simp only [List.getD, List.getElem?_eq_getElem hjz, Option.getD_some]
    · have h := hwz z (List.mem_of_mem_take hz')
      simpa [Lit.wf, IntKind.min, IntKind.max, IntKind.signed, IntKind.bits] using h
    · refine .inr ?_
      have hd := congrArg Prod.fst hx
      simp only at hd
      refine ⟨_, _, hd, ?_⟩
      simp [lits]
      omega


theorem int_wf {x : Int} (h : (Lit.int .i64 x).wf = true) : -9223372036854775808 ≤ x ∧ x ≤ 9223372036854775807 := by
  simpa [Lit.wf, IntKind.min, IntKind.max, IntKind.signed, IntKind.bits] using h
theorem u8_of_wf {x : Int} (h : (Lit.int .u8 x).wf = true) : ∃ c : UInt8, x = (c.toNat : Int) := by
  have := byte_wf h
  exact ⟨UInt8.ofNat x.toNat, by rw [UInt8.toNat_ofNat_of_lt' (show x.toNat < 2 ^ 8 by omega)]; omega⟩
end Go.Proofs.Ytmhgahkainmbkaa
