/- The raw operations of the laws on disks, opened; the walks of full and sector. -/
import Derived.Test.YtbelkkhfjbbldaaDisk7
import Derived.Test.YtbelkkhfjbbldaaArgs
namespace Go.Proofs.Ytbelkkhfjbbldaa
open Go.RowKit Go.ChangeShapes Go.WideShapes
set_option linter.unusedVariables false
set_option linter.unusedSimpArgs false

structure OpM where
  kind : Int
  a : Int
  bA : Option Addr
  bn : Nat
  bc : Nat
  b : List UInt8
  c : UInt8
  fit : Bool
  keep : UInt64
def opCells (o : OpM) : List Value := [.int .i64 o.kind, .int .i64 o.a, .slice o.bA o.bn o.bc, .int .u8 (o.c.toNat : Int), .bool o.fit, .int .u64 (o.keep.toNat : Int)]
theorem opCells_length (o : OpM) : (opCells o).length = 6 := rfl
structure OpOk (W : World) (o : OpM) : Prop where
  slc : Slc W W.heap.size 1 o.bA o.bn o.bc (o.b.map bv)
  small : o.bn ≤ 140737488351232
  kind : -9223372036854775808 ≤ o.kind ∧ o.kind ≤ 9223372036854775807
  a : -9223372036854775808 ≤ o.a ∧ o.a ≤ 9223372036854775807

theorem open_ops {H : Type} {enc : TypeId × Value → H} {W : World} {base : Nat} {v : Value} {d : DataW H} {p : List MemPlace}
    (o : Value.okWide Try.prog W .any base 35 v) (k : DataW.Trod enc Try.prog W 0 (fun _ => true) true 35 v d p)
    (hw : ∀ n ∈ d.weights Try.prog 35, n ≤ 140737488351232) :
    ∃ A n c, ∃ l : List OpM, v = .slice A n c ∧ l.length = n ∧ Slc W W.heap.size 6 A n c (l.flatMap opCells) ∧ ∀ o ∈ l, OpOk W o := by
  obtain ⟨a0, len0, cap0, rfl⟩ := okWide_slice Try.underlying35 o
  obtain ⟨fuel, hf⟩ := k
  rcases open_slice_fields Try.underlying35 Try.underlying48 (by kernel_rfl) (by kernel_rfl) hf with ⟨hcs, hx⟩ | ⟨x, len, cap, m, D, Pl, hcs, _, hl, hm, hmm, hx, hel⟩
  · simp [Value.cells] at hcs
    obtain ⟨rfl, rfl, rfl⟩ := hcs
    exact ⟨none, 0, 0, [], rfl, rfl, ⟨rfl, Nat.le_refl _, Nat.zero_le _, fun h => absurd h (by decide)⟩, fun _ h => by cases h⟩
  · simp [Value.cells] at hcs
    obtain ⟨rfl, rfl, rfl⟩ := hcs
    simp only [if_true] at hmm
    subst hmm
    simp only [List.size_toArray, List.length_cons, List.length_nil] at hel
    have key : ∀ i, ∃ o : OpM, i < len0 → OpOk W o ∧ ∀ j u, (opCells o)[j]? = some u → W.cell? (x.add (i * 6 + j)) = some u := by
      intro i
      by_cases hi : i < len0
      · obtain ⟨ys, n, hD, _, hyl, hfs⟩ := hel i (by omega)
        obtain ⟨v0, y0, c0, e0, t0⟩ := hfs 0 _ rfl
        obtain ⟨v1, y1, c1, e1, t1⟩ := hfs 1 _ rfl
        obtain ⟨v2, y2, c2, e2, t2⟩ := hfs 2 _ rfl
        obtain ⟨v3, y3, c3, e3, t3⟩ := hfs 3 _ rfl
        obtain ⟨v4, y4, c4, e4, t4⟩ := hfs 4 _ rfl
        obtain ⟨v5, y5, c5, e5, t5⟩ := hfs 5 _ rfl
        obtain ⟨x0, h0, _, w0⟩ := DataW.trod_int Try.underlying3 t0
        obtain ⟨x1, h1, _, w1⟩ := DataW.trod_int Try.underlying3 t1
        obtain ⟨x3, h3, _, w3⟩ := DataW.trod_int Try.underlying5 t3
        obtain ⟨x4, h4, _⟩ := DataW.trod_bool Try.underlying4 t4
        obtain ⟨x5, h5, _, w5⟩ := DataW.trod_int Try.underlying22 t5
        simp only [List.cons.injEq, and_true] at h0 h1 h3 h4 h5
        subst h0 h1 h3 h4 h5
        obtain ⟨b3, rfl⟩ := u8_of_wf w3
        obtain ⟨b5, rfl⟩ := u64_of_wf w5
        obtain ⟨A, bn, bc, bl, hv2, hS, hd2⟩ := open_bytes_cells ⟨n, t2⟩
        subst hv2
        have hsmall : bn ≤ 140737488351232 := by
          rcases hd2 with h | ⟨elems, spare, hdd, hle⟩
          · omega
          · have hmem : (DataW.agg (ys.map (·.1)) : DataW H) ∈ (List.range len0).map D := List.mem_map.2 ⟨i, List.mem_range.2 hi, hD⟩
            have hdx := congrArg Prod.fst hx
            simp only at hdx
            have := hw _ (by
              rw [hdx]
              refine weights_field (j := 2) (d := y2.1) Try.underlying35 Try.underlying48 hmem (by rw [List.getElem?_map, e2]; rfl) rfl ((elems.length + spare.length) * Try.prog.bytesOf 5) ?_
              rw [hdd]
              simp [DataW.weights, Try.underlying23])
            rw [bytes_size] at this
            omega
        refine ⟨⟨x0, x1, A, bn, bc, bl, b3, x4, b5⟩, fun _ => ⟨⟨hS, hsmall, int_wf w0, int_wf w1⟩, fun j u hu => ?_⟩⟩
        have hj : j < 6 := by
          rcases Nat.lt_or_ge j 6 with h | h
          · exact h
          · rw [List.getElem?_eq_none (by rw [opCells_length]; exact h)] at hu; cases hu
        have : j = 0 ∨ j = 1 ∨ j = 2 ∨ j = 3 ∨ j = 4 ∨ j = 5 := by omega
        rcases this with rfl | rfl | rfl | rfl | rfl | rfl <;> (injection hu with hu; subst hu; assumption)
      · exact ⟨⟨0, 0, none, 0, 0, [], 0, false, 0⟩, fun h => absurd h hi⟩
    obtain ⟨f, hf⟩ := Classical.axiomOfChoice key
    refine ⟨some x, len0, _, (List.range len0).map f, rfl, by simp, ?_, ?_⟩
    · rcases Nat.eq_zero_or_pos len0 with h0 | h0
      · subst h0
        exact ⟨by simp, hl, hm, fun h => absurd h (by decide)⟩
      · have h1 := (hf 0 h0).2 0 _ rfl
        have hs : x.spot = none := by simpa [Addr.add] using World.cell?_spot h1
        have hblk : x.block < W.heap.size := by have := World.block_lt_of_cell? _ _ h1; simpa [block_add] using this
        obtain ⟨b, off, sp⟩ := x
        simp only at hs hblk
        subst hs
        refine slc_of_elems opCells _ (fun o _ => opCells_length o) (by simp) hl hm hblk (fun i hi j u hu => ?_)
        have hi' : i < len0 := by simpa using hi
        have := (hf i hi').2 j u (by simpa using hu)
        rwa [addr_of_add] at this
    · intro o ho
      obtain ⟨i, hi, rfl⟩ := List.mem_map.1 ho
      exact (hf i (List.mem_range.1 hi)).1
end Go.Proofs.Ytbelkkhfjbbldaa
