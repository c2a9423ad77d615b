/- The raw operations of the laws on logs, opened. -/
import Derived.Test.YtjdlaocmifobnaaWalLawB
namespace Go.Proofs.Ytjdlaocmifobnaa
open Go.RowKit Go.ChangeShapes Go.WideShapes
set_option linter.unusedVariables false
set_option linter.unusedSimpArgs false

structure WOp where
  kind : Int
  a : Int
  n : Int
  c : UInt8
  keep : UInt64
def wopCells (o : WOp) : List Value := [.int .i64 o.kind, .int .i64 o.a, .int .i64 o.n, .int .u8 (o.c.toNat : Int), .int .u64 (o.keep.toNat : Int)]
theorem wopCells_length (o : WOp) : (wopCells o).length = 5 := rfl
structure WOpOk (o : WOp) : Prop where
  kind : -9223372036854775808 ≤ o.kind ∧ o.kind ≤ 9223372036854775807
  a : -9223372036854775808 ≤ o.a ∧ o.a ≤ 9223372036854775807

set_option maxRecDepth 100000 in
theorem open_wops {H : Type} {enc : TypeId × Value → H} {W : World} {base : Nat} {v : Value} {d : DataW H} {p : List MemPlace}
    (o : Value.okWide Try.prog W .any base 22 v) (k : DataW.Trod enc Try.prog W 0 (fun _ => true) true 22 v d p) :
    ∃ A n c, ∃ l : List WOp, v = .slice A n c ∧ l.length = n ∧ Slc W W.heap.size 5 A n c (l.flatMap wopCells) ∧ ∀ o ∈ l, WOpOk o := by
  obtain ⟨a0, len0, cap0, rfl⟩ := okWide_slice Try.underlying22 o
  obtain ⟨fuel, hf⟩ := k
  rcases open_slice_fields Try.underlying22 Try.underlying46 (by kernel_rfl) (by kernel_rfl) hf with ⟨hcs, hx⟩ | ⟨x, len, cap, m, D, Pl, hcs, _, hl, hm, hmm, hx, hel⟩
  · simp [Value.cells] at hcs
    obtain ⟨rfl, rfl, rfl⟩ := hcs
    exact ⟨none, 0, 0, [], rfl, rfl, ⟨rfl, Nat.le_refl _, Nat.zero_le _, fun h => absurd h (by decide)⟩, fun _ h => by cases h⟩
  · simp [Value.cells] at hcs
    obtain ⟨rfl, rfl, rfl⟩ := hcs
    simp only [if_true] at hmm
    subst hmm
    simp only [List.size_toArray, List.length_cons, List.length_nil] at hel
    have key : ∀ i, ∃ o : WOp, i < len0 → WOpOk o ∧ ∀ j u, (wopCells o)[j]? = some u → W.cell? (x.add (i * 5 + j)) = some u := by
      intro i
      by_cases hi : i < len0
      · obtain ⟨ys, n, hD, _, hyl, hfs⟩ := hel i (by omega)
        obtain ⟨v0, y0, c0, e0, t0⟩ := hfs 0 _ rfl
        obtain ⟨v1, y1, c1, e1, t1⟩ := hfs 1 _ rfl
        obtain ⟨v2, y2, c2, e2, t2⟩ := hfs 2 _ rfl
        obtain ⟨v3, y3, c3, e3, t3⟩ := hfs 3 _ rfl
        obtain ⟨v4, y4, c4, e4, t4⟩ := hfs 4 _ rfl
        obtain ⟨x0, h0, _, w0⟩ := DataW.trod_int Try.underlying3 t0
        obtain ⟨x1, h1, _, w1⟩ := DataW.trod_int Try.underlying3 t1
        obtain ⟨x2, h2, _, w2⟩ := DataW.trod_int Try.underlying3 t2
        obtain ⟨x3, h3, _, w3⟩ := DataW.trod_int Try.underlying5 t3
        obtain ⟨x4, h4, _, w4⟩ := DataW.trod_int Try.underlying44 t4
        simp only [List.cons.injEq, and_true] at h0 h1 h2 h3 h4
        subst h0 h1 h2 h3 h4
        obtain ⟨b3, rfl⟩ := u8_of_wf w3
        obtain ⟨b4, rfl⟩ := u64_of_wf w4
        refine ⟨⟨x0, x1, x2, b3, b4⟩, fun _ => ⟨⟨int_wf w0, int_wf w1⟩, fun j u hu => ?_⟩⟩
        have hj : j < 5 := by
          rcases Nat.lt_or_ge j 5 with h | h
          · exact h
          · rw [List.getElem?_eq_none (by rw [wopCells_length]; exact h)] at hu; cases hu
        have : j = 0 ∨ j = 1 ∨ j = 2 ∨ j = 3 ∨ j = 4 := by omega
        rcases this with rfl | rfl | rfl | rfl | rfl <;> (injection hu with hu; subst hu; assumption)
      · exact ⟨⟨0, 0, 0, 0, 0⟩, fun h => absurd h hi⟩
    obtain ⟨f, hf⟩ := Classical.axiomOfChoice key
    refine ⟨some x, len0, _, (List.range len0).map f, rfl, by simp, ?_, ?_⟩
    · rcases Nat.eq_zero_or_pos len0 with h0 | h0
      · subst h0
        exact ⟨by simp, hl, hm, fun h => absurd h (by decide)⟩
      · have h1 := (hf 0 h0).2 0 _ rfl
        have hs : x.spot = none := by simpa [Addr.add] using World.cell?_spot h1
        have hblk : x.block < W.heap.size := by have := World.block_lt_of_cell? _ _ h1; simpa [block_add] using this
        obtain ⟨b, off, sp⟩ := x
        simp only at hs hblk
        subst hs
        refine slc_of_elems wopCells _ (fun o _ => wopCells_length o) (by simp) hl hm hblk (fun i hi j u hu => ?_)
        have hi' : i < len0 := by simpa using hi
        have := (hf i hi').2 j u (by simpa using hu)
        rwa [addr_of_add] at this
    · intro o ho
      obtain ⟨i, hi, rfl⟩ := List.mem_map.1 ho
      exact (hf i (List.mem_range.1 hi)).1
/-- An op's cells, for a walk. -/
theorem wop_cells {w : World} {B : Nat} {A : Option Addr} {n c : Nat} {l : List WOp} (h : Slc w B 5 A n c (l.flatMap wopCells)) (hl : l.length = n) {k : Nat} (hk : k < n) :
    ∃ b off, A = some ⟨b, off, none⟩ ∧ b < B ∧ ∃ hkl : k < l.length, w.cell? ⟨b, off + k * 5, none⟩ = some (.int .i64 l[k].kind) ∧ w.cell? ⟨b, off + k * 5 + 1, none⟩ = some (.int .i64 l[k].a) ∧ w.cell? ⟨b, off + k * 5 + 2, none⟩ = some (.int .i64 l[k].n) ∧
      w.cell? ⟨b, off + k * 5 + 3, none⟩ = some (.int .u8 (l[k].c.toNat : Int)) ∧ w.cell? ⟨b, off + k * 5 + 4, none⟩ = some (.int .u64 (l[k].keep.toNat : Int)) := by
  obtain ⟨b, off, e, hb, hc⟩ := h.at_ (by omega)
  have hkl : k < l.length := by omega
  have g : ∀ j u, j < 5 → (wopCells l[k])[j]? = some u → w.cell? ⟨b, off + k * 5 + j, none⟩ = some u := fun j u hj hu => by
    have := hc (k * 5 + j) u (by rw [flatMap_get wopCells 5 l (fun o _ => wopCells_length o) k j hkl hj]; exact hu)
    rwa [← Nat.add_assoc] at this
  exact ⟨b, off, e, hb, hkl, g 0 _ (by decide) rfl, g 1 _ (by decide) rfl, g 2 _ (by decide) rfl, g 3 _ (by decide) rfl, g 4 _ (by decide) rfl⟩
end Go.Proofs.Ytjdlaocmifobnaa
