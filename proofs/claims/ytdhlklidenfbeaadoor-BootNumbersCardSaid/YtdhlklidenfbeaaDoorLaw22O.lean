/- The raw operations of the laws on menus, opened. -/
import Derived.Test.YtdhlklidenfbeaaDoorLaw22S
import Derived.Test.YtdhlklidenfbeaaDoorArgs
namespace Go.Proofs.YtdhlklidenfbeaaDoor
open Go.RowKit Go.ChangeShapes Go.WideShapes
set_option linter.unusedVariables false
set_option linter.unusedSimpArgs false

def mopCells (o : MOp) : List Value := [.int .i64 o.kind, .int .i64 o.n]
theorem mopCells_length (o : MOp) : (mopCells o).length = 2 := rfl
structure MOpOk (o : MOp) : Prop where
  kind : -9223372036854775808 ≤ o.kind ∧ o.kind ≤ 9223372036854775807
  n : -9223372036854775808 ≤ o.n ∧ o.n ≤ 9223372036854775807

set_option maxRecDepth 100000 in
theorem open_mops {H : Type} {enc : TypeId × Value → H} {W : World} {base : Nat} {v : Value} {d : DataW H} {p : List MemPlace}
    (o : Value.okWide Tryd.prog W .any base 60 v) (k : DataW.Trod enc Tryd.prog W 0 (fun _ => true) true 60 v d p) :
    ∃ A n c, ∃ l : List MOp, v = .slice A n c ∧ l.length = n ∧ Slc W W.heap.size 2 A n c (l.flatMap mopCells) ∧ ∀ o ∈ l, MOpOk o := by
  obtain ⟨a0, len0, cap0, rfl⟩ := okWide_slice Tryd.underlying60 o
  obtain ⟨fuel, hf⟩ := k
  rcases open_slice_fields Tryd.underlying60 Tryd.underlying67 (by kernel_rfl) (by kernel_rfl) hf with ⟨hcs, hx⟩ | ⟨x, len, cap, m, D, Pl, hcs, _, hl, hm, hmm, hx, hel⟩
  · simp [Value.cells] at hcs
    obtain ⟨rfl, rfl, rfl⟩ := hcs
    exact ⟨none, 0, 0, [], rfl, rfl, ⟨rfl, Nat.le_refl _, Nat.zero_le _, fun h => absurd h (by decide)⟩, fun _ h => by cases h⟩
  · simp [Value.cells] at hcs
    obtain ⟨rfl, rfl, rfl⟩ := hcs
    simp only [if_true] at hmm
    subst hmm
    simp only [List.size_toArray, List.length_cons, List.length_nil] at hel
    have key : ∀ i, ∃ o : MOp, i < len0 → MOpOk o ∧ ∀ j u, (mopCells o)[j]? = some u → W.cell? (x.add (i * 2 + j)) = some u := by
      intro i
      by_cases hi : i < len0
      · obtain ⟨ys, n, hD, _, hyl, hfs⟩ := hel i (by omega)
        obtain ⟨v0, y0, c0, e0, t0⟩ := hfs 0 _ rfl
        obtain ⟨v1, y1, c1, e1, t1⟩ := hfs 1 _ rfl
        obtain ⟨x0, h0, _, w0⟩ := DataW.trod_int Tryd.underlying3 t0
        obtain ⟨x1, h1, _, w1⟩ := DataW.trod_int Tryd.underlying3 t1
        simp only [List.cons.injEq, and_true] at h0 h1
        subst h0 h1
        refine ⟨⟨x0, x1⟩, fun _ => ⟨⟨int_wf w0, int_wf w1⟩, fun j u hu => ?_⟩⟩
        have hj : j < 2 := by
          rcases Nat.lt_or_ge j 2 with h | h
          · exact h
          · rw [List.getElem?_eq_none (by rw [mopCells_length]; exact h)] at hu; cases hu
        have : j = 0 ∨ j = 1 := by omega
        rcases this with rfl | rfl <;> (injection hu with hu; subst hu; assumption)
      · exact ⟨⟨0, 0⟩, fun h => absurd h hi⟩
    obtain ⟨f, hf⟩ := Classical.axiomOfChoice key
    refine ⟨some x, len0, _, (List.range len0).map f, rfl, by simp, ?_, ?_⟩
    · rcases Nat.eq_zero_or_pos len0 with h0 | h0
      · subst h0
        exact ⟨by simp, hl, hm, fun h => absurd h (by decide)⟩
      · have h1 := (hf 0 h0).2 0 _ rfl
        have hs : x.spot = none := by simpa [Addr.add] using World.cell?_spot h1
        have hblk : x.block < W.heap.size := by have := World.block_lt_of_cell? _ _ h1; simpa [block_add] using this
        obtain ⟨b, off, sp⟩ := x
        simp only at hs hblk
        subst hs
        refine slc_of_elems mopCells _ (fun o _ => mopCells_length o) (by simp) hl hm hblk (fun i hi j u hu => ?_)
        have hi' : i < len0 := by simpa using hi
        have := (hf i hi').2 j u (by simpa using hu)
        rwa [addr_of_add] at this
    · intro o ho
      obtain ⟨i, hi, rfl⟩ := List.mem_map.1 ho
      exact (hf i (List.mem_range.1 hi)).1
theorem mop_cells {w : World} {B : Nat} {A : Option Addr} {n c : Nat} {l : List MOp} (h : Slc w B 2 A n c (l.flatMap mopCells)) (hl : l.length = n) {k : Nat} (hk : k < n) :
    ∃ b off, A = some ⟨b, off, none⟩ ∧ b < B ∧ ∃ hk' : k < l.length, w.cell? ⟨b, off + k * 2, none⟩ = some (.int .i64 l[k].kind) ∧ w.cell? ⟨b, off + k * 2 + 1, none⟩ = some (.int .i64 l[k].n) := by
  obtain ⟨b, off, e, hb, hc⟩ := h.at_ (by omega)
  have hl' : k < l.length := by omega
  have g : ∀ j u, j < 2 → (mopCells l[k])[j]? = some u → w.cell? ⟨b, off + k * 2 + j, none⟩ = some u := fun j u hj hu => by
    have := hc (k * 2 + j) u (by rw [flatMap_get mopCells 2 l (fun o _ => mopCells_length o) k j hl' hj]; exact hu)
    rwa [← Nat.add_assoc] at this
  exact ⟨b, off, e, hb, hl', g 0 _ (by decide) rfl, g 1 _ (by decide) rfl⟩

theorem opM_short (m : Menu) (o : MOp) (h : ∀ g ∈ m.gens, g.path.length ≤ 1000000000) : ∀ g ∈ (opM m o).menu.gens, g.path.length ≤ 1000000000 := by
  have hz : ∀ e, ∀ g ∈ (refuse e).menu.gens, g.path.length ≤ 1000000000 := fun e g hg => by simp [refuse, zeroM] at hg
  unfold opM addM removeM defaultM nextM
  repeat' split
  all_goals first | exact hz _ | exact h | skip
  · intro g hg
    rcases List.mem_append.1 hg with hg | hg
    · exact h g hg
    · rw [List.mem_singleton.1 hg]
      show (place ++ [letterOf o.n]).length ≤ _
      simp [place]
  · intro g hg
    exact h g (mem_dropG.1 hg).1
  · intro g hg
    rw [show (loadM m).gens = m.gens from (loadM_last m).2.1] at hg
    exact h g hg
end Go.Proofs.YtdhlklidenfbeaaDoor
