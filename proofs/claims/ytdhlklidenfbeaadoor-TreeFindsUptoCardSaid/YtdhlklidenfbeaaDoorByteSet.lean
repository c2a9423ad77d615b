/- A byte of a row of the call's own, written over. -/
import Derived.Test.YtdhlklidenfbeaaDoorApp
namespace Go.Proofs.YtdhlklidenfbeaaDoor
open Go.RowKit
set_option linter.unusedVariables false
set_option linter.unusedSimpArgs false

/-- A byte of a row of the call's own is written over. -/
theorem own_byte_set {w : World} {base g n c : Nat} {xs : List Value} (h : w.ownsRow base 5 1 (.slice (some ⟨g, 0, none⟩) n c) n xs) {i : Nat} (hi : i < n) (u : Value) :
    (w.setCell ⟨g, i, none⟩ u).ownsRow base 5 1 (.slice (some ⟨g, 0, none⟩) n c) n (xs.set i u) ∧ (∃ v, w.cell? ⟨g, i, none⟩ = some v) ∧ w.frozen? ⟨g, i, none⟩ = false ∧ base ≤ g := by
  rcases h.2 with ⟨h1, _⟩ | ⟨g', cap, cur, e, hb, hh, hnc, hcm, hcs, ht⟩
  · cases h1
  · injection e with e1 e2 e3
    injection e1 with e1
    injection e1 with e1
    subst e1 e3
    have hB : Blk w g 5 cur := hh
    have hil : i < cur.size := by omega
    refine ⟨⟨by rw [List.length_set]; exact h.1, .inr ⟨g, c, _, rfl, hb, hB.set_ i u, hnc, hcm, by simpa using hcs, ?_⟩⟩, ⟨cur[i], by rw [hB.cell, Array.getElem?_eq_getElem hil]⟩, hB.frozen i, hb⟩
    rw [← ht]
    simp [List.take_set]

end Go.Proofs.YtdhlklidenfbeaaDoor
