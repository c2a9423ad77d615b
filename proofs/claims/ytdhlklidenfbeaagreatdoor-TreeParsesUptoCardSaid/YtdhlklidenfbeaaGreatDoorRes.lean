/- Results that are structs; stores beside what is owned. -/
import Derived.Test.YtdhlklidenfbeaaGreatDoorOwn
namespace Go.Proofs.YtdhlklidenfbeaaGreatDoor
open Go.RowKit
set_option linter.unusedVariables false
set_option linter.unusedSimpArgs false

theorem own_put {w : World} {base : Nat} {e : TypeId} {size : Nat} {v : Value} {n : Nat} {xs : List Value} (h : w.ownsRow base e size v n xs) {p : Addr} (hp : v.ownBlock ≠ some p.block) (u : Value) : (w.setCell p u).ownsRow base e size v n xs := by
  refine h.kept (row := some p.block) ⟨rfl, rfl, rfl, by simp [World.setCell], fun k hk hne => Below.heap_setCell w p u k (fun e => hne (by rw [e]))⟩ ?_
  exact .inr hp
/-- A variable that is a struct, read whole. -/
theorem load_aggr {P : Program} {T U : TypeId} {k : Nat} (ha : ∀ w, (isAgg T).run P w = .ok true w) (hz : ∀ w, (Go.sizeOf T).run P w = .ok k w) {w : World} {g : Nat} {cs : Array Value} (hcs : cs.size = k) (hb : Blk w g U cs) :
    (loadVar T ⟨g, 0, none⟩).run P w = .ok (.agg cs) w := by
  have hl := run_loadCells_list (P := P) (w := w) ⟨g, 0, none⟩ cs.toList (fun i v hi => by rw [addr_of_add, Nat.zero_add, hb.cell]; simpa using hi)
  rw [Array.length_toList, hcs] at hl
  simp [loadVar, ha, hz, hl]
theorem results_aggr {P : Program} {fn : Func} {t : Tmp} {T U : TypeId} {g k : Nat} {cs : Array Value} {w : World} {tmps : Array Value} (h : fn.results = #[.cell t T]) (ht : tmps.getD t undef = .pointer (some ⟨g, 0, none⟩))
    (ha : ∀ w, (isAgg T).run P w = .ok true w) (hz : ∀ w, (Go.sizeOf T).run P w = .ok k w) (hcs : cs.size = k) (hb : Blk w g U cs) : (results fn tmps).run P w = .ok (.agg cs) w := by
  have hl := load_aggr ha hz hcs hb
  simp only [Array.getD_eq_getD_getElem?] at ht
  simp [results, h, ht, asAddr, hl]
theorem results_aggr2 {P : Program} {fn : Func} {t u : Tmp} {T U : TypeId} {g k : Nat} {cs : Array Value} {w : World} {tmps : Array Value} (h : fn.results = #[.cell t T, .tmp u]) (ht : tmps.getD t undef = .pointer (some ⟨g, 0, none⟩))
    (ha : ∀ w, (isAgg T).run P w = .ok true w) (hz : ∀ w, (Go.sizeOf T).run P w = .ok k w) (hcs : cs.size = k) (hb : Blk w g U cs) : (results fn tmps).run P w = .ok (.tuple #[.agg cs, tmps.getD u undef]) w := by
  have hl := load_aggr ha hz hcs hb
  simp only [Array.getD_eq_getD_getElem?] at ht
  simp [results, h, ht, asAddr, hl]
theorem results_aggr3 {P : Program} {fn : Func} {t u v : Tmp} {T U : TypeId} {g k : Nat} {cs : Array Value} {w : World} {tmps : Array Value} (h : fn.results = #[.cell t T, .tmp u, .tmp v]) (ht : tmps.getD t undef = .pointer (some ⟨g, 0, none⟩))
    (ha : ∀ w, (isAgg T).run P w = .ok true w) (hz : ∀ w, (Go.sizeOf T).run P w = .ok k w) (hcs : cs.size = k) (hb : Blk w g U cs) : (results fn tmps).run P w = .ok (.tuple #[.agg cs, tmps.getD u undef, tmps.getD v undef]) w := by
  have hl := load_aggr ha hz hcs hb
  simp only [Array.getD_eq_getD_getElem?] at ht
  simp [results, h, ht, asAddr, hl]
end Go.Proofs.YtdhlklidenfbeaaGreatDoor
