/- TreeRefs: the arguments opened, where they are of bulk at most 1048576. -/
import Derived.Test.YtdhlklidenfbeaaDoorLaw08R
import Derived.Test.YtdhlklidenfbeaaDoorBulk
import Derived.Test.YtdhlklidenfbeaaDoorArgs
namespace Go.Proofs.YtdhlklidenfbeaaDoor
open Go.RowKit Go.ChangeShapes Go.WideShapes
open Go.ChangeMaps (open_string)
set_option linter.unusedVariables false
set_option linter.unusedSimpArgs false

theorem bytes_bulk {H : Type} {n : Nat} {d : DataW H} (h : n = 0 ∨ ∃ elems spare, d = .slice elems spare ∧ n ≤ elems.length + spare.length) (hb : Rows.uptoBulk d ≤ 1048576) : n ≤ 1048576 := by
  rcases h with rfl | ⟨elems, spare, rfl, h⟩
  · omega
  · have := Bulk.slice_spare elems spare
    omega
set_option maxRecDepth 100000 in
theorem TreeRefs_walk {H : Type} {enc : TypeId × Value → H} (W : World) (base : Nat) (v0 v1 v2 v3 : Value) (d0 d1 d2 d3 : DataW H) (p0 p1 p2 p3 : List MemPlace)
    (o0 : Value.okWide Tryd.prog W .any base 42 v0) (o1 : Value.okWide Tryd.prog W .any base 42 v1) (o2 : Value.okWide Tryd.prog W .any base 84 v2) (o3 : Value.okWide Tryd.prog W .any base 9 v3)
    (h0 : DataW.Trod enc Tryd.prog W 0 (fun _ => true) true 42 v0 d0 p0) (h1 : DataW.Trod enc Tryd.prog W 0 (fun _ => true) true 42 v1 d1 p1)
    (h2 : DataW.Trod enc Tryd.prog W 0 (fun _ => true) true 84 v2 d2 p2) (h3 : DataW.Trod enc Tryd.prog W 0 (fun _ => true) true 9 v3 d3 p3)
    (hsz : (DataW.weightsEach Tryd.prog [42, 42, 84, 9] [d0, d1, d2, d3]).all (· ≤ reachBytes) = true) (hk : Rows.uptoSmall H [d0, d1, d2, d3] = true) :
    Calls Tryd.prog 9 #[v0, v1, v2, v3] W fun e w' => e = .returned (.bool true) ∧ Below W.heap.size W w' := by
  have hb := Bulk.bound hk
  have b0 := Nat.le_trans (Bulk.part_le (d := d0) (l := [d0, d1, d2, d3]) (by simp)) hb
  have b1 := Nat.le_trans (Bulk.part_le (d := d1) (l := [d0, d1, d2, d3]) (by simp)) hb
  have b3 := Nat.le_trans (Bulk.part_le (d := d3) (l := [d0, d1, d2, d3]) (by simp)) hb
  obtain ⟨A, n, c, l0, rfl, hS0, hn0⟩ := open_bytes o0 h0
  obtain ⟨A1, n1, c1, l1, rfl, hS1, hn1⟩ := open_bytes o1 h1
  obtain ⟨x, rfl, rfl, rfl, wx⟩ := open_int Tryd.underlying84 o2 h2
  obtain ⟨N, rfl⟩ := u64_of_wf wx
  obtain ⟨s, rfl, hd3, _⟩ := open_string Tryd.underlying9 o3 h3
  have hs : s.data.toList.length ≤ 10000000 := by
    rw [hd3, Bulk.string_eq] at b3
    omega
  have := treeRefs_any hS0 hS1 N s.data.toList (Nat.le_trans (bytes_bulk hn0 b0) (by decide)) (Nat.le_trans (bytes_bulk hn1 b1) (by decide)) hs
  rwa [show (⟨s.data.toList.toArray⟩ : ByteArray) = s by cases s; simp] at this
end Go.Proofs.YtdhlklidenfbeaaDoor
