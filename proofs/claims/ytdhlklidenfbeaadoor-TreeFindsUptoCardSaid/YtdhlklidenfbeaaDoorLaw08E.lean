/- TreeFinds: the arguments opened, where they are of bulk at most 1048576. -/
import Derived.Test.YtdhlklidenfbeaaDoorLaw08D
import Derived.Test.YtdhlklidenfbeaaDoorArgE
namespace Go.Proofs.YtdhlklidenfbeaaDoor
open Go.RowKit Go.ChangeShapes Go.WideShapes
open Go.ChangeMaps (open_string)
set_option linter.unusedVariables false
set_option linter.unusedSimpArgs false

theorem refsAll_sum : ∀ l : List EV, (refsAll (l.map (·.data))).length ≤ (l.map (·.data.length)).sum
  | [] => by simp [refsAll]
  | x :: l => by
    have h1 := refsAll_sum l
    have h2 := refsTo_length x.data x.data.length
    unfold refsAll at h1 ⊢
    unfold refsOne at *
    simp only [List.map_cons, List.flatMap_cons, List.length_append, List.sum_cons]
    omega
set_option maxRecDepth 100000 in
theorem TreeFinds_walk {H : Type} {enc : TypeId × Value → H} (W : World) (base : Nat) (v0 v1 : Value) (d0 d1 : DataW H) (p0 p1 : List MemPlace)
    (o0 : Value.okWide Tryd.prog W .any base 28 v0) (o1 : Value.okWide Tryd.prog W .any base 9 v1) (h0 : DataW.Trod enc Tryd.prog W 0 (fun _ => true) true 28 v0 d0 p0) (h1 : DataW.Trod enc Tryd.prog W 0 (fun _ => true) true 9 v1 d1 p1)
    (hsz : (DataW.weightsEach Tryd.prog [28, 9] [d0, d1]).all (· ≤ reachBytes) = true) (hk : Rows.uptoSmall H [d0, d1] = true) :
    Calls Tryd.prog 10 #[v0, v1] W fun e w' => e = .returned (.bool true) ∧ Below W.heap.size W w' := by
  have hb := Bulk.bound hk
  have b0 := Nat.le_trans (Bulk.part_le (d := d0) (l := [d0, d1]) (by simp)) hb
  obtain ⟨A, n, c, l, rfl, hE, hs, hn, hsum⟩ := open_ents o0 h0 b0
  obtain ⟨s, rfl, hd1, _⟩ := open_string Tryd.underlying9 o1 h1
  have := treeFinds_any hE (by omega) (fun e he => by have := (hs e he).2; omega) s.data.toList (Nat.le_trans (refsAll_sum l) (by omega))
  rwa [show (⟨s.data.toList.toArray⟩ : ByteArray) = s by cases s; simp] at this
end Go.Proofs.YtdhlklidenfbeaaDoor
