/- TreeBytes: the argument opened, where it is of bulk at most 1048576. -/
import Derived.Test.YtdhlklidenfbeaaDoorLaw08B
import Derived.Test.YtdhlklidenfbeaaDoorArgE
namespace Go.Proofs.YtdhlklidenfbeaaDoor
open Go.RowKit Go.ChangeShapes Go.WideShapes
set_option linter.unusedVariables false
set_option linter.unusedSimpArgs false

theorem g_pow : Tryd.prog.globalNamed "internal/strconv.uint64pow10" = some 2 := by kernel_rfl
set_option maxRecDepth 100000 in
theorem pow_tab {l : List (String × DataW Unit)} {W : World} (hl : l.filter (fun x => x.1 == "internal/strconv.uint64pow10") = [("internal/strconv.uint64pow10", Lib.tabData .u64 Lib.pow10Tab)]) (h : laidMetH Tryd.prog l W) : TabOk W := by
  have h1 := h.filter (fun x => x.1 == "internal/strconv.uint64pow10")
  rw [hl, MakeChecks.laidMetH_plain _ _ _ (by kernel_rfl)] at h1
  exact tab_ok g_pow (Lib.tabIs_of_head (rest := []) g_pow (by kernel_rfl) Tryd.underlying211 Tryd.underlying84 (by kernel_rfl) (by kernel_rfl) h1)
set_option maxRecDepth 100000 in
theorem TreeBytes_walk {H : Type} {enc : TypeId × Value → H} (W : World) (base : Nat) (v0 : Value) (d0 : DataW H) (p0 : List MemPlace)
    (o0 : Value.okWide Tryd.prog W .any base 28 v0) (h0 : DataW.Trod enc Tryd.prog W 0 (fun _ => true) true 28 v0 d0 p0)
    (hsz : (DataW.weightsEach Tryd.prog [28] [d0]).all (· ≤ reachBytes) = true) (hk : Rows.uptoSmall H [d0] = true) (hL : laidMetH Tryd.prog Rows.treeBytesUptoRow.laid W) :
    Calls Tryd.prog 11 #[v0] W fun e w' => e = .returned (.bool true) ∧ Below W.heap.size W w' := by
  have hb := Bulk.bound hk
  have b0 := Nat.le_trans (Bulk.part_le (d := d0) (l := [d0]) (by simp)) hb
  obtain ⟨A, n, c, l, rfl, hE, hs, hn⟩ := open_ents o0 h0 b0
  exact treeBytes_any hE (by omega) (fun e he => by have := (hs e he).1; omega) (fun e he => by have := (hs e he).2; omega) (pow_tab (by kernel_rfl) hL)
end Go.Proofs.YtdhlklidenfbeaaDoor
