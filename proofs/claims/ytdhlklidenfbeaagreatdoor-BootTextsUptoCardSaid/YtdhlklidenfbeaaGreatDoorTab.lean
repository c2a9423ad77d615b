/- The table of tens, where the row says that it lies as it was laid. -/
import Derived.Test.YtdhlklidenfbeaaGreatDoorItoa
import Derived.LaidSub
import Derived.MakeChecks
import Derived.WalkSmall
import Derived.Lib.LaidTab
namespace Go.Proofs.YtdhlklidenfbeaaGreatDoor
open Go.RowKit
set_option linter.unusedVariables false
set_option linter.unusedSimpArgs false

/-- The table of tens lies as it was laid, now and later. -/
structure TabOk (w : World) : Prop where
  tab : ∀ w', Below w.heap.size w w' → Lib.TabIs Tryz.prog w' "internal/strconv.uint64pow10" .u64 Lib.pow10Tab
theorem TabOk.below {w w' : World} (h : TabOk w) (hb : Below w.heap.size w w') : TabOk w' := ⟨fun v hv => h.tab v (hb.trans (hv.mono hb.size))⟩
theorem TabOk.itoa {w : World} (h : TabOk w) (n : Nat) (hn : n < 100000) : ItoaOk w (n : Int) := itoa_tab w n hn h.tab
theorem tab_ok {w : World} {g : Nat} (hg : Tryz.prog.globalNamed "internal/strconv.uint64pow10" = some g) (h : Lib.TabIs Tryz.prog w "internal/strconv.uint64pow10" .u64 Lib.pow10Tab) : TabOk w := by
  refine ⟨fun w' hb => ?_⟩
  unfold Lib.TabIs at h ⊢
  have hlt : g < w.heap.size := by
    unfold World.var? at h
    rw [hg] at h
    simp only [Option.bind_some] at h
    rcases Nat.lt_or_ge g w.heap.size with h1 | h1
    · exact h1
    · rw [Array.getElem?_eq_none h1] at h; cases h
  exact var?_below hb hg hlt h
end Go.Proofs.YtdhlklidenfbeaaGreatDoor
