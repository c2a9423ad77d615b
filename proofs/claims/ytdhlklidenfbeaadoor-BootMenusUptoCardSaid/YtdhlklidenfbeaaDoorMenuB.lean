/- The walks of the reference's with, may, Default, Next (layer 22). -/
import Derived.Test.YtdhlklidenfbeaaDoorMenuA
import Derived.Test.YtdhlklidenfbeaaDoorRef22
import Derived.Test.YtdhlklidenfbeaaDoorLaw22S
namespace Go.Proofs.YtdhlklidenfbeaaDoor
open Go.RowKit
set_option linter.unusedVariables false
set_option linter.unusedSimpArgs false

section
attribute [local go_sem ↓] load_menu_mark store_menu_mark
set_option maxRecDepth 100000 in
set_option maxHeartbeats 1000000 in
theorem with_any {w : World} {B : Nat} {A : Option Addr} {n c : Nat} {l : List Gen} (h : GensAt w B A n c l) (hB : B ≤ w.heap.size) (hn : n ≤ 1000000000) (a b d t : Int) :
    Calls Tryd.prog 77 #[.int .i64 a, .int .i64 b, .int .i64 d, .int .i64 t, .slice A n c] w fun e w' => ∃ v, e = .returned v ∧ MenuGot w w' ⟨a, b, d, t, l⟩ v := by
  obtain ⟨W1, hW1⟩ : ∃ W1, W1 = w.alloc (.cells #[.int .i64 0, .int .i64 0, .int .i64 0, .int .i64 0, .slice none 0 0] 63) := ⟨_, rfl⟩
  have hb1 : Below w.heap.size w W1 := by rw [hW1]; exact (Below.refl _ w).alloc (Nat.le_refl _) _
  have hz1 : W1.heap.size = w.heap.size + 1 := by rw [hW1]; simp
  have hR1 : Blk W1 w.heap.size 63 #[.int .i64 0, .int .i64 0, .int .i64 0, .int .i64 0, .slice none 0 0] := by rw [hW1]; exact Blk.new _ _ _
  have ho2 : (W1.alloc (.cells #[] 69)).ownsRow w.heap.size 69 2 (.slice (some ⟨W1.heap.size, 0, none⟩) 0 0) 0 (([] : List Gen).flatMap genCells) := by
    have := World.ownsRow_made (base := w.heap.size) (e := 69) (size := 2) W1 #[] 0 (by omega) (by decide) rfl
    simpa using this
  have hb2 := hb1.alloc hb1.size (.cells #[] 69)
  obtain ⟨A4, c4, w4, hrun, ho4, hg4, hv4⟩ := append_gens (W1.alloc (.cells #[] 69)) w.heap.size _ 0 [] ho2 (h.below (hb2.mono hB)) (by omega) (by simp; omega)
  rw [Nat.zero_add] at hrun ho4 hv4
  rw [List.nil_append] at ho4
  have hb4 := hb2.grown hg4 hb2.size (fun q hq => (ho2.lt q hq).1)
  have hR4 := (hR1.alloc (.cells #[] 69)).grown hg4 (by simp [Value.ownBlock]; omega)
  have hst := store_menu hR4 rfl a b d t A4 n c4
  have hne : (Value.slice A4 n c4).ownBlock ≠ some w.heap.size := by
    rcases hv4 with hv4 | hv4
    · rw [hv4]; simp [Value.ownBlock]; omega
    · rw [hv4]; simp; omega
  have HO := Lib.hid ho4
  have HB := Lib.hid hb4
  have HR := Lib.hid hR4
  have HNE := Lib.hid hne
  rw [hW1] at hrun
  rw [World.size_alloc] at hrun
  clear hW1 hb1 hz1 hR1 ho2 hb2 ho4 hg4 hv4 hb4 hR4 hne h
  go_enter Tryd.func77, Tryd.ntmps77
  go_wp2_with (at_builtin; refine wpList_append_run rfl _ _ _ rfl rfl rfl hrun ?_; clear hrun)
  refine bodyPost_ret (results_agg (t := 10) (g := w.heap.size) rfl rfl Tryd.isAgg63 Tryd.sizeOf63 rfl (HR.out.row _)) rfl ⟨menuV ⟨a, b, d, t, l⟩ A4 n c4, rfl, A4, n, c4, rfl, own_row HO.out HNE.out _, below_row HB.out (Nat.le_refl _) _⟩

set_option maxRecDepth 100000 in
set_option maxHeartbeats 1000000 in
theorem may_any {w : World} {B : Nat} {A : Option Addr} {n c : Nat} {m : Menu} (h : GensAt w B A n c m.gens) (hB : B ≤ w.heap.size) (hpl : ∀ g ∈ m.gens, g.path.length ≤ 1000000000) (num : Int) :
    Calls Tryd.prog 79 #[menuV m A n c, .int .i64 num] w fun e w' => e = .returned (.int .i64 (findE m num)) ∧ Below w.heap.size w w' := by
  obtain ⟨W1, hW1⟩ : ∃ W1, W1 = w.alloc (.cells #[.int .i64 m.last, .int .i64 m.def_, .int .i64 m.next, .int .i64 m.trial, .slice A n c] 63) := ⟨_, rfl⟩
  have hb1 : Below w.heap.size w W1 := by rw [hW1]; exact (Below.refl _ w).alloc (Nat.le_refl _) _
  have hM1 : MenuBlk W1 w.heap.size m A n c := by rw [hW1]; exact Blk.new _ _ _
  have hr := refRight_any (h.below (hb1.mono hB)) (Nat.le_trans hB hb1.size) hpl
  have hl1 := hM1.load
  rw [hW1] at hr hl1
  have HB1 := Lib.hid hb1
  have HM1 := Lib.hid hM1
  have HH := Lib.hid (fun (W' : World) (hw : Below w.heap.size w W') => has_any (m := m) (h.below (hw.mono hB)) (Nat.le_trans hB hw.size) num)
  have HE := Lib.hid (show findE m num = if menuB m = false then 66 else if hasB m.gens num = false then 67 else 0 from rfl)
  clear hb1 hM1 h
  have key : ∀ (x y : Bool), menuB m = x → hasB m.gens num = y → Calls Tryd.prog 79 #[menuV m A n c, .int .i64 num] w fun e w' => e = .returned (.int .i64 (if x = false then 66 else if y = false then 67 else 0)) ∧ Below w.heap.size w w' := by
    intro x y hx hy
    rw [hx] at hr
    have HH := Lib.hid (fun (W' : World) (hw : Below w.heap.size w W') => by have := HH.out W' hw; rw [hy] at this; exact this)
    clear hx hy HE
    have e0 : menuV m A n c = .agg #[.int .i64 m.last, .int .i64 m.def_, .int .i64 m.next, .int .i64 m.trial, .slice A n c] := rfl
    rw [e0]
    cases x
    all_goals cases y
    all_goals
      go_enter Tryd.func79, Tryd.ntmps79
      go_wp2_with (first
        | (go_at_call 76; refine hr.mono ?_; clear hr; rintro e2 w2 ⟨rfl, hb2⟩; rw [← hW1] at hb2; have hM2 := HM1.out.below hb2 HM1.out.lt; have hl2 := hM2.load; have hw2 := HB1.out.trans (hb2.mono HB1.out.size); have hh := HH.out w2 hw2)
        | (go_at_call 119; refine hh.mono ?_; clear hh; rintro e3 w3 ⟨rfl, hb3⟩))
      go_ret
      exact ⟨rfl, hw2.trans (hb3.mono hw2.size)⟩
  rw [HE.out]
  exact key _ _ rfl rfl
end
end Go.Proofs.YtdhlklidenfbeaaDoor
