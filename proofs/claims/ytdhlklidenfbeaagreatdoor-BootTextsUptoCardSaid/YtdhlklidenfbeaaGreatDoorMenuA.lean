/- The walks of the reference's Same, of spoil and of both Before (layer 22). -/
import Derived.Test.YtdhlklidenfbeaaGreatDoorBootS
import Derived.Test.YtdhlklidenfbeaaGreatDoorBootF
import Derived.Deep.QuietTactic
import Derived.BigQuiet
namespace Go.Proofs.YtdhlklidenfbeaaGreatDoor
open Go.RowKit
set_option linter.unusedVariables false
set_option linter.unusedSimpArgs false

set_option maxRecDepth 100000 in
set_option maxHeartbeats 1000000 in
/-- Two menus that are the same. -/
theorem same_any {w : World} {B : Nat} {A A' : Option Addr} {n c n' c' : Nat} {m : Menu} (h : GensAt w B A n c m.gens) (h' : GensAt w B A' n' c' m.gens) (hB : B ≤ w.heap.size) :
    Calls Tryz.prog 12 #[menuV m A n c, menuV m A' n' c'] w fun e w' => e = .returned (.bool true) ∧ Below w.heap.size w w' := by
  obtain rfl : n = n' := by rw [← h.len, ← h'.len]
  have hn62 : n ≤ 9223372036854775807 := by have := h.slc.le; have := h.slc.cmax; unfold maxLen at this; omega
  obtain ⟨W2, hW2⟩ : ∃ W2, W2 = (w.alloc (.cells #[.int .i64 m.last, .int .i64 m.def_, .int .i64 m.next, .int .i64 m.trial, .slice A n c] 24)).alloc (.cells #[.int .i64 m.last, .int .i64 m.def_, .int .i64 m.next, .int .i64 m.trial, .slice A' n c'] 24) := ⟨_, rfl⟩
  have hb2 : Below w.heap.size w W2 := by rw [hW2]; exact ((Below.refl _ w).alloc (Nat.le_refl _) _).alloc (by simp) _
  have HB2 := Lib.hid hb2
  have H := Lib.hid (h.below (hb2.mono hB))
  have H' := Lib.hid (h'.below (hb2.mono hB))
  clear h h' hb2
  have HW2 := Lib.hid hW2
  subst hW2
  unfold menuV
  go_enter Tryz.func12, Tryz.ntmps12
  go_wp2
  go_loopw [5] (fun i wr => ∃ k : Nat, k ≤ n ∧ i = .int .i64 (k : Int) ∧ Aside (Below w.heap.size w wr) ∧ Aside (∀ p : Addr, wr.cell? p = ((w.alloc (.cells #[.int .i64 m.last, .int .i64 m.def_, .int .i64 m.next, .int .i64 m.trial, .slice A n c] 24)).alloc (.cells #[.int .i64 m.last, .int .i64 m.def_, .int .i64 m.next, .int .i64 m.trial, .slice A' n c'] 24)).cell? p)) (fun i _ => n - (intOf i).toNat)
  case atStart => exact ⟨0, Nat.zero_le _, rfl, HB2.out, fun _ => rfl⟩
  case round =>
    obtain ⟨k, hk, rfl, hb, hc⟩ := hrel
    have c4 : wr.cell? ⟨w.heap.size, 4, none⟩ = some (.slice A n c) := (hc.out _).trans (by simp)
    have c5 : wr.cell? ⟨w.heap.size + 1, 4, none⟩ = some (.slice A' n c') := (hc.out _).trans (by simp)
    by_cases hlt : k < n
    · obtain ⟨b, off, rfl, hbB, hl, d0, d1⟩ := H.out.at_ hlt
      obtain ⟨b', off', rfl, hbB', hl', d0', d1'⟩ := H'.out.at_ hlt
      have d0 := (hc.out _).trans d0
      have d1 := (hc.out _).trans d1
      have d0' := (hc.out _).trans d0'
      have d1' := (hc.out _).trans d1'
      generalize m.gens[k] = g at *
      go_wp2
      go_quiet (fail)
      go_wp2
      exact ⟨⟨k + 1, by omega, by go_num, ⟨hb.out.os, hb.out.tape, hb.out.output, hb.out.size, hb.out.block⟩, fun p => hc.out p⟩, by simp [intOf]; omega⟩
    · go_wp2
      go_ret
      exact ⟨rfl, hb.out⟩

theorem store_gen_mark (x v : Value) : Instr.storeAt 61 x v = StoreS 61 x v := rfl
theorem i_gen : (Tryz.prog.info? 61).map (·.size) = some 2 := by kernel_rfl
theorem store_gen {w : World} {g o : Nat} {cs : Array Value} (h : Blk w g 61 cs) (hc : o + 2 ≤ cs.size) (x : Int) (s : ByteArray) :
    ∃ cs', (StoreS 61 (.pointer (some ⟨g, o, none⟩)) (.agg #[.int .i64 x, .string s])).run Tryz.prog w = .ok () (w.setRow g cs') ∧ cs'.size = cs.size := by
  refine ⟨_, StoreS.of_blk h i_gen hc (fun v hv => ?_), ?_⟩
  · simp only [List.mem_cons, List.not_mem_nil, or_false] at hv
    rcases hv with rfl | rfl <;> rfl
  · simp
    omega

theorem grown_row {w wr : World} {r : Option Nat} (h : w.grownBy wr r) {g : Nat} (hg : r = some g ∨ w.heap.size ≤ g) (cs : Array Value) : w.grownBy (wr.setRow g cs) r := by
  refine ⟨h.os, h.tape, h.output, by simpa [World.setRow] using h.size, fun k hk hne => ?_⟩
  have hkg : k ≠ g := fun e => by
    rcases hg with hg | hg
    · exact hne (by rw [e, hg])
    · omega
  have := h.block k hk hne
  simp only [World.setRow, Array.getElem?_modify]
  rw [if_neg (fun e => hkg e.symm)]
  exact this
end Go.Proofs.YtdhlklidenfbeaaGreatDoor
