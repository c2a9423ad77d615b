/- The walks of the reference's Same, of spoil and of both Before (layer 22). -/
import Derived.Test.YtdhlklidenfbeaaDoorBootS
import Derived.Test.YtdhlklidenfbeaaDoorBootF
import Derived.Deep.QuietTactic
import Derived.BigQuiet
namespace Go.Proofs.YtdhlklidenfbeaaDoor
open Go.RowKit
set_option linter.unusedVariables false
set_option linter.unusedSimpArgs false

set_option maxRecDepth 100000 in
set_option maxHeartbeats 1000000 in
/-- Two menus that are the same. -/
theorem same_any {w : World} {B : Nat} {A A' : Option Addr} {n c n' c' : Nat} {m : Menu} (h : GensAt w B A n c m.gens) (h' : GensAt w B A' n' c' m.gens) (hB : B ≤ w.heap.size) :
    Calls Tryd.prog 33 #[menuV m A n c, menuV m A' n' c'] w fun e w' => e = .returned (.bool true) ∧ Below w.heap.size w w' := by
  obtain rfl : n = n' := by rw [← h.len, ← h'.len]
  have hn62 : n ≤ 9223372036854775807 := by have := h.slc.le; have := h.slc.cmax; unfold maxLen at this; omega
  obtain ⟨W2, hW2⟩ : ∃ W2, W2 = (w.alloc (.cells #[.int .i64 m.last, .int .i64 m.def_, .int .i64 m.next, .int .i64 m.trial, .slice A n c] 63)).alloc (.cells #[.int .i64 m.last, .int .i64 m.def_, .int .i64 m.next, .int .i64 m.trial, .slice A' n c'] 63) := ⟨_, rfl⟩
  have hb2 : Below w.heap.size w W2 := by rw [hW2]; exact ((Below.refl _ w).alloc (Nat.le_refl _) _).alloc (by simp) _
  have HB2 := Lib.hid hb2
  have H := Lib.hid (h.below (hb2.mono hB))
  have H' := Lib.hid (h'.below (hb2.mono hB))
  clear h h' hb2
  have HW2 := Lib.hid hW2
  subst hW2
  unfold menuV
  go_enter Tryd.func33, Tryd.ntmps33
  go_wp2
  go_loopw [5] (fun i wr => ∃ k : Nat, k ≤ n ∧ i = .int .i64 (k : Int) ∧ Aside (Below w.heap.size w wr) ∧ Aside (∀ p : Addr, wr.cell? p = ((w.alloc (.cells #[.int .i64 m.last, .int .i64 m.def_, .int .i64 m.next, .int .i64 m.trial, .slice A n c] 63)).alloc (.cells #[.int .i64 m.last, .int .i64 m.def_, .int .i64 m.next, .int .i64 m.trial, .slice A' n c'] 63)).cell? p)) (fun i _ => n - (intOf i).toNat)
  case atStart => exact ⟨0, Nat.zero_le _, rfl, HB2.out, fun _ => rfl⟩
  case round =>
    obtain ⟨k, hk, rfl, hb, hc⟩ := hrel
    have c4 : wr.cell? ⟨w.heap.size, 4, none⟩ = some (.slice A n c) := (hc.out _).trans (by simp)
    have c5 : wr.cell? ⟨w.heap.size + 1, 4, none⟩ = some (.slice A' n c') := (hc.out _).trans (by simp)
    by_cases hlt : k < n
    · obtain ⟨b, off, rfl, hbB, hl, d0, d1⟩ := H.out.at_ hlt
      obtain ⟨b', off', rfl, hbB', hl', d0', d1'⟩ := H'.out.at_ hlt
      have d0 := (hc.out _).trans d0
      have d1 := (hc.out _).trans d1
      have d0' := (hc.out _).trans d0'
      have d1' := (hc.out _).trans d1'
      generalize m.gens[k] = g at *
      go_wp2
      go_quiet (fail)
      go_wp2
      exact ⟨⟨k + 1, by omega, by go_num, ⟨hb.out.os, hb.out.tape, hb.out.output, hb.out.size, hb.out.block⟩, fun p => hc.out p⟩, by simp [intOf]; omega⟩
    · go_wp2
      go_ret
      exact ⟨rfl, hb.out⟩

theorem store_gen_mark (x v : Value) : Instr.storeAt 69 x v = StoreS 69 x v := rfl
theorem i_gen : (Tryd.prog.info? 69).map (·.size) = some 2 := by kernel_rfl
theorem store_gen {w : World} {g o : Nat} {cs : Array Value} (h : Blk w g 69 cs) (hc : o + 2 ≤ cs.size) (x : Int) (s : ByteArray) :
    ∃ cs', (StoreS 69 (.pointer (some ⟨g, o, none⟩)) (.agg #[.int .i64 x, .string s])).run Tryd.prog w = .ok () (w.setRow g cs') ∧ cs'.size = cs.size := by
  refine ⟨_, StoreS.of_blk h i_gen hc (fun v hv => ?_), ?_⟩
  · simp only [List.mem_cons, List.not_mem_nil, or_false] at hv
    rcases hv with rfl | rfl <;> rfl
  · simp
    omega

theorem grown_row {w wr : World} {r : Option Nat} (h : w.grownBy wr r) {g : Nat} (hg : r = some g ∨ w.heap.size ≤ g) (cs : Array Value) : w.grownBy (wr.setRow g cs) r := by
  refine ⟨h.os, h.tape, h.output, by simpa [World.setRow] using h.size, fun k hk hne => ?_⟩
  have hkg : k ≠ g := fun e => by
    rcases hg with hg | hg
    · exact hne (by rw [e, hg])
    · omega
  have := h.block k hk hne
  simp only [World.setRow, Array.getElem?_modify]
  rw [if_neg (fun e => hkg e.symm)]
  exact this
section
attribute [local go_sem ↓] store_gen_mark
set_option maxRecDepth 100000 in
set_option maxHeartbeats 1000000 in
/-- Whoever has a menu writes over it, and behind. -/
theorem spoil_any {w : World} {base : Nat} {A : Option Addr} {n c : Nat} {m : Menu} (h : w.ownsRow base 69 2 (.slice A n c) n (m.gens.flatMap genCells)) (hbase : base ≤ w.heap.size) (hn : n ≤ 1000000000) :
    Calls Tryd.prog 34 #[menuV m A n c] w fun e w' => e = .returned (.tuple #[]) ∧ w.grownBy w' (Value.slice A n c).ownBlock := by
  obtain ⟨W1, hW1⟩ : ∃ W1, W1 = w.alloc (.cells #[.int .i64 m.last, .int .i64 m.def_, .int .i64 m.next, .int .i64 m.trial, .slice A n c] 63) := ⟨_, rfl⟩
  have hb1 : Below base w W1 := by rw [hW1]; exact (Below.refl _ w).alloc hbase _
  have hz1 : W1.heap.size = w.heap.size + 1 := by rw [hW1]; simp
  have ho1 : W1.ownsRow base 69 2 (.slice A n c) n (m.gens.flatMap genCells) := by rw [hW1]; exact h.alloc _
  have hk : GensAt (W1.alloc (.cells #[.int .i64 0, .string .empty] 69)) (W1.heap.size + 1) (some ⟨W1.heap.size, 0, none⟩) 1 1 [⟨0, []⟩] :=
    ⟨slc_new W1 69 (0, 0) #[.int .i64 0, .string .empty] (sz := 2) (n := 1) (c := 1) rfl (Nat.le_refl _) (by decide), rfl⟩
  obtain ⟨A8, k8, w8, h1, h2, h3, h4⟩ := append_gens (W1.alloc (.cells #[.int .i64 0, .string .empty] 69)) base _ n m.gens (ho1.alloc _) hk (by omega) (by simp; omega)
  have hb8 : w.grownBy w8 (Value.slice A n c).ownBlock := by
    have hb2 : Below w.heap.size w (W1.alloc (.cells #[.int .i64 0, .string .empty] 69)) := by
      rw [hW1]; exact ((Below.refl _ w).alloc (Nat.le_refl _) _).alloc (by simp) _
    exact ⟨h3.os.trans hb2.os, h3.tape.trans hb2.tape, h3.output.trans hb2.output, Nat.le_trans hb2.size h3.size, fun k hk hne => (h3.block k (Nat.lt_of_lt_of_le hk hb2.size) hne).trans (hb2.block k hk)⟩
  obtain ⟨g, cur, rfl, hg, hB8, hsz⟩ : ∃ g cur, A8 = some ⟨g, 0, none⟩ ∧ ((Value.slice A n c).ownBlock = some g ∨ w.heap.size ≤ g) ∧ Blk w8 g 69 cur ∧ (n + 1) * 2 ≤ cur.size := by
    rcases h2.2 with ⟨_, h0⟩ | ⟨g, cap, cur, e1, e2, e3, e4, e5, e6, e7⟩
    · omega
    · injection e1 with e1 e8 e9
      refine ⟨g, cur, e1, ?_, e3, by rw [e6]; exact Nat.mul_le_mul_right _ e4⟩
      rcases h4 with h4 | h4
      · rw [e1] at h4
        exact .inl h4.symm
      · rw [e1] at h4
        simp only [Value.ownBlock, Option.some.injEq, World.size_alloc] at h4
        exact .inr (by omega)
  have HB8 := Lib.hid hb8
  have HBL := Lib.hid hB8
  have HSZ := Lib.hid hsz
  have HG := Lib.hid hg
  have hrun := h1
  rw [hW1] at hrun
  rw [World.size_alloc] at hrun
  clear hb1 hz1 ho1 hk h2 h3 h4 hb8 hB8 hsz hg h1 hW1 h
  unfold menuV
  go_enter Tryd.func34, Tryd.ntmps34
  go_wp2_with (at_builtin; refine wpList_append_run rfl _ _ _ rfl rfl rfl hrun ?_; clear hrun)
  go_loopw [3] (fun i wr => ∃ k : Nat, k ≤ n + 1 ∧ i = .int .i64 (k : Int) ∧ Aside (∃ cur, Blk wr g 69 cur ∧ (n + 1) * 2 ≤ cur.size) ∧ Aside (w.grownBy wr (Value.slice A n c).ownBlock)) (fun i _ => n + 1 - (intOf i).toNat)
  case atStart => exact ⟨0, Nat.zero_le _, rfl, ⟨_, HBL.out, HSZ.out⟩, HB8.out⟩
  case round =>
    obtain ⟨k, hk, rfl, hcur, hb⟩ := hrel
    obtain ⟨cur, hBl, hsz⟩ := hcur.out
    have HCUR := Lib.hid hcur.out
    by_cases hlt : k < n + 1
    · obtain ⟨cs, hst, hcs⟩ := store_gen hBl (o := k * 2) (by omega) (-1) ⟨#[]⟩
      have HX := Lib.hid (show Blk (wr.setRow g cs) g 69 cs ∧ (n + 1) * 2 ≤ cs.size from ⟨hBl.row _, by omega⟩)
      clear hBl hsz hcs
      go_wp2
      exact ⟨⟨k + 1, by omega, by go_num, ⟨_, HX.out.1, HX.out.2⟩, grown_row hb.out HG.out _⟩, by simp [intOf]; omega⟩
    · go_wp2
      go_end0
      exact ⟨rfl, hb.out⟩
end
end Go.Proofs.YtdhlklidenfbeaaDoor
