/- The walks of both Before (layer 22). -/
import Derived.Test.YtdhlklidenfbeaaDoorMenuD
namespace Go.Proofs.YtdhlklidenfbeaaDoor
open Go.RowKit
set_option linter.unusedVariables false
set_option linter.unusedSimpArgs false

def bestN : Option Int → Int
  | some b => b
  | none => 0
theorem bestTo_zero (l : List Gen) (n : Int) : bestTo l n 0 = none := rfl
/-- One generation more. -/
theorem best_step (l : List Gen) (n : Int) (k : Nat) (h : k < l.length) (r : Option Int) (hr : bestTo l n k = r) :
    (¬ l[k].num < n → bestTo l n (k + 1) = r) ∧ (l[k].num < n → r = none → bestTo l n (k + 1) = some l[k].num) ∧
      (∀ b, l[k].num < n → r = some b → b < l[k].num → bestTo l n (k + 1) = some l[k].num) ∧ (∀ b, l[k].num < n → r = some b → ¬ b < l[k].num → bestTo l n (k + 1) = r) := by
  have hs := bestTo_succ l n k h
  rw [hr] at hs
  refine ⟨fun h1 => ?_, fun h1 h2 => ?_, fun b h1 h2 h3 => ?_, fun b h1 h2 h3 => ?_⟩
  · rw [hs, if_neg (fun hc => h1 hc.1)]
  · rw [hs, if_pos ⟨h1, fun b hb => by rw [h2] at hb; cases hb⟩]
  · rw [hs, if_pos ⟨h1, fun b' hb => by rw [h2] at hb; injection hb with hb; omega⟩]
  · rw [hs, if_neg (fun hc => h3 (hc.2 b h2))]

set_option maxRecDepth 100000 in
set_option maxHeartbeats 2000000 in
theorem before_any {w : World} {B : Nat} {A : Option Addr} {n c : Nat} {m : Menu} (h : GensAt w B A n c m.gens) (hB : B ≤ w.heap.size) (num : Int) :
    Calls Tryd.prog 39 #[menuV m A n c, .int .i64 num] w fun e w' => e = .returned (.tuple #[.int .i64 (bestN (bestTo m.gens num m.gens.length)), .bool (bestTo m.gens num m.gens.length).isSome]) ∧ Below w.heap.size w w' := by
  obtain ⟨W1, hW1⟩ : ∃ W1, W1 = w.alloc (.cells #[.int .i64 m.last, .int .i64 m.def_, .int .i64 m.next, .int .i64 m.trial, .slice A n c] 63) := ⟨_, rfl⟩
  have hb1 : Below w.heap.size w W1 := by rw [hW1]; exact (Below.refl _ w).alloc (Nat.le_refl _) _
  have hM1 : MenuBlk W1 w.heap.size m A n c := by rw [hW1]; exact Blk.new _ _ _
  obtain ⟨c0, c1, c2, c3, c4, cf⟩ := hM1.facts
  have hlen := h.len
  have hn62 : n ≤ 9223372036854775807 := by have := h.slc.le; have := h.slc.cmax; unfold maxLen at this; omega
  have H := Lib.hid h
  have HL := Lib.hid hlen
  have HB1 := Lib.hid hb1
  have e0 : menuV m A n c = .agg #[.int .i64 m.last, .int .i64 m.def_, .int .i64 m.next, .int .i64 m.trial, .slice A n c] := rfl
  rw [hW1] at c0 c1 c2 c3 c4 cf
  clear hM1 h hb1
  rw [e0, hlen]
  subst hW1
  clear hlen
  go_enter Tryd.func39, Tryd.ntmps39
  go_wp2
  clear c0 c1 c2 c3 c4 cf
  go_loopw [6, 7, 13] (fun b o i wr => ∃ k : Nat, k ≤ n ∧ i = .int .i64 (k : Int) ∧ (∃ r, bestTo m.gens num k = r ∧ b = .int .i64 (bestN r) ∧ o = .bool r.isSome) ∧ Aside (Below w.heap.size w wr)) (fun _ _ i _ => n - (intOf i).toNat)
  case atStart => exact ⟨0, Nat.zero_le _, rfl, ⟨none, rfl, rfl, rfl⟩, HB1.out⟩
  case round =>
    obtain ⟨k, hk, rfl, ⟨r, hr, rfl, rfl⟩, hb⟩ := hrel
    by_cases hlt : k < n
    · obtain ⟨b, off, rfl, hbB, hl, d0, d1⟩ := (H.out.below (hb.out.mono hB)).at_ hlt
      have hbl : b < wr.heap.size := Nat.lt_of_lt_of_le hbB (Nat.le_trans hB hb.out.size)
      have HS := Lib.hid (best_step m.gens num k hl r hr)
      have hbw := Lib.hid (hb.out.trans (((Below.refl wr.heap.size wr).alloc (Nat.le_refl _) (.cells #[.int .i64 m.gens[k].num, .string ⟨m.gens[k].path.toArray⟩] 69)).mono hb.out.size))
      generalize m.gens[k] = g at *
      clear hr
      by_cases h1 : g.num < num
      · cases r with
        | none =>
          have HX := Lib.hid (HS.out.2.1 h1 rfl)
          go_wp2
          exact ⟨⟨k + 1, by omega, by go_num, ⟨some g.num, HX.out, rfl, rfl⟩, hbw.out⟩, by simp [intOf]; omega⟩
        | some x =>
          by_cases h2 : x < g.num
          · have HX := Lib.hid (HS.out.2.2.1 x h1 rfl h2)
            have h2' : (bestN (some x)) < g.num := h2
            go_wp2
            exact ⟨⟨k + 1, by omega, by go_num, ⟨some g.num, HX.out, rfl, rfl⟩, hbw.out⟩, by simp [intOf]; omega⟩
          · have HX := Lib.hid (HS.out.2.2.2 x h1 rfl h2)
            have h2' : ¬ (bestN (some x)) < g.num := h2
            go_wp2
            exact ⟨⟨k + 1, by omega, by go_num, ⟨some x, HX.out, rfl, rfl⟩, hbw.out⟩, by simp [intOf]; omega⟩
      · have HX := Lib.hid (HS.out.1 h1)
        go_wp2
        exact ⟨⟨k + 1, by omega, by go_num, ⟨r, HX.out, rfl, rfl⟩, hbw.out⟩, by simp [intOf]; omega⟩
    · obtain rfl : k = n := by omega
      have HR := Lib.hid hr
      clear hr
      go_wp2
      go_ret2
      exact ⟨by rw [HR.out]; rfl, hb.out⟩

set_option maxRecDepth 100000 in
set_option maxHeartbeats 2000000 in
theorem refBefore_any {w : World} {B : Nat} {A : Option Addr} {n c : Nat} {m : Menu} (h : GensAt w B A n c m.gens) (hB : B ≤ w.heap.size) (num : Int) :
    Calls Tryd.prog 40 #[menuV m A n c, .int .i64 num] w fun e w' => e = .returned (.tuple #[.int .i64 (bestN (bestTo m.gens num m.gens.length)), .bool (bestTo m.gens num m.gens.length).isSome]) ∧ Below w.heap.size w w' := by
  obtain ⟨W1, hW1⟩ : ∃ W1, W1 = w.alloc (.cells #[.int .i64 m.last, .int .i64 m.def_, .int .i64 m.next, .int .i64 m.trial, .slice A n c] 63) := ⟨_, rfl⟩
  have hb1 : Below w.heap.size w W1 := by rw [hW1]; exact (Below.refl _ w).alloc (Nat.le_refl _) _
  have hM1 : MenuBlk W1 w.heap.size m A n c := by rw [hW1]; exact Blk.new _ _ _
  obtain ⟨c0, c1, c2, c3, c4, cf⟩ := hM1.facts
  have hlen := h.len
  have hn62 : n ≤ 9223372036854775807 := by have := h.slc.le; have := h.slc.cmax; unfold maxLen at this; omega
  have H := Lib.hid h
  have HL := Lib.hid hlen
  have HB1 := Lib.hid hb1
  have e0 : menuV m A n c = .agg #[.int .i64 m.last, .int .i64 m.def_, .int .i64 m.next, .int .i64 m.trial, .slice A n c] := rfl
  rw [hW1] at c0 c1 c2 c3 c4 cf
  clear hM1 h hb1
  rw [e0, hlen]
  subst hW1
  clear hlen
  go_enter Tryd.func40, Tryd.ntmps40
  go_wp2
  go_loop [6, 7, 8] (fun b o i => ∃ k : Nat, k ≤ n ∧ i = .int .i64 (k : Int) ∧ (∃ r, bestTo m.gens num k = r ∧ b = .int .i64 (bestN r) ∧ o = .bool r.isSome)) (fun _ _ i => n - (intOf i).toNat)
  case atStart => exact ⟨0, Nat.zero_le _, rfl, ⟨none, rfl, rfl, rfl⟩⟩
  case round =>
    obtain ⟨k, hk, rfl, ⟨r, hr, rfl, rfl⟩⟩ := hrel
    by_cases hlt : k < n
    · obtain ⟨b, off, rfl, hbB, hl, d0, d1⟩ := (H.out.below (HB1.out.mono hB)).at_ hlt
      have HS := Lib.hid (best_step m.gens num k hl r hr)
      generalize m.gens[k] = g at *
      clear hr
      by_cases h1 : g.num < num
      · cases r with
        | none =>
          have HX := Lib.hid (HS.out.2.1 h1 rfl)
          go_wp2
          exact ⟨⟨k + 1, by omega, by go_num, ⟨some g.num, HX.out, rfl, rfl⟩⟩, by simp [intOf]; omega⟩
        | some x =>
          by_cases h2 : x < g.num
          · have HX := Lib.hid (HS.out.2.2.1 x h1 rfl h2)
            have h2' : (bestN (some x)) < g.num := h2
            go_wp2
            exact ⟨⟨k + 1, by omega, by go_num, ⟨some g.num, HX.out, rfl, rfl⟩⟩, by simp [intOf]; omega⟩
          · have HX := Lib.hid (HS.out.2.2.2 x h1 rfl h2)
            have h2' : ¬ (bestN (some x)) < g.num := h2
            go_wp2
            exact ⟨⟨k + 1, by omega, by go_num, ⟨some x, HX.out, rfl, rfl⟩⟩, by simp [intOf]; omega⟩
      · have HX := Lib.hid (HS.out.1 h1)
        go_wp2
        exact ⟨⟨k + 1, by omega, by go_num, ⟨r, HX.out, rfl, rfl⟩⟩, by simp [intOf]; omega⟩
    · obtain rfl : k = n := by omega
      have HR := Lib.hid hr
      clear hr
      go_wp2
      go_ret2
      exact ⟨by rw [HR.out]; rfl, HB1.out⟩
end Go.Proofs.YtdhlklidenfbeaaDoor
