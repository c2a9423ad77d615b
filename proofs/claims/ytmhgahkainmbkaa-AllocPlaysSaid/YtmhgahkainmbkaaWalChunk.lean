/- The walk of slices.Chunk at a row of numbers, and of its iterator. -/
import Derived.Test.YtmhgahkainmbkaaWalRows
import Derived.RangeFuncBox
import Derived.RangeFuncLeaves
import Derived.OwnWalkIn
import Derived.TacticsInMore
import Derived.LoopNIn
import Derived.LoopIn
import Derived.RegionIn
import Derived.RangeFuncKeeps
namespace Go.Proofs.Ytmhgahkainmbkaa
open Go.RowKit
set_option linter.unusedVariables false
set_option linter.unusedSimpArgs false
attribute [local go_sem] Oper.semAt_some

theorem slice_int_mark (x : Value) (lo hi mx : Option Value) : Instr.slice 53 x lo hi mx = SliceS 53 x lo hi mx := rfl
theorem SliceS.three {P : Program} {ty e : TypeId} {sz : Nat} (hu : P.underlying ty = some (.slice e)) (hs : (P.info? e).map (·.size) = some sz) {b off n c i k : Nat} {z1 z2 : Int} (h1 : z1 = (i : Int)) (h2 : z2 = ((i + k : Nat) : Int)) (hk : 0 < k) (hc : i + k ≤ c) (w : World) :
    (SliceS ty (.slice (some ⟨b, off, none⟩) n c) (some (.int .i64 z1)) (some (.int .i64 z2)) (some (.int .i64 z2))).run P w = .ok (.slice (some ⟨b, off + i * sz, none⟩) k k) w := by
  subst h1 h2
  cases hq : P.info? e with
  | none => simp [hq] at hs
  | some j =>
    have hj : j.size = sz := by simpa [hq] using hs
    have hne : ¬ i + k = i := by omega
    have hle : ((i : Int) + (k : Int)).toNat = i + k := by omega
    unfold SliceS
    simp [Instr.slice, Instr.sliceBounds, Instr.sliceBound, run_underlying hu, sizeOf, typeInfo, hq, hj, asIntOf, addr_of_add]
    have a1 : (0 : Int) ≤ (i : Int) + (k : Int) ∧ (i : Int) + (k : Int) ≤ (c : Int) := by omega
    simp [a1, hle, hne, show k ≠ 0 by omega, show ¬ k = 0 by omega]
    intro h
    omega
theorem int_size1 : (Try.prog.info? 3).map (·.size) = some 1 := by kernel_rfl
/-- The k-th piece of a row. -/
def piece (b off n k : Nat) : Value := .slice (some ⟨b, off + 60 * k, none⟩) (min 60 (n - 60 * k)) (min 60 (n - 60 * k))
def pieces (n : Nat) : Nat := (n + 59) / 60
section
attribute [local go_sem ↓] slice_int_mark
set_option maxRecDepth 100000 in
set_option maxHeartbeats 4000000 in
theorem chunk1_in (F : Fence) (m : Nat) (h53 : F.fn 71) (hro : F.round = none) (hm : 1 ≤ m) (l Bs Bk b off n cap : Nat) (hn : n ≤ 100000) (hcap : n ≤ cap) (Kp : World → World → Prop) (hKp : ∀ A B, Kp A B → B.cell? ⟨Bs, 0, none⟩ = A.cell? ⟨Bs, 0, none⟩ ∧ B.cell? ⟨Bk, 0, none⟩ = A.cell? ⟨Bk, 0, none⟩) (J Jx : List Nat → World → Prop) (hdr : ∀ pre W, J pre W → J pre W.drew)
    (hY : ∀ pre x W, J pre W → pre.length < pieces n → YieldAt F (m - 1) Try.prog l #[piece b off n x] W fun e W' =>
      (e = .returned (.bool true) ∧ J (pre ++ [x]) W' ∧ Kp W W') ∨ (e = .returned (.bool false) ∧ Jx (pre ++ [x]) W'))
    (W : World) (h1 : W.cell? ⟨Bs, 0, none⟩ = some (.slice (some ⟨b, off, none⟩) n cap)) (h2 : W.cell? ⟨Bk, 0, none⟩ = some (.int .i64 60)) (h0 : J [] W) :
    CallsIn F m Try.prog 71 #[.func (.yield l) #[] #[], .pointer (some ⟨Bs, 0, none⟩), .pointer (some ⟨Bk, 0, none⟩)] W fun e W' => (∃ v, e = .returned v) ∧
      ((∃ ys, ys = List.range (pieces n) ∧ J ys W') ∨ (∃ pre, True ∧ Jx pre W')) := by
  refine callsIn_of_wp Try.func71 rfl h53 ?_ hro
  simp only [Try.ntmps71, List.size_toArray, List.length_cons, List.length_nil, Nat.reduceAdd, Nat.reduceSub, Array.replicate_succ, Array.replicate_zero, List.push_toArray, List.append_toArray, List.nil_append, List.cons_append]
  have H1 := Lib.hid h1
  have H2 := Lib.hid h2
  clear h1 h2
  gi_wp2
  gi_loopw [4] (fun i wr => ∃ k : Nat, k ≤ pieces n ∧ i = .int .i64 ((60 * k : Nat) : Int) ∧ J (List.range k) wr ∧ wr.cell? ⟨Bs, 0, none⟩ = some (.slice (some ⟨b, off, none⟩) n cap) ∧ wr.cell? ⟨Bk, 0, none⟩ = some (.int .i64 60))
    (fun i _ => n + 60 - (intOf i).toNat)
  case atStart => exact ⟨0, Nat.zero_le _, rfl, h0, H1.out, H2.out⟩
  case round =>
    obtain ⟨k, hk, rfl, hJs, hc1, hc2⟩ := hrel
    by_cases hlt : 60 * k < n
    · have hkp : k < pieces n := by unfold pieces; omega
      have hlow := fun W : World => SliceS.low (P := Try.prog) (b := b) (off := off) (n := n) (c := cap) (k := 60 * k) (z := 60 * (k : Int)) Try.underlying53 int_size1 (by omega) (by omega) hcap W
      rw [Nat.mul_one] at hlow
      by_cases hsm : n - 60 * k < 60
      · obtain ⟨q, hq⟩ : ∃ q, q = n - 60 * k := ⟨_, rfl⟩
        have hi1 : ((n : Int) - 60 * (k : Int)) = (q : Int) := by omega
        have h3 := fun W : World => SliceS.three (P := Try.prog) (b := b) (off := off) (n := n) (c := cap) (i := 60 * k) (k := n - 60 * k) (z1 := 60 * (k : Int)) (z2 := 60 * (k : Int) + ((n - 60 * k : Nat) : Int)) Try.underlying53 int_size1 (by omega) (by omega) (by omega) (by omega) W
        rw [Nat.mul_one] at h3
        gi_wp2
        gi_region
        all_goals
          rw [if_pos (show ((n - 60 * k : Nat) : Int) < 60 by omega)]
          obtain ⟨fn, tmps, assign, body, hy, hR⟩ := hY _ k wr.drew (hdr _ _ hJs) (by rw [List.length_range]; exact hkp)
          rw [show piece b off n k = .slice (some ⟨b, off + 60 * k, none⟩) (n - 60 * k) (n - 60 * k) by unfold piece; rw [show min 60 (n - 60 * k) = n - 60 * k by omega]] at hy
          gi_wp2
          refine hR.mono ?_
          rintro e W3 (⟨rfl, hJ3, hk3⟩ | ⟨rfl, hJx3⟩)
          · have hc3 : W3.cell? ⟨Bk, 0, none⟩ = some (.int .i64 60) := (hKp _ _ hk3).2.trans hc2
            have hc4 : W3.cell? ⟨Bs, 0, none⟩ = some (.slice (some ⟨b, off, none⟩) n cap) := (hKp _ _ hk3).1.trans hc1
            gi_wp2
            go_roundw
            case rel => exact ⟨k + 1, by omega, congrArg (Value.int IntKind.i64) (by omega), by rw [List.range_succ]; exact hJ3, hc4, hc3⟩
            case measure => simp [intOf]; omega
          · gi_wp2
            refine bodyPost_ret (results_none rfl _ _ _) rfl ?_
            exact ⟨⟨_, rfl⟩, .inr ⟨_, trivial, hJx3⟩⟩
      · have h3 := fun W : World => SliceS.three (P := Try.prog) (b := b) (off := off) (n := n) (c := cap) (i := 60 * k) (k := 60) (z1 := 60 * (k : Int)) (z2 := 60 * (k : Int) + 60) Try.underlying53 int_size1 (by omega) (by omega) (by omega) (by omega) W
        rw [Nat.mul_one] at h3
        gi_wp2
        gi_region
        all_goals
          rw [if_neg (show ¬ ((n - 60 * k : Nat) : Int) < 60 by omega)]
          obtain ⟨fn, tmps, assign, body, hy, hR⟩ := hY _ k wr.drew (hdr _ _ hJs) (by rw [List.length_range]; exact hkp)
          rw [show piece b off n k = .slice (some ⟨b, off + 60 * k, none⟩) (60) (60) by unfold piece; rw [show min 60 (n - 60 * k) = 60 by omega]] at hy
          gi_wp2
          refine hR.mono ?_
          rintro e W3 (⟨rfl, hJ3, hk3⟩ | ⟨rfl, hJx3⟩)
          · have hc3 : W3.cell? ⟨Bk, 0, none⟩ = some (.int .i64 60) := (hKp _ _ hk3).2.trans hc2
            have hc4 : W3.cell? ⟨Bs, 0, none⟩ = some (.slice (some ⟨b, off, none⟩) n cap) := (hKp _ _ hk3).1.trans hc1
            gi_wp2
            go_roundw
            case rel => exact ⟨k + 1, by omega, congrArg (Value.int IntKind.i64) (by omega), by rw [List.range_succ]; exact hJ3, hc4, hc3⟩
            case measure => simp [intOf]; omega
          · gi_wp2
            refine bodyPost_ret (results_none rfl _ _ _) rfl ?_
            exact ⟨⟨_, rfl⟩, .inr ⟨_, trivial, hJx3⟩⟩
    · obtain rfl : k = pieces n := by unfold pieces at hk ⊢; omega
      gi_wp2
      go_end0
      exact ⟨⟨_, rfl⟩, .inl ⟨_, rfl, hJs⟩⟩
end

/-- **slices.Chunk(s, 60)** hands back a value that 'SeqStopsK'. -/
theorem chunk_in (F : Fence) (m : Nat) (h42 : F.fn 43) (hro : F.round = none) (a : Option Addr) (len cap : Nat) (w : World) :
    CallsIn F m Try.prog 43 #[.slice a len cap, .int .i64 60] w fun e w' => e = .returned (.func (.func 71) #[] #[.pointer (some ⟨w.heap.size, 0, none⟩), .pointer (some ⟨w.heap.size + 1, 0, none⟩)]) ∧ w' = (w.alloc (.cells #[.slice a len cap] 53)).alloc (.cells #[.int .i64 60] 3) := by
  refine callsIn_of_wp Try.func43 rfl h42 ?_ hro
  simp only [Try.ntmps43, List.size_toArray, List.length_cons, List.length_nil, Nat.reduceAdd, Nat.reduceSub, Array.replicate_succ, Array.replicate_zero, List.push_toArray, List.append_toArray, List.nil_append, List.cons_append]
  gi_wp2
  go_ret
  exact ⟨rfl, rfl⟩

theorem chunk_stops (F : Fence) (m : Nat) (h53 : F.fn 71) (hro : F.round = none) (hm : 1 ≤ m) (Bs Bk b off n cap : Nat) (hn : n ≤ 100000) (hcap : n ≤ cap) (w : World) (Kp : World → World → Prop)
    (hKp : ∀ A B, Kp A B → B.cell? ⟨Bs, 0, none⟩ = A.cell? ⟨Bs, 0, none⟩ ∧ B.cell? ⟨Bk, 0, none⟩ = A.cell? ⟨Bk, 0, none⟩) (hBs : Bs < w.heap.size) (hBk : Bk < w.heap.size)
    (h1 : w.cell? ⟨Bs, 0, none⟩ = some (.slice (some ⟨b, off, none⟩) n cap)) (h2 : w.cell? ⟨Bk, 0, none⟩ = some (.int .i64 60)) :
    SeqStopsK F m Try.prog 71 #[.pointer (some ⟨Bs, 0, none⟩), .pointer (some ⟨Bk, 0, none⟩)] (fun x : Nat => #[piece b off n x]) Kp (fun ys => ys = List.range (pieces n)) (fun _ => True) (pieces n) w := fun l J Jx W hW hJ _ hY h0 =>
  chunk1_in F m h53 hro hm l Bs Bk b off n cap hn hcap Kp hKp J Jx
    (fun pre W1 hj => hJ pre W1 W1.drew none hj ⟨rfl, rfl, rfl, Nat.le_refl _, fun _ _ _ => rfl⟩ (fun r hr => by cases hr)) hY W
    ((hW.cell (p := ⟨Bs, 0, none⟩) hBs).trans h1) ((hW.cell (p := ⟨Bk, 0, none⟩) hBk).trans h2) h0
end Go.Proofs.Ytmhgahkainmbkaa
