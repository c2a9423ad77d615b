/- The walks of may and Format. -/
import Derived.Test.YtmhgahkainmbkaaWalEq
namespace Go.Proofs.Ytmhgahkainmbkaa
open Go.RowKit
set_option linter.unusedVariables false
set_option linter.unusedSimpArgs false

def mayB (N : Nat) (i n : Int) : Bool := decide (4 ≤ n ∧ n ≤ 255 ∧ 0 ≤ i ∧ i ≤ (N : Int) - n)
section
variable {w w' : World} {pd N : Nat} {F G : Nat → Prop} {D : DiskM}
set_option maxHeartbeats 1000000 in
theorem may2_any (h : Disk w F pd N D) (i n : Int) (hi : -9223372036854775808 ≤ i ∧ i ≤ 9223372036854775807) (hn : -9223372036854775808 ≤ n ∧ n ≤ 9223372036854775807) :
    Calls Try.prog 62 #[.pointer (some ⟨pd, 0, none⟩), .int .i64 i, .int .i64 n] w fun e w' => e = .returned (.bool (mayB N i n)) ∧ w = w' := by
  have hN := h.ok.most
  have HL := Lib.hid (dLen h)
  obtain ⟨hi1, hi2⟩ := hi
  obtain ⟨hn1, hn2⟩ := hn
  clear h
  by_cases h1 : 4 ≤ n
  · by_cases h2 : n ≤ 255
    · have hs : IntKind.i64.wrap ((N : Int) - n) = (N : Int) - n := IntWalk.i64_in _ (by omega)
      by_cases h3 : 0 ≤ i
      · by_cases h4 : i ≤ (N : Int) - n
        · rw [show mayB N i n = true from by unfold mayB; rw [decide_eq_true_eq]; omega]
          clear hi1 hi2 hn1 hn2
          go_enter Try.func62, Try.ntmps62
          go_wp2_with fail
          refine HL.out.mono ?_
          rintro e w' ⟨rfl, rfl⟩
          go_wp2_with fail
          go_ret
          exact ⟨rfl, rfl⟩
        · rw [show mayB N i n = false from by unfold mayB; rw [decide_eq_false_iff_not]; omega]
          have d4 : decide (i ≤ (N : Int) - n) = false := decide_eq_false h4
          clear hi1 hi2 hn1 hn2 h4
          go_enter Try.func62, Try.ntmps62
          go_wp2_with fail
          refine HL.out.mono ?_
          rintro e w' ⟨rfl, rfl⟩
          go_wp2_with fail
          go_ret
          exact ⟨rfl, rfl⟩
      · rw [show mayB N i n = false from by unfold mayB; rw [decide_eq_false_iff_not]; omega]
        clear hi1 hi2 hn1 hn2
        go_enter Try.func62, Try.ntmps62
        go_wp2_with fail
        go_ret
        exact ⟨rfl, rfl⟩
    · rw [show mayB N i n = false from by unfold mayB; rw [decide_eq_false_iff_not]; omega]
      clear hi1 hi2 hn1 hn2
      go_enter Try.func62, Try.ntmps62
      go_wp2_with fail
      go_ret
      exact ⟨rfl, rfl⟩
  · rw [show mayB N i n = false from by unfold mayB; rw [decide_eq_false_iff_not]; omega]
    clear hi1 hi2 hn1 hn2
    go_enter Try.func62, Try.ntmps62
    go_wp2_with fail
    go_ret
    exact ⟨rfl, rfl⟩

/-- Format: what it answers, and the disk behind it. -/
def ctl0 : List UInt8 := ctl 1 0 begin64.toNat
def formatR (N : Nat) (D : DiskM) (i n : Int) : Int × DiskM :=
  if mayB N i n = false then (50, D)
  else if D.writeE N i ctl0 ≠ 0 then (D.writeE N i ctl0, D.write N i ctl0)
  else ((D.write N i ctl0).flushE, (D.write N i ctl0).flush)
def Done2 (w : World) (F : Nat → Prop) (pd N : Nat) (r : Int × DiskM) (e : Ending) (w' : World) : Prop := e = .returned (.int .i64 r.1) ∧ ∃ F', Step w w' F F' ∧ Disk w' F' pd N r.2
theorem sum_nil (w : World) : Calls Try.prog 65 #[.slice none 0 0] w fun e w' => e = .returned (.int .u64 (begin64.toNat : Int)) ∧ w = w' :=
  sum_any none 0 0 w.heap.size [] w ⟨rfl, Nat.le_refl _, Nat.zero_le _, fun h => absurd h (by decide)⟩
section
attribute [local go_sem ↓] load_wsector_mark store_wsector_mark alloc_wsector_mark
attribute [local go_sem] alloc_wsector
set_option maxRecDepth 100000 in
set_option maxHeartbeats 2000000 in
theorem format_any (h : Disk w F pd N D) (i n : Int) (hi : -9223372036854775808 ≤ i ∧ i ≤ 9223372036854775807) (hn : -9223372036854775808 ≤ n ∧ n ≤ 9223372036854775807) (hroom : D.loose.length ≤ 1000000) :
    Calls Try.prog 34 #[.pointer (some ⟨pd, 0, none⟩), .int .i64 i, .int .i64 n] w (Done2 w F pd N (formatR N D i n)) := by
  have HM := Lib.hid (may2_any h i n hi hn)
  have H := Lib.hid h
  have HRM := Lib.hid hroom
  obtain ⟨R, hR⟩ : ∃ R, R = formatR N D i n := ⟨_, rfl⟩
  rw [← hR]
  have HR := Lib.hid hR
  clear h hR hi hn hroom
  cases hm : mayB N i n with
  | false =>
    have HM2 := HM.out
    rw [hm] at HM2
    have HM3 := Lib.hid HM2
    have hRR : R = (50, D) := by rw [HR.out]; unfold formatR; rw [if_pos hm]
    have HRR := Lib.hid hRR
    clear hm HM2 hRR
    go_enter Try.func34, Try.ntmps34
    go_wp2_with fail
    refine HM3.out.mono ?_
    rintro e w' ⟨rfl, rfl⟩
    go_wp2_with fail
    go_ret
    rw [HRR.out]
    exact ⟨rfl, F, Step.refl _ _, H.out⟩
  | true =>
    have HM2 := HM.out
    rw [hm] at HM2
    have HM3 := Lib.hid HM2
    obtain ⟨f, hf⟩ : ∃ f, f = ctl0 := ⟨_, rfl⟩
    have hfl : f.length = 128 := by rw [hf]; exact ctl_length _ _ _
    have hC : ∀ W : World, Calls Try.prog 64 #[.int .u64 1, .int .i64 0, .int .u64 (begin64.toNat : Int)] W fun e' w' => e' = .returned (.agg (f.map bv).toArray) ∧ Below W.heap.size W w' := fun W => by
      rw [hf]; exact control_any 1 0 begin64.toNat (by decide) (by decide) (UInt64.toNat_lt _) W
    obtain ⟨E1, hE1⟩ : ∃ E, E = D.writeE N i f := ⟨_, rfl⟩
    obtain ⟨D1, hD1⟩ : ∃ D', D' = D.write N i f := ⟨_, rfl⟩
    have hRR : R = if E1 ≠ 0 then (E1, D1) else (D1.flushE, D1.flush) := by rw [HR.out]; unfold formatR; rw [if_neg (by simp [hm]), ← hf, ← hE1, ← hD1]
    have HRR := Lib.hid hRR
    have HC := Lib.hid hC
    have HE1 := Lib.hid hE1
    have HD1 := Lib.hid hD1
    clear hm HM2 hRR hC hE1 hD1 hf
    go_enter Try.func34, Try.ntmps34
    go_wp2_with fail
    refine HM3.out.mono ?_
    rintro e w' ⟨rfl, rfl⟩
    go_wp2_with fail
    refine (sum_nil w).mono ?_
    rintro e w' ⟨rfl, rfl⟩
    go_wp2_with fail
    refine (HC.out w).mono ?_
    rintro e w2 ⟨rfl, hb2⟩
    have hst := StoreS.new (P := Try.prog) (ty := 80) (t := 80) (c := zbytes 128) (x := (f.map bv).toArray) (by simp only [List.size_toArray, List.length_map, hfl]; exact i_wsector) (by simp [zbytes_size, hfl]) (fun v hv => bvs_one f v (by simpa using hv)) w2
    obtain ⟨w3, hw3⟩ : ∃ w3, w3 = w2.alloc (.cells (f.map bv).toArray 80) := ⟨_, rfl⟩
    have hb3 : Below w.heap.size w w3 := by rw [hw3]; exact hb2.alloc hb2.size _
    have hd3 := H.out.free hb3
    have hB3 : Blk w3 w2.heap.size 80 (f.map bv).toArray := by rw [hw3]; exact Blk.new _ _ _
    have hS3 := hB3.slc (sz := 1) (n := 128) (c := 128) (by simp [hfl]) (Nat.le_refl _) (by decide)
    rw [Nat.mul_one, List.take_of_length_le (by simp [hfl])] at hS3
    have hsep : ∀ a : Addr, some (⟨w2.heap.size, 0, none⟩ : Addr) = some a → ¬ F a.block := fun a ha hf => by
      injection ha with ha; subst ha
      have h1 := H.out.1 _ hf
      have h2 := hb2.size
      simp only at h1; omega
    have hwr := write_any hd3 i hS3 hsep HRM.out
    rw [← HE1.out, ← HD1.out, hw3] at hwr
    have HWR := Lib.hid hwr
    have HB3 := Lib.hid hb3
    have HW3 := Lib.hid hw3
    clear hw3 hb3 hd3 hB3 hS3 hsep hwr hb2 hfl
    go_wp2_with fail
    refine HWR.out.mono ?_
    rintro e w4 ⟨rfl, F4, hs4, hd4⟩
    have hs5 : Step w w4 F F4 := by rw [← HW3.out] at hs4; exact (Step.of_below HB3.out F).trans hs4
    have HS5 := Lib.hid hs5
    have HD4 := Lib.hid hd4
    clear hs4 hs5 hd4
    by_cases h1 : E1 = 0
    · subst h1
      go_wp2_with fail
      refine (flush_any HD4.out).mono ?_
      rintro e w5 ⟨rfl, hs6, hd6⟩
      have HS6 := Lib.hid hs6
      have HD6 := Lib.hid hd6
      clear hs6 hd6
      go_wp2_with fail
      go_ret
      rw [HRR.out, if_neg (by simp)]
      exact ⟨rfl, F4, HS5.out.trans HS6.out, HD6.out⟩
    · go_wp2_with fail
      go_ret
      rw [HRR.out, if_pos h1]
      exact ⟨rfl, F4, HS5.out, HD4.out⟩
end
end
end Go.Proofs.Ytmhgahkainmbkaa
