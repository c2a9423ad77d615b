/- The walks of the laws' helpers: full, small, image. -/
import Derived.Test.YtjdlaocmifobnaaDskPlain
namespace Go.Proofs.Ytjdlaocmifobnaa
open Go.RowKit
set_option linter.unusedVariables false
set_option linter.unusedSimpArgs false

theorem make_bytes_mark (n c : Value) : Instr.makeSlice 33 n c = MakeS 33 n c := rfl
theorem make128 (W : World) : Sem.run Try.prog (MakeS 33 (.int .i64 128) (.int .i64 128)) W = .ok (.slice (some ⟨W.heap.size, 0, none⟩) 128 128) (W.alloc (.cells (zbytes 128) 5)) := by kernel_rfl

def fullCells (c : UInt8) (k : Nat) : Array Value := ((List.replicate k c).map bv ++ List.replicate (128 - k) (Value.int .u8 0)).toArray
theorem fullCells_size (c : UInt8) (k : Nat) (h : k ≤ 128) : (fullCells c k).size = 128 := by simp [fullCells]; omega
theorem fullCells_at (c : UInt8) (k : Nat) (h : k < 128) : (fullCells c k)[k]? = some (.int .u8 0) := by
  obtain ⟨m, hm⟩ : ∃ m, 128 - k = m + 1 := ⟨127 - k, by omega⟩
  simp [fullCells, List.getElem?_append, hm]
theorem fullCells_set (c : UInt8) (k : Nat) (h : k < 128) : (fullCells c k).setIfInBounds k (bv c) = fullCells c (k + 1) := by
  obtain ⟨m, hm⟩ : ∃ m, 128 - k = m + 1 := ⟨127 - k, by omega⟩
  unfold fullCells
  rw [hm, show 128 - (k + 1) = m by omega]
  apply Array.ext'
  rw [List.replicate_succ' (n := k), List.map_append]
  simp [List.replicate_succ]

section
attribute [local go_sem ↓] make_bytes_mark appendS_mark copyS_mark
attribute [local go_sem] make128

set_option maxRecDepth 100000 in
theorem full_any (c : UInt8) (w : World) :
    Calls Try.prog 20 #[.int .u8 (c.toNat : Int)] w fun e w' => e = .returned (.slice (some ⟨w.heap.size, 0, none⟩) 128 128) ∧ Below w.heap.size w w' ∧ w'.heap.size = w.heap.size + 1 ∧ Blk w' w.heap.size 5 ((List.replicate 128 c).map bv).toArray := by
  go_enter Try.func20, Try.ntmps20
  go_wp2
  go_loopw [4] (fun i wr => ∃ k : Nat, k ≤ 128 ∧ i = .int .i64 (k : Int) ∧ Below w.heap.size w wr ∧ wr.heap.size = w.heap.size + 1 ∧ Blk wr w.heap.size 5 (fullCells c k)) (fun i _ => 128 - (intOf i).toNat)
  case atStart => exact ⟨0, by omega, rfl, (Below.refl _ _).alloc (Nat.le_refl _) _, by simp, by have := Blk.new w 5 (zbytes 128); simpa [fullCells, zbytes] using this⟩
  case round =>
    obtain ⟨k, hk, rfl, hb, hz, hB⟩ := hrel
    by_cases hlt : k < 128
    · have hfz := hB.frozen k
      have hce : wr.cell? ⟨w.heap.size, k, none⟩ = some (.int .u8 0) := by rw [hB.cell, fullCells_at c k hlt]
      have HZ := Lib.hid hz
      have HB := Lib.hid hB
      clear hz hB
      go_wp2
      refine ⟨⟨k + 1, by omega, by go_num, hb.setCell (Nat.le_refl _) _, by rw [← HZ.out]; simp [World.setCell], ?_⟩, by simp [intOf]; omega⟩
      rw [← fullCells_set c k hlt]
      exact HB.out.set_ _ _
    · obtain rfl : k = 128 := by omega
      have HZ := Lib.hid hz
      clear hz
      go_wp2
      go_ret
      exact ⟨rfl, hb, HZ.out, by simpa [fullCells] using hB⟩

theorem full_lit (z : Int) (c : UInt8) (hz : z = (c.toNat : Int)) (w : World) :
    Calls Try.prog 20 #[.int .u8 z] w fun e w' => ∃ g, e = .returned (.slice (some ⟨g, 0, none⟩) 128 128) ∧ NewFull w w' c g := by
  subst hz
  exact (full_any c w).mono fun e w' ⟨he, h1, h2, h3⟩ => ⟨_, he, h1, h2, rfl, h3⟩

/-- small. -/
def smallN (a : Int) (n : Nat) : Nat := (if a < 0 then -(a + 1) else a).toNat % n
theorem smallN_lt (a : Int) {n : Nat} (h : 0 < n) : smallN a n < n := Nat.mod_lt _ h
theorem small_any (a : Int) (ha : -9223372036854775808 ≤ a ∧ a ≤ 9223372036854775807) (n : Nat) (h1 : 1 ≤ n) (h2 : n ≤ 1000000) (w : World) :
    Calls Try.prog 13 #[.int .i64 a, .int .i64 (n : Int)] w fun e w' => e = .returned (.int .i64 (smallN a n : Int)) ∧ w = w' := by
  obtain ⟨ha1, ha2⟩ := ha
  by_cases hneg : a < 0
  · obtain ⟨q, hq⟩ : ∃ q : Nat, -(a + 1) = (q : Int) := ⟨(-(a + 1)).toNat, by omega⟩
    have hs : (smallN a n : Int) = ((q : Int) % (n : Int)) := by unfold smallN; rw [if_pos hneg, hq]; simp
    have hqm : q ≤ 9223372036854775807 := by omega
    have hn0 : ¬ n = 0 := by omega
    have hqt : ((q : Int)).tmod (n : Int) = (q : Int) % (n : Int) := Int.tmod_eq_emod_of_nonneg (by omega)
    have hlt : ((q : Int) % (n : Int)) < (n : Int) := Int.emod_lt_of_pos _ (by omega)
    have hge : 0 ≤ ((q : Int) % (n : Int)) := Int.emod_nonneg _ (by omega)
    rw [hs]
    have HQ := Lib.hid hq
    clear hs hq
    go_enter Try.func13, Try.ntmps13
    go_upto_region 3 with (fail)
    rw [HQ.out]
    go_wp2_with fail
    go_ret
    exact ⟨rfl, rfl⟩
  · obtain ⟨q, hq⟩ : ∃ q : Nat, a = (q : Int) := ⟨a.toNat, by omega⟩
    have hs : (smallN a n : Int) = ((q : Int) % (n : Int)) := by unfold smallN; rw [if_neg hneg, hq]; simp
    have hqm : q ≤ 9223372036854775807 := by omega
    have hn0 : ¬ n = 0 := by omega
    have hqt : ((q : Int)).tmod (n : Int) = (q : Int) % (n : Int) := Int.tmod_eq_emod_of_nonneg (by omega)
    have hlt : ((q : Int) % (n : Int)) < (n : Int) := Int.emod_lt_of_pos _ (by omega)
    have hge : 0 ≤ ((q : Int) % (n : Int)) := Int.emod_nonneg _ (by omega)
    rw [hs]
    subst hq
    clear hs
    go_enter Try.func13, Try.ntmps13
    go_wp2_with fail
    go_ret
    exact ⟨rfl, rfl⟩

variable {w : World} {F : Nat → Prop} {p N : Nat} {D : DiskM}
set_option maxRecDepth 100000 in
set_option maxHeartbeats 1000000 in
theorem image_any (h : Disk w F p N D) (hroom : D.loose.length ≤ 1000000) :
    Calls Try.prog 28 #[.pointer (some ⟨p, 0, none⟩)] w fun e w' => e = .returned (.string ⟨(imgBytes D.now).toArray⟩) ∧ Below w.heap.size w w' := by
  have hok := h.ok
  have hmost := hok.most
  have hcl := clone_any h hroom
  have HCL := Lib.hid hcl
  clear h hcl hroom
  go_enter Try.func28, Try.ntmps28
  go_wp2_with fail
  refine HCL.out.mono ?_
  rintro e w1 ⟨q, rfl, hb1, hd1⟩
  have hst := start_any hd1
  have HB1 := Lib.hid hb1
  have HST := Lib.hid hst
  clear hst hd1 hb1
  go_wp2_with fail
  refine HST.out.mono ?_
  rintro e w2 ⟨rfl, hs2, hd2⟩
  have hb2 : Below w.heap.size w w2 := HB1.out.trans (hs2.below HB1.out.size (fun k hk => hk.1))
  have hLen : ∀ wr, Below w2.heap.size w2 wr → Calls Try.prog 50 #[.pointer (some ⟨q, 0, none⟩)] wr fun e w' => e = .returned (.int .i64 (N : Int)) ∧ wr = w' := fun wr hb => by
    obtain ⟨_, _, _, _, hd⟩ := hd2.free hb
    exact len_any hd
  have hRead : ∀ (wr : World) (k : Nat), Below w2.heap.size w2 wr → k < N → Calls Try.prog 14 #[.pointer (some ⟨q, 0, none⟩), .int .i64 (k : Int)] wr fun e w' => ∃ g, e = .returned (.tuple #[.slice (some ⟨g, 0, none⟩) 128 128, .int .i64 0]) ∧ wr.heap.size ≤ g ∧ Blk w' g 62 ((D.now.getD k []).map bv).toArray ∧ Below wr.heap.size wr w' := fun wr k hb hk => by
    obtain ⟨_, _, _, _, hd⟩ := hd2.free hb
    have := read_any hd (k : Int) (by unfold DiskM.mayE; rw [if_neg (by simp [DiskM.start]), if_pos (by omega)])
    simpa [DiskM.start] using this
  have HLEN := Lib.hid hLen
  have HREAD := Lib.hid hRead
  have HB2 := Lib.hid hb2
  clear hLen hRead hs2 hd2 hb2
  go_wp2_with fail
  go_loopw [4, 5] (fun v i wr => ∃ k : Nat, k ≤ N ∧ i = .int .i64 (k : Int) ∧ Below w2.heap.size w2 wr ∧ wr.ownsRow w2.heap.size 5 1 v (k * 128) ((imgBytes (D.now.take k)).map bv)) (fun _ i _ => N - (intOf i).toNat)
  case atStart => exact ⟨0, Nat.zero_le _, rfl, Below.refl _ _, by simpa [imgBytes] using World.ownsRow_nil w2 w2.heap.size 5 1⟩
  case round =>
    obtain ⟨k, hk, rfl, hb, hown⟩ := hrel
    obtain ⟨A, c, rfl, hsl, hsp⟩ := own_slc hown
    by_cases hlt : k < N
    · have HOWN := Lib.hid hown
      clear hown hsl hsp
      go_wp2_with fail
      refine (HLEN.out wr hb).mono ?_
      rintro e w1 ⟨rfl, rfl⟩
      go_wp2_with fail
      refine (HREAD.out wr k hb hlt).mono ?_
      rintro e w1 ⟨g, rfl, hg, hB, hb1⟩
      have hs := hb.size
      have hs1 := hb1.size
      have hbl := sector_len hok hlt
      have hsec := hB.slc (sz := 1) (n := 128) (c := 128) (by rw [List.size_toArray, List.length_map, hbl]; exact Nat.le_refl _) (Nat.le_refl _) (by decide)
      rw [List.take_of_length_le (by rw [List.length_map, hbl]; exact Nat.le_refl _)] at hsec
      have hown1 : w1.ownsRow w2.heap.size 5 1 (.slice A (k * 128) c) (k * 128) ((imgBytes (D.now.take k)).map bv) := by
        refine HOWN.out.kept (w' := w1) (row := none) ⟨hb1.os, hb1.tape, hb1.output, hb1.size, fun j hj _ => hb1.block j hj⟩ ?_
        cases (Value.slice A (k * 128) c).ownBlock <;> simp
      obtain ⟨A2, c2, w3, hr2, hown2, hg2, hat2⟩ := append_bytes w1 w2.heap.size _ _ _ hown1 _ _ 128 128 _ hsec (by omega) (by omega)
      have hr2' : (AppendS #[33, 33] 33 #[.slice A (k * 128) c, .slice (some ⟨g, 0, none⟩) 128 128]).run Try.prog w1 = .ok (.slice A2 (k * 128 + 128) c2) w3 := hr2
      have hb3 : Below w2.heap.size w2 w3 := (hb.trans (hb1.mono hs)).grown hg2 (by omega) (fun j hj => (hown1.lt j hj).1)
      have HOWN2 := Lib.hid hown2
      clear hr2 hown1 hown2 hg2 hat2 hsec hbl hB
      go_wp2_with fail
      refine ⟨⟨k + 1, by omega, by go_num, hb3, ?_⟩, by simp [intOf]; omega⟩
      rw [imgBytes_take D.now k (by rw [hok.nowLen]; exact hlt), show (k + 1) * 128 = k * 128 + 128 by omega]
      exact HOWN2.out
    · obtain rfl : k = N := by omega
      rw [List.take_of_length_le (by rw [hok.nowLen]; exact Nat.le_refl _)] at hsl
      have hcv := convert_bytes Try.underlying33 Try.underlying5 hsl 9 Try.underlying9
      clear hown hsl hsp
      go_wp2_with fail
      refine (HLEN.out wr hb).mono ?_
      rintro e w1 ⟨rfl, rfl⟩
      go_wp2_with fail
      go_ret
      exact ⟨rfl, HB2.out.trans (hb.mono HB2.out.size)⟩
end
end Go.Proofs.Ytjdlaocmifobnaa
