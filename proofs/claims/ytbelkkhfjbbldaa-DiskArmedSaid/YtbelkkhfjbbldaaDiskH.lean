/- The walks of the laws' helpers on disks: full, sector. -/
import Derived.Test.YtbelkkhfjbbldaaDiskOps
namespace Go.Proofs.Ytbelkkhfjbbldaa
open Go.RowKit
set_option linter.unusedVariables false
set_option linter.unusedSimpArgs false

theorem make_bytes_mark (n c : Value) : Instr.makeSlice 23 n c = MakeS 23 n c := rfl
theorem make128 (W : World) : Sem.run Try.prog (MakeS 23 (.int .i64 128) (.int .i64 128)) W = .ok (.slice (some ⟨W.heap.size, 0, none⟩) 128 128) (W.alloc (.cells (zbytes 128) 5)) := by kernel_rfl

def fullCells (c : UInt8) (k : Nat) : Array Value := ((List.replicate k c).map bv ++ List.replicate (128 - k) (Value.int .u8 0)).toArray
theorem fullCells_size (c : UInt8) (k : Nat) (h : k ≤ 128) : (fullCells c k).size = 128 := by simp [fullCells]; omega
theorem fullCells_at (c : UInt8) (k : Nat) (h : k < 128) : (fullCells c k)[k]? = some (.int .u8 0) := by
  obtain ⟨m, hm⟩ : ∃ m, 128 - k = m + 1 := ⟨127 - k, by omega⟩
  simp [fullCells, List.getElem?_append, hm]
theorem fullCells_set (c : UInt8) (k : Nat) (h : k < 128) : (fullCells c k).setIfInBounds k (bv c) = fullCells c (k + 1) := by
  obtain ⟨m, hm⟩ : ∃ m, 128 - k = m + 1 := ⟨127 - k, by omega⟩
  unfold fullCells
  rw [hm, show 128 - (k + 1) = m by omega]
  apply Array.ext'
  rw [List.replicate_succ' (n := k), List.map_append]
  simp [List.replicate_succ]

section
attribute [local go_sem ↓] make_bytes_mark appendS_mark copyS_mark
attribute [local go_sem] make128

set_option maxRecDepth 100000 in
theorem full_any (c : UInt8) (w : World) :
    Calls Try.prog 24 #[.int .u8 (c.toNat : Int)] w fun e w' => e = .returned (.slice (some ⟨w.heap.size, 0, none⟩) 128 128) ∧ Below w.heap.size w w' ∧ w'.heap.size = w.heap.size + 1 ∧ Blk w' w.heap.size 5 ((List.replicate 128 c).map bv).toArray := by
  go_enter Try.func24, Try.ntmps24
  go_wp2
  go_loopw [4] (fun i wr => ∃ k : Nat, k ≤ 128 ∧ i = .int .i64 (k : Int) ∧ Below w.heap.size w wr ∧ wr.heap.size = w.heap.size + 1 ∧ Blk wr w.heap.size 5 (fullCells c k)) (fun i _ => 128 - (intOf i).toNat)
  case atStart => exact ⟨0, by omega, rfl, (Below.refl _ _).alloc (Nat.le_refl _) _, by simp, by have := Blk.new w 5 (zbytes 128); simpa [fullCells, zbytes] using this⟩
  case round =>
    obtain ⟨k, hk, rfl, hb, hz, hB⟩ := hrel
    by_cases hlt : k < 128
    · have hfz := hB.frozen k
      have hce : wr.cell? ⟨w.heap.size, k, none⟩ = some (.int .u8 0) := by rw [hB.cell, fullCells_at c k hlt]
      have HZ := Lib.hid hz
      have HB := Lib.hid hB
      clear hz hB
      go_wp2
      refine ⟨⟨k + 1, by omega, by go_num, hb.setCell (Nat.le_refl _) _, by rw [← HZ.out]; simp [World.setCell], ?_⟩, by simp [intOf]; omega⟩
      rw [← fullCells_set c k hlt]
      exact HB.out.set_ _ _
    · obtain rfl : k = 128 := by omega
      have HZ := Lib.hid hz
      clear hz
      go_wp2
      go_ret
      exact ⟨rfl, hb, HZ.out, by simpa [fullCells] using hB⟩

/-- The bytes that an op writes. -/
def secOf (o : OpM) : List UInt8 := if o.fit then o.b.take 128 ++ List.replicate (128 - o.b.length) o.c else o.b

set_option maxRecDepth 100000 in
set_option maxHeartbeats 1000000 in
theorem sector_any (o : OpM) {B : Nat} (w : World) (hS : Slc w B 1 o.bA o.bn o.bc (o.b.map bv)) (hsm : o.bn ≤ 140737488351232) :
    Calls Try.prog 32 #[.agg (opCells o).toArray] w fun e w' => ∃ A n c, e = .returned (.slice A n c) ∧ Below w.heap.size w w' ∧ Slc w' w'.heap.size 1 A n c ((secOf o).map bv) ∧ ∀ a, A = some a → w.heap.size ≤ a.block := by
  have hlen : o.b.length = o.bn := by have := hS.len; simpa using this
  have hbm : o.bc ≤ 9223372036854775807 := by have := hS.cmax; unfold maxLen at this; omega
  cases hf : o.fit with
  | false =>
    have hsec : secOf o = o.b := by unfold secOf; rw [if_neg (by simp [hf])]
    obtain ⟨W1, hW1⟩ : ∃ W1, W1 = w.alloc (.cells (opCells o).toArray 48) := ⟨_, rfl⟩
    have hb1 : Below w.heap.size w W1 := by subst hW1; exact (Below.refl _ _).alloc (Nat.le_refl _) _
    have hz1 : W1.heap.size = w.heap.size + 1 := by subst hW1; simp
    have hS' := hS.lt (by decide)
    obtain ⟨A2, c2, w2, hr2, hown2, hg2, hat2⟩ := append_bytes (W1.alloc (.cells #[] 5)) W1.heap.size (.slice (some ⟨W1.heap.size, 0, none⟩) 0 0) 0 [] (World.ownsRow_made W1 #[] 0 (Nat.le_refl _) (by decide) rfl)
      w.heap.size o.bA o.bn o.bc o.b (hS'.below (hb1.alloc (by omega) _)) (by omega) (by simp)
    have hb2 : Below W1.heap.size W1 w2 := ((Below.refl _ W1).alloc (Nat.le_refl _) _).grown hg2 (by simp) (by simp [Value.ownBlock])
    have hr2' : (AppendS #[23, 23] 23 #[.slice (some ⟨W1.heap.size, 0, none⟩) 0 0, .slice o.bA o.bn o.bc]).run Try.prog (W1.alloc (.cells #[] 5)) = .ok (.slice A2 (0 + o.bn) c2) w2 := hr2
    have hS2 := own_slc_of hown2
    have hblk : ∀ a, A2 = some a → w.heap.size ≤ a.block := fun a ha => by
      have := (hown2.lt a.block (by rw [ha]; rfl)).1; omega
    rw [Nat.zero_add] at hr2' hS2
    rw [List.nil_append] at hS2
    rw [hz1, hW1] at hr2'
    have hfin : Below w.heap.size w w2 := hb1.trans (hb2.mono (by omega))
    rw [hsec]
    have HS2 := Lib.hid hS2
    have HBL := Lib.hid hblk
    clear hsec hW1 hb1 hz1 hS' hr2 hown2 hg2 hat2 hb2 hS2 hblk hS hlen
    rw [show opCells o = [.int .i64 o.kind, .int .i64 o.a, .slice o.bA o.bn o.bc, .int .u8 (o.c.toNat : Int), .bool false, .int .u64 (o.keep.toNat : Int)] from by unfold opCells; rw [hf]] at *
    clear hf
    go_enter Try.func32, Try.ntmps32
    go_wp2_with fail
    go_ret
    exact ⟨_, _, _, rfl, hfin, HS2.out, HBL.out⟩
  | true =>
    have hsec : secOf o = o.b.take 128 ++ List.replicate (128 - o.b.length) o.c := by unfold secOf; rw [if_pos hf]
    rw [hsec]
    clear hsec
    have hb1 : Below w.heap.size w (w.alloc (.cells (opCells o).toArray 48)) := (Below.refl _ _).alloc (Nat.le_refl _) _
    have hS' := (hS.lt (by decide)).below hb1
    have hB1 := Blk.new w 48 (opCells o).toArray
    rw [show opCells o = [.int .i64 o.kind, .int .i64 o.a, .slice o.bA o.bn o.bc, .int .u8 (o.c.toNat : Int), .bool true, .int .u64 (o.keep.toNat : Int)] from by unfold opCells; rw [hf]] at *
    obtain ⟨X, hX⟩ : ∃ X, X = w.alloc (.cells [.int .i64 o.kind, .int .i64 o.a, .slice o.bA o.bn o.bc, .int .u8 (o.c.toNat : Int), .bool true, .int .u64 (o.keep.toNat : Int)].toArray 48) := ⟨_, rfl⟩
    have hzX : X.heap.size = w.heap.size + 1 := by subst hX; simp
    rw [← hX] at hb1 hS' hB1
    have HX := Lib.hid hX
    have HZX := Lib.hid hzX
    clear hf hS hX hzX
    go_enter Try.func32, Try.ntmps32
    go_wp2_with fail
    rw [← HX.out]
    refine (full_any o.c X).mono ?_
    rintro e w2 ⟨rfl, hb2, hz2, hB2⟩
    have hS2 := hS'.below (hb2.mono hb1.size)
    have hcp := CopyS.slc (P := Try.prog) (w := w2) (dT := 23) (sT := 23) (ty := 3) (elem := 5) (sz := 1) (g := X.heap.size) (o := 0) (dLen := 128) (dCap := 128) Try.underlying23 (by kernel_rfl) hB2 hS2 (by simp; omega) (bvs_one _)
    generalize hrow : (((List.replicate 128 o.c).map bv).toArray.toList.take 0 ++ (o.b.map bv).take (min o.bn 128 * 1) ++ ((List.replicate 128 o.c).map bv).toArray.toList.drop (0 + min o.bn 128 * 1)).toArray = row at hcp
    have hrow2 : row.toList = (o.b.take 128 ++ List.replicate (128 - o.b.length) o.c).map bv := by
      subst hrow
      rw [List.map_append]
      simp only [List.take_zero, List.nil_append, Nat.mul_one, Nat.zero_add, List.drop_replicate, List.map_replicate]
      congr 1
      · rw [← List.map_take]; congr 1; rw [List.take_eq_take_iff]; omega
      · congr 1; omega
    have hB3 : Blk (w2.setRow X.heap.size row) X.heap.size 5 row := hB2.row row
    have hrs : row.size = 128 := by
      have := congrArg List.length hrow2
      simp at this
      omega
    have hS3 := hB3.slc (sz := 1) (n := 128) (c := 128) (by omega) (Nat.le_refl _) (by decide)
    rw [List.take_of_length_le (by simp; omega), hrow2] at hS3
    have hfin : Below w.heap.size w (w2.setRow X.heap.size row) := (hb1.trans (hb2.mono hb1.size)).trans (below_setRow (Below.refl _ _) hb1.size row)
    have ha0 : w2.cell? ⟨w.heap.size, 2, none⟩ = some (.slice o.bA o.bn o.bc) := by
      rw [(hB1.below hb2 (by have := HZX.out; omega)).cell]; rfl
    have HF := Lib.hid hfin
    have HS3 := Lib.hid (hS3.lt (by decide))
    have hsz3 := hb1.size
    clear hS3 hB3 hrow2 hrow hrs hfin hB2 hS2 hz2 hlen hS' hB1
    go_wp2_with fail
    go_ret
    exact ⟨_, _, _, rfl, HF.out, HS3.out, fun a ha => by injection ha with ha; subst ha; exact hsz3⟩
end
end Go.Proofs.Ytbelkkhfjbbldaa
