/- What the methods of a space do. -/
import Derived.Test.YtmhgahkainmbkaaWalNew
import Derived.Test.YtmhgahkainmbkaaAllocP
namespace Go.Proofs.Ytmhgahkainmbkaa
open Go.RowKit
set_option linter.unusedVariables false
set_option linter.unusedSimpArgs false

section
variable (N : Nat) (L : LogM) (D : DiskM)
/-- A bit is turned. -/
def turnR (a i : Nat) : Int × LogM := (L.stageE N (a : Int) 128, L.stage N (a : Int) 128 (flipAt (L.val D a) i))
/-- The least is taken. -/
def leastR (a cnt : Nat) : Int × Int × LogM :=
  match leastN (L.val D a) cnt with
  | none => (0, 47, L)
  | some i => ((i : Int), turnR N L D a i)
end
def blockEnd (N d : Nat) (r : Int × Int × LogM) : Int × Int × LogM :=
  if r.2.1 ≠ 0 then (0, r.2.1, r.2.2)
  else if r.2.2.stageE N (d + r.1) 128 ≠ 0 then (0, r.2.2.stageE N (d + r.1) 128, r.2.2.stage N (d + r.1) 128 zsec)
  else (d + r.1, 0, r.2.2.stage N (d + r.1) 128 zsec)
/-- Block. -/
def blockR (n : Nat) (L : LogM) (D : DiskM) : Int × Int × LogM := blockEnd n (lData n) (leastR n L D (lMap n) (n - lData n))
/-- 32 bytes of noughts. -/
def wipe (b : List UInt8) (k : Nat) : List UInt8 := b.take (32 * k) ++ List.replicate 32 0 ++ b.drop (32 * k + 32)
def inodeEnd (N t : Nat) (D : DiskM) (r : Int × Int × LogM) : Int × Int × LogM :=
  if r.2.1 ≠ 0 then (0, r.2.1, r.2.2)
  else if r.2.2.stageE N (t + r.1 / 4) 128 ≠ 0 then (0, r.2.2.stageE N (t + r.1 / 4) 128, r.2.2.stage N (t + r.1 / 4) 128 (wipe (r.2.2.val D (t + r.1.toNat / 4)) (r.1.toNat % 4)))
  else (r.1, 0, r.2.2.stage N (t + r.1 / 4) 128 (wipe (r.2.2.val D (t + r.1.toNat / 4)) (r.1.toNat % 4)))
/-- Inode. -/
def inodeR (n : Nat) (L : LogM) (D : DiskM) : Int × Int × LogM := inodeEnd n (lTable n) D (leastR n L D (lNodes n) (lInodes n))
def hasBlock (n : Nat) (L : LogM) (D : DiskM) (b : Int) : Bool := hasB (L.val D (lMap n)) (n - lData n) (if b < (lData n : Int) then -1 else b - (lData n : Int))
def hasInode (n : Nat) (L : LogM) (D : DiskM) (i : Int) : Bool := hasB (L.val D (lNodes n)) (lInodes n) (if i = 0 then -1 else i)
def freeR (n : Nat) (L : LogM) (D : DiskM) (b : Int) : Int × LogM := if hasBlock n L D b = false then (48, L) else turnR n L D (lMap n) (b - (lData n : Int)).toNat
def freeInodeR (n : Nat) (L : LogM) (D : DiskM) (i : Int) : Int × LogM := if hasInode n L D i = false then (49, L) else turnR n L D (lNodes n) i.toNat
/-- Format: what it answers, and the log behind it. -/
def aformatR (n : Nat) (L : LogM) : Int × LogM :=
  if L.stageE n 0 128 ≠ 0 then (L.stageE n 0 128, L.stage n 0 128 (headB n))
  else if (L.stage n 0 128 (headB n)).stageE n (lMap n : Int) 128 ≠ 0 then ((L.stage n 0 128 (headB n)).stageE n (lMap n : Int) 128, (L.stage n 0 128 (headB n)).stage n (lMap n : Int) 128 zsec)
  else (((L.stage n 0 128 (headB n)).stage n (lMap n : Int) 128 zsec).stageE n (lNodes n : Int) 128, ((L.stage n 0 128 (headB n)).stage n (lMap n : Int) 128 zsec).stage n (lNodes n : Int) 128 (zsec.set 0 1))
end Go.Proofs.Ytmhgahkainmbkaa
