/- Plain: where things stand on a disk; maps as bits. -/
import Derived.Test.YtmhgahkainmbkaaWalEq
namespace Go.Proofs.Ytmhgahkainmbkaa
open Go.RowKit
set_option linter.unusedVariables false
set_option linter.unusedSimpArgs false

def logLen (n : Nat) : Nat := max 16 (n / 8)
def lMap (n : Nat) : Nat := 1 + logLen n
def lNodes (n : Nat) : Nat := lMap n + 1
def lTable (n : Nat) : Nat := lNodes n + 1
def lInodes (n : Nat) : Nat := min 128 (n / 4)
def lData (n : Nat) : Nat := lTable n + (lInodes n + 3) / 4
theorem lay_facts {n : Nat} (h1 : 64 ≤ n) (h2 : n ≤ 1024) : 16 ≤ logLen n ∧ logLen n ≤ 128 ∧ 16 ≤ lInodes n ∧ lInodes n ≤ 128 ∧ lData n < n ∧ lData n = 3 + logLen n + (lInodes n + 3) / 4 ∧ lMap n = 1 + logLen n ∧ lNodes n = 2 + logLen n ∧ lTable n = 3 + logLen n := by
  unfold lData lTable lNodes lMap
  have hl : logLen n = max 16 (n / 8) := rfl
  have hi : lInodes n = min 128 (n / 4) := rfl
  omega
/-- The layout's numbers. -/
def layCells (n : Nat) : List Value := [.int .i64 (n : Int), .int .i64 1, .int .i64 (logLen n : Int), .int .i64 (lMap n : Int), .int .i64 (lNodes n : Int), .int .i64 (lTable n : Int), .int .i64 (lInodes n : Int), .int .i64 (lData n : Int)]
def rootB : List UInt8 := [114, 111, 111, 116, 100, 105, 115, 107]
/-- The head's bytes. -/
def headB (n : Nat) : List UInt8 := pad (rootB ++ le 2 n)
theorem headB_length (n : Nat) : (headB n).length = 128 := pad_length (by simp [rootB, le_length])

def bitAt (b : List UInt8) (i : Nat) : Bool := (b.getD (i / 8) 0).toNat.testBit (i % 8)
def flipAt (b : List UInt8) (i : Nat) : List UInt8 := b.set (i / 8) (b.getD (i / 8) 0 ^^^ UInt8.ofNat (2 ^ (i % 8)))
theorem flipAt_length (b : List UInt8) (i : Nat) : (flipAt b i).length = b.length := by simp [flipAt]
theorem byte_bit (j k : Nat) (hj : j < 8) (hk : k < 8) : (UInt8.ofNat (2 ^ j)).toNat.testBit k = decide (j = k) := by
  have : ∀ j : Fin 8, ∀ k : Fin 8, (UInt8.ofNat (2 ^ j.1)).toNat.testBit k.1 = decide (j.1 = k.1) := by decide
  exact this ⟨j, hj⟩ ⟨k, hk⟩
theorem bit_flip {b : List UInt8} {i : Nat} (hi : i / 8 < b.length) (j : Nat) : bitAt (flipAt b i) j = if j = i then !bitAt b i else bitAt b j := by
  unfold bitAt flipAt
  by_cases h8 : j / 8 = i / 8
  · rw [h8, List.getD_eq_getElem?_getD, List.getElem?_set_self hi, Option.getD_some]
    rw [UInt8.toNat_xor, Nat.testBit_xor, byte_bit _ _ (Nat.mod_lt _ (by decide)) (Nat.mod_lt _ (by decide))]
    by_cases hm : i % 8 = j % 8
    · have : j = i := by omega
      subst this
      simp
    · have : j ≠ i := fun e => hm (by rw [e])
      simp [hm, this]
  · have : j ≠ i := fun e => h8 (by rw [e])
    rw [if_neg this, List.getD_eq_getElem?_getD, List.getElem?_set_ne (Ne.symm h8), ← List.getD_eq_getElem?_getD]
def hasB (b : List UInt8) (cnt : Nat) (i : Int) : Bool := decide (0 ≤ i ∧ i < cnt) && bitAt b i.toNat
def freeN (b : List UInt8) : Nat → Nat
  | 0 => 0
  | k + 1 => freeN b k + if bitAt b k then 0 else 1
/-- The least that is not in use, from j on, k more. -/
def leastFrom (b : List UInt8) : Nat → Nat → Option Nat
  | _, 0 => none
  | j, k + 1 => if bitAt b j then leastFrom b (j + 1) k else some j
def leastN (b : List UInt8) (cnt : Nat) : Option Nat := leastFrom b 0 cnt
theorem leastFrom_some {b : List UInt8} : ∀ {k j i : Nat}, leastFrom b j k = some i → j ≤ i ∧ i < j + k ∧ bitAt b i = false ∧ ∀ m, j ≤ m → m < i → bitAt b m = true
  | 0, _, _, h => by simp [leastFrom] at h
  | k + 1, j, i, h => by
    unfold leastFrom at h
    split at h
    · rename_i hb
      obtain ⟨h1, h2, h3, h4⟩ := leastFrom_some h
      refine ⟨by omega, by omega, h3, fun m hm1 hm2 => ?_⟩
      rcases Nat.lt_or_ge j m with h5 | h5
      · exact h4 m h5 hm2
      · have : m = j := by omega
        rw [this]; exact hb
    · rename_i hb
      injection h with h
      subst h
      exact ⟨Nat.le_refl _, by omega, by simpa using hb, fun m h1 h2 => by omega⟩
theorem leastFrom_none {b : List UInt8} : ∀ {k j : Nat}, leastFrom b j k = none → ∀ m, j ≤ m → m < j + k → bitAt b m = true
  | 0, _, _, m, h1, h2 => by omega
  | k + 1, j, h, m, h1, h2 => by
    unfold leastFrom at h
    split at h
    · rename_i hb
      rcases Nat.lt_or_ge j m with h5 | h5
      · exact leastFrom_none h m h5 (by omega)
      · have : m = j := by omega
        rw [this]; exact hb
    · cases h

end Go.Proofs.Ytmhgahkainmbkaa
