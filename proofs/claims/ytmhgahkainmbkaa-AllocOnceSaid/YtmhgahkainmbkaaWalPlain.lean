/- Plain: numbers as bytes, the lowest first; maps from homes to sectors as rising lists. -/
import Derived.Test.YtmhgahkainmbkaaBase
namespace Go.Proofs.Ytmhgahkainmbkaa
open Go.RowKit

def le : Nat → Nat → List UInt8
  | 0, _ => []
  | k + 1, v => UInt8.ofNat v :: le k (v / 256)
def ofLe : List UInt8 → Nat
  | [] => 0
  | c :: l => c.toNat + 256 * ofLe l
theorem le_length (k : Nat) : ∀ v, (le k v).length = k := by
  induction k with
  | zero => intro v; rfl
  | succ k ih => intro v; simp [le, ih]
theorem le_succ (k : Nat) : ∀ v, le (k + 1) v = le k v ++ [UInt8.ofNat (v / 256 ^ k)] := by
  induction k with
  | zero => intro v; simp [le]
  | succ k ih =>
    intro v
    rw [le, ih (v / 256)]
    conv => rhs; rw [le]
    rw [List.cons_append, Nat.div_div_eq_div_mul, Nat.pow_succ, Nat.mul_comm]
theorem ofLe_le (k : Nat) : ∀ v, ofLe (le k v) = v % 256 ^ k := by
  induction k with
  | zero => intro v; simp [le, ofLe, Nat.mod_one]
  | succ k ih =>
    intro v
    rw [le, ofLe, ih, UInt8.toNat_ofNat', show 256 ^ (k + 1) = 256 * 256 ^ k from by rw [Nat.pow_succ, Nat.mul_comm], Nat.mod_mul]
theorem ofLe_lt (l : List UInt8) : ofLe l < 256 ^ l.length := by
  induction l with
  | nil => simp [ofLe]
  | cons c l ih =>
    have := c.toNat_lt
    simp only [ofLe, List.length_cons, Nat.pow_succ]
    omega
theorem le_ofLe (l : List UInt8) : le l.length (ofLe l) = l := by
  induction l with
  | nil => rfl
  | cons c l ih =>
    have := c.toNat_lt
    simp only [ofLe, List.length_cons, le]
    rw [show (c.toNat + 256 * ofLe l) / 256 = ofLe l by omega, ih]
    congr 1
    rw [UInt8.ofNat_eq_iff_mod_eq_toNat]
    omega
theorem le_inj {k a b : Nat} (ha : a < 256 ^ k) (hb : b < 256 ^ k) (h : le k a = le k b) : a = b := by
  have h1 := ofLe_le k a
  have h2 := ofLe_le k b
  rw [h] at h1
  rw [Nat.mod_eq_of_lt ha] at h1
  rw [Nat.mod_eq_of_lt hb] at h2
  omega
theorem ofLe_lt8 {l : List UInt8} (h : l.length ≤ 8) : ofLe l < 18446744073709551616 := by
  have h1 := ofLe_lt l
  have h2 : 256 ^ l.length ≤ 256 ^ 8 := Nat.pow_le_pow_right (by decide) h
  have h3 : (256 : Nat) ^ 8 = 18446744073709551616 := by decide
  omega
theorem ofLe_drop {l : List UInt8} {k : Nat} (h : k < l.length) : ofLe (l.drop k) = l[k].toNat + 256 * ofLe (l.drop (k + 1)) := by
  rw [List.drop_eq_getElem_cons h, ofLe]

abbrev SecMap := List (Nat × List UInt8)
def Rising (m : SecMap) : Prop := m.Pairwise (fun a b => a.1 < b.1)
def mget : SecMap → Nat → Option (List UInt8)
  | [], _ => none
  | (k, v) :: m, i => if i = k then some v else mget m i
def mput : SecMap → Nat → List UInt8 → SecMap
  | [], i, x => [(i, x)]
  | (k, v) :: m, i, x => if i < k then (i, x) :: (k, v) :: m else if i = k then (k, x) :: m else (k, v) :: mput m i x
def mcopy (a b : SecMap) : SecMap := b.foldl (fun m x => mput m x.1 x.2) a

theorem Rising.tail {x : Nat × List UInt8} {m : SecMap} (h : Rising (x :: m)) : Rising m := (List.pairwise_cons.1 h).2
theorem Rising.head {x : Nat × List UInt8} {m : SecMap} (h : Rising (x :: m)) : ∀ y ∈ m, x.1 < y.1 := (List.pairwise_cons.1 h).1
theorem mget_none {m : SecMap} {i : Nat} : mget m i = none ↔ ∀ y ∈ m, y.1 ≠ i := by
  induction m with
  | nil => simp [mget]
  | cons x m ih =>
    obtain ⟨k, v⟩ := x
    by_cases h : i = k
    · subst h; simp [mget]
    · simp [mget, h, ih, Ne.symm h]
theorem mget_some {m : SecMap} (hm : Rising m) {i : Nat} {v : List UInt8} : mget m i = some v ↔ (i, v) ∈ m := by
  induction m with
  | nil => simp [mget]
  | cons x m ih =>
    obtain ⟨k, u⟩ := x
    have hh := hm.head
    by_cases h : i = k
    · subst h
      simp only [mget, if_true, List.mem_cons, Prod.mk.injEq, true_and]
      constructor
      · intro h1; injection h1 with h1; exact .inl h1.symm
      · rintro (h1 | h1)
        · rw [h1]
        · exact absurd (hh _ h1) (Nat.lt_irrefl _)
    · simp only [mget, h, if_false, ih hm.tail, List.mem_cons, Prod.mk.injEq, false_and, false_or]
theorem mput_keys {m : SecMap} {i : Nat} {x : List UInt8} {y : Nat × List UInt8} (h : y ∈ mput m i x) : y = (i, x) ∨ (y ∈ m ∧ y.1 ≠ i) ∨ y ∈ m := by
  induction m with
  | nil => simp [mput] at h; exact .inl h
  | cons z m ih =>
    obtain ⟨k, v⟩ := z
    unfold mput at h
    split at h
    · rcases List.mem_cons.1 h with h | h
      · exact .inl h
      · exact .inr (.inr h)
    · split at h
      · rename_i h1 h2
        rcases List.mem_cons.1 h with h | h
        · subst h2; exact .inl h
        · exact .inr (.inr (List.mem_cons_of_mem _ h))
      · rcases List.mem_cons.1 h with h | h
        · exact .inr (.inr (by rw [h]; exact List.mem_cons_self))
        · rcases ih h with h | h | h
          · exact .inl h
          · exact .inr (.inr (List.mem_cons_of_mem _ h.1))
          · exact .inr (.inr (List.mem_cons_of_mem _ h))
theorem mput_rising {m : SecMap} (hm : Rising m) (i : Nat) (x : List UInt8) : Rising (mput m i x) := by
  induction m with
  | nil => exact List.pairwise_singleton _ _
  | cons z m ih =>
    obtain ⟨k, v⟩ := z
    have hh := hm.head
    unfold mput
    split
    · refine List.pairwise_cons.2 ⟨fun y hy => ?_, hm⟩
      rcases List.mem_cons.1 hy with h | h
      · rw [h]; assumption
      · exact Nat.lt_trans ‹_› (hh y h)
    · split
      · exact List.pairwise_cons.2 ⟨hh, hm.tail⟩
      · refine List.pairwise_cons.2 ⟨fun y hy => ?_, ih hm.tail⟩
        rcases mput_keys hy with h | h | h
        · rw [h]; show k < i; omega
        · exact hh y h.1
        · exact hh y h
theorem mget_put {m : SecMap} (hm : Rising m) (i j : Nat) (x : List UInt8) : mget (mput m i x) j = if j = i then some x else mget m j := by
  induction m with
  | nil => simp [mput, mget]
  | cons z m ih =>
    obtain ⟨k, v⟩ := z
    have hh := hm.head
    unfold mput
    split
    · simp [mget]
    · split
      · rename_i h1 h2; subst h2
        simp only [mget]
        split <;> rfl
      · rename_i h1 h2
        simp only [mget, ih hm.tail]
        by_cases hj : j = k
        · subst hj; simp [Ne.symm h2]
        · simp [hj]
theorem mext {a b : SecMap} (ha : Rising a) (hb : Rising b) (h : ∀ i, mget a i = mget b i) : a = b := by
  induction a generalizing b with
  | nil =>
    cases b with
    | nil => rfl
    | cons y b =>
      obtain ⟨k, v⟩ := y
      have := h k
      simp [mget] at this
  | cons x a ih =>
    obtain ⟨i, u⟩ := x
    cases b with
    | nil =>
      have := h i
      simp [mget] at this
    | cons y b =>
      obtain ⟨k, v⟩ := y
      have h1 := h i
      have h2 := h k
      simp only [mget, if_true] at h1 h2
      have hik : i = k := by
        by_cases e : i = k
        · exact e
        · rw [if_neg e] at h1
          rw [if_neg (Ne.symm e)] at h2
          have m1 := hb.head _ ((mget_some hb.tail).1 h1.symm)
          have m2 := ha.head _ ((mget_some ha.tail).1 h2)
          simp only at m1 m2
          omega
      subst hik
      rw [if_pos rfl] at h1
      injection h1 with h1
      subst h1
      congr 1
      refine ih ha.tail hb.tail fun j => ?_
      have hj := h j
      simp only [mget] at hj
      by_cases e : j = i
      · subst e
        rw [mget_none.2 (fun y hy => Nat.ne_of_gt (ha.head y hy)), mget_none.2 (fun y hy => Nat.ne_of_gt (hb.head y hy))]
      · rwa [if_neg e, if_neg e] at hj
theorem mcopy_rising {a : SecMap} (ha : Rising a) (b : SecMap) : Rising (mcopy a b) := by
  induction b generalizing a with
  | nil => exact ha
  | cons x b ih => exact ih (mput_rising ha _ _)
theorem mget_copy {a b : SecMap} (ha : Rising a) (hb : Rising b) (i : Nat) : mget (mcopy a b) i = (mget b i).or (mget a i) := by
  induction b generalizing a with
  | nil => simp [mcopy, mget]
  | cons x b ih =>
    obtain ⟨k, v⟩ := x
    show mget (mcopy (mput a k v) b) i = _
    rw [ih (mput_rising ha _ _) hb.tail, mget_put ha]
    simp only [mget]
    by_cases e : i = k
    · subst e
      rw [mget_none.2 (fun y hy => Nat.ne_of_gt (hb.head y hy))]
      simp
    · simp [e]
theorem mput_length {m : SecMap} (hm : Rising m) (i : Nat) (x : List UInt8) : (mput m i x).length = if (mget m i).isSome then m.length else m.length + 1 := by
  induction m with
  | nil => simp [mput, mget]
  | cons z m ih =>
    obtain ⟨k, v⟩ := z
    have hh := hm.head
    unfold mput
    split
    · rename_i h1
      have : mget ((k, v) :: m) i = none := mget_none.2 (fun y hy => by
        rcases List.mem_cons.1 hy with h | h
        · rw [h]; exact Nat.ne_of_gt h1
        · exact Nat.ne_of_gt (Nat.lt_trans h1 (hh y h)))
      rw [this]; simp
    · split
      · rename_i h1 h2; subst h2; simp [mget]
      · rename_i h1 h2
        simp only [List.length_cons, ih hm.tail, mget, h2, if_false]
        split <;> rfl
/-- A list of pairs with unlike keys, in any order. -/
theorem perm_get {m : SecMap} (hm : Rising m) {l : SecMap} (hp : l.Perm m) {i : Nat} {v : List UInt8} : (i, v) ∈ l ↔ mget m i = some v := by
  rw [mget_some hm, hp.mem_iff]
theorem perm_rising_eq {a b : SecMap} (ha : Rising a) (hb : Rising b) (h : a.Perm b) : a = b := by
  refine mext ha hb fun i => ?_
  cases e : mget b i with
  | none =>
    rw [mget_none] at e ⊢
    exact fun y hy => e y (h.mem_iff.1 hy)
  | some v => rw [mget_some ha, h.mem_iff, ← mget_some hb, e]
end Go.Proofs.Ytmhgahkainmbkaa
