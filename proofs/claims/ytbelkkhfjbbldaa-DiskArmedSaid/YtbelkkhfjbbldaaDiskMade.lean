/- The walks of the laws' helpers on disks: made, image. -/
import Derived.Test.YtbelkkhfjbbldaaDiskH
namespace Go.Proofs.Ytbelkkhfjbbldaa
open Go.RowKit
set_option linter.unusedVariables false
set_option linter.unusedSimpArgs false

/-- All loose writes, done in their order. -/
def allDone (l : List (Nat × List UInt8)) (S : List (List UInt8)) : List (List UInt8) := l.foldl (fun S x => S.set x.1 x.2) S
/-- What is read is what was safe and the loose writes over it. -/
def DiskM.True (D : DiskM) : Prop := D.now = allDone D.loose D.safe

theorem allDone_append (l m : List (Nat × List UInt8)) (S : List (List UInt8)) : allDone (l ++ m) S = allDone m (allDone l S) := by unfold allDone; rw [List.foldl_append]
theorem allDone_length (l : List (Nat × List UInt8)) : ∀ S : List (List UInt8), (allDone l S).length = S.length := by
  induction l with
  | nil => intro S; rfl
  | cons x l ih => intro S; show (allDone l (S.set x.1 x.2)).length = _; rw [ih]; simp
theorem crash_true {D : DiskM} (h : D.True) (k : UInt64) : (D.crash k).True := by
  unfold DiskM.crash
  split
  · exact h
  · rfl
theorem write_true {D : DiskM} (h : D.True) (N : Nat) (i : Int) (l : List UInt8) : (D.write N i l).True := by
  unfold DiskM.write
  split
  · exact h
  · split
    · exact h
    · split
      · exact crash_true h _
      · show (D.deed.now.set i.toNat l) = allDone (D.loose ++ [(i.toNat, l)]) D.safe
        rw [allDone_append]
        show D.now.set i.toNat l = (allDone D.loose D.safe).set i.toNat l
        rw [← h]
/-- A place that no loose write is at stays. -/
theorem allDone_other (l : List (Nat × List UInt8)) (i : Nat) (hi : ∀ x ∈ l, x.1 ≠ i) : ∀ S : List (List UInt8), (allDone l S)[i]? = S[i]? := by
  induction l with
  | nil => intro S; rfl
  | cons x l ih =>
    intro S
    show (allDone l (S.set x.1 x.2))[i]? = _
    rw [ih (fun y hy => hi y (List.mem_cons_of_mem _ hy)), List.getElem?_set_ne (hi x List.mem_cons_self)]
theorem flushed_at (now : List (List UInt8)) (l : List (Nat × List UInt8)) (i : Nat) (hn : i < now.length) : ∀ S : List (List UInt8), S.length = now.length → (flushed now l S)[i]? = if (∃ x ∈ l, x.1 = i) then now[i]? else S[i]? := by
  induction l with
  | nil => intro S _; simp [flushed]
  | cons x l ih =>
    intro S hS
    show (flushed now l (S.set x.1 (now.getD x.1 [])))[i]? = _
    rw [ih _ (by simpa using hS)]
    by_cases hx : x.1 = i
    · subst hx
      have h1 : ∃ y ∈ x :: l, y.1 = x.1 := ⟨x, List.mem_cons_self, rfl⟩
      rw [if_pos h1]
      split
      · rfl
      · rw [List.getElem?_set_self (by omega)]
        simp [List.getD, List.getElem?_eq_getElem hn]
    · have h1 : (∃ y ∈ x :: l, y.1 = i) ↔ (∃ y ∈ l, y.1 = i) := by
        constructor
        · rintro ⟨y, hy, e⟩
          rcases List.mem_cons.1 hy with rfl | hy
          · exact absurd e hx
          · exact ⟨y, hy, e⟩
        · rintro ⟨y, hy, e⟩; exact ⟨y, List.mem_cons_of_mem _ hy, e⟩
      simp only [h1]
      split
      · rfl
      · rw [List.getElem?_set_ne hx]
theorem flushed_now {D : DiskM} {N : Nat} (ho : D.Ok N) (h : D.True) : flushed D.now D.loose D.safe = D.now := by
  have hl : D.safe.length = D.now.length := by rw [ho.safeLen, ho.nowLen]
  have hfl : ∀ (l : List (Nat × List UInt8)) (S : List (List UInt8)), (flushed D.now l S).length = S.length := by
    intro l
    induction l with
    | nil => intro S; rfl
    | cons x l ih => intro S; show (flushed D.now l (S.set x.1 (D.now.getD x.1 []))).length = _; rw [ih]; simp
  apply List.ext_getElem?
  intro i
  rcases Nat.lt_or_ge i D.now.length with hi | hi
  · rw [flushed_at D.now D.loose i hi D.safe hl]
    split
    · rfl
    · rename_i hne
      conv => rhs; rw [h]
      rw [allDone_other D.loose i (fun x hx e => hne ⟨x, hx, e⟩)]
  · rw [List.getElem?_eq_none (by rw [hfl]; omega), List.getElem?_eq_none hi]
/-- A disk that has power and is not armed is flushed: what is safe is what is read. -/
theorem flush_all {D : DiskM} {N : Nat} (ho : D.Ok N) (h : D.True) (hu : D.up = true) (ha : D.armed = false) : D.flush = { D.deed with safe := D.now, loose := [] } := by
  unfold DiskM.flush
  rw [if_neg (by simp [hu]), if_neg (by simp [DiskM.fails, ha]), flushed_now ho h]

/-- A disk, some raw ops done. -/
def opDo (N : Nat) (D : DiskM) (o : OpM) : DiskM := if o.kind = 0 then D.write N o.a (secOf o) else D
def opsDo (N : Nat) (l : List OpM) (D : DiskM) : DiskM := l.foldl (opDo N) D
theorem opsDo_take (N : Nat) (l : List OpM) (D : DiskM) (k : Nat) (hk : k < l.length) : opsDo N (l.take (k + 1)) D = opDo N (opsDo N (l.take k) D) l[k] := by
  unfold opsDo; rw [List.take_succ_eq_append_getElem hk, List.foldl_append]; rfl

/-- What writes keep of a disk that has power and is not armed. -/
structure Calm (D : DiskM) (n : Nat) : Prop where
  up : D.up = true
  armed : D.armed = false
  true_ : D.True
  few : D.loose.length ≤ n
theorem Calm.write {D : DiskM} {n : Nat} (h : Calm D n) (N : Nat) (i : Int) (l : List UInt8) : Calm (D.write N i l) (n + 1) := by
  have ht := write_true h.true_ N i l
  have hf : D.fails = false := by simp [DiskM.fails, h.armed]
  unfold DiskM.write at ht ⊢
  split
  · exact ⟨h.up, h.armed, h.true_, by have := h.few; omega⟩
  · split
    · exact ⟨h.up, h.armed, h.true_, by have := h.few; omega⟩
    · rename_i h1 h2
      rw [if_neg (by simp [hf])]
      rw [if_neg h1, if_neg h2, if_neg (by simp [hf])] at ht
      exact ⟨h.up, h.armed, ht, by have := h.few; simp; omega⟩
theorem Calm.opDo {D : DiskM} {n : Nat} (h : Calm D n) (N : Nat) (o : OpM) : Calm (opDo N D o) (n + 1) := by
  unfold Proofs.Ytbelkkhfjbbldaa.opDo
  split
  · exact h.write N _ _
  · exact ⟨h.up, h.armed, h.true_, by have := h.few; omega⟩
theorem fresh_calm (N : Nat) : Calm (DiskM.fresh N) 0 := ⟨rfl, rfl, rfl, Nat.le_refl _⟩
theorem opsDo_calm (N : Nat) (l : List OpM) : ∀ (D : DiskM) (n : Nat), Calm D n → Calm (opsDo N l D) (n + l.length) := by
  induction l with
  | nil => intro D n h; exact h
  | cons o l ih =>
    intro D n h
    have := ih _ _ (h.opDo N o)
    rw [List.length_cons, show n + (l.length + 1) = n + 1 + l.length by omega]
    exact this
end Go.Proofs.Ytbelkkhfjbbldaa
