/- What the laws on disks say, of the plain data. -/
import Derived.Test.YtbelkkhfjbbldaaDiskShown
namespace Go.Proofs.Ytbelkkhfjbbldaa
open Go.RowKit
set_option linter.unusedVariables false
set_option linter.unusedSimpArgs false

theorem crash_ok {D : DiskM} {N : Nat} (h : D.Ok N) (k : UInt64) : (D.crash k).Ok N := h.crash k
theorem deed_ok {D : DiskM} {N : Nat} (h : D.Ok N) : D.deed.Ok N := ⟨h.pos, h.most, h.safeLen, h.nowLen, h.safe, h.now, h.loose⟩
theorem write_ok {D : DiskM} {N : Nat} (h : D.Ok N) (i : Int) (l : List UInt8) : (D.write N i l).Ok N := by
  unfold DiskM.write
  split
  · exact h
  · rename_i hm
    split
    · exact h
    · rename_i hl
      split
      · exact h.crash _
      · have hm' : D.up = true ∧ 0 ≤ i ∧ i < N := by
          unfold DiskM.mayE at hm
          cases hu : D.up with
          | false => rw [hu] at hm; simp at hm
          | true =>
            rw [if_neg (by simp [hu])] at hm
            by_cases hi : 0 ≤ i ∧ i < N
            · exact ⟨rfl, hi⟩
            · rw [if_neg hi] at hm; simp at hm
        have hl' : l.length = 128 := by simpa using hl
        refine ⟨h.pos, h.most, h.safeLen, by simpa using h.nowLen, h.safe, h.now.set _ hl', fun x hx => ?_⟩
        rcases List.mem_append.1 hx with hx | hx
        · exact h.loose x hx
        · rw [List.mem_singleton] at hx
          subst hx
          exact ⟨by simp only; omega, hl'⟩
theorem opDo_ok {D : DiskM} {N : Nat} (h : D.Ok N) (o : OpM) : (opDo N D o).Ok N := by
  unfold opDo
  split
  · exact write_ok h _ _
  · exact h
theorem opsDo_ok {N : Nat} (l : List OpM) : ∀ {D : DiskM}, D.Ok N → (opsDo N l D).Ok N := by
  induction l with
  | nil => intro D h; exact h
  | cons o l ih => intro D h; exact ih (opDo_ok h o)

/-- A disk that has power, is not armed, and holds nothing loose. -/
structure Still (D : DiskM) (N : Nat) : Prop where
  ok : D.Ok N
  up : D.up = true
  armed : D.armed = false
  safe : D.safe = D.now
  loose : D.loose = []
theorem Still.calm {D : DiskM} {N : Nat} (h : Still D N) : Calm D 0 := ⟨h.up, h.armed, by unfold DiskM.True; rw [h.loose, ← h.safe]; rfl, by rw [h.loose]; exact Nat.le_refl _⟩
theorem made_still (n : Int) (l : List OpM) : Still (madeD n l) (madeN n) := by
  obtain ⟨h1, h2⟩ := madeN_le n
  have ho : (opsDo (madeN n) (l.take 60) (DiskM.fresh (madeN n))).Ok (madeN n) := opsDo_ok _ (fresh_ok h1 (by omega))
  have hc := opsDo_calm (madeN n) (l.take 60) _ _ (fresh_calm (madeN n))
  unfold madeD
  rw [flush_all ho hc.true_ hc.up hc.armed]
  exact ⟨⟨ho.pos, ho.most, ho.nowLen, ho.nowLen, ho.now, ho.now, fun x hx => by cases hx⟩, hc.up, hc.armed, rfl, rfl⟩

/-- Further writes, not flushed. -/
def moreDo (N : Nat) (D : DiskM) (o : OpM) : DiskM := if o.kind = 1 then D else D.write N o.a (secOf o)
def moresDo (N : Nat) (l : List OpM) (D : DiskM) : DiskM := l.foldl (moreDo N) D
theorem moresDo_take (N : Nat) (l : List OpM) (D : DiskM) (k : Nat) (hk : k < l.length) : moresDo N (l.take (k + 1)) D = moreDo N (moresDo N (l.take k) D) l[k] := by
  unfold moresDo; rw [List.take_succ_eq_append_getElem hk, List.foldl_append]; rfl
theorem write_safe {D : DiskM} {n : Nat} (h : Calm D n) (N : Nat) (i : Int) (l : List UInt8) : (D.write N i l).safe = D.safe := by
  have hf : D.fails = false := by simp [DiskM.fails, h.armed]
  unfold DiskM.write
  split
  · rfl
  · split
    · rfl
    · rw [if_neg (by simp [hf])]; rfl
theorem Calm.moreDo {D : DiskM} {n : Nat} (h : Calm D n) (N : Nat) (o : OpM) : Calm (moreDo N D o) (n + 1) ∧ (Proofs.Ytbelkkhfjbbldaa.moreDo N D o).safe = D.safe := by
  unfold Proofs.Ytbelkkhfjbbldaa.moreDo
  split
  · exact ⟨⟨h.up, h.armed, h.true_, by have := h.few; omega⟩, rfl⟩
  · exact ⟨h.write N _ _, write_safe h N _ _⟩
theorem moresDo_calm (N : Nat) (l : List OpM) : ∀ (D : DiskM) (n : Nat), Calm D n → Calm (moresDo N l D) (n + l.length) ∧ (moresDo N l D).safe = D.safe := by
  induction l with
  | nil => intro D n h; exact ⟨h, rfl⟩
  | cons o l ih =>
    intro D n h
    have h1 := h.moreDo N o
    have := ih _ _ h1.1
    rw [List.length_cons, show n + (l.length + 1) = n + 1 + l.length by omega]
    exact ⟨this.1, this.2.trans h1.2⟩

theorem crashed_all (k : UInt64) (b : Bool) (hk : ∀ i, keeps k i = b) (l : List (Nat × List UInt8)) (S : List (List UInt8)) : crashed k l S = if b then allDone l S else S := by
  have key : ∀ (l : List (Nat × List UInt8)) (j : Nat) (S : List (List UInt8)), (l.zipIdx j).foldl (fun S x => if keeps k x.2 then S.set x.1.1 x.1.2 else S) S = if b then allDone l S else S := by
    intro l
    induction l with
    | nil => intro j S; simp [allDone]
    | cons x l ih =>
      intro j S
      rw [List.zipIdx_cons, List.foldl_cons, ih]
      simp only [hk]
      cases b <;> rfl
  exact key l 0 S
theorem keeps_none (i : Nat) : keeps 0 i = false := by simp [keeps]
theorem keeps_all (i : Nat) : keeps 18446744073709551615 i = true := by
  have h : i % 64 < 64 := Nat.mod_lt _ (by decide)
  show Nat.testBit 18446744073709551615 (i % 64) = true
  generalize i % 64 = j at h
  have : ∀ j : Fin 64, Nat.testBit 18446744073709551615 j.1 = true := by decide
  exact this ⟨j, h⟩
theorem crash_none {D : DiskM} {n : Nat} (h : Calm D n) : ((D.crash 0).start).now = D.safe ∧ ((D.crash 0).start).loose = [] ∧ (D.crash 0).up = false ∧ ((D.crash 0).start).up = true := by
  unfold DiskM.crash
  rw [if_neg (by simp [h.up])]
  refine ⟨?_, rfl, rfl, rfl⟩
  show crashed 0 D.loose D.safe = _
  rw [crashed_all 0 false keeps_none]; rfl
theorem crash_every {D : DiskM} {n : Nat} (h : Calm D n) : ((D.crash 18446744073709551615).start).now = D.now ∧ (D.crash 18446744073709551615).up = false ∧ ((D.crash 18446744073709551615).start).up = true := by
  unfold DiskM.crash
  rw [if_neg (by simp [h.up])]
  refine ⟨?_, rfl, rfl⟩
  show crashed 18446744073709551615 D.loose D.safe = _
  rw [crashed_all _ true keeps_all, if_pos rfl]
  exact h.true_.symm
end Go.Proofs.Ytbelkkhfjbbldaa
