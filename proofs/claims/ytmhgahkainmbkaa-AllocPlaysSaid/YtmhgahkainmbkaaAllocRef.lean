/- Blocks and inodes by definition, in memory: rows of bools and of numbers, and what keeps them. -/
import Derived.Test.YtmhgahkainmbkaaAllocPlaysP
import Derived.Test.YtmhgahkainmbkaaAllocLay
import Derived.Test.YtmhgahkainmbkaaAllocOnceW
namespace Go.Proofs.Ytmhgahkainmbkaa
open Go.RowKit
set_option linter.unusedVariables false
set_option linter.unusedSimpArgs false
/-- append onto a slice without room is append onto nil. -/
theorem append_cap0 {P : Program} {t ty e : TypeId} (ht : P.underlying t = some (.slice e)) {i : TypeInfo} (hi : P.info? e = some i) {a : Addr} {B : Option Addr} {m c : Nat} (hm : 0 < m) (hb : m * i.bytes ≤ 281474976710656) (w : World) :
    (Builtin.append_ #[t, t] ty #[.slice (some a) 0 0, .slice B m c]).run P w = (Builtin.append_ #[t, t] ty #[.slice none 0 0, .slice B m c]).run P w := by
  have hn : Builtin.nextslicecap m 0 = m := by
    unfold Builtin.nextslicecap
    simp
    omega
  have h1 : ¬ 281474976710656 < m * i.bytes := by omega
  have h0 : ¬ m = 0 := by omega
  have hl : ∀ w : World, (loadCells a 0).run P w = .ok #[] w := fun w => rfl
  simp [Builtin.append_, run_underlying ht, sizeOf, typeInfo, hi, Builtin.lenOf, Builtin.firstCells, hn, h1, h0, hl]
/-- A row of bools. -/
structure BRow (w : World) (g cap : Nat) (l : List Bool) : Prop where
  le : l.length ≤ cap
  most : cap ≤ maxLen
  at_ : ∃ cur, Blk w g 4 cur ∧ cur.size = cap ∧ cur.toList.take l.length = l.map Value.bool
section
variable {w w' : World} {g cap : Nat} {l : List Bool}
theorem BRow.lt (h : BRow w g cap l) : g < w.heap.size := by obtain ⟨cur, h1, _⟩ := h.at_; exact h1.lt
theorem BRow.same (h : BRow w g cap l) (e : w'.heap[g]? = w.heap[g]?) : BRow w' g cap l := by
  obtain ⟨cur, h1, h2, h3⟩ := h.at_
  exact ⟨h.le, h.most, cur, e.trans h1, h2, h3⟩
theorem BRow.move (h : BRow w g cap l) (hk : ∀ j t cs, Blk w j t cs → t ≠ 3 → Blk w' j t cs) : BRow w' g cap l := by
  obtain ⟨cur, h1, h2, h3⟩ := h.at_
  exact ⟨h.le, h.most, cur, hk _ _ _ h1 (by decide), h2, h3⟩
theorem BRow.below (h : BRow w g cap l) (hb : Below w.heap.size w w') : BRow w' g cap l := h.same (hb.block g h.lt)
theorem BRow.step {F G : Nat → Prop} (h : BRow w g cap l) (s : Step w w' F G) (hn : ¬ F g) : BRow w' g cap l := h.same (s.block g h.lt hn)
theorem BRow.cell (h : BRow w g cap l) {i : Nat} (hi : i < l.length) : w.cell? ⟨g, i, none⟩ = some (.bool (l.getD i false)) := by
  obtain ⟨cur, h1, h2, h3⟩ := h.at_
  rw [h1.cell, ← Array.getElem?_toList]
  have h4 : (cur.toList.take l.length)[i]? = (l.map Value.bool)[i]? := by rw [h3]
  rw [List.getElem?_take, if_pos hi] at h4
  rw [h4]
  simp [hi]
theorem BRow.frozen (h : BRow w g cap l) (i : Nat) : w.frozen? ⟨g, i, none⟩ = false := by obtain ⟨cur, h1, _⟩ := h.at_; exact h1.frozen i
theorem BRow.set (h : BRow w g cap l) (i : Nat) (b : Bool) (hi : i < l.length) : BRow (w.setCell ⟨g, i, none⟩ (.bool b)) g cap (l.set i b) := by
  obtain ⟨cur, h1, h2, h3⟩ := h.at_
  refine ⟨by rw [List.length_set]; exact h.le, h.most, _, h1.set_ i (.bool b), by simpa using h2, ?_⟩
  rw [Array.toList_setIfInBounds, List.take_set, List.length_set, h3, List.map_set]
theorem BRow.slc (h : BRow w g cap l) : Slc w w.heap.size 1 (some ⟨g, 0, none⟩) l.length cap (l.map Value.bool) := by
  obtain ⟨cur, h1, h2, h3⟩ := h.at_
  have := h1.slc (sz := 1) (n := l.length) (c := cap) (by have := h.le; omega) h.le h.most
  rw [Nat.mul_one, h3] at this
  exact this.more h1.lt
theorem BRow.far (h : BRow w g cap l) {q : Addr} (hq : g ≠ q.block) (v : Value) : BRow (w.setCell q v) g cap l := by
  obtain ⟨cur, h1, h2, h3⟩ := h.at_
  exact ⟨h.le, h.most, cur, h1.far hq v, h2, h3⟩
theorem BRow.of_own {base : Nat} {v : Value} (h : w.ownsRow base 4 1 v l.length (l.map Value.bool)) (h0 : 0 < l.length) : ∃ g cap, v = .slice (some ⟨g, 0, none⟩) l.length cap ∧ base ≤ g ∧ BRow w g cap l := by
  rcases h.2 with ⟨_, h1⟩ | ⟨g, cap, cur, rfl, h1, h2, h3, h4, h5, h6⟩
  · omega
  · exact ⟨g, cap, rfl, h1, h3, h4, cur, h2, by simpa using h5, by simpa using h6⟩
theorem BRow.make {n : Nat} {W : World} (h : Blk W g 4 (boolV (List.replicate n false))) (hn : n ≤ 2000) : BRow W g n (List.replicate n false) :=
  ⟨by simp, by unfold maxLen; omega, _, h, by simp [boolV], by simp [boolV]⟩
end
/-- A number, as a cell. -/
abbrev iv (k : Nat) : Value := .int .i64 (k : Int)
/-- A row of numbers; where it is empty it may be whatever has no room. -/
structure IRow (w : World) (F : Nat → Prop) (v : Value) (l : List Nat) : Prop where
  is : (l = [] ∧ ∃ A, v = .slice A 0 0) ∨ Row w F 3 1 v l.length (l.map iv)
section
variable {w w' : World} {F G : Nat → Prop} {v : Value} {l : List Nat}
theorem IRow.nil (w : World) (F : Nat → Prop) (A : Option Addr) : IRow w F (.slice A 0 0) [] := ⟨.inl ⟨rfl, A, rfl⟩⟩
theorem IRow.slc (h : IRow w F v l) : ∃ A c, v = .slice A l.length c ∧ Slc w w.heap.size 1 A l.length c (l.map iv) := by
  rcases h.is with ⟨rfl, A, rfl⟩ | h
  · exact ⟨A, 0, rfl, by simp, Nat.le_refl _, Nat.zero_le _, fun h => absurd h (by simp)⟩
  · exact h.slc
theorem IRow.kept (h : IRow w F v l) (hb : ∀ k, F k → k < w.heap.size → w'.heap[k]? = w.heap[k]?) (hG : ∀ k, F k → G k) : IRow w' G v l := by
  rcases h.is with h | h
  · exact ⟨.inl h⟩
  · exact ⟨.inr (h.kept (fun k hk => hb k (h.foot k hk) (h.lt k hk)) (fun k hk => hG k (h.foot k hk)))⟩
theorem IRow.far (h : IRow w F v l) {q : Addr} {t : TypeId} {cs : Array Value} (hq : Blk w q.block t cs) (ht : t ≠ 3) (u : Value) : IRow (w.setCell q u) F v l := by
  rcases h.is with h1 | h1
  · exact ⟨.inl h1⟩
  · refine ⟨.inr (h1.kept (fun k hk => ?_) h1.foot)⟩
    have hne : k ≠ q.block := by
      rcases h1.own.2 with ⟨h0, _⟩ | ⟨g, cap, cur, hv, h2, h3, _⟩
      · rw [h0] at hk; simp [Value.ownBlock] at hk
      · have hkg : g = k := by rw [hv] at hk; simpa [Value.ownBlock] using hk
        subst hkg
        have hb3 : Blk w g 3 cur := h3
        exact hb3.ne_ hq (Ne.symm ht)
    exact Below.heap_setCell w q u k hne
theorem IRow.push (h : IRow w F v l) (hl : l.length ≤ 1000000) (k : Nat) :
    ∃ A' c' w', (AppendS #[53, 53] 53 #[v, .slice (some ⟨w.heap.size, 0, none⟩) 1 1]).run Try.prog (w.alloc (.cells #[iv k] 3)) = .ok (.slice A' (l.length + 1) c') w' ∧ Step w w' F (fun j => F j ∨ (w.heap.size ≤ j ∧ j < w'.heap.size)) ∧ IRow w' (fun j => F j ∨ (w.heap.size ≤ j ∧ j < w'.heap.size)) (.slice A' (l.length + 1) c') (l ++ [k]) ∧ (∀ j t cs, Blk w j t cs → t ≠ 3 → Blk w' j t cs) := by
  have key : ∀ v0, w.ownsRow 0 3 1 v0 l.length (l.map iv) → (∀ j, v0.ownBlock = some j → F j) → ∃ A' c' w', (Builtin.append_ #[53, 53] 53 #[v0, .slice (some ⟨w.heap.size, 0, none⟩) 1 1]).run Try.prog (w.alloc (.cells #[iv k] 3)) = .ok (.slice A' (l.length + 1) c') w' ∧ Step w w' F (fun j => F j ∨ (w.heap.size ≤ j ∧ j < w'.heap.size)) ∧ IRow w' (fun j => F j ∨ (w.heap.size ≤ j ∧ j < w'.heap.size)) (.slice A' (l.length + 1) c') (l ++ [k]) ∧ (∀ j t cs, Blk w j t cs → t ≠ 3 → Blk w' j t cs) := by
    intro v0 ho hf
    obtain ⟨A', c', w', h1, h2, h3, h4⟩ := append_num w 0 v0 l.length l ho k hl (Nat.zero_le _)
    have hsz := h3.size
    simp only [World.size_alloc] at hsz
    have hs : Step w w' F F := ((Step.refl w F).alloc _).grown h3 (fun j hj => .inl (hf j hj))
    have hblk : ∀ j, (Value.slice A' (l.length + 1) c').ownBlock = some j → F j ∨ (w.heap.size ≤ j ∧ j < w'.heap.size) := fun j hj => by
      have hlt := (h2.lt j hj).2
      rcases h4 with h4 | h4
      · exact .inl (hf j (h4 ▸ hj))
      · rw [h4] at hj; injection hj with hj; exact .inr ⟨by omega, hlt⟩
    refine ⟨A', c', w', h1, ⟨hs.os, hs.tape, hs.output, hs.size, hs.block, fun j hj => ?_⟩, ⟨.inr ⟨?_, hblk⟩⟩, fun j t cs hB ht => (hB.alloc _).grown h3 (fun e => ?_)⟩
    · rcases hj with hj | hj
      · exact hs.next j hj
      · exact .inr hj.1
    · rw [show (l ++ [k]).length = l.length + 1 by simp]; exact h2
    · rcases ho.2 with ⟨h0, _⟩ | ⟨g, cap, cur, hv, g2, g3, _⟩
      · rw [h0] at e; simp [Value.ownBlock] at e
      · have hkg : g = j := by rw [hv] at e; simpa [Value.ownBlock] using e.symm
        subst hkg
        have hb3 : Blk w g 3 cur := g3
        exact absurd rfl (hb3.ne_ hB (Ne.symm ht))
  rcases h.is with ⟨rfl, A, rfl⟩ | h
  · obtain ⟨A', c', w', h1, h2⟩ := key (.slice none 0 0) (World.ownsRow_nil w 0 3 1) (fun j hj => by simp [Value.ownBlock] at hj)
    refine ⟨A', c', w', ?_, h2⟩
    cases A with
    | none => exact h1
    | some a =>
      obtain ⟨i, hi, hz0, hz1, hz2⟩ := info_parts int_info
      unfold AppendS
      rw [append_cap0 (P := Try.prog) Try.underlying53 hi (by decide) (by rw [hz2]; decide)]
      exact h1
  · exact key v h.own h.foot
end
/-- The space by definition: its cells. -/
def refV (n gb nb cb gi ni ci : Nat) (sv : Value) : List Value := refCells n (lData n) ++ [.slice (some ⟨gb, 0, none⟩) nb cb, .slice (some ⟨gi, 0, none⟩) ni ci, sv]
/-- The space by definition, in memory; F: its blocks. -/
structure RefParts (w : World) (F : Nat → Prop) (pr n gb cb gi ci : Nat) (sv : Value) (R : RefM) : Prop where
  head : Blk w pr 103 (refV n gb R.blk.length cb gi R.ino.length ci sv).toArray
  blk : BRow w gb cb R.blk
  ino : BRow w gi ci R.ino
  stg : IRow w F sv R.stg
  ne : gb ≠ gi
  fp : F pr
  fb : F gb
  fi : F gi
  lt : ∀ k, F k → k < w.heap.size
def RefAt (w : World) (F : Nat → Prop) (pr n : Nat) (R : RefM) : Prop := ∃ gb cb gi ci sv, RefParts w F pr n gb cb gi ci sv R
section
variable {w w' : World} {F G K : Nat → Prop} {pr n gb cb gi ci : Nat} {sv : Value} {R : RefM}
theorem RefParts.step (h : RefParts w F pr n gb cb gi ci sv R) (s : Step w w' G K) (hd : ∀ k, F k → ¬ G k) : RefParts w' F pr n gb cb gi ci sv R :=
  ⟨h.head.step s (hd _ h.fp), h.blk.step s (hd _ h.fb), h.ino.step s (hd _ h.fi), h.stg.kept (fun k hk hlt => s.block k hlt (hd k hk)) (fun _ h => h), h.ne, h.fp, h.fb, h.fi, fun k hk => Nat.lt_of_lt_of_le (h.lt k hk) s.size⟩
theorem RefAt.step (h : RefAt w F pr n R) (s : Step w w' G K) (hd : ∀ k, F k → ¬ G k) : RefAt w' F pr n R := by
  obtain ⟨gb, cb, gi, ci, sv, h⟩ := h
  exact ⟨gb, cb, gi, ci, sv, h.step s hd⟩
theorem RefAt.free (h : RefAt w F pr n R) (hb : Below w.heap.size w w') : RefAt w' F pr n R := h.step (Step.of_below hb (fun _ => False)) (fun _ _ h => h)
theorem RefAt.lt (h : RefAt w F pr n R) : ∀ k, F k → k < w.heap.size := by
  obtain ⟨gb, cb, gi, ci, sv, h⟩ := h
  exact h.lt
theorem RefParts.cells (h : RefParts w F pr n gb cb gi ci sv R) : w.cell? ⟨pr, 0, none⟩ = some (iv n) ∧ w.cell? ⟨pr, 1, none⟩ = some (iv (logLen n)) ∧ w.cell? ⟨pr, 2, none⟩ = some (iv (lMap n)) ∧ w.cell? ⟨pr, 3, none⟩ = some (iv (lNodes n)) ∧ w.cell? ⟨pr, 4, none⟩ = some (iv (lTable n)) ∧
    w.cell? ⟨pr, 5, none⟩ = some (iv (lInodes n)) ∧ w.cell? ⟨pr, 6, none⟩ = some (iv (lData n)) ∧ w.cell? ⟨pr, 7, none⟩ = some (.slice (some ⟨gb, 0, none⟩) R.blk.length cb) ∧ w.cell? ⟨pr, 8, none⟩ = some (.slice (some ⟨gi, 0, none⟩) R.ino.length ci) ∧ w.cell? ⟨pr, 9, none⟩ = some sv :=
  ⟨h.head.cell 0, h.head.cell 1, h.head.cell 2, h.head.cell 3, h.head.cell 4, h.head.cell 5, h.head.cell 6, h.head.cell 7, h.head.cell 8, h.head.cell 9⟩
theorem RefParts.nbp (h : RefParts w F pr n gb cb gi ci sv R) : gb ≠ pr ∧ gi ≠ pr := by
  obtain ⟨c1, h1, _⟩ := h.blk.at_
  obtain ⟨c2, h2, _⟩ := h.ino.at_
  exact ⟨h1.ne_ h.head (by decide), h2.ne_ h.head (by decide)⟩
theorem RefParts.stg_far (h : RefParts w F pr n gb cb gi ci sv R) {q : Addr} (hq : q.block = gb ∨ q.block = gi ∨ q.block = pr) (u : Value) : IRow (w.setCell q u) F sv R.stg := by
  obtain ⟨c1, g1, _⟩ := h.blk.at_
  obtain ⟨c2, g2, _⟩ := h.ino.at_
  rcases hq with e | e | e
  · exact h.stg.far (by rw [e]; exact g1) (by decide) u
  · exact h.stg.far (by rw [e]; exact g2) (by decide) u
  · exact h.stg.far (by rw [e]; exact h.head) (by decide) u
theorem RefParts.setB (h : RefParts w F pr n gb cb gi ci sv R) {i : Nat} (hi : i < R.blk.length) (b : Bool) : RefParts (w.setCell ⟨gb, i, none⟩ (.bool b)) F pr n gb cb gi ci sv { R with blk := R.blk.set i b } := by
  obtain ⟨n1, n2⟩ := h.nbp
  refine ⟨?_, h.blk.set i b hi, h.ino.far (q := ⟨gb, i, none⟩) (Ne.symm h.ne) _, h.stg_far (q := ⟨gb, i, none⟩) (.inl rfl) _, h.ne, h.fp, h.fb, h.fi, fun k hk => by rw [World.size_setCell]; exact h.lt k hk⟩
  rw [List.length_set]
  exact h.head.far (p := ⟨gb, i, none⟩) (Ne.symm n1) _
theorem RefParts.setI (h : RefParts w F pr n gb cb gi ci sv R) {i : Nat} (hi : i < R.ino.length) (b : Bool) : RefParts (w.setCell ⟨gi, i, none⟩ (.bool b)) F pr n gb cb gi ci sv { R with ino := R.ino.set i b } := by
  obtain ⟨n1, n2⟩ := h.nbp
  refine ⟨?_, h.blk.far (q := ⟨gi, i, none⟩) h.ne _, h.ino.set i b hi, h.stg_far (q := ⟨gi, i, none⟩) (.inr (.inl rfl)) _, h.ne, h.fp, h.fb, h.fi, fun k hk => by rw [World.size_setCell]; exact h.lt k hk⟩
  rw [List.length_set]
  exact h.head.far (p := ⟨gi, i, none⟩) (Ne.symm n2) _
/-- The row of what is staged is another one. -/
theorem RefParts.setS (h : RefParts w F pr n gb cb gi ci sv R) (s : Step w w' F G) (hG : ∀ k, F k → G k) (hk : ∀ j t cs, Blk w j t cs → t ≠ 3 → Blk w' j t cs) (hlt : ∀ k, G k → k < w'.heap.size) {sv' : Value} {l : List Nat} (hr : IRow w' G sv' l) : RefParts (w'.setCell ⟨pr, 9, none⟩ sv') G pr n gb cb gi ci sv' { R with stg := l } := by
  obtain ⟨n1, n2⟩ := h.nbp
  have hh : Blk w' pr 103 (refV n gb R.blk.length cb gi R.ino.length ci sv).toArray := hk _ _ _ h.head (by decide)
  have h1 := hh.set_ 9 sv'
  refine ⟨h1.cast_ (by simp [refV, refCells]), (h.blk.move hk).far (q := ⟨pr, 9, none⟩) n1 _, (h.ino.move hk).far (q := ⟨pr, 9, none⟩) n2 _, ?_, h.ne, hG _ h.fp, hG _ h.fb, hG _ h.fi, fun k hk => by rw [World.size_setCell]; exact hlt k hk⟩
  exact hr.far (q := ⟨pr, 9, none⟩) hh (by decide) sv'
end
end Go.Proofs.Ytmhgahkainmbkaa
