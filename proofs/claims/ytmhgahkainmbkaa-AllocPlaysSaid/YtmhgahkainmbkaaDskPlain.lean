/- What a disk keeps, of the plain data; a disk of the call's own; sectors of one byte. -/
import Derived.Test.YtmhgahkainmbkaaDisk7
import Derived.Test.YtmhgahkainmbkaaArgs
import Derived.Deep.RegionHeld3
namespace Go.Proofs.Ytmhgahkainmbkaa
open Go.RowKit
set_option linter.unusedVariables false
set_option linter.unusedSimpArgs false

/-- All loose writes, done in their order. -/
def allDone (l : List (Nat × List UInt8)) (S : List (List UInt8)) : List (List UInt8) := l.foldl (fun S x => S.set x.1 x.2) S
/-- What is read is what was safe and the loose writes over it. -/
def DiskM.True (D : DiskM) : Prop := D.now = allDone D.loose D.safe

theorem allDone_append (l m : List (Nat × List UInt8)) (S : List (List UInt8)) : allDone (l ++ m) S = allDone m (allDone l S) := by unfold allDone; rw [List.foldl_append]
theorem allDone_length (l : List (Nat × List UInt8)) : ∀ S : List (List UInt8), (allDone l S).length = S.length := by
  induction l with
  | nil => intro S; rfl
  | cons x l ih => intro S; show (allDone l (S.set x.1 x.2)).length = _; rw [ih]; simp
theorem crash_true {D : DiskM} (h : D.True) (k : UInt64) : (D.crash k).True := by
  unfold DiskM.crash
  split
  · exact h
  · rfl
theorem write_true {D : DiskM} (h : D.True) (N : Nat) (i : Int) (l : List UInt8) : (D.write N i l).True := by
  unfold DiskM.write
  split
  · exact h
  · split
    · exact h
    · split
      · exact crash_true h _
      · show (D.deed.now.set i.toNat l) = allDone (D.loose ++ [(i.toNat, l)]) D.safe
        rw [allDone_append]
        show D.now.set i.toNat l = (allDone D.loose D.safe).set i.toNat l
        rw [← h]
/-- A place that no loose write is at stays. -/
theorem allDone_other (l : List (Nat × List UInt8)) (i : Nat) (hi : ∀ x ∈ l, x.1 ≠ i) : ∀ S : List (List UInt8), (allDone l S)[i]? = S[i]? := by
  induction l with
  | nil => intro S; rfl
  | cons x l ih =>
    intro S
    show (allDone l (S.set x.1 x.2))[i]? = _
    rw [ih (fun y hy => hi y (List.mem_cons_of_mem _ hy)), List.getElem?_set_ne (hi x List.mem_cons_self)]
theorem flushed_at (now : List (List UInt8)) (l : List (Nat × List UInt8)) (i : Nat) (hn : i < now.length) : ∀ S : List (List UInt8), S.length = now.length → (flushed now l S)[i]? = if (∃ x ∈ l, x.1 = i) then now[i]? else S[i]? := by
  induction l with
  | nil => intro S _; simp [flushed]
  | cons x l ih =>
    intro S hS
    show (flushed now l (S.set x.1 (now.getD x.1 [])))[i]? = _
    rw [ih _ (by simpa using hS)]
    by_cases hx : x.1 = i
    · subst hx
      have h1 : ∃ y ∈ x :: l, y.1 = x.1 := ⟨x, List.mem_cons_self, rfl⟩
      rw [if_pos h1]
      split
      · rfl
      · rw [List.getElem?_set_self (by omega)]
        simp [List.getD, List.getElem?_eq_getElem hn]
    · have h1 : (∃ y ∈ x :: l, y.1 = i) ↔ (∃ y ∈ l, y.1 = i) := by
        constructor
        · rintro ⟨y, hy, e⟩
          rcases List.mem_cons.1 hy with rfl | hy
          · exact absurd e hx
          · exact ⟨y, hy, e⟩
        · rintro ⟨y, hy, e⟩; exact ⟨y, List.mem_cons_of_mem _ hy, e⟩
      simp only [h1]
      split
      · rfl
      · rw [List.getElem?_set_ne hx]
theorem flushed_now {D : DiskM} {N : Nat} (ho : D.Ok N) (h : D.True) : flushed D.now D.loose D.safe = D.now := by
  have hl : D.safe.length = D.now.length := by rw [ho.safeLen, ho.nowLen]
  have hfl : ∀ (l : List (Nat × List UInt8)) (S : List (List UInt8)), (flushed D.now l S).length = S.length := by
    intro l
    induction l with
    | nil => intro S; rfl
    | cons x l ih => intro S; show (flushed D.now l (S.set x.1 (D.now.getD x.1 []))).length = _; rw [ih]; simp
  apply List.ext_getElem?
  intro i
  rcases Nat.lt_or_ge i D.now.length with hi | hi
  · rw [flushed_at D.now D.loose i hi D.safe hl]
    split
    · rfl
    · rename_i hne
      conv => rhs; rw [h]
      rw [allDone_other D.loose i (fun x hx e => hne ⟨x, hx, e⟩)]
  · rw [List.getElem?_eq_none (by rw [hfl]; omega), List.getElem?_eq_none hi]
/-- A disk that has power and is not armed is flushed: what is safe is what is read. -/
theorem flush_all {D : DiskM} {N : Nat} (ho : D.Ok N) (h : D.True) (hu : D.up = true) (ha : D.armed = false) : D.flush = { D.deed with safe := D.now, loose := [] } := by
  unfold DiskM.flush
  rw [if_neg (by simp [hu]), if_neg (by simp [DiskM.fails, ha]), flushed_now ho h]

/-- What writes keep of a disk that has power and is not armed. -/
structure Calm (D : DiskM) (n : Nat) : Prop where
  up : D.up = true
  armed : D.armed = false
  true_ : D.True
  few : D.loose.length ≤ n
theorem Calm.write {D : DiskM} {n : Nat} (h : Calm D n) (N : Nat) (i : Int) (l : List UInt8) : Calm (D.write N i l) (n + 1) := by
  have ht := write_true h.true_ N i l
  have hf : D.fails = false := by simp [DiskM.fails, h.armed]
  unfold DiskM.write at ht ⊢
  split
  · exact ⟨h.up, h.armed, h.true_, by have := h.few; omega⟩
  · split
    · exact ⟨h.up, h.armed, h.true_, by have := h.few; omega⟩
    · rename_i h1 h2
      rw [if_neg (by simp [hf])]
      rw [if_neg h1, if_neg h2, if_neg (by simp [hf])] at ht
      exact ⟨h.up, h.armed, ht, by have := h.few; simp; omega⟩
theorem fresh_calm (N : Nat) : Calm (DiskM.fresh N) 0 := ⟨rfl, rfl, rfl, Nat.le_refl _⟩
theorem crash_ok {D : DiskM} {N : Nat} (h : D.Ok N) (k : UInt64) : (D.crash k).Ok N := h.crash k
theorem deed_ok {D : DiskM} {N : Nat} (h : D.Ok N) : D.deed.Ok N := ⟨h.pos, h.most, h.safeLen, h.nowLen, h.safe, h.now, h.loose⟩
theorem write_ok {D : DiskM} {N : Nat} (h : D.Ok N) (i : Int) (l : List UInt8) : (D.write N i l).Ok N := by
  unfold DiskM.write
  split
  · exact h
  · rename_i hm
    split
    · exact h
    · rename_i hl
      split
      · exact h.crash _
      · have hm' : D.up = true ∧ 0 ≤ i ∧ i < N := by
          unfold DiskM.mayE at hm
          cases hu : D.up with
          | false => rw [hu] at hm; simp at hm
          | true =>
            rw [if_neg (by simp [hu])] at hm
            by_cases hi : 0 ≤ i ∧ i < N
            · exact ⟨rfl, hi⟩
            · rw [if_neg hi] at hm; simp at hm
        have hl' : l.length = 128 := by simpa using hl
        refine ⟨h.pos, h.most, h.safeLen, by simpa using h.nowLen, h.safe, h.now.set _ hl', fun x hx => ?_⟩
        rcases List.mem_append.1 hx with hx | hx
        · exact h.loose x hx
        · rw [List.mem_singleton] at hx
          subst hx
          exact ⟨by simp only; omega, hl'⟩
/-- A disk that has power, is not armed, and holds nothing loose. -/
structure Still (D : DiskM) (N : Nat) : Prop where
  ok : D.Ok N
  up : D.up = true
  armed : D.armed = false
  safe : D.safe = D.now
  loose : D.loose = []
theorem Still.calm {D : DiskM} {N : Nat} (h : Still D N) : Calm D 0 := ⟨h.up, h.armed, by unfold DiskM.True; rw [h.loose, ← h.safe]; rfl, by rw [h.loose]; exact Nat.le_refl _⟩
def imgBytes (l : List (List UInt8)) : List UInt8 := l.flatten
theorem imgBytes_take (l : List (List UInt8)) (k : Nat) (h : k < l.length) : imgBytes (l.take (k + 1)) = imgBytes (l.take k) ++ l.getD k [] := by
  unfold imgBytes
  rw [List.take_succ_eq_append_getElem h, List.flatten_append]
  simp [List.getD, List.getElem?_eq_getElem h]

theorem sector_len {D : DiskM} {N : Nat} (h : D.Ok N) {k : Nat} (hk : k < N) : (D.now.getD k []).length = 128 := by
  have hkn : k < D.now.length := by rw [h.nowLen]; exact hk
  simp only [List.getD, List.getElem?_eq_getElem hkn, Option.getD_some]
  exact h.now _ (List.getElem_mem hkn)

def fulls (c : UInt8) : List UInt8 := List.replicate 128 c
theorem fulls_length (c : UInt8) : (fulls c).length = 128 := by simp [fulls]

/-- A new sector of one byte. -/
structure NewFull (w w' : World) (c : UInt8) (g : Nat) : Prop where
  below : Below w.heap.size w w'
  size : w'.heap.size = w.heap.size + 1
  at_ : g = w.heap.size
  blk : Blk w' g 5 ((fulls c).map bv).toArray

theorem full_slc {w : World} {g : Nat} {c : UInt8} (h : Blk w g 5 ((fulls c).map bv).toArray) : Slc w (g + 1) 1 (some ⟨g, 0, none⟩) 128 128 ((fulls c).map bv) := by
  have := h.slc (sz := 1) (n := 128) (c := 128) (by simp [fulls]) (Nat.le_refl _) (by decide)
  rwa [List.take_of_length_le (by simp [fulls])] at this

/-- A sector of one byte is written. -/
theorem writeFull {w0 w : World} {F : Nat → Prop} {p N : Nat} {D : DiskM} {c : UInt8} {g : Nat} (h : Disk w0 F p N D) (hf : NewFull w0 w c g) (i : Int) (hroom : D.loose.length ≤ 1000000) :
    Calls Try.prog 47 #[.pointer (some ⟨p, 0, none⟩), .int .i64 i, .slice (some ⟨g, 0, none⟩) 128 128] w fun e w' => e = .returned (.int .i64 (D.writeE N i (fulls c))) ∧ ∃ F', Step w w' F F' ∧ Disk w' F' p N (D.write N i (fulls c)) := by
  refine write_any (h.free hf.below) i (full_slc hf.blk) (fun a ha hF => ?_) hroom
  injection ha with ha
  subst ha
  have h1 := h.1 _ hF
  have h2 := hf.at_
  simp only at h1
  omega

/-- Reading, behind any power. -/
theorem readAny {w : World} {F : Nat → Prop} {p N : Nat} {D : DiskM} (h : Disk w F p N D) (i : Int) (hi : D.mayE N i = 0) :
    Calls Try.prog 37 #[.pointer (some ⟨p, 0, none⟩), .int .i64 i] w fun e w' => ∃ g, e = .returned (.tuple #[.slice (some ⟨g, 0, none⟩) 128 128, .int .i64 0]) ∧ w.heap.size ≤ g ∧ Blk w' g 113 ((D.now.getD i.toNat []).map bv).toArray ∧ Below w.heap.size w w' := by
  obtain ⟨_, _, _, _, hd⟩ := h
  exact read_any hd i hi
theorem readNo {w : World} {F : Nat → Prop} {p N : Nat} {D : DiskM} (h : Disk w F p N D) (i : Int) (hi : D.mayE N i ≠ 0) :
    Calls Try.prog 37 #[.pointer (some ⟨p, 0, none⟩), .int .i64 i] w fun e w' => e = .returned (.tuple #[.slice none 0 0, .int .i64 (D.mayE N i)]) ∧ w = w' := by
  obtain ⟨_, _, _, _, hd⟩ := h
  exact readE_any hd i hi
theorem crashAny {w : World} {F : Nat → Prop} {p N : Nat} {D : DiskM} (h : Disk w F p N D) (k : UInt64) :
    Calls Try.prog 82 #[.pointer (some ⟨p, 0, none⟩), .int .u64 (k.toNat : Int)] w fun e w' => e = .returned (.tuple #[]) ∧ Step w w' F F ∧ Disk w' F p N (D.crash k) := by
  obtain ⟨hb, _, _, _, hd⟩ := h
  exact (crash_any hd k).mono fun e w' ⟨he, hs, vl, hd'⟩ => ⟨he, hs, .of (Lib.hid hb) hs.size hd'⟩
theorem lenAny {w : World} {F : Nat → Prop} {p N : Nat} {D : DiskM} (h : Disk w F p N D) :
    Calls Try.prog 69 #[.pointer (some ⟨p, 0, none⟩)] w fun e w' => e = .returned (.int .i64 (N : Int)) ∧ w = w' := by
  obtain ⟨_, _, _, _, hd⟩ := h
  exact len_any hd

/-- A sector read, as a string. -/
theorem sector_string {w : World} {g : Nat} {l : List UInt8} (hl : l.length = 128) (h : Blk w g 113 (l.map bv).toArray) :
    (convert 39 9 (.slice (some ⟨g, 0, none⟩) 128 128)).run Try.prog w = .ok (.string ⟨l.toArray⟩) w := by
  have := h.slc (sz := 1) (n := 128) (c := 128) (by simp [hl]) (Nat.le_refl _) (by decide)
  rw [List.take_of_length_le (by simp [hl])] at this
  exact convert_bytes Try.underlying39 Try.underlying5 this 9 Try.underlying9
theorem full_string {w : World} {g : Nat} {c : UInt8} (h : Blk w g 5 ((fulls c).map bv).toArray) :
    (convert 39 9 (.slice (some ⟨g, 0, none⟩) 128 128)).run Try.prog w = .ok (.string ⟨(fulls c).toArray⟩) w :=
  convert_bytes Try.underlying39 Try.underlying5 (full_slc h) 9 Try.underlying9

/-- A disk of the call's own. -/
structure Run (w wi : World) (F : Nat → Prop) (p N : Nat) (D : DiskM) : Prop where
  below : Below w.heap.size w wi
  disk : Disk wi F p N D
  foot : ∀ k, F k → w.heap.size ≤ k
section
variable {w wi wj : World} {F F' : Nat → Prop} {p N : Nat} {D D' : DiskM}
theorem Run.step (r : Run w wi F p N D) (s : Step wi wj F F') (d : Disk wj F' p N D') : Run w wj F' p N D' :=
  ⟨r.below.trans (s.below r.below.size r.foot), d, s.from_ r.below.size r.foot⟩
theorem Run.free (r : Run w wi F p N D) (hb : Below wi.heap.size wi wj) : Run w wj F p N D :=
  ⟨r.below.trans (hb.mono r.below.size), r.disk.free hb, r.foot⟩
theorem Run.write (r : Run w wi F p N D) {c : UInt8} {g : Nat} (hf : NewFull wi wj c g) (i : Int) (hroom : D.loose.length ≤ 1000000) :
    Calls Try.prog 47 #[.pointer (some ⟨p, 0, none⟩), .int .i64 i, .slice (some ⟨g, 0, none⟩) 128 128] wj fun e w' => e = .returned (.int .i64 (D.writeE N i (fulls c))) ∧ ∃ F', Step wj w' F F' ∧ Run w w' F' p N (D.write N i (fulls c)) :=
  (writeFull r.disk hf i hroom).mono fun _ _ ⟨he, F', hs, hd⟩ => ⟨he, F', hs, (r.free hf.below).step hs hd⟩
theorem Run.flush (r : Run w wi F p N D) :
    Calls Try.prog 68 #[.pointer (some ⟨p, 0, none⟩)] wi fun e w' => e = .returned (.int .i64 D.flushE) ∧ Run w w' F p N D.flush :=
  (flush_any r.disk).mono fun _ _ ⟨he, hs, hd⟩ => ⟨he, r.step hs hd⟩
theorem Run.crash (r : Run w wi F p N D) (k : UInt64) :
    Calls Try.prog 82 #[.pointer (some ⟨p, 0, none⟩), .int .u64 (k.toNat : Int)] wi fun e w' => e = .returned (.tuple #[]) ∧ Run w w' F p N (D.crash k) :=
  (crashAny r.disk k).mono fun _ _ ⟨he, hs, hd⟩ => ⟨he, r.step hs hd⟩
end

end Go.Proofs.Ytmhgahkainmbkaa
