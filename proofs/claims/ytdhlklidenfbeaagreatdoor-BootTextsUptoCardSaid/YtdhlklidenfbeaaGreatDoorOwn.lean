/- What a call does to the memory that an object has reserved: 'Step w w' F F''. -/
import Derived.Test.YtdhlklidenfbeaaGreatDoorBase
import Derived.Deep.MidRow
namespace Go.Proofs.YtdhlklidenfbeaaGreatDoor
open Go.RowKit

/-- From w to w' only blocks of F have turned; F' is F, less some, and blocks that are new. -/
structure Step (w w' : World) (F F' : Nat → Prop) : Prop where
  os : w'.os = w.os
  tape : w'.tape = w.tape
  output : w'.output = w.output
  size : w.heap.size ≤ w'.heap.size
  block : ∀ k, k < w.heap.size → ¬ F k → w'.heap[k]? = w.heap[k]?
  next : ∀ k, F' k → F k ∨ w.heap.size ≤ k

theorem Step.refl (w : World) (F : Nat → Prop) : Step w w F F := ⟨rfl, rfl, rfl, Nat.le_refl _, fun _ _ _ => rfl, fun _ h => .inl h⟩
theorem Step.trans {a b c : World} {F G K : Nat → Prop} (h : Step a b F G) (k : Step b c G K) : Step a c F K :=
  ⟨k.os.trans h.os, k.tape.trans h.tape, k.output.trans h.output, Nat.le_trans h.size k.size, fun i hi hn => by
      rw [k.block i (Nat.lt_of_lt_of_le hi h.size) (fun hg => by rcases h.next i hg with h1 | h1; exact hn h1; omega), h.block i hi hn],
    fun i hi => by
      rcases k.next i hi with h1 | h1
      · exact h.next i h1
      · exact .inr (Nat.le_trans h.size h1)⟩
theorem Step.of_below {w w' : World} (h : Below w.heap.size w w') (F : Nat → Prop) : Step w w' F F :=
  ⟨h.os, h.tape, h.output, h.size, fun k hk _ => h.block k hk, fun _ h => .inl h⟩
theorem Step.below {w w' : World} {F F' : Nat → Prop} {B : Nat} (h : Step w w' F F') (hB : B ≤ w.heap.size) (hF : ∀ k, F k → B ≤ k) : Below B w w' :=
  ⟨h.os, h.tape, h.output, h.size, fun k hk => h.block k (by omega) (fun hf => by have := hF k hf; omega)⟩
theorem Step.from_ {w w' : World} {F F' : Nat → Prop} {B : Nat} (h : Step w w' F F') (hB : B ≤ w.heap.size) (hF : ∀ k, F k → B ≤ k) : ∀ k, F' k → B ≤ k := fun k hk => by
  rcases h.next k hk with h1 | h1
  · exact hF k h1
  · omega
theorem Step.drew {a w : World} {F G : Nat → Prop} (h : Step a w F G) : Step a w.drew F G := ⟨h.os, h.tape, h.output, h.size, h.block, h.next⟩
theorem Step.drewN {a w : World} {F G : Nat → Prop} (h : Step a w F G) (n : Nat) : Step a (w.drewN n) F G := ⟨h.os, h.tape, h.output, h.size, h.block, h.next⟩
theorem Step.alloc {a w : World} {F G : Nat → Prop} (h : Step a w F G) (o : Obj) : Step a (w.alloc o) F G :=
  ⟨h.os, h.tape, h.output, Nat.le_trans h.size (by simp), fun k hk hn => by rw [Below.heap_alloc w o k (Nat.lt_of_lt_of_le hk h.size)]; exact h.block k hk hn, h.next⟩
theorem Step.setCell {a w : World} {F G : Nat → Prop} (h : Step a w F G) {p : Addr} (hp : F p.block ∨ a.heap.size ≤ p.block) (u : Value) : Step a (w.setCell p u) F G :=
  ⟨h.os, h.tape, h.output, by simpa [World.setCell] using h.size, fun k hk hn => by
    rw [Below.heap_setCell w p u k (by rintro rfl; rcases hp with hp | hp; exact hn hp; omega)]; exact h.block k hk hn, h.next⟩
theorem Step.setRow {a w : World} {F G : Nat → Prop} (h : Step a w F G) {g : Nat} (hp : F g ∨ a.heap.size ≤ g) (cs : Array Value) : Step a (w.setRow g cs) F G :=
  ⟨h.os, h.tape, h.output, by simpa using h.size, fun k hk hn => by
    have : (w.setRow g cs).heap[k]? = w.heap[k]? := by
      simp only [World.setRow, Array.getElem?_modify]
      rw [if_neg (by rintro rfl; rcases hp with hp | hp; exact hn hp; omega)]
    rw [this]; exact h.block k hk hn, h.next⟩
theorem Step.grown {a w w' : World} {F G : Nat → Prop} {row : Option Nat} (h : Step a w F G) (hg : w.grownBy w' row) (hr : ∀ k, row = some k → F k ∨ a.heap.size ≤ k) : Step a w' F G :=
  ⟨hg.os.trans h.os, hg.tape.trans h.tape, hg.output.trans h.output, Nat.le_trans h.size hg.size, fun k hk hn => by
    rw [hg.block k (Nat.lt_of_lt_of_le hk h.size) (fun e => by rcases hr k e.symm with h1 | h1; exact hn h1; omega)]; exact h.block k hk hn, h.next⟩
theorem Step.fewer {a w : World} {F G G' : Nat → Prop} (h : Step a w F G) (hG : ∀ k, G' k → G k ∨ a.heap.size ≤ k) : Step a w F G' :=
  ⟨h.os, h.tape, h.output, h.size, h.block, fun k hk => by rcases hG k hk with h1 | h1; exact h.next k h1; exact .inr h1⟩
theorem Step.wider {a w : World} {F G F' : Nat → Prop} (h : Step a w F G) (hF : ∀ k, F k → F' k) : Step a w F' G :=
  ⟨h.os, h.tape, h.output, h.size, fun k hk hn => h.block k hk (fun hf => hn (hF k hf)), fun k hk => by rcases h.next k hk with h1 | h1; exact .inl (hF k h1); exact .inr h1⟩

theorem Blk.step {w w' : World} {F G : Nat → Prop} {g : Nat} {t : TypeId} {cs : Array Value} (h : Blk w g t cs) (s : Step w w' F G) (hn : ¬ F g) : Blk w' g t cs := (s.block g h.lt hn).trans h
theorem Blk.row {w : World} {g : Nat} {t : TypeId} {cs : Array Value} (h : Blk w g t cs) (cs' : Array Value) : Blk (w.setRow g cs') g t cs' := by
  unfold Blk at h ⊢
  simp [World.setRow, Array.getElem?_modify, h]
theorem Blk.row_far {w : World} {g g' : Nat} {t : TypeId} {cs : Array Value} (h : Blk w g t cs) (hne : g ≠ g') (cs' : Array Value) : Blk (w.setRow g' cs') g t cs := by
  unfold Blk at h ⊢
  simp only [World.setRow, Array.getElem?_modify]
  rw [if_neg (fun e => hne e.symm)]; exact h
theorem Slc.step {w w' : World} {F G : Nat → Prop} {B sz : Nat} {A : Option Addr} {n c : Nat} {xs : List Value} (h : Slc w B sz A n c xs) (s : Step w w' F G) (hB : B ≤ w.heap.size) (hF : ∀ k, F k → B ≤ k) : Slc w' B sz A n c xs :=
  h.below (s.below hB hF)

theorem cells_alloc {w : World} {p : Nat} (h : p < w.heap.size) : ∀ (o : Obj) (i : Nat), (w.alloc o).cell? ⟨p, i, none⟩ = w.cell? ⟨p, i, none⟩ := fun o i =>
  World.cell?_of_block (w := w) (a := ⟨p, i, none⟩) (Below.heap_alloc w o p h)
theorem frozen_alloc {w : World} {p : Nat} (h : p < w.heap.size) : ∀ (o : Obj) (i : Nat), (w.alloc o).frozen? ⟨p, i, none⟩ = w.frozen? ⟨p, i, none⟩ := fun o i =>
  World.frozen?_of_block (w := w) (a := ⟨p, i, none⟩) (Below.heap_alloc w o p h)
theorem cells_far {w : World} {p g : Nat} (h : p ≠ g) : ∀ (cs : Array Value) (i : Nat), (w.setRow g cs).cell? ⟨p, i, none⟩ = w.cell? ⟨p, i, none⟩ := fun cs i => by
  refine World.cell?_of_block (w := w) (a := ⟨p, i, none⟩) ?_
  simp only [World.setRow, Array.getElem?_modify]
  rw [if_neg (fun e => h e.symm)]

/-- A row of the object's: it may be nil only where it is empty. -/
structure Row (w : World) (F : Nat → Prop) (e : TypeId) (sz : Nat) (v : Value) (n : Nat) (xs : List Value) : Prop where
  own : w.ownsRow 0 e sz v n xs
  foot : ∀ k, v.ownBlock = some k → F k

theorem Row.kept {w w' : World} {F G : Nat → Prop} {e : TypeId} {sz : Nat} {v : Value} {n : Nat} {xs : List Value} (h : Row w F e sz v n xs) (hb : ∀ k, v.ownBlock = some k → w'.heap[k]? = w.heap[k]?) (hG : ∀ k, v.ownBlock = some k → G k) : Row w' G e sz v n xs := by
  refine ⟨⟨h.own.1, ?_⟩, hG⟩
  rcases h.own.2 with hn | ⟨g, cap, cur, rfl, h1, h2, rest⟩
  · exact .inl hn
  · exact .inr ⟨g, cap, cur, rfl, h1, by rw [hb g rfl]; exact h2, rest⟩
theorem Row.step {w w' : World} {F G K : Nat → Prop} {e : TypeId} {sz : Nat} {v : Value} {n : Nat} {xs : List Value} (h : Row w F e sz v n xs) (s : Step w w' G K) (hd : ∀ k, F k → ¬ G k) : Row w' F e sz v n xs :=
  h.kept (fun k hk => s.block k (h.own.lt k hk).2 (hd k (h.foot k hk))) h.foot
theorem Row.lt {w : World} {F : Nat → Prop} {e : TypeId} {sz : Nat} {v : Value} {n : Nat} {xs : List Value} (h : Row w F e sz v n xs) : ∀ k, v.ownBlock = some k → k < w.heap.size := fun k hk => (h.own.lt k hk).2
/-- A row that has an element. -/
theorem Row.form {w : World} {F : Nat → Prop} {e : TypeId} {sz : Nat} {v : Value} {n : Nat} {xs : List Value} (h : Row w F e sz v n xs) (hn : 0 < n) :
    ∃ g cap cur, v = .slice (some ⟨g, 0, none⟩) n cap ∧ F g ∧ g < w.heap.size ∧ Blk w g e cur ∧ n ≤ cap ∧ cap ≤ maxLen ∧ cur.size = cap * sz ∧ cur.toList.take (n * sz) = xs := by
  rcases h.own.2 with ⟨_, h0⟩ | ⟨g, cap, cur, rfl, _, h2, h3, h4, h5, h6⟩
  · omega
  · exact ⟨g, cap, cur, rfl, h.foot g rfl, (h.own.lt g rfl).2, h2, h3, h4, h5, h6⟩
theorem Row.slc {w : World} {F : Nat → Prop} {e : TypeId} {sz : Nat} {v : Value} {n : Nat} {xs : List Value} (h : Row w F e sz v n xs) :
    ∃ A c, v = .slice A n c ∧ Slc w w.heap.size sz A n c xs := by
  obtain ⟨A, c, hv, hs, _⟩ := own_slc h.own
  exact ⟨A, c, hv, hs⟩
/-- One element of a row is written anew. -/
theorem Row.put {w : World} {F : Nat → Prop} {e : TypeId} {sz : Nat} {g n cap : Nat} {xs : List Value} (h : Row w F e sz (.slice (some ⟨g, 0, none⟩) n cap) n xs) {i : Nat} (hi : i < n) {ys : List Value} (hy : ys.length = sz)
    {cur : Array Value} (hB : Blk w g e cur) :
    Row (w.setRow g (cur.toList.take (i * sz) ++ ys ++ cur.toList.drop (i * sz + ys.length)).toArray) F e sz (.slice (some ⟨g, 0, none⟩) n cap) n (xs.take (i * sz) ++ ys ++ xs.drop (i * sz + ys.length)) := by
  rcases h.own.2 with ⟨_, h0⟩ | ⟨g', cap', cur', hv, h1, h2, h3, h4, h5, h6⟩
  · omega
  · injection hv with e1 e2 e3
    injection e1 with e1
    injection e1 with e1 _ _
    subst e1 e3
    have hcc : cur' = cur := by
      unfold Blk at hB
      rw [hB] at h2
      injection h2 with h2
      injection h2 with h2
      exact h2.symm
    subst hcc
    have hle : i * sz + sz ≤ n * sz := by rw [← Nat.succ_mul]; exact Nat.mul_le_mul_right _ hi
    have hle2 : n * sz ≤ cap * sz := Nat.mul_le_mul_right _ h3
    have hcl : cur'.toList.length = cap * sz := by simpa using h5
    refine ⟨⟨?_, .inr ⟨g, cap, _, rfl, Nat.zero_le _, hB.row _, h3, h4, ?_, ?_⟩⟩, h.foot⟩
    · have := h.own.1
      simp only [List.length_append, List.length_take, List.length_drop]
      omega
    · simp only [List.size_toArray, List.length_append, List.length_take, List.length_drop]
      omega
    · subst h6
      apply List.ext_getElem?
      intro j
      simp only [List.getElem?_take, List.getElem?_append, List.length_append, List.length_take, List.getElem?_drop, hcl, hy]
      repeat' split
      all_goals first | rfl | omega | (congr 1; omega) | (rw [List.getElem?_eq_none (by omega)])

theorem Slc.drew {w : World} {B sz : Nat} {A : Option Addr} {n c : Nat} {xs : List Value} (h : Slc w B sz A n c xs) : Slc w.drew B sz A n c xs := h.keep fun _ _ => World.cell?_drew _ _
theorem Slc.lt {w : World} {B sz : Nat} {A : Option Addr} {n c : Nat} {xs : List Value} (h : Slc w B sz A n c xs) (hs : 0 < sz) : Slc w w.heap.size sz A n c xs :=
  ⟨h.len, h.le, h.cmax, fun hn => by
    obtain ⟨b, off, e, hb, hc⟩ := h.at_ hn
    have hpos : 0 < xs.length := by rw [h.len]; exact Nat.mul_pos hn hs
    have := hc 0 xs[0] (List.getElem?_eq_getElem hpos)
    exact ⟨b, off, e, World.block_lt_of_cell? w _ this, hc⟩⟩
/-- A slice that lies apart from what turns. -/
theorem Slc.apart {w w' : World} {F G : Nat → Prop} {B sz : Nat} {A : Option Addr} {n c : Nat} {xs : List Value} (h : Slc w B sz A n c xs) (s : Step w w' F G) (hsep : ∀ a, A = some a → ¬ F a.block) : Slc w' B sz A n c xs :=
  ⟨h.len, h.le, h.cmax, fun hn => by
    obtain ⟨b, off, e, hb, hc⟩ := h.at_ hn
    refine ⟨b, off, e, hb, fun j u hu => ?_⟩
    have h1 := hc j u hu
    rw [World.cell?_of_block (w := w) (a := ⟨b, off + j, none⟩) (s.block b (World.block_lt_of_cell? w _ h1) (hsep _ e))]
    exact h1⟩
end Go.Proofs.YtdhlklidenfbeaaGreatDoor
