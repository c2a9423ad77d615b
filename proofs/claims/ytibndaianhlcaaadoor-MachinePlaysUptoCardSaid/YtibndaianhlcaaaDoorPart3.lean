/- What a call does to the memory that an object has reserved: 'Step w w' F F''. Arguments that are slices of structs, opened to cells; the sizes of what lies within. Arguments of plain types, opened. Lists of entries and of texts in memory. The walk of tree.ref: the store path at the front of a text. The walk of tree.Refs: the store paths that stand in a list of entries. append of a string onto bytes of the call's own; append at a walk by its run, of two types. -/
import Derived.Test.YtibndaianhlcaaaDoorPart1
import Derived.Deep.MidRow
import Derived.SizedLaws
import Derived.Deep.Slices
import Derived.Deep.Fields
import Derived.ChangeSame
import Derived.Test.YtibndaianhlcaaaDoorPart2
import Derived.Sort.OwnSorted
import Derived.Lib.AppendStr
namespace Go.Proofs.YtibndaianhlcaaaDoor
open Go.RowKit

/-- From w to w' only blocks of F have turned; F' is F, less some, and blocks that are new. -/
structure Step (w w' : World) (F F' : Nat → Prop) : Prop where
  os : w'.os = w.os
  tape : w'.tape = w.tape
  output : w'.output = w.output
  size : w.heap.size ≤ w'.heap.size
  block : ∀ k, k < w.heap.size → ¬ F k → w'.heap[k]? = w.heap[k]?
  next : ∀ k, F' k → F k ∨ w.heap.size ≤ k

theorem Step.refl (w : World) (F : Nat → Prop) : Step w w F F := ⟨rfl, rfl, rfl, Nat.le_refl _, fun _ _ _ => rfl, fun _ h => .inl h⟩
theorem Step.trans {a b c : World} {F G K : Nat → Prop} (h : Step a b F G) (k : Step b c G K) : Step a c F K :=
  ⟨k.os.trans h.os, k.tape.trans h.tape, k.output.trans h.output, Nat.le_trans h.size k.size, fun i hi hn => by
      rw [k.block i (Nat.lt_of_lt_of_le hi h.size) (fun hg => by rcases h.next i hg with h1 | h1; exact hn h1; omega), h.block i hi hn],
    fun i hi => by
      rcases k.next i hi with h1 | h1
      · exact h.next i h1
      · exact .inr (Nat.le_trans h.size h1)⟩
theorem Step.of_below {w w' : World} (h : Below w.heap.size w w') (F : Nat → Prop) : Step w w' F F :=
  ⟨h.os, h.tape, h.output, h.size, fun k hk _ => h.block k hk, fun _ h => .inl h⟩
theorem Step.below {w w' : World} {F F' : Nat → Prop} {B : Nat} (h : Step w w' F F') (hB : B ≤ w.heap.size) (hF : ∀ k, F k → B ≤ k) : Below B w w' :=
  ⟨h.os, h.tape, h.output, h.size, fun k hk => h.block k (by omega) (fun hf => by have := hF k hf; omega)⟩
theorem Step.from_ {w w' : World} {F F' : Nat → Prop} {B : Nat} (h : Step w w' F F') (hB : B ≤ w.heap.size) (hF : ∀ k, F k → B ≤ k) : ∀ k, F' k → B ≤ k := fun k hk => by
  rcases h.next k hk with h1 | h1
  · exact hF k h1
  · omega
theorem Step.drew {a w : World} {F G : Nat → Prop} (h : Step a w F G) : Step a w.drew F G := ⟨h.os, h.tape, h.output, h.size, h.block, h.next⟩
theorem Step.drewN {a w : World} {F G : Nat → Prop} (h : Step a w F G) (n : Nat) : Step a (w.drewN n) F G := ⟨h.os, h.tape, h.output, h.size, h.block, h.next⟩
theorem Step.alloc {a w : World} {F G : Nat → Prop} (h : Step a w F G) (o : Obj) : Step a (w.alloc o) F G :=
  ⟨h.os, h.tape, h.output, Nat.le_trans h.size (by simp), fun k hk hn => by rw [Below.heap_alloc w o k (Nat.lt_of_lt_of_le hk h.size)]; exact h.block k hk hn, h.next⟩
theorem Step.setCell {a w : World} {F G : Nat → Prop} (h : Step a w F G) {p : Addr} (hp : F p.block ∨ a.heap.size ≤ p.block) (u : Value) : Step a (w.setCell p u) F G :=
  ⟨h.os, h.tape, h.output, by simpa [World.setCell] using h.size, fun k hk hn => by
    rw [Below.heap_setCell w p u k (by rintro rfl; rcases hp with hp | hp; exact hn hp; omega)]; exact h.block k hk hn, h.next⟩
theorem Step.setRow {a w : World} {F G : Nat → Prop} (h : Step a w F G) {g : Nat} (hp : F g ∨ a.heap.size ≤ g) (cs : Array Value) : Step a (w.setRow g cs) F G :=
  ⟨h.os, h.tape, h.output, by simpa using h.size, fun k hk hn => by
    have : (w.setRow g cs).heap[k]? = w.heap[k]? := by
      simp only [World.setRow, Array.getElem?_modify]
      rw [if_neg (by rintro rfl; rcases hp with hp | hp; exact hn hp; omega)]
    rw [this]; exact h.block k hk hn, h.next⟩
theorem Step.grown {a w w' : World} {F G : Nat → Prop} {row : Option Nat} (h : Step a w F G) (hg : w.grownBy w' row) (hr : ∀ k, row = some k → F k ∨ a.heap.size ≤ k) : Step a w' F G :=
  ⟨hg.os.trans h.os, hg.tape.trans h.tape, hg.output.trans h.output, Nat.le_trans h.size hg.size, fun k hk hn => by
    rw [hg.block k (Nat.lt_of_lt_of_le hk h.size) (fun e => by rcases hr k e.symm with h1 | h1; exact hn h1; omega)]; exact h.block k hk hn, h.next⟩
theorem Step.fewer {a w : World} {F G G' : Nat → Prop} (h : Step a w F G) (hG : ∀ k, G' k → G k ∨ a.heap.size ≤ k) : Step a w F G' :=
  ⟨h.os, h.tape, h.output, h.size, h.block, fun k hk => by rcases hG k hk with h1 | h1; exact h.next k h1; exact .inr h1⟩
theorem Step.wider {a w : World} {F G F' : Nat → Prop} (h : Step a w F G) (hF : ∀ k, F k → F' k) : Step a w F' G :=
  ⟨h.os, h.tape, h.output, h.size, fun k hk hn => h.block k hk (fun hf => hn (hF k hf)), fun k hk => by rcases h.next k hk with h1 | h1; exact .inl (hF k h1); exact .inr h1⟩

theorem Blk.step {w w' : World} {F G : Nat → Prop} {g : Nat} {t : TypeId} {cs : Array Value} (h : Blk w g t cs) (s : Step w w' F G) (hn : ¬ F g) : Blk w' g t cs := (s.block g h.lt hn).trans h
theorem Blk.row {w : World} {g : Nat} {t : TypeId} {cs : Array Value} (h : Blk w g t cs) (cs' : Array Value) : Blk (w.setRow g cs') g t cs' := by
  unfold Blk at h ⊢
  simp [World.setRow, Array.getElem?_modify, h]
theorem Blk.row_far {w : World} {g g' : Nat} {t : TypeId} {cs : Array Value} (h : Blk w g t cs) (hne : g ≠ g') (cs' : Array Value) : Blk (w.setRow g' cs') g t cs := by
  unfold Blk at h ⊢
  simp only [World.setRow, Array.getElem?_modify]
  rw [if_neg (fun e => hne e.symm)]; exact h
theorem Slc.step {w w' : World} {F G : Nat → Prop} {B sz : Nat} {A : Option Addr} {n c : Nat} {xs : List Value} (h : Slc w B sz A n c xs) (s : Step w w' F G) (hB : B ≤ w.heap.size) (hF : ∀ k, F k → B ≤ k) : Slc w' B sz A n c xs :=
  h.below (s.below hB hF)

theorem cells_alloc {w : World} {p : Nat} (h : p < w.heap.size) : ∀ (o : Obj) (i : Nat), (w.alloc o).cell? ⟨p, i, none⟩ = w.cell? ⟨p, i, none⟩ := fun o i =>
  World.cell?_of_block (w := w) (a := ⟨p, i, none⟩) (Below.heap_alloc w o p h)
theorem frozen_alloc {w : World} {p : Nat} (h : p < w.heap.size) : ∀ (o : Obj) (i : Nat), (w.alloc o).frozen? ⟨p, i, none⟩ = w.frozen? ⟨p, i, none⟩ := fun o i =>
  World.frozen?_of_block (w := w) (a := ⟨p, i, none⟩) (Below.heap_alloc w o p h)
theorem cells_far {w : World} {p g : Nat} (h : p ≠ g) : ∀ (cs : Array Value) (i : Nat), (w.setRow g cs).cell? ⟨p, i, none⟩ = w.cell? ⟨p, i, none⟩ := fun cs i => by
  refine World.cell?_of_block (w := w) (a := ⟨p, i, none⟩) ?_
  simp only [World.setRow, Array.getElem?_modify]
  rw [if_neg (fun e => h e.symm)]

/-- A row of the object's: it may be nil only where it is empty. -/
structure Row (w : World) (F : Nat → Prop) (e : TypeId) (sz : Nat) (v : Value) (n : Nat) (xs : List Value) : Prop where
  own : w.ownsRow 0 e sz v n xs
  foot : ∀ k, v.ownBlock = some k → F k

theorem Row.kept {w w' : World} {F G : Nat → Prop} {e : TypeId} {sz : Nat} {v : Value} {n : Nat} {xs : List Value} (h : Row w F e sz v n xs) (hb : ∀ k, v.ownBlock = some k → w'.heap[k]? = w.heap[k]?) (hG : ∀ k, v.ownBlock = some k → G k) : Row w' G e sz v n xs := by
  refine ⟨⟨h.own.1, ?_⟩, hG⟩
  rcases h.own.2 with hn | ⟨g, cap, cur, rfl, h1, h2, rest⟩
  · exact .inl hn
  · exact .inr ⟨g, cap, cur, rfl, h1, by rw [hb g rfl]; exact h2, rest⟩
theorem Row.step {w w' : World} {F G K : Nat → Prop} {e : TypeId} {sz : Nat} {v : Value} {n : Nat} {xs : List Value} (h : Row w F e sz v n xs) (s : Step w w' G K) (hd : ∀ k, F k → ¬ G k) : Row w' F e sz v n xs :=
  h.kept (fun k hk => s.block k (h.own.lt k hk).2 (hd k (h.foot k hk))) h.foot
theorem Row.lt {w : World} {F : Nat → Prop} {e : TypeId} {sz : Nat} {v : Value} {n : Nat} {xs : List Value} (h : Row w F e sz v n xs) : ∀ k, v.ownBlock = some k → k < w.heap.size := fun k hk => (h.own.lt k hk).2
/-- A row that has an element. -/
theorem Row.form {w : World} {F : Nat → Prop} {e : TypeId} {sz : Nat} {v : Value} {n : Nat} {xs : List Value} (h : Row w F e sz v n xs) (hn : 0 < n) :
    ∃ g cap cur, v = .slice (some ⟨g, 0, none⟩) n cap ∧ F g ∧ g < w.heap.size ∧ Blk w g e cur ∧ n ≤ cap ∧ cap ≤ maxLen ∧ cur.size = cap * sz ∧ cur.toList.take (n * sz) = xs := by
  rcases h.own.2 with ⟨_, h0⟩ | ⟨g, cap, cur, rfl, _, h2, h3, h4, h5, h6⟩
  · omega
  · exact ⟨g, cap, cur, rfl, h.foot g rfl, (h.own.lt g rfl).2, h2, h3, h4, h5, h6⟩
theorem Row.slc {w : World} {F : Nat → Prop} {e : TypeId} {sz : Nat} {v : Value} {n : Nat} {xs : List Value} (h : Row w F e sz v n xs) :
    ∃ A c, v = .slice A n c ∧ Slc w w.heap.size sz A n c xs := by
  obtain ⟨A, c, hv, hs, _⟩ := own_slc h.own
  exact ⟨A, c, hv, hs⟩
/-- One element of a row is written anew. -/
theorem Row.put {w : World} {F : Nat → Prop} {e : TypeId} {sz : Nat} {g n cap : Nat} {xs : List Value} (h : Row w F e sz (.slice (some ⟨g, 0, none⟩) n cap) n xs) {i : Nat} (hi : i < n) {ys : List Value} (hy : ys.length = sz)
    {cur : Array Value} (hB : Blk w g e cur) :
    Row (w.setRow g (cur.toList.take (i * sz) ++ ys ++ cur.toList.drop (i * sz + ys.length)).toArray) F e sz (.slice (some ⟨g, 0, none⟩) n cap) n (xs.take (i * sz) ++ ys ++ xs.drop (i * sz + ys.length)) := by
  rcases h.own.2 with ⟨_, h0⟩ | ⟨g', cap', cur', hv, h1, h2, h3, h4, h5, h6⟩
  · omega
  · injection hv with e1 e2 e3
    injection e1 with e1
    injection e1 with e1 _ _
    subst e1 e3
    have hcc : cur' = cur := by
      unfold Blk at hB
      rw [hB] at h2
      injection h2 with h2
      injection h2 with h2
      exact h2.symm
    subst hcc
    have hle : i * sz + sz ≤ n * sz := by rw [← Nat.succ_mul]; exact Nat.mul_le_mul_right _ hi
    have hle2 : n * sz ≤ cap * sz := Nat.mul_le_mul_right _ h3
    have hcl : cur'.toList.length = cap * sz := by simpa using h5
    refine ⟨⟨?_, .inr ⟨g, cap, _, rfl, Nat.zero_le _, hB.row _, h3, h4, ?_, ?_⟩⟩, h.foot⟩
    · have := h.own.1
      simp only [List.length_append, List.length_take, List.length_drop]
      omega
    · simp only [List.size_toArray, List.length_append, List.length_take, List.length_drop]
      omega
    · subst h6
      apply List.ext_getElem?
      intro j
      simp only [List.getElem?_take, List.getElem?_append, List.length_append, List.length_take, List.getElem?_drop, hcl, hy]
      repeat' split
      all_goals first | rfl | omega | (congr 1; omega) | (rw [List.getElem?_eq_none (by omega)])

theorem Slc.drew {w : World} {B sz : Nat} {A : Option Addr} {n c : Nat} {xs : List Value} (h : Slc w B sz A n c xs) : Slc w.drew B sz A n c xs := h.keep fun _ _ => World.cell?_drew _ _
theorem Slc.lt {w : World} {B sz : Nat} {A : Option Addr} {n c : Nat} {xs : List Value} (h : Slc w B sz A n c xs) (hs : 0 < sz) : Slc w w.heap.size sz A n c xs :=
  ⟨h.len, h.le, h.cmax, fun hn => by
    obtain ⟨b, off, e, hb, hc⟩ := h.at_ hn
    have hpos : 0 < xs.length := by rw [h.len]; exact Nat.mul_pos hn hs
    have := hc 0 xs[0] (List.getElem?_eq_getElem hpos)
    exact ⟨b, off, e, World.block_lt_of_cell? w _ this, hc⟩⟩
/-- A slice that lies apart from what turns. -/
theorem Slc.apart {w w' : World} {F G : Nat → Prop} {B sz : Nat} {A : Option Addr} {n c : Nat} {xs : List Value} (h : Slc w B sz A n c xs) (s : Step w w' F G) (hsep : ∀ a, A = some a → ¬ F a.block) : Slc w' B sz A n c xs :=
  ⟨h.len, h.le, h.cmax, fun hn => by
    obtain ⟨b, off, e, hb, hc⟩ := h.at_ hn
    refine ⟨b, off, e, hb, fun j u hu => ?_⟩
    have h1 := hc j u hu
    rw [World.cell?_of_block (w := w) (a := ⟨b, off + j, none⟩) (s.block b (World.block_lt_of_cell? w _ h1) (hsep _ e))]
    exact h1⟩
end Go.Proofs.YtibndaianhlcaaaDoor
namespace Go.Proofs.YtibndaianhlcaaaDoor
open Go.RowKit Go.ChangeShapes Go.WideShapes Go.Deep
set_option linter.unusedVariables false

theorem flatMap_get {α : Type} (g : α → List Value) (sz : Nat) : ∀ (l : List α), (∀ x ∈ l, (g x).length = sz) → ∀ (i j : Nat) (hi : i < l.length), j < sz → (l.flatMap g)[i * sz + j]? = (g l[i])[j]? := by
  intro l
  induction l with
  | nil => intro _ i j hi; simp at hi
  | cons x l ih =>
    intro hg i j hi hj
    have hx := hg x List.mem_cons_self
    cases i with
    | zero =>
      simp only [List.flatMap_cons, Nat.zero_mul, Nat.zero_add, List.getElem_cons_zero]
      rw [List.getElem?_append_left (by omega)]
    | succ i =>
      simp only [List.flatMap_cons, List.getElem_cons_succ]
      rw [Nat.succ_mul, List.getElem?_append_right (by omega)]
      have := ih (fun y hy => hg y (List.mem_cons_of_mem _ hy)) i j (by simpa using hi) hj
      rw [← this]
      congr 1
      omega
theorem flatMap_len {α : Type} (g : α → List Value) (sz : Nat) : ∀ (l : List α), (∀ x ∈ l, (g x).length = sz) → (l.flatMap g).length = l.length * sz := by
  intro l
  induction l with
  | nil => intro _; simp
  | cons x l ih =>
    intro hg
    rw [List.flatMap_cons, List.length_append, hg x List.mem_cons_self, ih (fun y hy => hg y (List.mem_cons_of_mem _ hy)), List.length_cons, Nat.succ_mul, Nat.add_comm]

/-- Cells element by element make a slice that reads as a list. -/
theorem slc_of_elems {α : Type} {w : World} {B sz : Nat} {b off n c : Nat} (g : α → List Value) (l : List α) (hg : ∀ x ∈ l, (g x).length = sz) (hl : l.length = n) (hnc : n ≤ c) (hc : c ≤ maxLen) (hb : b < B)
    (hcell : ∀ i (hi : i < l.length), ∀ j u, (g l[i])[j]? = some u → w.cell? ⟨b, off + (i * sz + j), none⟩ = some u) : Slc w B sz (some ⟨b, off, none⟩) n c (l.flatMap g) := by
  refine ⟨by rw [flatMap_len g sz l hg, hl], hnc, hc, fun _ => ⟨b, off, rfl, hb, fun q u hu => ?_⟩⟩
  have hq : q < l.length * sz := by
    rcases Nat.lt_or_ge q (l.length * sz) with h | h
    · exact h
    · rw [List.getElem?_eq_none (by rw [flatMap_len g sz l hg]; exact h)] at hu; cases hu
  have hsz : 0 < sz := by
    rcases Nat.eq_zero_or_pos sz with h | h
    · subst h; simp at hq
    · exact h
  have hi : q / sz < l.length := (Nat.div_lt_iff_lt_mul hsz).2 hq
  have hqe : q = q / sz * sz + q % sz := by rw [Nat.mul_comm]; exact (Nat.div_add_mod q sz).symm
  rw [hqe] at hu ⊢
  rw [flatMap_get g sz l hg _ _ hi (Nat.mod_lt _ hsz)] at hu
  exact hcell _ hi _ _ hu

section
variable {H : Type} {enc : TypeId × Value → H} {P : Program} {w : World} {base : Nat} {spare : Nat → Bool} {held : Bool}
/-- A slice of structs of one-cell fields, opened. -/
theorem open_slice_fields {t e : TypeId} {fs : Array Field} {fuel : Nat} {cs : List Value} {x : DataW H × List MemPlace} (ht : P.underlying t = some (.slice e)) (he : P.underlying e = some (.struct fs))
    (hone : oneCellFields P fs = true) (hC : P.cellsOf e = fs.size) (h : DataW.trod enc P w base spare held fuel t cs = some x) :
    (cs = [.slice none 0 0] ∧ x = (.nil, [])) ∨
    ∃ (a : Addr) (len cap m : Nat) (D : Nat → DataW H) (Pl : Nat → List MemPlace), cs = [.slice (some a) len cap] ∧ base ≤ a.block ∧ len ≤ cap ∧ cap ≤ maxLen ∧ m = (if spare a.block then cap else len) ∧
      x = (.slice ((List.range len).map D) ((List.range (m - len)).map fun j => D (len + j)), MemPlace.row a (m * fs.size) ++ (List.range m).flatMap Pl) ∧
      ∀ i, i < m → ∃ (ys : List (DataW H × List MemPlace)) (n : Nat), D i = .agg (ys.map (·.1)) ∧ Pl i = ys.flatMap (·.2) ∧ ys.length = fs.size ∧
        ∀ (j : Nat) (f : Field), fs[j]? = some f → ∃ (v : Value) (y : DataW H × List MemPlace), w.cell? (a.add (i * fs.size + j)) = some v ∧ ys[j]? = some y ∧ DataW.trod enc P w base spare held n f.type [v] = some y := by
  rcases open_slice ht h with h0 | ⟨a, len, cap, m, n, D, Pl, hcs, hb, hl, hm, hmm, hx, hi⟩
  · exact .inl h0
  · refine .inr ⟨a, len, cap, m, D, Pl, hcs, hb, hl, hm, hmm, by rw [hC] at hx; exact hx, fun i him => ?_⟩
    obtain ⟨cs', hc, ht'⟩ := hi i him
    rw [hC] at hc
    obtain ⟨ys, n', hn', hy, hlen, hyl, hf⟩ := DataW.trod_struct he ht'
    obtain ⟨_, hcl, hat⟩ := World.cells?_some hc
    simp only [Prod.mk.injEq] at hy
    refine ⟨ys, n', hy.1, hy.2, hyl, fun j f hj => ?_⟩
    obtain ⟨ho, hk⟩ := hone_of hone j f hj
    have hjl : j < fs.size := (Array.getElem?_eq_some_iff.1 hj).1
    have hcell := hat j hjl
    have hv : cs'[j]? = some (cs'[j]'(by omega)) := List.getElem?_eq_getElem (by omega)
    have h1 := hf j f hj
    rw [ho, hk] at h1
    have hone' : (cs'.drop j).take 1 = [cs'[j]'(by omega)] := by
      rw [List.drop_eq_getElem_cons (by omega)]
      rfl
    rw [hone'] at h1
    have hys : ys[j]? = some (ys[j]'(by omega)) := List.getElem?_eq_getElem (by omega)
    refine ⟨_, _, ?_, hys, h1.trans hys⟩
    rw [← Go.Deep.add_add, hcell, hv]
end

theorem weights_all {H : Type} {P : Program} {e : TypeId} : ∀ {ds : List (DataW H)} {d : DataW H}, d ∈ ds → ∀ n ∈ d.weights P e, n ∈ DataW.weightsAll P e ds := by
  intro ds
  induction ds with
  | nil => intro d h; cases h
  | cons x ds ih =>
    intro d h n hn
    simp only [DataW.weightsAll, List.mem_append]
    rcases List.mem_cons.1 h with rfl | h
    · exact .inl hn
    · exact .inr (ih h n hn)
/-- What a field within an element of a slice weighs. -/
theorem weights_field {H : Type} {P : Program} {t e ft : TypeId} {fs : Array Field} (ht : P.underlying t = some (.slice e)) (he : P.underlying e = some (.struct fs)) {elems spare parts : List (DataW H)} {d : DataW H} {j : Nat}
    (hm : .agg parts ∈ elems) (hj : parts[j]? = some d) (hf : (fs.toList.map (·.type))[j]? = some ft) : ∀ n ∈ d.weights P ft, n ∈ (DataW.slice elems spare).weights P t := by
  intro n hn
  simp only [DataW.weights, ht, List.mem_cons, List.mem_append]
  refine .inr (.inl (weights_all hm n ?_))
  simp only [DataW.weights, he]
  exact DataW.weights_mem_each hf hj n hn
theorem weights_le {H : Type} {P : Program} {ts : List TypeId} {ds : List (DataW H)} (h : (DataW.weightsEach P ts ds).all (· ≤ reachBytes) = true) {j : Nat} {t : TypeId} {d : DataW H} (ht : ts[j]? = some t) (hd : ds[j]? = some d) : ∀ n ∈ d.weights P t, n ≤ 140737488351232 := by
  intro n hn
  have := List.all_eq_true.1 h n (DataW.weights_mem_each ht hd n hn)
  have e : reachBytes = 140737488351232 := rfl
  rw [e] at this
  simpa using this
end Go.Proofs.YtibndaianhlcaaaDoor
namespace Go.Proofs.YtibndaianhlcaaaDoor
open Go.RowKit Go.ChangeShapes Go.WideShapes
open Go.ChangeMaps (open_string)
set_option linter.unusedVariables false

theorem reach_eq : reachBytes = 140737488351232 := rfl

theorem u64_of_wf {x : Int} (h : (Lit.int .u64 x).wf = true) : ∃ s : UInt64, x = (s.toNat : Int) := by
  have h1 : 0 ≤ x ∧ x ≤ 18446744073709551615 := by simpa [Lit.wf, IntKind.min, IntKind.max, IntKind.signed, IntKind.bits] using h
  have hx : x.toNat < 2 ^ 64 := by omega
  refine ⟨UInt64.ofNat x.toNat, ?_⟩
  rw [UInt64.toNat_ofNat_of_lt' hx]
  omega

theorem byte_wf {x : Int} (h : (Lit.int .u8 x).wf = true) : 0 ≤ x ∧ x < 256 := by
  have h1 : 0 ≤ x ∧ x ≤ 255 := by simpa [Lit.wf, IntKind.min, IntKind.max, IntKind.signed, IntKind.bits] using h
  omega

set_option maxRecDepth 100000 in
/-- An argument of type []byte, opened. -/
theorem open_bytes {H : Type} {enc : TypeId × Value → H} {W : World} {base : Nat} {v : Value} {d : DataW H} {p : List MemPlace}
    (o : Value.okWide Tryd.prog W .any base 42 v) (k : DataW.Trod enc Tryd.prog W 0 (fun _ => true) true 42 v d p) :
    ∃ A n c, ∃ l : List UInt8, v = .slice A n c ∧ Slc W W.heap.size 1 A n c (l.map bv) ∧ (n = 0 ∨ ∃ elems spare, d = .slice elems spare ∧ n ≤ elems.length + spare.length) := by
  obtain ⟨a0, len, cap, rfl⟩ := okWide_slice Tryd.underlying42 o
  obtain ⟨fuel, hf⟩ := k
  rcases open_ints Tryd.underlying42 Tryd.underlying5 (by kernel_rfl) hf with ⟨hcs, _⟩ | ⟨x, l, c, zs, hcs, _, hl, hm, hz, hx, hcell, hwz⟩
  · simp [Value.cells] at hcs
    obtain ⟨rfl, rfl, rfl⟩ := hcs
    exact ⟨none, 0, 0, [], rfl, ⟨rfl, Nat.le_refl _, Nat.zero_le _, fun h => absurd h (by decide)⟩, .inl rfl⟩
  · simp [Value.cells] at hcs
    obtain ⟨rfl, rfl, rfl⟩ := hcs
    simp only [if_true] at hz
    have hcast : ∀ i (hi : i < zs.length), ((UInt8.ofNat zs[i].toNat).toNat : Int) = zs[i] := fun i hi => by
      have := byte_wf (hwz zs[i] (List.getElem_mem hi))
      rw [UInt8.toNat_ofNat_of_lt' (show zs[i].toNat < 2 ^ 8 by omega)]
      omega
    refine ⟨some x, len, cap, (zs.take len).map fun z => UInt8.ofNat z.toNat, rfl, ⟨by simp; omega, hl, hm, fun h0 => ?_⟩, ?_⟩
    · have h1 := hcell 0 (by omega)
      have hs : x.spot = none := by simpa [Addr.add] using World.cell?_spot h1
      have hblk : x.block < W.heap.size := by have := World.block_lt_of_cell? _ _ h1; simpa [block_add] using this
      obtain ⟨b, off, sp⟩ := x
      simp only at hs hblk
      subst hs
      refine ⟨b, off, rfl, hblk, fun j u hu => ?_⟩
      have hj : j < len := by
        rcases Nat.lt_or_ge j len with h | h
        · exact h
        · rw [List.getElem?_eq_none (by simp; omega)] at hu; cases hu
      have hjz : j < zs.length := by omega
      have h2 := hcell j hjz
      rw [addr_of_add] at h2
      rw [h2]
      simp only [List.map_map, List.getElem?_map, List.getElem?_take, hj, if_true, List.getElem?_eq_getElem hjz, Option.map_some, Option.some.injEq] at hu
      subst hu
      simp only [Function.comp, bv, hcast j hjz, List.getD, List.getElem?_eq_getElem hjz, Option.getD_some]
    · refine .inr ?_
      have hd := congrArg Prod.fst hx
      simp only at hd
      refine ⟨_, _, hd, ?_⟩
      simp [lits]
      omega

/-- A cell that reads as a []byte, opened. -/
theorem open_bytes_cells {H : Type} {enc : TypeId × Value → H} {W : World} {v : Value} {y : DataW H × List MemPlace}
    (k : ∃ n, DataW.trod enc Tryd.prog W 0 (fun _ => true) true n 42 [v] = some y) :
    ∃ A n c, ∃ l : List UInt8, v = .slice A n c ∧ Slc W W.heap.size 1 A n c (l.map bv) ∧ (n = 0 ∨ ∃ elems spare, y.1 = .slice elems spare ∧ n ≤ elems.length + spare.length) := by
  obtain ⟨fuel, hf⟩ := k
  rcases open_ints Tryd.underlying42 Tryd.underlying5 (by kernel_rfl) hf with ⟨hcs, _⟩ | ⟨x, len, cap, zs, hcs, _, hl, hm, hz, hx, hcell, hwz⟩
  · injection hcs with hcs
    subst hcs
    exact ⟨none, 0, 0, [], rfl, ⟨rfl, Nat.le_refl _, Nat.zero_le _, fun h => absurd h (by decide)⟩, .inl rfl⟩
  · injection hcs with hcs
    subst hcs
    simp only [if_true] at hz
    have hcast : ∀ i (hi : i < zs.length), ((UInt8.ofNat zs[i].toNat).toNat : Int) = zs[i] := fun i hi => by
      have := byte_wf (hwz zs[i] (List.getElem_mem hi))
      rw [UInt8.toNat_ofNat_of_lt' (show zs[i].toNat < 2 ^ 8 by omega)]
      omega
    refine ⟨some x, len, cap, (zs.take len).map fun z => UInt8.ofNat z.toNat, rfl, ⟨by simp; omega, hl, hm, fun h0 => ?_⟩, ?_⟩
    · have h1 := hcell 0 (by omega)
      have hs : x.spot = none := by simpa [Addr.add] using World.cell?_spot h1
      have hblk : x.block < W.heap.size := by have := World.block_lt_of_cell? _ _ h1; simpa [block_add] using this
      obtain ⟨b, off, sp⟩ := x
      simp only at hs hblk
      subst hs
      refine ⟨b, off, rfl, hblk, fun j u hu => ?_⟩
      have hj : j < len := by
        rcases Nat.lt_or_ge j len with h | h
        · exact h
        · rw [List.getElem?_eq_none (by simp; omega)] at hu; cases hu
      have hjz : j < zs.length := by omega
      have h2 := hcell j hjz
      rw [addr_of_add] at h2
      rw [h2]
      simp only [List.map_map, List.getElem?_map, List.getElem?_take, hj, if_true, List.getElem?_eq_getElem hjz, Option.map_some, Option.some.injEq] at hu
      subst hu
      simp only [Function.comp, bv, hcast j hjz, List.getD, List.getElem?_eq_getElem hjz, Option.getD_some]
    · refine .inr ?_
      have hd := congrArg Prod.fst hx
      simp only at hd
      refine ⟨_, _, hd, ?_⟩
      simp [lits]
      omega

theorem bytes_size : Tryd.prog.bytesOf 5 = 1 := by kernel_rfl


set_option maxRecDepth 100000 in
/-- An argument of type []int, opened. -/
theorem open_nums {H : Type} {enc : TypeId × Value → H} {W : World} {base : Nat} {v : Value} {d : DataW H} {p : List MemPlace}
    (o : Value.okWide Tryd.prog W .any base 53 v) (k : DataW.Trod enc Tryd.prog W 0 (fun _ => true) true 53 v d p) :
    ∃ A n c, ∃ l : List Int, v = .slice A n c ∧ Slc W W.heap.size 1 A n c (l.map (Value.int .i64)) ∧ (∀ z ∈ l, -9223372036854775808 ≤ z ∧ z ≤ 9223372036854775807) ∧ (n = 0 ∨ ∃ elems spare, d = .slice elems spare ∧ n ≤ elems.length + spare.length) := by
  obtain ⟨a0, len, cap, rfl⟩ := okWide_slice Tryd.underlying53 o
  obtain ⟨fuel, hf⟩ := k
  rcases open_ints Tryd.underlying53 Tryd.underlying3 (by kernel_rfl) hf with ⟨hcs, _⟩ | ⟨x, l, c, zs, hcs, _, hl, hm, hz, hx, hcell, hwz⟩
  · simp [Value.cells] at hcs
    obtain ⟨rfl, rfl, rfl⟩ := hcs
    exact ⟨none, 0, 0, [], rfl, ⟨rfl, Nat.le_refl _, Nat.zero_le _, fun h => absurd h (by decide)⟩, (fun _ h => by cases h), .inl rfl⟩
  · simp [Value.cells] at hcs
    obtain ⟨rfl, rfl, rfl⟩ := hcs
    simp only [if_true] at hz
    refine ⟨some x, len, cap, zs.take len, rfl, ⟨by simp; omega, hl, hm, fun h0 => ?_⟩, fun z hz' => ?_, ?_⟩
    · have h1 := hcell 0 (by omega)
      have hs : x.spot = none := by simpa [Addr.add] using World.cell?_spot h1
      have hblk : x.block < W.heap.size := by have := World.block_lt_of_cell? _ _ h1; simpa [block_add] using this
      obtain ⟨b, off, sp⟩ := x
      simp only at hs hblk
      subst hs
      refine ⟨b, off, rfl, hblk, fun j u hu => ?_⟩
      have hj : j < len := by
        rcases Nat.lt_or_ge j len with h | h
        · exact h
        · rw [List.getElem?_eq_none (by simp; omega)] at hu; cases hu
      have hjz : j < zs.length := by omega
      have h2 := hcell j hjz
      rw [addr_of_add] at h2
      rw [h2]
      simp only [List.getElem?_map, List.getElem?_take, hj, if_true, List.getElem?_eq_getElem hjz, Option.map_some, Option.some.injEq] at hu
      subst hu
      simp only [List.getD, List.getElem?_eq_getElem hjz, Option.getD_some]
    · have h := hwz z (List.mem_of_mem_take hz')
      simpa [Lit.wf, IntKind.min, IntKind.max, IntKind.signed, IntKind.bits] using h
    · refine .inr ?_
      have hd := congrArg Prod.fst hx
      simp only at hd
      refine ⟨_, _, hd, ?_⟩
      simp [lits]
      omega
theorem int_wf {x : Int} (h : (Lit.int .i64 x).wf = true) : -9223372036854775808 ≤ x ∧ x ≤ 9223372036854775807 := by
  simpa [Lit.wf, IntKind.min, IntKind.max, IntKind.signed, IntKind.bits] using h
theorem u8_of_wf {x : Int} (h : (Lit.int .u8 x).wf = true) : ∃ c : UInt8, x = (c.toNat : Int) := by
  have := byte_wf h
  exact ⟨UInt8.ofNat x.toNat, by rw [UInt8.toNat_ofNat_of_lt' (show x.toNat < 2 ^ 8 by omega)]; omega⟩
end Go.Proofs.YtibndaianhlcaaaDoor
namespace Go.Proofs.YtibndaianhlcaaaDoor
open Go.RowKit Go.Sort
set_option linter.unusedVariables false
set_option linter.unusedSimpArgs false

/-- An entry as memory has it: its text, its number, its bytes and where they lie. -/
structure EV where
  path : Txt
  kind : Int
  data : Txt
  A : Option Addr
  n : Nat
  c : Nat
def EV.ent (e : EV) : Ent := ⟨e.path, e.kind, e.data⟩
def evCells (e : EV) : List Value := [.string ⟨e.path.toArray⟩, .int .i64 e.kind, .slice e.A e.n e.c]
theorem evCells_length (e : EV) : (evCells e).length = 3 := rfl

/-- A list of entries in memory, below block B. -/
structure EntsAt (w : World) (B : Nat) (A : Option Addr) (n c : Nat) (es : List EV) : Prop where
  slc : Slc w B 3 A n c (es.flatMap evCells)
  len : es.length = n
  data : ∀ e ∈ es, Slc w B 1 e.A e.n e.c (e.data.map bv)
theorem EntsAt.below {w w' : World} {B : Nat} {A : Option Addr} {n c : Nat} {es : List EV} (h : EntsAt w B A n c es) (hb : Below B w w') : EntsAt w' B A n c es :=
  ⟨h.slc.below hb, h.len, fun e he => (h.data e he).below hb⟩
/-- An entry's cells, for a walk. -/
theorem EntsAt.at_ {w : World} {B : Nat} {A : Option Addr} {n c : Nat} {es : List EV} (h : EntsAt w B A n c es) {k : Nat} (hk : k < n) :
    ∃ b off, A = some ⟨b, off, none⟩ ∧ b < B ∧ ∃ hl : k < es.length, w.cell? ⟨b, off + k * 3, none⟩ = some (.string ⟨es[k].path.toArray⟩) ∧ w.cell? ⟨b, off + k * 3 + 1, none⟩ = some (.int .i64 es[k].kind) ∧
      w.cell? ⟨b, off + k * 3 + 2, none⟩ = some (.slice es[k].A es[k].n es[k].c) ∧ Slc w B 1 es[k].A es[k].n es[k].c (es[k].data.map bv) := by
  obtain ⟨b, off, e, hb, hc⟩ := h.slc.at_ (by omega)
  have hl : k < es.length := by rw [h.len]; exact hk
  have g : ∀ j u, j < 3 → (evCells es[k])[j]? = some u → w.cell? ⟨b, off + k * 3 + j, none⟩ = some u := fun j u hj hu => by
    have := hc (k * 3 + j) u (by rw [flatMap_get evCells 3 es (fun o _ => evCells_length o) k j hl hj]; exact hu)
    rwa [← Nat.add_assoc] at this
  exact ⟨b, off, e, hb, hl, g 0 _ (by decide) rfl, g 1 _ (by decide) rfl, g 2 _ (by decide) rfl, h.data _ (List.getElem_mem hl)⟩

theorem str_info : (Tryd.prog.info? 9).map (fun i => (i.zero, i.size, i.bytes)) = some (some (.string .empty), 1, 16) := by kernel_rfl
/-- append of a text onto a row of the call's own. -/
theorem append_str (w : World) (base : Nat) (v : Value) (n : Nat) (l : List Txt) (hown : w.ownsRow base 9 1 v n (l.map encStr)) (x : Txt) (hb : n ≤ 1000000000) (hbase : base ≤ w.heap.size) :
    ∃ A' c' w', (Builtin.append_ #[29, 29] 29 #[v, .slice (some ⟨w.heap.size, 0, none⟩) 1 1]).run Tryd.prog (w.alloc (.cells #[.string ⟨x.toArray⟩] 9)) = .ok (.slice A' (n + 1) c') w' ∧ w'.ownsRow base 9 1 (.slice A' (n + 1) c') (n + 1) ((l ++ [x]).map encStr) ∧ (w.alloc (.cells #[.string ⟨x.toArray⟩] 9)).grownBy w' v.ownBlock ∧
      ((Value.slice A' (n + 1) c').ownBlock = v.ownBlock ∨ (Value.slice A' (n + 1) c').ownBlock = some (w.heap.size + 1)) := by
  obtain ⟨i, hi, hz0, hz1, hz2⟩ := info_parts str_info
  have hS := slc_new w 9 (0, 0) #[.string ⟨x.toArray⟩] (sz := 1) (n := 1) (c := 1) rfl (Nat.le_refl _) (by decide)
  obtain ⟨A', c', w', h1, h2, h3, h4⟩ := append_slc (P := Tryd.prog) (w.alloc (.cells #[.string ⟨x.toArray⟩] 9)) base 29 29 _ i _ 1 16 Tryd.underlying29 hi hz0 hz1 hz2 rfl (by decide) v n (l.map encStr) (hown.alloc _) _ _ 1 1 [.string ⟨x.toArray⟩] hS (fun u hu => by rw [List.mem_singleton.1 hu]; rfl) (by unfold maxLen; omega) (by omega) (by simp; omega)
  exact ⟨A', c', w', h1, by rw [List.map_append]; exact h2, h3, by rwa [World.size_alloc] at h4⟩

end Go.Proofs.YtibndaianhlcaaaDoor
namespace Go.Proofs.YtibndaianhlcaaaDoor
open Go.RowKit
set_option linter.unusedVariables false
set_option linter.unusedSimpArgs false

theorem ext_list (l : List UInt8) (a b : Nat) : (ByteArray.mk l.toArray).extract a b = ⟨((l.drop a).take (b - a)).toArray⟩ := by
  apply Go.WideShapes.bytes_inj
  simp [List.extract_eq_take_drop]
theorem pre7 (l : List UInt8) : Lib.hasPrefix l slash7 = decide (l.take 7 = slash7) := by
  unfold Lib.hasPrefix slash7
  rw [Bool.eq_iff_iff]
  simp only [List.isPrefixOf_iff_prefix, decide_eq_true_eq]
  rw [List.prefix_iff_eq_take]
  exact ⟨fun h => h.symm, fun h => h.symm⟩
theorem headB_false_pre {l : List UInt8} (h : l.take 7 ≠ slash7) : refP l = [] := by unfold refP; rw [if_neg]; rintro ⟨h1, _⟩; exact h ((headB_iff l).1 h1).1
theorem headB_false_dig {l : List UInt8} (h : (parsed ((l.drop 7).take 16)).isSome = false) : refP l = [] := by unfold refP; rw [if_neg]; rintro ⟨h1, _⟩; rw [((headB_iff l).1 h1).2.2.1] at h; cases h
theorem headB_false_dash {l : List UInt8} (h : l[23]? ≠ some 45) : refP l = [] := by unfold refP; rw [if_neg]; rintro ⟨h1, _⟩; exact h ((headB_iff l).1 h1).2.2.2

/-- n letters stand behind a store path's head. -/
def lettersTo (l : List UInt8) (n : Nat) : Prop := n ≤ 19 ∧ 24 + n ≤ l.length ∧ ((l.drop 24).take n).all letterB = true
theorem lettersTo_end {l : List UInt8} {n : Nat} (hh : headB l = true) (h : lettersTo l n) (he : n = 19 ∨ 24 + n = l.length ∨ ∃ hk : 24 + n < l.length, letterB l[24 + n] = false) : refP l = if n = 0 then [] else l.take (24 + n) := by
  have hn : tailN l = n := by
    unfold tailN
    have h1 := all_takeWhile letterB (l.drop 24) n (by rw [List.length_drop]; have := h.2.1; omega) h.2.2
    rcases he with he | he | ⟨hk, he⟩
    · have := h.1; omega
    · have h2 := (List.takeWhile_sublist letterB (l := l.drop 24)).length_le
      rw [List.length_drop] at h2
      have := h.1
      omega
    · have h3 : ¬ n + 1 ≤ ((l.drop 24).takeWhile letterB).length := by
        intro h3
        have h4 := takeWhile_all letterB (l.drop 24) (n + 1) h3
        rw [List.take_succ_eq_append_getElem (by rw [List.length_drop]; omega), List.all_append, Bool.and_eq_true] at h4
        have h5 := h4.2
        simp only [List.all_cons, List.all_nil, Bool.and_true, List.getElem_drop] at h5
        rw [he] at h5
        cases h5
      have := h.1
      omega
  unfold refP
  rw [hn]
  by_cases h0 : n = 0
  · subst h0
    rw [if_neg (by omega), if_pos rfl]
  · rw [if_pos ⟨hh, by omega⟩, if_neg h0]
theorem lettersTo_succ {l : List UInt8} {n : Nat} (h : lettersTo l n) (h1 : n < 19) (h2 : 24 + n < l.length) (h3 : letterB l[24 + n] = true) : lettersTo l (n + 1) := by
  refine ⟨by omega, by omega, ?_⟩
  rw [List.take_succ_eq_append_getElem (by rw [List.length_drop]; omega), List.all_append, h.2.2]
  simp [List.getElem_drop, h3]

end Go.Proofs.YtibndaianhlcaaaDoor
namespace Go.Proofs.YtibndaianhlcaaaDoor
open Go.RowKit Go.Sort
set_option linter.unusedVariables false
set_option linter.unusedSimpArgs false

theorem own_below {w w' : World} {base : Nat} {e : TypeId} {size : Nat} {v : Value} {n : Nat} {xs : List Value} (h : w.ownsRow base e size v n xs) (hb : Below w.heap.size w w') : w'.ownsRow base e size v n xs := by
  refine h.kept (row := none) ⟨hb.os, hb.tape, hb.output, hb.size, fun k hk _ => hb.block k hk⟩ ?_
  cases v.ownBlock with
  | none => exact .inl rfl
  | some g => exact .inr (fun e => by cases e)

theorem refsTo_le_one (d : Txt) (j : Nat) (hj : j ≤ d.length) : (refsTo d j).length ≤ (refsOne d).length := by
  unfold refsOne
  obtain ⟨m, hm⟩ : ∃ m, d.length = j + m := ⟨d.length - j, by omega⟩
  rw [hm]
  clear hm hj
  induction m with
  | zero => exact Nat.le_refl _
  | succ m ih => rw [← Nat.add_assoc, refsTo_succ, List.length_append]; omega
theorem refsAll_le (ds : List Txt) (k : Nat) : (refsAll (ds.take k)).length ≤ (refsAll ds).length := by
  have : refsAll ds = refsAll (ds.take k) ++ refsAll (ds.drop k) := by
    unfold refsAll
    rw [← List.flatMap_append, List.take_append_drop]
  rw [this, List.length_append]
  omega

end Go.Proofs.YtibndaianhlcaaaDoor
namespace Go.Proofs.YtibndaianhlcaaaDoor
open Go.RowKit
set_option linter.unusedVariables false
set_option linter.unusedSimpArgs false

theorem wp_append_run2 {P : Program} {o : Oper} {a : Act} {K : Act → World → Prop} {Q : Exit → Act → World → Prop} (s x : Operand) (t u : TypeId)
    (ho : o.op = .call { callee := .builtin .append, args := #[s, x], argTypes := #[t, u] }) {w w' : World} {v y v' : Value} (hs : a.eval s = v) (hx : a.eval x = y)
    (hrun : (Builtin.append_ #[t, u] o.type #[v, y]).run P w = .ok v' w') (h : K (a.put o.dst v') w') : o.wp P a w K Q := by
  unfold Oper.wp execOp
  simp only [ho, resolve, invoke, builtin, Sem.run_bind, Sem.run_pure, Result.andThen_ok, List.map_toArray, List.map_cons, List.map_nil, hs, hx, hrun]
  exact h
theorem wpList_append_run2 {P : Program} {ops : Array Oper} {rest : List Oper} {o : Oper} {a : Act} {Q : Exit → Act → World → Prop} (hgd : o.guard = none) (s x : Operand) (t u : TypeId)
    (ho : o.op = .call { callee := .builtin .append, args := #[s, x], argTypes := #[t, u] }) {w w' : World} {v y v' : Value} (hs : a.eval s = v) (hx : a.eval x = y)
    (hrun : (Builtin.append_ #[t, u] o.type #[v, y]).run P w = .ok v' w') (h : wpList P ops Q rest (a.put o.dst v') w') : wpList P ops Q (o :: rest) a w :=
  wpList_plain hgd fun _ hK => wp_append_run2 s x t u ho hs hx hrun (hK _ _ h)

theorem strCells_bv (s : ByteArray) (k : List UInt8) (hs : s.data.toList = k) : Lib.strCells s = k.map bv := by
  unfold Lib.strCells
  rw [hs]
  rfl
/-- append of a string onto bytes of the call's own. -/
theorem append_txt (w : World) (base : Nat) (v : Value) (n : Nat) (l : List UInt8) (hown : w.ownsRow base 5 1 v n (l.map bv)) (s : ByteArray) (k : List UInt8) (hs : s.data.toList = k) (hb : n + k.length ≤ 140737488355328) (hbase : base ≤ w.heap.size) :
    ∃ A' c' w', (Builtin.append_ #[42, 9] 42 #[v, .string s]).run Tryd.prog w = .ok (.slice A' (n + k.length) c') w' ∧ w'.ownsRow base 5 1 (.slice A' (n + k.length) c') (n + k.length) ((l ++ k).map bv) ∧ w.grownBy w' v.ownBlock := by
  obtain ⟨i, hi, hz0, hz1, hz2⟩ := info_parts byte_info
  have hsz : s.size = k.length := by rw [← hs]; rfl
  obtain ⟨v', w', h1, h2, h3, _⟩ := Lib.run_append_own_string (P := Tryd.prog) w base 42 9 42 5 i Tryd.underlying42 Tryd.underlying9 hi hz0 hz1 hz2 v n (l.map bv) hown s (by rw [hsz]; unfold maxLen; omega) (by rw [hsz]; exact hb) hbase
  rw [hsz] at h2
  obtain ⟨A', c', rfl, _⟩ := own_slc h2
  exact ⟨A', c', w', h1, by rw [List.map_append, ← strCells_bv s k hs]; exact h2, h3⟩
/-- What has grown beside a row of the call's own keeps what lies below. -/
theorem grown_below {w w0 w' : World} {base : Nat} {e : TypeId} {size : Nat} {v : Value} {n : Nat} {xs : List Value} (hb : Below base w0 w) (hown : w.ownsRow base e size v n xs) (hbase : base ≤ w.heap.size) (hg : w.grownBy w' v.ownBlock) : Below base w0 w' :=
  hb.grown hg hbase fun q hq => (hown.lt q hq).1

theorem empty_own (w : World) (base : Nat) (hb : base ≤ w.heap.size) : (w.alloc (.cells #[] 5)).ownsRow base 5 1 (.slice (some ⟨w.heap.size, 0, none⟩) 0 0) 0 (([] : List UInt8).map bv) :=
  ⟨rfl, .inr ⟨w.heap.size, 0, #[], rfl, hb, heap_alloc_new w _, Nat.le_refl _, Nat.zero_le _, rfl, rfl⟩⟩
/-- Bytes that can be appended to: of the call's own, or a full row that is read alone. -/
def BufB (w : World) (base : Nat) (A : Option Addr) (n c : Nat) (l : List UInt8) : Prop :=
  w.ownsRow base 5 1 (.slice A n c) n (l.map bv) ∨ (Slc w w.heap.size 1 A n c (l.map bv) ∧ c = n ∧ ∃ g, A = some ⟨g, 0, none⟩)
theorem BufB.below {w w' : World} {base : Nat} {A : Option Addr} {n c : Nat} {l : List UInt8} (h : BufB w base A n c l) (hb : Below w.heap.size w w') : BufB w' base A n c l := by
  rcases h with h | ⟨h1, h2, h3⟩
  · refine .inl ⟨h.1, ?_⟩
    rcases h.2 with hn | ⟨g, cap, cur, e, e1, e2, rest⟩
    · exact .inl hn
    · exact .inr ⟨g, cap, cur, e, e1, by rw [hb.block g (Array.getElem?_eq_some_iff.1 e2).1]; exact e2, rest⟩
  · exact .inr ⟨(h1.below hb).more hb.size, h2, h3⟩
theorem BufB.slc {w : World} {base : Nat} {A : Option Addr} {n c : Nat} {l : List UInt8} (h : BufB w base A n c l) : Slc w w.heap.size 1 A n c (l.map bv) := by
  rcases h with h | h
  · exact own_slc_of h
  · exact h.1
theorem own_txt {w : World} {base : Nat} {A : Option Addr} {n c : Nat} {l : List UInt8} (h : w.ownsRow base 5 1 (.slice A n c) n (l.map bv)) (s : ByteArray) (k : List UInt8) (hs : s.data.toList = k) (hb : n + k.length ≤ 140737488355328) (hbase : base ≤ w.heap.size) :
    ∃ A' n' c' w', (Builtin.append_ #[42, 9] 42 #[.slice A n c, .string s]).run Tryd.prog w = .ok (.slice A' n' c') w' ∧ w'.ownsRow base 5 1 (.slice A' n' c') n' ((l ++ k).map bv) ∧ Below base w w' := by
  obtain ⟨A', c', w', h1, h2, h3⟩ := append_txt w base _ n l h s k hs hb hbase
  exact ⟨A', _, c', w', h1, h2, grown_below (Below.refl _ w) h hbase h3⟩
theorem own_bytes {w : World} {base : Nat} {A : Option Addr} {n c : Nat} {l : List UInt8} (h : w.ownsRow base 5 1 (.slice A n c) n (l.map bv)) {B : Nat} {A2 : Option Addr} {m c2 : Nat} {k : List UInt8} (hk : Slc w B 1 A2 m c2 (k.map bv)) (hb : n + m ≤ 140737488355328) (hbase : base ≤ w.heap.size) :
    ∃ A' n' c' w', (Builtin.append_ #[42, 42] 42 #[.slice A n c, .slice A2 m c2]).run Tryd.prog w = .ok (.slice A' n' c') w' ∧ w'.ownsRow base 5 1 (.slice A' n' c') n' ((l ++ k).map bv) ∧ Below base w w' := by
  obtain ⟨A', c', w', h1, h2, h3, _⟩ := append_bytes w base _ n l h B A2 m c2 k hk hb hbase
  exact ⟨A', _, c', w', h1, h2, grown_below (Below.refl _ w) h hbase h3⟩
set_option maxRecDepth 100000 in
/-- append of a string onto such bytes: behind it they are the call's own. -/
theorem BufB.txt {w : World} {base : Nat} {A : Option Addr} {n c : Nat} {l : List UInt8} (h : BufB w base A n c l) (s : ByteArray) (k : List UInt8) (hs : s.data.toList = k) (hk : 0 < k.length) (hb : n + k.length ≤ 1000000000) (hbase : base ≤ w.heap.size) :
    ∃ A' n' c' w', (Builtin.append_ #[42, 9] 42 #[.slice A n c, .string s]).run Tryd.prog w = .ok (.slice A' n' c') w' ∧ w'.ownsRow base 5 1 (.slice A' n' c') n' ((l ++ k).map bv) ∧ Below base w w' := by
  rcases h with h | ⟨h1, h2, g, h3⟩
  · exact own_txt h s k hs (by omega) hbase
  subst h3
  obtain ⟨i, hi, hz0, hz1, hz2⟩ := info_parts byte_info
  have hsz : s.size = k.length := by rw [← hs]; rfl
  have hl : l.length = n := by have := h1.len; simpa using this
  have holds : ∀ j v, (l.map bv)[j]? = some v → w.cell? ((⟨g, 0, none⟩ : Addr).add j) = some v := fun j v hv => by
    rcases Nat.eq_zero_or_pos n with h0 | h0
    · rw [List.eq_nil_of_length_eq_zero (by omega : l.length = 0)] at hv
      simp at hv
    · obtain ⟨b, off, e1, _, hc⟩ := h1.at_ h0
      injection e1 with e1
      injection e1 with e1 e2
      subst e1 e2
      rw [addr_of_add]
      exact hc j v hv
  have hcap := h1.cmax
  have hfit : Builtin.nextslicecap (n + s.size) c * 1 ≤ 281474976710656 := growslice_fits (by rw [hsz]; omega) (by rw [hsz]; omega)
  have hr := Lib.run_append_grow_string (P := Tryd.prog) w 42 9 42 5 i _ Tryd.underlying42 Tryd.underlying9 hi hz0 ⟨g, 0, none⟩ n c (l.map bv) (by rw [hz1]; simpa using hl) holds s (by rw [hsz]; omega) (by rw [hsz]; omega) (by rw [hz2]; exact hfit)
  have hge := grownCap_ge w (n + s.size) c 5
  have hcm : grownCap w (n + s.size) c 5 ≤ maxLen := grownCap_le_maxLen w (n + s.size) c _ (by rw [hsz]; unfold maxLen; omega)
  have hlen : ((l ++ k).map bv).length = (n + s.size) * 1 := by rw [List.length_map, List.length_append, hl, hsz, Nat.mul_one]
  refine ⟨_, _, _, _, hr, ⟨hlen, .inr ⟨w.heap.size, _, _, rfl, hbase, heap_alloc_new w.drew _, hge, hcm, ?_, ?_⟩⟩, ((Below.refl base w).drew).alloc hbase _⟩
  · have hz3 : (Value.int IntKind.u8 0).cells.size = 1 := rfl
    simp only [Array.size_append, List.size_toArray, size_zeroCells, hz3, List.length_map, hl, Lib.strCells_length]
    omega
  · rw [← hlen, List.map_append, ← strCells_bv s k hs]
    simp only [Array.toList_append]
    exact List.take_left
end Go.Proofs.YtibndaianhlcaaaDoor
