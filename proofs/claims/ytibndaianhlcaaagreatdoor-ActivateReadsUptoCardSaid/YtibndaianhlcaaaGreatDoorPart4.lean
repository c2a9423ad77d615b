/- What a call does to the memory that an object has reserved: 'Step w w' F F''. strings.SplitSeq at "/": what its iterator gives. Arguments that are slices of structs, opened to cells; the sizes of what lies within. Arguments of plain types, opened. Lists of entries and of texts in memory. The walk of tree.ref: the store path at the front of a text. The walk of tree.Refs: the store paths that stand in a list of entries. -/
import Derived.Test.YtibndaianhlcaaaGreatDoorPart1
import Derived.Deep.MidRow
import Derived.Test.YtibndaianhlcaaaGreatDoorPart3
import Derived.Test.YtibndaianhlcaaaGreatDoorPart2
import Derived.Shelf.Abstract
import Derived.Shelf.RegionOpen
import Derived.SizedLaws
import Derived.Deep.Slices
import Derived.Deep.Fields
import Derived.ChangeSame
import Derived.Sort.OwnSorted
namespace Go.Proofs.YtibndaianhlcaaaGreatDoor
open Go.RowKit

/-- From w to w' only blocks of F have turned; F' is F, less some, and blocks that are new. -/
structure Step (w w' : World) (F F' : Nat → Prop) : Prop where
  os : w'.os = w.os
  tape : w'.tape = w.tape
  output : w'.output = w.output
  size : w.heap.size ≤ w'.heap.size
  block : ∀ k, k < w.heap.size → ¬ F k → w'.heap[k]? = w.heap[k]?
  next : ∀ k, F' k → F k ∨ w.heap.size ≤ k

theorem Step.refl (w : World) (F : Nat → Prop) : Step w w F F := ⟨rfl, rfl, rfl, Nat.le_refl _, fun _ _ _ => rfl, fun _ h => .inl h⟩
theorem Step.trans {a b c : World} {F G K : Nat → Prop} (h : Step a b F G) (k : Step b c G K) : Step a c F K :=
  ⟨k.os.trans h.os, k.tape.trans h.tape, k.output.trans h.output, Nat.le_trans h.size k.size, fun i hi hn => by
      rw [k.block i (Nat.lt_of_lt_of_le hi h.size) (fun hg => by rcases h.next i hg with h1 | h1; exact hn h1; omega), h.block i hi hn],
    fun i hi => by
      rcases k.next i hi with h1 | h1
      · exact h.next i h1
      · exact .inr (Nat.le_trans h.size h1)⟩
theorem Step.of_below {w w' : World} (h : Below w.heap.size w w') (F : Nat → Prop) : Step w w' F F :=
  ⟨h.os, h.tape, h.output, h.size, fun k hk _ => h.block k hk, fun _ h => .inl h⟩
theorem Step.below {w w' : World} {F F' : Nat → Prop} {B : Nat} (h : Step w w' F F') (hB : B ≤ w.heap.size) (hF : ∀ k, F k → B ≤ k) : Below B w w' :=
  ⟨h.os, h.tape, h.output, h.size, fun k hk => h.block k (by omega) (fun hf => by have := hF k hf; omega)⟩
theorem Step.from_ {w w' : World} {F F' : Nat → Prop} {B : Nat} (h : Step w w' F F') (hB : B ≤ w.heap.size) (hF : ∀ k, F k → B ≤ k) : ∀ k, F' k → B ≤ k := fun k hk => by
  rcases h.next k hk with h1 | h1
  · exact hF k h1
  · omega
theorem Step.drew {a w : World} {F G : Nat → Prop} (h : Step a w F G) : Step a w.drew F G := ⟨h.os, h.tape, h.output, h.size, h.block, h.next⟩
theorem Step.drewN {a w : World} {F G : Nat → Prop} (h : Step a w F G) (n : Nat) : Step a (w.drewN n) F G := ⟨h.os, h.tape, h.output, h.size, h.block, h.next⟩
theorem Step.alloc {a w : World} {F G : Nat → Prop} (h : Step a w F G) (o : Obj) : Step a (w.alloc o) F G :=
  ⟨h.os, h.tape, h.output, Nat.le_trans h.size (by simp), fun k hk hn => by rw [Below.heap_alloc w o k (Nat.lt_of_lt_of_le hk h.size)]; exact h.block k hk hn, h.next⟩
theorem Step.setCell {a w : World} {F G : Nat → Prop} (h : Step a w F G) {p : Addr} (hp : F p.block ∨ a.heap.size ≤ p.block) (u : Value) : Step a (w.setCell p u) F G :=
  ⟨h.os, h.tape, h.output, by simpa [World.setCell] using h.size, fun k hk hn => by
    rw [Below.heap_setCell w p u k (by rintro rfl; rcases hp with hp | hp; exact hn hp; omega)]; exact h.block k hk hn, h.next⟩
theorem Step.setRow {a w : World} {F G : Nat → Prop} (h : Step a w F G) {g : Nat} (hp : F g ∨ a.heap.size ≤ g) (cs : Array Value) : Step a (w.setRow g cs) F G :=
  ⟨h.os, h.tape, h.output, by simpa using h.size, fun k hk hn => by
    have : (w.setRow g cs).heap[k]? = w.heap[k]? := by
      simp only [World.setRow, Array.getElem?_modify]
      rw [if_neg (by rintro rfl; rcases hp with hp | hp; exact hn hp; omega)]
    rw [this]; exact h.block k hk hn, h.next⟩
theorem Step.grown {a w w' : World} {F G : Nat → Prop} {row : Option Nat} (h : Step a w F G) (hg : w.grownBy w' row) (hr : ∀ k, row = some k → F k ∨ a.heap.size ≤ k) : Step a w' F G :=
  ⟨hg.os.trans h.os, hg.tape.trans h.tape, hg.output.trans h.output, Nat.le_trans h.size hg.size, fun k hk hn => by
    rw [hg.block k (Nat.lt_of_lt_of_le hk h.size) (fun e => by rcases hr k e.symm with h1 | h1; exact hn h1; omega)]; exact h.block k hk hn, h.next⟩
theorem Step.fewer {a w : World} {F G G' : Nat → Prop} (h : Step a w F G) (hG : ∀ k, G' k → G k ∨ a.heap.size ≤ k) : Step a w F G' :=
  ⟨h.os, h.tape, h.output, h.size, h.block, fun k hk => by rcases hG k hk with h1 | h1; exact h.next k h1; exact .inr h1⟩
theorem Step.wider {a w : World} {F G F' : Nat → Prop} (h : Step a w F G) (hF : ∀ k, F k → F' k) : Step a w F' G :=
  ⟨h.os, h.tape, h.output, h.size, fun k hk hn => h.block k hk (fun hf => hn (hF k hf)), fun k hk => by rcases h.next k hk with h1 | h1; exact .inl (hF k h1); exact .inr h1⟩

theorem Blk.step {w w' : World} {F G : Nat → Prop} {g : Nat} {t : TypeId} {cs : Array Value} (h : Blk w g t cs) (s : Step w w' F G) (hn : ¬ F g) : Blk w' g t cs := (s.block g h.lt hn).trans h
theorem Blk.row {w : World} {g : Nat} {t : TypeId} {cs : Array Value} (h : Blk w g t cs) (cs' : Array Value) : Blk (w.setRow g cs') g t cs' := by
  unfold Blk at h ⊢
  simp [World.setRow, Array.getElem?_modify, h]
theorem Blk.row_far {w : World} {g g' : Nat} {t : TypeId} {cs : Array Value} (h : Blk w g t cs) (hne : g ≠ g') (cs' : Array Value) : Blk (w.setRow g' cs') g t cs := by
  unfold Blk at h ⊢
  simp only [World.setRow, Array.getElem?_modify]
  rw [if_neg (fun e => hne e.symm)]; exact h
theorem Slc.step {w w' : World} {F G : Nat → Prop} {B sz : Nat} {A : Option Addr} {n c : Nat} {xs : List Value} (h : Slc w B sz A n c xs) (s : Step w w' F G) (hB : B ≤ w.heap.size) (hF : ∀ k, F k → B ≤ k) : Slc w' B sz A n c xs :=
  h.below (s.below hB hF)

theorem cells_alloc {w : World} {p : Nat} (h : p < w.heap.size) : ∀ (o : Obj) (i : Nat), (w.alloc o).cell? ⟨p, i, none⟩ = w.cell? ⟨p, i, none⟩ := fun o i =>
  World.cell?_of_block (w := w) (a := ⟨p, i, none⟩) (Below.heap_alloc w o p h)
theorem frozen_alloc {w : World} {p : Nat} (h : p < w.heap.size) : ∀ (o : Obj) (i : Nat), (w.alloc o).frozen? ⟨p, i, none⟩ = w.frozen? ⟨p, i, none⟩ := fun o i =>
  World.frozen?_of_block (w := w) (a := ⟨p, i, none⟩) (Below.heap_alloc w o p h)
theorem cells_far {w : World} {p g : Nat} (h : p ≠ g) : ∀ (cs : Array Value) (i : Nat), (w.setRow g cs).cell? ⟨p, i, none⟩ = w.cell? ⟨p, i, none⟩ := fun cs i => by
  refine World.cell?_of_block (w := w) (a := ⟨p, i, none⟩) ?_
  simp only [World.setRow, Array.getElem?_modify]
  rw [if_neg (fun e => h e.symm)]

/-- A row of the object's: it may be nil only where it is empty. -/
structure Row (w : World) (F : Nat → Prop) (e : TypeId) (sz : Nat) (v : Value) (n : Nat) (xs : List Value) : Prop where
  own : w.ownsRow 0 e sz v n xs
  foot : ∀ k, v.ownBlock = some k → F k

theorem Row.kept {w w' : World} {F G : Nat → Prop} {e : TypeId} {sz : Nat} {v : Value} {n : Nat} {xs : List Value} (h : Row w F e sz v n xs) (hb : ∀ k, v.ownBlock = some k → w'.heap[k]? = w.heap[k]?) (hG : ∀ k, v.ownBlock = some k → G k) : Row w' G e sz v n xs := by
  refine ⟨⟨h.own.1, ?_⟩, hG⟩
  rcases h.own.2 with hn | ⟨g, cap, cur, rfl, h1, h2, rest⟩
  · exact .inl hn
  · exact .inr ⟨g, cap, cur, rfl, h1, by rw [hb g rfl]; exact h2, rest⟩
theorem Row.step {w w' : World} {F G K : Nat → Prop} {e : TypeId} {sz : Nat} {v : Value} {n : Nat} {xs : List Value} (h : Row w F e sz v n xs) (s : Step w w' G K) (hd : ∀ k, F k → ¬ G k) : Row w' F e sz v n xs :=
  h.kept (fun k hk => s.block k (h.own.lt k hk).2 (hd k (h.foot k hk))) h.foot
theorem Row.lt {w : World} {F : Nat → Prop} {e : TypeId} {sz : Nat} {v : Value} {n : Nat} {xs : List Value} (h : Row w F e sz v n xs) : ∀ k, v.ownBlock = some k → k < w.heap.size := fun k hk => (h.own.lt k hk).2
/-- A row that has an element. -/
theorem Row.form {w : World} {F : Nat → Prop} {e : TypeId} {sz : Nat} {v : Value} {n : Nat} {xs : List Value} (h : Row w F e sz v n xs) (hn : 0 < n) :
    ∃ g cap cur, v = .slice (some ⟨g, 0, none⟩) n cap ∧ F g ∧ g < w.heap.size ∧ Blk w g e cur ∧ n ≤ cap ∧ cap ≤ maxLen ∧ cur.size = cap * sz ∧ cur.toList.take (n * sz) = xs := by
  rcases h.own.2 with ⟨_, h0⟩ | ⟨g, cap, cur, rfl, _, h2, h3, h4, h5, h6⟩
  · omega
  · exact ⟨g, cap, cur, rfl, h.foot g rfl, (h.own.lt g rfl).2, h2, h3, h4, h5, h6⟩
theorem Row.slc {w : World} {F : Nat → Prop} {e : TypeId} {sz : Nat} {v : Value} {n : Nat} {xs : List Value} (h : Row w F e sz v n xs) :
    ∃ A c, v = .slice A n c ∧ Slc w w.heap.size sz A n c xs := by
  obtain ⟨A, c, hv, hs, _⟩ := own_slc h.own
  exact ⟨A, c, hv, hs⟩
/-- One element of a row is written anew. -/
theorem Row.put {w : World} {F : Nat → Prop} {e : TypeId} {sz : Nat} {g n cap : Nat} {xs : List Value} (h : Row w F e sz (.slice (some ⟨g, 0, none⟩) n cap) n xs) {i : Nat} (hi : i < n) {ys : List Value} (hy : ys.length = sz)
    {cur : Array Value} (hB : Blk w g e cur) :
    Row (w.setRow g (cur.toList.take (i * sz) ++ ys ++ cur.toList.drop (i * sz + ys.length)).toArray) F e sz (.slice (some ⟨g, 0, none⟩) n cap) n (xs.take (i * sz) ++ ys ++ xs.drop (i * sz + ys.length)) := by
  rcases h.own.2 with ⟨_, h0⟩ | ⟨g', cap', cur', hv, h1, h2, h3, h4, h5, h6⟩
  · omega
  · injection hv with e1 e2 e3
    injection e1 with e1
    injection e1 with e1 _ _
    subst e1 e3
    have hcc : cur' = cur := by
      unfold Blk at hB
      rw [hB] at h2
      injection h2 with h2
      injection h2 with h2
      exact h2.symm
    subst hcc
    have hle : i * sz + sz ≤ n * sz := by rw [← Nat.succ_mul]; exact Nat.mul_le_mul_right _ hi
    have hle2 : n * sz ≤ cap * sz := Nat.mul_le_mul_right _ h3
    have hcl : cur'.toList.length = cap * sz := by simpa using h5
    refine ⟨⟨?_, .inr ⟨g, cap, _, rfl, Nat.zero_le _, hB.row _, h3, h4, ?_, ?_⟩⟩, h.foot⟩
    · have := h.own.1
      simp only [List.length_append, List.length_take, List.length_drop]
      omega
    · simp only [List.size_toArray, List.length_append, List.length_take, List.length_drop]
      omega
    · subst h6
      apply List.ext_getElem?
      intro j
      simp only [List.getElem?_take, List.getElem?_append, List.length_append, List.length_take, List.getElem?_drop, hcl, hy]
      repeat' split
      all_goals first | rfl | omega | (congr 1; omega) | (rw [List.getElem?_eq_none (by omega)])

theorem Slc.drew {w : World} {B sz : Nat} {A : Option Addr} {n c : Nat} {xs : List Value} (h : Slc w B sz A n c xs) : Slc w.drew B sz A n c xs := h.keep fun _ _ => World.cell?_drew _ _
theorem Slc.lt {w : World} {B sz : Nat} {A : Option Addr} {n c : Nat} {xs : List Value} (h : Slc w B sz A n c xs) (hs : 0 < sz) : Slc w w.heap.size sz A n c xs :=
  ⟨h.len, h.le, h.cmax, fun hn => by
    obtain ⟨b, off, e, hb, hc⟩ := h.at_ hn
    have hpos : 0 < xs.length := by rw [h.len]; exact Nat.mul_pos hn hs
    have := hc 0 xs[0] (List.getElem?_eq_getElem hpos)
    exact ⟨b, off, e, World.block_lt_of_cell? w _ this, hc⟩⟩
/-- A slice that lies apart from what turns. -/
theorem Slc.apart {w w' : World} {F G : Nat → Prop} {B sz : Nat} {A : Option Addr} {n c : Nat} {xs : List Value} (h : Slc w B sz A n c xs) (s : Step w w' F G) (hsep : ∀ a, A = some a → ¬ F a.block) : Slc w' B sz A n c xs :=
  ⟨h.len, h.le, h.cmax, fun hn => by
    obtain ⟨b, off, e, hb, hc⟩ := h.at_ hn
    refine ⟨b, off, e, hb, fun j u hu => ?_⟩
    have h1 := hc j u hu
    rw [World.cell?_of_block (w := w) (a := ⟨b, off + j, none⟩) (s.block b (World.block_lt_of_cell? w _ h1) (hsep _ e))]
    exact h1⟩
end Go.Proofs.YtibndaianhlcaaaGreatDoor
namespace Go.Proofs.YtibndaianhlcaaaGreatDoor
open Go.RowKit Go.Shelf
set_option linter.unusedVariables false
set_option linter.unusedSimpArgs false

theorem index_none : ∀ (l : Txt), (47 : UInt8) ∉ l → Lib.indexByte l 47 = -1
  | [], _ => by simp [Lib.indexByte]
  | x :: l, h => by
    have h1 : x ≠ 47 := fun e => h (by rw [e]; exact List.mem_cons_self ..)
    have h2 := index_none l (fun e => h (List.mem_cons_of_mem _ e))
    simp [Lib.indexByte, h1, h2]
theorem index_cut : ∀ (a b : Txt), (47 : UInt8) ∉ a → Lib.indexByte (a ++ 47 :: b) 47 = (a.length : Int)
  | [], b, _ => by simp [Lib.indexByte]
  | x :: a, b, h => by
    have h1 : x ≠ 47 := fun e => h (by rw [e]; exact List.mem_cons_self ..)
    have h2 := index_cut a b (fun e => h (List.mem_cons_of_mem _ e))
    show (if x == 47 then 0 else if Lib.indexByte (a ++ 47 :: b) 47 == -1 then -1 else Lib.indexByte (a ++ 47 :: b) 47 + 1) = _
    rw [h2, if_neg (by simpa using h1), if_neg (by simp)]
    simp
theorem cut_of_mem : ∀ (l : Txt), (47 : UInt8) ∈ l → ∃ a b, l = a ++ 47 :: b ∧ (47 : UInt8) ∉ a
  | [], h => by cases h
  | x :: l, h => by
    by_cases hx : x = 47
    · exact ⟨[], l, by rw [hx]; rfl, by simp⟩
    · obtain ⟨a, b, e, hn⟩ := cut_of_mem l (by
        rcases List.mem_cons.1 h with h | h
        · exact absurd h.symm hx
        · exact h)
      refine ⟨x :: a, b, by rw [e]; rfl, fun hm => ?_⟩
      rcases List.mem_cons.1 hm with h1 | h1
      · exact hx h1.symm
      · exact hn h1
theorem ext0 (l : Txt) (b : Nat) : (ByteArray.mk l.toArray).extract 0 b = ⟨(l.take b).toArray⟩ := by
  apply Go.WideShapes.bytes_inj
  simp [List.extract_eq_take_drop]
theorem extN (l : Txt) (a : Nat) : (ByteArray.mk l.toArray).extract a l.length = ⟨(l.drop a).toArray⟩ := by
  apply Go.WideShapes.bytes_inj
  simp [List.extract_eq_take_drop]
  rw [List.take_of_length_le (by rw [List.length_drop]; exact Nat.le_refl _)]

/-- What a round keeps of the iterator's three cells. -/
structure Kp3 (b1 b2 b3 : Nat) (A B : World) : Prop where
  k1 : B.heap[b1]? = A.heap[b1]?
  k2 : B.heap[b2]? = A.heap[b2]?
  k3 : B.heap[b3]? = A.heap[b3]?
theorem Kp3.trans {b1 b2 b3 : Nat} {A B C : World} (h : Kp3 b1 b2 b3 A B) (k : Kp3 b1 b2 b3 B C) : Kp3 b1 b2 b3 A C := ⟨k.k1.trans h.k1, k.k2.trans h.k2, k.k3.trans h.k3⟩
def leftC (b1 : Nat) (W : World) : Nat := match W.cell? ⟨b1, 0, none⟩ with
  | some (.string s) => s.size
  | _ => 0
theorem leftC_of {W : World} {b1 : Nat} {l : Txt} (h : Blk W b1 9 #[.string ⟨l.toArray⟩]) : leftC b1 W = l.length := by
  unfold leftC
  rw [h.cell 0]
  rfl

section
attribute [local go_sem] Oper.semAt_some
set_option maxRecDepth 100000 in
set_option maxHeartbeats 4000000 in
theorem splitseq_in (m : Nat) (hm : 1 ≤ m) (b1 b2 b3 : Nat) (h12 : b1 ≠ b2) (h13 : b1 ≠ b3) (l0 : Txt) (hlen : l0.length ≤ 1000000000) (W : World)
    (c1 : Blk W b1 9 #[.string ⟨l0.toArray⟩]) (c2 : Blk W b2 9 #[.string ⟨#[47]⟩]) (c3 : Blk W b3 3 #[.int .i64 0]) :
    SeqC Fence.wide m Tryz.prog 121 #[.pointer (some ⟨b2, 0, none⟩), .pointer (some ⟨b1, 0, none⟩), .pointer (some ⟨b3, 0, none⟩)] (fun x : Txt => #[.string ⟨x.toArray⟩]) (Kp3 b1 b2 b3) (fun xs => xs = splitS l0) (fun pre => pre <+: splitS l0) b1 W := by
  intro l J Jx hJc hJd hY h0
  refine callsIn_of_wp Tryz.func121 rfl trivial ?_ rfl
  simp only [Tryz.ntmps121, List.size_toArray, List.length_cons, List.length_nil, Nat.reduceAdd, Nat.reduceSub, Array.replicate_succ, Array.replicate_zero, List.push_toArray, List.append_toArray, List.nil_append, List.cons_append]
  have d2 := c2.cell 0
  have d1 := c1.cell 0
  simp only [List.getElem?_toArray, List.getElem?_cons_zero] at d1 d2
  have C1 := Lib.hid c1
  have C2 := Lib.hid c2
  have C3 := Lib.hid c3
  have HY := Lib.hid hY
  have HJC := Lib.hid hJc
  clear c1 c2 c3 hY hJc
  gi_wp2
  gi_loopw [7] (fun t wr => ∃ (pre : List Txt) (rest : Txt), splitS l0 = pre ++ splitS rest ∧ rest.length ≤ l0.length ∧ Blk wr b1 9 #[.string ⟨rest.toArray⟩] ∧ Blk wr b2 9 #[.string ⟨#[47]⟩] ∧ Blk wr b3 3 #[.int .i64 0] ∧ J pre wr) (fun _ wr => leftC b1 wr)
  case atStart => exact ⟨[], l0, rfl, Nat.le_refl _, C1.out, C2.out, C3.out, h0⟩
  case round =>
    obtain ⟨pre, rest, hsp, hrl, e1, e2, e3, hJ⟩ := hrel
    have f1 := e1.cell 0
    have f2 := e2.cell 0
    have f3 := e3.cell 0
    simp only [List.getElem?_toArray, List.getElem?_cons_zero] at f1 f2 f3
    have hix := callsIn_wide (n := m - 1) |>.2 (Tryz.strings_Index_one ⟨rest.toArray⟩ 47 wr)
    have hd : (ByteArray.mk rest.toArray).data.toList = rest := rfl
    rw [hd] at hix
    clear hd
    have HSP := Lib.hid hsp
    have HRL := Lib.hid hrl
    have HE := Lib.hid (And.intro e1 (And.intro e2 e3))
    clear hsp hrl e1 e2 e3
    by_cases hmem : (47 : UInt8) ∈ rest
    · obtain ⟨a, b, rfl, hna⟩ := cut_of_mem rest hmem
      rw [index_cut a b hna] at hix
      have HSP2 := Lib.hid (show splitS l0 = (pre ++ [a]) ++ splitS b by rw [HSP.out, splitS_cut a b hna]; simp)
      have hN : pre ++ [a] <+: splitS l0 := ⟨splitS b, HSP2.out.symm⟩
      obtain ⟨fn, tmps, assign, body, hy, hR⟩ := HY.out pre a wr hJ hN
      have hx1 : (ByteArray.mk (a ++ 47 :: b).toArray).extract 0 a.length = ⟨a.toArray⟩ := by rw [ext0, List.take_left]
      have hx2 : (ByteArray.mk (a ++ 47 :: b).toArray).extract (a.length + 1) (a.length + (b.length + 1)) = ⟨b.toArray⟩ := by
        have h1 := extN (a ++ 47 :: b) (a.length + 1)
        rw [show (a ++ 47 :: b).length = a.length + (b.length + 1) by simp] at h1
        rw [h1]
        congr 2
        rw [show a ++ 47 :: b = (a ++ [47]) ++ b by simp]
        exact List.drop_left' (by simp)
      have HX2 := Lib.hid hx2
      have hal : a.length ≤ 1000000000 := by have := HRL.out; simp at this; omega
      have hbl : b.length ≤ 1000000000 := by have := HRL.out; simp at this; omega
      have HBL := Lib.hid (show b.length ≤ l0.length by have := HRL.out; simp at this; omega)
      clear hx2 hmem hna hN
      gi_wp2_with (refine ⟨trivial, ?_⟩; gi_at_call 123; refine hix.mono ?_; clear hix; rintro e W2 ⟨rfl, hW2⟩; obtain rfl := hW2.symm)
      refine hR.mono ?_
      rintro e W3 (⟨rfl, hJ3, hk3⟩ | ⟨rfl, hJx3⟩)
      · have E1 := Lib.hid (show Blk W3 b1 9 #[.string ⟨(a ++ 47 :: b).toArray⟩] from hk3.k1.trans HE.out.1)
        have E2 := Lib.hid (show Blk W3 b2 9 #[.string ⟨#[47]⟩] from hk3.k2.trans HE.out.2.1)
        have E3 := Lib.hid (show Blk W3 b3 3 #[.int .i64 0] from hk3.k3.trans HE.out.2.2)
        have g1 := E1.out.cell 0
        have g2 := E2.out.cell 0
        have gf := E1.out.frozen 0
        simp only [List.getElem?_toArray, List.getElem?_cons_zero] at g1 g2
        have hx2 := HX2.out
        have hE4 := Lib.hid (And.intro (E1.out.set_ 0 (.string ⟨b.toArray⟩)) (And.intro (E2.out.far (p := ⟨b1, 0, none⟩) (fun e => h12 e.symm) (.string ⟨b.toArray⟩)) (E3.out.far (p := ⟨b1, 0, none⟩) (fun e => h13 e.symm) (.string ⟨b.toArray⟩))))
        have hlt1 := E1.out.lt
        clear f1 f2 f3 hy
        gi_wp2
        go_roundw
        case rel => exact ⟨pre ++ [a], b, HSP2.out, HBL.out, hE4.out.1, hE4.out.2.1, hE4.out.2.2, HJC.out _ _ _ hJ3⟩
        case measure =>
          rw [leftC_of (show Blk (W3.setCell ⟨b1, 0, none⟩ (.string ⟨b.toArray⟩)) b1 9 #[.string ⟨b.toArray⟩] from hE4.out.1), leftC_of HE.out.1]
          simp
          omega
      · gi_wp2
        refine bodyPost_ret (results_none rfl _ _ _) rfl ?_
        exact ⟨⟨_, rfl⟩, .inr ⟨pre ++ [a], ⟨splitS b, HSP2.out.symm⟩, hJx3⟩⟩
    · rw [index_none rest hmem] at hix
      have HSP2 := Lib.hid (show splitS l0 = pre ++ [rest] by rw [HSP.out, splitS_none rest hmem])
      have hN : pre ++ [rest] <+: splitS l0 := ⟨[], by rw [HSP2.out]; simp⟩
      obtain ⟨fn, tmps, assign, body, hy, hR⟩ := HY.out pre rest wr hJ hN
      clear hmem hN
      gi_wp2_with (refine ⟨trivial, ?_⟩; gi_at_call 123; refine hix.mono ?_; clear hix; rintro e W2 ⟨rfl, hW2⟩; obtain rfl := hW2.symm)
      refine hR.mono ?_
      rintro e W3 (⟨rfl, hJ3, hk3⟩ | ⟨rfl, hJx3⟩)
      · gi_wp2
        go_end0
        exact ⟨⟨_, rfl⟩, .inl ⟨pre ++ [rest], HSP2.out.symm, hJ3⟩⟩
      · gi_wp2
        go_end0
        exact ⟨⟨_, rfl⟩, .inr ⟨pre ++ [rest], ⟨[], by rw [HSP2.out]; simp⟩, hJx3⟩⟩
end

/-- The world behind SplitSeq: its three cells. -/
def splitW (w : World) (s : ByteArray) : World := ((w.alloc (.cells #[.string s] 9)).alloc (.cells #[.string ⟨#[47]⟩] 9)).alloc (.cells #[.int .i64 0] 3)
theorem splitW_facts (w : World) (s : ByteArray) : Blk (splitW w s) w.heap.size 9 #[.string s] ∧ Blk (splitW w s) (w.heap.size + 1) 9 #[.string ⟨#[47]⟩] ∧ Blk (splitW w s) (w.heap.size + 2) 3 #[.int .i64 0] ∧ Below w.heap.size w (splitW w s) ∧ (splitW w s).heap.size = w.heap.size + 3 := by
  unfold splitW
  refine ⟨((Blk.new _ _ _).alloc _).alloc _, ?_, ?_, (((Below.refl _ w).alloc (Nat.le_refl _) _).alloc (by simp) _).alloc (by simp; omega) _, by simp⟩
  · have := Blk.new (w.alloc (.cells #[.string s] 9)) 9 #[.string ⟨#[47]⟩]
    rw [World.size_alloc] at this
    exact this.alloc _
  · have := Blk.new ((w.alloc (.cells #[.string s] 9)).alloc (.cells #[.string ⟨#[47]⟩] 9)) 3 #[.int .i64 0]
    rwa [World.size_alloc, World.size_alloc] at this
theorem split_any (s : ByteArray) (w : World) : Calls Tryz.prog 65 #[.string s, .string ⟨#[47]⟩] w fun e w' =>
    e = .returned (.func (.func 121) #[] #[.pointer (some ⟨w.heap.size + 1, 0, none⟩), .pointer (some ⟨w.heap.size, 0, none⟩), .pointer (some ⟨w.heap.size + 2, 0, none⟩)]) ∧ w' = splitW w s := by
  unfold splitW
  go_enter Tryz.func65, Tryz.ntmps65
  go_wp2
  go_ret
  exact ⟨rfl, rfl⟩
end Go.Proofs.YtibndaianhlcaaaGreatDoor
namespace Go.Proofs.YtibndaianhlcaaaGreatDoor
open Go.RowKit Go.ChangeShapes Go.WideShapes Go.Deep
set_option linter.unusedVariables false

theorem flatMap_get {α : Type} (g : α → List Value) (sz : Nat) : ∀ (l : List α), (∀ x ∈ l, (g x).length = sz) → ∀ (i j : Nat) (hi : i < l.length), j < sz → (l.flatMap g)[i * sz + j]? = (g l[i])[j]? := by
  intro l
  induction l with
  | nil => intro _ i j hi; simp at hi
  | cons x l ih =>
    intro hg i j hi hj
    have hx := hg x List.mem_cons_self
    cases i with
    | zero =>
      simp only [List.flatMap_cons, Nat.zero_mul, Nat.zero_add, List.getElem_cons_zero]
      rw [List.getElem?_append_left (by omega)]
    | succ i =>
      simp only [List.flatMap_cons, List.getElem_cons_succ]
      rw [Nat.succ_mul, List.getElem?_append_right (by omega)]
      have := ih (fun y hy => hg y (List.mem_cons_of_mem _ hy)) i j (by simpa using hi) hj
      rw [← this]
      congr 1
      omega
theorem flatMap_len {α : Type} (g : α → List Value) (sz : Nat) : ∀ (l : List α), (∀ x ∈ l, (g x).length = sz) → (l.flatMap g).length = l.length * sz := by
  intro l
  induction l with
  | nil => intro _; simp
  | cons x l ih =>
    intro hg
    rw [List.flatMap_cons, List.length_append, hg x List.mem_cons_self, ih (fun y hy => hg y (List.mem_cons_of_mem _ hy)), List.length_cons, Nat.succ_mul, Nat.add_comm]

/-- Cells element by element make a slice that reads as a list. -/
theorem slc_of_elems {α : Type} {w : World} {B sz : Nat} {b off n c : Nat} (g : α → List Value) (l : List α) (hg : ∀ x ∈ l, (g x).length = sz) (hl : l.length = n) (hnc : n ≤ c) (hc : c ≤ maxLen) (hb : b < B)
    (hcell : ∀ i (hi : i < l.length), ∀ j u, (g l[i])[j]? = some u → w.cell? ⟨b, off + (i * sz + j), none⟩ = some u) : Slc w B sz (some ⟨b, off, none⟩) n c (l.flatMap g) := by
  refine ⟨by rw [flatMap_len g sz l hg, hl], hnc, hc, fun _ => ⟨b, off, rfl, hb, fun q u hu => ?_⟩⟩
  have hq : q < l.length * sz := by
    rcases Nat.lt_or_ge q (l.length * sz) with h | h
    · exact h
    · rw [List.getElem?_eq_none (by rw [flatMap_len g sz l hg]; exact h)] at hu; cases hu
  have hsz : 0 < sz := by
    rcases Nat.eq_zero_or_pos sz with h | h
    · subst h; simp at hq
    · exact h
  have hi : q / sz < l.length := (Nat.div_lt_iff_lt_mul hsz).2 hq
  have hqe : q = q / sz * sz + q % sz := by rw [Nat.mul_comm]; exact (Nat.div_add_mod q sz).symm
  rw [hqe] at hu ⊢
  rw [flatMap_get g sz l hg _ _ hi (Nat.mod_lt _ hsz)] at hu
  exact hcell _ hi _ _ hu

section
variable {H : Type} {enc : TypeId × Value → H} {P : Program} {w : World} {base : Nat} {spare : Nat → Bool} {held : Bool}
/-- A slice of structs of one-cell fields, opened. -/
theorem open_slice_fields {t e : TypeId} {fs : Array Field} {fuel : Nat} {cs : List Value} {x : DataW H × List MemPlace} (ht : P.underlying t = some (.slice e)) (he : P.underlying e = some (.struct fs))
    (hone : oneCellFields P fs = true) (hC : P.cellsOf e = fs.size) (h : DataW.trod enc P w base spare held fuel t cs = some x) :
    (cs = [.slice none 0 0] ∧ x = (.nil, [])) ∨
    ∃ (a : Addr) (len cap m : Nat) (D : Nat → DataW H) (Pl : Nat → List MemPlace), cs = [.slice (some a) len cap] ∧ base ≤ a.block ∧ len ≤ cap ∧ cap ≤ maxLen ∧ m = (if spare a.block then cap else len) ∧
      x = (.slice ((List.range len).map D) ((List.range (m - len)).map fun j => D (len + j)), MemPlace.row a (m * fs.size) ++ (List.range m).flatMap Pl) ∧
      ∀ i, i < m → ∃ (ys : List (DataW H × List MemPlace)) (n : Nat), D i = .agg (ys.map (·.1)) ∧ Pl i = ys.flatMap (·.2) ∧ ys.length = fs.size ∧
        ∀ (j : Nat) (f : Field), fs[j]? = some f → ∃ (v : Value) (y : DataW H × List MemPlace), w.cell? (a.add (i * fs.size + j)) = some v ∧ ys[j]? = some y ∧ DataW.trod enc P w base spare held n f.type [v] = some y := by
  rcases open_slice ht h with h0 | ⟨a, len, cap, m, n, D, Pl, hcs, hb, hl, hm, hmm, hx, hi⟩
  · exact .inl h0
  · refine .inr ⟨a, len, cap, m, D, Pl, hcs, hb, hl, hm, hmm, by rw [hC] at hx; exact hx, fun i him => ?_⟩
    obtain ⟨cs', hc, ht'⟩ := hi i him
    rw [hC] at hc
    obtain ⟨ys, n', hn', hy, hlen, hyl, hf⟩ := DataW.trod_struct he ht'
    obtain ⟨_, hcl, hat⟩ := World.cells?_some hc
    simp only [Prod.mk.injEq] at hy
    refine ⟨ys, n', hy.1, hy.2, hyl, fun j f hj => ?_⟩
    obtain ⟨ho, hk⟩ := hone_of hone j f hj
    have hjl : j < fs.size := (Array.getElem?_eq_some_iff.1 hj).1
    have hcell := hat j hjl
    have hv : cs'[j]? = some (cs'[j]'(by omega)) := List.getElem?_eq_getElem (by omega)
    have h1 := hf j f hj
    rw [ho, hk] at h1
    have hone' : (cs'.drop j).take 1 = [cs'[j]'(by omega)] := by
      rw [List.drop_eq_getElem_cons (by omega)]
      rfl
    rw [hone'] at h1
    have hys : ys[j]? = some (ys[j]'(by omega)) := List.getElem?_eq_getElem (by omega)
    refine ⟨_, _, ?_, hys, h1.trans hys⟩
    rw [← Go.Deep.add_add, hcell, hv]
end

theorem weights_all {H : Type} {P : Program} {e : TypeId} : ∀ {ds : List (DataW H)} {d : DataW H}, d ∈ ds → ∀ n ∈ d.weights P e, n ∈ DataW.weightsAll P e ds := by
  intro ds
  induction ds with
  | nil => intro d h; cases h
  | cons x ds ih =>
    intro d h n hn
    simp only [DataW.weightsAll, List.mem_append]
    rcases List.mem_cons.1 h with rfl | h
    · exact .inl hn
    · exact .inr (ih h n hn)
/-- What a field within an element of a slice weighs. -/
theorem weights_field {H : Type} {P : Program} {t e ft : TypeId} {fs : Array Field} (ht : P.underlying t = some (.slice e)) (he : P.underlying e = some (.struct fs)) {elems spare parts : List (DataW H)} {d : DataW H} {j : Nat}
    (hm : .agg parts ∈ elems) (hj : parts[j]? = some d) (hf : (fs.toList.map (·.type))[j]? = some ft) : ∀ n ∈ d.weights P ft, n ∈ (DataW.slice elems spare).weights P t := by
  intro n hn
  simp only [DataW.weights, ht, List.mem_cons, List.mem_append]
  refine .inr (.inl (weights_all hm n ?_))
  simp only [DataW.weights, he]
  exact DataW.weights_mem_each hf hj n hn
theorem weights_le {H : Type} {P : Program} {ts : List TypeId} {ds : List (DataW H)} (h : (DataW.weightsEach P ts ds).all (· ≤ reachBytes) = true) {j : Nat} {t : TypeId} {d : DataW H} (ht : ts[j]? = some t) (hd : ds[j]? = some d) : ∀ n ∈ d.weights P t, n ≤ 140737488351232 := by
  intro n hn
  have := List.all_eq_true.1 h n (DataW.weights_mem_each ht hd n hn)
  have e : reachBytes = 140737488351232 := rfl
  rw [e] at this
  simpa using this
end Go.Proofs.YtibndaianhlcaaaGreatDoor
namespace Go.Proofs.YtibndaianhlcaaaGreatDoor
open Go.RowKit Go.ChangeShapes Go.WideShapes
open Go.ChangeMaps (open_string)
set_option linter.unusedVariables false

theorem reach_eq : reachBytes = 140737488351232 := rfl

theorem u64_of_wf {x : Int} (h : (Lit.int .u64 x).wf = true) : ∃ s : UInt64, x = (s.toNat : Int) := by
  have h1 : 0 ≤ x ∧ x ≤ 18446744073709551615 := by simpa [Lit.wf, IntKind.min, IntKind.max, IntKind.signed, IntKind.bits] using h
  have hx : x.toNat < 2 ^ 64 := by omega
  refine ⟨UInt64.ofNat x.toNat, ?_⟩
  rw [UInt64.toNat_ofNat_of_lt' hx]
  omega

theorem byte_wf {x : Int} (h : (Lit.int .u8 x).wf = true) : 0 ≤ x ∧ x < 256 := by
  have h1 : 0 ≤ x ∧ x ≤ 255 := by simpa [Lit.wf, IntKind.min, IntKind.max, IntKind.signed, IntKind.bits] using h
  omega

set_option maxRecDepth 100000 in
/-- An argument of type []byte, opened. -/
theorem open_bytes {H : Type} {enc : TypeId × Value → H} {W : World} {base : Nat} {v : Value} {d : DataW H} {p : List MemPlace}
    (o : Value.okWide Tryz.prog W .any base 33 v) (k : DataW.Trod enc Tryz.prog W 0 (fun _ => true) true 33 v d p) :
    ∃ A n c, ∃ l : List UInt8, v = .slice A n c ∧ Slc W W.heap.size 1 A n c (l.map bv) ∧ (n = 0 ∨ ∃ elems spare, d = .slice elems spare ∧ n ≤ elems.length + spare.length) := by
  obtain ⟨a0, len, cap, rfl⟩ := okWide_slice Tryz.underlying33 o
  obtain ⟨fuel, hf⟩ := k
  rcases open_ints Tryz.underlying33 Tryz.underlying5 (by kernel_rfl) hf with ⟨hcs, _⟩ | ⟨x, l, c, zs, hcs, _, hl, hm, hz, hx, hcell, hwz⟩
  · simp [Value.cells] at hcs
    obtain ⟨rfl, rfl, rfl⟩ := hcs
    exact ⟨none, 0, 0, [], rfl, ⟨rfl, Nat.le_refl _, Nat.zero_le _, fun h => absurd h (by decide)⟩, .inl rfl⟩
  · simp [Value.cells] at hcs
    obtain ⟨rfl, rfl, rfl⟩ := hcs
    simp only [if_true] at hz
    have hcast : ∀ i (hi : i < zs.length), ((UInt8.ofNat zs[i].toNat).toNat : Int) = zs[i] := fun i hi => by
      have := byte_wf (hwz zs[i] (List.getElem_mem hi))
      rw [UInt8.toNat_ofNat_of_lt' (show zs[i].toNat < 2 ^ 8 by omega)]
      omega
    refine ⟨some x, len, cap, (zs.take len).map fun z => UInt8.ofNat z.toNat, rfl, ⟨by simp; omega, hl, hm, fun h0 => ?_⟩, ?_⟩
    · have h1 := hcell 0 (by omega)
      have hs : x.spot = none := by simpa [Addr.add] using World.cell?_spot h1
      have hblk : x.block < W.heap.size := by have := World.block_lt_of_cell? _ _ h1; simpa [block_add] using this
      obtain ⟨b, off, sp⟩ := x
      simp only at hs hblk
      subst hs
      refine ⟨b, off, rfl, hblk, fun j u hu => ?_⟩
      have hj : j < len := by
        rcases Nat.lt_or_ge j len with h | h
        · exact h
        · rw [List.getElem?_eq_none (by simp; omega)] at hu; cases hu
      have hjz : j < zs.length := by omega
      have h2 := hcell j hjz
      rw [addr_of_add] at h2
      rw [h2]
      simp only [List.map_map, List.getElem?_map, List.getElem?_take, hj, if_true, List.getElem?_eq_getElem hjz, Option.map_some, Option.some.injEq] at hu
      subst hu
      simp only [Function.comp, bv, hcast j hjz, List.getD, List.getElem?_eq_getElem hjz, Option.getD_some]
    · refine .inr ?_
      have hd := congrArg Prod.fst hx
      simp only at hd
      refine ⟨_, _, hd, ?_⟩
      simp [lits]
      omega

/-- A cell that reads as a []byte, opened. -/
theorem open_bytes_cells {H : Type} {enc : TypeId × Value → H} {W : World} {v : Value} {y : DataW H × List MemPlace}
    (k : ∃ n, DataW.trod enc Tryz.prog W 0 (fun _ => true) true n 33 [v] = some y) :
    ∃ A n c, ∃ l : List UInt8, v = .slice A n c ∧ Slc W W.heap.size 1 A n c (l.map bv) ∧ (n = 0 ∨ ∃ elems spare, y.1 = .slice elems spare ∧ n ≤ elems.length + spare.length) := by
  obtain ⟨fuel, hf⟩ := k
  rcases open_ints Tryz.underlying33 Tryz.underlying5 (by kernel_rfl) hf with ⟨hcs, _⟩ | ⟨x, len, cap, zs, hcs, _, hl, hm, hz, hx, hcell, hwz⟩
  · injection hcs with hcs
    subst hcs
    exact ⟨none, 0, 0, [], rfl, ⟨rfl, Nat.le_refl _, Nat.zero_le _, fun h => absurd h (by decide)⟩, .inl rfl⟩
  · injection hcs with hcs
    subst hcs
    simp only [if_true] at hz
    have hcast : ∀ i (hi : i < zs.length), ((UInt8.ofNat zs[i].toNat).toNat : Int) = zs[i] := fun i hi => by
      have := byte_wf (hwz zs[i] (List.getElem_mem hi))
      rw [UInt8.toNat_ofNat_of_lt' (show zs[i].toNat < 2 ^ 8 by omega)]
      omega
    refine ⟨some x, len, cap, (zs.take len).map fun z => UInt8.ofNat z.toNat, rfl, ⟨by simp; omega, hl, hm, fun h0 => ?_⟩, ?_⟩
    · have h1 := hcell 0 (by omega)
      have hs : x.spot = none := by simpa [Addr.add] using World.cell?_spot h1
      have hblk : x.block < W.heap.size := by have := World.block_lt_of_cell? _ _ h1; simpa [block_add] using this
      obtain ⟨b, off, sp⟩ := x
      simp only at hs hblk
      subst hs
      refine ⟨b, off, rfl, hblk, fun j u hu => ?_⟩
      have hj : j < len := by
        rcases Nat.lt_or_ge j len with h | h
        · exact h
        · rw [List.getElem?_eq_none (by simp; omega)] at hu; cases hu
      have hjz : j < zs.length := by omega
      have h2 := hcell j hjz
      rw [addr_of_add] at h2
      rw [h2]
      simp only [List.map_map, List.getElem?_map, List.getElem?_take, hj, if_true, List.getElem?_eq_getElem hjz, Option.map_some, Option.some.injEq] at hu
      subst hu
      simp only [Function.comp, bv, hcast j hjz, List.getD, List.getElem?_eq_getElem hjz, Option.getD_some]
    · refine .inr ?_
      have hd := congrArg Prod.fst hx
      simp only at hd
      refine ⟨_, _, hd, ?_⟩
      simp [lits]
      omega

theorem bytes_size : Tryz.prog.bytesOf 5 = 1 := by kernel_rfl


theorem int_wf {x : Int} (h : (Lit.int .i64 x).wf = true) : -9223372036854775808 ≤ x ∧ x ≤ 9223372036854775807 := by
  simpa [Lit.wf, IntKind.min, IntKind.max, IntKind.signed, IntKind.bits] using h
theorem u8_of_wf {x : Int} (h : (Lit.int .u8 x).wf = true) : ∃ c : UInt8, x = (c.toNat : Int) := by
  have := byte_wf h
  exact ⟨UInt8.ofNat x.toNat, by rw [UInt8.toNat_ofNat_of_lt' (show x.toNat < 2 ^ 8 by omega)]; omega⟩
end Go.Proofs.YtibndaianhlcaaaGreatDoor
namespace Go.Proofs.YtibndaianhlcaaaGreatDoor
open Go.RowKit Go.Sort
set_option linter.unusedVariables false
set_option linter.unusedSimpArgs false

/-- An entry as memory has it: its text, its number, its bytes and where they lie. -/
structure EV where
  path : Txt
  kind : Int
  data : Txt
  A : Option Addr
  n : Nat
  c : Nat
def EV.ent (e : EV) : Ent := ⟨e.path, e.kind, e.data⟩
def evCells (e : EV) : List Value := [.string ⟨e.path.toArray⟩, .int .i64 e.kind, .slice e.A e.n e.c]
theorem evCells_length (e : EV) : (evCells e).length = 3 := rfl

/-- A list of entries in memory, below block B. -/
structure EntsAt (w : World) (B : Nat) (A : Option Addr) (n c : Nat) (es : List EV) : Prop where
  slc : Slc w B 3 A n c (es.flatMap evCells)
  len : es.length = n
  data : ∀ e ∈ es, Slc w B 1 e.A e.n e.c (e.data.map bv)
theorem EntsAt.below {w w' : World} {B : Nat} {A : Option Addr} {n c : Nat} {es : List EV} (h : EntsAt w B A n c es) (hb : Below B w w') : EntsAt w' B A n c es :=
  ⟨h.slc.below hb, h.len, fun e he => (h.data e he).below hb⟩
/-- An entry's cells, for a walk. -/
theorem EntsAt.at_ {w : World} {B : Nat} {A : Option Addr} {n c : Nat} {es : List EV} (h : EntsAt w B A n c es) {k : Nat} (hk : k < n) :
    ∃ b off, A = some ⟨b, off, none⟩ ∧ b < B ∧ ∃ hl : k < es.length, w.cell? ⟨b, off + k * 3, none⟩ = some (.string ⟨es[k].path.toArray⟩) ∧ w.cell? ⟨b, off + k * 3 + 1, none⟩ = some (.int .i64 es[k].kind) ∧
      w.cell? ⟨b, off + k * 3 + 2, none⟩ = some (.slice es[k].A es[k].n es[k].c) ∧ Slc w B 1 es[k].A es[k].n es[k].c (es[k].data.map bv) := by
  obtain ⟨b, off, e, hb, hc⟩ := h.slc.at_ (by omega)
  have hl : k < es.length := by rw [h.len]; exact hk
  have g : ∀ j u, j < 3 → (evCells es[k])[j]? = some u → w.cell? ⟨b, off + k * 3 + j, none⟩ = some u := fun j u hj hu => by
    have := hc (k * 3 + j) u (by rw [flatMap_get evCells 3 es (fun o _ => evCells_length o) k j hl hj]; exact hu)
    rwa [← Nat.add_assoc] at this
  exact ⟨b, off, e, hb, hl, g 0 _ (by decide) rfl, g 1 _ (by decide) rfl, g 2 _ (by decide) rfl, h.data _ (List.getElem_mem hl)⟩

theorem str_info : (Tryz.prog.info? 9).map (fun i => (i.zero, i.size, i.bytes)) = some (some (.string .empty), 1, 16) := by kernel_rfl
/-- append of a text onto a row of the call's own. -/
theorem append_str (w : World) (base : Nat) (v : Value) (n : Nat) (l : List Txt) (hown : w.ownsRow base 9 1 v n (l.map encStr)) (x : Txt) (hb : n ≤ 1000000000) (hbase : base ≤ w.heap.size) :
    ∃ A' c' w', (Builtin.append_ #[23, 23] 23 #[v, .slice (some ⟨w.heap.size, 0, none⟩) 1 1]).run Tryz.prog (w.alloc (.cells #[.string ⟨x.toArray⟩] 9)) = .ok (.slice A' (n + 1) c') w' ∧ w'.ownsRow base 9 1 (.slice A' (n + 1) c') (n + 1) ((l ++ [x]).map encStr) ∧ (w.alloc (.cells #[.string ⟨x.toArray⟩] 9)).grownBy w' v.ownBlock ∧
      ((Value.slice A' (n + 1) c').ownBlock = v.ownBlock ∨ (Value.slice A' (n + 1) c').ownBlock = some (w.heap.size + 1)) := by
  obtain ⟨i, hi, hz0, hz1, hz2⟩ := info_parts str_info
  have hS := slc_new w 9 (0, 0) #[.string ⟨x.toArray⟩] (sz := 1) (n := 1) (c := 1) rfl (Nat.le_refl _) (by decide)
  obtain ⟨A', c', w', h1, h2, h3, h4⟩ := append_slc (P := Tryz.prog) (w.alloc (.cells #[.string ⟨x.toArray⟩] 9)) base 23 23 _ i _ 1 16 Tryz.underlying23 hi hz0 hz1 hz2 rfl (by decide) v n (l.map encStr) (hown.alloc _) _ _ 1 1 [.string ⟨x.toArray⟩] hS (fun u hu => by rw [List.mem_singleton.1 hu]; rfl) (by unfold maxLen; omega) (by omega) (by simp; omega)
  exact ⟨A', c', w', h1, by rw [List.map_append]; exact h2, h3, by rwa [World.size_alloc] at h4⟩

end Go.Proofs.YtibndaianhlcaaaGreatDoor
namespace Go.Proofs.YtibndaianhlcaaaGreatDoor
open Go.RowKit
set_option linter.unusedVariables false
set_option linter.unusedSimpArgs false

theorem ext_list (l : List UInt8) (a b : Nat) : (ByteArray.mk l.toArray).extract a b = ⟨((l.drop a).take (b - a)).toArray⟩ := by
  apply Go.WideShapes.bytes_inj
  simp [List.extract_eq_take_drop]
theorem pre7 (l : List UInt8) : Lib.hasPrefix l slash7 = decide (l.take 7 = slash7) := by
  unfold Lib.hasPrefix slash7
  rw [Bool.eq_iff_iff]
  simp only [List.isPrefixOf_iff_prefix, decide_eq_true_eq]
  rw [List.prefix_iff_eq_take]
  exact ⟨fun h => h.symm, fun h => h.symm⟩
theorem headB_false_pre {l : List UInt8} (h : l.take 7 ≠ slash7) : refP l = [] := by unfold refP; rw [if_neg]; rintro ⟨h1, _⟩; exact h ((headB_iff l).1 h1).1
theorem headB_false_dig {l : List UInt8} (h : (parsed ((l.drop 7).take 16)).isSome = false) : refP l = [] := by unfold refP; rw [if_neg]; rintro ⟨h1, _⟩; rw [((headB_iff l).1 h1).2.2.1] at h; cases h
theorem headB_false_dash {l : List UInt8} (h : l[23]? ≠ some 45) : refP l = [] := by unfold refP; rw [if_neg]; rintro ⟨h1, _⟩; exact h ((headB_iff l).1 h1).2.2.2

/-- n letters stand behind a store path's head. -/
def lettersTo (l : List UInt8) (n : Nat) : Prop := n ≤ 19 ∧ 24 + n ≤ l.length ∧ ((l.drop 24).take n).all letterB = true
theorem lettersTo_end {l : List UInt8} {n : Nat} (hh : headB l = true) (h : lettersTo l n) (he : n = 19 ∨ 24 + n = l.length ∨ ∃ hk : 24 + n < l.length, letterB l[24 + n] = false) : refP l = if n = 0 then [] else l.take (24 + n) := by
  have hn : tailN l = n := by
    unfold tailN
    have h1 := all_takeWhile letterB (l.drop 24) n (by rw [List.length_drop]; have := h.2.1; omega) h.2.2
    rcases he with he | he | ⟨hk, he⟩
    · have := h.1; omega
    · have h2 := (List.takeWhile_sublist letterB (l := l.drop 24)).length_le
      rw [List.length_drop] at h2
      have := h.1
      omega
    · have h3 : ¬ n + 1 ≤ ((l.drop 24).takeWhile letterB).length := by
        intro h3
        have h4 := takeWhile_all letterB (l.drop 24) (n + 1) h3
        rw [List.take_succ_eq_append_getElem (by rw [List.length_drop]; omega), List.all_append, Bool.and_eq_true] at h4
        have h5 := h4.2
        simp only [List.all_cons, List.all_nil, Bool.and_true, List.getElem_drop] at h5
        rw [he] at h5
        cases h5
      have := h.1
      omega
  unfold refP
  rw [hn]
  by_cases h0 : n = 0
  · subst h0
    rw [if_neg (by omega), if_pos rfl]
  · rw [if_pos ⟨hh, by omega⟩, if_neg h0]
theorem lettersTo_succ {l : List UInt8} {n : Nat} (h : lettersTo l n) (h1 : n < 19) (h2 : 24 + n < l.length) (h3 : letterB l[24 + n] = true) : lettersTo l (n + 1) := by
  refine ⟨by omega, by omega, ?_⟩
  rw [List.take_succ_eq_append_getElem (by rw [List.length_drop]; omega), List.all_append, h.2.2]
  simp [List.getElem_drop, h3]

end Go.Proofs.YtibndaianhlcaaaGreatDoor
namespace Go.Proofs.YtibndaianhlcaaaGreatDoor
open Go.RowKit Go.Sort
set_option linter.unusedVariables false
set_option linter.unusedSimpArgs false

theorem own_below {w w' : World} {base : Nat} {e : TypeId} {size : Nat} {v : Value} {n : Nat} {xs : List Value} (h : w.ownsRow base e size v n xs) (hb : Below w.heap.size w w') : w'.ownsRow base e size v n xs := by
  refine h.kept (row := none) ⟨hb.os, hb.tape, hb.output, hb.size, fun k hk _ => hb.block k hk⟩ ?_
  cases v.ownBlock with
  | none => exact .inl rfl
  | some g => exact .inr (fun e => by cases e)

theorem refsTo_le_one (d : Txt) (j : Nat) (hj : j ≤ d.length) : (refsTo d j).length ≤ (refsOne d).length := by
  unfold refsOne
  obtain ⟨m, hm⟩ : ∃ m, d.length = j + m := ⟨d.length - j, by omega⟩
  rw [hm]
  clear hm hj
  induction m with
  | zero => exact Nat.le_refl _
  | succ m ih => rw [← Nat.add_assoc, refsTo_succ, List.length_append]; omega
theorem refsAll_le (ds : List Txt) (k : Nat) : (refsAll (ds.take k)).length ≤ (refsAll ds).length := by
  have : refsAll ds = refsAll (ds.take k) ++ refsAll (ds.drop k) := by
    unfold refsAll
    rw [← List.flatMap_append, List.take_append_drop]
  rw [this, List.length_append]
  omega

end Go.Proofs.YtibndaianhlcaaaGreatDoor
