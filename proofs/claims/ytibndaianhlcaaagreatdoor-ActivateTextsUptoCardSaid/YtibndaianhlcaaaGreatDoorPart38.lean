/- Arguments that are lists, opened element by element, where they are of bulk at most 1048576. Arguments that are lists of steps, opened. A system that came in, opened, where it is of bulk at most 1048576. ActivateTexts: the arguments opened, where they are of bulk at most 1048576; how long a script they have. -/
import Derived.Test.YtibndaianhlcaaaGreatDoorPart8
import Derived.Test.YtibndaianhlcaaaGreatDoorPart37
import Derived.Test.YtibndaianhlcaaaGreatDoorPart11
import Derived.Test.YtibndaianhlcaaaGreatDoorPart24
import Derived.Test.YtibndaianhlcaaaGreatDoorPart22
namespace Go.Proofs.YtibndaianhlcaaaGreatDoor
open Go.RowKit Go.ChangeShapes Go.WideShapes Go.Deep
open Go.ChangeMaps (open_string)
set_option linter.unusedVariables false
set_option linter.unusedSimpArgs false

section
variable {H : Type} {enc : TypeId × Value → H} {W : World}
/-- A value of type e lies in cells as g says of one that is Q. -/
def Elem (enc : TypeId × Value → H) (W : World) (e : TypeId) {α : Type} (g : α → List Value) (Q : α → Prop) : Prop :=
  ∀ (fuel : Nat) (cs : List Value) (y : DataW H × List MemPlace), DataW.trod enc Tryz.prog W 0 (fun _ => true) true fuel e cs = some y → Rows.uptoBulk y.1 ≤ 1048576 → ∃ x, cs = g x ∧ Q x
theorem open_list {α : Type} [Inhabited α] {t e : TypeId} {sz : Nat} {g : α → List Value} {Q : α → Prop} (ht : Tryz.prog.underlying t = some (.slice e)) (hC : Tryz.prog.cellsOf e = sz) (hpos : 0 < sz) (hg : ∀ x, (g x).length = sz) (hel : Elem enc W e g Q)
    {fuel : Nat} {cs : List Value} {y : DataW H × List MemPlace} (k : DataW.trod enc Tryz.prog W 0 (fun _ => true) true fuel t cs = some y) (hbk : Rows.uptoBulk y.1 ≤ 1048576) :
    ∃ A n c, ∃ l : List α, cs = [.slice A n c] ∧ Slc W W.heap.size sz A n c (l.flatMap g) ∧ l.length = n ∧ (∀ x ∈ l, Q x) ∧ n ≤ 1048576 := by
  rcases open_slice ht k with ⟨hcs, hx⟩ | ⟨x, len, cap, m, n, D, Pl, hcs, _, hl, hm, hmm, hx, hi⟩
  · exact ⟨none, 0, 0, [], hcs, ⟨by simp, Nat.le_refl _, Nat.zero_le _, fun h => absurd h (by decide)⟩, rfl, (fun _ h => by cases h), Nat.zero_le _⟩
  · subst hcs
    simp only [if_true] at hmm
    subst hmm
    have hb1 : Rows.uptoBulkAll ((List.range len).map D) ≤ 1048576 := by
      rw [hx] at hbk
      have := Bulk.slice_elems ((List.range len).map D) ((List.range (m - len)).map fun j => D (len + j))
      simp only at hbk
      omega
    have hlen : len ≤ 1048576 := by
      have := Bulk.length_le ((List.range len).map D)
      simp at this
      omega
    have key : ∀ i, ∃ o : α, i < len → (∀ j u, (g o)[j]? = some u → W.cell? (x.add (i * sz + j)) = some u) ∧ Q o := by
      intro i
      by_cases hi' : i < len
      · obtain ⟨cs', hc, ht'⟩ := hi i (by omega)
        rw [hC] at hc
        obtain ⟨_, hcl, hat⟩ := World.cells?_some hc
        have hm2 : D i ∈ (List.range len).map D := List.mem_map.2 ⟨i, List.mem_range.2 hi', rfl⟩
        have q2 := Bulk.part_le hm2
        obtain ⟨o, ho, hq⟩ := hel n cs' (D i, Pl i) ht' (by show Rows.uptoBulk (D i) ≤ 1048576; omega)
        refine ⟨o, fun _ => ⟨fun j u hu => ?_, hq⟩⟩
        have hj : j < sz := by
          rcases Nat.lt_or_ge j sz with h | h
          · exact h
          · rw [List.getElem?_eq_none (by rw [hg]; exact h)] at hu; cases hu
        have h1 := hat j hj
        rw [ho, hu] at h1
        rw [← Go.Deep.add_add]
        exact h1
      · exact ⟨default, fun h => absurd h hi'⟩
    obtain ⟨f, hf⟩ := Classical.axiomOfChoice key
    refine ⟨some x, len, _, (List.range len).map f, rfl, ?_, by simp, fun o ho => ?_, hlen⟩
    · rcases Nat.eq_zero_or_pos len with h0 | h0
      · subst h0
        exact ⟨by simp, hl, hm, fun h => absurd h (by decide)⟩
      · have hg0 : ∃ u, (g (f 0))[0]? = some u := ⟨_, List.getElem?_eq_getElem (by rw [hg]; exact hpos)⟩
        obtain ⟨u0, hu0⟩ := hg0
        have h1 := (hf 0 h0).1 0 _ hu0
        have hs : x.spot = none := by simpa [Addr.add] using World.cell?_spot h1
        have hblk : x.block < W.heap.size := by have := World.block_lt_of_cell? _ _ h1; simpa [block_add] using this
        obtain ⟨b, off, sp⟩ := x
        simp only at hs hblk
        subst hs
        refine slc_of_elems g _ (fun o _ => hg o) (by simp) hl hm hblk (fun i hi j u hu => ?_)
        have hi' : i < len := by simpa using hi
        have := (hf i hi').1 j u (by simpa using hu)
        rwa [addr_of_add] at this
    · obtain ⟨i, hi, rfl⟩ := List.mem_map.1 ho
      exact (hf i (List.mem_range.1 hi)).2
theorem elem_bool : Elem enc W 4 (fun b : Bool => [bl b]) (fun _ => True) := fun fuel cs y h _ => by
  obtain ⟨b, h1, _⟩ := DataW.trod_bool Tryz.underlying4 h
  exact ⟨b, h1, trivial⟩
theorem elem_int : Elem enc W 3 (fun x : Int => [.int .i64 x]) (fun x => -9223372036854775808 ≤ x ∧ x ≤ 9223372036854775807) := fun fuel cs y h _ => by
  obtain ⟨b, h1, _, hw⟩ := DataW.trod_int Tryz.underlying3 h
  exact ⟨b, h1, int_wf hw⟩
theorem elem_txt : Elem enc W 9 (fun s : Txt => [encStr s]) (fun s => s.length ≤ 1048576) := fun fuel cs y h hb => by
  obtain ⟨s, h1, hy, _⟩ := DataW.trod_string Tryz.underlying9 h
  rw [hy, Bulk.string_eq] at hb
  refine ⟨s.data.toList, h1, ?_⟩
  omega
theorem map_flat {α : Type} (f : α → Value) (l : List α) : l.flatMap (fun x => [f x]) = l.map f := by
  induction l with
  | nil => rfl
  | cons a l ih => rw [List.flatMap_cons, ih]; rfl
/-- Parts of a struct. -/
theorem agg_part {xs : List (DataW H × List MemPlace)} {y : DataW H × List MemPlace} (hy : y = (.agg (xs.map (·.1)), xs.flatMap (·.2))) (hb : Rows.uptoBulk y.1 ≤ 1048576) {i : Nat} {z : DataW H × List MemPlace} (hz : xs[i]? = some z) : Rows.uptoBulk z.1 ≤ 1048576 := by
  subst hy
  have h1 := Bulk.part_le (List.mem_map.2 ⟨z, List.mem_of_getElem? hz, rfl⟩ : z.1 ∈ xs.map (·.1))
  have h2 := Bulk.agg (xs.map (·.1))
  simp only at hb
  omega
theorem cells_parts4 {cs : List Value} {a b c d : Value} (hl : cs.length = 4) (h0 : (cs.drop 0).take 1 = [a]) (h1 : (cs.drop 1).take 1 = [b]) (h2 : (cs.drop 2).take 1 = [c]) (h3 : (cs.drop 3).take 1 = [d]) : cs = [a, b, c, d] := by
  match cs, hl with
  | [x, y, z, t], _ => simp at h0 h1 h2 h3; subst h0 h1 h2 h3; rfl
theorem cells_parts3 {cs : List Value} {a b c : Value} (hl : cs.length = 3) (h0 : (cs.drop 0).take 1 = [a]) (h1 : (cs.drop 1).take 1 = [b]) (h2 : (cs.drop 2).take 1 = [c]) : cs = [a, b, c] := by
  match cs, hl with
  | [x, y, z], _ => simp at h0 h1 h2; subst h0 h1 h2; rfl
instance : Inhabited SV := ⟨⟨[], [], [], none, 0, 0, [], none, 0, 0⟩⟩
instance : Inhabited EV := ⟨⟨[], 0, [], none, 0, 0⟩⟩
def unitQ (W : World) (u : SV) : Prop := u.name.length ≤ 1048576 ∧ u.start.length ≤ 1048576 ∧ Slc W W.heap.size 1 u.A u.n u.c (u.req.map encStr) ∧ Slc W W.heap.size 1 u.A2 u.n2 u.c2 (u.aft.map encStr) ∧ (∀ t ∈ u.req ++ u.aft, t.length ≤ 1048576) ∧ u.n ≤ 1048576 ∧ u.n2 ≤ 1048576
theorem cells1_string : Tryz.prog.cellsOf 9 = 1 := by kernel_rfl
theorem cells1_texts : Tryz.prog.cellsOf 23 = 1 := by kernel_rfl
theorem cells1_bytes : Tryz.prog.cellsOf 33 = 1 := by kernel_rfl
theorem cells1_int : Tryz.prog.cellsOf 3 = 1 := by kernel_rfl
theorem cells3_entry : Tryz.prog.cellsOf 35 = 3 := by kernel_rfl
theorem cells4_unit : Tryz.prog.cellsOf 59 = 4 := by kernel_rfl
theorem open_txts {fuel : Nat} {cs : List Value} {y : DataW H × List MemPlace} (k : DataW.trod enc Tryz.prog W 0 (fun _ => true) true fuel 23 cs = some y) (hb : Rows.uptoBulk y.1 ≤ 1048576) :
    ∃ A n c, ∃ l : List Txt, cs = [.slice A n c] ∧ Slc W W.heap.size 1 A n c (l.map encStr) ∧ (∀ s ∈ l, s.length ≤ 1048576) ∧ n ≤ 1048576 := by
  obtain ⟨A, n, c, l, h1, h2, _, h4, h5⟩ := open_list (α := Txt) Tryz.underlying23 cells1_string (by decide) (fun _ => rfl) elem_txt k hb
  exact ⟨A, n, c, l, h1, by rwa [map_flat] at h2, h4, h5⟩
set_option maxRecDepth 100000 in
theorem elem_unit : Elem enc W 59 svCells (unitQ W) := fun fuel cs y h hb => by
  obtain ⟨xs, n, _, hy, hl, hxl, hf⟩ := DataW.trod_struct Tryz.underlying59 h
  rw [cells4_unit] at hl
  have f0 : DataW.trod enc Tryz.prog W 0 (fun _ => true) true n 9 ((cs.drop 0).take (Tryz.prog.cellsOf 9)) = xs[0]? := hf 0 _ rfl
  have f1 : DataW.trod enc Tryz.prog W 0 (fun _ => true) true n 9 ((cs.drop 1).take (Tryz.prog.cellsOf 9)) = xs[1]? := hf 1 _ rfl
  have f2 : DataW.trod enc Tryz.prog W 0 (fun _ => true) true n 23 ((cs.drop 2).take (Tryz.prog.cellsOf 23)) = xs[2]? := hf 2 _ rfl
  have f3 : DataW.trod enc Tryz.prog W 0 (fun _ => true) true n 23 ((cs.drop 3).take (Tryz.prog.cellsOf 23)) = xs[3]? := hf 3 _ rfl
  rw [cells1_string] at f0 f1
  rw [cells1_texts] at f2 f3
  have hx4 : xs.length = 4 := hxl
  have e : ∀ i, i < 4 → ∃ z, xs[i]? = some z := fun i hi => ⟨_, List.getElem?_eq_getElem (by omega)⟩
  obtain ⟨z0, e0⟩ := e 0 (by decide)
  obtain ⟨z1, e1⟩ := e 1 (by decide)
  obtain ⟨z2, e2⟩ := e 2 (by decide)
  obtain ⟨z3, e3⟩ := e 3 (by decide)
  obtain ⟨s0, h0, q0⟩ := elem_txt n _ z0 (f0.trans e0) (agg_part hy hb e0)
  obtain ⟨s1, h1, q1⟩ := elem_txt n _ z1 (f1.trans e1) (agg_part hy hb e1)
  obtain ⟨A, m, c, l, h2, S2, q2, m2⟩ := open_txts (f2.trans e2) (agg_part hy hb e2)
  obtain ⟨A', m', c', l', h3, S3, q3, m3⟩ := open_txts (f3.trans e3) (agg_part hy hb e3)
  refine ⟨⟨s0, s1, l, A, m, c, l', A', m', c'⟩, cells_parts4 hl h0 h1 h2 h3, q0, q1, S2, S3, fun t ht => ?_, m2, m3⟩
  rcases List.mem_append.1 ht with h | h
  · exact q2 t h
  · exact q3 t h
def entQ (W : World) (e : EV) : Prop := e.path.length ≤ 1048576 ∧ e.data.length ≤ 1048576 ∧ Slc W W.heap.size 1 e.A e.n e.c (e.data.map bv) ∧ (-9223372036854775808 ≤ e.kind ∧ e.kind ≤ 9223372036854775807)
theorem bytes_le {n : Nat} {d : DataW H} (h : n = 0 ∨ ∃ elems spare, d = .slice elems spare ∧ n ≤ elems.length + spare.length) (hb : Rows.uptoBulk d ≤ 1048576) : n ≤ 1048576 := by
  rcases h with rfl | ⟨elems, spare, rfl, h⟩
  · omega
  · have := Bulk.slice_spare elems spare
    omega
set_option maxRecDepth 100000 in
theorem elem_entry : Elem enc W 35 evCells (entQ W) := fun fuel cs y h hb => by
  obtain ⟨xs, n, _, hy, hl, hxl, hf⟩ := DataW.trod_struct Tryz.underlying35 h
  rw [cells3_entry] at hl
  have f0 : DataW.trod enc Tryz.prog W 0 (fun _ => true) true n 9 ((cs.drop 0).take (Tryz.prog.cellsOf 9)) = xs[0]? := hf 0 _ rfl
  have f1 : DataW.trod enc Tryz.prog W 0 (fun _ => true) true n 3 ((cs.drop 1).take (Tryz.prog.cellsOf 3)) = xs[1]? := hf 1 _ rfl
  have f2 : DataW.trod enc Tryz.prog W 0 (fun _ => true) true n 33 ((cs.drop 2).take (Tryz.prog.cellsOf 33)) = xs[2]? := hf 2 _ rfl
  rw [cells1_string] at f0
  rw [cells1_int] at f1
  rw [cells1_bytes] at f2
  have hx3 : xs.length = 3 := hxl
  have e : ∀ i, i < 3 → ∃ z, xs[i]? = some z := fun i hi => ⟨_, List.getElem?_eq_getElem (by omega)⟩
  obtain ⟨z0, e0⟩ := e 0 (by decide)
  obtain ⟨z1, e1⟩ := e 1 (by decide)
  obtain ⟨z2, e2⟩ := e 2 (by decide)
  obtain ⟨s0, h0, q0⟩ := elem_txt n _ z0 (f0.trans e0) (agg_part hy hb e0)
  obtain ⟨s1, h1, q1⟩ := elem_int n _ z1 (f1.trans e1) (agg_part hy hb e1)
  have hc2 : ∃ v, (cs.drop 2).take 1 = [v] := by
    match cs, hl with
    | [x, y, z], _ => exact ⟨z, rfl⟩
  obtain ⟨v2, hv2⟩ := hc2
  rw [hv2] at f2
  obtain ⟨A, m, c, l, rfl, S2, q2⟩ := open_bytes_cells ⟨n, f2.trans e2⟩
  have hm := bytes_le q2 (agg_part hy hb e2)
  have hlm : l.length = m := by have := S2.len; simpa using this
  exact ⟨⟨s0, s1, l, A, m, c⟩, cells_parts3 hl h0 h1 hv2, q0, by show l.length ≤ _; omega, S2, q1⟩
end
end Go.Proofs.YtibndaianhlcaaaGreatDoor
namespace Go.Proofs.YtibndaianhlcaaaGreatDoor
open Go.RowKit Go.ChangeShapes Go.WideShapes Go.Deep
set_option linter.unusedVariables false
set_option linter.unusedSimpArgs false

section
variable {H : Type} {enc : TypeId × Value → H} {W : World}
instance : Inhabited AV := ⟨⟨0, [], default, default⟩⟩
def actQ (W : World) (a : AV) : Prop := a.name.length ≤ 1048576 ∧ entQ W a.file ∧ unitQ W a.unit
theorem cells9_act : Tryz.prog.cellsOf 61 = 9 := by kernel_rfl
theorem cells_partsA {cs : List Value} {a b : Value} {e : EV} {u : SV} (hl : cs.length = 9) (h0 : (cs.drop 0).take 1 = [a]) (h1 : (cs.drop 1).take 1 = [b]) (h2 : (cs.drop 2).take 3 = evCells e) (h3 : (cs.drop 5).take 4 = svCells u) : cs = a :: b :: (evCells e ++ svCells u) := by
  match cs, hl with
  | [x0, x1, x2, x3, x4, x5, x6, x7, x8], _ => simp at h0 h1 h2 h3; rw [← h2, ← h3, h0, h1]; rfl
set_option maxRecDepth 100000 in
theorem elem_act : Elem enc W 61 avCells (actQ W) := fun fuel cs y h hb => by
  obtain ⟨xs, n, _, hy, hl, hxl, hf⟩ := DataW.trod_struct Tryz.underlying61 h
  rw [cells9_act] at hl
  have f0 : DataW.trod enc Tryz.prog W 0 (fun _ => true) true n 3 ((cs.drop 0).take (Tryz.prog.cellsOf 3)) = xs[0]? := hf 0 _ rfl
  have f1 : DataW.trod enc Tryz.prog W 0 (fun _ => true) true n 9 ((cs.drop 1).take (Tryz.prog.cellsOf 9)) = xs[1]? := hf 1 _ rfl
  have f2 : DataW.trod enc Tryz.prog W 0 (fun _ => true) true n 35 ((cs.drop 2).take (Tryz.prog.cellsOf 35)) = xs[2]? := hf 2 _ rfl
  have f3 : DataW.trod enc Tryz.prog W 0 (fun _ => true) true n 59 ((cs.drop 5).take (Tryz.prog.cellsOf 59)) = xs[3]? := hf 3 _ rfl
  rw [cells1_int] at f0
  rw [cells1_string] at f1
  rw [cells3_entry] at f2
  rw [cells4_unit] at f3
  have hx4 : xs.length = 4 := hxl
  have e : ∀ i, i < 4 → ∃ z, xs[i]? = some z := fun i hi => ⟨_, List.getElem?_eq_getElem (by omega)⟩
  obtain ⟨z0, e0⟩ := e 0 (by decide)
  obtain ⟨z1, e1⟩ := e 1 (by decide)
  obtain ⟨z2, e2⟩ := e 2 (by decide)
  obtain ⟨z3, e3⟩ := e 3 (by decide)
  obtain ⟨s0, h0, q0⟩ := elem_int n _ z0 (f0.trans e0) (agg_part hy hb e0)
  obtain ⟨s1, h1, q1⟩ := elem_txt n _ z1 (f1.trans e1) (agg_part hy hb e1)
  obtain ⟨x2, h2, q2⟩ := elem_entry n _ z2 (f2.trans e2) (agg_part hy hb e2)
  obtain ⟨x3, h3, q3⟩ := elem_unit n _ z3 (f3.trans e3) (agg_part hy hb e3)
  exact ⟨⟨s0, s1, x2, x3⟩, cells_partsA hl h0 h1 h2 h3, q1, q2, q3⟩
theorem actQ.small {a : AV} (h : actQ W a) : SmallA a := by
  obtain ⟨h1, ⟨e1, e2, e3, _⟩, u1, u2, u3, u4, u5, u6, u7⟩ := h
  have hn : a.file.data.length = a.file.n := by have := e3.len; simpa using this
  exact ⟨⟨by omega, by omega, by omega⟩, by omega, by omega, by omega, fun t ht => by
    rcases List.mem_cons.1 ht with h | h
    · rw [h]; omega
    · have := u5 t h; omega⟩
theorem open_acts_cells {fuel : Nat} {cs : List Value} {y : DataW H × List MemPlace} (k : DataW.trod enc Tryz.prog W 0 (fun _ => true) true fuel 40 cs = some y) (hb : Rows.uptoBulk y.1 ≤ 1048576) :
    ∃ A n c, ∃ l : List AV, cs = [.slice A n c] ∧ ActsAt W W.heap.size A n c l ∧ (∀ a ∈ l, SmallA a) ∧ n ≤ 1048576 := by
  obtain ⟨A, n, c, l, h1, h2, h3, h4, h5⟩ := open_list (α := AV) Tryz.underlying40 cells9_act (by decide) avCells_length elem_act k hb
  exact ⟨A, n, c, l, h1, ⟨h2, h3, fun a ha => ⟨(h4 a ha).2.1.2.2.1, (h4 a ha).2.2.2.2.1, (h4 a ha).2.2.2.2.2.1⟩⟩, fun a ha => (h4 a ha).small, h5⟩
set_option maxRecDepth 100000 in
theorem open_acts {base : Nat} {v : Value} {d : DataW H} {p : List MemPlace} (o : Value.okWide Tryz.prog W .any base 40 v) (k : DataW.Trod enc Tryz.prog W 0 (fun _ => true) true 40 v d p) (hb : Rows.uptoBulk d ≤ 1048576) :
    ∃ A n c, ∃ l : List AV, v = .slice A n c ∧ ActsAt W W.heap.size A n c l ∧ (∀ a ∈ l, SmallA a) ∧ n ≤ 1048576 := by
  obtain ⟨a0, len, cap, rfl⟩ := okWide_slice Tryz.underlying40 o
  obtain ⟨fuel, hf⟩ := k
  obtain ⟨A, n, c, l, hcs, r⟩ := open_acts_cells hf hb
  simp [Value.cells] at hcs
  obtain ⟨rfl, rfl, rfl⟩ := hcs
  exact ⟨_, _, _, l, rfl, r⟩
set_option maxRecDepth 100000 in
theorem open_bools {base : Nat} {v : Value} {d : DataW H} {p : List MemPlace} (o : Value.okWide Tryz.prog W .any base 41 v) (k : DataW.Trod enc Tryz.prog W 0 (fun _ => true) true 41 v d p) (hb : Rows.uptoBulk d ≤ 1048576) :
    ∃ A n c, ∃ l : List Bool, v = .slice A n c ∧ Slc W W.heap.size 1 A n c (l.map bl) ∧ n ≤ 1048576 := by
  obtain ⟨a0, len, cap, rfl⟩ := okWide_slice Tryz.underlying41 o
  obtain ⟨fuel, hf⟩ := k
  obtain ⟨A, n, c, l, hcs, h2, h3, h4, h5⟩ := open_list (α := Bool) Tryz.underlying41 (show Tryz.prog.cellsOf 4 = 1 by kernel_rfl) (by decide) (fun _ => rfl) elem_bool hf hb
  simp [Value.cells] at hcs
  obtain ⟨rfl, rfl, rfl⟩ := hcs
  exact ⟨_, _, _, l, rfl, by rwa [map_flat] at h2, h5⟩
end
end Go.Proofs.YtibndaianhlcaaaGreatDoor
namespace Go.Proofs.YtibndaianhlcaaaGreatDoor
open Go.RowKit Go.ChangeShapes Go.WideShapes
set_option linter.unusedVariables false
set_option linter.unusedSimpArgs false

section
variable {H : Type} {enc : TypeId × Value → H} {W : World}
theorem unitQ.small {u : SV} (h : unitQ W u) : SmallU u := ⟨h.1, h.2.1, h.2.2.2.2.1, h.2.2.2.2.2.1, h.2.2.2.2.2.2⟩
theorem open_ents21 {fuel : Nat} {v : Value} {y : DataW H × List MemPlace} (k : DataW.trod enc Tryz.prog W 0 (fun _ => true) true fuel 22 [v] = some y) (hb : Rows.uptoBulk y.1 ≤ 1048576) :
    ∃ A n c, ∃ l : List EV, v = .slice A n c ∧ EntsAt W W.heap.size A n c l ∧ (∀ e ∈ l, e.path.length ≤ 1048576 ∧ e.data.length ≤ 1048576) ∧ n ≤ 1048576 := by
  obtain ⟨A, n, c, l, h1, h2, h3, h4, h5⟩ := open_list (α := EV) Tryz.underlying22 cells3_entry (by decide) evCells_length elem_entry k hb
  injection h1 with h1 _
  exact ⟨A, n, c, l, h1, ⟨h2, h3, fun e he => (h4 e he).2.2.1⟩, fun e he => ⟨(h4 e he).1, (h4 e he).2.1⟩, h5⟩
theorem open_units21 {fuel : Nat} {v : Value} {y : DataW H × List MemPlace} (k : DataW.trod enc Tryz.prog W 0 (fun _ => true) true fuel 24 [v] = some y) (hb : Rows.uptoBulk y.1 ≤ 1048576) :
    ∃ A n c, ∃ l : List SV, v = .slice A n c ∧ UnitsAt W W.heap.size A n c l ∧ (∀ u ∈ l, SmallU u) ∧ n ≤ 1048576 := by
  obtain ⟨A, n, c, l, h1, h2, h3, h4, h5⟩ := open_list (α := SV) Tryz.underlying24 cells4_unit (by decide) svCells_length elem_unit k hb
  injection h1 with h1 _
  exact ⟨A, n, c, l, h1, ⟨h2, h3, fun u hu => (h4 u hu).2.2.1, fun u hu => (h4 u hu).2.2.2.1⟩, fun u hu => unitQ.small (h4 u hu), h5⟩
theorem cells3_sys : Tryz.prog.cellsOf 26 = 3 := by kernel_rfl
theorem cells1_ents : Tryz.prog.cellsOf 22 = 1 := by kernel_rfl
theorem cells1_units : Tryz.prog.cellsOf 24 = 1 := by kernel_rfl
set_option maxRecDepth 100000 in
theorem open_sys {base : Nat} {v : Value} {d : DataW H} {p : List MemPlace} (o : Value.okWide Tryz.prog W .any base 26 v) (k : DataW.Trod enc Tryz.prog W 0 (fun _ => true) true 26 v d p) (hbk : Rows.uptoBulk d ≤ 1048576) :
    ∃ s : OV, v = .agg (ovArr s) ∧ ObsAt W W.heap.size s ∧ SmallO s := by
  obtain ⟨cs, rfl, hsz⟩ := okWide_struct Tryz.underlying26 o
  rw [cells3_sys] at hsz
  obtain ⟨fuel, hf⟩ := k
  obtain ⟨l⟩ := cs
  obtain ⟨a0, a1, a2, rfl⟩ : ∃ a0 a1 a2, l = [a0, a1, a2] := by
    match l, hsz with
    | [a0, a1, a2], _ => exact ⟨a0, a1, a2, rfl⟩
  obtain ⟨xs, n, _, hx, _, hxl, hfl⟩ := DataW.trod_struct Tryz.underlying26 hf
  have f0 : DataW.trod enc Tryz.prog W 0 (fun _ => true) true n 22 (([a0, a1, a2].drop 0).take (Tryz.prog.cellsOf 22)) = xs[0]? := hfl 0 _ rfl
  have f1 : DataW.trod enc Tryz.prog W 0 (fun _ => true) true n 23 (([a0, a1, a2].drop 1).take (Tryz.prog.cellsOf 23)) = xs[1]? := hfl 1 _ rfl
  have f2 : DataW.trod enc Tryz.prog W 0 (fun _ => true) true n 24 (([a0, a1, a2].drop 2).take (Tryz.prog.cellsOf 24)) = xs[2]? := hfl 2 _ rfl
  rw [cells1_ents] at f0
  rw [cells1_texts] at f1
  rw [cells1_units] at f2
  have hxl3 : xs.length = 3 := hxl
  obtain ⟨y0, y1, y2, rfl⟩ : ∃ y0 y1 y2, xs = [y0, y1, y2] := by
    match xs, hxl3 with
    | [y0, y1, y2], _ => exact ⟨y0, y1, y2, rfl⟩
  have g0 : DataW.trod enc Tryz.prog W 0 (fun _ => true) true n 22 [a0] = some y0 := f0
  have g1 : DataW.trod enc Tryz.prog W 0 (fun _ => true) true n 23 [a1] = some y1 := f1
  have g2 : DataW.trod enc Tryz.prog W 0 (fun _ => true) true n 24 [a2] = some y2 := f2
  have q2 : d = .agg ([y0, y1, y2].map (·.1)) := (Prod.mk.inj hx).1
  rw [q2, ← Bulk.agg] at hbk
  have p0 := Bulk.part_le (d := y0.1) (l := [y0, y1, y2].map (·.1)) (by simp)
  have p1 := Bulk.part_le (d := y1.1) (l := [y0, y1, y2].map (·.1)) (by simp)
  have p2 := Bulk.part_le (d := y2.1) (l := [y0, y1, y2].map (·.1)) (by simp)
  obtain ⟨A, m, c, es, rfl, hE, he, hm⟩ := open_ents21 g0 (by omega)
  obtain ⟨A2, m2, c2, us, h1, hU, hu, hm2⟩ := open_txts g1 (by omega)
  obtain ⟨A3, m3, c3, vs, rfl, hV, hv, hm3⟩ := open_units21 g2 (by omega)
  injection h1 with h1 _
  subst h1
  exact ⟨⟨A, m, c, es, A2, m2, c2, us, A3, m3, c3, vs⟩, rfl, ⟨hE, hU, hV⟩, ⟨he, hu, hv, hm, hm2, hm3⟩⟩
end
end Go.Proofs.YtibndaianhlcaaaGreatDoor
namespace Go.Proofs.YtibndaianhlcaaaGreatDoor
open Go.RowKit Go.ChangeShapes Go.WideShapes Go.Deep
set_option linter.unusedVariables false
set_option linter.unusedSimpArgs false

section
variable {H : Type} {enc : TypeId × Value → H} {W : World}
/-- A list of texts has no more of them than its bulk. -/
theorem txts_weight {fuel : Nat} {cs : List Value} {y : DataW H × List MemPlace} (k : DataW.trod enc Tryz.prog W 0 (fun _ => true) true fuel 23 cs = some y) {A : Option Addr} {n c : Nat} (hc : cs = [.slice A n c]) : n ≤ Rows.uptoBulk y.1 := by
  rcases open_slice Tryz.underlying23 k with ⟨hcs, hx⟩ | ⟨x, len, cap, m, n', D, Pl, hcs, _, hl, hm, hmm, hx, hi⟩
  · rw [hc] at hcs
    simp only [List.cons.injEq, Value.slice.injEq, and_true] at hcs
    omega
  · rw [hc] at hcs
    simp only [List.cons.injEq, Value.slice.injEq, and_true] at hcs
    have h1 := Bulk.slice_spare ((List.range len).map D) ((List.range (m - len)).map fun j => D (len + j))
    rw [hx]
    simp only [List.length_map, List.length_range] at h1 ⊢
    omega
theorem unit_weight {fuel : Nat} {cs : List Value} {y : DataW H × List MemPlace} (h : DataW.trod enc Tryz.prog W 0 (fun _ => true) true fuel 59 cs = some y) {u : SV} (hc : cs = svCells u) : u.n + u.n2 ≤ Rows.uptoBulk y.1 := by
  obtain ⟨xs, n, _, hy, hl, hxl, hf⟩ := DataW.trod_struct Tryz.underlying59 h
  have f2 : DataW.trod enc Tryz.prog W 0 (fun _ => true) true n 23 ((cs.drop 2).take (Tryz.prog.cellsOf 23)) = xs[2]? := hf 2 _ rfl
  have f3 : DataW.trod enc Tryz.prog W 0 (fun _ => true) true n 23 ((cs.drop 3).take (Tryz.prog.cellsOf 23)) = xs[3]? := hf 3 _ rfl
  rw [cells1_texts] at f2 f3
  have hx4 : xs.length = 4 := hxl
  match xs, hx4 with
  | [z0, z1, z2, z3], _ =>
    have g2 := txts_weight (A := u.A) (n := u.n) (c := u.c) (f2.trans rfl) (by rw [hc]; rfl)
    have g3 := txts_weight (A := u.A2) (n := u.n2) (c := u.c2) (f3.trans rfl) (by rw [hc]; rfl)
    rw [hy]
    simp only [List.map_cons, List.map_nil, Rows.uptoBulk, Rows.uptoBulkAll]
    omega
theorem act_weight {fuel : Nat} {cs : List Value} {y : DataW H × List MemPlace} (h : DataW.trod enc Tryz.prog W 0 (fun _ => true) true fuel 61 cs = some y) {a : AV} (hc : cs = avCells a) : a.unit.n + a.unit.n2 ≤ Rows.uptoBulk y.1 := by
  obtain ⟨xs, n, _, hy, hl, hxl, hf⟩ := DataW.trod_struct Tryz.underlying61 h
  have f3 : DataW.trod enc Tryz.prog W 0 (fun _ => true) true n 59 ((cs.drop 5).take (Tryz.prog.cellsOf 59)) = xs[3]? := hf 3 _ rfl
  rw [cells4_unit] at f3
  have hx4 : xs.length = 4 := hxl
  match xs, hx4 with
  | [z0, z1, z2, z3], _ =>
    have g3 := unit_weight (u := a.unit) (f3.trans rfl) (by rw [hc]; rfl)
    rw [hy]
    simp only [List.map_cons, List.map_nil, Rows.uptoBulk, Rows.uptoBulkAll]
    omega
theorem sum_bulk {α : Type} (μ : α → Nat) (f : Nat → α) (D : Nat → DataW H) : ∀ r : List Nat, (∀ i ∈ r, μ (f i) ≤ Rows.uptoBulk (D i)) → ((r.map f).map μ).sum ≤ Rows.uptoBulkAll (r.map D)
  | [], _ => by simp [Rows.uptoBulkAll]
  | i :: r, h => by
    have ih := sum_bulk μ f D r fun x hx => h x (List.mem_cons_of_mem _ hx)
    have h1 := h i List.mem_cons_self
    simp only [List.map_cons, List.sum_cons, Rows.uptoBulkAll]
    omega
set_option maxRecDepth 100000 in
/-- A list of steps is opened; their units' lists are few in all. -/
theorem open_actsW {base : Nat} {v : Value} {d : DataW H} {p : List MemPlace} (o : Value.okWide Tryz.prog W .any base 40 v) (k : DataW.Trod enc Tryz.prog W 0 (fun _ => true) true 40 v d p) (hb : Rows.uptoBulk d ≤ 1048576) :
    ∃ A n c, ∃ l : List AV, v = .slice A n c ∧ ActsAt W W.heap.size A n c l ∧ (∀ a ∈ l, SmallQ a) ∧ (l.map fun a => a.unit.n + a.unit.n2).sum ≤ 1048576 := by
  obtain ⟨a0, len0, cap0, rfl⟩ := okWide_slice Tryz.underlying40 o
  obtain ⟨fuel, hf0⟩ := k
  rcases open_slice Tryz.underlying40 hf0 with ⟨hcs, hx⟩ | ⟨x, len, cap, m, n, D, Pl, hcs, _, hl, hm, hmm, hx, hi⟩
  · simp [Value.cells] at hcs
    obtain ⟨rfl, rfl, rfl⟩ := hcs
    exact ⟨none, 0, 0, [], rfl, ⟨⟨by simp, Nat.le_refl _, Nat.zero_le _, fun h => absurd h (by decide)⟩, rfl, (fun _ h => by cases h)⟩, (fun _ h => by cases h), by simp⟩
  · simp [Value.cells] at hcs
    obtain ⟨rfl, rfl, rfl⟩ := hcs
    simp only [if_true] at hmm
    subst hmm
    have hdx : d = .slice ((List.range len0).map D) ((List.range (m - len0)).map fun j => D (len0 + j)) := congrArg Prod.fst hx
    have hb1 : Rows.uptoBulkAll ((List.range len0).map D) ≤ 1048576 := by
      rw [hdx] at hb
      have := Bulk.slice_elems ((List.range len0).map D) ((List.range (m - len0)).map fun j => D (len0 + j))
      omega
    have key : ∀ i, ∃ o : AV, i < len0 → (∀ j u, (avCells o)[j]? = some u → W.cell? (x.add (i * 9 + j)) = some u) ∧ actQ W o ∧ o.unit.n + o.unit.n2 ≤ Rows.uptoBulk (D i) := by
      intro i
      by_cases hi' : i < len0
      · obtain ⟨cs', hc, ht'⟩ := hi i (by omega)
        rw [cells9_act] at hc
        obtain ⟨_, hcl, hat⟩ := World.cells?_some hc
        have hm2 : D i ∈ (List.range len0).map D := List.mem_map.2 ⟨i, List.mem_range.2 hi', rfl⟩
        have q2 := Bulk.part_le hm2
        obtain ⟨o, ho, hq⟩ := elem_act n cs' (D i, Pl i) ht' (by show Rows.uptoBulk (D i) ≤ 1048576; omega)
        refine ⟨o, fun _ => ⟨fun j u hu => ?_, hq, act_weight ht' ho⟩⟩
        have hj : j < 9 := by
          rcases Nat.lt_or_ge j 9 with h | h
          · exact h
          · rw [List.getElem?_eq_none (by rw [avCells_length]; exact h)] at hu; cases hu
        have h1 := hat j hj
        rw [ho, hu] at h1
        rw [← Go.Deep.add_add]
        exact h1
      · exact ⟨default, fun h => absurd h hi'⟩
    obtain ⟨f, hf⟩ := Classical.axiomOfChoice key
    have hQ : ∀ o ∈ (List.range len0).map f, actQ W o := fun o ho => by
      obtain ⟨i, hi, rfl⟩ := List.mem_map.1 ho
      exact (hf i (List.mem_range.1 hi)).2.1
    refine ⟨some x, len0, _, (List.range len0).map f, rfl, ⟨?_, by simp, fun a ha => ⟨(hQ a ha).2.1.2.2.1, (hQ a ha).2.2.2.2.1, (hQ a ha).2.2.2.2.2.1⟩⟩, fun a ha => ?_, ?_⟩
    · rcases Nat.eq_zero_or_pos len0 with h0 | h0
      · subst h0
        exact ⟨by simp, hl, hm, fun h => absurd h (by decide)⟩
      · have hg0 : ∃ u, (avCells (f 0))[0]? = some u := ⟨_, List.getElem?_eq_getElem (by rw [avCells_length]; decide)⟩
        obtain ⟨u0, hu0⟩ := hg0
        have h1 := (hf 0 h0).1 0 _ hu0
        have hs : x.spot = none := by simpa [Addr.add] using World.cell?_spot h1
        have hblk : x.block < W.heap.size := by have := World.block_lt_of_cell? _ _ h1; simpa [block_add] using this
        obtain ⟨b, off, sp⟩ := x
        simp only at hs hblk
        subst hs
        refine slc_of_elems avCells _ (fun o _ => avCells_length o) (by simp) hl hm hblk (fun i hi j u hu => ?_)
        have hi' : i < len0 := by simpa using hi
        have := (hf i hi').1 j u (by simpa using hu)
        rwa [addr_of_add] at this
    · obtain ⟨h1, ⟨e1, e2, e3, _⟩, u1, u2, u3, u4, u5, u6, u7⟩ := hQ a ha
      have hn : a.file.data.length = a.file.n := by have := e3.len; simpa using this
      exact ⟨by omega, by omega, by omega, ⟨by omega, by omega, fun t ht => Nat.le_trans (u5 t ht) (by decide), by omega, by omega⟩⟩
    · have h9 := sum_bulk (fun a : AV => a.unit.n + a.unit.n2) f D (List.range len0) (fun i hi => (hf i (List.mem_range.1 hi)).2.2)
      omega
end
theorem script_len : ∀ {l : List AV}, (∀ a ∈ l, mayA a.act = true) → (∀ a ∈ l, a.unit.req.length = a.unit.n ∧ a.unit.aft.length = a.unit.n2) → (scriptQ l).length ≤ l.length * 5200 + (l.map fun a => a.unit.n + a.unit.n2).sum * 46
  | [], _, _ => by simp [scriptQ]
  | a :: l, hm, hl => by
    have ih := script_len (l := l) (fun x hx => hm x (List.mem_cons_of_mem _ hx)) (fun x hx => hl x (List.mem_cons_of_mem _ hx))
    have h1 := may_short (hm a List.mem_cons_self)
    have h2 := hl a List.mem_cons_self
    have h3 : a.act.unit.req.length = a.unit.n := h2.1
    have h4 : a.act.unit.aft.length = a.unit.n2 := h2.2
    have h5 := h1.2.2.1
    have h6 := h1.2.2.2
    rw [h3, h4] at h6
    unfold scriptQ at ih ⊢
    rw [List.flatMap_cons, List.length_append, List.map_cons, List.sum_cons, List.length_cons]
    have h7 : (lineQ a).length ≤ 5200 + (a.unit.n + a.unit.n2) * 46 := by
      unfold lineQ
      rw [List.length_append, List.length_cons]
      omega
    rw [Nat.add_mul, Nat.add_mul]
    omega
theorem text_len {W : World} {A : Option Addr} {n c : Nat} {l : List AV} (h : ActsAt W W.heap.size A n c l) (hs : (l.map fun a => a.unit.n + a.unit.n2).sum ≤ 1048576) (t : Txt) (ht : textA decI (l.map AV.act) = some t) : t.length ≤ 60000000 := by
  unfold textA at ht
  split at ht
  · rename_i hc
    obtain ⟨h1, h2⟩ := hc
    rw [List.all_map, List.all_eq_true] at h2
    rw [List.length_map] at h1
    have h3 := script_len (l := l) h2 (fun a ha => ⟨by have := (h.acts a ha).req.len; simpa using this, by have := (h.acts a ha).aft.len; simpa using this⟩)
    have h4 : (textA decI (l.map AV.act)).getD [] = scriptQ l ++ wEnd := textA_yes h1 h2
    have h5 : textA decI (l.map AV.act) = some t := by
      unfold textA
      rw [if_pos ⟨by rw [List.length_map]; exact h1, by rw [List.all_map, List.all_eq_true]; exact h2⟩]
      exact ht
    rw [h5] at h4
    have h6 : t = scriptQ l ++ wEnd := h4
    have h7 : t.length = (scriptQ l).length + 4 := by rw [h6, List.length_append]; rfl
    omega
  · cases ht
set_option maxRecDepth 100000 in
theorem ActivateTexts_walk {H : Type} {enc : TypeId × Value → H} (W : World) (base : Nat) (v0 v1 v2 : Value) (d0 d1 d2 : DataW H) (p0 p1 p2 : List MemPlace)
    (o0 : Value.okWide Tryz.prog W .any base 40 v0) (o1 : Value.okWide Tryz.prog W .any base 3 v1) (o2 : Value.okWide Tryz.prog W .any base 5 v2)
    (h0 : DataW.Trod enc Tryz.prog W 0 (fun _ => true) true 40 v0 d0 p0) (h1 : DataW.Trod enc Tryz.prog W 0 (fun _ => true) true 3 v1 d1 p1) (h2 : DataW.Trod enc Tryz.prog W 0 (fun _ => true) true 5 v2 d2 p2)
    (hsz : (DataW.weightsEach Tryz.prog [40, 3, 5] [d0, d1, d2]).all (· ≤ reachBytes) = true) (hk : Rows.uptoSmall H [d0, d1, d2] = true) (hL : laidMetH Tryz.prog Rows.activateTextsUptoRow.laid W) (hS : W.ShapedOpen Tryz.prog) :
    Calls Tryz.prog 8 #[v0, v1, v2] W fun e w' => e = .returned (.bool true) ∧ Below W.heap.size W w' := by
  have hb := Bulk.bound hk
  have b0 := Nat.le_trans (Bulk.part_le (d := d0) (l := [d0, d1, d2]) (by simp)) hb
  obtain ⟨A, n, c, l, rfl, hA, hQ, hsum⟩ := open_actsW o0 h0 b0
  obtain ⟨x, rfl, rfl, rfl, wx⟩ := open_int Tryz.underlying3 o1 h1
  obtain ⟨z, rfl, rfl, rfl, wz⟩ := open_int Tryz.underlying5 o2 h2
  have hx : -9223372036854775808 ≤ x ∧ x ≤ 9223372036854775807 := by simpa [Lit.wf, IntKind.min, IntKind.max, IntKind.signed, IntKind.bits] using wx
  have hz : 0 ≤ z ∧ z ≤ 255 := by simpa [Lit.wf, IntKind.min, IntKind.max, IntKind.signed, IntKind.bits] using wz
  have hy : z = ((UInt8.ofNat z.toNat).toNat : Int) := by
    rw [UInt8.toNat_ofNat_of_lt' (show z.toNat < 2 ^ 8 by omega)]
    omega
  rw [hy]
  exact texts21_any hA hQ (text_len hA hsum) x hx.1 hx.2 _ (max_var hS) (atoi_vars (by kernel_rfl) (by kernel_rfl) hL) (pow_tab (by kernel_rfl) hL)
end Go.Proofs.YtibndaianhlcaaaGreatDoor
