/- Arguments that are lists of steps, opened. A system that came in, opened, where it is of bulk at most 1048576. ActivateParses: the argument opened, where it is of bulk at most 1048576. -/
import Derived.Test.YtibndaianhlcaaaGreatDoorPart36
import Derived.Test.YtibndaianhlcaaaGreatDoorPart24
import Derived.Test.YtibndaianhlcaaaGreatDoorPart22
namespace Go.Proofs.YtibndaianhlcaaaGreatDoor
open Go.RowKit Go.ChangeShapes Go.WideShapes Go.Deep
set_option linter.unusedVariables false
set_option linter.unusedSimpArgs false

section
variable {H : Type} {enc : TypeId × Value → H} {W : World}
instance : Inhabited AV := ⟨⟨0, [], default, default⟩⟩
def actQ (W : World) (a : AV) : Prop := a.name.length ≤ 1048576 ∧ entQ W a.file ∧ unitQ W a.unit
theorem cells9_act : Tryz.prog.cellsOf 61 = 9 := by kernel_rfl
theorem cells_partsA {cs : List Value} {a b : Value} {e : EV} {u : SV} (hl : cs.length = 9) (h0 : (cs.drop 0).take 1 = [a]) (h1 : (cs.drop 1).take 1 = [b]) (h2 : (cs.drop 2).take 3 = evCells e) (h3 : (cs.drop 5).take 4 = svCells u) : cs = a :: b :: (evCells e ++ svCells u) := by
  match cs, hl with
  | [x0, x1, x2, x3, x4, x5, x6, x7, x8], _ => simp at h0 h1 h2 h3; rw [← h2, ← h3, h0, h1]; rfl
set_option maxRecDepth 100000 in
theorem elem_act : Elem enc W 61 avCells (actQ W) := fun fuel cs y h hb => by
  obtain ⟨xs, n, _, hy, hl, hxl, hf⟩ := DataW.trod_struct Tryz.underlying61 h
  rw [cells9_act] at hl
  have f0 : DataW.trod enc Tryz.prog W 0 (fun _ => true) true n 3 ((cs.drop 0).take (Tryz.prog.cellsOf 3)) = xs[0]? := hf 0 _ rfl
  have f1 : DataW.trod enc Tryz.prog W 0 (fun _ => true) true n 9 ((cs.drop 1).take (Tryz.prog.cellsOf 9)) = xs[1]? := hf 1 _ rfl
  have f2 : DataW.trod enc Tryz.prog W 0 (fun _ => true) true n 35 ((cs.drop 2).take (Tryz.prog.cellsOf 35)) = xs[2]? := hf 2 _ rfl
  have f3 : DataW.trod enc Tryz.prog W 0 (fun _ => true) true n 59 ((cs.drop 5).take (Tryz.prog.cellsOf 59)) = xs[3]? := hf 3 _ rfl
  rw [cells1_int] at f0
  rw [cells1_string] at f1
  rw [cells3_entry] at f2
  rw [cells4_unit] at f3
  have hx4 : xs.length = 4 := hxl
  have e : ∀ i, i < 4 → ∃ z, xs[i]? = some z := fun i hi => ⟨_, List.getElem?_eq_getElem (by omega)⟩
  obtain ⟨z0, e0⟩ := e 0 (by decide)
  obtain ⟨z1, e1⟩ := e 1 (by decide)
  obtain ⟨z2, e2⟩ := e 2 (by decide)
  obtain ⟨z3, e3⟩ := e 3 (by decide)
  obtain ⟨s0, h0, q0⟩ := elem_int n _ z0 (f0.trans e0) (agg_part hy hb e0)
  obtain ⟨s1, h1, q1⟩ := elem_txt n _ z1 (f1.trans e1) (agg_part hy hb e1)
  obtain ⟨x2, h2, q2⟩ := elem_entry n _ z2 (f2.trans e2) (agg_part hy hb e2)
  obtain ⟨x3, h3, q3⟩ := elem_unit n _ z3 (f3.trans e3) (agg_part hy hb e3)
  exact ⟨⟨s0, s1, x2, x3⟩, cells_partsA hl h0 h1 h2 h3, q1, q2, q3⟩
theorem actQ.small {a : AV} (h : actQ W a) : SmallA a := by
  obtain ⟨h1, ⟨e1, e2, e3, _⟩, u1, u2, u3, u4, u5, u6, u7⟩ := h
  have hn : a.file.data.length = a.file.n := by have := e3.len; simpa using this
  exact ⟨⟨by omega, by omega, by omega⟩, by omega, by omega, by omega, fun t ht => by
    rcases List.mem_cons.1 ht with h | h
    · rw [h]; omega
    · have := u5 t h; omega⟩
theorem open_acts_cells {fuel : Nat} {cs : List Value} {y : DataW H × List MemPlace} (k : DataW.trod enc Tryz.prog W 0 (fun _ => true) true fuel 40 cs = some y) (hb : Rows.uptoBulk y.1 ≤ 1048576) :
    ∃ A n c, ∃ l : List AV, cs = [.slice A n c] ∧ ActsAt W W.heap.size A n c l ∧ (∀ a ∈ l, SmallA a) ∧ n ≤ 1048576 := by
  obtain ⟨A, n, c, l, h1, h2, h3, h4, h5⟩ := open_list (α := AV) Tryz.underlying40 cells9_act (by decide) avCells_length elem_act k hb
  exact ⟨A, n, c, l, h1, ⟨h2, h3, fun a ha => ⟨(h4 a ha).2.1.2.2.1, (h4 a ha).2.2.2.2.1, (h4 a ha).2.2.2.2.2.1⟩⟩, fun a ha => (h4 a ha).small, h5⟩
set_option maxRecDepth 100000 in
theorem open_acts {base : Nat} {v : Value} {d : DataW H} {p : List MemPlace} (o : Value.okWide Tryz.prog W .any base 40 v) (k : DataW.Trod enc Tryz.prog W 0 (fun _ => true) true 40 v d p) (hb : Rows.uptoBulk d ≤ 1048576) :
    ∃ A n c, ∃ l : List AV, v = .slice A n c ∧ ActsAt W W.heap.size A n c l ∧ (∀ a ∈ l, SmallA a) ∧ n ≤ 1048576 := by
  obtain ⟨a0, len, cap, rfl⟩ := okWide_slice Tryz.underlying40 o
  obtain ⟨fuel, hf⟩ := k
  obtain ⟨A, n, c, l, hcs, r⟩ := open_acts_cells hf hb
  simp [Value.cells] at hcs
  obtain ⟨rfl, rfl, rfl⟩ := hcs
  exact ⟨_, _, _, l, rfl, r⟩
set_option maxRecDepth 100000 in
theorem open_bools {base : Nat} {v : Value} {d : DataW H} {p : List MemPlace} (o : Value.okWide Tryz.prog W .any base 41 v) (k : DataW.Trod enc Tryz.prog W 0 (fun _ => true) true 41 v d p) (hb : Rows.uptoBulk d ≤ 1048576) :
    ∃ A n c, ∃ l : List Bool, v = .slice A n c ∧ Slc W W.heap.size 1 A n c (l.map bl) ∧ n ≤ 1048576 := by
  obtain ⟨a0, len, cap, rfl⟩ := okWide_slice Tryz.underlying41 o
  obtain ⟨fuel, hf⟩ := k
  obtain ⟨A, n, c, l, hcs, h2, h3, h4, h5⟩ := open_list (α := Bool) Tryz.underlying41 (show Tryz.prog.cellsOf 4 = 1 by kernel_rfl) (by decide) (fun _ => rfl) elem_bool hf hb
  simp [Value.cells] at hcs
  obtain ⟨rfl, rfl, rfl⟩ := hcs
  exact ⟨_, _, _, l, rfl, by rwa [map_flat] at h2, h5⟩
end
end Go.Proofs.YtibndaianhlcaaaGreatDoor
namespace Go.Proofs.YtibndaianhlcaaaGreatDoor
open Go.RowKit Go.ChangeShapes Go.WideShapes
set_option linter.unusedVariables false
set_option linter.unusedSimpArgs false

section
variable {H : Type} {enc : TypeId × Value → H} {W : World}
theorem unitQ.small {u : SV} (h : unitQ W u) : SmallU u := ⟨h.1, h.2.1, h.2.2.2.2.1, h.2.2.2.2.2.1, h.2.2.2.2.2.2⟩
theorem open_ents21 {fuel : Nat} {v : Value} {y : DataW H × List MemPlace} (k : DataW.trod enc Tryz.prog W 0 (fun _ => true) true fuel 22 [v] = some y) (hb : Rows.uptoBulk y.1 ≤ 1048576) :
    ∃ A n c, ∃ l : List EV, v = .slice A n c ∧ EntsAt W W.heap.size A n c l ∧ (∀ e ∈ l, e.path.length ≤ 1048576 ∧ e.data.length ≤ 1048576) ∧ n ≤ 1048576 := by
  obtain ⟨A, n, c, l, h1, h2, h3, h4, h5⟩ := open_list (α := EV) Tryz.underlying22 cells3_entry (by decide) evCells_length elem_entry k hb
  injection h1 with h1 _
  exact ⟨A, n, c, l, h1, ⟨h2, h3, fun e he => (h4 e he).2.2.1⟩, fun e he => ⟨(h4 e he).1, (h4 e he).2.1⟩, h5⟩
theorem open_units21 {fuel : Nat} {v : Value} {y : DataW H × List MemPlace} (k : DataW.trod enc Tryz.prog W 0 (fun _ => true) true fuel 24 [v] = some y) (hb : Rows.uptoBulk y.1 ≤ 1048576) :
    ∃ A n c, ∃ l : List SV, v = .slice A n c ∧ UnitsAt W W.heap.size A n c l ∧ (∀ u ∈ l, SmallU u) ∧ n ≤ 1048576 := by
  obtain ⟨A, n, c, l, h1, h2, h3, h4, h5⟩ := open_list (α := SV) Tryz.underlying24 cells4_unit (by decide) svCells_length elem_unit k hb
  injection h1 with h1 _
  exact ⟨A, n, c, l, h1, ⟨h2, h3, fun u hu => (h4 u hu).2.2.1, fun u hu => (h4 u hu).2.2.2.1⟩, fun u hu => unitQ.small (h4 u hu), h5⟩
theorem cells3_sys : Tryz.prog.cellsOf 26 = 3 := by kernel_rfl
theorem cells1_ents : Tryz.prog.cellsOf 22 = 1 := by kernel_rfl
theorem cells1_units : Tryz.prog.cellsOf 24 = 1 := by kernel_rfl
set_option maxRecDepth 100000 in
theorem open_sys {base : Nat} {v : Value} {d : DataW H} {p : List MemPlace} (o : Value.okWide Tryz.prog W .any base 26 v) (k : DataW.Trod enc Tryz.prog W 0 (fun _ => true) true 26 v d p) (hbk : Rows.uptoBulk d ≤ 1048576) :
    ∃ s : OV, v = .agg (ovArr s) ∧ ObsAt W W.heap.size s ∧ SmallO s := by
  obtain ⟨cs, rfl, hsz⟩ := okWide_struct Tryz.underlying26 o
  rw [cells3_sys] at hsz
  obtain ⟨fuel, hf⟩ := k
  obtain ⟨l⟩ := cs
  obtain ⟨a0, a1, a2, rfl⟩ : ∃ a0 a1 a2, l = [a0, a1, a2] := by
    match l, hsz with
    | [a0, a1, a2], _ => exact ⟨a0, a1, a2, rfl⟩
  obtain ⟨xs, n, _, hx, _, hxl, hfl⟩ := DataW.trod_struct Tryz.underlying26 hf
  have f0 : DataW.trod enc Tryz.prog W 0 (fun _ => true) true n 22 (([a0, a1, a2].drop 0).take (Tryz.prog.cellsOf 22)) = xs[0]? := hfl 0 _ rfl
  have f1 : DataW.trod enc Tryz.prog W 0 (fun _ => true) true n 23 (([a0, a1, a2].drop 1).take (Tryz.prog.cellsOf 23)) = xs[1]? := hfl 1 _ rfl
  have f2 : DataW.trod enc Tryz.prog W 0 (fun _ => true) true n 24 (([a0, a1, a2].drop 2).take (Tryz.prog.cellsOf 24)) = xs[2]? := hfl 2 _ rfl
  rw [cells1_ents] at f0
  rw [cells1_texts] at f1
  rw [cells1_units] at f2
  have hxl3 : xs.length = 3 := hxl
  obtain ⟨y0, y1, y2, rfl⟩ : ∃ y0 y1 y2, xs = [y0, y1, y2] := by
    match xs, hxl3 with
    | [y0, y1, y2], _ => exact ⟨y0, y1, y2, rfl⟩
  have g0 : DataW.trod enc Tryz.prog W 0 (fun _ => true) true n 22 [a0] = some y0 := f0
  have g1 : DataW.trod enc Tryz.prog W 0 (fun _ => true) true n 23 [a1] = some y1 := f1
  have g2 : DataW.trod enc Tryz.prog W 0 (fun _ => true) true n 24 [a2] = some y2 := f2
  have q2 : d = .agg ([y0, y1, y2].map (·.1)) := (Prod.mk.inj hx).1
  rw [q2, ← Bulk.agg] at hbk
  have p0 := Bulk.part_le (d := y0.1) (l := [y0, y1, y2].map (·.1)) (by simp)
  have p1 := Bulk.part_le (d := y1.1) (l := [y0, y1, y2].map (·.1)) (by simp)
  have p2 := Bulk.part_le (d := y2.1) (l := [y0, y1, y2].map (·.1)) (by simp)
  obtain ⟨A, m, c, es, rfl, hE, he, hm⟩ := open_ents21 g0 (by omega)
  obtain ⟨A2, m2, c2, us, h1, hU, hu, hm2⟩ := open_txts g1 (by omega)
  obtain ⟨A3, m3, c3, vs, rfl, hV, hv, hm3⟩ := open_units21 g2 (by omega)
  injection h1 with h1 _
  subst h1
  exact ⟨⟨A, m, c, es, A2, m2, c2, us, A3, m3, c3, vs⟩, rfl, ⟨hE, hU, hV⟩, ⟨he, hu, hv, hm, hm2, hm3⟩⟩
end
end Go.Proofs.YtibndaianhlcaaaGreatDoor
namespace Go.Proofs.YtibndaianhlcaaaGreatDoor
open Go.RowKit Go.ChangeShapes Go.WideShapes
open Go.ChangeMaps (open_string)
set_option linter.unusedVariables false
set_option linter.unusedSimpArgs false

set_option maxRecDepth 100000 in
theorem ActivateParses_walk {H : Type} {enc : TypeId × Value → H} (W : World) (base : Nat) (v0 : Value) (d0 : DataW H) (p0 : List MemPlace)
    (o0 : Value.okWide Tryz.prog W .any base 9 v0)
    (h0 : DataW.Trod enc Tryz.prog W 0 (fun _ => true) true 9 v0 d0 p0)
    (hsz : (DataW.weightsEach Tryz.prog [9] [d0]).all (· ≤ reachBytes) = true) (hk : Rows.uptoSmall H [d0] = true) (hL : laidMetH Tryz.prog Rows.activateParsesUptoRow.laid W) (hS : W.ShapedOpen Tryz.prog) :
    Calls Tryz.prog 9 #[v0] W fun e w' => e = .returned (.bool true) ∧ Below W.heap.size W w' := by
  have hb := Bulk.bound hk
  have b0 := Bulk.part_le (d := d0) (l := [d0]) (by simp)
  obtain ⟨s, rfl, rfl, rfl, ws⟩ := open_string Tryz.underlying9 o0 h0
  rw [Bulk.string_eq] at b0
  have hs : s = ⟨s.data.toList.toArray⟩ := by cases s; simp
  rw [hs]
  exact parses21_any (by omega) (max_var hS) (atoi_vars (by kernel_rfl) (by kernel_rfl) hL) (pow_tab (by kernel_rfl) hL)
end Go.Proofs.YtibndaianhlcaaaGreatDoor
