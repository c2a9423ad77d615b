/- law20: copied. slices.DeleteFunc at texts. slices.DeleteFunc at entries. A machine's files turn. machine.file: two paths compared. -/
import Derived.Test.YtibndaianhlcaaaDoorPart11
import Derived.Test.YtibndaianhlcaaaDoorPart8
namespace Go.Proofs.YtibndaianhlcaaaDoor
open Go.RowKit Go.Sort Go.Shelf
set_option linter.unusedVariables false
set_option linter.unusedSimpArgs false

/-- A step as memory has it. -/
structure AV where
  kind : Int
  name : Txt
  file : EV
  unit : SV
def AV.act (a : AV) : ActP := ⟨a.kind, a.name, a.file.ent, a.unit.srv⟩
def avArr (a : AV) : Array Value := #[.int .i64 a.kind, .string ⟨a.name.toArray⟩, .string ⟨a.file.path.toArray⟩, .int .i64 a.file.kind, .slice a.file.A a.file.n a.file.c, .string ⟨a.unit.name.toArray⟩, .string ⟨a.unit.start.toArray⟩, .slice a.unit.A a.unit.n a.unit.c, .slice a.unit.A2 a.unit.n2 a.unit.c2]
structure ActAt (w : World) (B : Nat) (a : AV) : Prop where
  data : Slc w B 1 a.file.A a.file.n a.file.c (a.file.data.map bv)
  req : Slc w B 1 a.unit.A a.unit.n a.unit.c (a.unit.req.map encStr)
  aft : Slc w B 1 a.unit.A2 a.unit.n2 a.unit.c2 (a.unit.aft.map encStr)
theorem ActAt.below {w w' : World} {B : Nat} {a : AV} (h : ActAt w B a) (hb : Below B w w') : ActAt w' B a := ⟨h.data.below hb, h.req.below hb, h.aft.below hb⟩
/-- A step in blocks of the call's own. -/
structure OwnAct (w : World) (F : Nat → Prop) (a : AV) : Prop where
  data : Row w F 5 1 (.slice a.file.A a.file.n a.file.c) a.file.n (a.file.data.map bv)
  req : Row w F 9 1 (.slice a.unit.A a.unit.n a.unit.c) a.unit.n (a.unit.req.map encStr)
  aft : Row w F 9 1 (.slice a.unit.A2 a.unit.n2 a.unit.c2) a.unit.n2 (a.unit.aft.map encStr)
  ne : ∀ k, (Value.slice a.unit.A a.unit.n a.unit.c).ownBlock = some k → (Value.slice a.unit.A2 a.unit.n2 a.unit.c2).ownBlock ≠ some k
theorem OwnAct.at_ {w : World} {F : Nat → Prop} {a : AV} (h : OwnAct w F a) : ActAt w w.heap.size a := ⟨h.data.slc', h.req.slc', h.aft.slc'⟩
theorem Row.set_ {w : World} {F : Nat → Prop} {e : TypeId} {sz : Nat} {v : Value} {n : Nat} {xs : List Value} (h : Row w F e sz v n xs) {p : Addr} (hp : ¬ F p.block) (u : Value) : Row (w.setCell p u) F e sz v n xs :=
  h.kept (fun k hk => Below.heap_setCell w p u k (by rintro rfl; exact hp (h.foot _ hk))) h.foot
theorem Row.setCells {F : Nat → Prop} {e : TypeId} {sz : Nat} {v : Value} {n : Nat} {xs : List Value} {g : Nat} (hp : ¬ F g) : ∀ (vs : List Value) (o : Nat) {w : World}, Row w F e sz v n xs → Row (w.setCells g o vs) F e sz v n xs
  | [], _, _, h => h
  | u :: r, o, _, h => Row.setCells hp r (o + 1) (h.set_ (p := ⟨g, o, none⟩) hp u)
theorem Row.belo {w w' : World} {F : Nat → Prop} {e : TypeId} {sz : Nat} {v : Value} {n : Nat} {xs : List Value} (h : Row w F e sz v n xs) (hb : Below w.heap.size w w') : Row w' F e sz v n xs :=
  h.kept (fun k hk => hb.block k (h.own.lt k hk).2) h.foot
structure CopiedB (W : World) (A : Option Addr) (n c : Nat) (l : List UInt8) (g c' : Nat) (w' : World) : Prop where
  run : (Builtin.append_ #[42, 42] 42 #[.slice (some ⟨W.heap.size, 0, none⟩) 0 0, .slice A n c]).run Tryd.prog (W.alloc (.cells #[] 5)) = .ok (.slice (some ⟨g, 0, none⟩) n c') w'
  own : w'.ownsRow W.heap.size 5 1 (.slice (some ⟨g, 0, none⟩) n c') n (l.map bv)
  ge : W.heap.size ≤ g
  lt : g < w'.heap.size
  bel : Below W.heap.size W w'
theorem bytes_copy {W : World} {B : Nat} {A : Option Addr} {n c : Nat} {l : List UInt8} (h : Slc W B 1 A n c (l.map bv)) (hB : B ≤ W.heap.size) (hn : n ≤ 1000000000) : ∃ g c' w', CopiedB W A n c l g c' w' := by
  have ho := empty_own W W.heap.size (Nat.le_refl _)
  have hb1 : Below W.heap.size W (W.alloc (.cells #[] 5)) := (Below.refl _ W).alloc (Nat.le_refl _) _
  obtain ⟨A3, c3, w3, r3, o3, g3, hv3⟩ := append_bytes (W.alloc (.cells #[] 5)) W.heap.size _ 0 [] ho B A n c l (h.below (hb1.mono hB)) (by omega) (by simp)
  rw [Nat.zero_add] at r3 o3
  rw [List.nil_append] at o3
  have hb3 := grown_below hb1 ho (by simp) g3
  rcases o3.2 with ⟨hnil, h0⟩ | ⟨gd, cap, cur, e1, e2, e3, _⟩
  · exfalso
    injection hnil with e1 e2 e3
    subst e1
    rcases hv3 with hv3 | hv3 <;> simp [Value.ownBlock] at hv3
  · injection e1 with e1
    subst e1
    exact ⟨gd, c3, w3, r3, o3, e2, (Array.getElem?_eq_some_iff.1 e3).1, hb3⟩
def ActLens (a : AV) : Prop := a.file.n ≤ 1000000000 ∧ a.unit.n ≤ 1000000000 ∧ a.unit.n2 ≤ 1000000000
set_option maxRecDepth 100000 in
set_option maxHeartbeats 2000000 in
theorem copied20_any {w : World} {B : Nat} {a : AV} (h : ActAt w B a) (hB : B ≤ w.heap.size) (hn : ActLens a) :
    Calls Tryd.prog 11 #[.agg (avArr a)] w fun e w' => ∃ a', e = .returned (.agg (avArr a')) ∧ a'.act = a.act ∧ OwnAct w' (fun k => w.heap.size ≤ k) a' ∧ ActLens a' ∧ Below w.heap.size w w' := by
  obtain ⟨kind, name, ⟨fp, fk, fd, fA, fn, fc⟩, ⟨nm, st, rq, A, n, c, af, A2, n2, c2⟩⟩ := a
  obtain ⟨h1, h2, h3⟩ := h
  obtain ⟨l1, l2, l3'⟩ := hn
  simp only at h1 h2 h3 l1 l2 l3'
  obtain ⟨cs, hcs⟩ : ∃ cs : Array Value, cs = #[.int .i64 kind, .string ⟨name.toArray⟩, .string ⟨fp.toArray⟩, .int .i64 fk, .slice fA fn fc, .string ⟨nm.toArray⟩, .string ⟨st.toArray⟩, .slice A n c, .slice A2 n2 c2] := ⟨_, rfl⟩
  obtain ⟨W1, hW1⟩ : ∃ W1, W1 = (w.alloc (.cells cs 48)).alloc (.cells #[.int .i64 0, .string .empty, .string .empty, .int .i64 0, .slice none 0 0, .string .empty, .string .empty, .slice none 0 0, .slice none 0 0] 48) := ⟨_, rfl⟩
  have hb1 : Below w.heap.size w W1 := by rw [hW1]; exact ((Below.refl _ w).alloc (Nat.le_refl _) _).alloc (by simp) _
  have hz1 : W1.heap.size = w.heap.size + 2 := by rw [hW1]; simp
  have hG1 : Blk W1 w.heap.size 48 cs := by rw [hW1]; exact (Blk.new _ _ _).alloc _
  obtain ⟨cr, hcr0⟩ : ∃ cr : Array Value, cr = #[.int .i64 0, .string .empty, .string .empty, .int .i64 0, .slice none 0 0, .string .empty, .string .empty, .slice none 0 0, .slice none 0 0] := ⟨_, rfl⟩
  have hcr : cr.size = 9 := by rw [hcr0]; rfl
  have hR1 : Blk W1 (w.heap.size + 1) 48 cr := by
    have := Blk.new (w.alloc (.cells cs 48)) 48 cr
    rw [World.size_alloc] at this
    rw [hW1, ← hcr0]
    exact this
  obtain ⟨F, hF⟩ : ∃ F : Nat → Prop, F = fun k => w.heap.size + 2 ≤ k := ⟨_, rfl⟩
  have hF0 : ¬ F w.heap.size := by rw [hF]; intro h; have h : w.heap.size + 2 ≤ w.heap.size := h; omega
  have hF1 : ¬ F (w.heap.size + 1) := by rw [hF]; intro h; have h : w.heap.size + 2 ≤ w.heap.size + 1 := h; omega
  have own : ∀ {W : World} {b : Nat} {e : TypeId} {v : Value} {n : Nat} {xs : List Value}, W.ownsRow b e 1 v n xs → w.heap.size + 2 ≤ b → Row W F e 1 v n xs := fun hr hb => ⟨⟨hr.1, hr.2.imp id fun ⟨g, cap, cur, e, _, r⟩ => ⟨g, cap, cur, e, Nat.zero_le _, r⟩⟩, fun k hk => by rw [hF]; have := (hr.lt k hk).1; show w.heap.size + 2 ≤ k; omega⟩
  obtain ⟨g3, c3, w3, S3⟩ := bytes_copy (h1.below (hb1.mono hB)) (by omega) l1
  have hG3 := hG1.below S3.bel hG1.lt
  have hR3 := hR1.below S3.bel hR1.lt
  have o3 := own S3.own (by omega)
  have hb3 := hb1.trans (S3.bel.mono hb1.size)
  obtain ⟨W4, hW4⟩ : ∃ W4, W4 = w3.setCell ⟨w.heap.size, 4, none⟩ (.slice (some ⟨g3, 0, none⟩) fn c3) := ⟨_, rfl⟩
  have hG4 := hG3.set_ 4 (.slice (some ⟨g3, 0, none⟩) fn c3)
  have o34 := o3.set_ (p := ⟨w.heap.size, 4, none⟩) hF0 (.slice (some ⟨g3, 0, none⟩) fn c3)
  have hb4 := hb3.setCell (p := ⟨w.heap.size, 4, none⟩) (Nat.le_refl _) (.slice (some ⟨g3, 0, none⟩) fn c3)
  have hR4 : Blk (w3.setCell ⟨w.heap.size, 4, none⟩ (.slice (some ⟨g3, 0, none⟩) fn c3)) (w.heap.size + 1) 48 cr := by
    unfold Blk at hR3 ⊢; rw [Below.heap_setCell w3 _ _ _ (by simp)]; exact hR3
  have hz4 : W4.heap.size = w3.heap.size := by rw [hW4]; simp [World.setCell]
  rw [← hW4] at hG4 o34 hb4 hR4
  have s13 := S3.bel.size
  obtain ⟨g5, c5, w5, S5⟩ := strs_copy (h2.below (hb4.mono hB)) (Nat.le_trans hB hb4.size) l2
  have hG5 := hG4.below S5.bel hG4.lt
  have hR5 := hR4.below S5.bel hR4.lt
  have o35 := o34.belo S5.bel
  have o5 := own S5.own (by omega)
  have hb5 := hb4.trans (S5.bel.mono hb4.size)
  obtain ⟨W6, hW6⟩ : ∃ W6, W6 = w5.setCell ⟨w.heap.size, 7, none⟩ (.slice (some ⟨g5, 0, none⟩) n c5) := ⟨_, rfl⟩
  have hG6 := hG5.set_ 7 (.slice (some ⟨g5, 0, none⟩) n c5)
  have o36 := o35.set_ (p := ⟨w.heap.size, 7, none⟩) hF0 (.slice (some ⟨g5, 0, none⟩) n c5)
  have o56 := o5.set_ (p := ⟨w.heap.size, 7, none⟩) hF0 (.slice (some ⟨g5, 0, none⟩) n c5)
  have hb6 := hb5.setCell (p := ⟨w.heap.size, 7, none⟩) (Nat.le_refl _) (.slice (some ⟨g5, 0, none⟩) n c5)
  have hR6 : Blk (w5.setCell ⟨w.heap.size, 7, none⟩ (.slice (some ⟨g5, 0, none⟩) n c5)) (w.heap.size + 1) 48 cr := by
    unfold Blk at hR5 ⊢; rw [Below.heap_setCell w5 _ _ _ (by simp)]; exact hR5
  have hz6 : W6.heap.size = w5.heap.size := by rw [hW6]; simp [World.setCell]
  rw [← hW6] at hG6 o36 o56 hb6 hR6
  have s35 := S5.bel.size
  obtain ⟨g7, c7, w7, S7⟩ := strs_copy (h3.below (hb6.mono hB)) (Nat.le_trans hB hb6.size) l3'
  have hG7 := hG6.below S7.bel hG6.lt
  have hR7 := hR6.below S7.bel hR6.lt
  have o37 := o36.belo S7.bel
  have o57 := o56.belo S7.bel
  have o7 := own S7.own (by omega)
  have hb7 := hb6.trans (S7.bel.mono hb6.size)
  have hG8 := hG7.set_ 8 (.slice (some ⟨g7, 0, none⟩) n2 c7)
  have o38 := o37.set_ (p := ⟨w.heap.size, 8, none⟩) hF0 (.slice (some ⟨g7, 0, none⟩) n2 c7)
  have o58 := o57.set_ (p := ⟨w.heap.size, 8, none⟩) hF0 (.slice (some ⟨g7, 0, none⟩) n2 c7)
  have o78 := o7.set_ (p := ⟨w.heap.size, 8, none⟩) hF0 (.slice (some ⟨g7, 0, none⟩) n2 c7)
  have hb8 := hb7.setCell (p := ⟨w.heap.size, 8, none⟩) (Nat.le_refl _) (.slice (some ⟨g7, 0, none⟩) n2 c7)
  have hR8 : Blk (w7.setCell ⟨w.heap.size, 8, none⟩ (.slice (some ⟨g7, 0, none⟩) n2 c7)) (w.heap.size + 1) 48 cr := by
    unfold Blk at hR7 ⊢; rw [Below.heap_setCell w7 _ _ _ (by simp)]; exact hR7
  obtain ⟨W8, hW8⟩ : ∃ W8, W8 = w7.setCell ⟨w.heap.size, 8, none⟩ (.slice (some ⟨g7, 0, none⟩) n2 c7) := ⟨_, rfl⟩
  rw [← hW8] at hG8 o38 o58 o78 hb8 hR8
  have s57 := S7.bel.size
  have t5 := S5.lt
  have t7 := S7.ge
  obtain ⟨vs, hvs⟩ : ∃ vs : List Value, vs = [.int .i64 kind, .string ⟨name.toArray⟩, .string ⟨fp.toArray⟩, .int .i64 fk, .slice (some ⟨g3, 0, none⟩) fn c3, .string ⟨nm.toArray⟩, .string ⟨st.toArray⟩, .slice (some ⟨g5, 0, none⟩) n c5, .slice (some ⟨g7, 0, none⟩) n2 c7] := ⟨_, rfl⟩
  have HW : ∀ k, F k → w.heap.size ≤ k := fun k hk => by rw [hF] at hk; have hk : w.heap.size + 2 ≤ k := hk; omega
  have hne57 : ∀ k, some g5 = some k → some g7 = some k → False := fun k h h' => by injection h with h; injection h' with h'; omega
  have HO : Hid (OwnAct (W8.setCells (w.heap.size + 1) 0 vs) (fun k => w.heap.size ≤ k) ⟨kind, name, ⟨fp, fk, fd, some ⟨g3, 0, none⟩, fn, c3⟩, ⟨nm, st, rq, some ⟨g5, 0, none⟩, n, c5, af, some ⟨g7, 0, none⟩, n2, c7⟩⟩) :=
    ⟨(Row.setCells hF1 vs 0 o38).wide HW, (Row.setCells hF1 vs 0 o58).wide HW, (Row.setCells hF1 vs 0 o78).wide HW, fun k hk e => hne57 k hk e⟩
  have HBL : Hid (Below w.heap.size w (W8.setCells (w.heap.size + 1) 0 vs)) := below_setCells (by omega) vs 0 hb8
  have hvl : vs.length = 9 := by rw [hvs]; rfl
  have HRES : Hid (Blk (W8.setCells (w.heap.size + 1) 0 vs) (w.heap.size + 1) 48 vs.toArray) := by
    have h9 := Blk.setCells vs 0 hR8
    have e : sets cr 0 vs = vs.toArray := by
      apply Array.toList_inj.1
      rw [sets_list _ _ _ (by omega), List.take_zero, List.nil_append, List.drop_eq_nil_of_le (by rw [Array.length_toList]; omega), List.append_nil]
    rwa [e] at h9
  have r3 := S3.run
  have r5 := S5.run
  have r7 := S7.run
  rw [hz1, hW1, hcs] at r3
  rw [hz4, hW4] at r5
  rw [hz6, hW6] at r7
  have HR3 := Lib.hid r3
  have HR5 := Lib.hid r5
  have HR7 := Lib.hid r7
  have x4 := hG3.cell 4
  have x7 := hG3.cell 7
  have y7 := hG5.cell 7
  have y8 := hG5.cell 8
  have z0 := hG7.cell 0
  have z1 := hG7.cell 1
  have z2 := hG7.cell 2
  have z3 := hG7.cell 3
  have z4 := hG7.cell 4
  have z5 := hG7.cell 5
  have z6 := hG7.cell 6
  have z7 := hG7.cell 7
  have z8 := hG7.cell 8
  have xf4 := hG3.frozen 4
  have yf7 := hG5.frozen 7
  have zf8 := hG7.frozen 8
  rw [hcs] at x4 x7 y7 y8 z0 z1 z2 z3 z4 z5 z6 z7 z8
  simp only [List.setIfInBounds_toArray, List.set_cons_zero, List.set_cons_succ, List.getElem?_toArray, List.getElem?_cons_zero, List.getElem?_cons_succ] at x4 x7 y7 y8 z0 z1 z2 z3 z4 z5 z6 z7 z8
  have q0 := hR7.cell 0
  have qf0 := hR7.frozen 0
  have q1 := hR7.cell 1
  have qf1 := hR7.frozen 1
  have q2 := hR7.cell 2
  have qf2 := hR7.frozen 2
  have q3 := hR7.cell 3
  have qf3 := hR7.frozen 3
  have q4 := hR7.cell 4
  have qf4 := hR7.frozen 4
  have q5 := hR7.cell 5
  have qf5 := hR7.frozen 5
  have q6 := hR7.cell 6
  have qf6 := hR7.frozen 6
  have q7 := hR7.cell 7
  have qf7 := hR7.frozen 7
  have q8 := hR7.cell 8
  have qf8 := hR7.frozen 8
  rw [hcr0] at q0 q1 q2 q3 q4 q5 q6 q7 q8
  simp only [List.getElem?_toArray, List.getElem?_cons_zero, List.getElem?_cons_succ] at q0 q1 q2 q3 q4 q5 q6 q7 q8
  have l3 : w.heap.size < w3.heap.size := by omega
  have l5 : w.heap.size < w5.heap.size := by omega
  have l7 : w.heap.size < w7.heap.size := by omega
  have HLN : Hid (ActLens ⟨kind, name, ⟨fp, fk, fd, some ⟨g3, 0, none⟩, fn, c3⟩, ⟨nm, st, rq, some ⟨g5, 0, none⟩, n, c5, af, some ⟨g7, 0, none⟩, n2, c7⟩⟩) := ⟨l1, l2, l3'⟩
  rw [hvs, hW8] at HO HBL HRES
  simp only [World.setCells, Nat.zero_add, Nat.reduceAdd] at HO HBL HRES
  clear S3 S5 S7 r3 r5 r7 hW1 hW4 hW6 hW8 hG1 hG3 hG4 hG5 hG6 hG7 hG8 hR1 hR3 hR4 hR5 hR6 hR7 hR8 o3 o34 o35 o36 o37 o38 o5 o56 o57 o58 o7 o78 hb1 hb3 hb4 hb5 hb6 hb7 hb8 own HW hF hF0 hF1 h1 h2 h3 hz1 hz4 hz6 hvs hvl hcr0 hcr hcs hne57 s13 s35 s57 t5 t7 l1 l2 l3'
  unfold avArr
  simp only
  go_enter Tryd.func11, Tryd.ntmps11
  go_wp2_with (first
    | (at_builtin; refine wpList_append_run rfl _ _ _ rfl rfl rfl HR3.out ?_; clear HR3)
    | (at_builtin; refine wpList_append_run rfl _ _ _ rfl rfl rfl HR5.out ?_; clear HR5)
    | (at_builtin; refine wpList_append_run rfl _ _ _ rfl rfl rfl HR7.out ?_; clear HR7))
  exact bodyPost_ret (results_aggr (t := 2) (g := w.heap.size + 1) rfl rfl Tryd.isAgg48 Tryd.sizeOf48 rfl HRES.out) rfl ⟨⟨kind, name, ⟨fp, fk, fd, some ⟨g3, 0, none⟩, fn, c3⟩, ⟨nm, st, rq, some ⟨g5, 0, none⟩, n, c5, af, some ⟨g7, 0, none⟩, n2, c7⟩⟩, rfl, rfl, HO.out, HLN.out, HBL.out⟩
end Go.Proofs.YtibndaianhlcaaaDoor
namespace Go.Proofs.YtibndaianhlcaaaDoor
open Go.RowKit Go.Sort Go.Shelf
set_option linter.unusedVariables false
set_option linter.unusedSimpArgs false

def txtC (t : Txt) : List Value := [encStr t]
theorem txtC_map (l : List Txt) : l.map encStr = l.flatMap txtC := by
  induction l with
  | nil => rfl
  | cons a l ih => rw [List.map_cons, List.flatMap_cons, ih]; rfl
theorem first_of {L : List Txt} {name : Txt} (h : ¬ ∀ i (hi : i < L.length), L[i] ≠ name) : ∃ k, ∃ hk : k < L.length, L[k] = name ∧ ∀ i (hi : i < L.length), i < k → L[i] ≠ name := by
  induction L with
  | nil => exact absurd (fun i hi => by simp at hi) h
  | cons a L ih =>
    by_cases ha : a = name
    · exact ⟨0, by simp, ha, fun i _ h => absurd h (Nat.not_lt_zero _)⟩
    · obtain ⟨k, hk, h1, h2⟩ := ih (fun h' => h (fun i hi => by
        cases i with
        | zero => exact ha
        | succ i => exact h' i (by simpa using hi)))
      refine ⟨k + 1, by simpa using hk, h1, fun i hi hik => ?_⟩
      cases i with
      | zero => exact ha
      | succ i => exact h2 i (by simpa using hi) (by omega)
def keepT (name : Txt) (x : Txt) : Bool := decide (x ≠ name)
def DelPostS (w : World) (F : Nat → Prop) (A : Option Addr) (n c : Nat) (l : List Txt) (name : Txt) : Ending → World → Prop := fun e w' => ∃ m, e = .returned (.slice A m c) ∧ Row w' F 9 1 (.slice A m c) m ((l.filter (keepT name)).map encStr) ∧ w.grownBy w' (Value.slice A n c).ownBlock
set_option maxRecDepth 100000 in
set_option maxHeartbeats 2000000 in
theorem delS_any {w : World} {F : Nat → Prop} {A : Option Addr} {n c : Nat} {l : List Txt} (h : Row w F 9 1 (.slice A n c) n (l.map encStr)) (hn : n ≤ 1000000) (name : Txt) (ba : Nat) {cs : Array Value} (hba : Blk w ba 48 cs) (hcs : cs[1]? = some (.string ⟨name.toArray⟩)) :
    Calls Tryd.prog 22 #[.slice A n c, .func (.func 23) #[] #[.pointer (some ⟨ba, 0, none⟩)]] w (DelPostS w F A n c l name) := by
  have hbn : w.cell? ⟨ba, 1, none⟩ = some (.string ⟨name.toArray⟩) := by rw [hba.cell]; exact hcs
  have hl : l.length = n := by have := h.own.1; simpa using this
  have hidx := idxS_any (h.slc') (Nat.le_refl _) (by omega) name ba hbn
  by_cases hno : ∀ i (hi : i < l.length), l[i] ≠ name
  · have hidx' : Calls Tryd.prog 39 #[.slice A n c, .func (.func 23) #[] #[.pointer (some ⟨ba, 0, none⟩)]] w fun e w' => e = .returned (.int .i64 (-1)) ∧ Below w.heap.size w w' := hidx.mono (by
      rintro e w' ⟨r, rfl, hf, hb⟩
      rcases hf with ⟨rfl, _⟩ | ⟨k, hk, _, h2, _⟩
      · exact ⟨rfl, hb⟩
      · exact absurd h2 (hno k hk))
    have HF := Lib.hid (show l.filter (keepT name) = l from List.filter_eq_self.2 fun x hx => by
      obtain ⟨i, hi, rfl⟩ := List.mem_iff_getElem.1 hx
      exact decide_eq_true (hno i hi))
    have H := Lib.hid h
    clear hidx hno h hba hcs hbn hl
    go_enter Tryd.func22, Tryd.ntmps22
    go_wp2_with (go_at_call 39; refine hidx'.mono ?_; clear hidx'; rintro e w1 ⟨rfl, hb1⟩)
    go_ret
    exact ⟨n, rfl, by rw [HF.out]; exact H.out.belo hb1, ⟨hb1.os, hb1.tape, hb1.output, hb1.size, fun k hk _ => hb1.block k hk⟩⟩
  · obtain ⟨k, hk, hk1, hk2⟩ := first_of hno
    have hidx' : Calls Tryd.prog 39 #[.slice A n c, .func (.func 23) #[] #[.pointer (some ⟨ba, 0, none⟩)]] w fun e w' => e = .returned (.int .i64 (k : Int)) ∧ Below w.heap.size w w' := hidx.mono (by
      rintro e w' ⟨r, rfl, hf, hb⟩
      rcases hf with ⟨_, h2⟩ | ⟨k', hk', rfl, h2, h3⟩
      · exact absurd hk1 (h2 k hk)
      · rcases Nat.lt_trichotomy k k' with h4 | h4 | h4
        · exact absurd hk1 (h3 k hk h4)
        · subst h4; exact ⟨rfl, hb⟩
        · exact absurd h2 (hk2 k' hk' h4))
    rcases h.own.2 with ⟨e, h0⟩ | ⟨g, cap, cur, e, hb0, hb, hb1, hb2, hb3, hb4⟩
    · omega
    injection e with e1 _ e3
    subst e1 e3
    have hB : Blk w g 9 cur := hb
    have hFg : F g := h.foot g rfl
    have hbg : ba ≠ g := by
      rintro rfl
      unfold Blk at hB hba
      rw [hB] at hba
      injection hba with hba
      injection hba with _ hba
      exact absurd hba (by decide)
    rw [txtC_map] at hb4
    obtain ⟨m0, m1⟩ := midR_start (keepT name) l hk (fun i hi hik => decide_eq_true (hk2 i hi hik)) (decide_eq_false (by simpa using hk1))
    have HB := Lib.hid hB
    have HM0 := Lib.hid m0
    have HM1 := Lib.hid m1
    have HC3 := Lib.hid (show cur.size = c * 1 from hb3)
    have HC4 := Lib.hid hb4
    have HL := Lib.hid hl
    have HBA := Lib.hid hbn
    have hkn : k < n := by omega
    have hk62 : k ≤ 1000000 := by omega
    have HBL := Lib.hid hba.lt
    have hc63 : c ≤ 9223372036854775807 := by unfold maxLen at hb2; omega
    have hneg : ((k : Int) == -1) = false := by rw [beq_eq_false_iff_ne]; omega
    have hk1w : IntKind.i64.wrap ((k : Int) + 1) = (k : Int) + 1 := IntWalk.i64_in _ (by omega)
    clear hidx hno h hba hcs hbn hl hb hB hb3 hb4 m0 m1 hk1 hk2
    go_enter Tryd.func22, Tryd.ntmps22
    go_wp2_with (go_at_call 39; refine hidx'.mono ?_; clear hidx'; rintro e w1 ⟨rfl, hbw1⟩)
    go_loopw [5, 6] (fun si sj wr => ∃ (i j : Nat) (cur' : Array Value), i < j ∧ j ≤ n ∧ si = .int .i64 (i : Int) ∧ sj = .int .i64 (j : Int) ∧ Aside (((l.take j).filter (keepT name)).length = i) ∧ Aside (Blk wr g 9 cur') ∧ Aside (cur'.size = c * 1) ∧ Aside (cur'.toList.take (n * 1) = (midR (keepT name) l i j).flatMap txtC) ∧ Aside (w.grownBy wr (some g))) (fun _ sj _ => n - (intOf sj).toNat)
    case atStart => exact ⟨k, k + 1, cur, Nat.lt_succ_self _, hkn, rfl, by go_num, HM1.out, HB.out.below hbw1 HB.out.lt, HC3.out, by show _ = _; rw [HM0.out]; exact HC4.out, ⟨hbw1.os, hbw1.tape, hbw1.output, hbw1.size, fun k hk _ => hbw1.block k hk⟩⟩
    case round =>
      obtain ⟨i, j, cur', hij, hjn, rfl, rfl, hlen, hB, hsz, ht, hg⟩ := hrel
      have hin : i < n := Nat.lt_of_lt_of_le hij hjn
      have hi62 : i ≤ 1000000 := by omega
      by_cases hlt : j < n
      · have hj1 : j + 1 ≤ n := hlt
        have hjl : j < l.length := by rw [HL.out]; exact hlt
        have c0 : wr.cell? ⟨g, j, none⟩ = some (.string ⟨l[j].toArray⟩) := by
          have h1 := midR_get (keepT name) l hlen.out (Nat.le_of_lt hij)
          have h2 : (cur'.toList.take (n * 1))[j]? = ((midR (keepT name) l i j).flatMap txtC)[j]? := by rw [show cur'.toList.take (n * 1) = _ from ht.out]
          rw [← txtC_map, List.getElem?_map, h1, List.getElem?_take, if_pos (by omega), List.getElem?_eq_getElem hjl] at h2
          rw [hB.out.cell, ← Array.getElem?_toList, h2]
          rfl
        have hcb : wr.cell? ⟨ba, 1, none⟩ = some (.string ⟨name.toArray⟩) := by
          rw [World.cell?_of_block (w := w) (a := ⟨ba, 1, none⟩) (hg.out.block ba HBL.out (by intro e9; injection e9 with e9; exact hbg e9))]
          exact HBA.out
        have hp := predS_any l[j] name ba wr hcb
        have hK := Lib.hid (fun h9 => midR_keep (keepT name) l hlen.out (Nat.le_of_lt hij) hjl h9)
        have hD := Lib.hid (fun h9 => midR_drop (keepT name) l hjl h9)
        have hKT := Lib.hid (show keepT name l[j] = !decide (l[j] = name) by unfold keepT; simp)
        have hMS := Lib.hid (sets_rec txtC 1 (fun _ => rfl) hsz.out (midR_len (keepT name) l hlen.out (by omega) |>.trans HL.out) (by omega : n ≤ c) ht.out hin l[j])
        generalize l[j] = x at *
        have i0 := hB.out.cell i
        rw [Array.getElem?_eq_getElem (show i < cur'.size by rw [hsz.out]; omega)] at i0
        by_cases hhit : x = name
        · rw [decide_eq_true hhit] at hp
          have HKF := Lib.hid (hD.out (by rw [hKT.out, decide_eq_true hhit]; rfl))
          clear hhit i0
          go_wp2_with (go_at_call 23; refine hp.mono ?_; clear hp; rintro e2 w2 ⟨rfl, hb2⟩)
          exact ⟨⟨i, j + 1, cur', Nat.lt_succ_of_lt hij, hj1, rfl, by go_num, by show _ = _; rw [HKF.out]; exact hlen.out, hB.out.below hb2 hB.out.lt, hsz.out, by show _ = _; unfold midR; rw [HKF.out]; exact ht.out, ⟨hb2.os.trans hg.out.os, hb2.tape.trans hg.out.tape, hb2.output.trans hg.out.output, Nat.le_trans hg.out.size hb2.size, fun q hq hne => by rw [hb2.block q (Nat.lt_of_lt_of_le hq hg.out.size), hg.out.block q hq hne]⟩⟩, by clear HKF; simp [intOf]; omega⟩
        · rw [decide_eq_false hhit] at hp
          have HKP := Lib.hid (hK.out (by rw [hKT.out, decide_eq_false hhit]; rfl))
          clear hhit
          go_wp2_with (go_at_call 23; refine hp.mono ?_; clear hp; rintro e2 w2 ⟨rfl, hb2⟩; have hB2 := hB.out.below hb2 hB.out.lt; have i2 := hB2.cell i; rw [Array.getElem?_eq_getElem (show i < cur'.size by rw [hsz.out]; omega)] at i2; have if2 := hB2.frozen i; have HB2 := Lib.hid hB2; clear hB2)
          have HS : Hid (Blk (w2.setCell ⟨g, i, none⟩ (.string ⟨x.toArray⟩)) g 9 (sets cur' (i * 1) (txtC x))) := by
            have h9 := HB2.out.set_ i (.string ⟨x.toArray⟩)
            rw [Nat.mul_one]
            exact h9
          exact ⟨⟨i + 1, j + 1, _, Nat.succ_lt_succ hij, hj1, by go_num, by go_num, HKP.out.2, HS.out, by show _ = _; rw [sets_size]; exact hsz.out, by show _ = _; rw [hMS.out, HKP.out.1], ⟨hb2.os.trans hg.out.os, hb2.tape.trans hg.out.tape, hb2.output.trans hg.out.output, by have := Nat.le_trans hg.out.size hb2.size; simpa [World.setCell] using this, fun q hq hne => by rw [Below.heap_setCell _ _ _ _ (fun e9 => hne (by rw [e9])), hb2.block q (Nat.lt_of_lt_of_le hq hg.out.size), hg.out.block q hq hne]⟩⟩, by clear HKP HS; simp [intOf]; omega⟩
      · obtain rfl : j = n := by omega
        have hlf : (l.filter (keepT name)).length = i := by
          have h9 := hlen.out
          rwa [List.take_of_length_le (Nat.le_of_eq HL.out)] at h9
        obtain ⟨vs, hvl, hcl⟩ := run_clear_any (W := wr) (T := 9) (sl := 29) (sz := 1) (off := i) (N := j - i) (c := c - i) Tryd.underlying29 Tryd.zeroValue9 rfl (by intro v hv; simp [Value.cells] at hv; rw [hv]; rfl) hB.out (by rw [hsz.out]; omega) (by omega)
        have HBF := Lib.hid (Blk.setCells vs i hB.out)
        have HGF := Lib.hid (grownBy_setCells (g := g) vs i hg.out)
        have HVL := Lib.hid hvl
        have hic : i ≤ c := by omega
        have hnec : ¬ i = c := by omega
        have hnec2 : ¬ c = i := by omega
        have hile : i ≤ j := Nat.le_of_lt hij
        have HT := Lib.hid (show (sets cur' i vs).toList.take (i * 1) = (l.filter (keepT name)).map encStr by
          have h1 : i + vs.length ≤ cur'.size := by rw [hsz.out, hvl]; omega
          have h2 := congrArg (List.take i) ht.out
          have h3 := midR_end (keepT name) l (i := i)
          rw [HL.out, hlf] at h3
          rw [← txtC_map, ← List.map_take, h3, List.take_take, Nat.mul_one, Nat.min_eq_left hile] at h2
          rw [Nat.mul_one, sets_list _ _ _ h1, List.append_assoc, List.take_append_of_le_length (by rw [List.length_take, Array.length_toList]; omega), List.take_take, Nat.min_self]
          exact h2)
        have HLF := Lib.hid hlf
        clear hvl hlf hlen
        go_wp2_with (fail)
        go_ret
        exact ⟨i, rfl, ⟨⟨by rw [List.length_map, HLF.out, Nat.mul_one], .inr ⟨g, c, _, rfl, Nat.zero_le _, HBF.out, hic, hb2, by rw [sets_size, hsz.out], HT.out⟩⟩, fun q hq => by injection hq with hq; rw [← hq]; exact hFg⟩, HGF.out⟩
end Go.Proofs.YtibndaianhlcaaaDoor
namespace Go.Proofs.YtibndaianhlcaaaDoor
open Go.RowKit Go.Sort Go.Shelf
set_option linter.unusedVariables false
set_option linter.unusedSimpArgs false

theorem first_ofE {L : List EV} {name : Txt} (h : ¬ ∀ i (hi : i < L.length), L[i].path ≠ name) : ∃ k, ∃ hk : k < L.length, L[k].path = name ∧ ∀ i (hi : i < L.length), i < k → L[i].path ≠ name := by
  obtain ⟨k, hk, h1, h2⟩ := first_of (L := L.map (·.path)) (name := name) (fun h' => h (fun i hi => by have := h' i (by simpa using hi); simpa using this))
  exact ⟨k, by simpa using hk, by simpa using h1, fun i hi hik => by have := h2 i (by simpa using hi) hik; simpa using this⟩
def keepE (name : Txt) (x : EV) : Bool := decide (x.path ≠ name)
def DelPostE (w : World) (F : Nat → Prop) (A : Option Addr) (n c : Nat) (l : List EV) (name : Txt) : Ending → World → Prop := fun e w' => ∃ m, e = .returned (.slice A m c) ∧ Row w' F 44 3 (.slice A m c) m ((l.filter (keepE name)).flatMap evCells) ∧ w.grownBy w' (Value.slice A n c).ownBlock
set_option maxRecDepth 100000 in
set_option maxHeartbeats 2000000 in
theorem delE_any {w : World} {F : Nat → Prop} {A : Option Addr} {n c : Nat} {l : List EV} (h : Row w F 44 3 (.slice A n c) n (l.flatMap evCells)) (hE : EntsAt w w.heap.size A n c l) (hn : n ≤ 1000000) (name : Txt) (ba : Nat) {cs : Array Value} (hba : Blk w ba 48 cs) (hcs : cs[1]? = some (.string ⟨name.toArray⟩)) :
    Calls Tryd.prog 20 #[.slice A n c, .func (.func 21) #[] #[.pointer (some ⟨ba, 0, none⟩)]] w (DelPostE w F A n c l name) := by
  have hbn : w.cell? ⟨ba, 1, none⟩ = some (.string ⟨name.toArray⟩) := by rw [hba.cell]; exact hcs
  have hl : l.length = n := hE.len
  have hidx := idxE_any hE (Nat.le_refl _) (by omega) name ba hbn
  by_cases hno : ∀ i (hi : i < l.length), l[i].path ≠ name
  · have hidx' : Calls Tryd.prog 38 #[.slice A n c, .func (.func 21) #[] #[.pointer (some ⟨ba, 0, none⟩)]] w fun e w' => e = .returned (.int .i64 (-1)) ∧ Below w.heap.size w w' := hidx.mono (by
      rintro e w' ⟨r, rfl, hf, hb⟩
      rcases hf with ⟨rfl, _⟩ | ⟨k, hk, _, h2, _⟩
      · exact ⟨rfl, hb⟩
      · exact absurd h2 (hno k hk))
    have HF := Lib.hid (show l.filter (keepE name) = l from List.filter_eq_self.2 fun x hx => by
      obtain ⟨i, hi, rfl⟩ := List.mem_iff_getElem.1 hx
      exact decide_eq_true (hno i hi))
    have H := Lib.hid h
    clear hidx hno h hE hba hcs hbn hl
    go_enter Tryd.func20, Tryd.ntmps20
    go_wp2_with (go_at_call 38; refine hidx'.mono ?_; clear hidx'; rintro e w1 ⟨rfl, hb1⟩)
    go_ret
    exact ⟨n, rfl, by rw [HF.out]; exact H.out.belo hb1, ⟨hb1.os, hb1.tape, hb1.output, hb1.size, fun k hk _ => hb1.block k hk⟩⟩
  · obtain ⟨k, hk, hk1, hk2⟩ := first_ofE hno
    have hidx' : Calls Tryd.prog 38 #[.slice A n c, .func (.func 21) #[] #[.pointer (some ⟨ba, 0, none⟩)]] w fun e w' => e = .returned (.int .i64 (k : Int)) ∧ Below w.heap.size w w' := hidx.mono (by
      rintro e w' ⟨r, rfl, hf, hb⟩
      rcases hf with ⟨_, h2⟩ | ⟨k', hk', rfl, h2, h3⟩
      · exact absurd hk1 (h2 k hk)
      · rcases Nat.lt_trichotomy k k' with h4 | h4 | h4
        · exact absurd hk1 (h3 k hk h4)
        · subst h4; exact ⟨rfl, hb⟩
        · exact absurd h2 (hk2 k' hk' h4))
    rcases h.own.2 with ⟨e, h0⟩ | ⟨g, cap, cur, e, hb0, hb, hb1, hb2, hb3, hb4⟩
    · omega
    injection e with e1 _ e3
    subst e1 e3
    have hB : Blk w g 44 cur := hb
    have hFg : F g := h.foot g rfl
    have hbg : ba ≠ g := by
      rintro rfl
      unfold Blk at hB hba
      rw [hB] at hba
      injection hba with hba
      injection hba with _ hba
      exact absurd hba (by decide)
    obtain ⟨m0, m1⟩ := midR_start (keepE name) l hk (fun i hi hik => decide_eq_true (hk2 i hi hik)) (decide_eq_false (by simpa using hk1))
    have HB := Lib.hid hB
    have HM0 := Lib.hid m0
    have HM1 := Lib.hid m1
    have HC3 := Lib.hid (show cur.size = c * 3 from hb3)
    have HC4 := Lib.hid hb4
    have HL := Lib.hid hl
    have HBA := Lib.hid hbn
    have hkn : k < n := by omega
    have hk62 : k ≤ 1000000 := by omega
    have HBL := Lib.hid hba.lt
    have hc63 : c ≤ 9223372036854775807 := by unfold maxLen at hb2; omega
    have hneg : ((k : Int) == -1) = false := by rw [beq_eq_false_iff_ne]; omega
    have hk1w : IntKind.i64.wrap ((k : Int) + 1) = (k : Int) + 1 := IntWalk.i64_in _ (by omega)
    clear hidx hno h hE hba hcs hbn hl hb hB hb3 hb4 m0 m1 hk1 hk2
    go_enter Tryd.func20, Tryd.ntmps20
    go_wp2_with (go_at_call 38; refine hidx'.mono ?_; clear hidx'; rintro e w1 ⟨rfl, hbw1⟩)
    go_loopw [5, 6] (fun si sj wr => ∃ (i j : Nat) (cur' : Array Value), i < j ∧ j ≤ n ∧ si = .int .i64 (i : Int) ∧ sj = .int .i64 (j : Int) ∧ Aside (((l.take j).filter (keepE name)).length = i) ∧ Aside (Blk wr g 44 cur') ∧ Aside (cur'.size = c * 3) ∧ Aside (cur'.toList.take (n * 3) = (midR (keepE name) l i j).flatMap evCells) ∧ Aside (w.grownBy wr (some g))) (fun _ sj _ => n - (intOf sj).toNat)
    case atStart => exact ⟨k, k + 1, cur, Nat.lt_succ_self _, hkn, rfl, by go_num, HM1.out, HB.out.below hbw1 HB.out.lt, HC3.out, by show _ = _; rw [HM0.out]; exact HC4.out, ⟨hbw1.os, hbw1.tape, hbw1.output, hbw1.size, fun k hk _ => hbw1.block k hk⟩⟩
    case round =>
      obtain ⟨i, j, cur', hij, hjn, rfl, rfl, hlen, hB, hsz, ht, hg⟩ := hrel
      have hin : i < n := Nat.lt_of_lt_of_le hij hjn
      have hi62 : i ≤ 1000000 := by omega
      by_cases hlt : j < n
      · have hj1 : j + 1 ≤ n := hlt
        have hjl : j < l.length := by rw [HL.out]; exact hlt
        have cE : ∀ t u, t < 3 → (evCells l[j])[t]? = some u → wr.cell? ⟨g, j * 3 + t, none⟩ = some u := fun t u ht3 hu => by
          have h1 := midR_get (keepE name) l hlen.out (Nat.le_of_lt hij)
          have hRl : (midR (keepE name) l i j).length = n := (midR_len (keepE name) l hlen.out (by omega)).trans HL.out
          have hjR : j < (midR (keepE name) l i j).length := by omega
          rw [List.getElem?_eq_getElem hjR, List.getElem?_eq_getElem hjl] at h1
          have h2 := flatMap_get evCells 3 (midR (keepE name) l i j) (fun o _ => evCells_length o) j t hjR ht3
          rw [Option.some.inj h1, hu, ← show cur'.toList.take (n * 3) = _ from ht.out, List.getElem?_take, if_pos (by omega)] at h2
          rw [hB.out.cell, ← Array.getElem?_toList, h2]
        have c0 := cE 0 _ (by decide) rfl
        have c1 := cE 1 _ (by decide) rfl
        have c2 := cE 2 _ (by decide) rfl
        rw [Nat.add_zero] at c0
        clear cE
        have hcb : wr.cell? ⟨ba, 1, none⟩ = some (.string ⟨name.toArray⟩) := by
          rw [World.cell?_of_block (w := w) (a := ⟨ba, 1, none⟩) (hg.out.block ba HBL.out (by intro e9; injection e9 with e9; exact hbg e9))]
          exact HBA.out
        have hbal : ba < wr.heap.size := World.block_lt_of_cell? _ _ hcb
        have hgl : g < wr.heap.size := hB.out.lt
        have hp := predE_any l[j] name ba (wr.alloc (.cells (evArr l[j]) 44)) ((cells_alloc hbal _ 1).trans hcb)
        have HVAR := Lib.hid (Blk.new wr 44 (evArr l[j]))
        have HBV := Lib.hid ((Below.refl wr.heap.size wr).alloc (Nat.le_refl _) (.cells (evArr l[j]) 44))
        have hK := Lib.hid (fun h9 => midR_keep (keepE name) l hlen.out (Nat.le_of_lt hij) hjl h9)
        have hD := Lib.hid (fun h9 => midR_drop (keepE name) l hjl h9)
        have hKT := Lib.hid (show keepE name l[j] = !decide (l[j].path = name) by unfold keepE; simp)
        have hMS := Lib.hid (sets_rec evCells 3 (fun _ => rfl) hsz.out (midR_len (keepE name) l hlen.out (by omega) |>.trans HL.out) (by omega : n ≤ c) ht.out hin l[j])
        generalize l[j] = x at *
        have hc3 : i * 3 + 2 < cur'.size := by rw [hsz.out]; omega
        by_cases hhit : x.path = name
        · rw [decide_eq_true hhit] at hp
          have HKF := Lib.hid (hD.out (by rw [hKT.out, decide_eq_true hhit]; rfl))
          clear hhit
          obtain ⟨xp, xk, xd, xA, xn, xc⟩ := x
          unfold evArr at hp
          simp only at c0 c1 c2 hp
          go_wp2_with (go_at_call 21; refine hp.mono ?_; clear hp; rintro e2 w2 ⟨rfl, hb2⟩; have hb2' := HBV.out.trans (Below.mono hb2 HBV.out.size); clear hb2; have hb2 := hb2'; clear hb2')
          exact ⟨⟨i, j + 1, cur', Nat.lt_succ_of_lt hij, hj1, rfl, by go_num, by show _ = _; rw [HKF.out]; exact hlen.out, hB.out.below hb2 hB.out.lt, hsz.out, by show _ = _; unfold midR; rw [HKF.out]; exact ht.out, ⟨hb2.os.trans hg.out.os, hb2.tape.trans hg.out.tape, hb2.output.trans hg.out.output, Nat.le_trans hg.out.size hb2.size, fun q hq hne => by rw [hb2.block q (Nat.lt_of_lt_of_le hq hg.out.size), hg.out.block q hq hne]⟩⟩, by clear HKF; simp [intOf]; omega⟩
        · rw [decide_eq_false hhit] at hp
          have HKP := Lib.hid (hK.out (by rw [hKT.out, decide_eq_false hhit]; rfl))
          clear hhit
          obtain ⟨xp, xk, xd, xA, xn, xc⟩ := x
          unfold evArr at hp HVAR HBV
          simp only at c0 c1 c2 hp
          go_wp2_with (go_at_call 21; go_loud (refine hp.mono ?_; clear hp; rintro e2 w2 ⟨rfl, hb9⟩; have hb2 := HBV.out.trans (Below.mono hb9 HBV.out.size); have hV2 := HVAR.out.below hb9 HVAR.out.lt; have v0 := hV2.cell 0; have v1 := hV2.cell 1; have v2 := hV2.cell 2; simp only [List.getElem?_toArray, List.getElem?_cons_zero, List.getElem?_cons_succ] at v0 v1 v2; have hB2 := hB.out.below hb2 hB.out.lt; have i0 := hB2.cell (i * 3); have i1 := hB2.cell (i * 3 + 1); have i2 := hB2.cell (i * 3 + 2); rw [Array.getElem?_eq_getElem (Nat.lt_of_le_of_lt (Nat.le_add_right _ 2) hc3)] at i0; rw [Array.getElem?_eq_getElem (Nat.lt_of_succ_lt hc3)] at i1; rw [Array.getElem?_eq_getElem hc3] at i2; have if0 := hB2.frozen (i * 3); have if1 := hB2.frozen (i * 3 + 1); have if2 := hB2.frozen (i * 3 + 2); have HB2 := Lib.hid hB2; have HBB := Lib.hid hb2; clear hB2 hV2 hb9 hb2))
          have hb2 := HBB.out
          have HS := Lib.hid (((HB2.out.set_ (i * 3) (.string ⟨xp.toArray⟩)).set_ (i * 3 + 1) (.int .i64 xk)).set_ (i * 3 + 2) (.slice xA xn xc))
          exact ⟨⟨i + 1, j + 1, _, Nat.succ_lt_succ hij, hj1, by go_num, by go_num, HKP.out.2, HS.out, by show _ = _; rw [show ((cur'.setIfInBounds (i * 3) (.string ⟨xp.toArray⟩)).setIfInBounds (i * 3 + 1) (.int .i64 xk)).setIfInBounds (i * 3 + 2) (.slice xA xn xc) = sets cur' (i * 3) (evCells ⟨xp, xk, xd, xA, xn, xc⟩) from rfl, sets_size]; exact hsz.out, by show _ = _; rw [show ((cur'.setIfInBounds (i * 3) (.string ⟨xp.toArray⟩)).setIfInBounds (i * 3 + 1) (.int .i64 xk)).setIfInBounds (i * 3 + 2) (.slice xA xn xc) = sets cur' (i * 3) (evCells ⟨xp, xk, xd, xA, xn, xc⟩) from rfl, hMS.out, HKP.out.1], ⟨hb2.os.trans hg.out.os, hb2.tape.trans hg.out.tape, hb2.output.trans hg.out.output, by have := Nat.le_trans hg.out.size hb2.size; simpa [World.setCell] using this, fun q hq hne => by rw [Below.heap_setCell _ _ _ _ (fun e9 => hne (by rw [e9])), Below.heap_setCell _ _ _ _ (fun e9 => hne (by rw [e9])), Below.heap_setCell _ _ _ _ (fun e9 => hne (by rw [e9])), hb2.block q (Nat.lt_of_lt_of_le hq hg.out.size), hg.out.block q hq hne]⟩⟩, by clear HKP HS; simp [intOf]; omega⟩
      · obtain rfl : j = n := by omega
        have hlf : (l.filter (keepE name)).length = i := by
          have h9 := hlen.out
          rwa [List.take_of_length_le (Nat.le_of_eq HL.out)] at h9
        obtain ⟨vs, hvl, hcl⟩ := run_clear_any (W := wr) (T := 44) (sl := 28) (sz := 3) (off := i * 3) (N := j - i) (c := c - i) Tryd.underlying28 Tryd.zeroValue44 rfl (by intro v hv; simp [Value.cells] at hv; rcases hv with rfl | rfl | rfl <;> rfl) hB.out (by rw [hsz.out]; omega) (by omega)
        have HBF := Lib.hid (Blk.setCells vs (i * 3) hB.out)
        have HGF := Lib.hid (grownBy_setCells (g := g) vs (i * 3) hg.out)
        have HVL := Lib.hid hvl
        have hic : i ≤ c := by omega
        have hnec : ¬ i = c := by omega
        have hnec2 : ¬ c = i := by omega
        have hile : i ≤ j := Nat.le_of_lt hij
        have HT := Lib.hid (show (sets cur' (i * 3) vs).toList.take (i * 3) = (l.filter (keepE name)).flatMap evCells by
          have h1 : i * 3 + vs.length ≤ cur'.size := by rw [hsz.out, hvl]; omega
          have h2 : (cur'.toList.take (j * 3)).take (i * 3) = ((midR (keepE name) l i j).flatMap evCells).take (i * 3) := by rw [show cur'.toList.take (j * 3) = _ from ht.out]
          have h3 := midR_end (keepE name) l (i := i)
          rw [HL.out, hlf] at h3
          rw [(flatMap_take evCells 3 _ i (fun o _ => evCells_length o)).1, h3, List.take_take, Nat.min_eq_left (by omega)] at h2
          have h4 : cur'.toList.length = cur'.size := Array.length_toList
          rw [sets_list _ _ _ h1, List.append_assoc, List.take_append_of_le_length (by rw [List.length_take]; omega), List.take_take, Nat.min_self]
          exact h2)
        have HLF := Lib.hid hlf
        clear hvl hlf hlen
        go_wp2_with (fail)
        go_ret
        exact ⟨i, rfl, ⟨⟨by rw [flatMap_len evCells 3 _ (fun o _ => evCells_length o), HLF.out], .inr ⟨g, c, _, rfl, Nat.zero_le _, HBF.out, hic, hb2, by rw [sets_size, hsz.out], HT.out⟩⟩, fun q hq => by injection hq with hq; rw [← hq]; exact hFg⟩, HGF.out⟩
end Go.Proofs.YtibndaianhlcaaaDoor
namespace Go.Proofs.YtibndaianhlcaaaDoor
open Go.RowKit Go.Sort Go.Shelf
set_option linter.unusedVariables false
set_option linter.unusedSimpArgs false

section
variable {w w' : World} {F : Nat → Prop} {g : Nat} {s : Mach} {fA : Option Addr} {fn fc : Nat} {es : List EV} {uA : Option Addr} {un uc : Nat} {nA : Option Addr} {nn nc : Nat} {us : List SV} {pA : Option Addr} {pn pc : Nat}
theorem MachV.setFiles (h : MachV w F g s fA fn fc es uA un uc nA nn nc us pA pn pc) {G : Nat → Prop} (hg : w.grownBy w' (Value.slice fA fn fc).ownBlock) (hF : ∀ k, F k → G k) {fA' : Option Addr} {fn' fc' : Nat} {es' : List EV}
    (hu : Row w' G 44 3 (.slice fA' fn' fc') fn' (es'.flatMap evCells)) (hd : ∀ e ∈ es', e ∈ es ∨ Row w' G 5 1 (.slice e.A e.n e.c) e.n (e.data.map bv)) :
    MachV (w'.setCell ⟨g, 0, none⟩ (.slice fA' fn' fc')) G g ⟨es'.map EV.ent, s.users, s.units, s.plan⟩ fA' fn' fc' es' uA un uc nA nn nc us pA pn pc := by
  have ht := row_typed h.files
  have k1 : ∀ {e : TypeId}, e ≠ 44 → _ := fun {e} he => grown_other hg ht (e := e) he
  have hB : Blk w' g 36 _ := (k1 (by decide) g _ (0, 0) h.blk).trans h.blk
  have k2 : ∀ {e : TypeId}, e ≠ 36 → _ := fun {e} he => set_other hB (e := e) he 0 (.slice fA' fn' fc')
  have hs : w'.heap.size ≤ (w'.setCell ⟨g, 0, none⟩ (.slice fA' fn' fc')).heap.size := by simp [World.setCell]
  refine ⟨hB.set_ 0 _, hF _ h.foot, hu.other (k2 (by decide)), rfl, fun e he => ?_, ((h.users.other (k1 (by decide))).other (k2 (by decide))).wide hF, ((h.units.other (k1 (by decide))).other (k2 (by decide))).wide hF, h.srvs,
    fun u hu' => (((h.req u hu').other (k1 (by decide))).other (k2 (by decide))).wide hF, fun u hu' => (((h.aft u hu').other (k1 (by decide))).other (k2 (by decide))).wide hF, ((h.plan.other hg.size (k1 (by decide))).other hs (k2 (by decide))).wide hF, h.sep⟩
  rcases hd e he with h1 | h1
  · exact (((h.data e h1).other (k1 (by decide))).other (k2 (by decide))).wide hF
  · exact h1.other (k2 (by decide))
theorem MachV.kept0 (h : MachV w F g s fA fn fc es uA un uc nA nn nc us pA pn pc) (hg : w.grownBy w' (Value.slice fA fn fc).ownBlock) : w'.cell? ⟨g, 0, none⟩ = some (.slice fA fn fc) ∧ w'.frozen? ⟨g, 0, none⟩ = false := by
  have hk := grown_other hg (row_typed h.files) (e := 36) (by decide) g _ (0, 0) h.blk
  have hB : Blk w' g 36 _ := hk.trans h.blk
  exact ⟨hB.cell 0, hB.frozen 0⟩
end
/-- The files that are kept, as the model says. -/
theorem filter_ents (es : List EV) (name : Txt) : (es.filter (keepE name)).map EV.ent = (es.map EV.ent).filter fun x => decide (x.path ≠ name) := by
  rw [List.filter_map]
  rfl
end Go.Proofs.YtibndaianhlcaaaDoor
namespace Go.Proofs.YtibndaianhlcaaaDoor
open Go.RowKit Go.Sort Go.Shelf
set_option linter.unusedVariables false
set_option linter.unusedSimpArgs false

theorem compare_sound : ∀ a b : Txt, (Lib.compareBytes a b < 0 ↔ a < b) ∧ (Lib.compareBytes a b = 0 ↔ a = b)
  | [], [] => by simp [Lib.compareBytes]
  | [], b :: bs => by simp [Lib.compareBytes]
  | a :: as', [] => by simp [Lib.compareBytes]
  | a :: as', b :: bs => by
    have ih := compare_sound as' bs
    unfold Lib.compareBytes
    by_cases h1 : a < b
    · rw [if_pos h1]
      refine ⟨⟨fun _ => List.Lex.rel h1, fun _ => (by decide)⟩, ⟨fun h => absurd h (by decide), fun h => ?_⟩⟩
      injection h with h _
      subst h
      exact absurd h1 (by simp)
    · rw [if_neg h1]
      by_cases h2 : b < a
      · rw [if_pos h2]
        refine ⟨⟨fun h => absurd h (by decide), fun h => ?_⟩, ⟨fun h => absurd h (by decide), fun h => ?_⟩⟩
        · rcases List.cons_lt_cons_iff.1 h with h3 | ⟨h3, _⟩
          · exact absurd h3 h1
          · subst h3; exact absurd h2 h1
        · injection h with h _
          subst h
          exact absurd h2 h1
      · rw [if_neg h2]
        have hab : a = b := by
          apply UInt8.toNat_inj.1
          have e1 : ¬ a.toNat < b.toNat := h1
          have e2 : ¬ b.toNat < a.toNat := h2
          omega
        subst hab
        refine ⟨ih.1.trans ⟨fun h => List.cons_lt_cons_iff.2 (.inr ⟨rfl, h⟩), fun h => ?_⟩, ih.2.trans ⟨fun h => (by rw [h]), fun h => (by injection h)⟩⟩
        rcases List.cons_lt_cons_iff.1 h with h3 | ⟨_, h3⟩
        · exact absurd h3 h1
        · exact h3
set_option maxRecDepth 100000 in
theorem cmpE_any (x : EV) (p : Txt) (w : World) :
    Calls Tryd.prog 42 #[.agg (evArr x), .string ⟨p.toArray⟩] w fun e w' => e = .returned (.int .i64 (Lib.compareBytes x.path p)) ∧ Below w.heap.size w w' := by
  have hb := (Below.refl w.heap.size w).alloc (Nat.le_refl _) (.cells (evArr x) 44)
  have hc := Tryd.strings_Compare ⟨x.path.toArray⟩ ⟨p.toArray⟩ (w.alloc (.cells (evArr x) 44))
  have e1 : (ByteArray.mk x.path.toArray).data.toList = x.path := rfl
  have e2 : (ByteArray.mk p.toArray).data.toList = p := rfl
  rw [e1, e2] at hc
  generalize Lib.compareBytes x.path p = r at *
  have HB := Lib.hid hb
  clear hb e1 e2
  obtain ⟨xp, xk, xd, xA, xn, xc⟩ := x
  unfold evArr at hc ⊢
  simp only at hc ⊢
  go_enter Tryd.func42, Tryd.ntmps42
  go_wp2_with (go_at_call 43; refine hc.mono ?_; clear hc; rintro e2 w2 ⟨rfl, rfl⟩)
  go_ret
  exact ⟨rfl, HB.out⟩
end Go.Proofs.YtibndaianhlcaaaDoor
