/- machine.file. machine.Do. The walks of the reference's Same and SameTexts (bootjackref08). -/
import Derived.Test.YtibndaianhlcaaaGreatDoorPart19
import Derived.Test.YtibndaianhlcaaaGreatDoorPart18
import Derived.Test.YtibndaianhlcaaaGreatDoorPart9
import Derived.Deep.QuietTactic
import Derived.BigQuiet
namespace Go.Proofs.YtibndaianhlcaaaGreatDoor
open Go.RowKit Go.Sort Go.Shelf
set_option linter.unusedVariables false
set_option linter.unusedSimpArgs false

section
variable {w w' : World} {F : Nat → Prop} {g : Nat} {s : Mach} {fA : Option Addr} {fn fc : Nat} {es : List EV} {uA : Option Addr} {un uc : Nat} {nA : Option Addr} {nn nc : Nat} {us : List SV} {pA : Option Addr} {pn pc : Nat}
/-- The cells of its files' row turn. -/
theorem MachV.turnFiles (h : MachV w F g s fA fn fc es uA un uc nA nn nc us pA pn pc) {G : Nat → Prop} (hg : w.grownBy w' (Value.slice fA fn fc).ownBlock) (hF : ∀ k, F k → G k) {es' : List EV}
    (hu : Row w' G 35 3 (.slice fA fn fc) fn (es'.flatMap evCells)) (hd : ∀ e ∈ es', e ∈ es ∨ Row w' G 5 1 (.slice e.A e.n e.c) e.n (e.data.map bv)) :
    MachV w' G g ⟨es'.map EV.ent, s.users, s.units, s.plan⟩ fA fn fc es' uA un uc nA nn nc us pA pn pc := by
  have ht := row_typed h.files
  have k1 : ∀ {e : TypeId}, e ≠ 35 → _ := fun {e} he => grown_other hg ht (e := e) he
  have hB : Blk w' g 53 _ := (k1 (by decide) g _ (0, 0) h.blk).trans h.blk
  refine ⟨hB, hF _ h.foot, hu, rfl, fun e he => ?_, (h.users.other (k1 (by decide))).wide hF, (h.units.other (k1 (by decide))).wide hF, h.srvs,
    fun u hu' => ((h.req u hu').other (k1 (by decide))).wide hF, fun u hu' => ((h.aft u hu').other (k1 (by decide))).wide hF, (h.plan.other hg.size (k1 (by decide))).wide hF, h.sep⟩
  rcases hd e he with h1 | h1
  · exact ((h.data e h1).other (k1 (by decide))).wide hF
  · exact h1
end
theorem set_ents (es : List EV) (i : Nat) (x : EV) : (es.set i x).map EV.ent = (es.map EV.ent).set i x.ent := List.map_set
theorem mem_set_or {es : List EV} {i : Nat} {x e : EV} (h : e ∈ es.set i x) : e ∈ es ∨ e = x := List.mem_or_eq_of_mem_set h
theorem ins_ents (es : List EV) (i : Nat) (x : EV) : (insA es i x).map EV.ent = insA (es.map EV.ent) i x.ent := by simp [insA, List.map_take, List.map_drop]
theorem mem_ins {α : Type} {l : List α} {i : Nat} {x e : α} (h : e ∈ insA l i x) : e ∈ l ∨ e = x := by
  unfold insA at h
  rcases List.mem_append.1 h with h | h
  · exact .inl (List.mem_of_mem_take h)
  · rcases List.mem_cons.1 h with h | h
    · exact .inr h
    · exact .inl (List.mem_of_mem_drop h)
theorem paths_ents (es : List EV) : es.map (·.path) = pathsE (es.map EV.ent) := by simp [pathsE, EV.ent, List.map_map, Function.comp_def]
/-- The file's data are copied. -/
structure FileCopy (w : World) (F : Nat → Prop) (w3 : World) (g : Nat) (fs : List Ent) (fA : Option Addr) (fn fc : Nat) (A : Option Addr) (n c : Nat) (path : Txt) (k : Int) (d : Txt) (g4 c4 : Nat) (w4 : World) : Prop where
  run : (Builtin.append_ #[33, 33] 33 #[.slice (some ⟨w3.heap.size, 0, none⟩) 0 0, .slice A n c]).run Tryz.prog (w3.alloc (.cells #[] 5)) = .ok (.slice (some ⟨g4, 0, none⟩) n c4) w4
  own : w4.ownsRow w.heap.size 5 1 (.slice (some ⟨g4, 0, none⟩) n c4) n (d.map bv)
  bel : Below w.heap.size w w4
  box : Blk w4 w.heap.size 35 #[.string ⟨path.toArray⟩, .int .i64 k, .slice A n c]
  b2 : w3.cell? ⟨w.heap.size, 2, none⟩ = some (.slice A n c)
  c2 : w4.cell? ⟨w.heap.size, 2, none⟩ = some (.slice A n c)
  cf2 : w4.frozen? ⟨w.heap.size, 2, none⟩ = false
  m4 : w4.cell? ⟨g, 0, none⟩ = some (.slice fA fn fc)
  lt3 : w.heap.size < w3.heap.size
  lt4 : w.heap.size < w4.heap.size
  ne : g4 ≠ w.heap.size
  bs : Calls Tryz.prog 112 #[.slice fA fn fc, .string ⟨path.toArray⟩, .func (.func 113) #[] #[]] (w4.setCell ⟨w.heap.size, 2, none⟩ (.slice (some ⟨g4, 0, none⟩) n c4)) fun e w' => e = .returned (.tuple #[.int .i64 (aheadN (pathsE fs) path : Int), .bool (decide ((pathsE fs)[aheadN (pathsE fs) path]? = some path))]) ∧ Below w4.heap.size (w4.setCell ⟨w.heap.size, 2, none⟩ (.slice (some ⟨g4, 0, none⟩) n c4)) w'
theorem file_copy {w : World} {F : Nat → Prop} {g : Nat} {s : Mach} {fA : Option Addr} {fn fc : Nat} {es : List EV} {uA : Option Addr} {un uc : Nat} {nA : Option Addr} {nn nc : Nat} {us : List SV} {pA : Option Addr} {pn pc : Nat} (h : MachV w F g s fA fn fc es uA un uc nA nn nc us pA pn pc)
    {B : Nat} {A : Option Addr} {n c : Nat} {path : Txt} {k : Int} {d : Txt} (hx : Slc w B 1 A n c (d.map bv)) (hB : B ≤ w.heap.size) {W2 w3 : World} (hG : Blk W2 w.heap.size 35 (evArr ⟨path, k, d, A, n, c⟩)) (hb2 : Below w.heap.size w W2) (hz2 : W2.heap.size = w.heap.size + 2) (hb : Below W2.heap.size W2 w3) (hn : n ≤ 1000000000) (hfn : fn ≤ 1000000) (hr : Rises (pathsE s.files)) :
    ∃ g4 c4 w4, FileCopy w F w3 g s.files fA fn fc A n c path k d g4 c4 w4 := by
  have hb3 : Below w.heap.size w w3 := hb2.trans (hb.mono hb2.size)
  have hs3 := hb.size
  obtain ⟨g4, c4, w4, S⟩ := bytes_copy (hx.below (hb3.mono hB)) (Nat.le_trans hB hb3.size) hn
  have hG3 := hG.below hb hG.lt
  have hG4 := hG3.below S.bel hG3.lt
  have hb4 : Below w.heap.size w w4 := hb3.trans (S.bel.mono hb3.size)
  have hs4 := S.bel.size
  have hb5 := hb4.setCell (p := ⟨w.heap.size, 2, none⟩) (Nat.le_refl _) (.slice (some ⟨g4, 0, none⟩) n c4)
  have hz5 : (w4.setCell ⟨w.heap.size, 2, none⟩ (.slice (some ⟨g4, 0, none⟩) n c4)).heap.size = w4.heap.size := by simp [World.setCell]
  have hbs := bsE_any (h.below hb5).entsAt (Nat.le_refl _) hfn (by rw [paths_ents, h.ents]; exact hr) path
  rw [paths_ents, h.ents, hz5] at hbs
  refine ⟨g4, c4, w4, S.run, ⟨S.own.1, S.own.2.imp id fun ⟨g', cap, cur, e, he, r⟩ => ⟨g', cap, cur, e, by have := hb3.size; omega, r⟩⟩, hb4, hG4, hG3.cell 2, hG4.cell 2, hG4.frozen 2, (h.below hb4).facts.1, by omega, by omega, by have := S.ge; omega, hbs⟩
/-- Behind the search. -/
structure FileMid (w : World) (F : Nat → Prop) (w6 : World) (g : Nat) (s : Mach) (fA : Option Addr) (fn fc : Nat) (es : List EV) (uA : Option Addr) (un uc : Nat) (nA : Option Addr) (nn nc : Nat) (us : List SV) (pA : Option Addr) (pn pc : Nat) (x : EV) : Prop where
  mach : MachV w6 F g s fA fn fc es uA un uc nA nn nc us pA pn pc
  box : Blk w6 w.heap.size 35 (evArr x)
  row : Row w6 (Fn F w w6) 5 1 (.slice x.A x.n x.c) x.n (x.data.map bv)
  bel : Below w.heap.size w w6
theorem file_mid {w : World} {F : Nat → Prop} {g : Nat} {s : Mach} {fA : Option Addr} {fn fc : Nat} {es : List EV} {uA : Option Addr} {un uc : Nat} {nA : Option Addr} {nn nc : Nat} {us : List SV} {pA : Option Addr} {pn pc : Nat} (h : MachV w F g s fA fn fc es uA un uc nA nn nc us pA pn pc)
    {A : Option Addr} {n c : Nat} {path : Txt} {k : Int} {d : Txt} {w3 w4 w6 : World} {g4 c4 : Nat} (S : FileCopy w F w3 g s.files fA fn fc A n c path k d g4 c4 w4) (hb : Below w4.heap.size (w4.setCell ⟨w.heap.size, 2, none⟩ (.slice (some ⟨g4, 0, none⟩) n c4)) w6) :
    FileMid w F w6 g s fA fn fc es uA un uc nA nn nc us pA pn pc ⟨path, k, d, some ⟨g4, 0, none⟩, n, c4⟩ := by
  have hb5 := S.bel.setCell (p := ⟨w.heap.size, 2, none⟩) (Nat.le_refl _) (.slice (some ⟨g4, 0, none⟩) n c4)
  have hz5 : (w4.setCell ⟨w.heap.size, 2, none⟩ (.slice (some ⟨g4, 0, none⟩) n c4)).heap.size = w4.heap.size := by simp [World.setCell]
  have hb6 : Below w.heap.size w w6 := hb5.trans (hb.mono S.bel.size)
  have hB5 := S.box.set_ 2 (.slice (some ⟨g4, 0, none⟩) n c4)
  have ho5 := own_put (p := ⟨w.heap.size, 2, none⟩) S.own (by simp only [Value.ownBlock]; intro e; injection e with e; exact S.ne e) (.slice (some ⟨g4, 0, none⟩) n c4)
  refine ⟨h.below hb6, hB5.below hb (by rw [← hz5]; exact hB5.lt), ?_, hb6⟩
  have ho6 := own_keep ho5 (fun k hk => hb.block k (by rw [← hz5]; exact (ho5.lt k hk).2))
  exact ⟨⟨ho6.1, ho6.2.imp id fun ⟨g', cap, cur, e, he, r⟩ => ⟨g', cap, cur, e, Nat.zero_le _, r⟩⟩, fun k hk => .inr (ho6.lt k hk)⟩
theorem file_put {w : World} {F : Nat → Prop} {w6 : World} {g : Nat} {s : Mach} {fA : Option Addr} {fn fc : Nat} {es : List EV} {uA : Option Addr} {un uc : Nat} {nA : Option Addr} {nn nc : Nat} {us : List SV} {pA : Option Addr} {pn pc : Nat} {x : EV} (M : FileMid w F w6 g s fA fn fc es uA un uc nA nn nc us pA pn pc x) {i : Nat} (hi : i < fn) :
    ∃ gf, fA = some ⟨gf, 0, none⟩ ∧ (∀ j, j < 3 → ∃ v, w6.cell? ⟨gf, i * 3 + j, none⟩ = some v) ∧ (∀ j, w6.frozen? ⟨gf, j, none⟩ = false) ∧ MachPost w F g (⟨s.files.set i x.ent, s.users, s.units, s.plan⟩, 0) (.returned (.int .i64 0)) (w6.setCells gf (i * 3) (evCells x)) := by
  obtain ⟨gf, cap, cur, e, hF, hlt, hB, h3, h4, h5, h6⟩ := M.mach.files.form (by omega)
  injection e with e1 _ e3
  subst e1 e3
  have hl := M.mach.flen.1
  have hms := sets_rec evCells 3 (fun o => evCells_length o) h5 hl h3 h6 hi x
  have hB' := Blk.setCells (evCells x) (i * 3) hB
  have hg := grownBy_setCells (g := gf) (evCells x) (i * 3) (World.grownBy.refl w6 _)
  have hsz := hg.size
  have hwid : ∀ k, Fn F w w6 k → Fn F w (w6.setCells gf (i * 3) (evCells x)) k := fun k hk => hk.imp id fun h => ⟨h.1, by omega⟩
  have hR : Row (w6.setCells gf (i * 3) (evCells x)) (Fn F w (w6.setCells gf (i * 3) (evCells x))) 35 3 (.slice (some ⟨gf, 0, none⟩) fn fc) fn ((es.set i x).flatMap evCells) := by
    refine ⟨⟨by rw [flatMap_len evCells 3 _ (fun o _ => evCells_length o), List.length_set, hl], .inr ⟨gf, fc, _, rfl, Nat.zero_le _, hB', h3, h4, by rw [sets_size, h5], hms⟩⟩, fun k hk => ?_⟩
    injection hk with hk
    subst hk
    exact .inl hF
  have hot := grown_other hg (row_typed M.mach.files) (e := 5) (by decide)
  have hv := M.mach.turnFiles hg (fn_wide F w _) hR (fun e he => by
    rcases mem_set_or he with h | h
    · exact .inl h
    · rw [h]; exact .inr ((M.row.other hot).wide hwid))
  refine ⟨gf, rfl, fun j hj => ?_, fun j => hB.frozen j, rfl, ?_, ((Step.of_below M.bel F).grown hg (fun k hk => by injection hk with hk; subst hk; exact .inl hF)).fn⟩
  · exact ⟨_, by rw [hB.cell, Array.getElem?_eq_getElem (by omega)]⟩
  · rw [set_ents, M.mach.ents] at hv
    exact ⟨_, _, _, _, _, _, _, _, _, _, _, _, _, _, hv⟩
theorem file_ins {w : World} {F : Nat → Prop} {w6 : World} {g : Nat} {s : Mach} {fA : Option Addr} {fn fc : Nat} {es : List EV} {uA : Option Addr} {un uc : Nat} {nA : Option Addr} {nn nc : Nat} {us : List SV} {pA : Option Addr} {pn pc : Nat} {x : EV} (M : FileMid w F w6 g s fA fn fc es uA un uc nA nn nc us pA pn pc x) {i : Nat} (hi : i ≤ fn) (hfn : fn ≤ 1000000) (hFl : ∀ k, F k → k < w.heap.size) :
    Calls Tryz.prog 115 #[.slice fA fn fc, .int .i64 (i : Int), .slice (some ⟨w6.heap.size, 0, none⟩) 1 1] ((w6.drew).alloc (.cells (evArr x) 35)) fun e w8 => ∃ A8 c8, e = .returned (.slice A8 (fn + 1) c8) ∧ (∃ v, w8.cell? ⟨g, 0, none⟩ = some v) ∧ w8.frozen? ⟨g, 0, none⟩ = false ∧ MachPost w F g (⟨insA s.files i x.ent, s.users, s.units, s.plan⟩, 0) (.returned (.int .i64 0)) (w8.setCell ⟨g, 0, none⟩ (.slice A8 (fn + 1) c8)) := by
  have hb7 : Below w.heap.size w ((w6.drew).alloc (.cells (evArr x) 35)) := (M.bel.drew).alloc M.bel.size _
  have hbx : Below w6.heap.size w6 ((w6.drew).alloc (.cells (evArr x) 35)) := ((Below.refl _ w6).drew).alloc (Nat.le_refl _) _
  have hm7 := M.mach.below hbx
  have hz7 : ((w6.drew).alloc (.cells (evArr x) 35)).heap.size = w6.heap.size + 1 := by simp
  have hw6 := M.bel.size
  refine (insE_any hm7.files hi hfn x (Blk.new w6.drew 35 (evArr x)) (fun h9 => by have := hFl _ h9; have h : w6.drew.heap.size = w6.heap.size := rfl; omega)).mono ?_
  rintro e w8 ⟨A8, c8, rfl, hR, hg⟩
  have hot := grown_other hg (row_typed hm7.files) (e := 5) (by decide)
  have hs8 := hg.size
  have hsz : (w8.setCell ⟨g, 0, none⟩ (.slice A8 (fn + 1) c8)).heap.size = w8.heap.size := by simp [World.setCell]
  have hwid : ∀ k, Fn F w w6 k → Fn F w w8 k := fun k hk => hk.imp id fun h => ⟨h.1, by omega⟩
  have hwid2 : ∀ k, Fn F ((w6.drew).alloc (.cells (evArr x) 35)) w8 k → Fn F w w8 k := fun k hk => hk.imp id fun h => ⟨by omega, h.2⟩
  have hrow7 := M.row.belo hbx
  have hv := hm7.setFiles hg (fn_wide F w w8) (hR.wide hwid2) (fun e he => by
    rcases mem_ins he with h | h
    · exact .inl h
    · rw [h]; exact .inr ((hrow7.other hot).wide hwid))
  obtain ⟨k1, k2⟩ := hm7.kept0 hg
  refine ⟨A8, c8, rfl, ⟨_, k1⟩, k2, rfl, ?_, ?_⟩
  · rw [ins_ents, hm7.ents] at hv
    exact ⟨_, _, _, _, _, _, _, _, _, _, _, _, _, _, by unfold Fn at hv ⊢; rw [hsz]; exact hv⟩
  · exact (((Step.of_below hb7 F).grown hg (fun k hk => .inl (hm7.files.foot k hk))).setCell (p := ⟨g, 0, none⟩) (.inl hm7.foot) _).fn
set_option maxRecDepth 100000 in
set_option maxHeartbeats 4000000 in
theorem file_any {w : World} {F : Nat → Prop} {g : Nat} {s : Mach} (h : MachAt w F g s) (hr : Rises (pathsE s.files)) (hn : s.files.length ≤ 1000000) (path : Txt) {B : Nat} (x : EV) (hx : Slc w B 1 x.A x.n x.c (x.data.map bv)) (hB : B ≤ w.heap.size) (hxn : x.n ≤ 1000000000) (hxp : x.path.length ≤ 1000000000) (hFl : ∀ k, F k → k < w.heap.size) :
    Calls Tryz.prog 88 #[.pointer (some ⟨g, 0, none⟩), .string ⟨path.toArray⟩, .agg (evArr x)] w (MachPost w F g (doFile s path x.ent)) := by
  obtain ⟨fA, fn, fc, es, uA, un, uc, nA, nn, nc, us, pA, pn, pc, h⟩ := h
  have hfl := h.flen
  obtain ⟨W1, hW1⟩ : ∃ W1, W1 = w.alloc (.cells (evArr x) 35) := ⟨_, rfl⟩
  obtain ⟨W2, hW2⟩ : ∃ W2, W2 = W1.alloc (.cells (evArr x) 35) := ⟨_, rfl⟩
  have hb1 : Below w.heap.size w W1 := by rw [hW1]; exact (Below.refl _ w).alloc (Nat.le_refl _) _
  have hz1 : W1.heap.size = w.heap.size + 1 := by rw [hW1]; simp
  have hb2 : Below w.heap.size w W2 := by rw [hW2]; exact hb1.alloc (by omega) _
  have hz2 : W2.heap.size = w.heap.size + 2 := by rw [hW2]; simp [hz1]
  have hG1 : Blk W1 w.heap.size 35 (evArr x) := by rw [hW1]; exact Blk.new _ _ _
  have hG2 : Blk W2 w.heap.size 35 (evArr x) := by rw [hW2]; exact hG1.alloc _
  have hX2 : Blk W2 (w.heap.size + 1) 35 (evArr x) := by rw [← hz1, hW2]; exact Blk.new _ _ _
  have hE2 : EntsAt W2 W2.heap.size (some ⟨w.heap.size + 1, 0, none⟩) 1 1 [x] := by
    refine ⟨(hX2.slc (sz := 3) (n := 1) (c := 1) (Nat.le_refl _) (Nat.le_refl _) (by decide)).more (by omega), rfl, fun e he => ?_⟩
    rw [List.mem_singleton.1 he]
    exact (hx.below (hb2.mono hB)).more (by omega)
  have hright := right_any hE2 (Nat.le_refl _) (fun e he => by rw [List.mem_singleton.1 he]; exact hxp)
  rw [show [x].map EV.ent = [x.ent] from rfl] at hright
  have H := Lib.hid h
  have HFL := Lib.hid hFl
  have HR := Lib.hid hr
  have HN := Lib.hid hfl
  have HB2 := Lib.hid hb2
  have HG2 := Lib.hid hG2
  have HX := Lib.hid hx
  have HBB := Lib.hid hB
  have hfn : fn ≤ 1000000 := by omega
  have fin : Hid (∀ k w', Below w.heap.size w w' → MachPost w F g (s, k) (.returned (.int .i64 k)) w') := fun k w' hb => ⟨rfl, ⟨fA, fn, fc, es, uA, un, uc, nA, nn, nc, us, pA, pn, pc, (H.out.below hb).wide (fn_wide _ _ _)⟩, (Step.of_below hb F).fn⟩
  have x0 := hG1.cell 0
  have x1 := hG1.cell 1
  have x2 := hG1.cell 2
  obtain ⟨xp, xk, xd, xA, xn, xc⟩ := x
  rw [hW2] at hright
  rw [hW1] at x0 x1 x2 hright
  have hWW := hW2
  rw [hW1] at hWW
  unfold evArr at hWW
  simp only at hWW
  have HWW := Lib.hid hWW
  have HZ1 := Lib.hid hz1
  have HZ2 := Lib.hid hz2
  unfold evArr at hright x0 x1 x2 ⊢
  unfold EV.ent at hright ⊢
  simp only [List.getElem?_toArray, List.getElem?_cons_zero, List.getElem?_cons_succ] at x0 x1 x2
  simp only at hright hxn hxp ⊢
  have tn : (ByteArray.mk path.toArray).toList = path := Go.ByteArray.toList_eq _
  have tm : (ByteArray.mk xp.toArray).toList = xp := Go.ByteArray.toList_eq _
  clear h hx hb1 hb2 hG1 hG2 hX2 hE2 hr hn hFl hB hz1 hz2 hW1 hW2 hfl hWW
  cases hnm : (path == xp) with
  | false =>
    have HX := Lib.hid (show doFile s path ⟨xp, xk, xd⟩ = (s, 70) by unfold doFile; rw [if_neg (fun h9 => by rw [h9.1] at hnm; simp at hnm)])
    have HB1 := Lib.hid (show Below w.heap.size w (w.alloc (.cells #[.string ⟨xp.toArray⟩, .int .i64 xk, .slice xA xn xc] 35)) from (Below.refl _ w).alloc (Nat.le_refl _) _)
    clear hright
    go_enter Tryz.func88, Tryz.ntmps88
    go_wp2_with (fail)
    go_ret
    rw [HX.out]
    exact fin.out 70 _ HB1.out
  | true =>
    have hnm' : path = xp := by simpa using hnm
    subst hnm'
    clear hnm
    cases hm : rightB [⟨path, xk, xd⟩] with
    | false =>
      rw [hm] at hright
      have HX := Lib.hid (show doFile s path ⟨path, xk, xd⟩ = (s, 70) by unfold doFile; rw [if_neg (fun h9 => by rw [hm] at h9; exact absurd h9.2 (by decide))])
      clear hm
      go_enter Tryz.func88, Tryz.ntmps88
      go_wp2_with (go_at_call 38; refine hright.mono ?_; clear hright; rintro e w3 ⟨rfl, hb3⟩)
      go_ret
      rw [HX.out]
      rw [← HWW.out] at hb3
      exact fin.out 70 _ (HB2.out.trans (hb3.mono HB2.out.size))
    | true =>
      rw [hm] at hright
      have HM := Lib.hid hm
      obtain ⟨i, hi⟩ : ∃ i, i = aheadN (pathsE s.files) path := ⟨_, rfl⟩
      have HI := Lib.hid hi
      have hin : i ≤ fn := by rw [hi]; have := aheadN_le (pathsE s.files) path; have h2 := HN.out.2; simp [pathsE] at this ⊢; omega
      have hgw : g < w.heap.size := H.out.blk.lt
      clear hm hi
      have hcp : Hid (∀ {w3 : World}, Below W2.heap.size W2 w3 → ∃ g4 c4 w4, FileCopy w F w3 g s.files fA fn fc xA xn xc path xk xd g4 c4 w4) := fun hb => file_copy H.out HX.out HBB.out HG2.out HB2.out HZ2.out hb hxn hfn HR.out
      cases hat : decide ((pathsE s.files)[i]? = some path) with
      | true =>
        have HAT := Lib.hid hat
        have hif : i < fn := by
          have h1 := (List.getElem?_eq_some_iff.1 (of_decide_eq_true hat)).1
          have h2 := HN.out.2
          simp [pathsE] at h1
          omega
        have HD := Lib.hid (show doFile s path ⟨path, xk, xd⟩ = (⟨s.files.set i ⟨path, xk, xd⟩, s.users, s.units, s.plan⟩, 0) by
          unfold doFile
          rw [if_pos ⟨rfl, HM.out⟩, if_pos (by rw [← HI.out]; exact of_decide_eq_true hat), ← HI.out])
        clear hat
        go_enter Tryz.func88, Tryz.ntmps88
        go_wp2_with (first
          | (go_at_call 38; refine hright.mono ?_; clear hright; rintro e w3 ⟨rfl, hb3⟩; rw [← HWW.out] at hb3; obtain ⟨g4, c4, w4, S⟩ := hcp.out hb3; have HS := Lib.hid S; have hrun := S.run; have b2 := S.b2; have c2 := S.c2; have cf2 := S.cf2; have m4 := S.m4; have hl3 := S.lt3; have hl4 := S.lt4; have hbs := S.bs; rw [← HI.out, HAT.out] at hbs; clear S hb3)
          | (at_builtin; refine wpList_append_run rfl _ _ _ rfl rfl rfl hrun ?_; clear hrun)
          | (go_at_call 112; refine hbs.mono ?_; clear hbs; rintro e w6 ⟨rfl, hb6⟩; have M := file_mid H.out HS.out hb6.drew; have m6 : w6.cell? ⟨g, 0, none⟩ = _ := M.mach.facts.1; have z0 : w6.cell? ⟨w.heap.size, 0, none⟩ = _ := M.box.cell 0; have z1 : w6.cell? ⟨w.heap.size, 1, none⟩ = _ := M.box.cell 1; have z2 : w6.cell? ⟨w.heap.size, 2, none⟩ = _ := M.box.cell 2; obtain ⟨gf, hfA, q1, q2, HP⟩ := file_put M hif; obtain ⟨v0, q10⟩ : ∃ v, w6.cell? ⟨gf, i * 3, none⟩ = some v := q1 0 (by decide); obtain ⟨v1, q11⟩ : ∃ v, w6.cell? ⟨gf, i * 3 + 1, none⟩ = some v := q1 1 (by decide); obtain ⟨v2, q12⟩ : ∃ v, w6.cell? ⟨gf, i * 3 + 2, none⟩ = some v := q1 2 (by decide); have q20 : w6.frozen? ⟨gf, i * 3, none⟩ = false := q2 (i * 3); have q21 : w6.frozen? ⟨gf, i * 3 + 1, none⟩ = false := q2 (i * 3 + 1); have q22 : w6.frozen? ⟨gf, i * 3 + 2, none⟩ = false := q2 (i * 3 + 2); have HP := Lib.hid HP; unfold evArr at z0 z1 z2; simp only [List.getElem?_toArray, List.getElem?_cons_zero, List.getElem?_cons_succ] at z0 z1 z2; subst hfA; clear M q1 q2 hb6))
        refine region_tail 7 (by kernel_rfl) (by kernel_rfl) ?_
        simp only [List.take_succ_cons, List.take_zero, List.drop_succ_cons, List.drop_zero]
        repeat still_step
        refine wpStill_nil ?_
        go_wp2
        go_ret
        rw [HD.out]
        exact HP.out
      | false =>
        have HAT := Lib.hid hat
        have HNAT := Lib.hid (of_decide_eq_false hat)
        clear hat
        by_cases h24 : fn = 24
        · have HD := Lib.hid (show doFile s path ⟨path, xk, xd⟩ = (s, 70) by
            unfold doFile
            rw [if_pos ⟨rfl, HM.out⟩, if_neg (by rw [← HI.out]; exact HNAT.out), if_pos (by have := HN.out.2; omega)])
          have h24b : ((fn : Int) == 24) = true := by rw [h24]; rfl
          clear h24
          go_enter Tryz.func88, Tryz.ntmps88
          go_wp2_with (first
            | (go_at_call 38; refine hright.mono ?_; clear hright; rintro e w3 ⟨rfl, hb3⟩; rw [← HWW.out] at hb3; obtain ⟨g4, c4, w4, S⟩ := hcp.out hb3; have HS := Lib.hid S; have hrun := S.run; have b2 := S.b2; have c2 := S.c2; have cf2 := S.cf2; have m4 := S.m4; have hl3 := S.lt3; have hl4 := S.lt4; have hbs := S.bs; rw [← HI.out, HAT.out] at hbs; clear S hb3)
            | (at_builtin; refine wpList_append_run rfl _ _ _ rfl rfl rfl hrun ?_; clear hrun)
            | (go_at_call 112; refine hbs.mono ?_; clear hbs; rintro e w6 ⟨rfl, hb6⟩; have M := file_mid H.out HS.out hb6; have m6 := M.mach.facts.1; have HBL := Lib.hid M.bel; clear M hb6))
          go_ret
          rw [HD.out]
          exact fin.out 70 _ HBL.out
        · have HD := Lib.hid (show doFile s path ⟨path, xk, xd⟩ = (⟨insA s.files i ⟨path, xk, xd⟩, s.users, s.units, s.plan⟩, 0) by
            unfold doFile
            rw [if_pos ⟨rfl, HM.out⟩, if_neg (by rw [← HI.out]; exact HNAT.out), if_neg (by have := HN.out.2; omega), ← HI.out])
          have h24b : ((fn : Int) == 24) = false := by rw [beq_eq_false_iff_ne]; omega
          clear h24
          go_enter Tryz.func88, Tryz.ntmps88
          go_wp2_with (first
            | (go_at_call 38; refine hright.mono ?_; clear hright; rintro e w3 ⟨rfl, hb3⟩; rw [← HWW.out] at hb3; obtain ⟨g4, c4, w4, S⟩ := hcp.out hb3; have HS := Lib.hid S; have hrun := S.run; have b2 := S.b2; have c2 := S.c2; have cf2 := S.cf2; have m4 := S.m4; have hl3 := S.lt3; have hl4 := S.lt4; have hbs := S.bs; rw [← HI.out, HAT.out] at hbs; clear S hb3)
            | (at_builtin; refine wpList_append_run rfl _ _ _ rfl rfl rfl hrun ?_; clear hrun)
            | (go_at_call 112; refine hbs.mono ?_; clear hbs; rintro e w6 ⟨rfl, hb6⟩; have M := file_mid H.out HS.out hb6; have m6 := M.mach.facts.1; have z0 := M.box.cell 0; have z1 := M.box.cell 1; have z2 := M.box.cell 2; have HMM := Lib.hid M; have hi9 := file_ins M hin hfn HFL.out; have l6 := M.box.lt; have g6 := M.mach.blk.lt; unfold evArr at z0 z1 z2 hi9; simp only [List.getElem?_toArray, List.getElem?_cons_zero, List.getElem?_cons_succ] at z0 z1 z2; clear M hb6))
          go_region_law (go_simp; go_at_call 115; refine hi9.mono ?_; clear hi9; rintro e w8 ⟨A8, c8, rfl, ⟨v8, m8⟩, f8, HP⟩; have HP := Lib.hid HP)
          all_goals go_wp2_with (fail)
          all_goals go_ret
          all_goals rw [HD.out]
          all_goals exact HP.out
end Go.Proofs.YtibndaianhlcaaaGreatDoor
namespace Go.Proofs.YtibndaianhlcaaaGreatDoor
open Go.RowKit Go.Sort Go.Shelf
set_option linter.unusedVariables false
set_option linter.unusedSimpArgs false

theorem MachPost.later {w W : World} {F : Nat → Prop} {g : Nat} {r : Mach × Int} {e : Ending} {w' : World} (h : MachPost W F g r e w') (hb : Below w.heap.size w W) : MachPost w F g r e w' :=
  ⟨h.1, h.2.1.later hb.size, ((Step.of_below hb F).trans h.2.2).fn⟩
/-- Texts of a step that memory can hold. -/
structure SmallA (a : AV) : Prop where
  lens : ActLens a
  name : a.name.length ≤ 1000000000
  path : a.file.path.length ≤ 1000000000
  start : a.unit.start.length ≤ 1000000000
  texts : ∀ t ∈ a.unit.name :: (a.unit.req ++ a.unit.aft), t.length ≤ 1000000000
structure ActApart (F : Nat → Prop) (a : AV) : Prop where
  req : 0 < a.unit.n → ∀ x, a.unit.A = some x → ¬ F x.block
  aft : 0 < a.unit.n2 → ∀ x, a.unit.A2 = some x → ¬ F x.block
theorem filter_texts (l : List Txt) (name : Txt) : l.filter (keepT name) = l.filter fun x => decide (x ≠ name) := rfl
theorem del_files {w W : World} {F : Nat → Prop} {g : Nat} {s : Mach} {fA : Option Addr} {fn fc : Nat} {es : List EV} {uA : Option Addr} {un uc : Nat} {nA : Option Addr} {nn nc : Nat} {us : List SV} {pA : Option Addr} {pn pc : Nat} (h : MachV W F g s fA fn fc es uA un uc nA nn nc us pA pn pc) (hb : Below w.heap.size w W) (name : Txt) {e : Ending} {w' : World} (hd : DelPostE W F fA fn fc es name e w') :
    ∃ m, e = .returned (.slice fA m fc) ∧ w'.cell? ⟨g, 0, none⟩ = some (.slice fA fn fc) ∧ w'.frozen? ⟨g, 0, none⟩ = false ∧ MachPost w F g (⟨s.files.filter fun x => decide (x.path ≠ name), s.users, s.units, s.plan⟩, 0) (.returned (.int .i64 0)) (w'.setCell ⟨g, 0, none⟩ (.slice fA m fc)) := by
  obtain ⟨m, rfl, hR, hg⟩ := hd
  obtain ⟨k1, k2⟩ := h.kept0 hg
  have hv := h.setFiles hg (fun _ h => h) hR (fun e he => .inl ((List.mem_filter.1 he).1))
  rw [filter_ents, h.ents] at hv
  exact ⟨m, rfl, k1, k2, rfl, ⟨_, _, _, _, _, _, _, _, _, _, _, _, _, _, hv.wide (fn_wide _ _ _)⟩, (((Step.of_below hb F).grown hg (fun k hk => .inl (h.files.foot k hk))).setCell (p := ⟨g, 0, none⟩) (.inl h.foot) _).fn⟩
theorem del_users {w W : World} {F : Nat → Prop} {g : Nat} {s : Mach} {fA : Option Addr} {fn fc : Nat} {es : List EV} {uA : Option Addr} {un uc : Nat} {nA : Option Addr} {nn nc : Nat} {us : List SV} {pA : Option Addr} {pn pc : Nat} (h : MachV W F g s fA fn fc es uA un uc nA nn nc us pA pn pc) (hb : Below w.heap.size w W) (name : Txt) {e : Ending} {w' : World} (hd : DelPostS W F uA un uc s.users name e w') :
    ∃ m, e = .returned (.slice uA m uc) ∧ w'.cell? ⟨g, 1, none⟩ = some (.slice uA un uc) ∧ w'.frozen? ⟨g, 1, none⟩ = false ∧ MachPost w F g (⟨s.files, s.users.filter fun x => decide (x ≠ name), s.units, s.plan⟩, 0) (.returned (.int .i64 0)) (w'.setCell ⟨g, 1, none⟩ (.slice uA m uc)) := by
  obtain ⟨m, rfl, hR, hg⟩ := hd
  obtain ⟨k1, k2⟩ := h.kept1 hg
  have hv := h.setUsers hg (fun _ h => h) hR (fun k hk => .inl ((own_same uA un uc m uc).trans hk))
  rw [filter_texts] at hv
  exact ⟨m, rfl, k1, k2, rfl, ⟨_, _, _, _, _, _, _, _, _, _, _, _, _, _, hv.wide (fn_wide _ _ _)⟩, (((Step.of_below hb F).grown hg (fun k hk => .inl (h.users.foot k hk))).setCell (p := ⟨g, 1, none⟩) (.inl h.foot) _).fn⟩
set_option maxRecDepth 100000 in
set_option maxHeartbeats 4000000 in
theorem do_any {w : World} {F : Nat → Prop} {g : Nat} {s : Mach} (h : MachAt w F g s) (hg : GoodM s) {B : Nat} {a : AV} (ha : ActAt w B a) (hB : B ≤ w.heap.size) (hs : SmallA a) (hap : ActApart F a) (hFl : ∀ k, F k → k < w.heap.size) :
    Calls Tryz.prog 42 #[.pointer (some ⟨g, 0, none⟩), .agg (avArr a)] w (MachPost w F g (doM s a.act)) := by
  obtain ⟨W1, hW1⟩ : ∃ W1, W1 = w.alloc (.cells (avArr a) 61) := ⟨_, rfl⟩
  have hb1 : Below w.heap.size w W1 := by rw [hW1]; exact (Below.refl _ w).alloc (Nat.le_refl _) _
  have hG1 : Blk W1 w.heap.size 61 (avArr a) := by rw [hW1]; exact Blk.new _ _ _
  have hz1 : W1.heap.size = w.heap.size + 1 := by rw [hW1]; simp
  obtain ⟨fA, fn, fc, es, uA, un, uc, nA, nn, nc, us, pA, pn, pc, h⟩ := h
  have h1 := h.below hb1
  have hm1 : MachAt W1.drew F g s := ⟨fA, fn, fc, es, uA, un, uc, nA, nn, nc, us, pA, pn, pc, h.below hb1.drew⟩
  have hFl1 : ∀ k, F k → k < W1.drew.heap.size := fun k hk => by have := hFl k hk; show k < W1.heap.size; omega
  have hb1d := hb1.drew
  have ha1 := ha.below (hb1d.mono hB)
  have hB1 : B ≤ W1.drew.heap.size := by show B ≤ W1.heap.size; omega
  have hfn := h.flen
  have hun := h.ulen
  have c1 := stop_any hm1 (by have := hg.nn; omega) a.name
  have c2 := delE_any h1.files h1.entsAt (by have := hg.nf; omega) a.name w.heap.size hG1 (by rfl)
  have c3 := delS_any h1.users (by have := hg.nu; omega) a.name w.heap.size hG1 (by rfl)
  have c4 := file_any hm1 hg.files (by have := hg.nf; omega) a.name a.file ha1.data hB1 hs.lens.1 hs.path hFl1
  have c5 := user_any hm1 hg.users (by have := hg.nu; omega) a.name hs.name hFl1
  have c6 := start_any hm1 (by have := hg.nn; omega) a.name a.unit ha1.req ha1.aft hB1 hs.lens.2 hs.texts hs.start hap.req hap.aft hFl1
  have m0 := h1.facts.1
  have m1 := h1.facts.2.1
  have hgw := h.blk.lt
  have fin : Hid (∀ w', Below w.heap.size w w' → MachPost w F g (s, 70) (.returned (.int .i64 70)) w') := fun w' hb => ⟨rfl, ⟨fA, fn, fc, es, uA, un, uc, nA, nn, nc, us, pA, pn, pc, (h.below hb).wide (fn_wide _ _ _)⟩, (Step.of_below hb F).fn⟩
  have x0 := hG1.cell 0
  have x1 := hG1.cell 1
  have x2 := hG1.cell 2
  have x3 := hG1.cell 3
  have x4 := hG1.cell 4
  have x5 := hG1.cell 5
  have x6 := hG1.cell 6
  have x7 := hG1.cell 7
  have x8 := hG1.cell 8
  obtain ⟨kind, name, ⟨fp, fk, fd, fA', fn', fc'⟩, ⟨nm, st, rq, A, n, c, af, A2, n2, c2'⟩⟩ := a
  rw [hW1] at x0 x1 x2 x3 x4 x5 x6 x7 x8 c1 c2 c3 c4 c5 c6 m0 m1
  have hHB := hb1
  have hHBD := hb1d
  have hH1 := h1
  rw [hW1] at hHB hHBD hH1
  unfold avArr at x0 x1 x2 x3 x4 x5 x6 x7 x8 c1 c2 c3 c4 c5 c6 m0 m1 hHB hHBD hH1 ⊢
  unfold evArr at c4
  unfold svArr at c6
  simp only at c1 c2 c3 c4 c5 c6 m0 m1 hHB hHBD hH1 ⊢
  simp only [List.getElem?_toArray, List.getElem?_cons_zero, List.getElem?_cons_succ] at x0 x1 x2 x3 x4 x5 x6 x7 x8
  change Calls _ _ _ _ (MachPost w F g (doM s ⟨kind, name, ⟨fp, fk, fd⟩, ⟨nm, st, rq, af⟩⟩))
  change Calls _ _ _ _ (MachPost _ F g (doFile s name ⟨fp, fk, fd⟩)) at c4
  change Calls _ _ _ _ (MachPost _ F g (doStart s name ⟨nm, st, rq, af⟩)) at c6
  have H1 := Lib.hid hH1
  have HB := Lib.hid hHB
  have HBD := Lib.hid hHBD
  clear hb1 hG1 hz1 h h1 hm1 hFl1 hb1d ha1 hB1 hfn hun ha hs hap hFl hW1 hB hHB hHBD hH1 hg
  by_cases k1 : kind = 1
  · subst k1
    rw [show doM s ⟨1, name, ⟨fp, fk, fd⟩, ⟨nm, st, rq, af⟩⟩ = doStop s name from rfl]
    clear c2 c3 c4 c5 c6
    go_enter Tryz.func42, Tryz.ntmps42
    go_wp2_with (fail)
    refine region_tail 5 (by kernel_rfl) (by kernel_rfl) ?_
    simp only [List.take_succ_cons, List.take_zero, List.drop_succ_cons, List.drop_zero]
    repeat still_step
    refine wpStill_nil ?_
    go_wp2_with (go_at_call 83; refine c1.mono ?_; clear c1; rintro e w2 ⟨rfl, hm, hst⟩; have HP := Lib.hid (MachPost.later ⟨rfl, hm, hst⟩ HBD.out); clear hm hst)
    go_ret
    exact HP.out
  by_cases k2 : kind = 2
  · subst k2
    rw [show doM s ⟨2, name, ⟨fp, fk, fd⟩, ⟨nm, st, rq, af⟩⟩ = (⟨s.files.filter fun x => decide (x.path ≠ name), s.users, s.units, s.plan⟩, 0) from rfl]
    clear c1 c3 c4 c5 c6
    go_enter Tryz.func42, Tryz.ntmps42
    go_wp2_with (go_at_call 84; refine c2.mono ?_; clear c2; intro e w2 hd; obtain ⟨m, rfl, q1, q2, HP⟩ := del_files H1.out HB.out name hd; have HP := Lib.hid HP; clear hd)
    go_ret
    exact HP.out
  by_cases k3 : kind = 3
  · subst k3
    rw [show doM s ⟨3, name, ⟨fp, fk, fd⟩, ⟨nm, st, rq, af⟩⟩ = (⟨s.files, s.users.filter fun x => decide (x ≠ name), s.units, s.plan⟩, 0) from rfl]
    clear c1 c2 c4 c5 c6
    go_enter Tryz.func42, Tryz.ntmps42
    go_wp2_with (go_at_call 86; refine c3.mono ?_; clear c3; intro e w2 hd; obtain ⟨m, rfl, q1, q2, HP⟩ := del_users H1.out HB.out name hd; have HP := Lib.hid HP; clear hd)
    go_ret
    exact HP.out
  by_cases k4 : kind = 4
  · subst k4
    rw [show doM s ⟨4, name, ⟨fp, fk, fd⟩, ⟨nm, st, rq, af⟩⟩ = doFile s name ⟨fp, fk, fd⟩ from rfl]
    clear c1 c2 c3 c5 c6
    go_enter Tryz.func42, Tryz.ntmps42
    go_wp2_with (fail)
    refine region_tail 7 (by kernel_rfl) (by kernel_rfl) ?_
    simp only [List.take_succ_cons, List.take_zero, List.drop_succ_cons, List.drop_zero]
    repeat still_step
    refine wpStill_nil ?_
    go_wp2_with (go_at_call 88; refine c4.mono ?_; clear c4; rintro e w2 ⟨rfl, hm, hst⟩; have HP := Lib.hid (MachPost.later ⟨rfl, hm, hst⟩ HBD.out); clear hm hst)
    go_ret
    exact HP.out
  by_cases k5 : kind = 5
  · subst k5
    rw [show doM s ⟨5, name, ⟨fp, fk, fd⟩, ⟨nm, st, rq, af⟩⟩ = doUser s name from rfl]
    clear c1 c2 c3 c4 c6
    go_enter Tryz.func42, Tryz.ntmps42
    go_wp2_with (fail)
    refine region_tail 5 (by kernel_rfl) (by kernel_rfl) ?_
    simp only [List.take_succ_cons, List.take_zero, List.drop_succ_cons, List.drop_zero]
    repeat still_step
    refine wpStill_nil ?_
    go_wp2_with (go_at_call 89; refine c5.mono ?_; clear c5; rintro e w2 ⟨rfl, hm, hst⟩; have HP := Lib.hid (MachPost.later ⟨rfl, hm, hst⟩ HBD.out); clear hm hst)
    go_ret
    exact HP.out
  by_cases k6 : kind = 6
  · subst k6
    rw [show doM s ⟨6, name, ⟨fp, fk, fd⟩, ⟨nm, st, rq, af⟩⟩ = doStart s name ⟨nm, st, rq, af⟩ from rfl]
    clear c1 c2 c3 c4 c5
    go_enter Tryz.func42, Tryz.ntmps42
    go_wp2_with (fail)
    refine region_tail 7 (by kernel_rfl) (by kernel_rfl) ?_
    simp only [List.take_succ_cons, List.take_zero, List.drop_succ_cons, List.drop_zero]
    repeat still_step
    refine wpStill_nil ?_
    go_wp2_with (go_at_call 90; refine c6.mono ?_; clear c6; rintro e w2 ⟨rfl, hm, hst⟩; have HP := Lib.hid (MachPost.later ⟨rfl, hm, hst⟩ HBD.out); clear hm hst)
    go_ret
    exact HP.out
  have HX := Lib.hid (show doM s ⟨kind, name, ⟨fp, fk, fd⟩, ⟨nm, st, rq, af⟩⟩ = (s, 70) by unfold doM; rw [if_neg k1, if_neg k2, if_neg k3, if_neg k4, if_neg k5, if_neg k6])
  have e1 : (kind == 1) = false := by rw [beq_eq_false_iff_ne]; exact k1
  have e2 : (kind == 2) = false := by rw [beq_eq_false_iff_ne]; exact k2
  have e3 : (kind == 3) = false := by rw [beq_eq_false_iff_ne]; exact k3
  have e4 : (kind == 4) = false := by rw [beq_eq_false_iff_ne]; exact k4
  have e5 : (kind == 5) = false := by rw [beq_eq_false_iff_ne]; exact k5
  have e6 : (kind == 6) = false := by rw [beq_eq_false_iff_ne]; exact k6
  clear c1 c2 c3 c4 c5 c6 k1 k2 k3 k4 k5 k6
  go_enter Tryz.func42, Tryz.ntmps42
  go_wp2_with (fail)
  go_ret
  rw [HX.out]
  exact fin.out _ HB.out
end Go.Proofs.YtibndaianhlcaaaGreatDoor
namespace Go.Proofs.YtibndaianhlcaaaGreatDoor
open Go.RowKit Go.Sort
set_option linter.unusedVariables false
set_option linter.unusedSimpArgs false

/-- Two entries are the same. -/
def entEq (x y : Ent) : Bool := x.path == y.path && (x.kind == y.kind && x.data == y.data)
def entsEqTo (a b : List Ent) (k : Nat) : Bool := (List.range k).all fun i => match a[i]?, b[i]? with
  | some x, some y => entEq x y
  | _, _ => true
/-- Two lists are the same. -/
def entsEq (a b : List Ent) : Bool := decide (a.length = b.length) && entsEqTo a b a.length
theorem entsEqTo_succ (a b : List Ent) (k : Nat) (ha : k < a.length) (hb : k < b.length) : entsEqTo a b (k + 1) = (entsEqTo a b k && entEq a[k] b[k]) := by
  unfold entsEqTo
  rw [List.range_succ, List.all_append]
  simp [List.getElem?_eq_getElem ha, List.getElem?_eq_getElem hb]
theorem entEq_iff (x y : Ent) : entEq x y = true ↔ x = y := by
  obtain ⟨p, k, d⟩ := x
  obtain ⟨p', k', d'⟩ := y
  unfold entEq
  simp [Bool.and_eq_true]
theorem entsEqTo_false {a b : List Ent} {k : Nat} (h : entsEqTo a b k = false) : ∀ {n}, k ≤ n → entsEqTo a b n = false := by
  intro n hn
  unfold entsEqTo at *
  rw [List.all_eq_false] at *
  obtain ⟨x, hx, hp⟩ := h
  exact ⟨x, by rw [List.mem_range] at *; omega, hp⟩
theorem entsEq_iff (a b : List Ent) : entsEq a b = true ↔ a = b := by
  unfold entsEq
  rw [Bool.and_eq_true, decide_eq_true_iff]
  constructor
  · rintro ⟨hl, h⟩
    refine List.ext_getElem hl fun i h1 h2 => ?_
    unfold entsEqTo at h
    have := List.all_eq_true.1 h i (List.mem_range.2 h1)
    rw [List.getElem?_eq_getElem h1, List.getElem?_eq_getElem h2] at this
    exact (entEq_iff _ _).1 this
  · rintro rfl
    refine ⟨rfl, ?_⟩
    unfold entsEqTo
    rw [List.all_eq_true]
    intro i hi
    rw [List.mem_range] at hi
    rw [List.getElem?_eq_getElem hi]
    exact (entEq_iff _ _).2 rfl

theorem txt_beq (a b : Txt) : (a != b) = !decide (a = b) := by
  by_cases h : a = b <;> simp [h]

theorem dr_below {B : Nat} (w : World) (k : Nat) : Below B w (w.drewN k) := ⟨rfl, rfl, rfl, Nat.le_refl _, fun _ _ => rfl⟩
theorem drewN_more {w wr : World} (h : ∃ q, wr = w.drewN q) (n : Nat) : ∃ q, wr.drewN n = w.drewN q := by
  obtain ⟨q, rfl⟩ := h
  exact ⟨q + n, by unfold World.drewN; simp [Nat.add_assoc]⟩

set_option maxRecDepth 100000 in
set_option maxHeartbeats 2000000 in
theorem refSame_any {w : World} {B B' : Nat} {A A' : Option Addr} {n n' c c' : Nat} {es fs : List EV} (h : EntsAt w B A n c es) (h' : EntsAt w B' A' n' c' fs) :
    Calls Tryz.prog 14 #[.slice A n c, .slice A' n' c'] w fun e w' => e = .returned (.bool (entsEq (es.map EV.ent) (fs.map EV.ent))) ∧ ∃ q, w' = w.drewN q := by
  have hn62 : n ≤ 9223372036854775807 := by have h1 := h.slc.le; have h2 := h.slc.cmax; unfold maxLen at h2; omega
  have hn62' : n' ≤ 9223372036854775807 := by have h1 := h'.slc.le; have h2 := h'.slc.cmax; unfold maxLen at h2; omega
  obtain ⟨a, ha⟩ : ∃ a, a = es.map EV.ent := ⟨_, rfl⟩
  obtain ⟨b, hb⟩ : ∃ b, b = fs.map EV.ent := ⟨_, rfl⟩
  have hal : a.length = n := by rw [ha, List.length_map, h.len]
  have hbl : b.length = n' := by rw [hb, List.length_map, h'.len]
  rw [← ha, ← hb]
  have HA := Lib.hid ha
  have HBE := Lib.hid hb
  have HAL := Lib.hid hal
  have HBL := Lib.hid hbl
  have H := Lib.hid h
  have H' := Lib.hid h'
  by_cases hne : n = n'
  case neg =>
    have HX := Lib.hid (show entsEq a b = false by unfold entsEq; rw [decide_eq_false (by omega)]; rfl)
    have hk : ((n : Int) != (n' : Int)) = true := by simp; omega
    clear h h' ha hb hal hbl
    go_enter Tryz.func14, Tryz.ntmps14
    go_wp2
    go_ret
    exact ⟨by rw [HX.out]; rfl, 0, rfl⟩
  subst hne
  have HX := Lib.hid (show entsEq a b = entsEqTo a b n by unfold entsEq; rw [decide_eq_true (by omega), hal]; rfl)
  clear h h' ha hb hal hbl
  go_enter Tryz.func14, Tryz.ntmps14
  go_wp2
  go_loopw [5] (fun i wr => ∃ k : Nat, k ≤ n ∧ i = .int .i64 (k : Int) ∧ Aside (entsEqTo a b k = true) ∧ Aside (∃ q, wr = w.drewN q)) (fun i _ => n - (intOf i).toNat)
  case atStart => exact ⟨0, Nat.zero_le _, rfl, rfl, 0, rfl⟩
  case round =>
    obtain ⟨k, hk, rfl, hto, hdr⟩ := hrel
    have hbw : ∀ B, Below B w wr := fun B => by obtain ⟨q0, hq0⟩ := hdr.out; rw [hq0]; exact ⟨rfl, rfl, rfl, Nat.le_refl _, fun _ _ => rfl⟩
    by_cases hlt : k < n
    · obtain ⟨g, off, rfl, _, hkl, c0, c1, c2, hS⟩ := (H.out.below (hbw _)).at_ hlt
      obtain ⟨g', off', rfl, _, hkl', d0, d1, d2, hS'⟩ := (H'.out.below (hbw _)).at_ hlt
      have hka : k < a.length := by rw [HAL.out]; exact hlt
      have hkb : k < b.length := by rw [HBL.out]; exact hlt
      have HSU := Lib.hid (entsEqTo_succ a b k hka hkb)
      have hea : a[k] = es[k].ent := by have := HA.out; subst this; simp
      have heb : b[k] = fs[k].ent := by have := HBE.out; subst this; simp
      rw [hea, heb] at HSU
      have HF := Lib.hid (fun (he : entsEqTo a b (k + 1) = false) => show entsEq a b = false by rw [HX.out]; exact entsEqTo_false he (by omega))
      generalize es[k] = x at *
      generalize fs[k] = y at *
      have hcx := fun m : Nat => convert_bytes (P := Tryz.prog) Tryz.underlying33 Tryz.underlying5 (hS.below (dr_below wr m)) 9 Tryz.underlying9
      have hcy := fun m : Nat => convert_bytes (P := Tryz.prog) Tryz.underlying33 Tryz.underlying5 (hS'.below (dr_below wr m)) 9 Tryz.underlying9
      have tx : (ByteArray.mk x.path.toArray).toList = x.path := Go.ByteArray.toList_eq _
      have ty : (ByteArray.mk y.path.toArray).toList = y.path := Go.ByteArray.toList_eq _
      clear hea heb hka hkb hbw hS hS'
      have HGO := Lib.hid (fun (he : entEq x.ent y.ent = true) => show entsEqTo a b (k + 1) = true by rw [HSU.out, hto.out, he]; rfl)
      replace HF := Lib.hid (fun (he : entEq x.ent y.ent = false) => HF.out (by rw [HSU.out, he, Bool.and_false]))
      clear HSU
      unfold entEq EV.ent at HF HGO
      cases k1 : (x.path == y.path) with
      | false =>
        have HR := Lib.hid (HF.out (by simp only [k1]; rfl))
        go_wp2
        go_quiet (fail)
        go_wp2
        go_ret
        exact ⟨by rw [HR.out]; rfl, drewN_more hdr.out _⟩
      | true =>
        cases k2 : (x.kind == y.kind) with
        | false =>
          have HR := Lib.hid (HF.out (by simp only [k1, k2]; rfl))
          have k2' : (x.kind != y.kind) = true := by rw [bne, k2]; rfl
          go_wp2
          go_quiet (fail)
          go_wp2
          go_ret
          exact ⟨by rw [HR.out]; rfl, drewN_more hdr.out _⟩
        | true =>
          have k2' : (x.kind != y.kind) = false := by rw [bne, k2]; rfl
          have tdx : (ByteArray.mk x.data.toArray).toList = x.data := Go.ByteArray.toList_eq _
          have tdy : (ByteArray.mk y.data.toArray).toList = y.data := Go.ByteArray.toList_eq _
          cases k3 : (x.data == y.data) with
          | false =>
            have HR := Lib.hid (HF.out (by simp only [k1, k2, k3]; rfl))
            go_wp2
            go_quiet (fail)
            go_wp2
            go_ret
            exact ⟨by rw [HR.out]; rfl, drewN_more hdr.out _⟩
          | true =>
            have HR := Lib.hid (HGO.out (by simp only [k1, k2, k3]; rfl))
            go_wp2
            go_quiet (fail)
            go_wp2
            exact ⟨⟨k + 1, by omega, by go_num, HR.out, drewN_more hdr.out _⟩, by simp [intOf]; omega⟩
    · obtain rfl : k = n := by omega
      go_wp2
      go_ret
      exact ⟨by rw [HX.out, hto.out]; rfl, hdr.out⟩
end Go.Proofs.YtibndaianhlcaaaGreatDoor
