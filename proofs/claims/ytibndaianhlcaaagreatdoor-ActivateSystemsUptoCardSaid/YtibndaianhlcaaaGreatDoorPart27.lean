/- The reference of layer 20: file. -/
import Derived.Test.YtibndaianhlcaaaGreatDoorPart26
import Derived.Test.YtibndaianhlcaaaGreatDoorPart22
namespace Go.Proofs.YtibndaianhlcaaaGreatDoor
open Go.RowKit Go.Sort Go.Shelf
set_option linter.unusedVariables false
set_option linter.unusedSimpArgs false

section
variable {w w' : World} {R : Nat → Prop} {r : Nat} {s : Mach} {o : OV} {pA : Option Addr} {pn pc : Nat}
/-- Ahead of the search: the entry in a variable, its data in a block of their own. -/
structure RFMid (w : World) (R : Nat → Prop) (W : World) (r : Nat) (s : Mach) (o : OV) (pA : Option Addr) (pn pc : Nat) (v : Nat) (x : EV) (name : Txt) : Prop where
  ref : RefV W R r s o pA pn pc
  bel : Below w.heap.size w W
  var : Blk W v 35 (evArr x)
  box1 : W.cell? ⟨w.heap.size, 1, none⟩ = some (.string ⟨name.toArray⟩)
  blt : w.heap.size < W.heap.size
  data : Slc W W.heap.size 1 x.A x.n x.c (x.data.map bv)
  dfoot : ∀ a, x.A = some a → Fn R w W a.block
theorem RFMid.below {W W' : World} {v : Nat} {x : EV} {name : Txt} (h : RFMid w R W r s o pA pn pc v x name) (hb : Below W.heap.size W W') : RFMid w R W' r s o pA pn pc v x name :=
  ⟨h.ref.below hb, h.bel.trans (hb.mono h.bel.size), h.var.below hb h.var.lt, (hb.cell (p := ⟨w.heap.size, 1, none⟩) h.blt).trans h.box1, Nat.lt_of_lt_of_le h.blt hb.size, (h.data.below hb).more hb.size, fun a ha => by
    rcases h.dfoot a ha with h1 | h1
    · exact .inl h1
    · exact .inr ⟨h1.1, Nat.lt_of_lt_of_le h1.2 hb.size⟩⟩
theorem RFMid.facts {W : World} {v : Nat} {x : EV} {name : Txt} (h : RFMid w R W r s o pA pn pc v x name) : W.cell? ⟨v, 0, none⟩ = some (.string ⟨x.path.toArray⟩) ∧ W.cell? ⟨v, 1, none⟩ = some (.int .i64 x.kind) ∧ W.cell? ⟨v, 2, none⟩ = some (.slice x.A x.n x.c) := ⟨h.var.cell 0, h.var.cell 1, h.var.cell 2⟩
/-- Its files are told anew, by a row of the call's own. -/
theorem RFMid.put {W w9 : World} {v : Nat} {x : EV} {name : Txt} (h : RFMid w R W r s o pA pn pc v x name) (hrw : r < w.heap.size) (hb9 : Below W.heap.size W w9) {A9 : Option Addr} {n9 c9 : Nat} {es' : List EV} (ho : w9.ownsRow W.heap.size 35 3 (.slice A9 n9 c9) n9 (es'.flatMap evCells)) (hm : ∀ e ∈ es', e ∈ o.es ∨ e = x) :
    RefPost w R r (⟨es'.map EV.ent, s.users, s.units, s.plan⟩, 0) (.returned (.int .i64 0)) (w9.setCell ⟨r, 0, none⟩ (.slice A9 n9 c9)) := by
  have h9 := h.below hb9
  have hz := h.bel.size
  have hout : ¬ Fn R w w9 r := fun hk => by rcases hk with hk | hk; exact h9.ref.out hk; omega
  have hv := h9.ref.wide (fn_wide R w w9) hout
  have hl : es'.length = n9 := by have h1 := ho.1; rw [flatMap_len evCells 3 es' (fun o _ => evCells_length o)] at h1; omega
  have hset := hv.setFiles (es := es') ⟨own_slc_of ho, hl, fun e he => by
    rcases hm e he with h1 | h1
    · exact h9.ref.obs.at_.files.data e h1
    · rw [h1]; exact h9.data⟩ (fun a ha => by have := own_in ho a ha; exact .inr ⟨by omega, this.2⟩) (fun e he a ha => by
    rcases hm e he with h1 | h1
    · exact .inl (h9.ref.obs.data e h1 a ha)
    · rw [h1] at ha; exact h9.dfoot a ha)
  refine ⟨rfl, ?_, step_bel_set h9.bel r 0 _⟩
  rw [fn_set]
  exact ⟨_, _, _, _, hset⟩
/-- The row with one entry written anew. -/
theorem RFMid.over {W w8 : World} {v : Nat} {x : EV} {name : Txt} (h : RFMid w R W r s o pA pn pc v x name) (hrw : r < w.heap.size) (hb8 : Below W.heap.size W w8) {A8 : Option Addr} {c8 : Nat} (ho : w8.ownsRow W.heap.size 35 3 (.slice A8 o.n c8) o.n (o.es.flatMap evCells)) {i : Nat} (hi : i < o.n) :
    ∃ g8, A8 = some ⟨g8, 0, none⟩ ∧ r ≠ g8 ∧ v ≠ g8 ∧ o.n ≤ c8 ∧ c8 ≤ maxLen ∧ (∀ j, j < 3 → ∃ u, w8.cell? ⟨g8, i * 3 + j, none⟩ = some u) ∧ (∀ j, w8.frozen? ⟨g8, j, none⟩ = false) ∧
      RefPost w R r (⟨(o.es.set i x).map EV.ent, s.users, s.units, s.plan⟩, 0) (.returned (.int .i64 0)) ((w8.setCells g8 (i * 3) (evCells x)).setCell ⟨r, 0, none⟩ (.slice A8 o.n c8)) := by
  rcases ho.2 with ⟨_, h0⟩ | ⟨g8, cap, cur, e, hg, hB, h3, h4, h5, h6⟩
  · omega
  injection e with e1 _ e3
  subst e1 e3
  have hB' : Blk w8 g8 35 cur := hB
  have hl : o.es.length = o.n := h.ref.obs.at_.files.len
  have hms := sets_rec evCells 3 (fun o => evCells_length o) h5 hl h3 h6 hi x
  have hb9 : Below W.heap.size W (w8.setCells g8 (i * 3) (evCells x)) := below_setCells hg (evCells x) (i * 3) hb8
  have ho9 : (w8.setCells g8 (i * 3) (evCells x)).ownsRow W.heap.size 35 3 (.slice (some ⟨g8, 0, none⟩) o.n c8) o.n ((o.es.set i x).flatMap evCells) :=
    ⟨by rw [flatMap_len evCells 3 _ (fun o _ => evCells_length o), List.length_set, hl], .inr ⟨g8, c8, _, rfl, hg, Blk.setCells _ _ hB', h3, h4, by rw [sets_size, h5], hms⟩⟩
  have hz := h.bel.size
  refine ⟨g8, rfl, by omega, fun e => by have := h.var.lt; omega, h3, h4, fun j hj => ⟨_, by rw [hB'.cell, Array.getElem?_eq_getElem (by omega)]⟩, hB'.frozen, h.put hrw hb9 ho9 (fun e he => mem_set_or he)⟩
/-- The data are copied. -/
theorem rfile_mid (h : RefV w R r s o pA pn pc) {a : AV} {W2 w3 : World} (hG : Blk W2 w.heap.size 61 (avArr a)) (hb2 : Below w.heap.size w W2) (hb : Below W2.heap.size W2 w3) {B : Nat} (hx : Slc w B 1 a.file.A a.file.n a.file.c (a.file.data.map bv)) (hB : B ≤ w.heap.size) (hn : a.file.n ≤ 1000000000) :
    ∃ g4 c4 w6, (Builtin.append_ #[33, 33] 33 #[.slice (some ⟨w3.heap.size + 1, 0, none⟩) 0 0, .slice a.file.A a.file.n a.file.c]).run Tryz.prog ((w3.alloc (.cells (evArr a.file) 35)).alloc (.cells #[] 5)) = .ok (.slice (some ⟨g4, 0, none⟩) a.file.n c4) w6 ∧
      w6.cell? ⟨w3.heap.size, 2, none⟩ = some (.slice a.file.A a.file.n a.file.c) ∧ w6.frozen? ⟨w3.heap.size, 2, none⟩ = false ∧ w3.heap.size < w6.heap.size ∧
      RFMid w R (w6.setCell ⟨w3.heap.size, 2, none⟩ (.slice (some ⟨g4, 0, none⟩) a.file.n c4)) r s o pA pn pc w3.heap.size ⟨a.file.path, a.file.kind, a.file.data, some ⟨g4, 0, none⟩, a.file.n, c4⟩ a.name := by
  have hb3 : Below w.heap.size w w3 := hb2.trans (hb.mono hb2.size)
  have hz3 := hb3.size
  have hG3 := hG.below hb hG.lt
  have hG4 : Blk (w3.alloc (.cells (evArr a.file) 35)) w3.heap.size 35 (evArr a.file) := Blk.new _ _ _
  have hz4 : (w3.alloc (.cells (evArr a.file) 35)).heap.size = w3.heap.size + 1 := by simp
  have hb4 : Below w.heap.size w (w3.alloc (.cells (evArr a.file) 35)) := hb3.alloc hz3 _
  obtain ⟨g4, c4, w6, S⟩ := bytes_copy (W := w3.alloc (.cells (evArr a.file) 35)) (hx.below (hb4.mono hB)) (by rw [hz4]; omega) hn
  have hG6 := hG4.below S.bel hG4.lt
  have hr6 := S.run
  rw [hz4] at hr6
  have hs6 := S.bel.size
  have hge := S.ge
  have hb6 : Below w.heap.size w w6 := hb4.trans (S.bel.mono (by omega))
  have hb7 := hb6.setCell (p := ⟨w3.heap.size, 2, none⟩) hz3 (.slice (some ⟨g4, 0, none⟩) a.file.n c4)
  have hbox : Blk (w6.setCell ⟨w3.heap.size, 2, none⟩ (.slice (some ⟨g4, 0, none⟩) a.file.n c4)) w.heap.size 61 (avArr a) := by
    have h1 := (hG3.alloc (.cells (evArr a.file) 35)).below S.bel (by have := hG3.lt; omega)
    exact h1.far (by have := hG3.lt; simp only; omega) _
  have hz7 : (w6.setCell ⟨w3.heap.size, 2, none⟩ (.slice (some ⟨g4, 0, none⟩) a.file.n c4)).heap.size = w6.heap.size := by simp [World.setCell]
  have ho7 := own_put (p := ⟨w3.heap.size, 2, none⟩) S.own (by simp only [Value.ownBlock]; intro e; injection e with e; omega) (.slice (some ⟨g4, 0, none⟩) a.file.n c4)
  exact ⟨g4, c4, w6, hr6, hG6.cell 2, hG6.frozen 2, hG6.lt, h.below hb7, hb7, hG6.set_ 2 _, hbox.cell 1, hbox.lt, own_slc_of ho7, fun x hx => by have := own_in ho7 x hx; exact .inr ⟨by omega, this.2⟩⟩
end
end Go.Proofs.YtibndaianhlcaaaGreatDoor
