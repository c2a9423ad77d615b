/- machine.Observe. machine.start. Contracts of the library laid at this dump. -/
import Derived.Test.YtibndaianhlcaaaDoorPart9
import Derived.Test.YtibndaianhlcaaaDoorPart8
import Derived.Shelf.Spec.SearchS
import Derived.Ground.Names2Prog
import Derived.Shelf.Spec.SlicesInsert
import Derived.Shelf.Spec.SlicesInsertGrow
import Derived.Test.YtibndaianhlcaaaDoorProg
namespace Go.Proofs.YtibndaianhlcaaaDoor
open Go.RowKit Go.Sort Go.Shelf
set_option linter.unusedVariables false
set_option linter.unusedSimpArgs false

theorem below_both {B : Nat} {a b : World} (h : Below B a b) (p : Addr) (v : Value) : Below B (a.setCell p v) (b.setCell p v) := by
  refine ⟨h.os, h.tape, h.output, by simpa [World.setCell] using h.size, fun k hk => ?_⟩
  have h1 := h.block k hk
  simp only [World.setCell, Array.getElem?_modify]
  rw [h1]
/-- A variable of the call's own, with its result: the world that the rest grows from. -/
structure ObsW (w W : World) (a b c : Value) : Prop where
  size : W.heap.size = w.heap.size + 2
  bel : Below w.heap.size w W
  res : Blk W w.heap.size 38 #[.slice none 0 0, .slice none 0 0, .slice none 0 0]
  var : Blk W (w.heap.size + 1) 38 #[a, b, c]
theorem ObsW.new (w : World) : ObsW w ((w.alloc (.cells #[.slice none 0 0, .slice none 0 0, .slice none 0 0] 38)).alloc (.cells #[.slice none 0 0, .slice none 0 0, .slice none 0 0] 38)) (.slice none 0 0) (.slice none 0 0) (.slice none 0 0) := by
  refine ⟨by simp, ((Below.refl _ w).alloc (Nat.le_refl _) _).alloc (by simp) _, (Blk.new _ _ _).alloc _, ?_⟩
  have := Blk.new (w.alloc (.cells #[.slice none 0 0, .slice none 0 0, .slice none 0 0] 38)) 38 #[.slice none 0 0, .slice none 0 0, .slice none 0 0]
  rwa [World.size_alloc] at this
theorem ObsW.set_ {w W : World} {a b c : Value} (h : ObsW w W a b c) (i : Nat) (v : Value) : ObsW w (W.setCell ⟨w.heap.size + 1, i, none⟩ v) ((#[a, b, c].setIfInBounds i v).getD 0 undef) ((#[a, b, c].setIfInBounds i v).getD 1 undef) ((#[a, b, c].setIfInBounds i v).getD 2 undef) := by
  refine ⟨by simpa [World.setCell] using h.size, h.bel.setCell (by simp) _, ?_, ?_⟩
  · have := h.res
    unfold Blk at this ⊢
    rw [Below.heap_setCell W _ _ _ (by simp)]
    exact this
  · have := h.var.set_ i v
    have e : (#[a, b, c].setIfInBounds i v) = #[(#[a, b, c].setIfInBounds i v).getD 0 undef, (#[a, b, c].setIfInBounds i v).getD 1 undef, (#[a, b, c].setIfInBounds i v).getD 2 undef] := by
      apply Array.ext
      · simp
      · intro j h1 h2
        simp at h1
        rcases j with _ | _ | _ | j
        · simp
        · simp
        · simp
        · omega
    rwa [e] at this
theorem ObsW.facts {w W wr : World} {a b c : Value} (h : ObsW w W a b c) (hb : Below W.heap.size W wr) : wr.cell? ⟨w.heap.size + 1, 0, none⟩ = some a ∧ wr.cell? ⟨w.heap.size + 1, 1, none⟩ = some b ∧ wr.cell? ⟨w.heap.size + 1, 2, none⟩ = some c ∧ (∀ i, wr.frozen? ⟨w.heap.size + 1, i, none⟩ = false) ∧ w.heap.size + 2 ≤ wr.heap.size := by
  have hB := h.var.below hb h.var.lt
  exact ⟨hB.cell 0, hB.cell 1, hB.cell 2, hB.frozen, by have := hb.size; have := h.size; omega⟩
/-- The machine while it is observed. -/
theorem ObsW.bel2 {w W wr : World} {a b c : Value} (h : ObsW w W a b c) (hb : Below W.heap.size W wr) : Below w.heap.size w wr := h.bel.trans (hb.mono (by have := h.size; omega))
theorem MachV.entsAt {w : World} {F : Nat → Prop} {g : Nat} {s : Mach} {fA : Option Addr} {fn fc : Nat} {es : List EV} {uA : Option Addr} {un uc : Nat} {nA : Option Addr} {nn nc : Nat} {us : List SV} {pA : Option Addr} {pn pc : Nat} (h : MachV w F g s fA fn fc es uA un uc nA nn nc us pA pn pc) : EntsAt w w.heap.size fA fn fc es :=
  ⟨h.files.slc', h.flen.1, fun e he => (h.data e he).slc'⟩
/-- Units of the call's own. -/
structure OwnU (w : World) (F : Nat → Prop) (A : Option Addr) (n c : Nat) (us : List SV) : Prop where
  row : Row w F 46 4 (.slice A n c) n (us.flatMap svCells)
  req : ∀ u ∈ us, Row w F 9 1 (.slice u.A u.n u.c) u.n (u.req.map encStr)
  aft : ∀ u ∈ us, Row w F 9 1 (.slice u.A2 u.n2 u.c2) u.n2 (u.aft.map encStr)
theorem OwnU.nil (w : World) (F : Nat → Prop) : OwnU w F none 0 0 [] := ⟨Row.nil _ _ _ _, (fun u h => by cases h), (fun u h => by cases h)⟩
theorem OwnU.len {w : World} {F : Nat → Prop} {A : Option Addr} {n c : Nat} {us : List SV} (h : OwnU w F A n c us) : us.length = n := by
  have h1 := h.row.own.1
  rw [flatMap_len svCells 4 us (fun o _ => svCells_length o)] at h1
  omega
theorem OwnU.keep {w w' : World} {F : Nat → Prop} {A : Option Addr} {n c : Nat} {us : List SV} (h : OwnU w F A n c us) (hb : ∀ k, k < w.heap.size → F k → w'.heap[k]? = w.heap[k]?) : OwnU w' F A n c us := by
  have hr : ∀ {e : TypeId} {sz n : Nat} {v : Value} {xs : List Value}, Row w F e sz v n xs → Row w' F e sz v n xs := fun hR => hR.kept (fun k hk => hb k (hR.own.lt k hk).2 (hR.foot k hk)) hR.foot
  exact ⟨hr h.row, fun u hu => hr (h.req u hu), fun u hu => hr (h.aft u hu)⟩
theorem OwnU.append {w : World} {F : Nat → Prop} {A : Option Addr} {n c : Nat} {us : List SV} (h : OwnU w F A n c us) (u : SV) (h1 : Row w F 9 1 (.slice u.A u.n u.c) u.n (u.req.map encStr)) (h2 : Row w F 9 1 (.slice u.A2 u.n2 u.c2) u.n2 (u.aft.map encStr)) (hn : n ≤ 1000000000) :
    ∃ A' c' w', (Builtin.append_ #[32, 32] 32 #[.slice A n c, .slice (some ⟨w.heap.size, 0, none⟩) 1 1]).run Tryd.prog (w.alloc (.cells (svArr u) 46)) = .ok (.slice A' (n + 1) c') w' ∧
      OwnU w' (Fn F w w') A' (n + 1) c' (us ++ [u]) ∧ w.grownBy w' (Value.slice A n c).ownBlock := by
  obtain ⟨i, hi, hz0, hz1, hz2⟩ := info_parts unit_info
  have hS := slc_new w 46 (0, 0) (svArr u) (sz := 4) (n := 1) (c := 1) rfl (Nat.le_refl _) (by decide)
  obtain ⟨A', c', w', r1, r2, r3, r4⟩ := append_slc (P := Tryd.prog) (w.alloc (.cells (svArr u) 46)) 0 32 32 46 i _ 4 80 Tryd.underlying32 hi hz0 hz1 hz2 rfl (by decide) _ n (us.flatMap svCells) (h.row.own.alloc _) _ _ 1 1 (svCells u) hS (fun v hv => svCells_one [u] v (by simpa using hv)) (by unfold maxLen; omega) (by omega) (Nat.zero_le _)
  have hg : w.grownBy w' (Value.slice A n c).ownBlock := ⟨r3.os, r3.tape, r3.output, Nat.le_trans (by simp) r3.size, fun k hk hne => by rw [r3.block k (by simp; omega) hne, Below.heap_alloc w _ k hk]⟩
  have hot := grown_other hg (row_typed h.row) (e := 9) (by decide)
  refine ⟨A', c', w', r1, ⟨⟨?_, fun k hk => ?_⟩, fun x hx => ?_, fun x hx => ?_⟩, hg⟩
  · rw [List.flatMap_append, List.flatMap_cons, List.flatMap_nil, List.append_nil]
    exact r2
  · rcases r4 with r4 | r4
    · rw [r4] at hk
      exact .inl (h.row.foot k hk)
    · have hl := (r2.lt k hk).2
      rw [r4] at hk
      injection hk with hk
      simp at hk
      exact .inr ⟨by omega, hl⟩
  · rcases List.mem_append.1 hx with hx | hx
    · exact ((h.req x hx).other hot).wide (fn_wide _ _ _)
    · rw [List.mem_singleton.1 hx]; exact (h1.other hot).wide (fn_wide _ _ _)
  · rcases List.mem_append.1 hx with hx | hx
    · exact ((h.aft x hx).other hot).wide (fn_wide _ _ _)
    · rw [List.mem_singleton.1 hx]; exact (h2.other hot).wide (fn_wide _ _ _)
theorem OwnEnts.other {w w' : World} {base : Nat} {v : Value} {n : Nat} {es : List EV} (h : OwnEnts w base v n es) (hs : w.heap.size ≤ w'.heap.size)
    (hb1 : ∀ (k : Nat) (cur : Array Value) (fr : Nat × Nat), w.heap[k]? = some (Obj.cells cur 44 fr) → w'.heap[k]? = w.heap[k]?) (hb2 : ∀ (k : Nat) (cur : Array Value) (fr : Nat × Nat), w.heap[k]? = some (Obj.cells cur 5 fr) → w'.heap[k]? = w.heap[k]?) : OwnEnts w' base v n es := by
  refine ⟨⟨h.own.1, ?_⟩, fun e he => ?_, fun e he => ?_, fun e he g hg => ?_⟩
  · rcases h.own.2 with hn | ⟨g, cap, cur, rfl, h1, h2, rest⟩
    · exact .inl hn
    · exact .inr ⟨g, cap, cur, rfl, h1, by rw [hb1 g cur (0, 0) h2]; exact h2, rest⟩
  · obtain ⟨g, g1, _⟩ := h.data e he
    obtain ⟨cur, hc⟩ := h.free e he g g1
    have hx := h.slc e he
    refine ⟨hx.len, hx.le, hx.cmax, fun hn => ?_⟩
    obtain ⟨b, off, e1, hlt, hcc⟩ := hx.at_ hn
    rw [g1] at e1
    injection e1 with e1
    injection e1 with e1 e2
    subst e1 e2
    exact ⟨g, 0, g1, by omega, fun j u hu => by rw [World.cell?_of_block (w := w) (a := ⟨g, 0 + j, none⟩) (hb2 g cur (0, 0) hc)]; exact hcc j u hu⟩
  · obtain ⟨g, g1, g2, g3, g4⟩ := h.data e he
    exact ⟨g, g1, g2, by omega, g4⟩
  · obtain ⟨cur, hc⟩ := h.free e he g hg
    exact ⟨cur, (hb2 g cur (0, 0) hc).trans hc⟩
/-- One unit more is told. -/
structure UnitStep (w W wr w9 : World) (vf : Value) (nf : Nat) (es : List EV) (vu : Value) (nu : Nat) (xs : List Value) (A3 : Option Addr) (j c3 : Nat) (us : List SV) (u : SV) (A4 : Option Addr) (c4 : Nat) (w10 : World) : Prop where
  run : (Builtin.append_ #[32, 32] 32 #[.slice A3 j c3, .slice (some ⟨w9.heap.size, 0, none⟩) 1 1]).run Tryd.prog (w9.alloc (.cells (svArr u) 46)) = .ok (.slice A4 (j + 1) c4) w10
  units : OwnU w10 (fun k => w.heap.size + 2 ≤ k) A4 (j + 1) c4 (us ++ [u])
  files : OwnEnts w10 (w.heap.size + 2) vf nf es
  users : Row w10 (fun k => w.heap.size ≤ k) 9 1 vu nu xs
  bel9 : Below W.heap.size W w9
  bel : Below W.heap.size W w10
theorem obs_unit {w W wr w9 : World} {a b : Value} {A3 : Option Addr} {j c3 : Nat} {vf : Value} {nf : Nat} {es : List EV} {vu : Value} {nu : Nat} {xs : List Value} {us : List SV} {u u' : SV} {x : Srv} (hO : ObsW w W a b (.slice A3 j c3)) (hb : Below W.heap.size W wr) (ho : OwnEnts wr (w.heap.size + 2) vf nf es) (hU : Row wr (fun k => w.heap.size ≤ k) 9 1 vu nu xs)
    (hV : OwnU wr (fun k => w.heap.size + 2 ≤ k) A3 j c3 us) (hout : UnitOut (wr.alloc (.cells (svArr u) 46)).drew w9 x u') (hj : j ≤ 1000000000) :
    ∃ A4 c4 w10, UnitStep w W wr w9 vf nf es vu nu xs A3 j c3 us u' A4 c4 w10 := by
  have hsz := hO.size
  have hb1 : Below wr.heap.size wr (wr.alloc (.cells (svArr u) 46)).drew := ((Below.refl _ wr).alloc (Nat.le_refl _) _).drew
  have hz1 : (wr.alloc (.cells (svArr u) 46)).drew.heap.size = wr.heap.size + 1 := by simp
  have hb9 : Below wr.heap.size wr w9 := hb1.trans (hout.bel.mono (by rw [hz1]; omega))
  have hwr := hb.size
  have own : ∀ {v : Value} {n : Nat} {xs : List Value}, w9.ownsRow (wr.alloc (.cells (svArr u) 46)).drew.heap.size 9 1 v n xs → Row w9 (fun k => w.heap.size + 2 ≤ k) 9 1 v n xs := fun hr =>
    ⟨⟨hr.1, hr.2.imp id fun ⟨g, cap, cur, e, _, r⟩ => ⟨g, cap, cur, e, Nat.zero_le _, r⟩⟩, fun k hk => by have := (hr.lt k hk).1; show w.heap.size + 2 ≤ k; omega⟩
  have hV9 := hV.keep (w' := w9) (fun k hk _ => hb9.block k hk)
  obtain ⟨A4, c4, w10, r, h2, hg⟩ := hV9.append u' (own hout.own1) (own hout.own2) hj
  have hty := row_typed hV9.row
  have ho9 := ho.below hb9
  have hU9 : Row w9 (fun k => w.heap.size ≤ k) 9 1 vu nu xs := hU.kept (fun k hk => hb9.block k (hU.own.lt k hk).2) hU.foot
  have hbW9 : Below W.heap.size W w9 := hb.trans (hb9.mono hwr)
  refine ⟨A4, c4, w10, r, ?_, ho9.other hg.size (grown_other hg hty (by decide)) (grown_other hg hty (by decide)), hU9.other (grown_other hg hty (by decide)), hbW9, hbW9.grown hg hbW9.size (fun q hq => by have h3 : w.heap.size + 2 ≤ q := hV9.row.foot q hq; omega)⟩
  have hwide : ∀ k, Fn (fun k => w.heap.size + 2 ≤ k) w9 w10 k → w.heap.size + 2 ≤ k := fun k hk => by
    rcases hk with h3 | h3
    · exact h3
    · have := hb9.size; omega
  exact ⟨h2.row.wide hwide, fun v hv => (h2.req v hv).wide hwide, fun v hv => (h2.aft v hv).wide hwide⟩
/-- What Observe tells: all in blocks of its own. -/
structure ObsOut (w w' : World) (s : Mach) (A : Option Addr) (n c : Nat) (es : List EV) (A2 : Option Addr) (n2 c2 : Nat) (A3 : Option Addr) (n3 c3 : Nat) (us : List SV) : Prop where
  files : OwnEnts w' w.heap.size (.slice A n c) n es
  ents : es.map EV.ent = s.files
  users : Row w' (fun k => w.heap.size ≤ k) 9 1 (.slice A2 n2 c2) n2 (s.users.map encStr)
  units : OwnU w' (fun k => w.heap.size ≤ k) A3 n3 c3 us
  srvs : us.map SV.srv = s.units
  bel : Below w.heap.size w w'
theorem OwnEnts.lower {w : World} {base b : Nat} {v : Value} {n : Nat} {es : List EV} (h : OwnEnts w base v n es) (hb : b ≤ base) : OwnEnts w b v n es :=
  ⟨⟨h.own.1, h.own.2.imp id fun ⟨g, cap, cur, e, he, r⟩ => ⟨g, cap, cur, e, by omega, r⟩⟩, h.slc, fun e he => by obtain ⟨g, g1, g2, g3, g4⟩ := h.data e he; exact ⟨g, g1, by omega, g3, g4⟩, h.free⟩
theorem OwnU.set_ {w : World} {F : Nat → Prop} {A : Option Addr} {n c : Nat} {us : List SV} (h : OwnU w F A n c us) {p : Addr} (hp : ¬ F p.block) (v : Value) : OwnU (w.setCell p v) F A n c us :=
  h.keep fun k _ hk => Below.heap_setCell _ _ _ _ (by rintro rfl; exact hp hk)
theorem OwnU.wide {w : World} {F G : Nat → Prop} {A : Option Addr} {n c : Nat} {us : List SV} (h : OwnU w F A n c us) (hg : ∀ k, F k → G k) : OwnU w G A n c us := ⟨h.row.wide hg, fun u hu => (h.req u hu).wide hg, fun u hu => (h.aft u hu).wide hg⟩
theorem obs_end {w W wr : World} {s : Mach} {a b c : Value} {A1 : Option Addr} {n1 c1 : Nat} {es : List EV} {A2 : Option Addr} {n2 c2 : Nat} {A3 : Option Addr} {n3 c3 : Nat} {us : List SV} (hO : ObsW w W a b c) (hb : Below W.heap.size W wr) (hf : OwnEnts wr (w.heap.size + 2) (.slice A1 n1 c1) n1 es) (he : es.map EV.ent = s.files)
    (hu : Row wr (fun k => w.heap.size ≤ k) 9 1 (.slice A2 n2 c2) n2 (s.users.map encStr)) (hv : OwnU wr (fun k => w.heap.size + 2 ≤ k) A3 n3 c3 us) (hs : us.map SV.srv = s.units) (x y z : Value) :
    ObsOut w (((wr.setCell ⟨w.heap.size, 0, none⟩ x).setCell ⟨w.heap.size, 1, none⟩ y).setCell ⟨w.heap.size, 2, none⟩ z) s A1 n1 c1 es A2 n2 c2 A3 n3 c3 us := by
  have hR := hO.res.below hb hO.res.lt
  have key : ∀ {w' : World} (i : Nat) (x : Value), OwnEnts w' (w.heap.size + 2) (.slice A1 n1 c1) n1 es → OwnEnts (w'.setCell ⟨w.heap.size, i, none⟩ x) (w.heap.size + 2) (.slice A1 n1 c1) n1 es := fun {w'} i x ho6 =>
    ho6.set_ (fun e1 => by have h9 : w.heap.size + 2 ≤ w.heap.size := (ho6.own.lt _ e1).1; omega) (fun x hx q hq => by obtain ⟨q', h1, h2, _⟩ := ho6.data x hx; rw [hq] at h1; injection h1 with h1; injection h1 with h1; simp only; omega) _
  have hn : ∀ i, ¬ (fun k => w.heap.size + 2 ≤ k) (⟨w.heap.size, i, none⟩ : Addr).block := fun i h => by have h9 : w.heap.size + 2 ≤ w.heap.size := h; omega
  exact ⟨(key 2 z (key 1 y (key 0 x hf))).lower (by omega), he, ((hu.other (set_other hR (by decide) 0 x)).other (set_other (hR.set_ 0 x) (by decide) 1 y)).other (set_other ((hR.set_ 0 x).set_ 1 y) (by decide) 2 z),
    (((hv.set_ (hn 0) x).set_ (hn 1) y).set_ (hn 2) z).wide (fun k hk => by have h9 : w.heap.size + 2 ≤ k := hk; omega), hs, (((hO.bel2 hb).setCell (Nat.le_refl _) _).setCell (Nat.le_refl _) _).setCell (Nat.le_refl _) _⟩
end Go.Proofs.YtibndaianhlcaaaDoor
namespace Go.Proofs.YtibndaianhlcaaaDoor
open Go.RowKit Go.Sort Go.Shelf
set_option linter.unusedVariables false
set_option linter.unusedSimpArgs false

/-- A unit is put behind the others. -/
structure StartEnd (w : World) (F : Nat → Prop) (g : Nat) (s : Mach) (w9 : World) (nA : Option Addr) (nn nc : Nat) (u' : SV) (A4 : Option Addr) (c4 : Nat) (w10 : World) : Prop where
  run : (Builtin.append_ #[32, 32] 32 #[.slice nA nn nc, .slice (some ⟨w9.heap.size, 0, none⟩) 1 1]).run Tryd.prog (w9.alloc (.cells (svArr u') 46)) = .ok (.slice A4 (nn + 1) c4) w10
  cell9 : w9.cell? ⟨g, 2, none⟩ = some (.slice nA nn nc)
  cell10 : (w10.cell? ⟨g, 2, none⟩).isSome = true ∧ w10.frozen? ⟨g, 2, none⟩ = false
  mach : MachAt (w10.setCell ⟨g, 2, none⟩ (.slice A4 (nn + 1) c4)) (Fn F w (w10.setCell ⟨g, 2, none⟩ (.slice A4 (nn + 1) c4))) g ⟨s.files, s.users, s.units ++ [u'.srv], s.plan⟩
  step : Step w (w10.setCell ⟨g, 2, none⟩ (.slice A4 (nn + 1) c4)) F (Fn F w (w10.setCell ⟨g, 2, none⟩ (.slice A4 (nn + 1) c4)))
theorem start_end {w : World} {F : Nat → Prop} {g : Nat} {s : Mach} {fA : Option Addr} {fn fc : Nat} {es : List EV} {uA : Option Addr} {un uc : Nat} {nA : Option Addr} {nn nc : Nat} {us : List SV} {pA : Option Addr} {pn pc : Nat} (h : MachV w F g s fA fn fc es uA un uc nA nn nc us pA pn pc)
    {w9 : World} {x : Srv} {u' : SV} (hout : UnitOut w.drew w9 x u') (hn : nn ≤ 1000000000) : ∃ A4 c4 w10, StartEnd w F g s w9 nA nn nc u' A4 c4 w10 := by
  have hb9 : Below w.heap.size w w9 := ((Below.refl _ w).drew).trans hout.bel
  have h9 := (h.below hb9).wide (fn_wide F w w9)
  have own : ∀ {v : Value} {n : Nat} {xs : List Value}, w9.ownsRow w.heap.size 9 1 v n xs → Row w9 (Fn F w w9) 9 1 v n xs := fun hr =>
    ⟨⟨hr.1, hr.2.imp id fun ⟨g, cap, cur, e, _, r⟩ => ⟨g, cap, cur, e, Nat.zero_le _, r⟩⟩, fun k hk => .inr (hr.lt k hk)⟩
  have hU : OwnU w9 (Fn F w w9) nA nn nc us := ⟨h9.units, h9.req, h9.aft⟩
  obtain ⟨A4, c4, w10, r, h2, hg⟩ := hU.append u' (own hout.own1) (own hout.own2) hn
  have hlt : ∀ k, (Value.slice uA un uc).ownBlock = some k → k < w.heap.size := fun k hk => (h.users.own.lt k hk).2
  have hs := h9.setUnits (w' := w10) hg (G := Fn (Fn F w w9) w9 w10) (fn_wide _ _ _) h2.row (fun v hv => by
    rcases List.mem_append.1 hv with hv | hv
    · exact .inl hv
    · rw [List.mem_singleton.1 hv]
      refine .inr ⟨h2.req _ (List.mem_append_right _ (List.mem_singleton.2 rfl)), h2.aft _ (List.mem_append_right _ (List.mem_singleton.2 rfl)), fun k hk => ⟨fun e => ?_, fun e => ?_⟩⟩
      · have h3 : w.heap.size ≤ k := (hout.own1.lt k e).1
        have := hlt k hk; omega
      · have h3 : w.heap.size ≤ k := (hout.own2.lt k e).1
        have := hlt k hk; omega)
  have hsz : (w10.setCell ⟨g, 2, none⟩ (.slice A4 (nn + 1) c4)).heap.size = w10.heap.size := by simp [World.setCell]
  have hst := (((Step.of_below hb9 F).grown hg (fun k hk => by
    rcases h9.units.foot k hk with h3 | h3
    · exact .inl h3
    · exact .inr h3.1)).setCell (p := ⟨g, 2, none⟩) (.inl h.foot) (.slice A4 (nn + 1) c4))
  have hgk := grown_other hg (row_typed h9.units) (e := 36) (by decide) g _ (0, 0) h9.blk
  have hB10 : Blk w10 g 36 _ := hgk.trans h9.blk
  have h91 := hb9.size
  have h92 := hg.size
  refine ⟨A4, c4, w10, r, h9.facts.2.2.1, ⟨by rw [hB10.cell 2]; rfl, hB10.frozen 2⟩, ?_, hst.fn⟩
  rw [List.map_append, h9.srvs] at hs
  refine ⟨_, _, _, _, _, _, _, _, _, _, _, _, _, _, hs.wide fun k hk => ?_⟩
  unfold Fn
  rw [hsz]
  rcases hk with (hk | hk) | hk
  · exact .inl hk
  · exact .inr ⟨hk.1, by omega⟩
  · exact .inr ⟨by omega, hk.2⟩
theorem MachAt.later {w w5 w' : World} {F : Nat → Prop} {g : Nat} {s : Mach} (h : MachAt w' (Fn F w5 w') g s) (hs : w.heap.size ≤ w5.heap.size) : MachAt w' (Fn F w w') g s := by
  obtain ⟨fA, fn, fc, es, uA, un, uc, nA, nn, nc, us, pA, pn, pc, h⟩ := h
  refine ⟨fA, fn, fc, es, uA, un, uc, nA, nn, nc, us, pA, pn, pc, h.wide fun k hk => ?_⟩
  rcases hk with hk | hk
  · exact .inl hk
  · exact .inr ⟨by omega, hk.2⟩
theorem lt_of_len {k n m : Nat} (h : m = n) (hk : k < n) : k < m := by omega
set_option maxRecDepth 100000 in
set_option maxHeartbeats 4000000 in
theorem start_any {w : World} {F : Nat → Prop} {g : Nat} {s : Mach} (h : MachAt w F g s) (hn24 : s.units.length ≤ 1000000) (name : Txt) {B : Nat} (u : SV) (h1 : Slc w B 1 u.A u.n u.c (u.req.map encStr)) (h2 : Slc w B 1 u.A2 u.n2 u.c2 (u.aft.map encStr)) (hB : B ≤ w.heap.size) (hn : u.n ≤ 1000000000 ∧ u.n2 ≤ 1000000000)
    (hs : ∀ t ∈ u.name :: (u.req ++ u.aft), t.length ≤ 1000000000) (hst : u.start.length ≤ 1000000000) (hF1 : ∀ a, u.A = some a → ¬ F a.block) (hF2 : ∀ a, u.A2 = some a → ¬ F a.block) (hFl : ∀ k, F k → k < w.heap.size) :
    Calls Tryd.prog 26 #[.pointer (some ⟨g, 2, none⟩), .string ⟨name.toArray⟩, .agg (svArr u)] w (MachPost w F g (doStart s name u.srv)) := by
  obtain ⟨fA, fn, fc, es, uA, un, uc, nA, nn, nc, us, pA, pn, pc, h⟩ := h
  obtain ⟨W1, hW1⟩ : ∃ W1, W1 = w.alloc (.cells (svArr u) 46) := ⟨_, rfl⟩
  have hb1 : Below w.heap.size w W1 := by rw [hW1]; exact (Below.refl _ w).alloc (Nat.le_refl _) _
  have hG1 : Blk W1 w.heap.size 46 (svArr u) := by rw [hW1]; exact Blk.new _ _ _
  have hz1 : W1.heap.size = w.heap.size + 1 := by rw [hW1]; simp
  have hmay := may_any20 u (h1.below (hb1.mono hB)) (h2.below (hb1.mono hB)) (by omega) hn hs hst
  have hnl := h.nlen
  have HNL := Lib.hid hnl
  have H := Lib.hid h
  have HG1 := Lib.hid hG1
  have HB1 := Lib.hid hb1
  have HS1 := Lib.hid h1
  have HS2 := Lib.hid h2
  have HF1 := Lib.hid hF1
  have HF2 := Lib.hid hF2
  have HN := Lib.hid hn
  have HFL := Lib.hid hFl
  have HBB := Lib.hid hB
  have hnn : nn ≤ 1000000 := by omega
  have HU1 := Lib.hid (show u.req.length = u.n by have := h1.len; simpa using this)
  obtain ⟨nm, st, rq, A, n, c, af, A', n', c'⟩ := u
  have hn1 : n ≤ 1000000000 := hn.1
  have x0 := hG1.cell 0
  have x1 := hG1.cell 1
  have x2 := hG1.cell 2
  have x3 := hG1.cell 3
  rw [hW1] at hmay x0 x1 x2 x3
  have HW1 := Lib.hid hW1
  unfold svArr at hmay x0 x1 x2 x3 ⊢
  simp only [List.getElem?_toArray, List.getElem?_cons_zero, List.getElem?_cons_succ] at x0 x1 x2 x3
  have tn : (ByteArray.mk name.toArray).toList = name := Go.ByteArray.toList_eq _
  have tm : (ByteArray.mk nm.toArray).toList = nm := Go.ByteArray.toList_eq _
  clear h h1 h2 hF1 hF2 hn hB hb1 hG1 hW1 hs hst hnl hz1 hFl
  have hbad : Hid (¬ (mayU ⟨nm, st, rq, af⟩ = true ∧ name = nm) → doStart s name ⟨nm, st, rq, af⟩ = (s, 70)) := fun h9 => by unfold doStart; rw [if_neg h9]
  change Calls Tryd.prog 26 _ w (MachPost w F g (doStart s name ⟨nm, st, rq, af⟩))
  change Calls Tryd.prog 48 _ _ (fun e w' => e = .returned (.bool (mayU ⟨nm, st, rq, af⟩)) ∧ _) at hmay
  have fin70 : Hid (∀ w', Below w.heap.size w w' → MachPost w F g (s, 70) (.returned (.int .i64 70)) w') := fun w' hb => ⟨rfl, ⟨fA, fn, fc, es, uA, un, uc, nA, nn, nc, us, pA, pn, pc, (H.out.below hb).wide (fn_wide _ _ _)⟩, (Step.of_below hb F).fn⟩
  have fin0 : Hid (∀ w', Below w.heap.size w w' → MachPost w F g (s, 0) (.returned (.int .i64 0)) w') := fun w' hb => ⟨rfl, ⟨fA, fn, fc, es, uA, un, uc, nA, nn, nc, us, pA, pn, pc, (H.out.below hb).wide (fn_wide _ _ _)⟩, (Step.of_below hb F).fn⟩
  cases hm : mayU ⟨nm, st, rq, af⟩ with
  | false =>
    have HX := Lib.hid (hbad.out (fun h9 => by rw [hm] at h9; exact absurd h9.1 (by decide)))
    rw [hm] at hmay
    clear hm hbad
    go_enter Tryd.func26, Tryd.ntmps26
    go_wp2_with (go_at_call 48; refine hmay.mono ?_; clear hmay; rintro e w2 ⟨rfl, hb2⟩)
    go_ret
    rw [HX.out]
    exact fin70.out _ (HB1.out.trans ((HW1.out ▸ hb2 : Below W1.heap.size W1 w2).mono HB1.out.size))
  | true =>
    rw [hm] at hmay
    cases hnm : (name == nm) with
    | false =>
      have HX := Lib.hid (hbad.out (fun h9 => by rw [h9.2] at hnm; simp at hnm))
      clear hm hbad
      go_enter Tryd.func26, Tryd.ntmps26
      go_wp2_with (go_at_call 48; refine hmay.mono ?_; clear hmay; rintro e w2 ⟨rfl, hb2⟩; have y0 : w2.cell? ⟨w.heap.size, 0, none⟩ = some (.string ⟨nm.toArray⟩) := ((HG1.out.below (HW1.out ▸ hb2 : Below W1.heap.size W1 w2) HG1.out.lt)).cell 0)
      go_ret
      rw [HX.out]
      exact fin70.out _ (HB1.out.trans ((HW1.out ▸ hb2 : Below W1.heap.size W1 w2).mono HB1.out.size))
    | true =>
      have HNM := Lib.hid (show name = nm by simpa using hnm)
      have HM := Lib.hid hm
      clear hm hbad
      have hal : Hid (∀ {W : World}, Below w.heap.size w W → Calls Tryd.prog 35 #[.pointer (some ⟨g, 2, none⟩), .string ⟨name.toArray⟩] W fun e w' => e = .returned (.int .i64 (atU s.units name)) ∧ Below W.heap.size W w') := fun hb => at_any (H.out.below hb) name
      cases hh : hasU s.units name with
      | false =>
        have hat : atU s.units name = -1 := by unfold atU; rw [if_neg (by rw [hh]; decide)]
        have HD := Lib.hid (show doStart s name ⟨nm, st, rq, af⟩ = if rq.all (hasU s.units) = false then (s, 70) else if s.units.length = 24 then (s, 70) else if failsP s.plan = true then (⟨s.files, s.users, s.units, s.plan.tail⟩, 71) else (⟨s.files, s.users, s.units ++ [⟨nm, st, rq, af⟩], s.plan.tail⟩, 0) by
          unfold doStart
          rw [if_pos ⟨HM.out, HNM.out⟩, if_neg (by rw [hh]; intro h9; exact absurd h9.1 (by decide)), hh]
          simp only [Bool.false_eq_true, if_false])
        rw [hat] at hal
        clear hat hh
        go_enter Tryd.func26, Tryd.ntmps26
        go_wp2_with (first
          | (go_at_call 48; refine hmay.mono ?_; clear hmay; rintro e w2 ⟨rfl, hb2⟩; have hb2' : Below W1.heap.size W1 w2 := HW1.out ▸ hb2; have y0 : w2.cell? ⟨w.heap.size, 0, none⟩ = some (.string ⟨nm.toArray⟩) := (HG1.out.below hb2' HG1.out.lt).cell 0; have HB2 := Lib.hid hb2'; clear hb2 hb2')
          | (go_at_call 35; refine (hal.out (HB1.out.trans (HB2.out.mono HB1.out.size))).mono ?_; rintro e w3 ⟨rfl, hb3⟩; have hb3' := HB2.out.trans (hb3.mono HB2.out.size); have y2 : w3.cell? ⟨w.heap.size, 2, none⟩ = some (.slice A n c) := (HG1.out.below hb3' HG1.out.lt).cell 2; have HB3 := Lib.hid hb3'; clear hb3 hb3'))
        go_quiet (fail)
        go_wp2_with (fail)
        go_loopw [39] (fun i wr => ∃ k : Nat, k ≤ n ∧ i = .int .i64 (k : Int) ∧ Aside ((rq.take k).all (hasU s.units) = true) ∧ Aside (Below W1.heap.size W1 wr)) (fun i _ => n - (intOf i).toNat)
        case atStart => exact ⟨0, Nat.zero_le _, rfl, rfl, bel_drewN HB3.out _⟩
        case round =>
          obtain ⟨k, hk, rfl, hall, hb⟩ := hrel
          have hbw : Below w.heap.size w wr := HB1.out.trans (hb.out.mono HB1.out.size)
          by_cases hlt : k < n
          · obtain ⟨b, off, rfl, hbB, hc⟩ := (HS1.out.below (hbw.mono HBB.out)).at_ (show 0 < n by omega)
            have hkL : k < rq.length := lt_of_len HU1.out hlt
            have hk1 : k + 1 ≤ n := hlt
            have c0 : wr.cell? ⟨b, off + k, none⟩ = some (.string ⟨rq[k].toArray⟩) := hc k _ (by rw [List.getElem?_map, List.getElem?_eq_getElem hkL]; rfl)
            have hat2 := at_any (H.out.below hbw) rq[k]
            have HTK := Lib.hid (show (rq.take (k + 1)).all (hasU s.units) = hasU s.units rq[k] by rw [List.take_succ_eq_append_getElem hkL, List.all_append, hall.out]; simp)
            have HAL := Lib.hid (show hasU s.units rq[k] = false → rq.all (hasU s.units) = false from fun h9 => by rw [List.all_eq_false]; exact ⟨_, List.getElem_mem hkL, by rw [h9]; decide⟩)
            generalize rq[k] = t at *
            clear hc
            cases hb9 : hasU s.units t with
            | false =>
              rw [show atU s.units t = -1 by unfold atU; rw [if_neg (by rw [hb9]; decide)]] at hat2
              have HX := Lib.hid (show doStart s name ⟨nm, st, rq, af⟩ = (s, 70) by rw [HD.out, if_pos (HAL.out hb9)])
              clear hb9
              go_wp2_with (go_at_call 35; refine hat2.mono ?_; clear hat2; rintro e9 w9 ⟨rfl, hb9⟩; have HB9 := Lib.hid (hbw.trans (hb9.mono hbw.size)); clear hb9)
              go_ret
              rw [HX.out]
              exact fin70.out _ HB9.out
            | true =>
              have hz : ¬ ((idxU s.units t : Int) < 0) := by omega
              rw [show atU s.units t = (idxU s.units t : Int) by unfold atU; rw [if_pos hb9]] at hat2
              have HT := Lib.hid (HTK.out.trans hb9)
              clear hb9
              generalize idxU s.units t = q at *
              go_wp2_with (go_at_call 35; refine hat2.mono ?_; clear hat2; rintro e9 w9 ⟨rfl, hb9⟩; have HB9 := Lib.hid (hb.out.trans (hb9.mono hb.out.size)); clear hb9)
              exact ⟨⟨k + 1, hk1, by go_num, HT.out, HB9.out⟩, by clear HB9 HT; simp [intOf]; omega⟩
          · obtain rfl : k = n := by omega
            have hal2 : rq.all (hasU s.units) = true := by
              have h9 := hall.out
              rwa [List.take_of_length_le (Nat.le_of_eq HU1.out)] at h9
            have hnu := HNL.out.2
            have hgw : g < wr.heap.size := Nat.lt_of_lt_of_le H.out.blk.lt hbw.size
            have m2 := (H.out.below hbw).facts.2.2.1
            by_cases h24 : nn = 24
            · have HX := Lib.hid (show doStart s name ⟨nm, st, rq, af⟩ = (s, 70) by rw [HD.out, if_neg (by rw [hal2]; decide), if_pos (by omega)])
              have HBW := Lib.hid hbw
              have h24b : ((nn : Int) == 24) = true := by rw [h24]; rfl
              clear hal2 hnu hbw
              go_wp2_with (fail)
              go_ret
              rw [HX.out]
              exact fin70.out _ HBW.out
            · have hfl := fails_any (H.out.below hbw)
              have h24b : ((nn : Int) == 24) = false := by rw [beq_eq_false_iff_ne]; omega
              cases hf : failsP s.plan with
              | true =>
                have HX := Lib.hid (show doStart s name ⟨nm, st, rq, af⟩ = (⟨s.files, s.users, s.units, s.plan.tail⟩, 71) by rw [HD.out, if_neg (by rw [hal2]; decide), if_neg (by omega), if_pos hf])
                rw [hf] at hfl
                have HBW := Lib.hid hbw
                clear hal2 hnu hbw hf
                go_wp2_with (go_at_call 36; refine hfl.mono ?_; clear hfl; rintro e w5 ⟨rfl, hm5, hs5, hz5⟩; have HM5 := Lib.hid hm5; have HS5 := Lib.hid hs5; clear hm5 hs5 hz5)
                go_ret
                rw [HX.out]
                obtain ⟨qA, qn, qc, hm5⟩ := HM5.out
                exact ⟨rfl, ⟨_, _, _, _, _, _, _, _, _, _, _, _, _, _, hm5.wide (fn_wide _ _ _)⟩, ((Step.of_below HBW.out F).trans HS5.out).fn⟩
              | false =>
                have HX := Lib.hid (show doStart s name ⟨nm, st, rq, af⟩ = (⟨s.files, s.users, s.units ++ [⟨nm, st, rq, af⟩], s.plan.tail⟩, 0) by rw [HD.out, if_neg (by rw [hal2]; decide), if_neg (by omega), if_neg (by rw [hf]; decide)])
                rw [hf] at hfl
                have HBW := Lib.hid hbw
                have HBr := Lib.hid hb.out
                clear hal2 hnu hbw hf hb
                go_wp2_with (go_at_call 36; refine hfl.mono ?_; clear hfl; rintro e w5 ⟨rfl, hm5, hs5, hz5⟩; obtain ⟨qA, qn, qc, hm5⟩ := hm5; have hG5 := (HG1.out.below HBr.out HG1.out.lt).step hs5 (fun h9 => Nat.lt_irrefl _ (HFL.out _ h9)); have z0 := hG5.cell 0; have z1 := hG5.cell 1; have z2 := hG5.cell 2; have z3 := hG5.cell 3; have m5 := hm5.facts.2.2.1; have hg5 : g < w5.heap.size := hm5.blk.lt; have HM5 := Lib.hid hm5; have HS5 := Lib.hid hs5; have HZ5 := Lib.hid hz5; clear hm5 hs5 hz5 hG5)
                unfold svArr at z0 z1 z2 z3
                simp only [List.getElem?_toArray, List.getElem?_cons_zero, List.getElem?_cons_succ] at z0 z1 z2 z3
                have hz5r : wr.heap.size = w5.heap.size := HZ5.out.symm
                have hB5 : B ≤ w5.heap.size := by rw [HZ5.out]; exact Nat.le_trans HBB.out HBW.out.size
                have hun := unit_any (w := w5.drew) ⟨nm, st, rq, A, k, c, af, A', n', c'⟩ ((HS1.out.below (HBW.out.mono HBB.out)).apart HS5.out HF1.out).drew ((HS2.out.below (HBW.out.mono HBB.out)).apart HS5.out HF2.out).drew hB5 HN.out
                unfold svArr at hun
                have HNN := Lib.hid (show nn ≤ 1000000000 from Nat.le_trans hnn (by decide))
                go_region_law (first
                  | (go_simp; go_at_call 18; refine hun.mono ?_; clear hun; rintro e9 w9 ⟨u', rfl, hU9⟩; obtain ⟨A4, c4, w10, hst⟩ := start_end HM5.out hU9 HNN.out; have HST := Lib.hid hst; have HSR := Lib.hid hU9.srv; have v9 := hst.cell9; have v9z : g < w9.heap.size := Nat.lt_of_lt_of_le hg5 hU9.bel.size; have r10' := hst.run; unfold svArr at r10'; have r10 := Lib.hid r10'; obtain ⟨v10', f10⟩ := hst.cell10; obtain ⟨cv, v10⟩ := Option.isSome_iff_exists.1 v10'; clear v10'; clear hst hU9 r10')
                  | (refine step_append_at (by rfl) _ _ _ (by rfl) r10.out (by with_reducible rfl) (by rfl) (by rfl) (by rfl) ?_))
                all_goals go_wp2_with (fail)
                all_goals go_ret
                all_goals rw [HX.out]
                all_goals have hM := HST.out.mach
                all_goals rw [HSR.out] at hM
                all_goals exact ⟨rfl, hM.later (by rw [HZ5.out]; exact HBW.out.size), (((Step.of_below HBW.out F).trans HS5.out).trans HST.out.step).fn⟩
      | true =>
        obtain ⟨hi, _⟩ := idxU_at hh
        have hat : atU s.units name = (idxU s.units name : Int) := by unfold atU; rw [if_pos hh]
        obtain ⟨i, hix⟩ : ∃ i, i = idxU s.units name := ⟨_, rfl⟩
        rw [hat, ← hix] at hal
        rw [← hix] at hi
        have hin : i < nn := by have := HNL.out.2; omega
        have hi62 : i ≤ 1000000 := by omega
        have hpos : (0 : Int) ≤ (i : Int) := by omega
        have HIX := Lib.hid hix
        have HHH := Lib.hid hh
        clear hat hh hix
        go_enter Tryd.func26, Tryd.ntmps26
        go_wp2_with (first
          | (go_at_call 48; refine hmay.mono ?_; clear hmay; rintro e w2 ⟨rfl, hb2⟩; have hb2' : Below W1.heap.size W1 w2 := HW1.out ▸ hb2; have y0 : w2.cell? ⟨w.heap.size, 0, none⟩ = some (.string ⟨nm.toArray⟩) := (HG1.out.below hb2' HG1.out.lt).cell 0; have HB2 := Lib.hid hb2'; clear hb2 hb2')
          | (go_at_call 35; refine (hal.out (HB1.out.trans (HB2.out.mono HB1.out.size))).mono ?_; rintro e w3 ⟨rfl, hb3⟩; have HB3 := Lib.hid (HB2.out.trans (hb3.mono HB2.out.size)); clear hb3))
        have hbw3 : Below w.heap.size w w3 := HB1.out.trans (HB3.out.mono HB1.out.size)
        have m2 := (H.out.below hbw3).facts.2.2.1
        obtain ⟨b, off, hnA, hbB, hl, c0, c1, c2, c3, q1, q2⟩ := ((H.out.unitsAt).below hbw3).at_ hin
        subst hnA
        have HGET := Lib.hid (show s.units[i]? = some us[i].srv by rw [← H.out.srvs, List.getElem?_map, List.getElem?_eq_getElem hl]; rfl)
        generalize us[i] = ui at *
        have hG3 := HG1.out.below HB3.out HG1.out.lt
        have z0 := hG3.cell 0
        have z1 := hG3.cell 1
        have z2 := hG3.cell 2
        have z3 := hG3.cell 3
        unfold svArr at z0 z1 z2 z3
        simp only [List.getElem?_toArray, List.getElem?_cons_zero, List.getElem?_cons_succ] at z0 z1 z2 z3
        have hsame := same_any20 (w := w3.drew) ui ⟨nm, st, rq, A, n, c, af, A', n', c'⟩ q1.drew q2.drew ((HS1.out.below (hbw3.mono HBB.out)).more HBB.out).drew ((HS2.out.below (hbw3.mono HBB.out)).more HBB.out).drew hbw3.size
        unfold svArr at hsame
        change Calls _ _ _ _ (fun e w' => e = .returned (.bool (decide (ui.srv = ⟨nm, st, rq, af⟩))) ∧ Below w3.heap.size w3.drew w') at hsame
        obtain ⟨an, asx, ar, aA, an1, ac1, aa, aA2, an2, ac2⟩ := ui
        simp only at c0 c1 c2 c3 hsame
        have HBW3 := Lib.hid hbw3
        clear q1 q2 hG3 hbB hbw3
        refine region_tail 11 (by kernel_rfl) (by kernel_rfl) ?_
        simp only [List.take_succ_cons, List.take_zero, List.drop_succ_cons, List.drop_zero]
        repeat still_step
        refine wpStill_nil ?_
        have HG := Lib.hid (show s.units[idxU s.units name]? = some ⟨an, asx, ar, aa⟩ from HIX.out ▸ HGET.out)
        cases hsm : decide ((⟨an, asx, ar, aa⟩ : Srv) = ⟨nm, st, rq, af⟩) with
        | false =>
          have HX := Lib.hid (show doStart s name ⟨nm, st, rq, af⟩ = (s, 70) by
            unfold doStart
            rw [if_pos ⟨HM.out, HNM.out⟩, if_pos ⟨HHH.out, by rw [HG.out]; intro h9; exact of_decide_eq_false hsm (Option.some.inj h9)⟩])
          have hsame' : Calls Tryd.prog 49 _ _ (fun e w' => e = .returned (.bool false) ∧ Below w3.heap.size w3.drew w') := hsm ▸ hsame
          clear hsame hsm
          go_wp2_with (go_at_call 49; refine hsame'.mono ?_; clear hsame'; rintro e w4 ⟨rfl, hb4⟩; have HB4 := Lib.hid (HBW3.out.trans ((show Below w3.heap.size w3 w4 from ((Below.refl _ w3).drew).trans hb4).mono HBW3.out.size)); clear hb4)
          go_ret
          rw [HX.out]
          exact fin70.out _ HB4.out
        | true =>
          have HD := Lib.hid (show doStart s name ⟨nm, st, rq, af⟩ = if rq.all (hasU s.units) = false then (s, 70) else (s, 0) by
            unfold doStart
            rw [if_pos ⟨HM.out, HNM.out⟩, if_neg (by rw [HG.out, of_decide_eq_true hsm]; intro h9; exact h9.2 rfl), HHH.out]
            simp only [if_true])
          have hsame' : Calls Tryd.prog 49 _ _ (fun e w' => e = .returned (.bool true) ∧ Below w3.heap.size w3.drew w') := hsm ▸ hsame
          clear hsame hsm
          go_wp2_with (go_at_call 49; refine hsame'.mono ?_; clear hsame'; rintro e w4 ⟨rfl, hb4⟩; have hb4' : Below w3.heap.size w3 w4 := ((Below.refl _ w3).drew).trans hb4; have hb4'' := HB3.out.trans (hb4'.mono HB3.out.size); have y2 : w4.cell? ⟨w.heap.size, 2, none⟩ = some (.slice A n c) := (HG1.out.below hb4'' HG1.out.lt).cell 2; have HB4 := Lib.hid hb4''; clear hb4 hb4' hb4'')
          go_loopw [39] (fun i wr => ∃ k : Nat, k ≤ n ∧ i = .int .i64 (k : Int) ∧ Aside ((rq.take k).all (hasU s.units) = true) ∧ Aside (Below W1.heap.size W1 wr)) (fun i _ => n - (intOf i).toNat)
          case atStart => exact ⟨0, Nat.zero_le _, rfl, rfl, HB4.out⟩
          case round =>
            obtain ⟨k, hk, rfl, hall, hb⟩ := hrel
            have hbw : Below w.heap.size w wr := HB1.out.trans (hb.out.mono HB1.out.size)
            by_cases hlt : k < n
            · obtain ⟨b2, off2, rfl, hbB, hc⟩ := (HS1.out.below (hbw.mono HBB.out)).at_ (show 0 < n by omega)
              have hkL : k < rq.length := lt_of_len HU1.out hlt
              have hk1 : k + 1 ≤ n := hlt
              have c9 : wr.cell? ⟨b2, off2 + k, none⟩ = some (.string ⟨rq[k].toArray⟩) := hc k _ (by rw [List.getElem?_map, List.getElem?_eq_getElem hkL]; rfl)
              have hat2 := at_any (H.out.below hbw) rq[k]
              have HTK := Lib.hid (show (rq.take (k + 1)).all (hasU s.units) = hasU s.units rq[k] by rw [List.take_succ_eq_append_getElem hkL, List.all_append, hall.out]; simp)
              have HAL := Lib.hid (show hasU s.units rq[k] = false → rq.all (hasU s.units) = false from fun h9 => by rw [List.all_eq_false]; exact ⟨_, List.getElem_mem hkL, by rw [h9]; decide⟩)
              generalize rq[k] = t at *
              clear hc
              cases hb9 : hasU s.units t with
              | false =>
                rw [show atU s.units t = -1 by unfold atU; rw [if_neg (by rw [hb9]; decide)]] at hat2
                have HX := Lib.hid (show doStart s name ⟨nm, st, rq, af⟩ = (s, 70) by rw [HD.out, if_pos (HAL.out hb9)])
                clear hb9
                go_wp2_with (go_at_call 35; refine hat2.mono ?_; clear hat2; rintro e9 w9 ⟨rfl, hb9⟩; have HB9 := Lib.hid (hbw.trans (hb9.mono hbw.size)); clear hb9)
                go_ret
                rw [HX.out]
                exact fin70.out _ HB9.out
              | true =>
                have hz : ¬ ((idxU s.units t : Int) < 0) := by omega
                rw [show atU s.units t = (idxU s.units t : Int) by unfold atU; rw [if_pos hb9]] at hat2
                have HT := Lib.hid (HTK.out.trans hb9)
                clear hb9
                generalize idxU s.units t = q at *
                go_wp2_with (go_at_call 35; refine hat2.mono ?_; clear hat2; rintro e9 w9 ⟨rfl, hb9⟩; have HB9 := Lib.hid (hb.out.trans (hb9.mono hb.out.size)); clear hb9)
                exact ⟨⟨k + 1, hk1, by go_num, HT.out, HB9.out⟩, by clear HB9 HT; simp [intOf]; omega⟩
            · obtain rfl : k = n := by omega
              have hal2 : rq.all (hasU s.units) = true := by
                have h9 := hall.out
                rwa [List.take_of_length_le (Nat.le_of_eq HU1.out)] at h9
              have HX := Lib.hid (show doStart s name ⟨nm, st, rq, af⟩ = (s, 0) by rw [HD.out, if_neg (by rw [hal2]; decide)])
              have HBW := Lib.hid hbw
              clear hal2 hbw
              go_wp2_with (fail)
              go_ret
              rw [HX.out]
              exact fin0.out _ HBW.out
end Go.Proofs.YtibndaianhlcaaaDoor
namespace Go.Proofs
open Go.Shelf
def Tryd.bsS_ren : Go.Shelf.Ren := ⟨fun | 26 => 46 | 33 => 61 | 34 => 62 | 38 => 75 | n => n, fun | 24 => 29 | 9 => 9 | 3 => 3 | 4 => 4 | 40 => 88 | 0 => 0 | n => n, fun | n => n⟩
theorem Tryd.bsS : Go.Proofs.Lays2.n26 Tryd.prog Tryd.bsS_ren := {
  mixed := by kernel_rfl
  f26 := Tryd.func46.trans (congrArg some (by kernel_rfl))
  f33 := Tryd.func61.trans (congrArg some (by kernel_rfl))
  f34 := Tryd.func62.trans (congrArg some (by kernel_rfl))
  f38 := Tryd.func75.trans (congrArg some (by kernel_rfl))
  t0 := Tryd.underlying0
  a0 := Tryd.isAgg0
  z0 := Tryd.sizeOf0
  v0 := Tryd.zeroValue0
  t3 := Tryd.underlying3
  a3 := Tryd.isAgg3
  z3 := Tryd.sizeOf3
  v3 := Tryd.zeroValue3
  t4 := Tryd.underlying4
  a4 := Tryd.isAgg4
  z4 := Tryd.sizeOf4
  v4 := Tryd.zeroValue4
  t9 := Tryd.underlying9
  a9 := Tryd.isAgg9
  z9 := Tryd.sizeOf9
  v9 := Tryd.zeroValue9
  t24 := Tryd.underlying29
  a24 := Tryd.isAgg29
  z24 := Tryd.sizeOf29
  v24 := Tryd.zeroValue29
  t40 := Tryd.underlying88
  a40 := Tryd.isAgg88
  z40 := Tryd.sizeOf88
  v40 := Tryd.zeroValue88 }
def Tryd.insS_ren : Go.Shelf.Ren := ⟨fun | 22 => 47 | 29 => 63 | 30 => 64 | 36 => 76 | 17 => 85 | n => n, fun | 24 => 29 | 9 => 9 | 3 => 3 | 4 => 4 | 0 => 0 | n => n, fun | n => n⟩
theorem Tryd.insS : Go.Proofs.Lays2.n22 Tryd.prog Tryd.insS_ren := {
  mixed := by kernel_rfl
  f17 := Tryd.func85.trans (congrArg some (by kernel_rfl))
  f22 := Tryd.func47.trans (congrArg some (by kernel_rfl))
  f29 := Tryd.func63.trans (congrArg some (by kernel_rfl))
  f30 := Tryd.func64.trans (congrArg some (by kernel_rfl))
  f36 := Tryd.func76.trans (congrArg some (by kernel_rfl))
  t0 := Tryd.underlying0
  a0 := Tryd.isAgg0
  z0 := Tryd.sizeOf0
  v0 := Tryd.zeroValue0
  t3 := Tryd.underlying3
  a3 := Tryd.isAgg3
  z3 := Tryd.sizeOf3
  v3 := Tryd.zeroValue3
  t4 := Tryd.underlying4
  a4 := Tryd.isAgg4
  z4 := Tryd.sizeOf4
  v4 := Tryd.zeroValue4
  t9 := Tryd.underlying9
  a9 := Tryd.isAgg9
  z9 := Tryd.sizeOf9
  v9 := Tryd.zeroValue9
  t24 := Tryd.underlying29
  a24 := Tryd.isAgg29
  z24 := Tryd.sizeOf29
  v24 := Tryd.zeroValue29
  i9 := by kernel_rfl }
end Go.Proofs
