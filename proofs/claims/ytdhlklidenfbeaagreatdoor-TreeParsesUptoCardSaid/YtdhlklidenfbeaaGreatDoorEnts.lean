/- Lists of entries in memory of the call's own. -/
import Derived.Test.YtdhlklidenfbeaaGreatDoorBytes
import Derived.Test.YtdhlklidenfbeaaGreatDoorApp
namespace Go.Proofs.YtdhlklidenfbeaaGreatDoor
open Go.RowKit Go.Shelf
set_option linter.unusedVariables false
set_option linter.unusedSimpArgs false

theorem ent_info : (Tryz.prog.info? 73).map (fun i => (i.zero, i.size, i.bytes)) = some (some (.agg #[.string .empty, .int .i64 0, .slice none 0 0]), 3, 48) := by kernel_rfl
theorem evCells_one (es : List EV) : ∀ u ∈ es.flatMap evCells, u.oneCell' = true := by
  intro u hu
  obtain ⟨e, _, he⟩ := List.mem_flatMap.1 hu
  simp only [evCells, List.mem_cons, List.not_mem_nil, or_false] at he
  rcases he with rfl | rfl | rfl <;> rfl
/-- A block of bytes that may be written. -/
def FreeB (w : World) (g : Nat) : Prop := ∃ cur, w.heap[g]? = some (.cells cur 5 (0, 0))
theorem FreeB.of {w w' : World} {g : Nat} (h : FreeB w g) (hb : w'.heap[g]? = w.heap[g]?) : FreeB w' g := by
  obtain ⟨c, hc⟩ := h
  exact ⟨c, hb.trans hc⟩
theorem FreeB.set_ {w : World} {g : Nat} (h : FreeB w g) (p : Addr) (u : Value) : FreeB (w.setCell p u) g := by
  obtain ⟨c, hc⟩ := h
  by_cases e : p.block = g
  · subst e
    cases hs : p.spot with
    | none => exact ⟨c.setIfInBounds p.off u, by simp [World.setCell, Array.getElem?_modify, hc, hs]⟩
    | some i => exact ⟨c, by simp [World.setCell, Array.getElem?_modify, hc, hs]⟩
  · refine ⟨c, (Below.heap_setCell w p u g (fun e' => e e'.symm)).trans hc⟩
theorem FreeB.own {w : World} {base : Nat} {g n c : Nat} {xs : List Value} (h : w.ownsRow base 5 1 (.slice (some ⟨g, 0, none⟩) n c) n xs) : FreeB w g := by
  rcases h.2 with ⟨e, _⟩ | ⟨g', cap, cur, e, _, h2, _⟩
  · injection e with e; cases e
  · injection e with e
    injection e with e
    injection e with e
    subst e
    exact ⟨cur, h2⟩
/-- Entries in memory of the call's own, each one's bytes in a block of their own. -/
structure OwnEnts (w : World) (base : Nat) (v : Value) (n : Nat) (es : List EV) : Prop where
  own : w.ownsRow base 73 3 v n (es.flatMap evCells)
  slc : ∀ e ∈ es, Slc w w.heap.size 1 e.A e.n e.c (e.data.map bv)
  data : ∀ e ∈ es, ∃ g, e.A = some ⟨g, 0, none⟩ ∧ base ≤ g ∧ g < w.heap.size ∧ v.ownBlock ≠ some g
  free : ∀ e ∈ es, ∀ g, e.A = some ⟨g, 0, none⟩ → FreeB w g
theorem OwnEnts.len {w : World} {base : Nat} {v : Value} {n : Nat} {es : List EV} (h : OwnEnts w base v n es) : es.length = n := by
  have := h.own.1
  rw [flatMap_len evCells 3 es (fun o _ => evCells_length o)] at this
  omega
theorem OwnEnts.nil (w : World) (base : Nat) : OwnEnts w base (.slice none 0 0) 0 [] := ⟨World.ownsRow_nil _ _ _ _, (fun e he => by cases he), (fun e he => by cases he), (fun e he => by cases he)⟩
theorem OwnEnts.below {w w' : World} {base : Nat} {v : Value} {n : Nat} {es : List EV} (h : OwnEnts w base v n es) (hb : Below w.heap.size w w') : OwnEnts w' base v n es :=
  ⟨own_below h.own hb, fun e he => ((h.slc e he).below hb).more hb.size, fun e he => by
    obtain ⟨g, h1, h2, h3, h4⟩ := h.data e he
    exact ⟨g, h1, h2, Nat.lt_of_lt_of_le h3 hb.size, h4⟩, fun e he g hg => by
    obtain ⟨g', h1, h2, h3, h4⟩ := h.data e he
    rw [hg] at h1
    injection h1 with h1
    injection h1 with h1
    subst h1
    exact (h.free e he g hg).of (hb.block g h3)⟩
theorem OwnEnts.ents {w : World} {base : Nat} {A : Option Addr} {n c : Nat} {es : List EV} (h : OwnEnts w base (.slice A n c) n es) : EntsAt w w.heap.size A n c es :=
  ⟨own_slc_of h.own, h.len, h.slc⟩
/-- append of an entry whose bytes lie in a block of their own. -/
theorem OwnEnts.append {w : World} {base : Nat} {v : Value} {n : Nat} {es : List EV} (h : OwnEnts w base v n es) (e : EV) (hS : Slc w w.heap.size 1 e.A e.n e.c (e.data.map bv)) (hg : ∃ g, e.A = some ⟨g, 0, none⟩ ∧ base ≤ g ∧ g < w.heap.size ∧ v.ownBlock ≠ some g) (hf : ∀ g, e.A = some ⟨g, 0, none⟩ → FreeB w g)
    (hn : n ≤ 1000000000) (hbase : base ≤ w.heap.size) :
    ∃ A' c' w', (Builtin.append_ #[35, 35] 35 #[v, .slice (some ⟨w.heap.size, 0, none⟩) 1 1]).run Tryz.prog (w.alloc (.cells #[.string ⟨e.path.toArray⟩, .int .i64 e.kind, .slice e.A e.n e.c] 73)) = .ok (.slice A' (n + 1) c') w' ∧
      OwnEnts w' base (.slice A' (n + 1) c') (n + 1) (es ++ [e]) ∧ (w.alloc (.cells #[.string ⟨e.path.toArray⟩, .int .i64 e.kind, .slice e.A e.n e.c] 73)).grownBy w' v.ownBlock ∧
      ((Value.slice A' (n + 1) c').ownBlock = v.ownBlock ∨ (Value.slice A' (n + 1) c').ownBlock = some (w.heap.size + 1)) := by
  obtain ⟨i, hi, hz0, hz1, hz2⟩ := info_parts ent_info
  have hs := slc_new w 73 (0, 0) #[.string ⟨e.path.toArray⟩, .int .i64 e.kind, .slice e.A e.n e.c] (sz := 3) (n := 1) (c := 1) rfl (Nat.le_refl _) (by decide)
  obtain ⟨A', c', w', h1, h2, h3, h4⟩ := append_slc (P := Tryz.prog) (w.alloc (.cells #[.string ⟨e.path.toArray⟩, .int .i64 e.kind, .slice e.A e.n e.c] 73)) base 35 35 73 i _ 3 48 Tryz.underlying35 hi hz0 hz1 hz2 rfl (by decide) v n (es.flatMap evCells) (h.own.alloc _) _ _ 1 1 (evCells e) hs (fun u hu => evCells_one [e] u (by simpa using hu)) (by unfold maxLen; omega) (by omega) (by simp; omega)
  rw [World.size_alloc] at h4
  have hz : w.heap.size + 1 ≤ w'.heap.size := by have := h3.size; simpa using this
  have key : ∀ x : EV, Slc w w.heap.size 1 x.A x.n x.c (x.data.map bv) → (∃ g, x.A = some ⟨g, 0, none⟩ ∧ base ≤ g ∧ g < w.heap.size ∧ v.ownBlock ≠ some g) →
      Slc w' w'.heap.size 1 x.A x.n x.c (x.data.map bv) ∧ ∃ g, x.A = some ⟨g, 0, none⟩ ∧ base ≤ g ∧ g < w'.heap.size ∧ (Value.slice A' (n + 1) c').ownBlock ≠ some g := by
    rintro x hx ⟨g, g1, g2, g3, g4⟩
    refine ⟨⟨hx.len, hx.le, hx.cmax, fun hp => ?_⟩, g, g1, g2, by omega, fun e' => ?_⟩
    · obtain ⟨b, off, e1, hb, hc⟩ := hx.at_ hp
      rw [g1] at e1
      injection e1 with e1
      injection e1 with e1 e2
      subst e1 e2
      refine ⟨g, 0, g1, by omega, fun j u hu => ?_⟩
      have h5 : w'.heap[g]? = w.heap[g]? := (h3.block g (by simp; omega) (fun e => g4 e.symm)).trans (Below.heap_alloc w _ g g3)
      rw [World.cell?_of_block (w := w) (a := ⟨g, 0 + j, none⟩) h5]
      exact hc j u hu
    · rcases h4 with h4 | h4
      · rw [h4] at e'; exact g4 e'
      · rw [h4] at e'; injection e' with e'; omega
  have keyf : ∀ x : EV, (∃ g, x.A = some ⟨g, 0, none⟩ ∧ base ≤ g ∧ g < w.heap.size ∧ v.ownBlock ≠ some g) → (∀ g, x.A = some ⟨g, 0, none⟩ → FreeB w g) → ∀ g, x.A = some ⟨g, 0, none⟩ → FreeB w' g := by
    rintro x ⟨g, g1, g2, g3, g4⟩ hfx g' hg'
    have h6 := hfx g' hg'
    rw [g1] at hg'
    injection hg' with hg'
    injection hg' with hg'
    subst hg'
    refine h6.of ?_
    exact (h3.block g (by simp; omega) (fun e => g4 e.symm)).trans (Below.heap_alloc w _ g g3)
  refine ⟨A', c', w', h1, ⟨?_, fun x hx => ?_, fun x hx => ?_, fun x hx => ?_⟩, h3, h4⟩
  · rw [List.flatMap_append]
    simpa using h2
  · rcases List.mem_append.1 hx with hx | hx
    · exact (key x (h.slc x hx) (h.data x hx)).1
    · rw [List.mem_singleton.1 hx]; exact (key e hS hg).1
  · rcases List.mem_append.1 hx with hx | hx
    · exact (key x (h.slc x hx) (h.data x hx)).2
    · rw [List.mem_singleton.1 hx]; exact (key e hS hg).2
  · rcases List.mem_append.1 hx with hx | hx
    · exact keyf x (h.data x hx) (h.free x hx)
    · rw [List.mem_singleton.1 hx]; exact keyf e hg hf
theorem own_keep {w w' : World} {base : Nat} {e : TypeId} {sz : Nat} {v : Value} {n : Nat} {xs : List Value} (h : w.ownsRow base e sz v n xs) (hb : ∀ k, v.ownBlock = some k → w'.heap[k]? = w.heap[k]?) : w'.ownsRow base e sz v n xs := by
  refine ⟨h.1, ?_⟩
  rcases h.2 with hn | ⟨g, cap, cur, rfl, h1, h2, rest⟩
  · exact .inl hn
  · exact .inr ⟨g, cap, cur, rfl, h1, by rw [hb g rfl]; exact h2, rest⟩
/-- A store elsewhere. -/
theorem OwnEnts.set_ {w : World} {base : Nat} {v : Value} {n : Nat} {es : List EV} (h : OwnEnts w base v n es) {p : Addr} (hp : v.ownBlock ≠ some p.block) (hd : ∀ e ∈ es, ∀ g, e.A = some ⟨g, 0, none⟩ → g ≠ p.block) (u : Value) : OwnEnts (w.setCell p u) base v n es := by
  have hsz : (w.setCell p u).heap.size = w.heap.size := by simp [World.setCell]
  refine ⟨own_keep h.own (fun k hk => Below.heap_setCell w p u k (fun e => hp (by rw [hk, e]))), fun e he => ?_, fun e he => by rw [hsz]; exact h.data e he, fun e he g hg => (h.free e he g hg).set_ p u⟩
  obtain ⟨g, g1, g2, g3, g4⟩ := h.data e he
  have hx := h.slc e he
  refine ⟨hx.len, hx.le, hx.cmax, fun hn => ?_⟩
  obtain ⟨b, off, e1, hb, hc⟩ := hx.at_ hn
  rw [g1] at e1
  injection e1 with e1
  injection e1 with e1 e2
  subst e1 e2
  refine ⟨g, 0, g1, by rw [hsz]; exact hb, fun j w' hu => ?_⟩
  rw [World.cell?_of_block (w := w) (a := ⟨g, 0 + j, none⟩) (Below.heap_setCell w p u g (hd e he g g1))]
  exact hc j w' hu
end Go.Proofs.YtdhlklidenfbeaaGreatDoor
