/- Lists of entries and of texts in memory. -/
import Derived.Test.YtdhlklidenfbeaaGreatDoorTreeN
import Derived.Test.YtdhlklidenfbeaaGreatDoorLay
import Derived.Test.YtdhlklidenfbeaaGreatDoorArgs
import Derived.Sort.OwnSorted
namespace Go.Proofs.YtdhlklidenfbeaaGreatDoor
open Go.RowKit Go.Sort
set_option linter.unusedVariables false
set_option linter.unusedSimpArgs false

/-- An entry as memory has it: its text, its number, its bytes and where they lie. -/
structure EV where
  path : Txt
  kind : Int
  data : Txt
  A : Option Addr
  n : Nat
  c : Nat
def EV.ent (e : EV) : Ent := ⟨e.path, e.kind, e.data⟩
def evCells (e : EV) : List Value := [.string ⟨e.path.toArray⟩, .int .i64 e.kind, .slice e.A e.n e.c]
theorem evCells_length (e : EV) : (evCells e).length = 3 := rfl

/-- A list of entries in memory, below block B. -/
structure EntsAt (w : World) (B : Nat) (A : Option Addr) (n c : Nat) (es : List EV) : Prop where
  slc : Slc w B 3 A n c (es.flatMap evCells)
  len : es.length = n
  data : ∀ e ∈ es, Slc w B 1 e.A e.n e.c (e.data.map bv)
theorem EntsAt.below {w w' : World} {B : Nat} {A : Option Addr} {n c : Nat} {es : List EV} (h : EntsAt w B A n c es) (hb : Below B w w') : EntsAt w' B A n c es :=
  ⟨h.slc.below hb, h.len, fun e he => (h.data e he).below hb⟩
/-- An entry's cells, for a walk. -/
theorem EntsAt.at_ {w : World} {B : Nat} {A : Option Addr} {n c : Nat} {es : List EV} (h : EntsAt w B A n c es) {k : Nat} (hk : k < n) :
    ∃ b off, A = some ⟨b, off, none⟩ ∧ b < B ∧ ∃ hl : k < es.length, w.cell? ⟨b, off + k * 3, none⟩ = some (.string ⟨es[k].path.toArray⟩) ∧ w.cell? ⟨b, off + k * 3 + 1, none⟩ = some (.int .i64 es[k].kind) ∧
      w.cell? ⟨b, off + k * 3 + 2, none⟩ = some (.slice es[k].A es[k].n es[k].c) ∧ Slc w B 1 es[k].A es[k].n es[k].c (es[k].data.map bv) := by
  obtain ⟨b, off, e, hb, hc⟩ := h.slc.at_ (by omega)
  have hl : k < es.length := by rw [h.len]; exact hk
  have g : ∀ j u, j < 3 → (evCells es[k])[j]? = some u → w.cell? ⟨b, off + k * 3 + j, none⟩ = some u := fun j u hj hu => by
    have := hc (k * 3 + j) u (by rw [flatMap_get evCells 3 es (fun o _ => evCells_length o) k j hl hj]; exact hu)
    rwa [← Nat.add_assoc] at this
  exact ⟨b, off, e, hb, hl, g 0 _ (by decide) rfl, g 1 _ (by decide) rfl, g 2 _ (by decide) rfl, h.data _ (List.getElem_mem hl)⟩

theorem str_info : (Tryz.prog.info? 9).map (fun i => (i.zero, i.size, i.bytes)) = some (some (.string .empty), 1, 16) := by kernel_rfl
/-- append of a text onto a row of the call's own. -/
theorem append_str (w : World) (base : Nat) (v : Value) (n : Nat) (l : List Txt) (hown : w.ownsRow base 9 1 v n (l.map encStr)) (x : Txt) (hb : n ≤ 1000000000) (hbase : base ≤ w.heap.size) :
    ∃ A' c' w', (Builtin.append_ #[68, 68] 68 #[v, .slice (some ⟨w.heap.size, 0, none⟩) 1 1]).run Tryz.prog (w.alloc (.cells #[.string ⟨x.toArray⟩] 9)) = .ok (.slice A' (n + 1) c') w' ∧ w'.ownsRow base 9 1 (.slice A' (n + 1) c') (n + 1) ((l ++ [x]).map encStr) ∧ (w.alloc (.cells #[.string ⟨x.toArray⟩] 9)).grownBy w' v.ownBlock ∧
      ((Value.slice A' (n + 1) c').ownBlock = v.ownBlock ∨ (Value.slice A' (n + 1) c').ownBlock = some (w.heap.size + 1)) := by
  obtain ⟨i, hi, hz0, hz1, hz2⟩ := info_parts str_info
  have hS := slc_new w 9 (0, 0) #[.string ⟨x.toArray⟩] (sz := 1) (n := 1) (c := 1) rfl (Nat.le_refl _) (by decide)
  obtain ⟨A', c', w', h1, h2, h3, h4⟩ := append_slc (P := Tryz.prog) (w.alloc (.cells #[.string ⟨x.toArray⟩] 9)) base 68 68 _ i _ 1 16 Tryz.underlying68 hi hz0 hz1 hz2 rfl (by decide) v n (l.map encStr) (hown.alloc _) _ _ 1 1 [.string ⟨x.toArray⟩] hS (fun u hu => by rw [List.mem_singleton.1 hu]; rfl) (by unfold maxLen; omega) (by omega) (by simp; omega)
  exact ⟨A', c', w', h1, by rw [List.map_append]; exact h2, h3, by rwa [World.size_alloc] at h4⟩

/-- slices.Sort on a row of texts of the call's own. -/
theorem sort_own {w : World} {base : Nat} {A : Option Addr} {n c : Nat} {ss : List Txt} (h : w.ownsRow base 9 1 (.slice A n c) n (ss.map encStr)) (hn : n ≤ 1000000000) :
    Calls Tryz.prog 62 #[.slice A n c] w fun e w' => e = .returned (.tuple #[]) ∧ w'.ownsRow base 9 1 (.slice A n c) n ((ss.mergeSort fun x y => decide (x ≤ y)).map encStr) ∧ w.grownBy w' (Value.slice A n c).ownBlock := by
  have hl : ss.length = n := by have := h.1; simpa using this
  rcases h.2 with ⟨hnil, rfl⟩ | ⟨g, cap, cur, e, hbase, hb, h1, h2, h3, h4⟩
  · injection hnil with e1 _ e3
    subst e1 e3
    obtain rfl : ss = [] := List.eq_nil_of_length_eq_zero hl
    refine (Tryz.slices_Sort_string_none none 0 w).mono ?_
    rintro e w' ⟨rfl, rfl⟩
    exact ⟨rfl, by simpa using h, World.grownBy.refl _ _⟩
  · injection e with e1 _ e3
    subst e1 e3 hl
    have hH : Go.Sort.Holds encStr w g 0 ss.toArray := holds_of_block hb (by simpa using h4)
    refine (Tryz.slices_Sort_string g 0 c ss w hH (Array.getElem?_eq_some_iff.1 hb).1 (by omega)).mono ?_
    rintro e w' ⟨rfl, nn, os, rfl⟩
    exact ⟨rfl, ownsRow_sorted (by simp) hbase hb h1 h2 h3, grownBy_sorted _⟩

/-- slices.Compact on a row of texts of the call's own. -/
theorem compact_own {w : World} {base : Nat} {A : Option Addr} {n c : Nat} {ss : List Txt} (h : w.ownsRow base 9 1 (.slice A n c) n ((ss.mergeSort fun x y => decide (x ≤ y)).map encStr)) (hn : n ≤ 1000000000) :
    Calls Tryz.prog 63 #[.slice A n c] w fun e w' => ∃ m, e = .returned (.slice A m c) ∧ w'.ownsRow base 9 1 (.slice A m c) m ((addAll [] ss).map encStr) ∧ w.grownBy w' (Value.slice A n c).ownBlock := by
  have hl : ss.length = n := by have := h.1; simpa using this
  rcases h.2 with ⟨hnil, rfl⟩ | ⟨g, cap, cur, e, hbase, hb, h1, h2, h3, h4⟩
  · injection hnil with e1 _ e3
    subst e1 e3
    obtain rfl : ss = [] := List.eq_nil_of_length_eq_zero hl
    refine (Tryz.slices_Compact_string_empty none 0 w).mono ?_
    rintro e w' ⟨rfl, rfl⟩
    exact ⟨0, rfl, by simpa [addAll] using h, World.grownBy.refl _ _⟩
  · injection e with e1 _ e3
    subst e1 e3 hl
    obtain ⟨m, hm, hmm⟩ := compact_sorted ss
    generalize hT : (ss.mergeSort fun x y => decide (x ≤ y)) = ts at *
    have htl : ts.length = ss.length := by rw [← hT]; simp
    have hH : Go.Sort.Holds encStr w g 0 ts.toArray := holds_of_block hb (by rw [htl]; simpa using h4)
    have hcon := Tryz.slices_Compact_string_arr g 0 c ts.toArray w hH (by simp; omega) (by simp; omega)
    have hsz : ts.toArray.size = ss.length := by simp [htl]
    rw [hsz, hm] at hcon
    refine hcon.mono ?_
    rintro e w' ⟨rfl, q, rfl⟩
    have hle : m.length ≤ ss.length := by
      rw [hmm]
      have := addAll_length ss []
      simpa using this
    refine ⟨m.length, rfl, ?_, ?_⟩
    · have h7 := ownsRow_sorted (w := w) (base := base) (n := q) (os := #[]) (ss := ss) (ts := m ++ List.replicate (ss.length - m.length) []) (by simp; omega) hbase hb h1 h2 h3
      rw [Go.Sort.grow_empty] at h7
      rw [← hmm]
      refine ⟨by simp, .inr ?_⟩
      rcases h7.2 with ⟨h8, _⟩ | ⟨g', cap', cur', e', q1, q2, q3, q4, q5, q6⟩
      · cases h8
      · injection e' with e1 e2 e3
        injection e1 with e1
        injection e1 with e1
        subst e1 e3
        refine ⟨g, c, cur', rfl, q1, q2, by omega, q4, q5, ?_⟩
        have h9 := congrArg (List.take m.length) q6
        rw [List.take_take, show min m.length (ss.length * 1) = m.length * 1 by omega, List.map_append, List.take_left' (by simp)] at h9
        exact h9
    · have := grownBy_sorted (w := w) (g := g) (n := q) (os := #[]) (m ++ List.replicate (ss.length - m.length) []).toArray
      rwa [Go.Sort.grow_empty] at this
end Go.Proofs.YtdhlklidenfbeaaGreatDoor
