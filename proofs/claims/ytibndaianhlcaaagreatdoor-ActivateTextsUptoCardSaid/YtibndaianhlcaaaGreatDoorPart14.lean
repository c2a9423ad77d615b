/- Units that are put together line by line, in memory of the call's own. activate.more: a line is added to a unit. Contracts of the library laid at this dump. machine.same: two units. Contracts of the library laid at this dump. -/
import Derived.Test.YtibndaianhlcaaaGreatDoorPart13
import Derived.Test.YtibndaianhlcaaaGreatDoorPart4
import Derived.Test.YtibndaianhlcaaaGreatDoorPart12
import Derived.Shelf.Slices.Equal
import Derived.Shelf.Slices.Empties2
import Derived.Shelf.Small.Strs
import Derived.Shelf.LaysM
import Derived.Shelf.LaysC
import Derived.Ground.GgwProg
import Derived.Ground.SlgnProg
import Derived.Ground.SlgfProg
import Derived.Test.YtibndaianhlcaaaGreatDoorProg
import Derived.Shelf.GgClosure.StringsRunes
namespace Go.Proofs.YtibndaianhlcaaaGreatDoor
open Go.RowKit Go.Sort
set_option linter.unusedVariables false
set_option linter.unusedSimpArgs false

/-- One cell of a row is written. -/
theorem Row.set1 {w : World} {F : Nat → Prop} {e : TypeId} {sz : Nat} {g n cap : Nat} {xs : List Value} (h : Row w F e sz (.slice (some ⟨g, 0, none⟩) n cap) n xs) (i : Nat) (v : Value) :
    Row (w.setCell ⟨g, i, none⟩ v) F e sz (.slice (some ⟨g, 0, none⟩) n cap) n (xs.set i v) := by
  rcases h.own.2 with ⟨h9, _⟩ | ⟨g', cap', cur', hv, h1, h2, h3, h4, h5, h6⟩
  · cases h9
  · injection hv with hv hn hc
    injection hv with hv
    injection hv with hv
    subst hv hc
    refine ⟨⟨by rw [List.length_set]; exact h.own.1, .inr ⟨g, cap, cur'.setIfInBounds i v, rfl, h1, ?_, h3, h4, by simpa using h5, ?_⟩⟩, h.foot⟩
    · simp [World.setCell, Array.getElem?_modify, h2]
    · rw [Array.toList_setIfInBounds, ← h6, List.take_set]
def reqV (u : SV) : Value := .slice u.A u.n u.c
def aftV (u : SV) : Value := .slice u.A2 u.n2 u.c2
/-- Units while they are put together: the last one's lists share no memory with another list. -/
structure BldU (w : World) (F : Nat → Prop) (A : Option Addr) (n c : Nat) (us : List SV) : Prop where
  own : OwnU w F A n c us
  sep : ∀ m u, us = m ++ [u] → ∃ H, H ≤ w.heap.size ∧ (∀ x ∈ m, ∀ k, (reqV x).ownBlock = some k ∨ (aftV x).ownBlock = some k → k < H) ∧ (∀ k, (reqV u).ownBlock = some k → H ≤ k ∧ (aftV u).ownBlock ≠ some k) ∧ ∀ k, (aftV u).ownBlock = some k → H ≤ k
theorem BldU.nil (w : World) (F : Nat → Prop) : BldU w F none 0 0 [] := ⟨OwnU.nil w F, fun m u h => by cases m <;> cases h⟩
theorem BldU.keep {w w' : World} {F : Nat → Prop} {A : Option Addr} {n c : Nat} {us : List SV} (h : BldU w F A n c us) (hs : w.heap.size ≤ w'.heap.size) (hb : ∀ k, k < w.heap.size → F k → w'.heap[k]? = w.heap[k]?) : BldU w' F A n c us :=
  ⟨h.own.keep hb, fun m u e => by obtain ⟨H, h1, h2⟩ := h.sep m u e; exact ⟨H, Nat.le_trans h1 hs, h2⟩⟩
theorem BldU.below {w w' : World} {F : Nat → Prop} {A : Option Addr} {n c : Nat} {us : List SV} (h : BldU w F A n c us) (hb : Below w.heap.size w w') : BldU w' F A n c us := h.keep hb.size fun k hk _ => hb.block k hk
theorem OwnU.unitsAt {w : World} {F : Nat → Prop} {A : Option Addr} {n c : Nat} {us : List SV} (h : OwnU w F A n c us) : UnitsAt w w.heap.size A n c us :=
  ⟨h.row.slc', h.len, fun u hu => (h.req u hu).slc', fun u hu => (h.aft u hu).slc'⟩
/-- A unit is begun. -/
theorem BldU.begin {w : World} {F : Nat → Prop} {A : Option Addr} {n c : Nat} {us : List SV} (h : BldU w F A n c us) (name : Txt) (hn : n ≤ 1000000000) :
    ∃ A' c' w', (Builtin.append_ #[24, 24] 24 #[.slice A n c, .slice (some ⟨w.heap.size, 0, none⟩) 1 1]).run Tryz.prog (w.alloc (.cells (svArr ⟨name, [], [], none, 0, 0, [], none, 0, 0⟩) 59)) = .ok (.slice A' (n + 1) c') w' ∧
      BldU w' (Fn F w w') A' (n + 1) c' (us ++ [⟨name, [], [], none, 0, 0, [], none, 0, 0⟩]) ∧ Step w w' F (Fn F w w') := by
  obtain ⟨A', c', w', h1, h2, h3⟩ := h.own.append ⟨name, [], [], none, 0, 0, [], none, 0, 0⟩ (Row.nil _ _ _ _) (Row.nil _ _ _ _) hn
  refine ⟨A', c', w', h1, ⟨h2, fun m u e => ?_⟩, ((Step.refl w F).grown h3 (fun k hk => .inl (h.own.row.foot k hk))).fn⟩
  obtain ⟨rfl, e2⟩ := List.append_inj' e rfl
  injection e2 with e2
  subst e2
  refine ⟨w.heap.size, h3.size, fun x hx k hk => ?_, (fun k hk => by cases hk), (fun k hk => by cases hk)⟩
  rcases hk with hk | hk
  · exact (h.own.req x hx).lt k hk
  · exact (h.own.aft x hx).lt k hk
theorem last_cells {m : List SV} {u u' : SV} {i : Nat} (hi : i < 4) {v : Value} (hv : (svCells u).set i v = svCells u') : ((m ++ [u]).flatMap svCells).set (m.length * 4 + i) v = (m ++ [u']).flatMap svCells := by
  have hl : (m.flatMap svCells).length = m.length * 4 := flatMap_len svCells 4 m (fun o _ => svCells_length o)
  rw [List.flatMap_append, List.flatMap_append, List.set_append_right _ _ (by omega), hl, show m.length * 4 + i - m.length * 4 = i by omega]
  simp [hv]
/-- The last unit's cells. -/
theorem BldU.last {w : World} {F : Nat → Prop} {A : Option Addr} {n c : Nat} {m : List SV} {u : SV} (h : BldU w F A n c (m ++ [u])) : n = m.length + 1 ∧ ∃ g, A = some ⟨g, 0, none⟩ ∧ F g ∧ g < w.heap.size ∧
    (∀ i, i < 4 → w.cell? ⟨g, m.length * 4 + i, none⟩ = (svCells u)[i]?) ∧ ∀ i, w.frozen? ⟨g, i, none⟩ = false := by
  have hl := h.own.len
  rw [List.length_append, List.length_singleton] at hl
  obtain ⟨g, cap, cur, e, f1, f2, f3, f4, f5, f6, f7⟩ := h.own.row.form (by omega)
  injection e with e
  subst e
  refine ⟨by omega, g, rfl, f1, f2, fun i hi => ?_, fun i => f3.frozen i⟩
  rw [f3.cell]
  have e1 : (cur.toList.take (n * 4))[m.length * 4 + i]? = (svCells u)[i]? := by
    rw [f7, List.flatMap_append, List.getElem?_append_right (by rw [flatMap_len svCells 4 m (fun o _ => svCells_length o)]; omega), flatMap_len svCells 4 m (fun o _ => svCells_length o)]
    rw [show m.length * 4 + i - m.length * 4 = i by omega]
    simp
  rw [List.getElem?_take_of_lt (by omega)] at e1
  rw [← e1]
  simp
theorem own_set {w : World} {F : Nat → Prop} {g n c : Nat} {m : List SV} {u : SV} (h : OwnU w F (some ⟨g, 0, none⟩) n c (m ++ [u])) {i : Nat} (hi : i < 4) {v : Value} {u' : SV} (hv : (svCells u).set i v = svCells u') (k1 : Row w F 9 1 (reqV u') u'.n (u'.req.map encStr)) (k2 : Row w F 9 1 (aftV u') u'.n2 (u'.aft.map encStr)) :
    OwnU (w.setCell ⟨g, m.length * 4 + i, none⟩ v) F (some ⟨g, 0, none⟩) n c (m ++ [u']) := by
  obtain ⟨cur, fr, hcu⟩ := row_typed h.row g rfl
  have hot : ∀ (k : Nat) (cur : Array Value) (fr : Nat × Nat), w.heap[k]? = some (Obj.cells cur 9 fr) → (w.setCell ⟨g, m.length * 4 + i, none⟩ v).heap[k]? = w.heap[k]? := fun k cur' fr' hk => by
    refine Below.heap_setCell w _ _ k (fun e1 => ?_)
    simp only at e1
    subst e1
    rw [hcu] at hk
    injection hk with hk
    injection hk with _ hk
    revert hk
    decide
  have hrow := h.row.set1 (m.length * 4 + i) v
  rw [last_cells hi hv] at hrow
  refine ⟨hrow, fun x hx => ?_, fun x hx => ?_⟩
  · rcases List.mem_append.1 hx with hx | hx
    · exact (h.req x (List.mem_append.2 (.inl hx))).other hot
    · rw [List.mem_singleton.1 hx]; exact k1.other hot
  · rcases List.mem_append.1 hx with hx | hx
    · exact (h.aft x (List.mem_append.2 (.inl hx))).other hot
    · rw [List.mem_singleton.1 hx]; exact k2.other hot
/-- A unit's command. -/
theorem BldU.start {w : World} {F : Nat → Prop} {g n c : Nat} {m : List SV} {u : SV} (h : BldU w F (some ⟨g, 0, none⟩) n c (m ++ [u])) (r : Txt) :
    BldU (w.setCell ⟨g, m.length * 4 + 1, none⟩ (.string ⟨r.toArray⟩)) F (some ⟨g, 0, none⟩) n c (m ++ [⟨u.name, r, u.req, u.A, u.n, u.c, u.aft, u.A2, u.n2, u.c2⟩]) := by
  refine ⟨own_set h.own (by decide) (u' := ⟨u.name, r, u.req, u.A, u.n, u.c, u.aft, u.A2, u.n2, u.c2⟩) rfl (h.own.req u (by simp)) (h.own.aft u (by simp)), fun m' u' e => ?_⟩
  obtain ⟨rfl, e2⟩ := List.append_inj' e rfl
  injection e2 with e2
  subst e2
  obtain ⟨H, h1, h2⟩ := h.sep m u rfl
  exact ⟨H, by simpa using h1, h2⟩
theorem Row.appS {w : World} {F : Nat → Prop} {v : Value} {n : Nat} {l : List Txt} (h : Row w F 9 1 v n (l.map encStr)) (r : Txt) (hn : n ≤ 1000000000) :
    ∃ A' c' w', (Builtin.append_ #[23, 23] 23 #[v, .slice (some ⟨w.heap.size, 0, none⟩) 1 1]).run Tryz.prog (w.alloc (.cells #[.string ⟨r.toArray⟩] 9)) = .ok (.slice A' (n + 1) c') w' ∧
      w'.ownsRow 0 9 1 (.slice A' (n + 1) c') (n + 1) ((l ++ [r]).map encStr) ∧ w.grownBy w' v.ownBlock ∧ (Value.slice A' (n + 1) c').ownBlock ≠ none ∧ ((Value.slice A' (n + 1) c').ownBlock = v.ownBlock ∨ ∀ k, (Value.slice A' (n + 1) c').ownBlock = some k → w.heap.size < k) := by
  obtain ⟨i, hi, hz0, hz1, hz2⟩ := info_parts str_info
  have hS := slc_new w 9 (0, 0) #[.string ⟨r.toArray⟩] (sz := 1) (n := 1) (c := 1) rfl (Nat.le_refl _) (by decide)
  obtain ⟨A', c', w', r1, r2, r3, r4⟩ := append_slc (P := Tryz.prog) (w.alloc (.cells #[.string ⟨r.toArray⟩] 9)) 0 23 23 9 i _ 1 16 Tryz.underlying23 hi hz0 hz1 hz2 rfl (by decide) _ n (l.map encStr) (h.own.alloc _) _ _ 1 1 [.string ⟨r.toArray⟩] hS (fun v hv => by rw [List.mem_singleton.1 hv]; rfl) (by unfold maxLen; omega) (by omega) (Nat.zero_le _)
  refine ⟨A', c', w', r1, ?_, ⟨r3.os, r3.tape, r3.output, Nat.le_trans (by simp) r3.size, fun k hk hne => by rw [r3.block k (by simp; omega) hne, Below.heap_alloc w _ k hk]⟩, ?_, ?_⟩
  · rw [List.map_append]; exact r2
  · rcases r2.2 with ⟨_, h0⟩ | ⟨g, cap, cur, e, _⟩
    · omega
    · rw [e]; simp [Value.ownBlock]
  · rcases r4 with r4 | r4
    · exact .inl r4
    · refine .inr fun k hk => ?_
      rw [r4] at hk
      injection hk with hk
      simp at hk
      omega
/-- A name more in the last unit's first list. -/
theorem BldU.req {w : World} {F : Nat → Prop} {g n c : Nat} {m : List SV} {u : SV} (h : BldU w F (some ⟨g, 0, none⟩) n c (m ++ [u])) (r : Txt) (hn : u.n ≤ 1000000000) :
    ∃ A' c' w', (Builtin.append_ #[23, 23] 23 #[.slice u.A u.n u.c, .slice (some ⟨w.heap.size, 0, none⟩) 1 1]).run Tryz.prog (w.alloc (.cells #[.string ⟨r.toArray⟩] 9)) = .ok (.slice A' (u.n + 1) c') w' ∧
      BldU (w'.setCell ⟨g, m.length * 4 + 2, none⟩ (.slice A' (u.n + 1) c')) (Fn F w w') (some ⟨g, 0, none⟩) n c (m ++ [⟨u.name, u.start, u.req ++ [r], A', u.n + 1, c', u.aft, u.A2, u.n2, u.c2⟩]) ∧ Step w w' F (Fn F w w') ∧ F g ∧
      (∀ (k : Nat) (cur : Array Value) (fr : Nat × Nat) (e : TypeId), e ≠ 9 → w.heap[k]? = some (Obj.cells cur e fr) → w'.heap[k]? = w.heap[k]?) := by
  have hr0 := h.own.req u (by simp)
  obtain ⟨A', c', w', r1, r2, r3, r4, r5⟩ := hr0.appS r hn
  obtain ⟨H, s1, s2, s3, s4⟩ := h.sep m u rfl
  have hot := fun (e : TypeId) (he : e ≠ 9) => grown_other r3 (row_typed hr0) (e := e) he
  have hk : ∀ {v : Value} {nn : Nat} {xs : List Value}, Row w F 9 1 v nn xs → (∀ k, v.ownBlock = some k → (reqV u).ownBlock ≠ some k) → Row w' (Fn F w w') 9 1 v nn xs := fun hR hne => hR.kept (fun k hkk => r3.block k (hR.lt k hkk) (fun e => hne k hkk e.symm)) (fun k hkk => .inl (hR.foot k hkk))
  have hA : Row w' (Fn F w w') 9 1 (.slice A' (u.n + 1) c') (u.n + 1) ((u.req ++ [r]).map encStr) := ⟨r2, fun k hkk => by
    rcases r5 with r5 | r5
    · exact .inl (hr0.foot k (by rw [← r5]; exact hkk))
    · exact .inr ⟨Nat.le_of_lt (r5 k hkk), (r2.lt k hkk).2⟩⟩
  have hold : ∀ x ∈ m, ∀ k, (reqV x).ownBlock = some k ∨ (aftV x).ownBlock = some k → (reqV u).ownBlock ≠ some k := fun x hx k hkk e => by
    have h1 := s2 x hx k hkk
    have h2 := (s3 k e).1
    omega
  have haft : Row w' (Fn F w w') 9 1 (aftV u) u.n2 (u.aft.map encStr) := hk (h.own.aft u (by simp)) (fun k hkk e => (s3 k e).2 hkk)
  have hrow : Row w' (Fn F w w') 59 4 (.slice (some ⟨g, 0, none⟩) n c) n ((m ++ [u]).flatMap svCells) := (h.own.row.other (hot _ (by decide))).wide (fn_wide _ _ _)
  have hmid : ∀ x ∈ m, Row w' (Fn F w w') 9 1 (reqV x) x.n (x.req.map encStr) ∧ Row w' (Fn F w w') 9 1 (aftV x) x.n2 (x.aft.map encStr) := fun x hx =>
    ⟨hk (h.own.req x (List.mem_append.2 (.inl hx))) (fun k hkk => hold x hx k (.inl hkk)), hk (h.own.aft x (List.mem_append.2 (.inl hx))) (fun k hkk => hold x hx k (.inr hkk))⟩
  refine ⟨A', c', w', r1, ⟨?_, fun m' u' e => ?_⟩, ((Step.refl w F).grown r3 (fun k hk => .inl (hr0.foot k hk))).fn, h.own.row.foot g rfl, fun k cur fr e he hkk => hot e he k cur fr hkk⟩
  · obtain ⟨cur, fr, hcu⟩ := row_typed hrow g rfl
    have ho2 : ∀ (k : Nat) (cur : Array Value) (fr : Nat × Nat), w'.heap[k]? = some (Obj.cells cur 9 fr) → (w'.setCell ⟨g, m.length * 4 + 2, none⟩ (.slice A' (u.n + 1) c')).heap[k]? = w'.heap[k]? := fun k cur' fr' hkk => by
      refine Below.heap_setCell w' _ _ k (fun e1 => ?_)
      simp only at e1
      subst e1
      rw [hcu] at hkk
      injection hkk with hkk
      injection hkk with _ hkk
      revert hkk
      decide
    have h9 := hrow.set1 (m.length * 4 + 2) (.slice A' (u.n + 1) c')
    rw [last_cells (u' := ⟨u.name, u.start, u.req ++ [r], A', u.n + 1, c', u.aft, u.A2, u.n2, u.c2⟩) (by decide) rfl] at h9
    refine ⟨h9, fun x hx => ?_, fun x hx => ?_⟩
    · rcases List.mem_append.1 hx with hx | hx
      · exact (hmid x hx).1.other ho2
      · rw [List.mem_singleton.1 hx]; exact hA.other ho2
    · rcases List.mem_append.1 hx with hx | hx
      · exact (hmid x hx).2.other ho2
      · rw [List.mem_singleton.1 hx]; exact haft.other ho2
  · obtain ⟨rfl, e2⟩ := List.append_inj' e rfl
    injection e2 with e2
    subst e2
    refine ⟨H, by simp; exact Nat.le_trans s1 r3.size, s2, fun k hkk => ?_, s4⟩
    have hkk : (Value.slice A' (u.n + 1) c').ownBlock = some k := hkk
    rcases r5 with r5 | r5
    · rw [r5] at hkk
      exact s3 k hkk
    · have h1 := r5 k hkk
      refine ⟨by omega, fun e => ?_⟩
      have h2 := (h.own.aft u (by simp)).lt k e
      omega
/-- A name more in the last unit's second list. -/
theorem BldU.aft {w : World} {F : Nat → Prop} {g n c : Nat} {m : List SV} {u : SV} (h : BldU w F (some ⟨g, 0, none⟩) n c (m ++ [u])) (r : Txt) (hn : u.n2 ≤ 1000000000) :
    ∃ A' c' w', (Builtin.append_ #[23, 23] 23 #[.slice u.A2 u.n2 u.c2, .slice (some ⟨w.heap.size, 0, none⟩) 1 1]).run Tryz.prog (w.alloc (.cells #[.string ⟨r.toArray⟩] 9)) = .ok (.slice A' (u.n2 + 1) c') w' ∧
      BldU (w'.setCell ⟨g, m.length * 4 + 3, none⟩ (.slice A' (u.n2 + 1) c')) (Fn F w w') (some ⟨g, 0, none⟩) n c (m ++ [⟨u.name, u.start, u.req, u.A, u.n, u.c, u.aft ++ [r], A', u.n2 + 1, c'⟩]) ∧ Step w w' F (Fn F w w') ∧ F g ∧
      (∀ (k : Nat) (cur : Array Value) (fr : Nat × Nat) (e : TypeId), e ≠ 9 → w.heap[k]? = some (Obj.cells cur e fr) → w'.heap[k]? = w.heap[k]?) := by
  have hr0 := h.own.aft u (by simp)
  obtain ⟨A', c', w', r1, r2, r3, r4, r5⟩ := hr0.appS r hn
  obtain ⟨H, s1, s2, s3, s4⟩ := h.sep m u rfl
  have hot := fun (e : TypeId) (he : e ≠ 9) => grown_other r3 (row_typed hr0) (e := e) he
  have hk : ∀ {v : Value} {nn : Nat} {xs : List Value}, Row w F 9 1 v nn xs → (∀ k, v.ownBlock = some k → (aftV u).ownBlock ≠ some k) → Row w' (Fn F w w') 9 1 v nn xs := fun hR hne => hR.kept (fun k hkk => r3.block k (hR.lt k hkk) (fun e => hne k hkk e.symm)) (fun k hkk => .inl (hR.foot k hkk))
  have hA : Row w' (Fn F w w') 9 1 (.slice A' (u.n2 + 1) c') (u.n2 + 1) ((u.aft ++ [r]).map encStr) := ⟨r2, fun k hkk => by
    rcases r5 with r5 | r5
    · exact .inl (hr0.foot k (by rw [← r5]; exact hkk))
    · exact .inr ⟨Nat.le_of_lt (r5 k hkk), (r2.lt k hkk).2⟩⟩
  have hold : ∀ x ∈ m, ∀ k, (reqV x).ownBlock = some k ∨ (aftV x).ownBlock = some k → (aftV u).ownBlock ≠ some k := fun x hx k hkk e => by
    have h1 := s2 x hx k hkk
    have h2 := s4 k e
    omega
  have hreq : Row w' (Fn F w w') 9 1 (reqV u) u.n (u.req.map encStr) := hk (h.own.req u (by simp)) (fun k hkk => (s3 k hkk).2)
  have hrow : Row w' (Fn F w w') 59 4 (.slice (some ⟨g, 0, none⟩) n c) n ((m ++ [u]).flatMap svCells) := (h.own.row.other (hot _ (by decide))).wide (fn_wide _ _ _)
  have hmid : ∀ x ∈ m, Row w' (Fn F w w') 9 1 (reqV x) x.n (x.req.map encStr) ∧ Row w' (Fn F w w') 9 1 (aftV x) x.n2 (x.aft.map encStr) := fun x hx =>
    ⟨hk (h.own.req x (List.mem_append.2 (.inl hx))) (fun k hkk => hold x hx k (.inl hkk)), hk (h.own.aft x (List.mem_append.2 (.inl hx))) (fun k hkk => hold x hx k (.inr hkk))⟩
  refine ⟨A', c', w', r1, ⟨?_, fun m' u' e => ?_⟩, ((Step.refl w F).grown r3 (fun k hk => .inl (hr0.foot k hk))).fn, h.own.row.foot g rfl, fun k cur fr e he hkk => hot e he k cur fr hkk⟩
  · obtain ⟨cur, fr, hcu⟩ := row_typed hrow g rfl
    have ho2 : ∀ (k : Nat) (cur : Array Value) (fr : Nat × Nat), w'.heap[k]? = some (Obj.cells cur 9 fr) → (w'.setCell ⟨g, m.length * 4 + 3, none⟩ (.slice A' (u.n2 + 1) c')).heap[k]? = w'.heap[k]? := fun k cur' fr' hkk => by
      refine Below.heap_setCell w' _ _ k (fun e1 => ?_)
      simp only at e1
      subst e1
      rw [hcu] at hkk
      injection hkk with hkk
      injection hkk with _ hkk
      revert hkk
      decide
    have h9 := hrow.set1 (m.length * 4 + 3) (.slice A' (u.n2 + 1) c')
    rw [last_cells (u' := ⟨u.name, u.start, u.req, u.A, u.n, u.c, u.aft ++ [r], A', u.n2 + 1, c'⟩) (by decide) rfl] at h9
    refine ⟨h9, fun x hx => ?_, fun x hx => ?_⟩
    · rcases List.mem_append.1 hx with hx | hx
      · exact (hmid x hx).1.other ho2
      · rw [List.mem_singleton.1 hx]; exact hreq.other ho2
    · rcases List.mem_append.1 hx with hx | hx
      · exact (hmid x hx).2.other ho2
      · rw [List.mem_singleton.1 hx]; exact hA.other ho2
  · obtain ⟨rfl, e2⟩ := List.append_inj' e rfl
    injection e2 with e2
    subst e2
    refine ⟨H, by simp; exact Nat.le_trans s1 r3.size, s2, fun k hkk => ⟨(s3 k hkk).1, fun e => ?_⟩, fun k hkk => ?_⟩
    · have e : (Value.slice A' (u.n2 + 1) c').ownBlock = some k := e
      rcases r5 with r5 | r5
      · rw [r5] at e
        exact (s3 k hkk).2 e
      · have h1 := r5 k e
        have h2 := (h.own.req u (by simp)).lt k hkk
        omega
    · have hkk : (Value.slice A' (u.n2 + 1) c').ownBlock = some k := hkk
      rcases r5 with r5 | r5
      · rw [r5] at hkk
        exact s4 k hkk
      · have h1 := r5 k hkk
        omega
end Go.Proofs.YtibndaianhlcaaaGreatDoor
namespace Go.Proofs.YtibndaianhlcaaaGreatDoor
open Go.RowKit
set_option linter.unusedVariables false
set_option linter.unusedSimpArgs false

set_option maxRecDepth 100000 in
set_option maxHeartbeats 1000000 in
theorem more_run {w : World} {g o : Nat} (r : Txt) {v : Value} (hc : w.cell? ⟨g, o + 1, none⟩ = some v) (hf : w.frozen? ⟨g, o + 1, none⟩ = false) :
    Calls Tryz.prog 67 #[.pointer (some ⟨g, o, none⟩), .string ⟨wRun.toArray⟩, .string ⟨r.toArray⟩] w fun e w' => e = .returned (.bool true) ∧ w' = w.setCell ⟨g, o + 1, none⟩ (.string ⟨r.toArray⟩) := by
  unfold wRun
  go_enter Tryz.func67, Tryz.ntmps67
  go_wp2
  go_ret
  exact ⟨rfl, rfl⟩
set_option maxRecDepth 100000 in
set_option maxHeartbeats 1000000 in
theorem more_req {w w1 : World} {g o : Nat} (r : Txt) {v : Value} {A' : Option Addr} {n' c' : Nat} (hc : w.cell? ⟨g, o + 2, none⟩ = some v) (hr : (Builtin.append_ #[23, 23] 23 #[v, .slice (some ⟨w.heap.size, 0, none⟩) 1 1]).run Tryz.prog (w.alloc (.cells #[.string ⟨r.toArray⟩] 9)) = .ok (.slice A' n' c') w1)
    {x : Value} (hc1 : w1.cell? ⟨g, o + 2, none⟩ = some x) (hf : w1.frozen? ⟨g, o + 2, none⟩ = false) :
    Calls Tryz.prog 67 #[.pointer (some ⟨g, o, none⟩), .string ⟨wReq.toArray⟩, .string ⟨r.toArray⟩] w fun e w' => e = .returned (.bool true) ∧ w' = w1.setCell ⟨g, o + 2, none⟩ (.slice A' n' c') := by
  unfold wReq
  go_enter Tryz.func67, Tryz.ntmps67
  go_wp2_with (at_builtin; refine wpList_append_run rfl _ _ _ rfl rfl rfl hr ?_; clear hr)
  go_ret
  exact ⟨rfl, rfl⟩
set_option maxRecDepth 100000 in
set_option maxHeartbeats 1000000 in
theorem more_aft {w w1 : World} {g o : Nat} (r : Txt) {v : Value} {A' : Option Addr} {n' c' : Nat} (hc : w.cell? ⟨g, o + 3, none⟩ = some v) (hr : (Builtin.append_ #[23, 23] 23 #[v, .slice (some ⟨w.heap.size, 0, none⟩) 1 1]).run Tryz.prog (w.alloc (.cells #[.string ⟨r.toArray⟩] 9)) = .ok (.slice A' n' c') w1)
    {x : Value} (hc1 : w1.cell? ⟨g, o + 3, none⟩ = some x) (hf : w1.frozen? ⟨g, o + 3, none⟩ = false) :
    Calls Tryz.prog 67 #[.pointer (some ⟨g, o, none⟩), .string ⟨wAft.toArray⟩, .string ⟨r.toArray⟩] w fun e w' => e = .returned (.bool true) ∧ w' = w1.setCell ⟨g, o + 3, none⟩ (.slice A' n' c') := by
  unfold wAft
  go_enter Tryz.func67, Tryz.ntmps67
  go_wp2_with (at_builtin; refine wpList_append_run rfl _ _ _ rfl rfl rfl hr ?_; clear hr)
  go_ret
  exact ⟨rfl, rfl⟩
set_option maxRecDepth 100000 in
set_option maxHeartbeats 1000000 in
theorem more_none {w : World} {g o : Nat} (word r : Txt) (h1 : word ≠ wRun) (h2 : word ≠ wReq) (h3 : word ≠ wAft) :
    Calls Tryz.prog 67 #[.pointer (some ⟨g, o, none⟩), .string ⟨word.toArray⟩, .string ⟨r.toArray⟩] w fun e w' => e = .returned (.bool false) ∧ w' = w := by
  have ht : (ByteArray.mk word.toArray).toList = word := Go.ByteArray.toList_eq _
  have e1 : (word == [114, 117, 110]) = false := by rw [beq_eq_false_iff_ne]; exact h1
  have e2 : (word == [114, 101, 113, 117, 105, 114, 101, 115]) = false := by rw [beq_eq_false_iff_ne]; exact h2
  have e3 : (word == [97, 102, 116, 101, 114]) = false := by rw [beq_eq_false_iff_ne]; exact h3
  clear h1 h2 h3
  go_enter Tryz.func67, Tryz.ntmps67
  go_wp2
  go_ret
  exact ⟨rfl, rfl⟩
/-- A line is added to the last unit. -/
theorem more21_any {w : World} {F : Nat → Prop} {g n c : Nat} {m : List SV} {u : SV} (h : BldU w F (some ⟨g, 0, none⟩) n c (m ++ [u])) (word r : Txt) (h1 : u.n ≤ 1000000000) (h2 : u.n2 ≤ 1000000000) :
    Calls Tryz.prog 67 #[.pointer (some ⟨g, m.length * 4, none⟩), .string ⟨word.toArray⟩, .string ⟨r.toArray⟩] w fun e w' => ∃ u' F', e = .returned (.bool (moreU u.srv word r).2) ∧ u'.srv = (moreU u.srv word r).1 ∧ u'.n ≤ u.n + 1 ∧ u'.n2 ≤ u.n2 + 1 ∧
      BldU w' F' (some ⟨g, 0, none⟩) n c (m ++ [u']) ∧ Step w w' F F' ∧ (∀ k, F' k → F k ∨ (w.heap.size ≤ k ∧ k < w'.heap.size)) := by
  obtain ⟨_, g', hg, k1, k2, k3, k4⟩ := h.last
  injection hg with hg
  injection hg with hg
  subst hg
  by_cases e1 : word = wRun
  · subst e1
    refine (more_run r (k3 1 (by decide)) (k4 _)).mono ?_
    rintro e w' ⟨rfl, rfl⟩
    refine ⟨⟨u.name, r, u.req, u.A, u.n, u.c, u.aft, u.A2, u.n2, u.c2⟩, F, rfl, rfl, Nat.le_succ _, Nat.le_succ _, h.start r, (Step.refl w F).setCell (.inl k1) _, fun k hk => .inl hk⟩
  by_cases e2 : word = wReq
  · subst e2
    obtain ⟨A', c', w1, r1, r2, r3, _, r4⟩ := h.req r h1
    obtain ⟨cur, fr, hcu⟩ := row_typed h.own.row g rfl
    have hk := r4 g cur fr _ (by decide) hcu
    refine (more_req r (k3 2 (by decide)) r1 (x := .slice u.A u.n u.c) ?_ ?_).mono ?_
    · rw [World.cell?_of_block (w := w) hk]; exact k3 2 (by decide)
    · rw [World.frozen?_of_block (w := w) hk]; exact k4 _
    · rintro e w' ⟨rfl, rfl⟩
      refine ⟨⟨u.name, u.start, u.req ++ [r], A', u.n + 1, c', u.aft, u.A2, u.n2, u.c2⟩, Fn F w w1, rfl, ?_, Nat.le_refl _, Nat.le_succ _, r2, r3.setCell (.inl k1) _, fun k hk => ?_⟩
      · unfold moreU
        rw [if_neg (by decide), if_pos rfl]
        rfl
      · rcases hk with hk | hk
        · exact .inl hk
        · exact .inr ⟨hk.1, by simpa using hk.2⟩
  by_cases e3 : word = wAft
  · subst e3
    obtain ⟨A', c', w1, r1, r2, r3, _, r4⟩ := h.aft r h2
    obtain ⟨cur, fr, hcu⟩ := row_typed h.own.row g rfl
    have hk := r4 g cur fr _ (by decide) hcu
    refine (more_aft r (k3 3 (by decide)) r1 (x := .slice u.A2 u.n2 u.c2) ?_ ?_).mono ?_
    · rw [World.cell?_of_block (w := w) hk]; exact k3 3 (by decide)
    · rw [World.frozen?_of_block (w := w) hk]; exact k4 _
    · rintro e w' ⟨rfl, rfl⟩
      refine ⟨⟨u.name, u.start, u.req, u.A, u.n, u.c, u.aft ++ [r], A', u.n2 + 1, c'⟩, Fn F w w1, rfl, ?_, Nat.le_succ _, Nat.le_refl _, r2, r3.setCell (.inl k1) _, fun k hk => ?_⟩
      · unfold moreU
        rw [if_neg (by decide), if_neg (by decide), if_pos rfl]
        rfl
      · rcases hk with hk | hk
        · exact .inl hk
        · exact .inr ⟨hk.1, by simpa using hk.2⟩
  · refine (more_none word r e1 e2 e3).mono ?_
    rintro e w' ⟨rfl, hw⟩
    obtain rfl := hw.symm
    have hm : moreU u.srv word r = (u.srv, false) := by unfold moreU; rw [if_neg e1, if_neg e2, if_neg e3]
    rw [hm]
    exact ⟨u, F, rfl, rfl, Nat.le_succ _, Nat.le_succ _, h, Step.refl w F, fun k hk => .inl hk⟩
end Go.Proofs.YtibndaianhlcaaaGreatDoor
namespace Go.Proofs
open Go.Shelf
def Tryz.lays106_ren : Go.Shelf.Ren := ⟨fun | 106 => 114 | 213 => 134 | 265 => 156 | n => n, fun | 9 => 9 | 3 => 3 | n => n, fun | n => n⟩
theorem Tryz.lays106 : Go.Proofs.Lays.n106 Tryz.prog Tryz.lays106_ren := {
  mixed := by kernel_rfl
  f106 := Tryz.func114.trans (congrArg some (by kernel_rfl))
  f213 := Tryz.func134.trans (congrArg some (by kernel_rfl))
  f265 := Tryz.func156.trans (congrArg some (by kernel_rfl))
  t3 := Tryz.underlying3
  a3 := Tryz.isAgg3
  z3 := Tryz.sizeOf3
  v3 := Tryz.zeroValue3
  t9 := Tryz.underlying9
  a9 := Tryz.isAgg9
  z9 := Tryz.sizeOf9
  v9 := Tryz.zeroValue9 }
open Go.RowKit in
/-- strings.Compare: "Compare returns an integer comparing two strings lexicographically. The result will be 0 if a == b, -1 if a < b, and +1 if a > b.": IT RETURNS 'Lib.compareBytes a b'; the world is as it was. (LAID: no walk: one application.) -/
theorem Tryz.strings_Compare (a b : ByteArray) (w : World) :
    Calls Tryz.prog 114 #[.string a, .string b] w fun e w' => e = .returned (.int .i64 (Lib.compareBytes a.data.toList b.data.toList)) ∧ w' = w := Any.strings_Compare Tryz.lays106 a b w
def Tryz.lays193_ren : Go.Shelf.Ren := ⟨fun | 193 => 49 | n => n, fun | 31 => 23 | 9 => 9 | 4 => 4 | 3 => 3 | 0 => 0 | n => n, fun | n => n⟩
theorem Tryz.lays193 : Go.Proofs.Lays.n193 Tryz.prog Tryz.lays193_ren := {
  mixed := by kernel_rfl
  f193 := Tryz.func49.trans (congrArg some (by kernel_rfl))
  t0 := Tryz.underlying0
  a0 := Tryz.isAgg0
  z0 := Tryz.sizeOf0
  v0 := Tryz.zeroValue0
  t3 := Tryz.underlying3
  a3 := Tryz.isAgg3
  z3 := Tryz.sizeOf3
  v3 := Tryz.zeroValue3
  t4 := Tryz.underlying4
  a4 := Tryz.isAgg4
  z4 := Tryz.sizeOf4
  v4 := Tryz.zeroValue4
  t9 := Tryz.underlying9
  a9 := Tryz.isAgg9
  z9 := Tryz.sizeOf9
  v9 := Tryz.zeroValue9
  t31 := Tryz.underlying23
  a31 := Tryz.isAgg23
  z31 := Tryz.sizeOf23
  v31 := Tryz.zeroValue23 }
open Go.RowKit Go.Lib in
/-- slices.Equal at []string: "Equal reports whether two slices are equal: the same length and all elements equal. If the lengths are different, Equal returns false. Otherwise, the elements are compared in increasing index order, and the comparison stops at the first unequal pair. Empty and nil slices are considered equal.": IT RETURNS WHETHER THE TWO LISTS OF ELEMENTS ARE ONE; the world is as it was but for the count of draws (the test 's1[i] != s2[i]' has two reads, whose order the model draws, once a round). 'xs', 'ys': what the cells behind the two addresses hold (the spare capacity too, if you have it); 'xs.take n', 'ys.take m': the elements. THE TWO SLICES MAY OVERLAP. (LAID: no walk: one application.) -/
theorem Tryz.slices_Equal_string (b1 o1 n c b2 o2 m d : Nat) (xs ys : List ByteArray) (w : World) (hx : n ≤ xs.length) (hy : m ≤ ys.length) (hbig : n ≤ 9223372036854775807) (hbig2 : m ≤ 9223372036854775807) (hc1 : ∀ j, j < xs.length → w.cell? ⟨b1, o1 + j, none⟩ = some (.string (xs.getD j ByteArray.empty))) (hc2 : ∀ j, j < ys.length → w.cell? ⟨b2, o2 + j, none⟩ = some (.string (ys.getD j ByteArray.empty))) :
    Calls Tryz.prog 49 #[.slice (some ⟨b1, o1, none⟩) n c, .slice (some ⟨b2, o2, none⟩) m d] w fun e w' => e = .returned (.bool (decide (xs.take n = ys.take m))) ∧ ∃ q, w' = w.drewN q := Any.slices_Equal_string Tryz.lays193 b1 o1 n c b2 o2 m d xs ys w hx hy hbig hbig2 hc1 hc2
open Go.RowKit Go.Lib in
/-- The same where the first is of length 0 (a nil one too): no cell is asked for. (LAID: no walk: one application.) -/
theorem Tryz.slices_Equal_string_empty (a1 a2 : Option Addr) (c m d : Nat) (w : World) (hbig2 : m ≤ 9223372036854775807) :
    Calls Tryz.prog 49 #[.slice a1 0 c, .slice a2 m d] w fun e w' => e = .returned (.bool (decide (m = 0))) ∧ w' = w := Any.slices_Equal_string_empty Tryz.lays193 a1 a2 c m d w hbig2
open Go.RowKit Go.Lib in
theorem Tryz.slices_Equal_string_lens (a1 a2 : Option Addr) (n c m d : Nat) (w : World) (hnm : n ≠ m) :
    Calls Tryz.prog 49 #[.slice a1 n c, .slice a2 m d] w fun e w' => e = .returned (.bool false) ∧ w' = w := Any.slices_Equal_string_lens Tryz.lays193 a1 a2 n c m d w hnm
end Go.Proofs
namespace Go.Proofs.YtibndaianhlcaaaGreatDoor
open Go.RowKit Go.Sort Go.Shelf
set_option linter.unusedVariables false
set_option linter.unusedSimpArgs false

def bytesOf (t : Txt) : ByteArray := ⟨t.toArray⟩
theorem bytesOf_inj {a b : Txt} (h : bytesOf a = bytesOf b) : a = b := by
  have := congrArg (fun x : ByteArray => x.data.toList) h
  simpa [bytesOf] using this
theorem bytesOf_map_inj {l k : List Txt} : l.map bytesOf = k.map bytesOf ↔ l = k := by
  constructor
  · intro h
    induction l generalizing k with
    | nil => cases k with
      | nil => rfl
      | cons b k => simp at h
    | cons a l ih => cases k with
      | nil => simp at h
      | cons b k =>
        simp only [List.map_cons, List.cons.injEq] at h
        rw [bytesOf_inj h.1, ih h.2]
  · rintro rfl; rfl
theorem slc_strs {w : World} {B : Nat} {A : Option Addr} {n c : Nat} {l : List Txt} (h : Slc w B 1 A n c (l.map encStr)) (hn : 0 < n) : ∃ b off, A = some ⟨b, off, none⟩ ∧ ∀ j, j < (l.map bytesOf).length → w.cell? ⟨b, off + j, none⟩ = some (.string ((l.map bytesOf).getD j ByteArray.empty)) := by
  obtain ⟨b, off, e, _, hc⟩ := h.at_ hn
  refine ⟨b, off, e, fun j hj => ?_⟩
  rw [List.length_map] at hj
  have h1 := hc j (encStr l[j]) (by rw [List.getElem?_map, List.getElem?_eq_getElem hj]; rfl)
  rw [h1]
  simp [List.getD, hj, bytesOf, encStr]
theorem eqS_any {w : World} {B1 B2 : Nat} {A1 A2 : Option Addr} {n c m d : Nat} {l k : List Txt} (h1 : Slc w B1 1 A1 n c (l.map encStr)) (h2 : Slc w B2 1 A2 m d (k.map encStr)) :
    Calls Tryz.prog 49 #[.slice A1 n c, .slice A2 m d] w fun e w' => e = .returned (.bool (decide (l = k))) ∧ ∃ q, w' = w.drewN q := by
  have hl : l.length = n := by have := h1.len; simpa using this
  have hk : k.length = m := by have := h2.len; simpa using this
  have b1 : n ≤ 9223372036854775807 := by have := h1.le; have := h1.cmax; unfold maxLen at this; omega
  have b2 : m ≤ 9223372036854775807 := by have := h2.le; have := h2.cmax; unfold maxLen at this; omega
  by_cases hnm : n = m
  · subst hnm
    rcases Nat.eq_zero_or_pos n with h0 | h0
    · subst h0
      refine (Tryz.slices_Equal_string_empty A1 A2 c 0 d w (by omega)).mono ?_
      rintro e w' ⟨rfl, rfl⟩
      refine ⟨?_, 0, rfl⟩
      rw [List.eq_nil_of_length_eq_zero hl, List.eq_nil_of_length_eq_zero hk]
      rfl
    · obtain ⟨p1, o1, rfl, c1⟩ := slc_strs h1 h0
      obtain ⟨p2, o2, rfl, c2⟩ := slc_strs h2 h0
      refine (Tryz.slices_Equal_string p1 o1 n c p2 o2 n d (l.map bytesOf) (k.map bytesOf) w (by simp; omega) (by simp; omega) b1 b2 c1 c2).mono ?_
      rintro e w' ⟨rfl, hq⟩
      refine ⟨?_, hq⟩
      rw [List.take_of_length_le (by simp; omega), List.take_of_length_le (by simp; omega)]
      congr 2
      exact decide_eq_decide.2 bytesOf_map_inj
  · refine (Tryz.slices_Equal_string_lens A1 A2 n c m d w hnm).mono ?_
    rintro e w' ⟨rfl, rfl⟩
    refine ⟨?_, 0, rfl⟩
    rw [decide_eq_false (by rintro rfl; omega)]
theorem bel_drewN {B : Nat} {w w' : World} (h : Below B w w') (q : Nat) : Below B w (w'.drewN q) := ⟨h.os, h.tape, h.output, h.size, h.block⟩
set_option maxRecDepth 100000 in
set_option maxHeartbeats 1000000 in
theorem same_any20 {w : World} {B : Nat} (a b : SV) (a1 : Slc w B 1 a.A a.n a.c (a.req.map encStr)) (a2 : Slc w B 1 a.A2 a.n2 a.c2 (a.aft.map encStr)) (b1 : Slc w B 1 b.A b.n b.c (b.req.map encStr)) (b2 : Slc w B 1 b.A2 b.n2 b.c2 (b.aft.map encStr)) (hB : B ≤ w.heap.size) :
    Calls Tryz.prog 119 #[.agg (svArr a), .agg (svArr b)] w fun e w' => e = .returned (.bool (decide (a.srv = b.srv))) ∧ Below w.heap.size w w' := by
  obtain ⟨an, asx, ar, aA, an1, ac1, aa, aA2, an2, ac2⟩ := a
  obtain ⟨bn, bsx, br, bA, bn1, bc1, ba, bA2, bn2, bc2⟩ := b
  simp only at a1 a2 b1 b2
  have hb1 : Below w.heap.size w ((w.alloc (.cells #[.string ⟨an.toArray⟩, .string ⟨asx.toArray⟩, .slice aA an1 ac1, .slice aA2 an2 ac2] 59)).alloc (.cells #[.string ⟨bn.toArray⟩, .string ⟨bsx.toArray⟩, .slice bA bn1 bc1, .slice bA2 bn2 bc2] 59)) := ((Below.refl _ w).alloc (Nat.le_refl _) _).alloc (by simp) _
  have he1 := eqS_any (a1.below (hb1.mono hB)) (b1.below (hb1.mono hB))
  have he2 : ∀ q, _ := fun q => eqS_any (a2.below (bel_drewN (hb1.mono hB) q)) (b2.below (bel_drewN (hb1.mono hB) q))
  have HB1 := Lib.hid hb1
  have HE2 := Lib.hid he2
  have HS := Lib.hid (show ((⟨an, asx, ar, aa⟩ : Srv) = ⟨bn, bsx, br, ba⟩) ↔ (an = bn ∧ asx = bsx ∧ ar = br ∧ aa = ba) by simp)
  have t1 : (ByteArray.mk an.toArray).toList = an := Go.ByteArray.toList_eq _
  have t2 : (ByteArray.mk bn.toArray).toList = bn := Go.ByteArray.toList_eq _
  have t3 : (ByteArray.mk asx.toArray).toList = asx := Go.ByteArray.toList_eq _
  have t4 : (ByteArray.mk bsx.toArray).toList = bsx := Go.ByteArray.toList_eq _
  clear a1 a2 b1 b2 hb1 he2
  show Calls _ _ _ _ fun e w' => e = .returned (.bool (decide ((⟨an, asx, ar, aa⟩ : Srv) = ⟨bn, bsx, br, ba⟩))) ∧ Below w.heap.size w w'
  unfold svArr
  cases h1 : (an == bn) with
  | false =>
    have H := Lib.hid (show decide ((⟨an, asx, ar, aa⟩ : Srv) = ⟨bn, bsx, br, ba⟩) = false from decide_eq_false (fun h => by have := (HS.out.1 h).1; simp [this] at h1))
    go_enter Tryz.func119, Tryz.ntmps119
    go_wp2
    go_ret
    exact ⟨by rw [H.out]; rfl, HB1.out⟩
  | true =>
    cases h2 : (asx == bsx) with
    | false =>
      have H := Lib.hid (show decide ((⟨an, asx, ar, aa⟩ : Srv) = ⟨bn, bsx, br, ba⟩) = false from decide_eq_false (fun h => by have := (HS.out.1 h).2.1; simp [this] at h2))
      go_enter Tryz.func119, Tryz.ntmps119
      go_wp2
      go_ret
      exact ⟨by rw [H.out]; rfl, HB1.out⟩
    | true =>
      cases h3 : decide (ar = br) with
      | false =>
        have H := Lib.hid (show decide ((⟨an, asx, ar, aa⟩ : Srv) = ⟨bn, bsx, br, ba⟩) = false from decide_eq_false (fun h => by have := (HS.out.1 h).2.2.1; simp [this] at h3))
        rw [h3] at he1
        go_enter Tryz.func119, Tryz.ntmps119
        go_wp2_with (go_at_call 49; refine he1.mono ?_; clear he1; rintro e w1 ⟨rfl, q, rfl⟩)
        go_ret
        exact ⟨by rw [H.out]; rfl, bel_drewN HB1.out q⟩
      | true =>
        have H := Lib.hid (show decide ((⟨an, asx, ar, aa⟩ : Srv) = ⟨bn, bsx, br, ba⟩) = decide (aa = ba) from decide_eq_decide.2 ⟨fun h => (HS.out.1 h).2.2.2, fun h => HS.out.2 ⟨by simpa using h1, by simpa using h2, of_decide_eq_true h3, h⟩⟩)
        rw [h3] at he1
        go_enter Tryz.func119, Tryz.ntmps119
        go_wp2_with (go_at_call 49; first
          | (refine he1.mono ?_; clear he1; rintro e w1 ⟨rfl, q, rfl⟩; have he2 := HE2.out q)
          | (refine he2.mono ?_; clear he2; rintro e w2 ⟨rfl, q2, rfl⟩))
        go_ret
        exact ⟨by rw [H.out]; rfl, bel_drewN HB1.out _⟩
end Go.Proofs.YtibndaianhlcaaaGreatDoor
namespace Go.Proofs
open Go.Shelf
def Tryz.laysGw15_ren : Go.Shelf.Ren := ⟨fun | 15 => 141 | 20 => 160 | n => n, fun | 9 => 9 | 23 => 163 | 3 => 3 | 4 => 4 | 0 => 0 | 21 => 21 | n => n, fun | n => n⟩
theorem Tryz.laysGw15 : Go.Proofs.LaysGw.n15 Tryz.prog Tryz.laysGw15_ren := {
  mixed := by kernel_rfl
  f15 := Tryz.func141.trans (congrArg some (by kernel_rfl))
  f20 := Tryz.func160.trans (congrArg some (by kernel_rfl))
  t0 := Tryz.underlying0
  a0 := Tryz.isAgg0
  z0 := Tryz.sizeOf0
  v0 := Tryz.zeroValue0
  i0 := by kernel_rfl
  t3 := Tryz.underlying3
  a3 := Tryz.isAgg3
  z3 := Tryz.sizeOf3
  v3 := Tryz.zeroValue3
  i3 := by kernel_rfl
  t4 := Tryz.underlying4
  a4 := Tryz.isAgg4
  z4 := Tryz.sizeOf4
  v4 := Tryz.zeroValue4
  i4 := by kernel_rfl
  t9 := Tryz.underlying9
  a9 := Tryz.isAgg9
  z9 := Tryz.sizeOf9
  v9 := Tryz.zeroValue9
  i9 := by kernel_rfl
  t21 := Tryz.underlying21
  a21 := Tryz.isAgg21
  z21 := Tryz.sizeOf21
  v21 := Tryz.zeroValue21
  i21 := by kernel_rfl
  t23 := Tryz.underlying163
  a23 := Tryz.isAgg163
  z23 := Tryz.sizeOf163
  v23 := Tryz.zeroValue163
  i23 := by kernel_rfl }
open Go.RowKit Go.Lib in
theorem Tryz.strings_IndexFunc_runes (g : Nat) (lb : Array Value) (eg : ∀ args w, (callFunc g args).run Tryz.prog w = .ok (.enter g args) w) (p : Nat → Bool) (s : ByteArray) (w : World) (hp : PredAtRunes Tryz.prog g lb p w) :
    Calls Tryz.prog 141 #[.string s, .func (.func g) #[] lb] w fun e w' => e = .returned (.int .i64 (Lib.idxFunc p true s)) ∧ Below w.heap.size w w' := Any.strings_IndexFunc_runes Tryz.laysGw15 g lb eg p s w hp
end Go.Proofs
