/- Acts that are put together line by line, in memory of the call's own (printed by gen_blda.py out of XBldU). Rows that are put together out of parts of others: append(append(append([]T{}, l[:k]...), x), l[j:]...), whatever T is, in whatever order its parts are made. -/
import Derived.Test.YtibndaianhlcaaaGreatDoorPart14
import Derived.Test.YtibndaianhlcaaaGreatDoorPart24
import Derived.Test.YtibndaianhlcaaaGreatDoorPart15
import Derived.Test.YtibndaianhlcaaaGreatDoorPart11
import Derived.Test.YtibndaianhlcaaaGreatDoorPart12
namespace Go.Proofs.YtibndaianhlcaaaGreatDoor
open Go.RowKit Go.Sort
set_option linter.unusedVariables false
set_option linter.unusedSimpArgs false

/-- An act's bytes lie outside the footprint. -/
structure DatA (w : World) (F : Nat → Prop) (a : AV) : Prop where
  data : Slc w w.heap.size 1 a.file.A a.file.n a.file.c (a.file.data.map bv)
  out : ∀ x, a.file.A = some x → ¬ F x.block ∧ x.block < w.heap.size
theorem DatA.step {w w' : World} {F G : Nat → Prop} {a : AV} (h : DatA w F a) (hs : Step w w' F G) (hG : ∀ k, G k → F k ∨ w.heap.size ≤ k) : DatA w' G a :=
  ⟨(h.data.apartB fun x hx => hs.block _ (h.out x hx).2 (h.out x hx).1).more hs.size, fun x hx => ⟨fun hg => by
    rcases hG _ hg with h1 | h1
    · exact (h.out x hx).1 h1
    · have := (h.out x hx).2; omega, Nat.lt_of_lt_of_le (h.out x hx).2 hs.size⟩⟩
theorem DatA.unit_ {w : World} {F : Nat → Prop} {a : AV} (h : DatA w F a) (k : Int) (n : Txt) (u : SV) : DatA w F ⟨k, n, a.file, u⟩ := ⟨h.data, h.out⟩
theorem DatA.none_ {w : World} {F : Nat → Prop} {a : AV} (h : a.file.A = none) (hn : a.file.n = 0) (hc : a.file.c = 0) (hd : a.file.data = []) : DatA w F a :=
  ⟨by rw [h, hn, hc, hd]; exact slc_none _ _ _, fun x hx => by rw [h] at hx; cases hx⟩
structure OwnA (w : World) (F : Nat → Prop) (A : Option Addr) (n c : Nat) (us : List AV) : Prop where
  row : Row w F 61 9 (.slice A n c) n (us.flatMap avCells)
  data : ∀ u ∈ us, DatA w F u
  req : ∀ u ∈ us, Row w F 9 1 (.slice u.unit.A u.unit.n u.unit.c) u.unit.n (u.unit.req.map encStr)
  aft : ∀ u ∈ us, Row w F 9 1 (.slice u.unit.A2 u.unit.n2 u.unit.c2) u.unit.n2 (u.unit.aft.map encStr)
theorem OwnA.nil (w : World) (F : Nat → Prop) : OwnA w F none 0 0 [] := ⟨Row.nil _ _ _ _, (fun u h => by cases h), (fun u h => by cases h), (fun u h => by cases h)⟩
theorem OwnA.len {w : World} {F : Nat → Prop} {A : Option Addr} {n c : Nat} {us : List AV} (h : OwnA w F A n c us) : us.length = n := by
  have h1 := h.row.own.1
  rw [flatMap_len avCells 9 us (fun o _ => avCells_length o)] at h1
  omega
theorem OwnA.below {w w' : World} {F : Nat → Prop} {A : Option Addr} {n c : Nat} {us : List AV} (h : OwnA w F A n c us) (hb : Below w.heap.size w w') : OwnA w' F A n c us := by
  have hr : ∀ {e : TypeId} {sz n : Nat} {v : Value} {xs : List Value}, Row w F e sz v n xs → Row w' F e sz v n xs := fun hR => hR.kept (fun k hk => hb.block k (hR.own.lt k hk).2) hR.foot
  exact ⟨hr h.row, fun u hu => (h.data u hu).step (Step.of_below hb F) (fun k hk => .inl hk), fun u hu => hr (h.req u hu), fun u hu => hr (h.aft u hu)⟩
theorem OwnA.acts {w : World} {F : Nat → Prop} {A : Option Addr} {n c : Nat} {us : List AV} (h : OwnA w F A n c us) : ActsAt w w.heap.size A n c us :=
  ⟨h.row.slc', h.len, fun u hu => ⟨(h.data u hu).data, (h.req u hu).slc', (h.aft u hu).slc'⟩⟩
theorem OwnA.append {w : World} {F : Nat → Prop} {A : Option Addr} {n c : Nat} {us : List AV} (h : OwnA w F A n c us) (u : AV) (h0 : DatA w F u) (h1 : Row w F 9 1 (.slice u.unit.A u.unit.n u.unit.c) u.unit.n (u.unit.req.map encStr)) (h2 : Row w F 9 1 (.slice u.unit.A2 u.unit.n2 u.unit.c2) u.unit.n2 (u.unit.aft.map encStr)) (hn : n ≤ 1000000000) :
    ∃ A' c' w', (Builtin.append_ #[40, 40] 40 #[.slice A n c, .slice (some ⟨w.heap.size, 0, none⟩) 1 1]).run Tryz.prog (w.alloc (.cells (avArr u) 61)) = .ok (.slice A' (n + 1) c') w' ∧
      OwnA w' (Fn F w w') A' (n + 1) c' (us ++ [u]) ∧ w.grownBy w' (Value.slice A n c).ownBlock := by
  obtain ⟨i, hi, hz0, hz1, hz2⟩ := info_parts act_info21
  have hS := slc_new w 61 (0, 0) (avArr u) (sz := 9) (n := 1) (c := 1) rfl (Nat.le_refl _) (by decide)
  obtain ⟨A', c', w', r1, r2, r3, r4⟩ := append_slc (P := Tryz.prog) (w.alloc (.cells (avArr u) 61)) 0 40 40 61 i _ 9 152 Tryz.underlying40 hi hz0 hz1 hz2 rfl (by decide) _ n (us.flatMap avCells) (h.row.own.alloc _) _ _ 1 1 (avCells u) hS (fun v hv => avs_one [u] v (by rw [List.flatMap_cons, List.flatMap_nil, List.append_nil]; exact hv)) (by unfold maxLen; omega) (by omega) (Nat.zero_le _)
  have hg : w.grownBy w' (Value.slice A n c).ownBlock := ⟨r3.os, r3.tape, r3.output, Nat.le_trans (by simp) r3.size, fun k hk hne => by rw [r3.block k (by simp; omega) hne, Below.heap_alloc w _ k hk]⟩
  have hot := grown_other hg (row_typed h.row) (e := 9) (by decide)
  have hst : Step w w' F (Fn F w w') := ((Step.refl w F).grown hg (fun k hk => .inl (h.row.foot k hk))).fn
  have hfn : ∀ k, Fn F w w' k → F k ∨ w.heap.size ≤ k := fun k hk => hk.imp id (fun h1 => h1.1)
  refine ⟨A', c', w', r1, ⟨⟨?_, fun k hk => ?_⟩, fun x hx => ?_, fun x hx => ?_, fun x hx => ?_⟩, hg⟩
  · rw [List.flatMap_append, List.flatMap_cons, List.flatMap_nil, List.append_nil]
    exact r2
  · rcases r4 with r4 | r4
    · rw [r4] at hk
      exact .inl (h.row.foot k hk)
    · have hl := (r2.lt k hk).2
      rw [r4] at hk
      injection hk with hk
      simp at hk
      exact .inr ⟨by omega, hl⟩
  · rcases List.mem_append.1 hx with hx | hx
    · exact (h.data x hx).step hst hfn
    · rw [List.mem_singleton.1 hx]; exact h0.step hst hfn
  · rcases List.mem_append.1 hx with hx | hx
    · exact ((h.req x hx).other hot).wide (fn_wide _ _ _)
    · rw [List.mem_singleton.1 hx]; exact (h1.other hot).wide (fn_wide _ _ _)
  · rcases List.mem_append.1 hx with hx | hx
    · exact ((h.aft x hx).other hot).wide (fn_wide _ _ _)
    · rw [List.mem_singleton.1 hx]; exact (h2.other hot).wide (fn_wide _ _ _)
def reqA (u : AV) : Value := .slice u.unit.A u.unit.n u.unit.c
def aftA (u : AV) : Value := .slice u.unit.A2 u.unit.n2 u.unit.c2
/-- Acts while they are put together: the last one's lists share no memory with another list. -/
structure BldA (w : World) (F : Nat → Prop) (A : Option Addr) (n c : Nat) (us : List AV) : Prop where
  own : OwnA w F A n c us
  sep : ∀ m u, us = m ++ [u] → ∃ H, H ≤ w.heap.size ∧ (∀ x ∈ m, ∀ k, (reqA x).ownBlock = some k ∨ (aftA x).ownBlock = some k → k < H) ∧ (∀ k, (reqA u).ownBlock = some k → H ≤ k ∧ (aftA u).ownBlock ≠ some k) ∧ ∀ k, (aftA u).ownBlock = some k → H ≤ k
theorem BldA.nil (w : World) (F : Nat → Prop) : BldA w F none 0 0 [] := ⟨OwnA.nil w F, fun m u h => by cases m <;> cases h⟩
theorem BldA.below {w w' : World} {F : Nat → Prop} {A : Option Addr} {n c : Nat} {us : List AV} (h : BldA w F A n c us) (hb : Below w.heap.size w w') : BldA w' F A n c us :=
  ⟨h.own.below hb, fun m u e => by obtain ⟨H, h1, h2⟩ := h.sep m u e; exact ⟨H, Nat.le_trans h1 hb.size, h2⟩⟩
/-- An act is begun. -/
theorem BldA.begin {w : World} {F : Nat → Prop} {A : Option Addr} {n c : Nat} {us : List AV} (h : BldA w F A n c us) (a : AV) (ha : DatA w F a) (h1 : a.unit.A = none ∧ a.unit.n = 0 ∧ a.unit.c = 0 ∧ a.unit.req = []) (h2 : a.unit.A2 = none ∧ a.unit.n2 = 0 ∧ a.unit.c2 = 0 ∧ a.unit.aft = []) (hn : n ≤ 1000000000) :
    ∃ A' c' w', (Builtin.append_ #[40, 40] 40 #[.slice A n c, .slice (some ⟨w.heap.size, 0, none⟩) 1 1]).run Tryz.prog (w.alloc (.cells (avArr a) 61)) = .ok (.slice A' (n + 1) c') w' ∧
      BldA w' (Fn F w w') A' (n + 1) c' (us ++ [a]) ∧ Step w w' F (Fn F w w') := by
  obtain ⟨A', c', w', g1, g2, g3⟩ := h.own.append a ha (by rw [h1.1, h1.2.1, h1.2.2.1, h1.2.2.2]; exact Row.nil _ _ _ _) (by rw [h2.1, h2.2.1, h2.2.2.1, h2.2.2.2]; exact Row.nil _ _ _ _) hn
  refine ⟨A', c', w', g1, ⟨g2, fun m u e => ?_⟩, ((Step.refl w F).grown g3 (fun k hk => .inl (h.own.row.foot k hk))).fn⟩
  obtain ⟨rfl, e2⟩ := List.append_inj' e rfl
  injection e2 with e2
  subst e2
  refine ⟨w.heap.size, g3.size, fun x hx k hk => ?_, (fun k hk => by unfold reqA at hk; rw [h1.1] at hk; cases hk), (fun k hk => by unfold aftA at hk; rw [h2.1] at hk; cases hk)⟩
  rcases hk with hk | hk
  · exact (h.own.req x hx).lt k hk
  · exact (h.own.aft x hx).lt k hk
theorem last_cells9 {m : List AV} {u u' : AV} {i : Nat} (hi : i < 9) {v : Value} (hv : (avCells u).set i v = avCells u') : ((m ++ [u]).flatMap avCells).set (m.length * 9 + i) v = (m ++ [u']).flatMap avCells := by
  have hl : (m.flatMap avCells).length = m.length * 9 := flatMap_len avCells 9 m (fun o _ => avCells_length o)
  rw [List.flatMap_append, List.flatMap_append, List.set_append_right _ _ (by omega), hl, show m.length * 9 + i - m.length * 9 = i by omega]
  simp [hv]
/-- The last unit's cells. -/
theorem BldA.last {w : World} {F : Nat → Prop} {A : Option Addr} {n c : Nat} {m : List AV} {u : AV} (h : BldA w F A n c (m ++ [u])) : n = m.length + 1 ∧ ∃ g, A = some ⟨g, 0, none⟩ ∧ F g ∧ g < w.heap.size ∧
    (∀ i, i < 9 → w.cell? ⟨g, m.length * 9 + i, none⟩ = (avCells u)[i]?) ∧ ∀ i, w.frozen? ⟨g, i, none⟩ = false := by
  have hl := h.own.len
  rw [List.length_append, List.length_singleton] at hl
  obtain ⟨g, cap, cur, e, f1, f2, f3, f4, f5, f6, f7⟩ := h.own.row.form (by omega)
  injection e with e
  subst e
  refine ⟨by omega, g, rfl, f1, f2, fun i hi => ?_, fun i => f3.frozen i⟩
  rw [f3.cell]
  have e1 : (cur.toList.take (n * 9))[m.length * 9 + i]? = (avCells u)[i]? := by
    rw [f7, List.flatMap_append, List.getElem?_append_right (by rw [flatMap_len avCells 9 m (fun o _ => avCells_length o)]; omega), flatMap_len avCells 9 m (fun o _ => avCells_length o)]
    rw [show m.length * 9 + i - m.length * 9 = i by omega]
    simp
  rw [List.getElem?_take_of_lt (by omega)] at e1
  rw [← e1]
  simp
theorem own_set9 {w : World} {F : Nat → Prop} {g n c : Nat} {m : List AV} {u : AV} (h : OwnA w F (some ⟨g, 0, none⟩) n c (m ++ [u])) {i : Nat} (hi : i < 9) {v : Value} {u' : AV} (hv : (avCells u).set i v = avCells u') (k0 : DatA w F u') (k1 : Row w F 9 1 (reqA u') u'.unit.n (u'.unit.req.map encStr)) (k2 : Row w F 9 1 (aftA u') u'.unit.n2 (u'.unit.aft.map encStr)) :
    OwnA (w.setCell ⟨g, m.length * 9 + i, none⟩ v) F (some ⟨g, 0, none⟩) n c (m ++ [u']) := by
  obtain ⟨cur, fr, hcu⟩ := row_typed h.row g rfl
  have hot : ∀ (k : Nat) (cur : Array Value) (fr : Nat × Nat), w.heap[k]? = some (Obj.cells cur 9 fr) → (w.setCell ⟨g, m.length * 9 + i, none⟩ v).heap[k]? = w.heap[k]? := fun k cur' fr' hk => by
    refine Below.heap_setCell w _ _ k (fun e1 => ?_)
    simp only at e1
    subst e1
    rw [hcu] at hk
    injection hk with hk
    injection hk with _ hk
    revert hk
    decide
  have hrow := h.row.set1 (m.length * 9 + i) v
  rw [last_cells9 hi hv] at hrow
  have hst : Step w (w.setCell ⟨g, m.length * 9 + i, none⟩ v) F F := (Step.refl w F).setCell (.inl (h.row.foot g rfl)) v
  refine ⟨hrow, fun x hx => ?_, fun x hx => ?_, fun x hx => ?_⟩
  · rcases List.mem_append.1 hx with hx | hx
    · exact (h.data x (List.mem_append.2 (.inl hx))).step hst (fun k hk => .inl hk)
    · rw [List.mem_singleton.1 hx]; exact k0.step hst (fun k hk => .inl hk)
  · rcases List.mem_append.1 hx with hx | hx
    · exact (h.req x (List.mem_append.2 (.inl hx))).other hot
    · rw [List.mem_singleton.1 hx]; exact k1.other hot
  · rcases List.mem_append.1 hx with hx | hx
    · exact (h.aft x (List.mem_append.2 (.inl hx))).other hot
    · rw [List.mem_singleton.1 hx]; exact k2.other hot
/-- A unit's command. -/
theorem BldA.start {w : World} {F : Nat → Prop} {g n c : Nat} {m : List AV} {u : AV} (h : BldA w F (some ⟨g, 0, none⟩) n c (m ++ [u])) (r : Txt) :
    BldA (w.setCell ⟨g, m.length * 9 + 6, none⟩ (.string ⟨r.toArray⟩)) F (some ⟨g, 0, none⟩) n c (m ++ [⟨u.kind, u.name, u.file, ⟨u.unit.name, r, u.unit.req, u.unit.A, u.unit.n, u.unit.c, u.unit.aft, u.unit.A2, u.unit.n2, u.unit.c2⟩⟩]) := by
  refine ⟨own_set9 h.own (by decide) (u' := ⟨u.kind, u.name, u.file, ⟨u.unit.name, r, u.unit.req, u.unit.A, u.unit.n, u.unit.c, u.unit.aft, u.unit.A2, u.unit.n2, u.unit.c2⟩⟩) rfl ((h.own.data u (by simp)).unit_ _ _ _) (h.own.req u (by simp)) (h.own.aft u (by simp)), fun m' u' e => ?_⟩
  obtain ⟨rfl, e2⟩ := List.append_inj' e rfl
  injection e2 with e2
  subst e2
  obtain ⟨H, h1, h2⟩ := h.sep m u rfl
  exact ⟨H, by simpa using h1, h2⟩
/-- A name more in the last unit's first list. -/
theorem BldA.req {w : World} {F : Nat → Prop} {g n c : Nat} {m : List AV} {u : AV} (h : BldA w F (some ⟨g, 0, none⟩) n c (m ++ [u])) (r : Txt) (hn : u.unit.n ≤ 1000000000) :
    ∃ A' c' w', (Builtin.append_ #[23, 23] 23 #[.slice u.unit.A u.unit.n u.unit.c, .slice (some ⟨w.heap.size, 0, none⟩) 1 1]).run Tryz.prog (w.alloc (.cells #[.string ⟨r.toArray⟩] 9)) = .ok (.slice A' (u.unit.n + 1) c') w' ∧
      BldA (w'.setCell ⟨g, m.length * 9 + 7, none⟩ (.slice A' (u.unit.n + 1) c')) (Fn F w w') (some ⟨g, 0, none⟩) n c (m ++ [⟨u.kind, u.name, u.file, ⟨u.unit.name, u.unit.start, u.unit.req ++ [r], A', u.unit.n + 1, c', u.unit.aft, u.unit.A2, u.unit.n2, u.unit.c2⟩⟩]) ∧ Step w w' F (Fn F w w') ∧ F g ∧
      (∀ (k : Nat) (cur : Array Value) (fr : Nat × Nat) (e : TypeId), e ≠ 9 → w.heap[k]? = some (Obj.cells cur e fr) → w'.heap[k]? = w.heap[k]?) := by
  have hr0 := h.own.req u (by simp)
  obtain ⟨A', c', w', r1, r2, r3, r4, r5⟩ := hr0.appS r hn
  obtain ⟨H, s1, s2, s3, s4⟩ := h.sep m u rfl
  have hot := fun (e : TypeId) (he : e ≠ 9) => grown_other r3 (row_typed hr0) (e := e) he
  have hk : ∀ {v : Value} {nn : Nat} {xs : List Value}, Row w F 9 1 v nn xs → (∀ k, v.ownBlock = some k → (reqA u).ownBlock ≠ some k) → Row w' (Fn F w w') 9 1 v nn xs := fun hR hne => hR.kept (fun k hkk => r3.block k (hR.lt k hkk) (fun e => hne k hkk e.symm)) (fun k hkk => .inl (hR.foot k hkk))
  have hA : Row w' (Fn F w w') 9 1 (.slice A' (u.unit.n + 1) c') (u.unit.n + 1) ((u.unit.req ++ [r]).map encStr) := ⟨r2, fun k hkk => by
    rcases r5 with r5 | r5
    · exact .inl (hr0.foot k (by rw [← r5]; exact hkk))
    · exact .inr ⟨Nat.le_of_lt (r5 k hkk), (r2.lt k hkk).2⟩⟩
  have hold : ∀ x ∈ m, ∀ k, (reqA x).ownBlock = some k ∨ (aftA x).ownBlock = some k → (reqA u).ownBlock ≠ some k := fun x hx k hkk e => by
    have h1 := s2 x hx k hkk
    have h2 := (s3 k e).1
    omega
  have haft : Row w' (Fn F w w') 9 1 (aftA u) u.unit.n2 (u.unit.aft.map encStr) := hk (h.own.aft u (by simp)) (fun k hkk e => (s3 k e).2 hkk)
  have hrow : Row w' (Fn F w w') 61 9 (.slice (some ⟨g, 0, none⟩) n c) n ((m ++ [u]).flatMap avCells) := (h.own.row.other (hot _ (by decide))).wide (fn_wide _ _ _)
  have hmid : ∀ x ∈ m, Row w' (Fn F w w') 9 1 (reqA x) x.unit.n (x.unit.req.map encStr) ∧ Row w' (Fn F w w') 9 1 (aftA x) x.unit.n2 (x.unit.aft.map encStr) := fun x hx =>
    ⟨hk (h.own.req x (List.mem_append.2 (.inl hx))) (fun k hkk => hold x hx k (.inl hkk)), hk (h.own.aft x (List.mem_append.2 (.inl hx))) (fun k hkk => hold x hx k (.inr hkk))⟩
  refine ⟨A', c', w', r1, ⟨?_, fun m' u' e => ?_⟩, ((Step.refl w F).grown r3 (fun k hk => .inl (hr0.foot k hk))).fn, h.own.row.foot g rfl, fun k cur fr e he hkk => hot e he k cur fr hkk⟩
  · obtain ⟨cur, fr, hcu⟩ := row_typed hrow g rfl
    have ho2 : ∀ (k : Nat) (cur : Array Value) (fr : Nat × Nat), w'.heap[k]? = some (Obj.cells cur 9 fr) → (w'.setCell ⟨g, m.length * 9 + 7, none⟩ (.slice A' (u.unit.n + 1) c')).heap[k]? = w'.heap[k]? := fun k cur' fr' hkk => by
      refine Below.heap_setCell w' _ _ k (fun e1 => ?_)
      simp only at e1
      subst e1
      rw [hcu] at hkk
      injection hkk with hkk
      injection hkk with _ hkk
      revert hkk
      decide
    have h9 := hrow.set1 (m.length * 9 + 7) (.slice A' (u.unit.n + 1) c')
    rw [last_cells9 (u' := ⟨u.kind, u.name, u.file, ⟨u.unit.name, u.unit.start, u.unit.req ++ [r], A', u.unit.n + 1, c', u.unit.aft, u.unit.A2, u.unit.n2, u.unit.c2⟩⟩) (by decide) rfl] at h9
    have hst : Step w (w'.setCell ⟨g, m.length * 9 + 7, none⟩ (.slice A' (u.unit.n + 1) c')) F (Fn F w w') := (((Step.refl w F).grown r3 (fun k hk => .inl (hr0.foot k hk))).fn).setCell (.inl (h.own.row.foot g rfl)) _
    refine ⟨h9, fun x hx => ?_, fun x hx => ?_, fun x hx => ?_⟩
    · have hfn : ∀ k, Fn F w w' k → F k ∨ w.heap.size ≤ k := fun k hk => hk.imp id (fun h1 => h1.1)
      rcases List.mem_append.1 hx with hx | hx
      · exact (h.own.data x (List.mem_append.2 (.inl hx))).step hst hfn
      · rw [List.mem_singleton.1 hx]; exact ((h.own.data u (by simp)).step hst hfn).unit_ _ _ _
    · rcases List.mem_append.1 hx with hx | hx
      · exact (hmid x hx).1.other ho2
      · rw [List.mem_singleton.1 hx]; exact hA.other ho2
    · rcases List.mem_append.1 hx with hx | hx
      · exact (hmid x hx).2.other ho2
      · rw [List.mem_singleton.1 hx]; exact haft.other ho2
  · obtain ⟨rfl, e2⟩ := List.append_inj' e rfl
    injection e2 with e2
    subst e2
    refine ⟨H, by simp; exact Nat.le_trans s1 r3.size, s2, fun k hkk => ?_, s4⟩
    have hkk : (Value.slice A' (u.unit.n + 1) c').ownBlock = some k := hkk
    rcases r5 with r5 | r5
    · rw [r5] at hkk
      exact s3 k hkk
    · have h1 := r5 k hkk
      refine ⟨by omega, fun e => ?_⟩
      have h2 := (h.own.aft u (by simp)).lt k e
      omega
/-- A name more in the last unit's second list. -/
theorem BldA.aft {w : World} {F : Nat → Prop} {g n c : Nat} {m : List AV} {u : AV} (h : BldA w F (some ⟨g, 0, none⟩) n c (m ++ [u])) (r : Txt) (hn : u.unit.n2 ≤ 1000000000) :
    ∃ A' c' w', (Builtin.append_ #[23, 23] 23 #[.slice u.unit.A2 u.unit.n2 u.unit.c2, .slice (some ⟨w.heap.size, 0, none⟩) 1 1]).run Tryz.prog (w.alloc (.cells #[.string ⟨r.toArray⟩] 9)) = .ok (.slice A' (u.unit.n2 + 1) c') w' ∧
      BldA (w'.setCell ⟨g, m.length * 9 + 8, none⟩ (.slice A' (u.unit.n2 + 1) c')) (Fn F w w') (some ⟨g, 0, none⟩) n c (m ++ [⟨u.kind, u.name, u.file, ⟨u.unit.name, u.unit.start, u.unit.req, u.unit.A, u.unit.n, u.unit.c, u.unit.aft ++ [r], A', u.unit.n2 + 1, c'⟩⟩]) ∧ Step w w' F (Fn F w w') ∧ F g ∧
      (∀ (k : Nat) (cur : Array Value) (fr : Nat × Nat) (e : TypeId), e ≠ 9 → w.heap[k]? = some (Obj.cells cur e fr) → w'.heap[k]? = w.heap[k]?) := by
  have hr0 := h.own.aft u (by simp)
  obtain ⟨A', c', w', r1, r2, r3, r4, r5⟩ := hr0.appS r hn
  obtain ⟨H, s1, s2, s3, s4⟩ := h.sep m u rfl
  have hot := fun (e : TypeId) (he : e ≠ 9) => grown_other r3 (row_typed hr0) (e := e) he
  have hk : ∀ {v : Value} {nn : Nat} {xs : List Value}, Row w F 9 1 v nn xs → (∀ k, v.ownBlock = some k → (aftA u).ownBlock ≠ some k) → Row w' (Fn F w w') 9 1 v nn xs := fun hR hne => hR.kept (fun k hkk => r3.block k (hR.lt k hkk) (fun e => hne k hkk e.symm)) (fun k hkk => .inl (hR.foot k hkk))
  have hA : Row w' (Fn F w w') 9 1 (.slice A' (u.unit.n2 + 1) c') (u.unit.n2 + 1) ((u.unit.aft ++ [r]).map encStr) := ⟨r2, fun k hkk => by
    rcases r5 with r5 | r5
    · exact .inl (hr0.foot k (by rw [← r5]; exact hkk))
    · exact .inr ⟨Nat.le_of_lt (r5 k hkk), (r2.lt k hkk).2⟩⟩
  have hold : ∀ x ∈ m, ∀ k, (reqA x).ownBlock = some k ∨ (aftA x).ownBlock = some k → (aftA u).ownBlock ≠ some k := fun x hx k hkk e => by
    have h1 := s2 x hx k hkk
    have h2 := s4 k e
    omega
  have hreq : Row w' (Fn F w w') 9 1 (reqA u) u.unit.n (u.unit.req.map encStr) := hk (h.own.req u (by simp)) (fun k hkk => (s3 k hkk).2)
  have hrow : Row w' (Fn F w w') 61 9 (.slice (some ⟨g, 0, none⟩) n c) n ((m ++ [u]).flatMap avCells) := (h.own.row.other (hot _ (by decide))).wide (fn_wide _ _ _)
  have hmid : ∀ x ∈ m, Row w' (Fn F w w') 9 1 (reqA x) x.unit.n (x.unit.req.map encStr) ∧ Row w' (Fn F w w') 9 1 (aftA x) x.unit.n2 (x.unit.aft.map encStr) := fun x hx =>
    ⟨hk (h.own.req x (List.mem_append.2 (.inl hx))) (fun k hkk => hold x hx k (.inl hkk)), hk (h.own.aft x (List.mem_append.2 (.inl hx))) (fun k hkk => hold x hx k (.inr hkk))⟩
  refine ⟨A', c', w', r1, ⟨?_, fun m' u' e => ?_⟩, ((Step.refl w F).grown r3 (fun k hk => .inl (hr0.foot k hk))).fn, h.own.row.foot g rfl, fun k cur fr e he hkk => hot e he k cur fr hkk⟩
  · obtain ⟨cur, fr, hcu⟩ := row_typed hrow g rfl
    have ho2 : ∀ (k : Nat) (cur : Array Value) (fr : Nat × Nat), w'.heap[k]? = some (Obj.cells cur 9 fr) → (w'.setCell ⟨g, m.length * 9 + 8, none⟩ (.slice A' (u.unit.n2 + 1) c')).heap[k]? = w'.heap[k]? := fun k cur' fr' hkk => by
      refine Below.heap_setCell w' _ _ k (fun e1 => ?_)
      simp only at e1
      subst e1
      rw [hcu] at hkk
      injection hkk with hkk
      injection hkk with _ hkk
      revert hkk
      decide
    have h9 := hrow.set1 (m.length * 9 + 8) (.slice A' (u.unit.n2 + 1) c')
    rw [last_cells9 (u' := ⟨u.kind, u.name, u.file, ⟨u.unit.name, u.unit.start, u.unit.req, u.unit.A, u.unit.n, u.unit.c, u.unit.aft ++ [r], A', u.unit.n2 + 1, c'⟩⟩) (by decide) rfl] at h9
    have hst : Step w (w'.setCell ⟨g, m.length * 9 + 8, none⟩ (.slice A' (u.unit.n2 + 1) c')) F (Fn F w w') := (((Step.refl w F).grown r3 (fun k hk => .inl (hr0.foot k hk))).fn).setCell (.inl (h.own.row.foot g rfl)) _
    refine ⟨h9, fun x hx => ?_, fun x hx => ?_, fun x hx => ?_⟩
    · have hfn : ∀ k, Fn F w w' k → F k ∨ w.heap.size ≤ k := fun k hk => hk.imp id (fun h1 => h1.1)
      rcases List.mem_append.1 hx with hx | hx
      · exact (h.own.data x (List.mem_append.2 (.inl hx))).step hst hfn
      · rw [List.mem_singleton.1 hx]; exact ((h.own.data u (by simp)).step hst hfn).unit_ _ _ _
    · rcases List.mem_append.1 hx with hx | hx
      · exact (hmid x hx).1.other ho2
      · rw [List.mem_singleton.1 hx]; exact hreq.other ho2
    · rcases List.mem_append.1 hx with hx | hx
      · exact (hmid x hx).2.other ho2
      · rw [List.mem_singleton.1 hx]; exact hA.other ho2
  · obtain ⟨rfl, e2⟩ := List.append_inj' e rfl
    injection e2 with e2
    subst e2
    refine ⟨H, by simp; exact Nat.le_trans s1 r3.size, s2, fun k hkk => ⟨(s3 k hkk).1, fun e => ?_⟩, fun k hkk => ?_⟩
    · have e : (Value.slice A' (u.unit.n2 + 1) c').ownBlock = some k := e
      rcases r5 with r5 | r5
      · rw [r5] at e
        exact (s3 k hkk).2 e
      · have h1 := r5 k e
        have h2 := (h.own.req u (by simp)).lt k hkk
        omega
    · have hkk : (Value.slice A' (u.unit.n2 + 1) c').ownBlock = some k := hkk
      rcases r5 with r5 | r5
      · rw [r5] at hkk
        exact s4 k hkk
      · have h1 := r5 k hkk
        omega
/-- A line is added to the last act's unit. -/
theorem moreA_any {w : World} {F : Nat → Prop} {g n c : Nat} {m : List AV} {u : AV} (h : BldA w F (some ⟨g, 0, none⟩) n c (m ++ [u])) (word r : Txt) (h1 : u.unit.n ≤ 1000000000) (h2 : u.unit.n2 ≤ 1000000000) :
    Calls Tryz.prog 67 #[.pointer (some ⟨g, m.length * 9 + 5, none⟩), .string ⟨word.toArray⟩, .string ⟨r.toArray⟩] w fun e w' => ∃ u' F', e = .returned (.bool (moreU u.unit.srv word r).2) ∧ u'.srv = (moreU u.unit.srv word r).1 ∧ u'.n ≤ u.unit.n + 1 ∧ u'.n2 ≤ u.unit.n2 + 1 ∧
      BldA w' F' (some ⟨g, 0, none⟩) n c (m ++ [⟨u.kind, u.name, u.file, u'⟩]) ∧ Step w w' F F' ∧ (∀ k, F' k → F k ∨ (w.heap.size ≤ k ∧ k < w'.heap.size)) := by
  obtain ⟨_, g', hg, k1, k2, k3, k4⟩ := h.last
  injection hg with hg
  injection hg with hg
  subst hg
  by_cases e1 : word = wRun
  · subst e1
    refine (more_run r (k3 6 (by decide)) (k4 _)).mono ?_
    rintro e w' ⟨rfl, rfl⟩
    refine ⟨⟨u.unit.name, r, u.unit.req, u.unit.A, u.unit.n, u.unit.c, u.unit.aft, u.unit.A2, u.unit.n2, u.unit.c2⟩, F, rfl, rfl, Nat.le_succ _, Nat.le_succ _, h.start r, (Step.refl w F).setCell (.inl k1) _, fun k hk => .inl hk⟩
  by_cases e2 : word = wReq
  · subst e2
    obtain ⟨A', c', w1, r1, r2, r3, _, r4⟩ := h.req r h1
    obtain ⟨cur, fr, hcu⟩ := row_typed h.own.row g rfl
    have hk := r4 g cur fr _ (by decide) hcu
    refine (more_req r (k3 7 (by decide)) r1 (x := .slice u.unit.A u.unit.n u.unit.c) ?_ ?_).mono ?_
    · rw [World.cell?_of_block (w := w) hk]; exact k3 7 (by decide)
    · rw [World.frozen?_of_block (w := w) hk]; exact k4 _
    · rintro e w' ⟨rfl, rfl⟩
      refine ⟨⟨u.unit.name, u.unit.start, u.unit.req ++ [r], A', u.unit.n + 1, c', u.unit.aft, u.unit.A2, u.unit.n2, u.unit.c2⟩, Fn F w w1, rfl, ?_, Nat.le_refl _, Nat.le_succ _, r2, r3.setCell (.inl k1) _, fun k hk => ?_⟩
      · unfold moreU
        rw [if_neg (by decide), if_pos rfl]
        rfl
      · rcases hk with hk | hk
        · exact .inl hk
        · exact .inr ⟨hk.1, by simpa using hk.2⟩
  by_cases e3 : word = wAft
  · subst e3
    obtain ⟨A', c', w1, r1, r2, r3, _, r4⟩ := h.aft r h2
    obtain ⟨cur, fr, hcu⟩ := row_typed h.own.row g rfl
    have hk := r4 g cur fr _ (by decide) hcu
    refine (more_aft r (k3 8 (by decide)) r1 (x := .slice u.unit.A2 u.unit.n2 u.unit.c2) ?_ ?_).mono ?_
    · rw [World.cell?_of_block (w := w) hk]; exact k3 8 (by decide)
    · rw [World.frozen?_of_block (w := w) hk]; exact k4 _
    · rintro e w' ⟨rfl, rfl⟩
      refine ⟨⟨u.unit.name, u.unit.start, u.unit.req, u.unit.A, u.unit.n, u.unit.c, u.unit.aft ++ [r], A', u.unit.n2 + 1, c'⟩, Fn F w w1, rfl, ?_, Nat.le_succ _, Nat.le_refl _, r2, r3.setCell (.inl k1) _, fun k hk => ?_⟩
      · unfold moreU
        rw [if_neg (by decide), if_neg (by decide), if_pos rfl]
        rfl
      · rcases hk with hk | hk
        · exact .inl hk
        · exact .inr ⟨hk.1, by simpa using hk.2⟩
  · refine (more_none word r e1 e2 e3).mono ?_
    rintro e w' ⟨rfl, hw⟩
    obtain rfl := hw.symm
    have hm : moreU u.unit.srv word r = (u.unit.srv, false) := by unfold moreU; rw [if_neg e1, if_neg e2, if_neg e3]
    rw [hm]
    exact ⟨u.unit, F, rfl, rfl, Nat.le_succ _, Nat.le_succ _, h, Step.refl w F, fun k hk => .inl hk⟩
end Go.Proofs.YtibndaianhlcaaaGreatDoor
namespace Go.Proofs.YtibndaianhlcaaaGreatDoor
open Go.RowKit Go.Sort
set_option linter.unusedVariables false
set_option linter.unusedSimpArgs false

theorem heap_new2 (w : World) (o1 o2 : Obj) : ((w.alloc o1).alloc o2).drew.heap[w.heap.size + 1]? = some o2 := by
  have h := heap_alloc_new (w.alloc o1) o2
  rw [World.size_alloc] at h
  exact h
/-- A slice of a slice. -/
def CutS (ty : TypeId) (x : Value) (lo hi mx : Option Value) : Sem Value := Instr.slice ty x lo hi mx
def headG (A : Option Addr) (n c k : Nat) : Value := .slice (if c = 0 then A else A.map (·.add 0)) k c
def tailG (A : Option Addr) (n c k sz : Nat) : Value := .slice (if c = k then A else A.map (·.add (k * sz))) (n - k) (c - k)
/-- Rows of elements of type e. -/
structure RowT (t e : TypeId) (sz : Nat) : Prop where
  und : Tryz.prog.underlying t = some (.slice e)
  size : (Tryz.prog.info? e).map (·.size) = some sz
  pos : 0 < sz
  app : ∀ {w : World} {base : Nat} {v : Value} {n : Nat} {xs : List Value} {B : Nat} {A : Option Addr} {m c : Nat} {ys : List Value}, w.ownsRow base e sz v n xs → Slc w B sz A m c ys → (∀ u ∈ ys, u.oneCell' = true) → n + m ≤ 1000000000 → base ≤ w.heap.size →
    ∃ A' c' w', (Builtin.append_ #[t, t] t #[v, .slice A m c]).run Tryz.prog w = .ok (.slice A' (n + m) c') w' ∧ w'.ownsRow base e sz (.slice A' (n + m) c') (n + m) (xs ++ ys) ∧ w.grownBy w' v.ownBlock ∧ ((Value.slice A' (n + m) c').ownBlock = v.ownBlock ∨ (Value.slice A' (n + m) c').ownBlock = some w.heap.size)
theorem cut_low {t e : TypeId} {sz : Nat} (T : RowT t e sz) {A : Option Addr} {n c k : Nat} {z : Int} (hz : z = (k : Int)) (hk : k ≤ c) (W : World) : (CutS t (.slice A n c) none (some (.int .i64 z)) none).run Tryz.prog W = .ok (headG A n c k) W := by
  subst hz
  have hs := T.size
  unfold CutS headG
  cases hq : Tryz.prog.info? e with
  | none => rw [hq] at hs; cases hs
  | some i => simp [Instr.slice, Instr.sliceBounds, Instr.sliceBound, run_underlying T.und, sizeOf, typeInfo, hq, asIntOf, hk]
theorem cut_high {t e : TypeId} {sz : Nat} (T : RowT t e sz) {A : Option Addr} {n c k : Nat} {z : Int} (hz : z = (k : Int)) (hk : k ≤ n) (W : World) : (CutS t (.slice A n c) (some (.int .i64 z)) none none).run Tryz.prog W = .ok (tailG A n c k sz) W := by
  subst hz
  have hs := T.size
  unfold CutS tailG
  cases hq : Tryz.prog.info? e with
  | none => rw [hq] at hs; cases hs
  | some i =>
    have hi : i.size = sz := by rw [hq] at hs; simpa using hs
    simp [Instr.slice, Instr.sliceBounds, Instr.sliceBound, run_underlying T.und, sizeOf, typeInfo, hq, hi, asIntOf, hk]
theorem head_slc {w : World} {B sz : Nat} {A : Option Addr} {n c : Nat} {xs : List Value} (h : Slc w B sz A n c xs) {k : Nat} (hk : k ≤ n) : ∃ A', headG A n c k = .slice A' k c ∧ Slc w B sz A' k c (xs.take (k * sz)) := by
  refine ⟨_, rfl, ⟨by rw [List.length_take, h.len]; exact Nat.min_eq_left (Nat.mul_le_mul_right _ hk), Nat.le_trans hk h.le, h.cmax, fun hp => ?_⟩⟩
  obtain ⟨b, off, e, hb, hc⟩ := h.at_ (by omega)
  subst e
  have hle := h.le
  refine ⟨b, off, by rw [if_neg (by omega)]; simp [addr_of_add], hb, fun j u hu => hc j u ?_⟩
  rw [List.getElem?_take] at hu
  split at hu
  · exact hu
  · cases hu
theorem tail_slc {w : World} {B sz : Nat} {A : Option Addr} {n c : Nat} {xs : List Value} (h : Slc w B sz A n c xs) {k : Nat} (hk : k ≤ n) : ∃ A' c', tailG A n c k sz = .slice A' (n - k) c' ∧ Slc w B sz A' (n - k) c' (xs.drop (k * sz)) := by
  have hle := h.le
  have hcm := h.cmax
  refine ⟨_, _, rfl, ⟨by rw [List.length_drop, h.len, Nat.sub_mul], by omega, by omega, fun hp => ?_⟩⟩
  obtain ⟨b, off, e, hb, hc⟩ := h.at_ (by omega)
  subst e
  refine ⟨b, off + k * sz, by rw [if_neg (by omega)]; simp [addr_of_add], hb, fun j u hu => ?_⟩
  rw [Nat.add_assoc]
  exact hc (k * sz + j) u (by rwa [List.getElem?_drop] at hu)
theorem empty_row (W : World) (e : TypeId) (sz base x : Nat) (hx : W.heap[x]? = some (.cells #[] e (0, 0))) (hb : base ≤ x) : W.ownsRow base e sz (.slice (some ⟨x, 0, none⟩) 0 0) 0 [] := ⟨by simp, .inr ⟨x, 0, #[], rfl, hb, hx, Nat.le_refl _, Nat.zero_le _, by simp, by simp⟩⟩
/-- append([]T{}, part...), at whatever block the empty row is. -/
theorem put_one {t e : TypeId} {sz : Nat} (T : RowT t e sz) {w W : World} {A : Option Addr} {k c : Nat} {ys : List Value} {B : Nat} (h : Slc w B sz A k c ys) (hB : B ≤ w.heap.size) (h1 : ∀ u ∈ ys, u.oneCell' = true) (hn : k ≤ 1000000000) {x : Nat} (hb : Below w.heap.size w W) (hx : W.heap[x]? = some (.cells #[] e (0, 0))) (hxb : w.heap.size ≤ x) :
    ∃ A1 c1 w1, (Builtin.append_ #[t, t] t #[.slice (some ⟨x, 0, none⟩) 0 0, .slice A k c]).run Tryz.prog W = .ok (.slice A1 k c1) w1 ∧ w1.ownsRow w.heap.size e sz (.slice A1 k c1) k ys ∧ Below w.heap.size w w1 ∧ (∀ y, y < W.heap.size → y ≠ x → w1.heap[y]? = W.heap[y]?) ∧ W.heap.size ≤ w1.heap.size := by
  obtain ⟨A', c', w', r, o, g, _⟩ := T.app (empty_row W e sz w.heap.size x hx hxb) (h.below (hb.mono hB)) h1 (by omega) hb.size
  rw [Nat.zero_add] at r o
  rw [List.nil_append] at o
  exact ⟨A', c', w', r, o, hb.grown g hb.size (fun q hq => by simp [Value.ownBlock] at hq; omega), fun y hy hne => g.block y hy (fun e => by simp [Value.ownBlock] at e; omega), g.size⟩
/-- A further part behind. -/
theorem put_more {t e : TypeId} {sz : Nat} (T : RowT t e sz) {w W : World} {A : Option Addr} {m c : Nat} {xs ys : List Value} {B : Nat} (h : Slc w B sz A m c ys) (hB : B ≤ w.heap.size) (h1 : ∀ u ∈ ys, u.oneCell' = true) {k : Nat} (hn : k + m ≤ 1000000000) {A1 : Option Addr} {c1 : Nat} (hb : Below w.heap.size w W) (ho : W.ownsRow w.heap.size e sz (.slice A1 k c1) k xs) :
    ∃ A2 c2 w2, (Builtin.append_ #[t, t] t #[.slice A1 k c1, .slice A m c]).run Tryz.prog W = .ok (.slice A2 (k + m) c2) w2 ∧ w2.ownsRow w.heap.size e sz (.slice A2 (k + m) c2) (k + m) (xs ++ ys) ∧ Below w.heap.size w w2 := by
  obtain ⟨A', c', w', r, o, g, _⟩ := T.app ho (h.below (hb.mono hB)) h1 hn hb.size
  exact ⟨A', c', w', r, o, hb.grown g hb.size (fun q hq => (ho.lt q hq).1)⟩
/-- An element of the call's own behind. -/
theorem put_new {t e : TypeId} {sz : Nat} (T : RowT t e sz) {w W : World} {xs : List Value} {xc : Array Value} (hxc : xc.size = sz) (h1 : ∀ u ∈ xc.toList, u.oneCell' = true) {k : Nat} (hn : k + 1 ≤ 1000000000) {A1 : Option Addr} {c1 y : Nat} (hb : Below w.heap.size w W) (ho : W.ownsRow w.heap.size e sz (.slice A1 k c1) k xs) (hy : Blk W y e xc) :
    ∃ A2 c2 w2, (Builtin.append_ #[t, t] t #[.slice A1 k c1, .slice (some ⟨y, 0, none⟩) 1 1]).run Tryz.prog W = .ok (.slice A2 (k + 1) c2) w2 ∧ w2.ownsRow w.heap.size e sz (.slice A2 (k + 1) c2) (k + 1) (xs ++ xc.toList) ∧ Below w.heap.size w w2 := by
  have hs := hy.slc (sz := sz) (n := 1) (c := 1) (by omega) (Nat.le_refl _) (by decide)
  rw [Nat.one_mul, List.take_of_length_le (by rw [Array.length_toList]; omega)] at hs
  obtain ⟨A', c', w', r, o, g, _⟩ := T.app ho hs h1 hn hb.size
  exact ⟨A', c', w', r, o, hb.grown g hb.size (fun q hq => (ho.lt q hq).1)⟩
/-- append(append([]T{}, l[:k]...), l[k+1:]...). -/
structure Era (w : World) (t e : TypeId) (sz : Nat) (A : Option Addr) (n c k : Nat) (xs : List Value) (A1 : Option Addr) (c1 : Nat) (w1 : World) (A2 : Option Addr) (c2 : Nat) (w2 : World) : Prop where
  r1 : (Builtin.append_ #[t, t] t #[.slice (some ⟨w.heap.size, 0, none⟩) 0 0, headG A n c k]).run Tryz.prog (w.alloc (.cells #[] e)).drew = .ok (.slice A1 k c1) w1
  r2 : (Builtin.append_ #[t, t] t #[.slice A1 k c1, tailG A n c (k + 1) sz]).run Tryz.prog w1 = .ok (.slice A2 (n - 1) c2) w2
  own : w2.ownsRow w.heap.size e sz (.slice A2 (n - 1) c2) (n - 1) (xs.take (k * sz) ++ xs.drop ((k + 1) * sz))
  bel1 : Below w.heap.size w w1
  bel : Below w.heap.size w w2
theorem era_run {t e : TypeId} {sz : Nat} (T : RowT t e sz) {w : World} {A : Option Addr} {n c : Nat} {xs : List Value} {B : Nat} (h : Slc w B sz A n c xs) (hB : B ≤ w.heap.size) (h1 : ∀ u ∈ xs, u.oneCell' = true) (hn : n ≤ 1000000000) {k : Nat} (hk : k < n) : ∃ A1 c1 w1 A2 c2 w2, Era w t e sz A n c k xs A1 c1 w1 A2 c2 w2 := by
  have hb : Below w.heap.size w (w.alloc (.cells #[] e)).drew := ((Below.refl _ w).alloc (Nat.le_refl _) _).drew
  obtain ⟨Ah, eh, hh⟩ := head_slc h (Nat.le_of_lt hk)
  obtain ⟨At, ct, et, ht⟩ := tail_slc h (show k + 1 ≤ n from hk)
  obtain ⟨A1, c1, w1, r1, o1, b1, _, _⟩ := put_one T hh hB (fun u hu => h1 u (List.mem_of_mem_take hu)) (by omega) hb (heap_alloc_new w _) (Nat.le_refl _)
  obtain ⟨A2, c2, w2, r2, o2, b2⟩ := put_more T ht hB (fun u hu => h1 u (List.mem_of_mem_drop hu)) (by omega) b1 o1
  rw [show k + (n - (k + 1)) = n - 1 by omega] at r2 o2
  exact ⟨A1, c1, w1, A2, c2, w2, by rw [eh]; exact r1, by rw [et]; exact r2, o2, b1, b2⟩
/-- The three orders of append(append(append([]T{}, l[:k]...), x), l[k:]...). -/
structure Put3 (w : World) (t e : TypeId) (sz : Nat) (A : Option Addr) (n c k : Nat) (xc : Array Value) (xs : List Value) (W : World) (x y : Nat) (A1 : Option Addr) (c1 : Nat) (w1 w1' : World) (A2 : Option Addr) (c2 : Nat) (w2 : World) (A3 : Option Addr) (c3 : Nat) (w3 : World) : Prop where
  r1 : (Builtin.append_ #[t, t] t #[.slice (some ⟨x, 0, none⟩) 0 0, headG A n c k]).run Tryz.prog W = .ok (.slice A1 k c1) w1
  r2 : (Builtin.append_ #[t, t] t #[.slice A1 k c1, .slice (some ⟨y, 0, none⟩) 1 1]).run Tryz.prog w1' = .ok (.slice A2 (k + 1) c2) w2
  r3 : (Builtin.append_ #[t, t] t #[.slice A2 (k + 1) c2, tailG A n c k sz]).run Tryz.prog w2 = .ok (.slice A3 (n + 1) c3) w3
  own : w3.ownsRow w.heap.size e sz (.slice A3 (n + 1) c3) (n + 1) (xs.take (k * sz) ++ xc.toList ++ xs.drop (k * sz))
  bel1 : Below w.heap.size w w1
  bel2 : Below w.heap.size w w2
  bel : Below w.heap.size w w3
section
variable {t e : TypeId} {sz : Nat} (T : RowT t e sz) {w : World} {A : Option Addr} {n c : Nat} {xs : List Value} {B : Nat} (h : Slc w B sz A n c xs) (hB : B ≤ w.heap.size) (h1 : ∀ u ∈ xs, u.oneCell' = true) (hn : n ≤ 1000000) {k : Nat} (hk : k ≤ n) {xc : Array Value} (hxc : xc.size = sz) (h2 : ∀ u ∈ xc.toList, u.oneCell' = true)
include T h hB h1 hn hk hxc h2
theorem put3_end {W w1 w1' : World} {x y : Nat} {A1 : Option Addr} {c1 : Nat} (r1 : (Builtin.append_ #[t, t] t #[.slice (some ⟨x, 0, none⟩) 0 0, headG A n c k]).run Tryz.prog W = .ok (.slice A1 k c1) w1) (b1 : Below w.heap.size w w1) (b1' : Below w.heap.size w w1') (o1 : w1'.ownsRow w.heap.size e sz (.slice A1 k c1) k (xs.take (k * sz))) (hy : Blk w1' y e xc) :
    ∃ A2 c2 w2 A3 c3 w3, Put3 w t e sz A n c k xc xs W x y A1 c1 w1 w1' A2 c2 w2 A3 c3 w3 := by
  obtain ⟨At, ct, et, ht⟩ := tail_slc h hk
  obtain ⟨A2, c2, w2, r2, o2, b2⟩ := put_new T hxc h2 (by omega) b1' o1 hy
  obtain ⟨A3, c3, w3, r3, o3, b3⟩ := put_more T ht hB (fun u hu => h1 u (List.mem_of_mem_drop hu)) (by omega) b2 o2
  rw [show k + 1 + (n - k) = n + 1 by omega] at r3 o3
  exact ⟨A2, c2, w2, A3, c3, w3, r1, r2, by rw [et]; exact r3, o3, b1, b2, b3⟩
theorem put3_a : ∃ A1 c1 w1 A2 c2 w2 A3 c3 w3, Put3 w t e sz A n c k xc xs ((w.alloc (.cells xc e)).alloc (.cells #[] e)).drew (w.heap.size + 1) w.heap.size A1 c1 w1 w1 A2 c2 w2 A3 c3 w3 := by
  have hb : Below w.heap.size w ((w.alloc (.cells xc e)).alloc (.cells #[] e)).drew := (((Below.refl _ w).alloc (Nat.le_refl _) _).alloc (by simp) _).drew
  obtain ⟨Ah, eh, hh⟩ := head_slc h hk
  obtain ⟨A1, c1, w1, r1, o1, b1, k1, _⟩ := put_one T hh hB (fun u hu => h1 u (List.mem_of_mem_take hu)) (by omega) hb (x := w.heap.size + 1) (heap_new2 w _ _) (by omega)
  have hy : Blk w1 w.heap.size e xc := by
    unfold Blk
    rw [k1 w.heap.size (by simp; omega) (by omega)]
    show ((w.alloc (.cells xc e)).alloc (.cells #[] e)).heap[w.heap.size]? = _
    rw [Below.heap_alloc _ _ _ (by simp)]
    exact heap_alloc_new w _
  obtain ⟨A2, c2, w2, A3, c3, w3, S⟩ := put3_end T h hB h1 hn hk hxc h2 (by rw [eh]; exact r1) b1 b1 o1 hy
  exact ⟨A1, c1, w1, A2, c2, w2, A3, c3, w3, S⟩
theorem put3_b : ∃ A1 c1 w1 A2 c2 w2 A3 c3 w3, Put3 w t e sz A n c k xc xs ((w.alloc (.cells #[] e)).alloc (.cells xc e)).drew w.heap.size (w.heap.size + 1) A1 c1 w1 w1 A2 c2 w2 A3 c3 w3 := by
  have hb : Below w.heap.size w ((w.alloc (.cells #[] e)).alloc (.cells xc e)).drew := (((Below.refl _ w).alloc (Nat.le_refl _) _).alloc (by simp) _).drew
  obtain ⟨Ah, eh, hh⟩ := head_slc h hk
  obtain ⟨A1, c1, w1, r1, o1, b1, k1, _⟩ := put_one T hh hB (fun u hu => h1 u (List.mem_of_mem_take hu)) (by omega) hb (x := w.heap.size) (by
    show ((w.alloc (.cells #[] e)).alloc (.cells xc e)).heap[w.heap.size]? = _
    rw [Below.heap_alloc _ _ _ (by simp)]; exact heap_alloc_new w _) (Nat.le_refl _)
  have hy : Blk w1 (w.heap.size + 1) e xc := by
    unfold Blk
    rw [k1 (w.heap.size + 1) (by simp) (by omega)]
    exact heap_new2 w _ _
  obtain ⟨A2, c2, w2, A3, c3, w3, S⟩ := put3_end T h hB h1 hn hk hxc h2 (by rw [eh]; exact r1) b1 b1 o1 hy
  exact ⟨A1, c1, w1, A2, c2, w2, A3, c3, w3, S⟩
theorem put3_c : ∃ A1 c1 w1 A2 c2 w2 A3 c3 w3, Put3 w t e sz A n c k xc xs (w.alloc (.cells #[] e)).drew w.heap.size w1.heap.size A1 c1 w1 (w1.alloc (.cells xc e)) A2 c2 w2 A3 c3 w3 := by
  have hb : Below w.heap.size w (w.alloc (.cells #[] e)).drew := ((Below.refl _ w).alloc (Nat.le_refl _) _).drew
  obtain ⟨Ah, eh, hh⟩ := head_slc h hk
  obtain ⟨A1, c1, w1, r1, o1, b1, _, _⟩ := put_one T hh hB (fun u hu => h1 u (List.mem_of_mem_take hu)) (by omega) hb (x := w.heap.size) (heap_alloc_new w _) (Nat.le_refl _)
  obtain ⟨A2, c2, w2, A3, c3, w3, S⟩ := put3_end T h hB h1 hn hk hxc h2 (by rw [eh]; exact r1) b1 (b1.alloc b1.size (.cells xc e)) (o1.alloc _) (Blk.new w1 _ _)
  exact ⟨A1, c1, w1, A2, c2, w2, A3, c3, w3, S⟩
end
/-- The three orders of append(append([]T{}, l...), x). -/
structure Put2 (w : World) (t e : TypeId) (sz : Nat) (A : Option Addr) (n c : Nat) (xc : Array Value) (xs : List Value) (W : World) (x y : Nat) (A1 : Option Addr) (c1 : Nat) (w1 w1' : World) (A2 : Option Addr) (c2 : Nat) (w2 : World) : Prop where
  r1 : (Builtin.append_ #[t, t] t #[.slice (some ⟨x, 0, none⟩) 0 0, .slice A n c]).run Tryz.prog W = .ok (.slice A1 n c1) w1
  r2 : (Builtin.append_ #[t, t] t #[.slice A1 n c1, .slice (some ⟨y, 0, none⟩) 1 1]).run Tryz.prog w1' = .ok (.slice A2 (n + 1) c2) w2
  own : w2.ownsRow w.heap.size e sz (.slice A2 (n + 1) c2) (n + 1) (xs ++ xc.toList)
  bel1 : Below w.heap.size w w1
  bel : Below w.heap.size w w2
section
variable {t e : TypeId} {sz : Nat} (T : RowT t e sz) {w : World} {A : Option Addr} {n c : Nat} {xs : List Value} {B : Nat} (h : Slc w B sz A n c xs) (hB : B ≤ w.heap.size) (h1 : ∀ u ∈ xs, u.oneCell' = true) (hn : n ≤ 1000000) {xc : Array Value} (hxc : xc.size = sz) (h2 : ∀ u ∈ xc.toList, u.oneCell' = true)
include T h hB h1 hn hxc h2
theorem put2_a : ∃ A1 c1 w1 A2 c2 w2, Put2 w t e sz A n c xc xs ((w.alloc (.cells xc e)).alloc (.cells #[] e)).drew (w.heap.size + 1) w.heap.size A1 c1 w1 w1 A2 c2 w2 := by
  have hb : Below w.heap.size w ((w.alloc (.cells xc e)).alloc (.cells #[] e)).drew := (((Below.refl _ w).alloc (Nat.le_refl _) _).alloc (by simp) _).drew
  obtain ⟨A1, c1, w1, r1, o1, b1, k1, _⟩ := put_one T h hB h1 (by omega) hb (x := w.heap.size + 1) (heap_new2 w _ _) (by omega)
  have hy : Blk w1 w.heap.size e xc := by
    unfold Blk
    rw [k1 w.heap.size (by simp; omega) (by omega)]
    show ((w.alloc (.cells xc e)).alloc (.cells #[] e)).heap[w.heap.size]? = _
    rw [Below.heap_alloc _ _ _ (by simp)]
    exact heap_alloc_new w _
  obtain ⟨A2, c2, w2, r2, o2, b2⟩ := put_new T hxc h2 (by omega) b1 o1 hy
  exact ⟨A1, c1, w1, A2, c2, w2, r1, r2, o2, b1, b2⟩
theorem put2_b : ∃ A1 c1 w1 A2 c2 w2, Put2 w t e sz A n c xc xs ((w.alloc (.cells #[] e)).alloc (.cells xc e)).drew w.heap.size (w.heap.size + 1) A1 c1 w1 w1 A2 c2 w2 := by
  have hb : Below w.heap.size w ((w.alloc (.cells #[] e)).alloc (.cells xc e)).drew := (((Below.refl _ w).alloc (Nat.le_refl _) _).alloc (by simp) _).drew
  obtain ⟨A1, c1, w1, r1, o1, b1, k1, _⟩ := put_one T h hB h1 (by omega) hb (x := w.heap.size) (by
    show ((w.alloc (.cells #[] e)).alloc (.cells xc e)).heap[w.heap.size]? = _
    rw [Below.heap_alloc _ _ _ (by simp)]; exact heap_alloc_new w _) (Nat.le_refl _)
  have hy : Blk w1 (w.heap.size + 1) e xc := by
    unfold Blk
    rw [k1 (w.heap.size + 1) (by simp) (by omega)]
    exact heap_new2 w _ _
  obtain ⟨A2, c2, w2, r2, o2, b2⟩ := put_new T hxc h2 (by omega) b1 o1 hy
  exact ⟨A1, c1, w1, A2, c2, w2, r1, r2, o2, b1, b2⟩
theorem put2_c : ∃ A1 c1 w1 A2 c2 w2, Put2 w t e sz A n c xc xs (w.alloc (.cells #[] e)).drew w.heap.size w1.heap.size A1 c1 w1 (w1.alloc (.cells xc e)) A2 c2 w2 := by
  have hb : Below w.heap.size w (w.alloc (.cells #[] e)).drew := ((Below.refl _ w).alloc (Nat.le_refl _) _).drew
  obtain ⟨A1, c1, w1, r1, o1, b1, _, _⟩ := put_one T h hB h1 (by omega) hb (x := w.heap.size) (heap_alloc_new w _) (Nat.le_refl _)
  obtain ⟨A2, c2, w2, r2, o2, b2⟩ := put_new T hxc h2 (by omega) (b1.alloc b1.size (.cells xc e)) (o1.alloc _) (Blk.new w1 _ _)
  exact ⟨A1, c1, w1, A2, c2, w2, r1, r2, o2, b1, b2⟩
end
theorem rowT_of {t e : TypeId} {sz bytes : Nat} {z : Value} (hu : Tryz.prog.underlying t = some (.slice e)) (hinfo : (Tryz.prog.info? e).map (fun i => (i.zero, i.size, i.bytes)) = some (some z, sz, bytes)) (hz : z.cells.size = sz) (hp : 0 < sz) (hby : bytes ≤ 100) (hpos : 0 < bytes) (hbs : bytes * 1000000000 ≤ 140737488355328) : RowT t e sz := by
  obtain ⟨i, hi, hz0, hz1, hz2⟩ := info_parts hinfo
  refine ⟨hu, by rw [hi]; simp [hz1], hp, fun {w base v n xs B A m c ys} ho hs h1 hn hb => ?_⟩
  exact append_slc (P := Tryz.prog) w base t t e i z sz bytes hu hi hz0 hz1 hz2 hz hp v n xs ho B A m c ys hs h1 (by unfold maxLen; omega) (Nat.le_trans (Nat.mul_le_mul_right _ hn) (by omega)) hb
end Go.Proofs.YtibndaianhlcaaaGreatDoor
