/- Lists of entries in memory of the call's own. Marks: great operations stay closed in a walk; what each gives is laid as an equation. A machine in memory. Results that are structs; stores beside what is owned. -/
import Derived.Test.YtibndaianhlcaaaGreatDoorPart10
import Derived.Test.YtibndaianhlcaaaGreatDoorPart5
import Derived.StillTailTactics
import Derived.Laws.CopyOwn
import Derived.Deep.WholeRow
import Derived.Test.YtibndaianhlcaaaGreatDoorPart3
namespace Go.Proofs.YtibndaianhlcaaaGreatDoor
open Go.RowKit Go.Shelf
set_option linter.unusedVariables false
set_option linter.unusedSimpArgs false

theorem ent_info : (Tryz.prog.info? 35).map (fun i => (i.zero, i.size, i.bytes)) = some (some (.agg #[.string .empty, .int .i64 0, .slice none 0 0]), 3, 48) := by kernel_rfl
theorem evCells_one (es : List EV) : ∀ u ∈ es.flatMap evCells, u.oneCell' = true := by
  intro u hu
  obtain ⟨e, _, he⟩ := List.mem_flatMap.1 hu
  simp only [evCells, List.mem_cons, List.not_mem_nil, or_false] at he
  rcases he with rfl | rfl | rfl <;> rfl
/-- A block of bytes that may be written. -/
def FreeB (w : World) (g : Nat) : Prop := ∃ cur, w.heap[g]? = some (.cells cur 5 (0, 0))
theorem FreeB.of {w w' : World} {g : Nat} (h : FreeB w g) (hb : w'.heap[g]? = w.heap[g]?) : FreeB w' g := by
  obtain ⟨c, hc⟩ := h
  exact ⟨c, hb.trans hc⟩
theorem FreeB.set_ {w : World} {g : Nat} (h : FreeB w g) (p : Addr) (u : Value) : FreeB (w.setCell p u) g := by
  obtain ⟨c, hc⟩ := h
  by_cases e : p.block = g
  · subst e
    cases hs : p.spot with
    | none => exact ⟨c.setIfInBounds p.off u, by simp [World.setCell, Array.getElem?_modify, hc, hs]⟩
    | some i => exact ⟨c, by simp [World.setCell, Array.getElem?_modify, hc, hs]⟩
  · refine ⟨c, (Below.heap_setCell w p u g (fun e' => e e'.symm)).trans hc⟩
theorem FreeB.own {w : World} {base : Nat} {g n c : Nat} {xs : List Value} (h : w.ownsRow base 5 1 (.slice (some ⟨g, 0, none⟩) n c) n xs) : FreeB w g := by
  rcases h.2 with ⟨e, _⟩ | ⟨g', cap, cur, e, _, h2, _⟩
  · injection e with e; cases e
  · injection e with e
    injection e with e
    injection e with e
    subst e
    exact ⟨cur, h2⟩
/-- Entries in memory of the call's own, each one's bytes in a block of their own. -/
structure OwnEnts (w : World) (base : Nat) (v : Value) (n : Nat) (es : List EV) : Prop where
  own : w.ownsRow base 35 3 v n (es.flatMap evCells)
  slc : ∀ e ∈ es, Slc w w.heap.size 1 e.A e.n e.c (e.data.map bv)
  data : ∀ e ∈ es, ∃ g, e.A = some ⟨g, 0, none⟩ ∧ base ≤ g ∧ g < w.heap.size ∧ v.ownBlock ≠ some g
  free : ∀ e ∈ es, ∀ g, e.A = some ⟨g, 0, none⟩ → FreeB w g
theorem OwnEnts.len {w : World} {base : Nat} {v : Value} {n : Nat} {es : List EV} (h : OwnEnts w base v n es) : es.length = n := by
  have := h.own.1
  rw [flatMap_len evCells 3 es (fun o _ => evCells_length o)] at this
  omega
theorem OwnEnts.nil (w : World) (base : Nat) : OwnEnts w base (.slice none 0 0) 0 [] := ⟨World.ownsRow_nil _ _ _ _, (fun e he => by cases he), (fun e he => by cases he), (fun e he => by cases he)⟩
theorem OwnEnts.below {w w' : World} {base : Nat} {v : Value} {n : Nat} {es : List EV} (h : OwnEnts w base v n es) (hb : Below w.heap.size w w') : OwnEnts w' base v n es :=
  ⟨own_below h.own hb, fun e he => ((h.slc e he).below hb).more hb.size, fun e he => by
    obtain ⟨g, h1, h2, h3, h4⟩ := h.data e he
    exact ⟨g, h1, h2, Nat.lt_of_lt_of_le h3 hb.size, h4⟩, fun e he g hg => by
    obtain ⟨g', h1, h2, h3, h4⟩ := h.data e he
    rw [hg] at h1
    injection h1 with h1
    injection h1 with h1
    subst h1
    exact (h.free e he g hg).of (hb.block g h3)⟩
theorem OwnEnts.ents {w : World} {base : Nat} {A : Option Addr} {n c : Nat} {es : List EV} (h : OwnEnts w base (.slice A n c) n es) : EntsAt w w.heap.size A n c es :=
  ⟨own_slc_of h.own, h.len, h.slc⟩
/-- append of an entry whose bytes lie in a block of their own. -/
theorem OwnEnts.append {w : World} {base : Nat} {v : Value} {n : Nat} {es : List EV} (h : OwnEnts w base v n es) (e : EV) (hS : Slc w w.heap.size 1 e.A e.n e.c (e.data.map bv)) (hg : ∃ g, e.A = some ⟨g, 0, none⟩ ∧ base ≤ g ∧ g < w.heap.size ∧ v.ownBlock ≠ some g) (hf : ∀ g, e.A = some ⟨g, 0, none⟩ → FreeB w g)
    (hn : n ≤ 1000000000) (hbase : base ≤ w.heap.size) :
    ∃ A' c' w', (Builtin.append_ #[22, 22] 22 #[v, .slice (some ⟨w.heap.size, 0, none⟩) 1 1]).run Tryz.prog (w.alloc (.cells #[.string ⟨e.path.toArray⟩, .int .i64 e.kind, .slice e.A e.n e.c] 35)) = .ok (.slice A' (n + 1) c') w' ∧
      OwnEnts w' base (.slice A' (n + 1) c') (n + 1) (es ++ [e]) ∧ (w.alloc (.cells #[.string ⟨e.path.toArray⟩, .int .i64 e.kind, .slice e.A e.n e.c] 35)).grownBy w' v.ownBlock ∧
      ((Value.slice A' (n + 1) c').ownBlock = v.ownBlock ∨ (Value.slice A' (n + 1) c').ownBlock = some (w.heap.size + 1)) := by
  obtain ⟨i, hi, hz0, hz1, hz2⟩ := info_parts ent_info
  have hs := slc_new w 35 (0, 0) #[.string ⟨e.path.toArray⟩, .int .i64 e.kind, .slice e.A e.n e.c] (sz := 3) (n := 1) (c := 1) rfl (Nat.le_refl _) (by decide)
  obtain ⟨A', c', w', h1, h2, h3, h4⟩ := append_slc (P := Tryz.prog) (w.alloc (.cells #[.string ⟨e.path.toArray⟩, .int .i64 e.kind, .slice e.A e.n e.c] 35)) base 22 22 35 i _ 3 48 Tryz.underlying22 hi hz0 hz1 hz2 rfl (by decide) v n (es.flatMap evCells) (h.own.alloc _) _ _ 1 1 (evCells e) hs (fun u hu => evCells_one [e] u (by simpa using hu)) (by unfold maxLen; omega) (by omega) (by simp; omega)
  rw [World.size_alloc] at h4
  have hz : w.heap.size + 1 ≤ w'.heap.size := by have := h3.size; simpa using this
  have key : ∀ x : EV, Slc w w.heap.size 1 x.A x.n x.c (x.data.map bv) → (∃ g, x.A = some ⟨g, 0, none⟩ ∧ base ≤ g ∧ g < w.heap.size ∧ v.ownBlock ≠ some g) →
      Slc w' w'.heap.size 1 x.A x.n x.c (x.data.map bv) ∧ ∃ g, x.A = some ⟨g, 0, none⟩ ∧ base ≤ g ∧ g < w'.heap.size ∧ (Value.slice A' (n + 1) c').ownBlock ≠ some g := by
    rintro x hx ⟨g, g1, g2, g3, g4⟩
    refine ⟨⟨hx.len, hx.le, hx.cmax, fun hp => ?_⟩, g, g1, g2, by omega, fun e' => ?_⟩
    · obtain ⟨b, off, e1, hb, hc⟩ := hx.at_ hp
      rw [g1] at e1
      injection e1 with e1
      injection e1 with e1 e2
      subst e1 e2
      refine ⟨g, 0, g1, by omega, fun j u hu => ?_⟩
      have h5 : w'.heap[g]? = w.heap[g]? := (h3.block g (by simp; omega) (fun e => g4 e.symm)).trans (Below.heap_alloc w _ g g3)
      rw [World.cell?_of_block (w := w) (a := ⟨g, 0 + j, none⟩) h5]
      exact hc j u hu
    · rcases h4 with h4 | h4
      · rw [h4] at e'; exact g4 e'
      · rw [h4] at e'; injection e' with e'; omega
  have keyf : ∀ x : EV, (∃ g, x.A = some ⟨g, 0, none⟩ ∧ base ≤ g ∧ g < w.heap.size ∧ v.ownBlock ≠ some g) → (∀ g, x.A = some ⟨g, 0, none⟩ → FreeB w g) → ∀ g, x.A = some ⟨g, 0, none⟩ → FreeB w' g := by
    rintro x ⟨g, g1, g2, g3, g4⟩ hfx g' hg'
    have h6 := hfx g' hg'
    rw [g1] at hg'
    injection hg' with hg'
    injection hg' with hg'
    subst hg'
    refine h6.of ?_
    exact (h3.block g (by simp; omega) (fun e => g4 e.symm)).trans (Below.heap_alloc w _ g g3)
  refine ⟨A', c', w', h1, ⟨?_, fun x hx => ?_, fun x hx => ?_, fun x hx => ?_⟩, h3, h4⟩
  · rw [List.flatMap_append]
    simpa using h2
  · rcases List.mem_append.1 hx with hx | hx
    · exact (key x (h.slc x hx) (h.data x hx)).1
    · rw [List.mem_singleton.1 hx]; exact (key e hS hg).1
  · rcases List.mem_append.1 hx with hx | hx
    · exact (key x (h.slc x hx) (h.data x hx)).2
    · rw [List.mem_singleton.1 hx]; exact (key e hS hg).2
  · rcases List.mem_append.1 hx with hx | hx
    · exact keyf x (h.data x hx) (h.free x hx)
    · rw [List.mem_singleton.1 hx]; exact keyf e hg hf
theorem own_keep {w w' : World} {base : Nat} {e : TypeId} {sz : Nat} {v : Value} {n : Nat} {xs : List Value} (h : w.ownsRow base e sz v n xs) (hb : ∀ k, v.ownBlock = some k → w'.heap[k]? = w.heap[k]?) : w'.ownsRow base e sz v n xs := by
  refine ⟨h.1, ?_⟩
  rcases h.2 with hn | ⟨g, cap, cur, rfl, h1, h2, rest⟩
  · exact .inl hn
  · exact .inr ⟨g, cap, cur, rfl, h1, by rw [hb g rfl]; exact h2, rest⟩
/-- A store elsewhere. -/
theorem OwnEnts.set_ {w : World} {base : Nat} {v : Value} {n : Nat} {es : List EV} (h : OwnEnts w base v n es) {p : Addr} (hp : v.ownBlock ≠ some p.block) (hd : ∀ e ∈ es, ∀ g, e.A = some ⟨g, 0, none⟩ → g ≠ p.block) (u : Value) : OwnEnts (w.setCell p u) base v n es := by
  have hsz : (w.setCell p u).heap.size = w.heap.size := by simp [World.setCell]
  refine ⟨own_keep h.own (fun k hk => Below.heap_setCell w p u k (fun e => hp (by rw [hk, e]))), fun e he => ?_, fun e he => by rw [hsz]; exact h.data e he, fun e he g hg => (h.free e he g hg).set_ p u⟩
  obtain ⟨g, g1, g2, g3, g4⟩ := h.data e he
  have hx := h.slc e he
  refine ⟨hx.len, hx.le, hx.cmax, fun hn => ?_⟩
  obtain ⟨b, off, e1, hb, hc⟩ := hx.at_ hn
  rw [g1] at e1
  injection e1 with e1
  injection e1 with e1 e2
  subst e1 e2
  refine ⟨g, 0, g1, by rw [hsz]; exact hb, fun j w' hu => ?_⟩
  rw [World.cell?_of_block (w := w) (a := ⟨g, 0 + j, none⟩) (Below.heap_setCell w p u g (hd e he g g1))]
  exact hc j w' hu
end Go.Proofs.YtibndaianhlcaaaGreatDoor
namespace Go.Proofs.YtibndaianhlcaaaGreatDoor
open Go.RowKit

/-- A variable of several cells, read. -/
def LoadS (ty : TypeId) (x : Value) : Sem Value := Instr.loadAt ty x
/-- A variable of several cells, written. -/
def StoreS (ty : TypeId) (x v : Value) : Sem Unit := Instr.storeAt ty x v
def AllocS (ty : TypeId) : Sem Value := Instr.alloc ty true (.tuple #[])
def AppendS (t : Array TypeId) (ty : TypeId) (args : Array Value) : Sem Value := Builtin.append_ t ty args
def CopyS (t : Array TypeId) (ty : TypeId) (args : Array Value) : Sem Value := Builtin.copy_ t ty args
def ListS (ty : TypeId) (n : Nat) (parts : Array (Nat × Value)) : Sem Value := Instr.buildSlice ty n parts
def BuildS (ty : TypeId) (parts : Array (Nat × Value)) : Sem Value := Instr.build ty parts
def BoxS (ty : TypeId) (v : Value) : Sem Value := Instr.box ty v
def MakeS (ty : TypeId) (n c : Value) : Sem Value := Instr.makeSlice ty n c
def ConvS (t u : TypeId) (x : Value) : Sem Value := convert t u x

theorem appendS_mark (t : Array TypeId) (ty : TypeId) (args : Array Value) : Builtin.append_ t ty args = AppendS t ty args := rfl
theorem copyS_mark (t : Array TypeId) (ty : TypeId) (args : Array Value) : Builtin.copy_ t ty args = CopyS t ty args := rfl
theorem makeS_mark (ty : TypeId) (n c : Value) : Instr.makeSlice ty n c = MakeS ty n c := rfl

theorem LoadS.of_blk {P : Program} {w : World} {g o n : Nat} {ty t : TypeId} {cs : Array Value} {fr : Nat × Nat} {d : TypeDesc} (hb : w.heap[g]? = some (.cells cs t fr)) (hu : P.underlying ty = some d) (hd : d.isRow = true)
    (hi : (P.info? ty).map (·.size) = some n) (hle : o + n ≤ cs.size) : (LoadS ty (.pointer (some ⟨g, o, none⟩))).run P w = .ok (.agg (cs.extract o (o + n))) w := by
  have h := run_loadAt_mid (P := P) w g o ty (cs.extract o (o + n)).toList d (World.rangeAt_of_block hb o n) hu hd (by rw [hi]; simp; omega)
  rw [Array.toArray_toList] at h
  exact h

theorem StoreS.of_blk {P : Program} {w : World} {g o : Nat} {ty t : TypeId} {cs vs : Array Value} (hb : Blk w g t cs)
    (hi : (P.info? ty).map (·.size) = some vs.size) (hle : o + vs.size ≤ cs.size) (h1 : ∀ v ∈ vs.toList, v.oneCell' = true) :
    (StoreS ty (.pointer (some ⟨g, o, none⟩)) (.agg vs)).run P w = .ok () (w.setRow g (cs.toList.take o ++ vs.toList ++ cs.toList.drop (o + vs.toList.length)).toArray) := by
  have h := run_storeCells_at P g o t vs.toList 0 cs w hb (by simpa using hle) h1
  cases hq : P.info? ty with
  | none => simp [hq] at hi
  | some i =>
    have hs : vs.size = i.size := by simp [hq] at hi; omega
    simp only [Nat.add_zero] at h
    unfold StoreS
    simp only [Instr.storeAt, Instr.sureAddr, Sem.run_bind, Sem.run_pure, Result.andThen_ok]
    simp [storeVar, sizeOf, typeInfo, hq, Value.cells, hs, h]

/-- A region that draws its order, all but its tail still: in the world's own spelling. -/
theorem region_tail {P : Program} {id : Nat} {Q : Exit → Act → World → Prop} {a : Act} {w : World} {l : List Oper} (n : Nat) (hm : P.follows .mixedOrders = true) (hB : Region.lexTailB .any l.toArray n = true)
    (h : wpStill P l.toArray w.drew (fun a' => wpList P l.toArray Q (l.drop n) a' w.drew) (l.take n) a) : (Code.region id l.toArray true).wp P Q a w :=
  wp_region_still_tail n hm hB h

/-- Into a new variable, whole. -/
theorem StoreS.new {P : Program} {ty t : TypeId} {c x : Array Value} (hi : (P.info? ty).map (·.size) = some x.size) (hc : c.size = x.size) (h1 : ∀ v ∈ x.toList, v.oneCell' = true) (w : World) :
    (StoreS ty (.pointer (some ⟨w.heap.size, 0, none⟩)) (.agg x)).run P (w.alloc (.cells c t)) = .ok () (w.alloc (.cells x t)) := by
  rw [StoreS.of_blk (Blk.new w t c) hi (by omega) h1, World.setRow_alloc_new]
  congr 3
  apply Array.ext'
  simp [hc]

/-- The builtin copy, elements of sz cells: into a row from offset o on. -/
theorem CopyS.of_blk {P : Program} {w : World} {dT sT ty elem t : TypeId} {sz g o dLen dCap sLen sCap : Nat} {a : Addr} {cur : Array Value} {cs : List Value}
    (hu : P.underlying dT = some (.slice elem)) (hs : (P.info? elem).map (·.size) = some sz) (hB : Blk w g t cur) (hn : cs.length = min sLen dLen * sz)
    (hsrc : ∀ j v, cs[j]? = some v → w.cell? (a.add j) = some v) (hfit : o + cs.length ≤ cur.size) (h1 : ∀ v ∈ cs, v.oneCell' = true) :
    (CopyS #[dT, sT] ty #[.slice (some ⟨g, o, none⟩) dLen dCap, .slice (some a) sLen sCap]).run P w =
      .ok (.int .i64 (min sLen dLen : Nat)) (w.setRow g (cur.toList.take o ++ cs ++ cur.toList.drop (o + cs.length)).toArray) := by
  have hl := run_loadCells_list (P := P) w a cs hsrc
  have hst := run_storeCells_at P g o t cs 0 cur w hB (by simpa using hfit) h1
  cases hq : P.info? elem with
  | none => simp [hq] at hs
  | some i =>
    have hi : i.size = sz := by simpa [hq] using hs
    unfold CopyS
    simp [Builtin.copy_, run_underlying hu, Builtin.lenOf, Builtin.firstCells, sizeOf, typeInfo, hq, hi, ← hn, hl, hst, goInt]

/-- The same, the source nil, empty or not. -/
theorem CopyS.slc {P : Program} {w : World} {dT sT ty elem t : TypeId} {sz g o dLen dCap m c B : Nat} {A : Option Addr} {cur : Array Value} {xs : List Value}
    (hu : P.underlying dT = some (.slice elem)) (hs : (P.info? elem).map (·.size) = some sz) (hB : Blk w g t cur) (hr : Slc w B sz A m c xs) (hfit : o + min m dLen * sz ≤ cur.size) (h1 : ∀ v ∈ xs, v.oneCell' = true) :
    (CopyS #[dT, sT] ty #[.slice (some ⟨g, o, none⟩) dLen dCap, .slice A m c]).run P w =
      .ok (.int .i64 (min m dLen : Nat)) (w.setRow g (cur.toList.take o ++ xs.take (min m dLen * sz) ++ cur.toList.drop (o + min m dLen * sz)).toArray) := by
  have hle : min m dLen * sz ≤ xs.length := by rw [hr.len]; exact Nat.mul_le_mul_right _ (Nat.min_le_left _ _)
  have hlen : (xs.take (min m dLen * sz)).length = min m dLen * sz := by rw [List.length_take]; omega
  cases A with
  | none =>
    have hm : m = 0 := by
      rcases Nat.eq_zero_or_pos m with h0 | h0
      · exact h0
      · obtain ⟨b, off, e, _⟩ := hr.at_ h0; cases e
    subst hm
    have hx : xs = [] := List.eq_nil_of_length_eq_zero (by rw [hr.len]; simp)
    subst hx
    have hself : w.setRow g (cur.toList.take o ++ ([] : List Value).take (min 0 dLen * sz) ++ cur.toList.drop (o + min 0 dLen * sz)).toArray = w := by
      have e : (cur.toList.take o ++ ([] : List Value).take (min 0 dLen * sz) ++ cur.toList.drop (o + min 0 dLen * sz)).toArray = cur := by
        apply Array.ext'
        simp
      rw [e]
      exact setRow_self w g cur t (0, 0) hB
    rw [hself]
    cases hq : P.info? elem with
    | none => simp [hq] at hs
    | some i =>
      unfold CopyS
      simp [Builtin.copy_, run_underlying hu, Builtin.lenOf, Builtin.firstCells, sizeOf, typeInfo, hq, storeCells, goInt]
  | some a =>
    have h2 := CopyS.of_blk (P := P) (dT := dT) (sT := sT) (ty := ty) (o := o) (dLen := dLen) (dCap := dCap) (sLen := m) (sCap := c) (a := a) (cs := xs.take (min m dLen * sz)) hu hs hB hlen (fun j v hj => by
      rcases Nat.eq_zero_or_pos m with h0 | h0
      · subst h0
        simp at hj
      · obtain ⟨b, off, e, _, hc⟩ := hr.at_ h0
        injection e with e
        subst e
        rw [addr_of_add]
        rw [List.getElem?_take] at hj
        split at hj
        · exact hc j v hj
        · cases hj) (by rw [hlen]; exact hfit) (fun v hv => h1 v (List.mem_of_mem_take hv))
    rw [hlen] at h2
    exact h2

/-- An element of a row, read. -/
theorem extract_of_take {cur : Array Value} {xs : List Value} {n j sz : Nat} (h : cur.toList.take n = xs) (hj : j + sz ≤ n) : cur.extract j (j + sz) = ((xs.drop j).take sz).toArray := by
  subst h
  apply Array.ext'
  rw [Array.toList_extract, List.extract_eq_take_drop, List.drop_take, List.take_take]
  congr 1
  omega

/-- Where a draw is all that parts two worlds. -/
theorem LoadS.same {P : Program} {w : World} {g o n : Nat} {ty t : TypeId} {cs : Array Value} {fr : Nat × Nat} {d : TypeDesc} (hb : w.heap[g]? = some (.cells cs t fr)) (hu : P.underlying ty = some d) (hd : d.isRow = true)
    (hi : (P.info? ty).map (·.size) = some n) (hle : o + n ≤ cs.size) : ∀ W : World, W.heap[g]? = w.heap[g]? → (LoadS ty (.pointer (some ⟨g, o, none⟩))).run P W = .ok (.agg (cs.extract o (o + n))) W :=
  fun W hW => LoadS.of_blk (by rw [hW]; exact hb) hu hd hi hle

/-- A literal's cells. -/
theorem fill_all (l : List Value) : ∀ (k : Nat) (cs : Array Value), k + l.length ≤ cs.size →
    (l.zipIdx k).foldl (fun cs x => cs.setIfInBounds (0 + x.2) x.1) cs = (cs.toList.take k ++ l ++ cs.toList.drop (k + l.length)).toArray := by
  induction l with
  | nil => intro k cs _; simp
  | cons v l ih =>
    intro k cs h
    simp only [List.length_cons] at h
    rw [List.zipIdx_cons, List.foldl_cons, ih (k + 1) _ (by simp; omega)]
    apply Array.ext'
    simp only [Nat.zero_add, Array.toList_setIfInBounds, List.length_cons]
    apply List.ext_getElem?
    intro j
    have hk : k < cs.toList.length := by simp; omega
    simp only [List.getElem?_append, List.length_append, List.length_take, List.length_cons, List.length_set, List.getElem?_take, List.getElem?_drop, Nat.min_eq_left (Nat.le_of_lt hk), Nat.min_eq_left (show k + 1 ≤ cs.toList.length by omega)]
    by_cases h1 : j < k
    · have h2 : j < k + 1 := by omega
      have h3 : j < k + 1 + l.length := by omega
      have h4 : j < k + (l.length + 1) := by omega
      simp only [h1, h2, h3, h4, if_true]
      rw [List.getElem?_set_ne (by omega)]
    · by_cases h2 : j = k
      · subst h2
        have h3 : j < j + 1 := by omega
        have h4 : j < j + 1 + l.length := by omega
        have h5 : j < j + (l.length + 1) := by omega
        simp only [h3, h4, h5, if_true, h1, if_false, Nat.sub_self, List.getElem?_cons_zero]
        rw [List.getElem?_set_self hk]
      · have h3 : ¬ j < k + 1 := by omega
        by_cases h4 : j < k + 1 + l.length
        · have h5 : j < k + (l.length + 1) := by omega
          simp only [h3, h4, h5, h1, if_true, if_false]
          obtain ⟨m, rfl⟩ : ∃ m, j = k + 1 + m := ⟨j - (k + 1), by omega⟩
          rw [show k + 1 + m - k = m + 1 by omega, List.getElem?_cons_succ]
          congr 1
          omega
        · have h5 : ¬ j < k + (l.length + 1) := by omega
          simp only [h4, h5, if_false]
          rw [List.getElem?_set_ne (by omega)]
          congr 1
          omega

theorem ListS.one {P : Program} {ty e : TypeId} {i : TypeInfo} {z : Value} {size : Nat} (hu : P.underlying ty = some (.slice e)) (hi : P.info? e = some i) (hz : i.zero = some z) (hsize : i.size = size) (hzs : z.cells.size = size) (h0 : 0 < size) (hle : size ≤ 16777216)
    {cs : Array Value} (hc : cs.size = size) (w : World) : (ListS ty 1 #[(0, .agg cs)]).run P w = .ok (.slice (some ⟨w.heap.size, 0, none⟩) 1 1) (w.alloc (.cells cs e)) := by
  have hne : ¬ size = 0 := by omega
  have hcl : ¬ 16777216 < size := by omega
  have hfill : Instr.fill (fun i => some (i * size, size)) ((Array.range size).map (z.cells[· % z.cells.size]!)) [(0, .agg cs)] = some cs := by
    have hZ : ((Array.range size).map (z.cells[· % z.cells.size]!)).size = size := by simp
    generalize (Array.range size).map (z.cells[· % z.cells.size]!) = Z at hZ
    simp only [Instr.fill, Value.cells, hc, Nat.zero_mul]
    rw [if_neg (by simp [hZ])]
    simp only [Option.some.injEq]
    have hf2 := fill_all cs.toList 0 Z (by simp [hc, hZ])
    rw [← Array.foldl_toList, Array.toList_zipIdx, hf2]
    apply Array.ext'
    simp [hc, hZ]
  unfold ListS
  simp [Instr.buildSlice, run_underlying hu, sizeOf, typeInfo, hi, hsize, zeroValue, hz, hne, hcl, hfill, newRow]
end Go.Proofs.YtibndaianhlcaaaGreatDoor
namespace Go.Proofs.YtibndaianhlcaaaGreatDoor
open Go.RowKit Go.Sort
set_option linter.unusedVariables false
set_option linter.unusedSimpArgs false

/-- A unit as memory has it. -/
structure SV where
  name : Txt
  start : Txt
  req : List Txt
  A : Option Addr
  n : Nat
  c : Nat
  aft : List Txt
  A2 : Option Addr
  n2 : Nat
  c2 : Nat
def SV.srv (u : SV) : Srv := ⟨u.name, u.start, u.req, u.aft⟩
def svCells (u : SV) : List Value := [.string ⟨u.name.toArray⟩, .string ⟨u.start.toArray⟩, .slice u.A u.n u.c, .slice u.A2 u.n2 u.c2]
theorem svCells_length (u : SV) : (svCells u).length = 4 := rfl
theorem svCells_one (us : List SV) : ∀ v ∈ us.flatMap svCells, v.oneCell' = true := by
  intro v hv
  obtain ⟨e, _, he⟩ := List.mem_flatMap.1 hv
  simp only [svCells, List.mem_cons, List.not_mem_nil, or_false] at he
  rcases he with rfl | rfl | rfl | rfl <;> rfl
/-- Units in memory, below block B. -/
structure UnitsAt (w : World) (B : Nat) (A : Option Addr) (n c : Nat) (us : List SV) : Prop where
  slc : Slc w B 4 A n c (us.flatMap svCells)
  len : us.length = n
  req : ∀ u ∈ us, Slc w B 1 u.A u.n u.c (u.req.map encStr)
  aft : ∀ u ∈ us, Slc w B 1 u.A2 u.n2 u.c2 (u.aft.map encStr)
theorem UnitsAt.below {w w' : World} {B : Nat} {A : Option Addr} {n c : Nat} {us : List SV} (h : UnitsAt w B A n c us) (hb : Below B w w') : UnitsAt w' B A n c us :=
  ⟨h.slc.below hb, h.len, fun u hu => (h.req u hu).below hb, fun u hu => (h.aft u hu).below hb⟩
theorem UnitsAt.at_ {w : World} {B : Nat} {A : Option Addr} {n c : Nat} {us : List SV} (h : UnitsAt w B A n c us) {k : Nat} (hk : k < n) :
    ∃ b off, A = some ⟨b, off, none⟩ ∧ b < B ∧ ∃ hl : k < us.length, w.cell? ⟨b, off + k * 4, none⟩ = some (.string ⟨us[k].name.toArray⟩) ∧ w.cell? ⟨b, off + k * 4 + 1, none⟩ = some (.string ⟨us[k].start.toArray⟩) ∧
      w.cell? ⟨b, off + k * 4 + 2, none⟩ = some (.slice us[k].A us[k].n us[k].c) ∧ w.cell? ⟨b, off + k * 4 + 3, none⟩ = some (.slice us[k].A2 us[k].n2 us[k].c2) ∧
      Slc w B 1 us[k].A us[k].n us[k].c (us[k].req.map encStr) ∧ Slc w B 1 us[k].A2 us[k].n2 us[k].c2 (us[k].aft.map encStr) := by
  obtain ⟨b, off, e, hb, hc⟩ := h.slc.at_ (by omega)
  have hl : k < us.length := by rw [h.len]; exact hk
  have g : ∀ j u, j < 4 → (svCells us[k])[j]? = some u → w.cell? ⟨b, off + k * 4 + j, none⟩ = some u := fun j u hj hu => by
    have := hc (k * 4 + j) u (by rw [flatMap_get svCells 4 us (fun o _ => svCells_length o) k j hl hj]; exact hu)
    rwa [← Nat.add_assoc] at this
  exact ⟨b, off, e, hb, hl, g 0 _ (by decide) rfl, g 1 _ (by decide) rfl, g 2 _ (by decide) rfl, g 3 _ (by decide) rfl, h.req _ (List.getElem_mem hl), h.aft _ (List.getElem_mem hl)⟩
theorem Row.slc' {w : World} {F : Nat → Prop} {e : TypeId} {sz : Nat} {A : Option Addr} {n m c : Nat} {xs : List Value} (h : Row w F e sz (.slice A m c) n xs) : Slc w w.heap.size sz A n c xs := own_slc_of h.own

def bl (b : Bool) : Value := .bool b
/-- A slice of a typed block of the footprint. -/
structure Cut (w : World) (F : Nat → Prop) (e : TypeId) (A : Option Addr) (n c : Nat) (xs : List Value) : Prop where
  slc : Slc w w.heap.size 1 A n c xs
  at_ : 0 < n → ∃ b off cur fr, A = some ⟨b, off, none⟩ ∧ F b ∧ w.heap[b]? = some (.cells cur e fr)
theorem Cut.nil (w : World) (F : Nat → Prop) (e : TypeId) : Cut w F e none 0 0 [] := ⟨⟨rfl, Nat.le_refl _, Nat.zero_le _, fun h => absurd h (by decide)⟩, fun h => absurd h (by decide)⟩
theorem Cut.of_row {w : World} {F : Nat → Prop} {e : TypeId} {A : Option Addr} {n m c : Nat} {xs : List Value} (h : Row w F e 1 (.slice A m c) n xs) : Cut w F e A n c xs := by
  refine ⟨h.slc', fun hn => ?_⟩
  obtain ⟨g, cap, cur, e1, hF, _, hB, _⟩ := h.form hn
  injection e1 with e1
  exact ⟨g, 0, cur, (0, 0), e1, hF, hB⟩
/-- What is kept beside blocks of another type. -/
theorem Cut.other {w w' : World} {F : Nat → Prop} {e : TypeId} {A : Option Addr} {n c : Nat} {xs : List Value} (h : Cut w F e A n c xs) (hs : w.heap.size ≤ w'.heap.size) (hb : ∀ (k : Nat) (cur : Array Value) (fr : Nat × Nat), w.heap[k]? = some (Obj.cells cur e fr) → w'.heap[k]? = w.heap[k]?) : Cut w' F e A n c xs := by
  refine ⟨⟨h.slc.len, h.slc.le, h.slc.cmax, fun hn => ?_⟩, fun hn => ?_⟩
  · obtain ⟨b, off, e1, hlt, hc⟩ := h.slc.at_ hn
    obtain ⟨b', off', cur, fr, e2, _, hB⟩ := h.at_ hn
    rw [e1] at e2
    injection e2 with e2
    injection e2 with e2 e3
    subst e2 e3
    refine ⟨b, off, e1, by omega, fun j u hu => ?_⟩
    rw [World.cell?_of_block (w := w) (a := ⟨b, off + j, none⟩) (hb b cur fr hB)]
    exact hc j u hu
  · obtain ⟨b, off, cur, fr, e1, hF, hB⟩ := h.at_ hn
    exact ⟨b, off, cur, fr, e1, hF, (hb b cur fr hB).trans hB⟩
theorem Row.other {w w' : World} {F : Nat → Prop} {e : TypeId} {sz : Nat} {v : Value} {n : Nat} {xs : List Value} (h : Row w F e sz v n xs) (hb : ∀ (k : Nat) (cur : Array Value) (fr : Nat × Nat), w.heap[k]? = some (Obj.cells cur e fr) → w'.heap[k]? = w.heap[k]?) : Row w' F e sz v n xs := by
  refine ⟨⟨h.own.1, ?_⟩, h.foot⟩
  rcases h.own.2 with hn | ⟨g, cap, cur, rfl, h1, h2, rest⟩
  · exact .inl hn
  · exact .inr ⟨g, cap, cur, rfl, h1, by rw [hb g cur (0, 0) h2]; exact h2, rest⟩
theorem Row.wide {w : World} {F G : Nat → Prop} {e : TypeId} {sz : Nat} {v : Value} {n : Nat} {xs : List Value} (h : Row w F e sz v n xs) (hg : ∀ k, F k → G k) : Row w G e sz v n xs := ⟨h.own, fun k hk => hg k (h.foot k hk)⟩
theorem Cut.wide {w : World} {F G : Nat → Prop} {e : TypeId} {A : Option Addr} {n c : Nat} {xs : List Value} (h : Cut w F e A n c xs) (hg : ∀ k, F k → G k) : Cut w G e A n c xs :=
  ⟨h.slc, fun hn => by obtain ⟨b, off, cur, fr, e1, hF, hB⟩ := h.at_ hn; exact ⟨b, off, cur, fr, e1, hg b hF, hB⟩⟩
theorem Row.nil (w : World) (F : Nat → Prop) (e : TypeId) (sz : Nat) : Row w F e sz (.slice none 0 0) 0 [] := ⟨World.ownsRow_nil _ _ _ _, fun k h => by cases h⟩

def machC (f u n p : Value) : Array Value := #[f, u, n, p]
/-- The parts of a machine in memory: F is all that it has. -/
structure MachV (w : World) (F : Nat → Prop) (g : Nat) (s : Mach) (fA : Option Addr) (fn fc : Nat) (es : List EV) (uA : Option Addr) (un uc : Nat) (nA : Option Addr) (nn nc : Nat) (us : List SV) (pA : Option Addr) (pn pc : Nat) : Prop where
  blk : Blk w g 53 (machC (.slice fA fn fc) (.slice uA un uc) (.slice nA nn nc) (.slice pA pn pc))
  foot : F g
  files : Row w F 35 3 (.slice fA fn fc) fn (es.flatMap evCells)
  ents : es.map EV.ent = s.files
  data : ∀ e ∈ es, Row w F 5 1 (.slice e.A e.n e.c) e.n (e.data.map bv)
  users : Row w F 9 1 (.slice uA un uc) un (s.users.map encStr)
  units : Row w F 59 4 (.slice nA nn nc) nn (us.flatMap svCells)
  srvs : us.map SV.srv = s.units
  req : ∀ u ∈ us, Row w F 9 1 (.slice u.A u.n u.c) u.n (u.req.map encStr)
  aft : ∀ u ∈ us, Row w F 9 1 (.slice u.A2 u.n2 u.c2) u.n2 (u.aft.map encStr)
  plan : Cut w F 4 pA pn pc (s.plan.map bl)
  sep : ∀ u ∈ us, ∀ k, (Value.slice uA un uc).ownBlock = some k → (Value.slice u.A u.n u.c).ownBlock ≠ some k ∧ (Value.slice u.A2 u.n2 u.c2).ownBlock ≠ some k
def MachAt (w : World) (F : Nat → Prop) (g : Nat) (s : Mach) : Prop := ∃ fA fn fc es uA un uc nA nn nc us pA pn pc, MachV w F g s fA fn fc es uA un uc nA nn nc us pA pn pc
section
variable {w w' : World} {F : Nat → Prop} {g : Nat} {s : Mach} {fA : Option Addr} {fn fc : Nat} {es : List EV} {uA : Option Addr} {un uc : Nat} {nA : Option Addr} {nn nc : Nat} {us : List SV} {pA : Option Addr} {pn pc : Nat}
theorem MachV.flen (h : MachV w F g s fA fn fc es uA un uc nA nn nc us pA pn pc) : es.length = fn ∧ s.files.length = fn := by
  have h1 := h.files.own.1
  rw [flatMap_len evCells 3 es (fun o _ => evCells_length o)] at h1
  have h2 := congrArg List.length h.ents
  rw [List.length_map] at h2
  omega
theorem MachV.ulen (h : MachV w F g s fA fn fc es uA un uc nA nn nc us pA pn pc) : s.users.length = un := by
  have h1 := h.users.own.1
  simpa using h1
theorem MachV.nlen (h : MachV w F g s fA fn fc es uA un uc nA nn nc us pA pn pc) : us.length = nn ∧ s.units.length = nn := by
  have h1 := h.units.own.1
  rw [flatMap_len svCells 4 us (fun o _ => svCells_length o)] at h1
  have h2 := congrArg List.length h.srvs
  rw [List.length_map] at h2
  omega
theorem MachV.plen (h : MachV w F g s fA fn fc es uA un uc nA nn nc us pA pn pc) : s.plan.length = pn := by
  have h1 := h.plan.slc.len
  simpa using h1
/-- What turns elsewhere. -/
theorem MachV.apart (h : MachV w F g s fA fn fc es uA un uc nA nn nc us pA pn pc) (hs : w.heap.size ≤ w'.heap.size) (hb : ∀ k, k < w.heap.size → F k → w'.heap[k]? = w.heap[k]?) : MachV w' F g s fA fn fc es uA un uc nA nn nc us pA pn pc := by
  have hr : ∀ {e : TypeId} {sz n : Nat} {v : Value} {xs : List Value}, Row w F e sz v n xs → Row w' F e sz v n xs := fun hR => hR.kept (fun k hk => hb k (hR.own.lt k hk).2 (hR.foot k hk)) hR.foot
  refine ⟨(hb g h.blk.lt h.foot).trans h.blk, h.foot, hr h.files, h.ents, fun e he => hr (h.data e he), hr h.users, hr h.units, h.srvs, fun u hu => hr (h.req u hu), fun u hu => hr (h.aft u hu), ?_, h.sep⟩
  have hp := h.plan
  refine ⟨⟨hp.slc.len, hp.slc.le, hp.slc.cmax, fun hn => ?_⟩, fun hn => ?_⟩
  · obtain ⟨b, off, e1, hlt, hc⟩ := hp.slc.at_ hn
    obtain ⟨b', off', cur, fr, e2, hF, hB⟩ := hp.at_ hn
    rw [e1] at e2
    injection e2 with e2
    injection e2 with e2 e3
    subst e2 e3
    refine ⟨b, off, e1, by omega, fun j u hu => ?_⟩
    rw [World.cell?_of_block (w := w) (a := ⟨b, off + j, none⟩) (hb b hlt hF)]
    exact hc j u hu
  · obtain ⟨b, off, cur, fr, e1, hF, hB⟩ := hp.at_ hn
    have hlt : b < w.heap.size := by
      rcases Nat.lt_or_ge b w.heap.size with h1 | h1
      · exact h1
      · rw [Array.getElem?_eq_none h1] at hB; cases hB
    exact ⟨b, off, cur, fr, e1, hF, (hb b hlt hF).trans hB⟩
theorem MachV.below (h : MachV w F g s fA fn fc es uA un uc nA nn nc us pA pn pc) (hb : Below w.heap.size w w') : MachV w' F g s fA fn fc es uA un uc nA nn nc us pA pn pc := h.apart hb.size (fun k hk _ => hb.block k hk)
theorem MachV.step {G K : Nat → Prop} (h : MachV w F g s fA fn fc es uA un uc nA nn nc us pA pn pc) (st : Step w w' G K) (hd : ∀ k, F k → ¬ G k) : MachV w' F g s fA fn fc es uA un uc nA nn nc us pA pn pc :=
  h.apart st.size (fun k hk hF => st.block k hk (hd k hF))
/-- Its own variable's cells are written; no other block turns. -/
theorem MachV.cells (h : MachV w F g s fA fn fc es uA un uc nA nn nc us pA pn pc) {p : Addr} (hp : p.block = g) (v : Value) :
    Row (w.setCell p v) F 35 3 (.slice fA fn fc) fn (es.flatMap evCells) ∧ (∀ e ∈ es, Row (w.setCell p v) F 5 1 (.slice e.A e.n e.c) e.n (e.data.map bv)) ∧ Row (w.setCell p v) F 9 1 (.slice uA un uc) un (s.users.map encStr) ∧
      Row (w.setCell p v) F 59 4 (.slice nA nn nc) nn (us.flatMap svCells) ∧ (∀ u ∈ us, Row (w.setCell p v) F 9 1 (.slice u.A u.n u.c) u.n (u.req.map encStr)) ∧ (∀ u ∈ us, Row (w.setCell p v) F 9 1 (.slice u.A2 u.n2 u.c2) u.n2 (u.aft.map encStr)) ∧
      Cut (w.setCell p v) F 4 pA pn pc (s.plan.map bl) := by
  have hne : ∀ (e : TypeId), e ≠ 53 → ∀ (k : Nat) (cur : Array Value) (fr : Nat × Nat), w.heap[k]? = some (Obj.cells cur e fr) → (w.setCell p v).heap[k]? = w.heap[k]? := fun e he k cur fr hk => by
    refine Below.heap_setCell w p v k (fun e1 => ?_)
    rw [hp] at e1
    subst e1
    have hB := h.blk
    unfold Blk at hB
    rw [hB] at hk
    injection hk with hk
    injection hk with _ hk
    exact he hk.symm
  exact ⟨h.files.other (hne _ (by decide)), fun e he => (h.data e he).other (hne _ (by decide)), h.users.other (hne _ (by decide)), h.units.other (hne _ (by decide)), fun u hu => (h.req u hu).other (hne _ (by decide)), fun u hu => (h.aft u hu).other (hne _ (by decide)), h.plan.other (by simp [World.setCell]) (hne _ (by decide))⟩
end
end Go.Proofs.YtibndaianhlcaaaGreatDoor
namespace Go.Proofs.YtibndaianhlcaaaGreatDoor
open Go.RowKit
set_option linter.unusedVariables false
set_option linter.unusedSimpArgs false

theorem own_put {w : World} {base : Nat} {e : TypeId} {size : Nat} {v : Value} {n : Nat} {xs : List Value} (h : w.ownsRow base e size v n xs) {p : Addr} (hp : v.ownBlock ≠ some p.block) (u : Value) : (w.setCell p u).ownsRow base e size v n xs := by
  refine h.kept (row := some p.block) ⟨rfl, rfl, rfl, by simp [World.setCell], fun k hk hne => Below.heap_setCell w p u k (fun e => hne (by rw [e]))⟩ ?_
  exact .inr hp
/-- A variable that is a struct, read whole. -/
theorem load_aggr {P : Program} {T U : TypeId} {k : Nat} (ha : ∀ w, (isAgg T).run P w = .ok true w) (hz : ∀ w, (Go.sizeOf T).run P w = .ok k w) {w : World} {g : Nat} {cs : Array Value} (hcs : cs.size = k) (hb : Blk w g U cs) :
    (loadVar T ⟨g, 0, none⟩).run P w = .ok (.agg cs) w := by
  have hl := run_loadCells_list (P := P) (w := w) ⟨g, 0, none⟩ cs.toList (fun i v hi => by rw [addr_of_add, Nat.zero_add, hb.cell]; simpa using hi)
  rw [Array.length_toList, hcs] at hl
  simp [loadVar, ha, hz, hl]
theorem results_aggr {P : Program} {fn : Func} {t : Tmp} {T U : TypeId} {g k : Nat} {cs : Array Value} {w : World} {tmps : Array Value} (h : fn.results = #[.cell t T]) (ht : tmps.getD t undef = .pointer (some ⟨g, 0, none⟩))
    (ha : ∀ w, (isAgg T).run P w = .ok true w) (hz : ∀ w, (Go.sizeOf T).run P w = .ok k w) (hcs : cs.size = k) (hb : Blk w g U cs) : (results fn tmps).run P w = .ok (.agg cs) w := by
  have hl := load_aggr ha hz hcs hb
  simp only [Array.getD_eq_getD_getElem?] at ht
  simp [results, h, ht, asAddr, hl]
theorem results_aggr2 {P : Program} {fn : Func} {t u : Tmp} {T U : TypeId} {g k : Nat} {cs : Array Value} {w : World} {tmps : Array Value} (h : fn.results = #[.cell t T, .tmp u]) (ht : tmps.getD t undef = .pointer (some ⟨g, 0, none⟩))
    (ha : ∀ w, (isAgg T).run P w = .ok true w) (hz : ∀ w, (Go.sizeOf T).run P w = .ok k w) (hcs : cs.size = k) (hb : Blk w g U cs) : (results fn tmps).run P w = .ok (.tuple #[.agg cs, tmps.getD u undef]) w := by
  have hl := load_aggr ha hz hcs hb
  simp only [Array.getD_eq_getD_getElem?] at ht
  simp [results, h, ht, asAddr, hl]
theorem results_aggr3 {P : Program} {fn : Func} {t u v : Tmp} {T U : TypeId} {g k : Nat} {cs : Array Value} {w : World} {tmps : Array Value} (h : fn.results = #[.cell t T, .tmp u, .tmp v]) (ht : tmps.getD t undef = .pointer (some ⟨g, 0, none⟩))
    (ha : ∀ w, (isAgg T).run P w = .ok true w) (hz : ∀ w, (Go.sizeOf T).run P w = .ok k w) (hcs : cs.size = k) (hb : Blk w g U cs) : (results fn tmps).run P w = .ok (.tuple #[.agg cs, tmps.getD u undef, tmps.getD v undef]) w := by
  have hl := load_aggr ha hz hcs hb
  simp only [Array.getD_eq_getD_getElem?] at ht
  simp [results, h, ht, asAddr, hl]
end Go.Proofs.YtibndaianhlcaaaGreatDoor
