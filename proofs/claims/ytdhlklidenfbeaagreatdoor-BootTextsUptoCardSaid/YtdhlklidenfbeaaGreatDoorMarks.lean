/- Marks: great operations stay closed in a walk; what each gives is laid as an equation. -/
import Derived.Test.YtdhlklidenfbeaaGreatDoorOwn
import Derived.StillTailTactics
import Derived.Laws.CopyOwn
import Derived.Deep.WholeRow
namespace Go.Proofs.YtdhlklidenfbeaaGreatDoor
open Go.RowKit

/-- A variable of several cells, read. -/
def LoadS (ty : TypeId) (x : Value) : Sem Value := Instr.loadAt ty x
/-- A variable of several cells, written. -/
def StoreS (ty : TypeId) (x v : Value) : Sem Unit := Instr.storeAt ty x v
def AllocS (ty : TypeId) : Sem Value := Instr.alloc ty true (.tuple #[])
def AppendS (t : Array TypeId) (ty : TypeId) (args : Array Value) : Sem Value := Builtin.append_ t ty args
def CopyS (t : Array TypeId) (ty : TypeId) (args : Array Value) : Sem Value := Builtin.copy_ t ty args
def ListS (ty : TypeId) (n : Nat) (parts : Array (Nat × Value)) : Sem Value := Instr.buildSlice ty n parts
def BuildS (ty : TypeId) (parts : Array (Nat × Value)) : Sem Value := Instr.build ty parts
def BoxS (ty : TypeId) (v : Value) : Sem Value := Instr.box ty v
def MakeS (ty : TypeId) (n c : Value) : Sem Value := Instr.makeSlice ty n c
def ConvS (t u : TypeId) (x : Value) : Sem Value := convert t u x

theorem appendS_mark (t : Array TypeId) (ty : TypeId) (args : Array Value) : Builtin.append_ t ty args = AppendS t ty args := rfl
theorem copyS_mark (t : Array TypeId) (ty : TypeId) (args : Array Value) : Builtin.copy_ t ty args = CopyS t ty args := rfl
theorem makeS_mark (ty : TypeId) (n c : Value) : Instr.makeSlice ty n c = MakeS ty n c := rfl

theorem LoadS.of_blk {P : Program} {w : World} {g o n : Nat} {ty t : TypeId} {cs : Array Value} {fr : Nat × Nat} {d : TypeDesc} (hb : w.heap[g]? = some (.cells cs t fr)) (hu : P.underlying ty = some d) (hd : d.isRow = true)
    (hi : (P.info? ty).map (·.size) = some n) (hle : o + n ≤ cs.size) : (LoadS ty (.pointer (some ⟨g, o, none⟩))).run P w = .ok (.agg (cs.extract o (o + n))) w := by
  have h := run_loadAt_mid (P := P) w g o ty (cs.extract o (o + n)).toList d (World.rangeAt_of_block hb o n) hu hd (by rw [hi]; simp; omega)
  rw [Array.toArray_toList] at h
  exact h

theorem StoreS.of_blk {P : Program} {w : World} {g o : Nat} {ty t : TypeId} {cs vs : Array Value} (hb : Blk w g t cs)
    (hi : (P.info? ty).map (·.size) = some vs.size) (hle : o + vs.size ≤ cs.size) (h1 : ∀ v ∈ vs.toList, v.oneCell' = true) :
    (StoreS ty (.pointer (some ⟨g, o, none⟩)) (.agg vs)).run P w = .ok () (w.setRow g (cs.toList.take o ++ vs.toList ++ cs.toList.drop (o + vs.toList.length)).toArray) := by
  have h := run_storeCells_at P g o t vs.toList 0 cs w hb (by simpa using hle) h1
  cases hq : P.info? ty with
  | none => simp [hq] at hi
  | some i =>
    have hs : vs.size = i.size := by simp [hq] at hi; omega
    simp only [Nat.add_zero] at h
    unfold StoreS
    simp only [Instr.storeAt, Instr.sureAddr, Sem.run_bind, Sem.run_pure, Result.andThen_ok]
    simp [storeVar, sizeOf, typeInfo, hq, Value.cells, hs, h]

/-- A region that draws its order, all but its tail still: in the world's own spelling. -/
theorem region_tail {P : Program} {id : Nat} {Q : Exit → Act → World → Prop} {a : Act} {w : World} {l : List Oper} (n : Nat) (hm : P.follows .mixedOrders = true) (hB : Region.lexTailB .any l.toArray n = true)
    (h : wpStill P l.toArray w.drew (fun a' => wpList P l.toArray Q (l.drop n) a' w.drew) (l.take n) a) : (Code.region id l.toArray true).wp P Q a w :=
  wp_region_still_tail n hm hB h

/-- Into a new variable, whole. -/
theorem StoreS.new {P : Program} {ty t : TypeId} {c x : Array Value} (hi : (P.info? ty).map (·.size) = some x.size) (hc : c.size = x.size) (h1 : ∀ v ∈ x.toList, v.oneCell' = true) (w : World) :
    (StoreS ty (.pointer (some ⟨w.heap.size, 0, none⟩)) (.agg x)).run P (w.alloc (.cells c t)) = .ok () (w.alloc (.cells x t)) := by
  rw [StoreS.of_blk (Blk.new w t c) hi (by omega) h1, World.setRow_alloc_new]
  congr 3
  apply Array.ext'
  simp [hc]

/-- The builtin copy, elements of sz cells: into a row from offset o on. -/
theorem CopyS.of_blk {P : Program} {w : World} {dT sT ty elem t : TypeId} {sz g o dLen dCap sLen sCap : Nat} {a : Addr} {cur : Array Value} {cs : List Value}
    (hu : P.underlying dT = some (.slice elem)) (hs : (P.info? elem).map (·.size) = some sz) (hB : Blk w g t cur) (hn : cs.length = min sLen dLen * sz)
    (hsrc : ∀ j v, cs[j]? = some v → w.cell? (a.add j) = some v) (hfit : o + cs.length ≤ cur.size) (h1 : ∀ v ∈ cs, v.oneCell' = true) :
    (CopyS #[dT, sT] ty #[.slice (some ⟨g, o, none⟩) dLen dCap, .slice (some a) sLen sCap]).run P w =
      .ok (.int .i64 (min sLen dLen : Nat)) (w.setRow g (cur.toList.take o ++ cs ++ cur.toList.drop (o + cs.length)).toArray) := by
  have hl := run_loadCells_list (P := P) w a cs hsrc
  have hst := run_storeCells_at P g o t cs 0 cur w hB (by simpa using hfit) h1
  cases hq : P.info? elem with
  | none => simp [hq] at hs
  | some i =>
    have hi : i.size = sz := by simpa [hq] using hs
    unfold CopyS
    simp [Builtin.copy_, run_underlying hu, Builtin.lenOf, Builtin.firstCells, sizeOf, typeInfo, hq, hi, ← hn, hl, hst, goInt]

/-- The same, the source nil, empty or not. -/
theorem CopyS.slc {P : Program} {w : World} {dT sT ty elem t : TypeId} {sz g o dLen dCap m c B : Nat} {A : Option Addr} {cur : Array Value} {xs : List Value}
    (hu : P.underlying dT = some (.slice elem)) (hs : (P.info? elem).map (·.size) = some sz) (hB : Blk w g t cur) (hr : Slc w B sz A m c xs) (hfit : o + min m dLen * sz ≤ cur.size) (h1 : ∀ v ∈ xs, v.oneCell' = true) :
    (CopyS #[dT, sT] ty #[.slice (some ⟨g, o, none⟩) dLen dCap, .slice A m c]).run P w =
      .ok (.int .i64 (min m dLen : Nat)) (w.setRow g (cur.toList.take o ++ xs.take (min m dLen * sz) ++ cur.toList.drop (o + min m dLen * sz)).toArray) := by
  have hle : min m dLen * sz ≤ xs.length := by rw [hr.len]; exact Nat.mul_le_mul_right _ (Nat.min_le_left _ _)
  have hlen : (xs.take (min m dLen * sz)).length = min m dLen * sz := by rw [List.length_take]; omega
  cases A with
  | none =>
    have hm : m = 0 := by
      rcases Nat.eq_zero_or_pos m with h0 | h0
      · exact h0
      · obtain ⟨b, off, e, _⟩ := hr.at_ h0; cases e
    subst hm
    have hx : xs = [] := List.eq_nil_of_length_eq_zero (by rw [hr.len]; simp)
    subst hx
    have hself : w.setRow g (cur.toList.take o ++ ([] : List Value).take (min 0 dLen * sz) ++ cur.toList.drop (o + min 0 dLen * sz)).toArray = w := by
      have e : (cur.toList.take o ++ ([] : List Value).take (min 0 dLen * sz) ++ cur.toList.drop (o + min 0 dLen * sz)).toArray = cur := by
        apply Array.ext'
        simp
      rw [e]
      exact setRow_self w g cur t (0, 0) hB
    rw [hself]
    cases hq : P.info? elem with
    | none => simp [hq] at hs
    | some i =>
      unfold CopyS
      simp [Builtin.copy_, run_underlying hu, Builtin.lenOf, Builtin.firstCells, sizeOf, typeInfo, hq, storeCells, goInt]
  | some a =>
    have h2 := CopyS.of_blk (P := P) (dT := dT) (sT := sT) (ty := ty) (o := o) (dLen := dLen) (dCap := dCap) (sLen := m) (sCap := c) (a := a) (cs := xs.take (min m dLen * sz)) hu hs hB hlen (fun j v hj => by
      rcases Nat.eq_zero_or_pos m with h0 | h0
      · subst h0
        simp at hj
      · obtain ⟨b, off, e, _, hc⟩ := hr.at_ h0
        injection e with e
        subst e
        rw [addr_of_add]
        rw [List.getElem?_take] at hj
        split at hj
        · exact hc j v hj
        · cases hj) (by rw [hlen]; exact hfit) (fun v hv => h1 v (List.mem_of_mem_take hv))
    rw [hlen] at h2
    exact h2

/-- An element of a row, read. -/
theorem extract_of_take {cur : Array Value} {xs : List Value} {n j sz : Nat} (h : cur.toList.take n = xs) (hj : j + sz ≤ n) : cur.extract j (j + sz) = ((xs.drop j).take sz).toArray := by
  subst h
  apply Array.ext'
  rw [Array.toList_extract, List.extract_eq_take_drop, List.drop_take, List.take_take]
  congr 1
  omega

/-- Where a draw is all that parts two worlds. -/
theorem LoadS.same {P : Program} {w : World} {g o n : Nat} {ty t : TypeId} {cs : Array Value} {fr : Nat × Nat} {d : TypeDesc} (hb : w.heap[g]? = some (.cells cs t fr)) (hu : P.underlying ty = some d) (hd : d.isRow = true)
    (hi : (P.info? ty).map (·.size) = some n) (hle : o + n ≤ cs.size) : ∀ W : World, W.heap[g]? = w.heap[g]? → (LoadS ty (.pointer (some ⟨g, o, none⟩))).run P W = .ok (.agg (cs.extract o (o + n))) W :=
  fun W hW => LoadS.of_blk (by rw [hW]; exact hb) hu hd hi hle

/-- A literal's cells. -/
theorem fill_all (l : List Value) : ∀ (k : Nat) (cs : Array Value), k + l.length ≤ cs.size →
    (l.zipIdx k).foldl (fun cs x => cs.setIfInBounds (0 + x.2) x.1) cs = (cs.toList.take k ++ l ++ cs.toList.drop (k + l.length)).toArray := by
  induction l with
  | nil => intro k cs _; simp
  | cons v l ih =>
    intro k cs h
    simp only [List.length_cons] at h
    rw [List.zipIdx_cons, List.foldl_cons, ih (k + 1) _ (by simp; omega)]
    apply Array.ext'
    simp only [Nat.zero_add, Array.toList_setIfInBounds, List.length_cons]
    apply List.ext_getElem?
    intro j
    have hk : k < cs.toList.length := by simp; omega
    simp only [List.getElem?_append, List.length_append, List.length_take, List.length_cons, List.length_set, List.getElem?_take, List.getElem?_drop, Nat.min_eq_left (Nat.le_of_lt hk), Nat.min_eq_left (show k + 1 ≤ cs.toList.length by omega)]
    by_cases h1 : j < k
    · have h2 : j < k + 1 := by omega
      have h3 : j < k + 1 + l.length := by omega
      have h4 : j < k + (l.length + 1) := by omega
      simp only [h1, h2, h3, h4, if_true]
      rw [List.getElem?_set_ne (by omega)]
    · by_cases h2 : j = k
      · subst h2
        have h3 : j < j + 1 := by omega
        have h4 : j < j + 1 + l.length := by omega
        have h5 : j < j + (l.length + 1) := by omega
        simp only [h3, h4, h5, if_true, h1, if_false, Nat.sub_self, List.getElem?_cons_zero]
        rw [List.getElem?_set_self hk]
      · have h3 : ¬ j < k + 1 := by omega
        by_cases h4 : j < k + 1 + l.length
        · have h5 : j < k + (l.length + 1) := by omega
          simp only [h3, h4, h5, h1, if_true, if_false]
          obtain ⟨m, rfl⟩ : ∃ m, j = k + 1 + m := ⟨j - (k + 1), by omega⟩
          rw [show k + 1 + m - k = m + 1 by omega, List.getElem?_cons_succ]
          congr 1
          omega
        · have h5 : ¬ j < k + (l.length + 1) := by omega
          simp only [h4, h5, if_false]
          rw [List.getElem?_set_ne (by omega)]
          congr 1
          omega

theorem ListS.one {P : Program} {ty e : TypeId} {i : TypeInfo} {z : Value} {size : Nat} (hu : P.underlying ty = some (.slice e)) (hi : P.info? e = some i) (hz : i.zero = some z) (hsize : i.size = size) (hzs : z.cells.size = size) (h0 : 0 < size) (hle : size ≤ 16777216)
    {cs : Array Value} (hc : cs.size = size) (w : World) : (ListS ty 1 #[(0, .agg cs)]).run P w = .ok (.slice (some ⟨w.heap.size, 0, none⟩) 1 1) (w.alloc (.cells cs e)) := by
  have hne : ¬ size = 0 := by omega
  have hcl : ¬ 16777216 < size := by omega
  have hfill : Instr.fill (fun i => some (i * size, size)) ((Array.range size).map (z.cells[· % z.cells.size]!)) [(0, .agg cs)] = some cs := by
    have hZ : ((Array.range size).map (z.cells[· % z.cells.size]!)).size = size := by simp
    generalize (Array.range size).map (z.cells[· % z.cells.size]!) = Z at hZ
    simp only [Instr.fill, Value.cells, hc, Nat.zero_mul]
    rw [if_neg (by simp [hZ])]
    simp only [Option.some.injEq]
    have hf2 := fill_all cs.toList 0 Z (by simp [hc, hZ])
    rw [← Array.foldl_toList, Array.toList_zipIdx, hf2]
    apply Array.ext'
    simp [hc, hZ]
  unfold ListS
  simp [Instr.buildSlice, run_underlying hu, sizeOf, typeInfo, hi, hsize, zeroValue, hz, hne, hcl, hfill, newRow]
end Go.Proofs.YtdhlklidenfbeaaGreatDoor
