/- Marks: great operations stay closed in a walk; what each gives is laid as an equation. A machine in memory. Results that are structs; stores beside what is owned. machine.New, Plan, fails, at. machine.at: where a unit runs. -/
import Derived.Test.YtibndaianhlcaaaDoorPart4
import Derived.StillTailTactics
import Derived.Laws.CopyOwn
import Derived.Deep.WholeRow
import Derived.Test.YtibndaianhlcaaaDoorPart3
import Derived.Test.YtibndaianhlcaaaDoorPart6
namespace Go.Proofs.YtibndaianhlcaaaDoor
open Go.RowKit

/-- A variable of several cells, read. -/
def LoadS (ty : TypeId) (x : Value) : Sem Value := Instr.loadAt ty x
/-- A variable of several cells, written. -/
def StoreS (ty : TypeId) (x v : Value) : Sem Unit := Instr.storeAt ty x v
def AllocS (ty : TypeId) : Sem Value := Instr.alloc ty true (.tuple #[])
def AppendS (t : Array TypeId) (ty : TypeId) (args : Array Value) : Sem Value := Builtin.append_ t ty args
def CopyS (t : Array TypeId) (ty : TypeId) (args : Array Value) : Sem Value := Builtin.copy_ t ty args
def ListS (ty : TypeId) (n : Nat) (parts : Array (Nat × Value)) : Sem Value := Instr.buildSlice ty n parts
def BuildS (ty : TypeId) (parts : Array (Nat × Value)) : Sem Value := Instr.build ty parts
def BoxS (ty : TypeId) (v : Value) : Sem Value := Instr.box ty v
def MakeS (ty : TypeId) (n c : Value) : Sem Value := Instr.makeSlice ty n c
def ConvS (t u : TypeId) (x : Value) : Sem Value := convert t u x

theorem appendS_mark (t : Array TypeId) (ty : TypeId) (args : Array Value) : Builtin.append_ t ty args = AppendS t ty args := rfl
theorem copyS_mark (t : Array TypeId) (ty : TypeId) (args : Array Value) : Builtin.copy_ t ty args = CopyS t ty args := rfl
theorem makeS_mark (ty : TypeId) (n c : Value) : Instr.makeSlice ty n c = MakeS ty n c := rfl

theorem LoadS.of_blk {P : Program} {w : World} {g o n : Nat} {ty t : TypeId} {cs : Array Value} {fr : Nat × Nat} {d : TypeDesc} (hb : w.heap[g]? = some (.cells cs t fr)) (hu : P.underlying ty = some d) (hd : d.isRow = true)
    (hi : (P.info? ty).map (·.size) = some n) (hle : o + n ≤ cs.size) : (LoadS ty (.pointer (some ⟨g, o, none⟩))).run P w = .ok (.agg (cs.extract o (o + n))) w := by
  have h := run_loadAt_mid (P := P) w g o ty (cs.extract o (o + n)).toList d (World.rangeAt_of_block hb o n) hu hd (by rw [hi]; simp; omega)
  rw [Array.toArray_toList] at h
  exact h

theorem StoreS.of_blk {P : Program} {w : World} {g o : Nat} {ty t : TypeId} {cs vs : Array Value} (hb : Blk w g t cs)
    (hi : (P.info? ty).map (·.size) = some vs.size) (hle : o + vs.size ≤ cs.size) (h1 : ∀ v ∈ vs.toList, v.oneCell' = true) :
    (StoreS ty (.pointer (some ⟨g, o, none⟩)) (.agg vs)).run P w = .ok () (w.setRow g (cs.toList.take o ++ vs.toList ++ cs.toList.drop (o + vs.toList.length)).toArray) := by
  have h := run_storeCells_at P g o t vs.toList 0 cs w hb (by simpa using hle) h1
  cases hq : P.info? ty with
  | none => simp [hq] at hi
  | some i =>
    have hs : vs.size = i.size := by simp [hq] at hi; omega
    simp only [Nat.add_zero] at h
    unfold StoreS
    simp only [Instr.storeAt, Instr.sureAddr, Sem.run_bind, Sem.run_pure, Result.andThen_ok]
    simp [storeVar, sizeOf, typeInfo, hq, Value.cells, hs, h]

/-- A region that draws its order, all but its tail still: in the world's own spelling. -/
theorem region_tail {P : Program} {id : Nat} {Q : Exit → Act → World → Prop} {a : Act} {w : World} {l : List Oper} (n : Nat) (hm : P.follows .mixedOrders = true) (hB : Region.lexTailB .any l.toArray n = true)
    (h : wpStill P l.toArray w.drew (fun a' => wpList P l.toArray Q (l.drop n) a' w.drew) (l.take n) a) : (Code.region id l.toArray true).wp P Q a w :=
  wp_region_still_tail n hm hB h

/-- Into a new variable, whole. -/
theorem StoreS.new {P : Program} {ty t : TypeId} {c x : Array Value} (hi : (P.info? ty).map (·.size) = some x.size) (hc : c.size = x.size) (h1 : ∀ v ∈ x.toList, v.oneCell' = true) (w : World) :
    (StoreS ty (.pointer (some ⟨w.heap.size, 0, none⟩)) (.agg x)).run P (w.alloc (.cells c t)) = .ok () (w.alloc (.cells x t)) := by
  rw [StoreS.of_blk (Blk.new w t c) hi (by omega) h1, World.setRow_alloc_new]
  congr 3
  apply Array.ext'
  simp [hc]

/-- The builtin copy, elements of sz cells: into a row from offset o on. -/
theorem CopyS.of_blk {P : Program} {w : World} {dT sT ty elem t : TypeId} {sz g o dLen dCap sLen sCap : Nat} {a : Addr} {cur : Array Value} {cs : List Value}
    (hu : P.underlying dT = some (.slice elem)) (hs : (P.info? elem).map (·.size) = some sz) (hB : Blk w g t cur) (hn : cs.length = min sLen dLen * sz)
    (hsrc : ∀ j v, cs[j]? = some v → w.cell? (a.add j) = some v) (hfit : o + cs.length ≤ cur.size) (h1 : ∀ v ∈ cs, v.oneCell' = true) :
    (CopyS #[dT, sT] ty #[.slice (some ⟨g, o, none⟩) dLen dCap, .slice (some a) sLen sCap]).run P w =
      .ok (.int .i64 (min sLen dLen : Nat)) (w.setRow g (cur.toList.take o ++ cs ++ cur.toList.drop (o + cs.length)).toArray) := by
  have hl := run_loadCells_list (P := P) w a cs hsrc
  have hst := run_storeCells_at P g o t cs 0 cur w hB (by simpa using hfit) h1
  cases hq : P.info? elem with
  | none => simp [hq] at hs
  | some i =>
    have hi : i.size = sz := by simpa [hq] using hs
    unfold CopyS
    simp [Builtin.copy_, run_underlying hu, Builtin.lenOf, Builtin.firstCells, sizeOf, typeInfo, hq, hi, ← hn, hl, hst, goInt]

/-- The same, the source nil, empty or not. -/
theorem CopyS.slc {P : Program} {w : World} {dT sT ty elem t : TypeId} {sz g o dLen dCap m c B : Nat} {A : Option Addr} {cur : Array Value} {xs : List Value}
    (hu : P.underlying dT = some (.slice elem)) (hs : (P.info? elem).map (·.size) = some sz) (hB : Blk w g t cur) (hr : Slc w B sz A m c xs) (hfit : o + min m dLen * sz ≤ cur.size) (h1 : ∀ v ∈ xs, v.oneCell' = true) :
    (CopyS #[dT, sT] ty #[.slice (some ⟨g, o, none⟩) dLen dCap, .slice A m c]).run P w =
      .ok (.int .i64 (min m dLen : Nat)) (w.setRow g (cur.toList.take o ++ xs.take (min m dLen * sz) ++ cur.toList.drop (o + min m dLen * sz)).toArray) := by
  have hle : min m dLen * sz ≤ xs.length := by rw [hr.len]; exact Nat.mul_le_mul_right _ (Nat.min_le_left _ _)
  have hlen : (xs.take (min m dLen * sz)).length = min m dLen * sz := by rw [List.length_take]; omega
  cases A with
  | none =>
    have hm : m = 0 := by
      rcases Nat.eq_zero_or_pos m with h0 | h0
      · exact h0
      · obtain ⟨b, off, e, _⟩ := hr.at_ h0; cases e
    subst hm
    have hx : xs = [] := List.eq_nil_of_length_eq_zero (by rw [hr.len]; simp)
    subst hx
    have hself : w.setRow g (cur.toList.take o ++ ([] : List Value).take (min 0 dLen * sz) ++ cur.toList.drop (o + min 0 dLen * sz)).toArray = w := by
      have e : (cur.toList.take o ++ ([] : List Value).take (min 0 dLen * sz) ++ cur.toList.drop (o + min 0 dLen * sz)).toArray = cur := by
        apply Array.ext'
        simp
      rw [e]
      exact setRow_self w g cur t (0, 0) hB
    rw [hself]
    cases hq : P.info? elem with
    | none => simp [hq] at hs
    | some i =>
      unfold CopyS
      simp [Builtin.copy_, run_underlying hu, Builtin.lenOf, Builtin.firstCells, sizeOf, typeInfo, hq, storeCells, goInt]
  | some a =>
    have h2 := CopyS.of_blk (P := P) (dT := dT) (sT := sT) (ty := ty) (o := o) (dLen := dLen) (dCap := dCap) (sLen := m) (sCap := c) (a := a) (cs := xs.take (min m dLen * sz)) hu hs hB hlen (fun j v hj => by
      rcases Nat.eq_zero_or_pos m with h0 | h0
      · subst h0
        simp at hj
      · obtain ⟨b, off, e, _, hc⟩ := hr.at_ h0
        injection e with e
        subst e
        rw [addr_of_add]
        rw [List.getElem?_take] at hj
        split at hj
        · exact hc j v hj
        · cases hj) (by rw [hlen]; exact hfit) (fun v hv => h1 v (List.mem_of_mem_take hv))
    rw [hlen] at h2
    exact h2

/-- An element of a row, read. -/
theorem extract_of_take {cur : Array Value} {xs : List Value} {n j sz : Nat} (h : cur.toList.take n = xs) (hj : j + sz ≤ n) : cur.extract j (j + sz) = ((xs.drop j).take sz).toArray := by
  subst h
  apply Array.ext'
  rw [Array.toList_extract, List.extract_eq_take_drop, List.drop_take, List.take_take]
  congr 1
  omega

/-- Where a draw is all that parts two worlds. -/
theorem LoadS.same {P : Program} {w : World} {g o n : Nat} {ty t : TypeId} {cs : Array Value} {fr : Nat × Nat} {d : TypeDesc} (hb : w.heap[g]? = some (.cells cs t fr)) (hu : P.underlying ty = some d) (hd : d.isRow = true)
    (hi : (P.info? ty).map (·.size) = some n) (hle : o + n ≤ cs.size) : ∀ W : World, W.heap[g]? = w.heap[g]? → (LoadS ty (.pointer (some ⟨g, o, none⟩))).run P W = .ok (.agg (cs.extract o (o + n))) W :=
  fun W hW => LoadS.of_blk (by rw [hW]; exact hb) hu hd hi hle

/-- A literal's cells. -/
theorem fill_all (l : List Value) : ∀ (k : Nat) (cs : Array Value), k + l.length ≤ cs.size →
    (l.zipIdx k).foldl (fun cs x => cs.setIfInBounds (0 + x.2) x.1) cs = (cs.toList.take k ++ l ++ cs.toList.drop (k + l.length)).toArray := by
  induction l with
  | nil => intro k cs _; simp
  | cons v l ih =>
    intro k cs h
    simp only [List.length_cons] at h
    rw [List.zipIdx_cons, List.foldl_cons, ih (k + 1) _ (by simp; omega)]
    apply Array.ext'
    simp only [Nat.zero_add, Array.toList_setIfInBounds, List.length_cons]
    apply List.ext_getElem?
    intro j
    have hk : k < cs.toList.length := by simp; omega
    simp only [List.getElem?_append, List.length_append, List.length_take, List.length_cons, List.length_set, List.getElem?_take, List.getElem?_drop, Nat.min_eq_left (Nat.le_of_lt hk), Nat.min_eq_left (show k + 1 ≤ cs.toList.length by omega)]
    by_cases h1 : j < k
    · have h2 : j < k + 1 := by omega
      have h3 : j < k + 1 + l.length := by omega
      have h4 : j < k + (l.length + 1) := by omega
      simp only [h1, h2, h3, h4, if_true]
      rw [List.getElem?_set_ne (by omega)]
    · by_cases h2 : j = k
      · subst h2
        have h3 : j < j + 1 := by omega
        have h4 : j < j + 1 + l.length := by omega
        have h5 : j < j + (l.length + 1) := by omega
        simp only [h3, h4, h5, if_true, h1, if_false, Nat.sub_self, List.getElem?_cons_zero]
        rw [List.getElem?_set_self hk]
      · have h3 : ¬ j < k + 1 := by omega
        by_cases h4 : j < k + 1 + l.length
        · have h5 : j < k + (l.length + 1) := by omega
          simp only [h3, h4, h5, h1, if_true, if_false]
          obtain ⟨m, rfl⟩ : ∃ m, j = k + 1 + m := ⟨j - (k + 1), by omega⟩
          rw [show k + 1 + m - k = m + 1 by omega, List.getElem?_cons_succ]
          congr 1
          omega
        · have h5 : ¬ j < k + (l.length + 1) := by omega
          simp only [h4, h5, if_false]
          rw [List.getElem?_set_ne (by omega)]
          congr 1
          omega

theorem ListS.one {P : Program} {ty e : TypeId} {i : TypeInfo} {z : Value} {size : Nat} (hu : P.underlying ty = some (.slice e)) (hi : P.info? e = some i) (hz : i.zero = some z) (hsize : i.size = size) (hzs : z.cells.size = size) (h0 : 0 < size) (hle : size ≤ 16777216)
    {cs : Array Value} (hc : cs.size = size) (w : World) : (ListS ty 1 #[(0, .agg cs)]).run P w = .ok (.slice (some ⟨w.heap.size, 0, none⟩) 1 1) (w.alloc (.cells cs e)) := by
  have hne : ¬ size = 0 := by omega
  have hcl : ¬ 16777216 < size := by omega
  have hfill : Instr.fill (fun i => some (i * size, size)) ((Array.range size).map (z.cells[· % z.cells.size]!)) [(0, .agg cs)] = some cs := by
    have hZ : ((Array.range size).map (z.cells[· % z.cells.size]!)).size = size := by simp
    generalize (Array.range size).map (z.cells[· % z.cells.size]!) = Z at hZ
    simp only [Instr.fill, Value.cells, hc, Nat.zero_mul]
    rw [if_neg (by simp [hZ])]
    simp only [Option.some.injEq]
    have hf2 := fill_all cs.toList 0 Z (by simp [hc, hZ])
    rw [← Array.foldl_toList, Array.toList_zipIdx, hf2]
    apply Array.ext'
    simp [hc, hZ]
  unfold ListS
  simp [Instr.buildSlice, run_underlying hu, sizeOf, typeInfo, hi, hsize, zeroValue, hz, hne, hcl, hfill, newRow]
end Go.Proofs.YtibndaianhlcaaaDoor
namespace Go.Proofs.YtibndaianhlcaaaDoor
open Go.RowKit Go.Sort
set_option linter.unusedVariables false
set_option linter.unusedSimpArgs false

/-- A unit as memory has it. -/
structure SV where
  name : Txt
  start : Txt
  req : List Txt
  A : Option Addr
  n : Nat
  c : Nat
  aft : List Txt
  A2 : Option Addr
  n2 : Nat
  c2 : Nat
def SV.srv (u : SV) : Srv := ⟨u.name, u.start, u.req, u.aft⟩
def svCells (u : SV) : List Value := [.string ⟨u.name.toArray⟩, .string ⟨u.start.toArray⟩, .slice u.A u.n u.c, .slice u.A2 u.n2 u.c2]
theorem svCells_length (u : SV) : (svCells u).length = 4 := rfl
theorem svCells_one (us : List SV) : ∀ v ∈ us.flatMap svCells, v.oneCell' = true := by
  intro v hv
  obtain ⟨e, _, he⟩ := List.mem_flatMap.1 hv
  simp only [svCells, List.mem_cons, List.not_mem_nil, or_false] at he
  rcases he with rfl | rfl | rfl | rfl <;> rfl
/-- Units in memory, below block B. -/
structure UnitsAt (w : World) (B : Nat) (A : Option Addr) (n c : Nat) (us : List SV) : Prop where
  slc : Slc w B 4 A n c (us.flatMap svCells)
  len : us.length = n
  req : ∀ u ∈ us, Slc w B 1 u.A u.n u.c (u.req.map encStr)
  aft : ∀ u ∈ us, Slc w B 1 u.A2 u.n2 u.c2 (u.aft.map encStr)
theorem UnitsAt.below {w w' : World} {B : Nat} {A : Option Addr} {n c : Nat} {us : List SV} (h : UnitsAt w B A n c us) (hb : Below B w w') : UnitsAt w' B A n c us :=
  ⟨h.slc.below hb, h.len, fun u hu => (h.req u hu).below hb, fun u hu => (h.aft u hu).below hb⟩
theorem UnitsAt.at_ {w : World} {B : Nat} {A : Option Addr} {n c : Nat} {us : List SV} (h : UnitsAt w B A n c us) {k : Nat} (hk : k < n) :
    ∃ b off, A = some ⟨b, off, none⟩ ∧ b < B ∧ ∃ hl : k < us.length, w.cell? ⟨b, off + k * 4, none⟩ = some (.string ⟨us[k].name.toArray⟩) ∧ w.cell? ⟨b, off + k * 4 + 1, none⟩ = some (.string ⟨us[k].start.toArray⟩) ∧
      w.cell? ⟨b, off + k * 4 + 2, none⟩ = some (.slice us[k].A us[k].n us[k].c) ∧ w.cell? ⟨b, off + k * 4 + 3, none⟩ = some (.slice us[k].A2 us[k].n2 us[k].c2) ∧
      Slc w B 1 us[k].A us[k].n us[k].c (us[k].req.map encStr) ∧ Slc w B 1 us[k].A2 us[k].n2 us[k].c2 (us[k].aft.map encStr) := by
  obtain ⟨b, off, e, hb, hc⟩ := h.slc.at_ (by omega)
  have hl : k < us.length := by rw [h.len]; exact hk
  have g : ∀ j u, j < 4 → (svCells us[k])[j]? = some u → w.cell? ⟨b, off + k * 4 + j, none⟩ = some u := fun j u hj hu => by
    have := hc (k * 4 + j) u (by rw [flatMap_get svCells 4 us (fun o _ => svCells_length o) k j hl hj]; exact hu)
    rwa [← Nat.add_assoc] at this
  exact ⟨b, off, e, hb, hl, g 0 _ (by decide) rfl, g 1 _ (by decide) rfl, g 2 _ (by decide) rfl, g 3 _ (by decide) rfl, h.req _ (List.getElem_mem hl), h.aft _ (List.getElem_mem hl)⟩
theorem Row.slc' {w : World} {F : Nat → Prop} {e : TypeId} {sz : Nat} {A : Option Addr} {n m c : Nat} {xs : List Value} (h : Row w F e sz (.slice A m c) n xs) : Slc w w.heap.size sz A n c xs := own_slc_of h.own

def bl (b : Bool) : Value := .bool b
/-- A slice of a typed block of the footprint. -/
structure Cut (w : World) (F : Nat → Prop) (e : TypeId) (A : Option Addr) (n c : Nat) (xs : List Value) : Prop where
  slc : Slc w w.heap.size 1 A n c xs
  at_ : 0 < n → ∃ b off cur fr, A = some ⟨b, off, none⟩ ∧ F b ∧ w.heap[b]? = some (.cells cur e fr)
theorem Cut.nil (w : World) (F : Nat → Prop) (e : TypeId) : Cut w F e none 0 0 [] := ⟨⟨rfl, Nat.le_refl _, Nat.zero_le _, fun h => absurd h (by decide)⟩, fun h => absurd h (by decide)⟩
theorem Cut.of_row {w : World} {F : Nat → Prop} {e : TypeId} {A : Option Addr} {n m c : Nat} {xs : List Value} (h : Row w F e 1 (.slice A m c) n xs) : Cut w F e A n c xs := by
  refine ⟨h.slc', fun hn => ?_⟩
  obtain ⟨g, cap, cur, e1, hF, _, hB, _⟩ := h.form hn
  injection e1 with e1
  exact ⟨g, 0, cur, (0, 0), e1, hF, hB⟩
/-- What is kept beside blocks of another type. -/
theorem Cut.other {w w' : World} {F : Nat → Prop} {e : TypeId} {A : Option Addr} {n c : Nat} {xs : List Value} (h : Cut w F e A n c xs) (hs : w.heap.size ≤ w'.heap.size) (hb : ∀ (k : Nat) (cur : Array Value) (fr : Nat × Nat), w.heap[k]? = some (Obj.cells cur e fr) → w'.heap[k]? = w.heap[k]?) : Cut w' F e A n c xs := by
  refine ⟨⟨h.slc.len, h.slc.le, h.slc.cmax, fun hn => ?_⟩, fun hn => ?_⟩
  · obtain ⟨b, off, e1, hlt, hc⟩ := h.slc.at_ hn
    obtain ⟨b', off', cur, fr, e2, _, hB⟩ := h.at_ hn
    rw [e1] at e2
    injection e2 with e2
    injection e2 with e2 e3
    subst e2 e3
    refine ⟨b, off, e1, by omega, fun j u hu => ?_⟩
    rw [World.cell?_of_block (w := w) (a := ⟨b, off + j, none⟩) (hb b cur fr hB)]
    exact hc j u hu
  · obtain ⟨b, off, cur, fr, e1, hF, hB⟩ := h.at_ hn
    exact ⟨b, off, cur, fr, e1, hF, (hb b cur fr hB).trans hB⟩
theorem Row.other {w w' : World} {F : Nat → Prop} {e : TypeId} {sz : Nat} {v : Value} {n : Nat} {xs : List Value} (h : Row w F e sz v n xs) (hb : ∀ (k : Nat) (cur : Array Value) (fr : Nat × Nat), w.heap[k]? = some (Obj.cells cur e fr) → w'.heap[k]? = w.heap[k]?) : Row w' F e sz v n xs := by
  refine ⟨⟨h.own.1, ?_⟩, h.foot⟩
  rcases h.own.2 with hn | ⟨g, cap, cur, rfl, h1, h2, rest⟩
  · exact .inl hn
  · exact .inr ⟨g, cap, cur, rfl, h1, by rw [hb g cur (0, 0) h2]; exact h2, rest⟩
theorem Row.wide {w : World} {F G : Nat → Prop} {e : TypeId} {sz : Nat} {v : Value} {n : Nat} {xs : List Value} (h : Row w F e sz v n xs) (hg : ∀ k, F k → G k) : Row w G e sz v n xs := ⟨h.own, fun k hk => hg k (h.foot k hk)⟩
theorem Cut.wide {w : World} {F G : Nat → Prop} {e : TypeId} {A : Option Addr} {n c : Nat} {xs : List Value} (h : Cut w F e A n c xs) (hg : ∀ k, F k → G k) : Cut w G e A n c xs :=
  ⟨h.slc, fun hn => by obtain ⟨b, off, cur, fr, e1, hF, hB⟩ := h.at_ hn; exact ⟨b, off, cur, fr, e1, hg b hF, hB⟩⟩
theorem Row.nil (w : World) (F : Nat → Prop) (e : TypeId) (sz : Nat) : Row w F e sz (.slice none 0 0) 0 [] := ⟨World.ownsRow_nil _ _ _ _, fun k h => by cases h⟩

def machC (f u n p : Value) : Array Value := #[f, u, n, p]
/-- The parts of a machine in memory: F is all that it has. -/
structure MachV (w : World) (F : Nat → Prop) (g : Nat) (s : Mach) (fA : Option Addr) (fn fc : Nat) (es : List EV) (uA : Option Addr) (un uc : Nat) (nA : Option Addr) (nn nc : Nat) (us : List SV) (pA : Option Addr) (pn pc : Nat) : Prop where
  blk : Blk w g 36 (machC (.slice fA fn fc) (.slice uA un uc) (.slice nA nn nc) (.slice pA pn pc))
  foot : F g
  files : Row w F 44 3 (.slice fA fn fc) fn (es.flatMap evCells)
  ents : es.map EV.ent = s.files
  data : ∀ e ∈ es, Row w F 5 1 (.slice e.A e.n e.c) e.n (e.data.map bv)
  users : Row w F 9 1 (.slice uA un uc) un (s.users.map encStr)
  units : Row w F 46 4 (.slice nA nn nc) nn (us.flatMap svCells)
  srvs : us.map SV.srv = s.units
  req : ∀ u ∈ us, Row w F 9 1 (.slice u.A u.n u.c) u.n (u.req.map encStr)
  aft : ∀ u ∈ us, Row w F 9 1 (.slice u.A2 u.n2 u.c2) u.n2 (u.aft.map encStr)
  plan : Cut w F 4 pA pn pc (s.plan.map bl)
  sep : ∀ u ∈ us, ∀ k, (Value.slice uA un uc).ownBlock = some k → (Value.slice u.A u.n u.c).ownBlock ≠ some k ∧ (Value.slice u.A2 u.n2 u.c2).ownBlock ≠ some k
def MachAt (w : World) (F : Nat → Prop) (g : Nat) (s : Mach) : Prop := ∃ fA fn fc es uA un uc nA nn nc us pA pn pc, MachV w F g s fA fn fc es uA un uc nA nn nc us pA pn pc
section
variable {w w' : World} {F : Nat → Prop} {g : Nat} {s : Mach} {fA : Option Addr} {fn fc : Nat} {es : List EV} {uA : Option Addr} {un uc : Nat} {nA : Option Addr} {nn nc : Nat} {us : List SV} {pA : Option Addr} {pn pc : Nat}
theorem MachV.flen (h : MachV w F g s fA fn fc es uA un uc nA nn nc us pA pn pc) : es.length = fn ∧ s.files.length = fn := by
  have h1 := h.files.own.1
  rw [flatMap_len evCells 3 es (fun o _ => evCells_length o)] at h1
  have h2 := congrArg List.length h.ents
  rw [List.length_map] at h2
  omega
theorem MachV.ulen (h : MachV w F g s fA fn fc es uA un uc nA nn nc us pA pn pc) : s.users.length = un := by
  have h1 := h.users.own.1
  simpa using h1
theorem MachV.nlen (h : MachV w F g s fA fn fc es uA un uc nA nn nc us pA pn pc) : us.length = nn ∧ s.units.length = nn := by
  have h1 := h.units.own.1
  rw [flatMap_len svCells 4 us (fun o _ => svCells_length o)] at h1
  have h2 := congrArg List.length h.srvs
  rw [List.length_map] at h2
  omega
theorem MachV.plen (h : MachV w F g s fA fn fc es uA un uc nA nn nc us pA pn pc) : s.plan.length = pn := by
  have h1 := h.plan.slc.len
  simpa using h1
/-- What turns elsewhere. -/
theorem MachV.apart (h : MachV w F g s fA fn fc es uA un uc nA nn nc us pA pn pc) (hs : w.heap.size ≤ w'.heap.size) (hb : ∀ k, k < w.heap.size → F k → w'.heap[k]? = w.heap[k]?) : MachV w' F g s fA fn fc es uA un uc nA nn nc us pA pn pc := by
  have hr : ∀ {e : TypeId} {sz n : Nat} {v : Value} {xs : List Value}, Row w F e sz v n xs → Row w' F e sz v n xs := fun hR => hR.kept (fun k hk => hb k (hR.own.lt k hk).2 (hR.foot k hk)) hR.foot
  refine ⟨(hb g h.blk.lt h.foot).trans h.blk, h.foot, hr h.files, h.ents, fun e he => hr (h.data e he), hr h.users, hr h.units, h.srvs, fun u hu => hr (h.req u hu), fun u hu => hr (h.aft u hu), ?_, h.sep⟩
  have hp := h.plan
  refine ⟨⟨hp.slc.len, hp.slc.le, hp.slc.cmax, fun hn => ?_⟩, fun hn => ?_⟩
  · obtain ⟨b, off, e1, hlt, hc⟩ := hp.slc.at_ hn
    obtain ⟨b', off', cur, fr, e2, hF, hB⟩ := hp.at_ hn
    rw [e1] at e2
    injection e2 with e2
    injection e2 with e2 e3
    subst e2 e3
    refine ⟨b, off, e1, by omega, fun j u hu => ?_⟩
    rw [World.cell?_of_block (w := w) (a := ⟨b, off + j, none⟩) (hb b hlt hF)]
    exact hc j u hu
  · obtain ⟨b, off, cur, fr, e1, hF, hB⟩ := hp.at_ hn
    have hlt : b < w.heap.size := by
      rcases Nat.lt_or_ge b w.heap.size with h1 | h1
      · exact h1
      · rw [Array.getElem?_eq_none h1] at hB; cases hB
    exact ⟨b, off, cur, fr, e1, hF, (hb b hlt hF).trans hB⟩
theorem MachV.below (h : MachV w F g s fA fn fc es uA un uc nA nn nc us pA pn pc) (hb : Below w.heap.size w w') : MachV w' F g s fA fn fc es uA un uc nA nn nc us pA pn pc := h.apart hb.size (fun k hk _ => hb.block k hk)
theorem MachV.step {G K : Nat → Prop} (h : MachV w F g s fA fn fc es uA un uc nA nn nc us pA pn pc) (st : Step w w' G K) (hd : ∀ k, F k → ¬ G k) : MachV w' F g s fA fn fc es uA un uc nA nn nc us pA pn pc :=
  h.apart st.size (fun k hk hF => st.block k hk (hd k hF))
/-- Its own variable's cells are written; no other block turns. -/
theorem MachV.cells (h : MachV w F g s fA fn fc es uA un uc nA nn nc us pA pn pc) {p : Addr} (hp : p.block = g) (v : Value) :
    Row (w.setCell p v) F 44 3 (.slice fA fn fc) fn (es.flatMap evCells) ∧ (∀ e ∈ es, Row (w.setCell p v) F 5 1 (.slice e.A e.n e.c) e.n (e.data.map bv)) ∧ Row (w.setCell p v) F 9 1 (.slice uA un uc) un (s.users.map encStr) ∧
      Row (w.setCell p v) F 46 4 (.slice nA nn nc) nn (us.flatMap svCells) ∧ (∀ u ∈ us, Row (w.setCell p v) F 9 1 (.slice u.A u.n u.c) u.n (u.req.map encStr)) ∧ (∀ u ∈ us, Row (w.setCell p v) F 9 1 (.slice u.A2 u.n2 u.c2) u.n2 (u.aft.map encStr)) ∧
      Cut (w.setCell p v) F 4 pA pn pc (s.plan.map bl) := by
  have hne : ∀ (e : TypeId), e ≠ 36 → ∀ (k : Nat) (cur : Array Value) (fr : Nat × Nat), w.heap[k]? = some (Obj.cells cur e fr) → (w.setCell p v).heap[k]? = w.heap[k]? := fun e he k cur fr hk => by
    refine Below.heap_setCell w p v k (fun e1 => ?_)
    rw [hp] at e1
    subst e1
    have hB := h.blk
    unfold Blk at hB
    rw [hB] at hk
    injection hk with hk
    injection hk with _ hk
    exact he hk.symm
  exact ⟨h.files.other (hne _ (by decide)), fun e he => (h.data e he).other (hne _ (by decide)), h.users.other (hne _ (by decide)), h.units.other (hne _ (by decide)), fun u hu => (h.req u hu).other (hne _ (by decide)), fun u hu => (h.aft u hu).other (hne _ (by decide)), h.plan.other (by simp [World.setCell]) (hne _ (by decide))⟩
end
end Go.Proofs.YtibndaianhlcaaaDoor
namespace Go.Proofs.YtibndaianhlcaaaDoor
open Go.RowKit
set_option linter.unusedVariables false
set_option linter.unusedSimpArgs false

theorem own_put {w : World} {base : Nat} {e : TypeId} {size : Nat} {v : Value} {n : Nat} {xs : List Value} (h : w.ownsRow base e size v n xs) {p : Addr} (hp : v.ownBlock ≠ some p.block) (u : Value) : (w.setCell p u).ownsRow base e size v n xs := by
  refine h.kept (row := some p.block) ⟨rfl, rfl, rfl, by simp [World.setCell], fun k hk hne => Below.heap_setCell w p u k (fun e => hne (by rw [e]))⟩ ?_
  exact .inr hp
/-- A variable that is a struct, read whole. -/
theorem load_aggr {P : Program} {T U : TypeId} {k : Nat} (ha : ∀ w, (isAgg T).run P w = .ok true w) (hz : ∀ w, (Go.sizeOf T).run P w = .ok k w) {w : World} {g : Nat} {cs : Array Value} (hcs : cs.size = k) (hb : Blk w g U cs) :
    (loadVar T ⟨g, 0, none⟩).run P w = .ok (.agg cs) w := by
  have hl := run_loadCells_list (P := P) (w := w) ⟨g, 0, none⟩ cs.toList (fun i v hi => by rw [addr_of_add, Nat.zero_add, hb.cell]; simpa using hi)
  rw [Array.length_toList, hcs] at hl
  simp [loadVar, ha, hz, hl]
theorem results_aggr {P : Program} {fn : Func} {t : Tmp} {T U : TypeId} {g k : Nat} {cs : Array Value} {w : World} {tmps : Array Value} (h : fn.results = #[.cell t T]) (ht : tmps.getD t undef = .pointer (some ⟨g, 0, none⟩))
    (ha : ∀ w, (isAgg T).run P w = .ok true w) (hz : ∀ w, (Go.sizeOf T).run P w = .ok k w) (hcs : cs.size = k) (hb : Blk w g U cs) : (results fn tmps).run P w = .ok (.agg cs) w := by
  have hl := load_aggr ha hz hcs hb
  simp only [Array.getD_eq_getD_getElem?] at ht
  simp [results, h, ht, asAddr, hl]
theorem results_aggr2 {P : Program} {fn : Func} {t u : Tmp} {T U : TypeId} {g k : Nat} {cs : Array Value} {w : World} {tmps : Array Value} (h : fn.results = #[.cell t T, .tmp u]) (ht : tmps.getD t undef = .pointer (some ⟨g, 0, none⟩))
    (ha : ∀ w, (isAgg T).run P w = .ok true w) (hz : ∀ w, (Go.sizeOf T).run P w = .ok k w) (hcs : cs.size = k) (hb : Blk w g U cs) : (results fn tmps).run P w = .ok (.tuple #[.agg cs, tmps.getD u undef]) w := by
  have hl := load_aggr ha hz hcs hb
  simp only [Array.getD_eq_getD_getElem?] at ht
  simp [results, h, ht, asAddr, hl]
theorem results_aggr3 {P : Program} {fn : Func} {t u v : Tmp} {T U : TypeId} {g k : Nat} {cs : Array Value} {w : World} {tmps : Array Value} (h : fn.results = #[.cell t T, .tmp u, .tmp v]) (ht : tmps.getD t undef = .pointer (some ⟨g, 0, none⟩))
    (ha : ∀ w, (isAgg T).run P w = .ok true w) (hz : ∀ w, (Go.sizeOf T).run P w = .ok k w) (hcs : cs.size = k) (hb : Blk w g U cs) : (results fn tmps).run P w = .ok (.tuple #[.agg cs, tmps.getD u undef, tmps.getD v undef]) w := by
  have hl := load_aggr ha hz hcs hb
  simp only [Array.getD_eq_getD_getElem?] at ht
  simp [results, h, ht, asAddr, hl]
end Go.Proofs.YtibndaianhlcaaaDoor
namespace Go.Proofs.YtibndaianhlcaaaDoor
open Go.RowKit Go.Sort Go.Shelf
set_option linter.unusedVariables false
set_option linter.unusedSimpArgs false

/-- All that is new belongs to it. -/
def Fn (F : Nat → Prop) (w w' : World) : Nat → Prop := fun k => F k ∨ (w.heap.size ≤ k ∧ k < w'.heap.size)
theorem fn_wide (F : Nat → Prop) (w w' : World) : ∀ k, F k → Fn F w w' k := fun _ h => .inl h
theorem Step.fn {w w' : World} {F G : Nat → Prop} (h : Step w w' F G) : Step w w' F (Fn F w w') := ⟨h.os, h.tape, h.output, h.size, h.block, fun k hk => by rcases hk with h1 | h1; exact .inl h1; exact .inr h1.1⟩
section
variable {w w' : World} {F : Nat → Prop} {g : Nat} {s : Mach} {fA : Option Addr} {fn fc : Nat} {es : List EV} {uA : Option Addr} {un uc : Nat} {nA : Option Addr} {nn nc : Nat} {us : List SV} {pA : Option Addr} {pn pc : Nat}
theorem MachV.wide {G : Nat → Prop} (h : MachV w F g s fA fn fc es uA un uc nA nn nc us pA pn pc) (hg : ∀ k, F k → G k) : MachV w G g s fA fn fc es uA un uc nA nn nc us pA pn pc :=
  ⟨h.blk, hg _ h.foot, h.files.wide hg, h.ents, fun e he => (h.data e he).wide hg, h.users.wide hg, h.units.wide hg, h.srvs, fun u hu => (h.req u hu).wide hg, fun u hu => (h.aft u hu).wide hg, h.plan.wide hg, h.sep⟩
theorem MachV.setPlan (h : MachV w F g s fA fn fc es uA un uc nA nn nc us pA pn pc) {A : Option Addr} {n c : Nat} {p : List Bool} (hp : Cut w F 4 A n c (p.map bl)) :
    MachV (w.setCell ⟨g, 3, none⟩ (.slice A n c)) F g ⟨s.files, s.users, s.units, p⟩ fA fn fc es uA un uc nA nn nc us A n c := by
  obtain ⟨h1, h2, h3, h4, h5, h6, _⟩ := h.cells (p := ⟨g, 3, none⟩) rfl (.slice A n c)
  refine ⟨h.blk.set_ 3 _, h.foot, h1, h.ents, h2, h3, h4, h.srvs, h5, h6, ?_, h.sep⟩
  refine hp.other (by simp [World.setCell]) fun k cur fr hk => ?_
  refine Below.heap_setCell w _ _ k (fun e1 => ?_)
  simp only at e1
  subst e1
  have hB := h.blk
  unfold Blk at hB
  rw [hB] at hk
  injection hk with hk
  injection hk with _ hk
  exact absurd hk (by decide)
theorem MachV.facts (h : MachV w F g s fA fn fc es uA un uc nA nn nc us pA pn pc) : w.cell? ⟨g, 0, none⟩ = some (.slice fA fn fc) ∧ w.cell? ⟨g, 1, none⟩ = some (.slice uA un uc) ∧ w.cell? ⟨g, 2, none⟩ = some (.slice nA nn nc) ∧ w.cell? ⟨g, 3, none⟩ = some (.slice pA pn pc) ∧ ∀ i, w.frozen? ⟨g, i, none⟩ = false :=
  ⟨h.blk.cell 0, h.blk.cell 1, h.blk.cell 2, h.blk.cell 3, h.blk.frozen⟩
end
theorem new_any (w : World) : Calls Tryd.prog 7 #[] w fun e w' => e = .returned (.pointer (some ⟨w.heap.size, 0, none⟩)) ∧ MachAt w' (fun k => k = w.heap.size) w.heap.size newM ∧ Below w.heap.size w w' := by
  have hb := (Below.refl w.heap.size w).alloc (Nat.le_refl _) (.cells #[.slice none 0 0, .slice none 0 0, .slice none 0 0, .slice none 0 0] 36)
  have hB := Blk.new w 36 #[.slice none 0 0, .slice none 0 0, .slice none 0 0, .slice none 0 0]
  go_enter Tryd.func7, Tryd.ntmps7
  go_wp2_with (fail)
  go_ret
  exact ⟨rfl, ⟨none, 0, 0, [], none, 0, 0, none, 0, 0, [], none, 0, 0, hB, rfl, Row.nil _ _ _ _, rfl, (fun e he => by cases he), Row.nil _ _ _ _, Row.nil _ _ _ _, rfl, (fun u hu => by cases hu), (fun u hu => by cases hu), Cut.nil _ _ _, fun u hu => by cases hu⟩, hb⟩
theorem bool_info : (Tryd.prog.info? 4).map (fun i => (i.zero, i.size, i.bytes)) = some (some (.bool false), 1, 1) := by kernel_rfl
theorem bls_one (l : List Bool) : ∀ u ∈ l.map bl, u.oneCell' = true := by
  intro u hu
  obtain ⟨c, _, rfl⟩ := List.mem_map.1 hu
  rfl
set_option maxRecDepth 100000 in
set_option maxHeartbeats 1000000 in
theorem plan_any {w : World} {F : Nat → Prop} {g : Nat} {s : Mach} (h : MachAt w F g s) {B : Nat} {A : Option Addr} {n c : Nat} {p : List Bool} (hp : Slc w B 1 A n c (p.map bl)) (hB : B ≤ w.heap.size) (hn : n ≤ 1000000000) :
    Calls Tryd.prog 8 #[.pointer (some ⟨g, 2, none⟩), .slice A n c] w fun e w' => e = .returned (.tuple #[]) ∧ MachAt w' (Fn F w w') g ⟨s.files, s.users, s.units, p⟩ ∧ Step w w' F (Fn F w w') := by
  obtain ⟨fA, fn, fc, es, uA, un, uc, nA, nn, nc, us, pA, pn, pc, h⟩ := h
  have ho0 : (w.alloc (.cells #[] 4)).ownsRow w.heap.size 4 1 (.slice (some ⟨w.heap.size, 0, none⟩) 0 0) 0 [] := World.ownsRow_made w #[] 0 (Nat.le_refl _) (Nat.zero_le _) rfl
  have hb1 : Below w.heap.size w (w.alloc (.cells #[] 4)) := (Below.refl _ w).alloc (Nat.le_refl _) _
  obtain ⟨i, hi, hz0, hz1, hz2⟩ := info_parts bool_info
  obtain ⟨A2, c2, w2, hr, ho, hg, _⟩ := append_slc (P := Tryd.prog) (w.alloc (.cells #[] 4)) w.heap.size 22 22 4 i _ 1 1 Tryd.underlying22 hi hz0 hz1 hz2 rfl (by decide) _ 0 [] ho0 B A n c (p.map bl) (hp.below (hb1.mono hB)) (bls_one p) (by unfold maxLen; omega) (by omega) (by simp)
  rw [Nat.zero_add, List.nil_append] at ho
  rw [Nat.zero_add] at hr
  have hb2 : Below w.heap.size w w2 := grown_below hb1 ho0 (by simp) hg
  have h2 := h.below hb2
  have hR : Row w2 (Fn F w w2) 4 1 (.slice A2 n c2) n (p.map bl) := ⟨⟨ho.1, ho.2.imp id fun ⟨g', cap, cur, e, _, r⟩ => ⟨g', cap, cur, e, Nat.zero_le _, r⟩⟩, fun k hk => .inr (ho.lt k hk)⟩
  have h3 := (h2.wide (fn_wide F w w2)).setPlan (Cut.of_row hR)
  obtain ⟨_, _, _, m3, mf⟩ := h2.facts
  have mf3 := mf 3
  have HV := Lib.hid h3
  have hst : Step w (w2.setCell ⟨g, 3, none⟩ (.slice A2 n c2)) F F := (Step.of_below hb2 F).setCell (p := ⟨g, 3, none⟩) (.inl h.foot) _
  have HS := Lib.hid hst.fn
  have hsz : (w2.setCell ⟨g, 3, none⟩ (.slice A2 n c2)).heap.size = w2.heap.size := by simp [World.setCell]
  have HE := Lib.hid (show Fn F w (w2.setCell ⟨g, 3, none⟩ (.slice A2 n c2)) = Fn F w w2 by unfold Fn; rw [hsz])
  clear h h2 h3 hR ho hg hb1 hb2 ho0 mf hst hsz hp
  go_enter Tryd.func8, Tryd.ntmps8
  go_wp2_with (at_builtin; refine wpList_append_run rfl _ _ _ rfl rfl rfl hr ?_; clear hr)
  go_end0
  exact ⟨rfl, ⟨fA, fn, fc, es, uA, un, uc, nA, nn, nc, us, A2, n, c2, by rw [HE.out]; exact HV.out⟩, HS.out⟩
theorem plan_head {w : World} {F : Nat → Prop} {A : Option Addr} {n c : Nat} {b : Bool} {p : List Bool} (h : Cut w F 4 A n c ((b :: p).map bl)) : ∃ q off, A = some ⟨q, off, none⟩ ∧ 0 < n ∧ w.cell? ⟨q, off, none⟩ = some (.bool b) ∧
    (c ≠ 1 → Cut w F 4 (some ⟨q, off + 1, none⟩) (n - 1) (c - 1) (p.map bl)) ∧ (c = 1 → Cut w F 4 (some ⟨q, off, none⟩) (n - 1) (c - 1) (p.map bl)) := by
  have hl := h.slc.len
  simp at hl
  obtain ⟨q, off, e, hq, hc⟩ := h.slc.at_ (by omega)
  have h0 := hc 0 (.bool b) rfl
  have hle := h.slc.le
  refine ⟨q, off, e, by omega, h0, fun hc1 => ⟨⟨by simp; omega, by omega, by have := h.slc.cmax; omega, fun hn => ⟨q, off + 1, rfl, hq, fun j u hu => ?_⟩⟩, fun hn => ?_⟩, fun hc1 => ?_⟩
  · have := hc (j + 1) u (by simpa using hu)
    rwa [show off + 1 + j = off + (j + 1) by omega]
  · obtain ⟨b', off', cur, fr, e2, hF, hB⟩ := h.at_ (by omega)
    rw [e] at e2
    injection e2 with e2
    injection e2 with e2 e3
    subst e2
    exact ⟨q, off + 1, cur, fr, rfl, hF, hB⟩
  · have hp0 : p = [] := List.eq_nil_of_length_eq_zero (by omega)
    subst hp0
    exact ⟨⟨by simp; omega, by omega, by omega, fun hn => by omega⟩, fun hn => by omega⟩
set_option maxRecDepth 100000 in
set_option maxHeartbeats 1000000 in
theorem fails_any {w : World} {F : Nat → Prop} {g : Nat} {s : Mach} {fA : Option Addr} {fn fc : Nat} {es : List EV} {uA : Option Addr} {un uc : Nat} {nA : Option Addr} {nn nc : Nat} {us : List SV} {pA : Option Addr} {pn pc : Nat} (h : MachV w F g s fA fn fc es uA un uc nA nn nc us pA pn pc) :
    Calls Tryd.prog 36 #[.pointer (some ⟨g, 2, none⟩)] w fun e w' => e = .returned (.bool (failsP s.plan)) ∧ (∃ qA qn qc, MachV w' F g ⟨s.files, s.users, s.units, s.plan.tail⟩ fA fn fc es uA un uc nA nn nc us qA qn qc) ∧ Step w w' F F ∧ w'.heap.size = w.heap.size := by
  obtain ⟨f, u, n, pl⟩ := s
  cases pl with
  | nil =>
    have hp0 : pn = 0 := by have := h.plen; simpa using this.symm
    subst hp0
    obtain ⟨_, _, _, m3, _⟩ := h.facts
    have H := Lib.hid h
    clear h
    go_enter Tryd.func36, Tryd.ntmps36
    go_wp2_with (fail)
    go_ret
    exact ⟨rfl, ⟨_, _, _, H.out⟩, Step.refl _ _, rfl⟩
  | cons b p =>
    obtain ⟨q, off, rfl, hn, c0, k1, k2⟩ := plan_head h.plan
    obtain ⟨_, _, _, m3, mf⟩ := h.facts
    have mf3 := mf 3
    have hpc : pn ≤ pc := h.plan.slc.le
    have hn0 : ¬ pn = 0 := by omega
    have hneq : ((pn : Int) == 0) = false := by rw [beq_eq_false_iff_ne]; omega
    have h1c : (1 : Int) ≤ (pn : Int) := by omega
    have h1p : 1 ≤ pn := by omega
    have hc62 : pc ≤ 9223372036854775807 := by have := h.plan.slc.cmax; unfold maxLen at this; omega
    have HST := Lib.hid (fun v => (Step.refl w F).setCell (p := ⟨g, 3, none⟩) (.inl h.foot) v)
    by_cases hc1 : pc = 1
    · have HV := Lib.hid (h.setPlan (k2 hc1))
      subst hc1
      obtain rfl : pn = 1 := by omega
      clear h k1 k2 mf
      go_enter Tryd.func36, Tryd.ntmps36
      go_wp2_with (fail)
      go_ret
      exact ⟨rfl, ⟨_, _, _, HV.out⟩, HST.out _, by simp [World.setCell]⟩
    · have HV := Lib.hid (h.setPlan (k1 hc1))
      have hc1' : ¬ 1 = pc := fun e => hc1 e.symm
      clear h k1 k2 mf
      go_enter Tryd.func36, Tryd.ntmps36
      go_wp2_with (fail)
      go_ret
      exact ⟨rfl, ⟨_, _, _, HV.out⟩, HST.out _, by simp [World.setCell]⟩
end Go.Proofs.YtibndaianhlcaaaDoor
namespace Go.Proofs.YtibndaianhlcaaaDoor
open Go.RowKit Go.Sort Go.Shelf
set_option linter.unusedVariables false
set_option linter.unusedSimpArgs false

def svArr (u : SV) : Array Value := #[.string ⟨u.name.toArray⟩, .string ⟨u.start.toArray⟩, .slice u.A u.n u.c, .slice u.A2 u.n2 u.c2]
theorem predU_any (u : SV) (name : Txt) (bn : Nat) (w : World) (hbn : w.cell? ⟨bn, 0, none⟩ = some (.string ⟨name.toArray⟩)) :
    Calls Tryd.prog 55 #[.agg (svArr u), .pointer (some ⟨bn, 0, none⟩)] w fun e w' => e = .returned (.bool (decide (u.name = name))) ∧ Below w.heap.size w w' := by
  have hlt : bn < w.heap.size := World.block_lt_of_cell? _ _ hbn
  have hb := (Below.refl w.heap.size w).alloc (Nat.le_refl _) (.cells (svArr u) 46)
  have t1 : (ByteArray.mk u.name.toArray).toList = u.name := Go.ByteArray.toList_eq _
  have t2 : (ByteArray.mk name.toArray).toList = name := Go.ByteArray.toList_eq _
  unfold svArr at hb ⊢
  obtain ⟨un, us, ur, uA, un1, uc1, ua, uA2, un2, uc2⟩ := u
  simp only at t1 hb ⊢
  cases h : (un == name) with
  | true =>
    have H := Lib.hid (show un = name by simpa using h)
    go_enter Tryd.func55, Tryd.ntmps55
    go_wp2
    go_ret
    exact ⟨by rw [decide_eq_true H.out]; rfl, hb⟩
  | false =>
    have H := Lib.hid (show ¬ un = name by simpa using h)
    go_enter Tryd.func55, Tryd.ntmps55
    go_wp2
    go_ret
    exact ⟨by rw [decide_eq_false H.out]; rfl, hb⟩
def atU (l : List Srv) (n : Txt) : Int := if hasU l n = true then (idxU l n : Int) else -1
set_option maxRecDepth 100000 in
set_option maxHeartbeats 1000000 in
theorem idxU_any {w : World} {B : Nat} {A : Option Addr} {n c : Nat} {us : List SV} (h : UnitsAt w B A n c us) (hB : B ≤ w.heap.size) (name : Txt) (bn : Nat) (hbn : w.cell? ⟨bn, 0, none⟩ = some (.string ⟨name.toArray⟩)) :
    Calls Tryd.prog 54 #[.slice A n c, .func (.func 55) #[] #[.pointer (some ⟨bn, 0, none⟩)]] w fun e w' => e = .returned (.int .i64 (atU (us.map SV.srv) name)) ∧ Below w.heap.size w w' := by
  have hn62 : n ≤ 9223372036854775807 := by have := h.slc.le; have := h.slc.cmax; unfold maxLen at this; omega
  have hbl : bn < w.heap.size := World.block_lt_of_cell? _ _ hbn
  have H := Lib.hid h
  have HL := Lib.hid h.len
  clear h
  go_enter Tryd.func54, Tryd.ntmps54
  go_wp2_with (fail)
  go_loopw [8] (fun i wr => ∃ k : Nat, k ≤ n ∧ i = .int .i64 (k : Int) ∧ Aside (∀ i (hi : i < (us.map SV.srv).length), i < k → (us.map SV.srv)[i].name ≠ name) ∧ Aside (Below w.heap.size w wr)) (fun i _ => n - (intOf i).toNat)
  case atStart => exact ⟨0, Nat.zero_le _, rfl, fun i _ h => absurd h (Nat.not_lt_zero _), Below.refl _ _⟩
  case round =>
    obtain ⟨k, hk, rfl, hno, hb⟩ := hrel
    by_cases hlt : k < n
    · obtain ⟨b, off, rfl, hbB, hl, c0, c1, c2, c3, _, _⟩ := (H.out.below (hb.out.mono hB)).at_ hlt
      have hp := predU_any us[k] name bn wr ((hb.out.cell (p := ⟨bn, 0, none⟩) hbl).trans hbn)
      have hkm : k < (us.map SV.srv).length := by simpa using hl
      have hnm : (us.map SV.srv)[k].name = us[k].name := by simp [SV.srv]
      by_cases hhit : us[k].name = name
      · have HA := Lib.hid (idxU_eq (l := us.map SV.srv) hkm (hnm.trans hhit) (fun i hi hik => hno.out i hi hik))
        rw [decide_eq_true hhit] at hp
        clear hhit hnm hkm
        unfold svArr at hp
        generalize us[k] = u at *
        obtain ⟨un, ust, ur, uA, un1, uc1, ua, uA2, un2, uc2⟩ := u
        simp only at hp c0 c1 c2 c3
        go_wp2_with (go_at_call 55; refine hp.mono ?_; clear hp; rintro e2 w2 ⟨rfl, hb2⟩)
        go_ret
        exact ⟨by unfold atU; rw [if_pos HA.out.2, HA.out.1]; rfl, hb.out.trans (hb2.mono hb.out.size)⟩
      · have HN := Lib.hid (show ∀ i (hi : i < (us.map SV.srv).length), i < k + 1 → (us.map SV.srv)[i].name ≠ name from fun i hi hik => by
          rcases Nat.lt_or_ge i k with h1 | h1
          · exact hno.out i hi h1
          · obtain rfl : i = k := by omega
            rw [hnm]
            exact hhit)
        rw [decide_eq_false hhit] at hp
        clear hhit hnm hkm
        unfold svArr at hp
        generalize us[k] = u at *
        obtain ⟨un, ust, ur, uA, un1, uc1, ua, uA2, un2, uc2⟩ := u
        simp only at hp c0 c1 c2 c3
        go_wp2_with (go_at_call 55; refine hp.mono ?_; clear hp; rintro e2 w2 ⟨rfl, hb2⟩)
        exact ⟨⟨k + 1, by omega, by go_num, HN.out, hb.out.trans (hb2.mono hb.out.size)⟩, by simp [intOf]; omega⟩
    · have HF := Lib.hid (hasU_none (l := us.map SV.srv) (n := name) fun i hi => hno.out i hi (by have := HL.out; simp at hi; omega))
      go_wp2_with (fail)
      go_ret
      exact ⟨by unfold atU; rw [if_neg (by rw [HF.out]; decide)]; rfl, hb.out⟩
theorem MachV.unitsAt {w : World} {F : Nat → Prop} {g : Nat} {s : Mach} {fA : Option Addr} {fn fc : Nat} {es : List EV} {uA : Option Addr} {un uc : Nat} {nA : Option Addr} {nn nc : Nat} {us : List SV} {pA : Option Addr} {pn pc : Nat} (h : MachV w F g s fA fn fc es uA un uc nA nn nc us pA pn pc) : UnitsAt w w.heap.size nA nn nc us :=
  ⟨h.units.slc', h.nlen.1, fun u hu => (h.req u hu).slc', fun u hu => (h.aft u hu).slc'⟩
set_option maxRecDepth 100000 in
theorem at_any {w : World} {F : Nat → Prop} {g : Nat} {s : Mach} {fA : Option Addr} {fn fc : Nat} {es : List EV} {uA : Option Addr} {un uc : Nat} {nA : Option Addr} {nn nc : Nat} {us : List SV} {pA : Option Addr} {pn pc : Nat} (h : MachV w F g s fA fn fc es uA un uc nA nn nc us pA pn pc) (name : Txt) :
    Calls Tryd.prog 35 #[.pointer (some ⟨g, 2, none⟩), .string ⟨name.toArray⟩] w fun e w' => e = .returned (.int .i64 (atU s.units name)) ∧ Below w.heap.size w w' := by
  have hb1 : Below w.heap.size w (w.alloc (.cells #[.string ⟨name.toArray⟩] 9)) := (Below.refl _ w).alloc (Nat.le_refl _) _
  have h1 := h.below hb1
  have hx := idxU_any (h.unitsAt.below hb1) (by simp) name w.heap.size (World.cell?_alloc_mark w _ _ _ 0)
  rw [h.srvs] at hx
  have m2 := h1.facts.2.2.1
  have HB1 := Lib.hid hb1
  clear h h1 hb1
  go_enter Tryd.func35, Tryd.ntmps35
  go_wp2_with (go_at_call 54; refine hx.mono ?_; clear hx; rintro e2 w2 ⟨rfl, hb2⟩)
  go_ret
  exact ⟨rfl, HB1.out.trans (hb2.mono HB1.out.size)⟩
end Go.Proofs.YtibndaianhlcaaaDoor
