/- slices.DeleteFunc as Do calls it: the closures. slices.DeleteFunc: what its loop does to a row. slices.DeleteFunc at texts. slices.DeleteFunc at entries. A machine's files turn. machine.file: two paths compared. -/
import Derived.Test.YtibndaianhlcaaaGreatDoorPart17
import Derived.Test.YtibndaianhlcaaaGreatDoorPart14
namespace Go.Proofs.YtibndaianhlcaaaGreatDoor
open Go.RowKit Go.Sort Go.Shelf
set_option linter.unusedVariables false
set_option linter.unusedSimpArgs false

theorem predE_any (x : EV) (name : Txt) (ba : Nat) (w : World) (hbn : w.cell? ⟨ba, 1, none⟩ = some (.string ⟨name.toArray⟩)) :
    Calls Tryz.prog 85 #[.agg (evArr x), .pointer (some ⟨ba, 0, none⟩)] w fun e w' => e = .returned (.bool (decide (x.path = name))) ∧ Below w.heap.size w w' := by
  have hlt : ba < w.heap.size := World.block_lt_of_cell? _ _ hbn
  have t2 : (ByteArray.mk name.toArray).toList = name := Go.ByteArray.toList_eq _
  have hb := (Below.refl w.heap.size w).alloc (Nat.le_refl _) (.cells (evArr x) 35)
  unfold evArr at hb ⊢
  obtain ⟨xp, xk, xd, xA, xn, xc⟩ := x
  have t1 : (ByteArray.mk xp.toArray).toList = xp := Go.ByteArray.toList_eq _
  simp only at hb ⊢
  cases h : (xp == name) with
  | true =>
    have H := Lib.hid (show xp = name by simpa using h)
    go_enter Tryz.func85, Tryz.ntmps85
    go_wp2
    go_ret
    exact ⟨by rw [decide_eq_true H.out]; rfl, hb⟩
  | false =>
    have H := Lib.hid (show ¬ xp = name by simpa using h)
    go_enter Tryz.func85, Tryz.ntmps85
    go_wp2
    go_ret
    exact ⟨by rw [decide_eq_false H.out]; rfl, hb⟩

theorem predS_any (x : Txt) (name : Txt) (ba : Nat) (w : World) (hbn : w.cell? ⟨ba, 1, none⟩ = some (.string ⟨name.toArray⟩)) :
    Calls Tryz.prog 87 #[.string ⟨x.toArray⟩, .pointer (some ⟨ba, 0, none⟩)] w fun e w' => e = .returned (.bool (decide (x = name))) ∧ Below w.heap.size w w' := by
  have hlt : ba < w.heap.size := World.block_lt_of_cell? _ _ hbn
  have t2 : (ByteArray.mk name.toArray).toList = name := Go.ByteArray.toList_eq _
  have hb := Below.refl w.heap.size w
  have t1 : (ByteArray.mk x.toArray).toList = x := Go.ByteArray.toList_eq _
  cases h : (x == name) with
  | true =>
    have H := Lib.hid (show x = name by simpa using h)
    go_enter Tryz.func87, Tryz.ntmps87
    go_wp2
    go_ret
    exact ⟨by rw [decide_eq_true H.out]; rfl, hb⟩
  | false =>
    have H := Lib.hid (show ¬ x = name by simpa using h)
    go_enter Tryz.func87, Tryz.ntmps87
    go_wp2
    go_ret
    exact ⟨by rw [decide_eq_false H.out]; rfl, hb⟩

/-- What slices.IndexFunc gives. -/
def FoundAtE (es : List EV) (name : Txt) (r : Int) : Prop := (r = -1 ∧ ∀ i (hi : i < es.length), es[i].path ≠ name) ∨ (∃ k : Nat, ∃ hk : k < es.length, r = (k : Int) ∧ es[k].path = name ∧ ∀ i (hi : i < es.length), i < k → es[i].path ≠ name)
set_option maxRecDepth 100000 in
set_option maxHeartbeats 1000000 in
theorem idxE_any {w : World} {B : Nat} {A : Option Addr} {n c : Nat} {es : List EV} (h : EntsAt w B A n c es) (hB : B ≤ w.heap.size) (hn : n ≤ 1000000000) (name : Txt) (ba : Nat) (hbn : w.cell? ⟨ba, 1, none⟩ = some (.string ⟨name.toArray⟩)) :
    Calls Tryz.prog 95 #[.slice A n c, .func (.func 85) #[] #[.pointer (some ⟨ba, 0, none⟩)]] w fun e w' => ∃ r : Int, e = .returned (.int .i64 r) ∧ FoundAtE es name r ∧ Below w.heap.size w w' := by
  have hbl : ba < w.heap.size := World.block_lt_of_cell? _ _ hbn
  have hlen : es.length = n := h.len
  have H := Lib.hid h
  have HL := Lib.hid hlen
  clear h hlen
  go_enter Tryz.func95, Tryz.ntmps95
  go_wp2_with (fail)
  go_loopw [8] (fun i wr => ∃ k : Nat, k ≤ n ∧ i = .int .i64 (k : Int) ∧ Aside (∀ i (hi : i < es.length), i < k → es[i].path ≠ name) ∧ Aside (Below w.heap.size w wr)) (fun i _ => n - (intOf i).toNat)
  case atStart => exact ⟨0, Nat.zero_le _, rfl, fun i _ h => absurd h (Nat.not_lt_zero _), Below.refl _ _⟩
  case round =>
    obtain ⟨k, hk, rfl, hno, hb⟩ := hrel
    by_cases hlt : k < n
    · have hk1 : k + 1 ≤ n := hlt
      obtain ⟨b, off, rfl, hbB, hl, c0, c1, c2, _⟩ := (H.out.below (hb.out.mono hB)).at_ hlt
      have hp := predE_any es[k] name ba wr ((hb.out.cell (p := ⟨ba, 1, none⟩) hbl).trans hbn)
      by_cases hhit : es[k].path = name
      · have HA := Lib.hid (show FoundAtE es name (k : Int) from .inr ⟨k, hl, rfl, hhit, hno.out⟩)
        rw [decide_eq_true hhit] at hp
        clear hhit
        unfold evArr at hp
        generalize es[k] = x at *
        obtain ⟨xp, xk, xd, xA, xn, xc⟩ := x
        simp only at hp c0 c1 c2
        go_wp2_with (go_at_call 85; refine hp.mono ?_; clear hp; rintro e2 w2 ⟨rfl, hb2⟩)
        go_ret
        exact ⟨_, rfl, HA.out, hb.out.trans (hb2.mono hb.out.size)⟩
      · have HN := Lib.hid (show ∀ i (hi : i < es.length), i < k + 1 → es[i].path ≠ name from fun i hi hik => by
          rcases Nat.lt_or_ge i k with h1 | h1
          · exact hno.out i hi h1
          · obtain rfl : i = k := by omega
            exact hhit)
        rw [decide_eq_false hhit] at hp
        clear hhit
        unfold evArr at hp
        generalize es[k] = x at *
        obtain ⟨xp, xk, xd, xA, xn, xc⟩ := x
        simp only at hp c0 c1 c2
        go_wp2_with (go_at_call 85; refine hp.mono ?_; clear hp; rintro e2 w2 ⟨rfl, hb2⟩)
        exact ⟨⟨k + 1, hk1, by go_num, HN.out, hb.out.trans (hb2.mono hb.out.size)⟩, by clear HN hb2; simp [intOf]; omega⟩
    · have HF := Lib.hid (show FoundAtE es name (-1) from .inl ⟨rfl, fun i hi => hno.out i hi (by have := HL.out; omega)⟩)
      go_wp2_with (fail)
      go_ret
      exact ⟨_, rfl, HF.out, hb.out⟩

/-- What slices.IndexFunc gives. -/
def FoundAtS (l : List Txt) (name : Txt) (r : Int) : Prop := (r = -1 ∧ ∀ i (hi : i < l.length), l[i] ≠ name) ∨ (∃ k : Nat, ∃ hk : k < l.length, r = (k : Int) ∧ l[k] = name ∧ ∀ i (hi : i < l.length), i < k → l[i] ≠ name)
set_option maxRecDepth 100000 in
set_option maxHeartbeats 1000000 in
theorem idxS_any {w : World} {B : Nat} {A : Option Addr} {n c : Nat} {l : List Txt} (h : Slc w B 1 A n c (l.map encStr)) (hB : B ≤ w.heap.size) (hn : n ≤ 1000000000) (name : Txt) (ba : Nat) (hbn : w.cell? ⟨ba, 1, none⟩ = some (.string ⟨name.toArray⟩)) :
    Calls Tryz.prog 111 #[.slice A n c, .func (.func 87) #[] #[.pointer (some ⟨ba, 0, none⟩)]] w fun e w' => ∃ r : Int, e = .returned (.int .i64 r) ∧ FoundAtS l name r ∧ Below w.heap.size w w' := by
  have hbl : ba < w.heap.size := World.block_lt_of_cell? _ _ hbn
  have hlen : l.length = n := by have := h.len; simpa using this
  have H := Lib.hid h
  have HL := Lib.hid hlen
  clear h hlen
  go_enter Tryz.func111, Tryz.ntmps111
  go_wp2_with (fail)
  go_loopw [8] (fun i wr => ∃ k : Nat, k ≤ n ∧ i = .int .i64 (k : Int) ∧ Aside (∀ i (hi : i < l.length), i < k → l[i] ≠ name) ∧ Aside (Below w.heap.size w wr)) (fun i _ => n - (intOf i).toNat)
  case atStart => exact ⟨0, Nat.zero_le _, rfl, fun i _ h => absurd h (Nat.not_lt_zero _), Below.refl _ _⟩
  case round =>
    obtain ⟨k, hk, rfl, hno, hb⟩ := hrel
    by_cases hlt : k < n
    · have hk1 : k + 1 ≤ n := hlt
      obtain ⟨b, off, rfl, hbB, hc⟩ := (H.out.below (hb.out.mono hB)).at_ (show 0 < n by omega)
      have hl : k < l.length := by rw [HL.out]; exact hlt
      have c0 : wr.cell? ⟨b, off + k, none⟩ = some (.string ⟨l[k].toArray⟩) := hc k _ (by rw [List.getElem?_map, List.getElem?_eq_getElem hl]; rfl)
      clear hc
      have hp := predS_any l[k] name ba wr ((hb.out.cell (p := ⟨ba, 1, none⟩) hbl).trans hbn)
      by_cases hhit : l[k] = name
      · have HA := Lib.hid (show FoundAtS l name (k : Int) from .inr ⟨k, hl, rfl, hhit, hno.out⟩)
        rw [decide_eq_true hhit] at hp
        clear hhit
        generalize l[k] = x at *
        go_wp2_with (go_at_call 87; refine hp.mono ?_; clear hp; rintro e2 w2 ⟨rfl, hb2⟩)
        go_ret
        exact ⟨_, rfl, HA.out, hb.out.trans (hb2.mono hb.out.size)⟩
      · have HN := Lib.hid (show ∀ i (hi : i < l.length), i < k + 1 → l[i] ≠ name from fun i hi hik => by
          rcases Nat.lt_or_ge i k with h1 | h1
          · exact hno.out i hi h1
          · obtain rfl : i = k := by omega
            exact hhit)
        rw [decide_eq_false hhit] at hp
        clear hhit
        generalize l[k] = x at *
        go_wp2_with (go_at_call 87; refine hp.mono ?_; clear hp; rintro e2 w2 ⟨rfl, hb2⟩)
        exact ⟨⟨k + 1, hk1, by go_num, HN.out, hb.out.trans (hb2.mono hb.out.size)⟩, by clear HN hb2; simp [intOf]; omega⟩
    · have HF := Lib.hid (show FoundAtS l name (-1) from .inl ⟨rfl, fun i hi => hno.out i hi (by have := HL.out; omega)⟩)
      go_wp2_with (fail)
      go_ret
      exact ⟨_, rfl, HF.out, hb.out⟩

end Go.Proofs.YtibndaianhlcaaaGreatDoor
namespace Go.Proofs.YtibndaianhlcaaaGreatDoor
open Go.RowKit Go.Sort Go.Shelf
set_option linter.unusedVariables false
set_option linter.unusedSimpArgs false

theorem sets_rec {α : Type} (cells : α → List Value) (sz : Nat) (hsz : ∀ x, (cells x).length = sz) {R : List α} {cur : Array Value} {n c : Nat} (hc : cur.size = c * sz) (hn : R.length = n) (hnc : n ≤ c) (ht : cur.toList.take (n * sz) = R.flatMap cells) {i : Nat} (hi : i < n) (x : α) :
    (sets cur (i * sz) (cells x)).toList.take (n * sz) = (R.set i x).flatMap cells := by
  have hcl : cur.toList.length = c * sz := by rw [Array.length_toList, hc]
  have h1 : i * sz + sz ≤ n * sz := by rw [← Nat.succ_mul]; exact Nat.mul_le_mul_right _ hi
  have h2 : n * sz ≤ c * sz := Nat.mul_le_mul_right _ hnc
  have hfm := fun k => flatMap_take cells sz R k (fun x _ => hsz x)
  rw [sets_list _ _ _ (by rw [hsz, hc]; omega), hsz, List.set_eq_take_append_cons_drop, if_pos (by omega), List.flatMap_append, List.flatMap_cons, ← (hfm i).1, ← (hfm (i + 1)).2, ← ht, List.take_take, Nat.min_eq_left (by omega), List.append_assoc, List.take_append]
  have h3 : (cur.toList.take (i * sz)).length = i * sz := by rw [List.length_take]; omega
  rw [List.take_of_length_le (by omega), h3]
  congr 1
  rw [List.take_append, hsz, List.take_of_length_le (by rw [hsz]; omega)]
  congr 1
  rw [Nat.succ_mul, List.take_drop]
  congr 2
  omega
/-- The row while it is gone through: what is kept of the first j, then as it was from i on. -/
def midR {α : Type} (p : α → Bool) (l : List α) (i j : Nat) : List α := (l.take j).filter p ++ l.drop i
theorem midR_len {α : Type} (p : α → Bool) (l : List α) {i j : Nat} (h : ((l.take j).filter p).length = i) (hi : i ≤ l.length) : (midR p l i j).length = l.length := by
  unfold midR
  rw [List.length_append, h, List.length_drop]
  omega
theorem midR_get {α : Type} (p : α → Bool) (l : List α) {i j : Nat} (h : ((l.take j).filter p).length = i) (hij : i ≤ j) : (midR p l i j)[j]? = l[j]? := by
  unfold midR
  rw [List.getElem?_append_right (by omega), h, List.getElem?_drop]
  congr 1
  omega
theorem midR_keep {α : Type} (p : α → Bool) (l : List α) {i j : Nat} (h : ((l.take j).filter p).length = i) (hij : i ≤ j) (hj : j < l.length) (hp : p l[j] = true) : (midR p l i j).set i l[j] = midR p l (i + 1) (j + 1) ∧ ((l.take (j + 1)).filter p).length = i + 1 := by
  have e : (l.take (j + 1)).filter p = (l.take j).filter p ++ [l[j]] := by
    rw [List.take_succ_eq_append_getElem hj, List.filter_append, List.filter_cons, if_pos hp, List.filter_nil]
  refine ⟨?_, by rw [e, List.length_append, h]; rfl⟩
  unfold midR
  rw [e, List.set_append_right _ _ (by omega), h, Nat.sub_self, List.append_assoc]
  congr 1
  rw [List.drop_eq_getElem_cons (show i < l.length by omega)]
  rfl
theorem midR_drop {α : Type} (p : α → Bool) (l : List α) {j : Nat} (hj : j < l.length) (hp : p l[j] = false) : (l.take (j + 1)).filter p = (l.take j).filter p := by
  rw [List.take_succ_eq_append_getElem hj, List.filter_append, List.filter_cons, if_neg (by rw [hp]; decide), List.filter_nil, List.append_nil]
theorem midR_start {α : Type} (p : α → Bool) (l : List α) {k : Nat} (hk : k < l.length) (h1 : ∀ i (hi : i < l.length), i < k → p l[i] = true) (h2 : p l[k] = false) : midR p l k (k + 1) = l ∧ ((l.take (k + 1)).filter p).length = k := by
  have e : (l.take k).filter p = l.take k := by
    rw [List.filter_eq_self]
    intro x hx
    obtain ⟨i, hi, rfl⟩ := List.mem_iff_getElem.1 hx
    rw [List.length_take] at hi
    rw [List.getElem_take]
    exact h1 i (by omega) (by omega)
  unfold midR
  rw [midR_drop p l hk h2, e, List.take_append_drop]
  exact ⟨rfl, by rw [List.length_take]; omega⟩
theorem midR_end {α : Type} (p : α → Bool) (l : List α) {i : Nat} : (midR p l i l.length).take (l.filter p).length = l.filter p := by
  unfold midR
  rw [List.take_length, List.take_append_of_le_length (Nat.le_refl _), List.take_length]
/-- clear of what is left behind. -/
theorem run_clear_any {W : World} {T sl : TypeId} {z : Value} {sz : Nat} {g : Nat} {cur : Array Value} {off N c : Nat} (hu : Tryz.prog.underlying sl = some (.slice T)) (hz : ∀ w, (zeroValue T).run Tryz.prog w = .ok z w) (hzs : z.cells.size = sz) (h1 : ∀ v ∈ z.cells.toList, v.oneCell' = true) (hB : Blk W g T cur) (hs : off + N * sz ≤ cur.size) (hN : 0 < N) :
    ∃ vs : List Value, vs.length = N * sz ∧ ∀ ty, (Builtin.clear_ #[sl] ty #[.slice (some ⟨g, off, none⟩) N c]).run Tryz.prog W = .ok (.tuple #[]) (W.setCells g off vs) := by
  obtain ⟨vs, hvs⟩ : ∃ vs, vs = (Builtin.zeroCells z.cells N).toList := ⟨_, rfl⟩
  have hvl : vs.length = N * sz := by rw [hvs, Array.length_toList, size_zeroCells, hzs]
  have hone : ∀ v ∈ vs, v.oneCell' = true := by
    intro v hv
    rw [hvs] at hv
    simp only [Builtin.zeroCells, Array.toList_map, List.mem_map] at hv
    obtain ⟨i, hi, rfl⟩ := hv
    have hi2 : i < N * z.cells.size := by simpa using hi
    have hp : 0 < z.cells.size := by
      rcases Nat.eq_zero_or_pos z.cells.size with h0 | h0
      · rw [h0] at hi2; simp at hi2
      · exact h0
    have hm : i % z.cells.size < z.cells.size := Nat.mod_lt _ hp
    rw [getElem!_pos z.cells _ hm]
    exact h1 _ (by simp)
  have hst := run_storeCells_cells (P := Tryz.prog) g off vs 0 W (fun j hj => by rw [hB.cell, Array.getElem?_eq_getElem (by omega)]; rfl) (fun j hj => hB.frozen _) hone
  simp only [Nat.add_zero] at hst
  refine ⟨vs, hvl, fun ty => ?_⟩
  have e : (Builtin.zeroCells z.cells N).toList = vs := hvs.symm
  clear hvs hvl
  obtain ⟨m, rfl⟩ : ∃ m, N = m + 1 := ⟨N - 1, by omega⟩
  simp [Builtin.clear_, run_underlying hu, hz, e, hst]
end Go.Proofs.YtibndaianhlcaaaGreatDoor
namespace Go.Proofs.YtibndaianhlcaaaGreatDoor
open Go.RowKit Go.Sort Go.Shelf
set_option linter.unusedVariables false
set_option linter.unusedSimpArgs false

def txtC (t : Txt) : List Value := [encStr t]
theorem txtC_map (l : List Txt) : l.map encStr = l.flatMap txtC := by
  induction l with
  | nil => rfl
  | cons a l ih => rw [List.map_cons, List.flatMap_cons, ih]; rfl
theorem first_of {L : List Txt} {name : Txt} (h : ¬ ∀ i (hi : i < L.length), L[i] ≠ name) : ∃ k, ∃ hk : k < L.length, L[k] = name ∧ ∀ i (hi : i < L.length), i < k → L[i] ≠ name := by
  induction L with
  | nil => exact absurd (fun i hi => by simp at hi) h
  | cons a L ih =>
    by_cases ha : a = name
    · exact ⟨0, by simp, ha, fun i _ h => absurd h (Nat.not_lt_zero _)⟩
    · obtain ⟨k, hk, h1, h2⟩ := ih (fun h' => h (fun i hi => by
        cases i with
        | zero => exact ha
        | succ i => exact h' i (by simpa using hi)))
      refine ⟨k + 1, by simpa using hk, h1, fun i hi hik => ?_⟩
      cases i with
      | zero => exact ha
      | succ i => exact h2 i (by simpa using hi) (by omega)
def keepT (name : Txt) (x : Txt) : Bool := decide (x ≠ name)
def DelPostS (w : World) (F : Nat → Prop) (A : Option Addr) (n c : Nat) (l : List Txt) (name : Txt) : Ending → World → Prop := fun e w' => ∃ m, e = .returned (.slice A m c) ∧ Row w' F 9 1 (.slice A m c) m ((l.filter (keepT name)).map encStr) ∧ w.grownBy w' (Value.slice A n c).ownBlock
set_option maxRecDepth 100000 in
set_option maxHeartbeats 2000000 in
theorem delS_any {w : World} {F : Nat → Prop} {A : Option Addr} {n c : Nat} {l : List Txt} (h : Row w F 9 1 (.slice A n c) n (l.map encStr)) (hn : n ≤ 1000000) (name : Txt) (ba : Nat) {cs : Array Value} (hba : Blk w ba 61 cs) (hcs : cs[1]? = some (.string ⟨name.toArray⟩)) :
    Calls Tryz.prog 86 #[.slice A n c, .func (.func 87) #[] #[.pointer (some ⟨ba, 0, none⟩)]] w (DelPostS w F A n c l name) := by
  have hbn : w.cell? ⟨ba, 1, none⟩ = some (.string ⟨name.toArray⟩) := by rw [hba.cell]; exact hcs
  have hl : l.length = n := by have := h.own.1; simpa using this
  have hidx := idxS_any (h.slc') (Nat.le_refl _) (by omega) name ba hbn
  by_cases hno : ∀ i (hi : i < l.length), l[i] ≠ name
  · have hidx' : Calls Tryz.prog 111 #[.slice A n c, .func (.func 87) #[] #[.pointer (some ⟨ba, 0, none⟩)]] w fun e w' => e = .returned (.int .i64 (-1)) ∧ Below w.heap.size w w' := hidx.mono (by
      rintro e w' ⟨r, rfl, hf, hb⟩
      rcases hf with ⟨rfl, _⟩ | ⟨k, hk, _, h2, _⟩
      · exact ⟨rfl, hb⟩
      · exact absurd h2 (hno k hk))
    have HF := Lib.hid (show l.filter (keepT name) = l from List.filter_eq_self.2 fun x hx => by
      obtain ⟨i, hi, rfl⟩ := List.mem_iff_getElem.1 hx
      exact decide_eq_true (hno i hi))
    have H := Lib.hid h
    clear hidx hno h hba hcs hbn hl
    go_enter Tryz.func86, Tryz.ntmps86
    go_wp2_with (go_at_call 111; refine hidx'.mono ?_; clear hidx'; rintro e w1 ⟨rfl, hb1⟩)
    go_ret
    exact ⟨n, rfl, by rw [HF.out]; exact H.out.belo hb1, ⟨hb1.os, hb1.tape, hb1.output, hb1.size, fun k hk _ => hb1.block k hk⟩⟩
  · obtain ⟨k, hk, hk1, hk2⟩ := first_of hno
    have hidx' : Calls Tryz.prog 111 #[.slice A n c, .func (.func 87) #[] #[.pointer (some ⟨ba, 0, none⟩)]] w fun e w' => e = .returned (.int .i64 (k : Int)) ∧ Below w.heap.size w w' := hidx.mono (by
      rintro e w' ⟨r, rfl, hf, hb⟩
      rcases hf with ⟨_, h2⟩ | ⟨k', hk', rfl, h2, h3⟩
      · exact absurd hk1 (h2 k hk)
      · rcases Nat.lt_trichotomy k k' with h4 | h4 | h4
        · exact absurd hk1 (h3 k hk h4)
        · subst h4; exact ⟨rfl, hb⟩
        · exact absurd h2 (hk2 k' hk' h4))
    rcases h.own.2 with ⟨e, h0⟩ | ⟨g, cap, cur, e, hb0, hb, hb1, hb2, hb3, hb4⟩
    · omega
    injection e with e1 _ e3
    subst e1 e3
    have hB : Blk w g 9 cur := hb
    have hFg : F g := h.foot g rfl
    have hbg : ba ≠ g := by
      rintro rfl
      unfold Blk at hB hba
      rw [hB] at hba
      injection hba with hba
      injection hba with _ hba
      exact absurd hba (by decide)
    rw [txtC_map] at hb4
    obtain ⟨m0, m1⟩ := midR_start (keepT name) l hk (fun i hi hik => decide_eq_true (hk2 i hi hik)) (decide_eq_false (by simpa using hk1))
    have HB := Lib.hid hB
    have HM0 := Lib.hid m0
    have HM1 := Lib.hid m1
    have HC3 := Lib.hid (show cur.size = c * 1 from hb3)
    have HC4 := Lib.hid hb4
    have HL := Lib.hid hl
    have HBA := Lib.hid hbn
    have hkn : k < n := by omega
    have hk62 : k ≤ 1000000 := by omega
    have HBL := Lib.hid hba.lt
    have hc63 : c ≤ 9223372036854775807 := by unfold maxLen at hb2; omega
    have hneg : ((k : Int) == -1) = false := by rw [beq_eq_false_iff_ne]; omega
    have hk1w : IntKind.i64.wrap ((k : Int) + 1) = (k : Int) + 1 := IntWalk.i64_in _ (by omega)
    clear hidx hno h hba hcs hbn hl hb hB hb3 hb4 m0 m1 hk1 hk2
    go_enter Tryz.func86, Tryz.ntmps86
    go_wp2_with (go_at_call 111; refine hidx'.mono ?_; clear hidx'; rintro e w1 ⟨rfl, hbw1⟩)
    go_loopw [5, 6] (fun si sj wr => ∃ (i j : Nat) (cur' : Array Value), i < j ∧ j ≤ n ∧ si = .int .i64 (i : Int) ∧ sj = .int .i64 (j : Int) ∧ Aside (((l.take j).filter (keepT name)).length = i) ∧ Aside (Blk wr g 9 cur') ∧ Aside (cur'.size = c * 1) ∧ Aside (cur'.toList.take (n * 1) = (midR (keepT name) l i j).flatMap txtC) ∧ Aside (w.grownBy wr (some g))) (fun _ sj _ => n - (intOf sj).toNat)
    case atStart => exact ⟨k, k + 1, cur, Nat.lt_succ_self _, hkn, rfl, by go_num, HM1.out, HB.out.below hbw1 HB.out.lt, HC3.out, by show _ = _; rw [HM0.out]; exact HC4.out, ⟨hbw1.os, hbw1.tape, hbw1.output, hbw1.size, fun k hk _ => hbw1.block k hk⟩⟩
    case round =>
      obtain ⟨i, j, cur', hij, hjn, rfl, rfl, hlen, hB, hsz, ht, hg⟩ := hrel
      have hin : i < n := Nat.lt_of_lt_of_le hij hjn
      have hi62 : i ≤ 1000000 := by omega
      by_cases hlt : j < n
      · have hj1 : j + 1 ≤ n := hlt
        have hjl : j < l.length := by rw [HL.out]; exact hlt
        have c0 : wr.cell? ⟨g, j, none⟩ = some (.string ⟨l[j].toArray⟩) := by
          have h1 := midR_get (keepT name) l hlen.out (Nat.le_of_lt hij)
          have h2 : (cur'.toList.take (n * 1))[j]? = ((midR (keepT name) l i j).flatMap txtC)[j]? := by rw [show cur'.toList.take (n * 1) = _ from ht.out]
          rw [← txtC_map, List.getElem?_map, h1, List.getElem?_take, if_pos (by omega), List.getElem?_eq_getElem hjl] at h2
          rw [hB.out.cell, ← Array.getElem?_toList, h2]
          rfl
        have hcb : wr.cell? ⟨ba, 1, none⟩ = some (.string ⟨name.toArray⟩) := by
          rw [World.cell?_of_block (w := w) (a := ⟨ba, 1, none⟩) (hg.out.block ba HBL.out (by intro e9; injection e9 with e9; exact hbg e9))]
          exact HBA.out
        have hp := predS_any l[j] name ba wr hcb
        have hK := Lib.hid (fun h9 => midR_keep (keepT name) l hlen.out (Nat.le_of_lt hij) hjl h9)
        have hD := Lib.hid (fun h9 => midR_drop (keepT name) l hjl h9)
        have hKT := Lib.hid (show keepT name l[j] = !decide (l[j] = name) by unfold keepT; simp)
        have hMS := Lib.hid (sets_rec txtC 1 (fun _ => rfl) hsz.out (midR_len (keepT name) l hlen.out (by omega) |>.trans HL.out) (by omega : n ≤ c) ht.out hin l[j])
        generalize l[j] = x at *
        have i0 := hB.out.cell i
        rw [Array.getElem?_eq_getElem (show i < cur'.size by rw [hsz.out]; omega)] at i0
        by_cases hhit : x = name
        · rw [decide_eq_true hhit] at hp
          have HKF := Lib.hid (hD.out (by rw [hKT.out, decide_eq_true hhit]; rfl))
          clear hhit i0
          go_wp2_with (go_at_call 87; refine hp.mono ?_; clear hp; rintro e2 w2 ⟨rfl, hb2⟩)
          exact ⟨⟨i, j + 1, cur', Nat.lt_succ_of_lt hij, hj1, rfl, by go_num, by show _ = _; rw [HKF.out]; exact hlen.out, hB.out.below hb2 hB.out.lt, hsz.out, by show _ = _; unfold midR; rw [HKF.out]; exact ht.out, ⟨hb2.os.trans hg.out.os, hb2.tape.trans hg.out.tape, hb2.output.trans hg.out.output, Nat.le_trans hg.out.size hb2.size, fun q hq hne => by rw [hb2.block q (Nat.lt_of_lt_of_le hq hg.out.size), hg.out.block q hq hne]⟩⟩, by clear HKF; simp [intOf]; omega⟩
        · rw [decide_eq_false hhit] at hp
          have HKP := Lib.hid (hK.out (by rw [hKT.out, decide_eq_false hhit]; rfl))
          clear hhit
          go_wp2_with (go_at_call 87; refine hp.mono ?_; clear hp; rintro e2 w2 ⟨rfl, hb2⟩; have hB2 := hB.out.below hb2 hB.out.lt; have i2 := hB2.cell i; rw [Array.getElem?_eq_getElem (show i < cur'.size by rw [hsz.out]; omega)] at i2; have if2 := hB2.frozen i; have HB2 := Lib.hid hB2; clear hB2)
          have HS : Hid (Blk (w2.setCell ⟨g, i, none⟩ (.string ⟨x.toArray⟩)) g 9 (sets cur' (i * 1) (txtC x))) := by
            have h9 := HB2.out.set_ i (.string ⟨x.toArray⟩)
            rw [Nat.mul_one]
            exact h9
          exact ⟨⟨i + 1, j + 1, _, Nat.succ_lt_succ hij, hj1, by go_num, by go_num, HKP.out.2, HS.out, by show _ = _; rw [sets_size]; exact hsz.out, by show _ = _; rw [hMS.out, HKP.out.1], ⟨hb2.os.trans hg.out.os, hb2.tape.trans hg.out.tape, hb2.output.trans hg.out.output, by have := Nat.le_trans hg.out.size hb2.size; simpa [World.setCell] using this, fun q hq hne => by rw [Below.heap_setCell _ _ _ _ (fun e9 => hne (by rw [e9])), hb2.block q (Nat.lt_of_lt_of_le hq hg.out.size), hg.out.block q hq hne]⟩⟩, by clear HKP HS; simp [intOf]; omega⟩
      · obtain rfl : j = n := by omega
        have hlf : (l.filter (keepT name)).length = i := by
          have h9 := hlen.out
          rwa [List.take_of_length_le (Nat.le_of_eq HL.out)] at h9
        obtain ⟨vs, hvl, hcl⟩ := run_clear_any (W := wr) (T := 9) (sl := 23) (sz := 1) (off := i) (N := j - i) (c := c - i) Tryz.underlying23 Tryz.zeroValue9 rfl (by intro v hv; simp [Value.cells] at hv; rw [hv]; rfl) hB.out (by rw [hsz.out]; omega) (by omega)
        have HBF := Lib.hid (Blk.setCells vs i hB.out)
        have HGF := Lib.hid (grownBy_setCells (g := g) vs i hg.out)
        have HVL := Lib.hid hvl
        have hic : i ≤ c := by omega
        have hnec : ¬ i = c := by omega
        have hnec2 : ¬ c = i := by omega
        have hile : i ≤ j := Nat.le_of_lt hij
        have HT := Lib.hid (show (sets cur' i vs).toList.take (i * 1) = (l.filter (keepT name)).map encStr by
          have h1 : i + vs.length ≤ cur'.size := by rw [hsz.out, hvl]; omega
          have h2 := congrArg (List.take i) ht.out
          have h3 := midR_end (keepT name) l (i := i)
          rw [HL.out, hlf] at h3
          rw [← txtC_map, ← List.map_take, h3, List.take_take, Nat.mul_one, Nat.min_eq_left hile] at h2
          rw [Nat.mul_one, sets_list _ _ _ h1, List.append_assoc, List.take_append_of_le_length (by rw [List.length_take, Array.length_toList]; omega), List.take_take, Nat.min_self]
          exact h2)
        have HLF := Lib.hid hlf
        clear hvl hlf hlen
        go_wp2_with (fail)
        go_ret
        exact ⟨i, rfl, ⟨⟨by rw [List.length_map, HLF.out, Nat.mul_one], .inr ⟨g, c, _, rfl, Nat.zero_le _, HBF.out, hic, hb2, by rw [sets_size, hsz.out], HT.out⟩⟩, fun q hq => by injection hq with hq; rw [← hq]; exact hFg⟩, HGF.out⟩
end Go.Proofs.YtibndaianhlcaaaGreatDoor
namespace Go.Proofs.YtibndaianhlcaaaGreatDoor
open Go.RowKit Go.Sort Go.Shelf
set_option linter.unusedVariables false
set_option linter.unusedSimpArgs false

theorem first_ofE {L : List EV} {name : Txt} (h : ¬ ∀ i (hi : i < L.length), L[i].path ≠ name) : ∃ k, ∃ hk : k < L.length, L[k].path = name ∧ ∀ i (hi : i < L.length), i < k → L[i].path ≠ name := by
  obtain ⟨k, hk, h1, h2⟩ := first_of (L := L.map (·.path)) (name := name) (fun h' => h (fun i hi => by have := h' i (by simpa using hi); simpa using this))
  exact ⟨k, by simpa using hk, by simpa using h1, fun i hi hik => by have := h2 i (by simpa using hi) hik; simpa using this⟩
def keepE (name : Txt) (x : EV) : Bool := decide (x.path ≠ name)
def DelPostE (w : World) (F : Nat → Prop) (A : Option Addr) (n c : Nat) (l : List EV) (name : Txt) : Ending → World → Prop := fun e w' => ∃ m, e = .returned (.slice A m c) ∧ Row w' F 35 3 (.slice A m c) m ((l.filter (keepE name)).flatMap evCells) ∧ w.grownBy w' (Value.slice A n c).ownBlock
set_option maxRecDepth 100000 in
set_option maxHeartbeats 2000000 in
theorem delE_any {w : World} {F : Nat → Prop} {A : Option Addr} {n c : Nat} {l : List EV} (h : Row w F 35 3 (.slice A n c) n (l.flatMap evCells)) (hE : EntsAt w w.heap.size A n c l) (hn : n ≤ 1000000) (name : Txt) (ba : Nat) {cs : Array Value} (hba : Blk w ba 61 cs) (hcs : cs[1]? = some (.string ⟨name.toArray⟩)) :
    Calls Tryz.prog 84 #[.slice A n c, .func (.func 85) #[] #[.pointer (some ⟨ba, 0, none⟩)]] w (DelPostE w F A n c l name) := by
  have hbn : w.cell? ⟨ba, 1, none⟩ = some (.string ⟨name.toArray⟩) := by rw [hba.cell]; exact hcs
  have hl : l.length = n := hE.len
  have hidx := idxE_any hE (Nat.le_refl _) (by omega) name ba hbn
  by_cases hno : ∀ i (hi : i < l.length), l[i].path ≠ name
  · have hidx' : Calls Tryz.prog 95 #[.slice A n c, .func (.func 85) #[] #[.pointer (some ⟨ba, 0, none⟩)]] w fun e w' => e = .returned (.int .i64 (-1)) ∧ Below w.heap.size w w' := hidx.mono (by
      rintro e w' ⟨r, rfl, hf, hb⟩
      rcases hf with ⟨rfl, _⟩ | ⟨k, hk, _, h2, _⟩
      · exact ⟨rfl, hb⟩
      · exact absurd h2 (hno k hk))
    have HF := Lib.hid (show l.filter (keepE name) = l from List.filter_eq_self.2 fun x hx => by
      obtain ⟨i, hi, rfl⟩ := List.mem_iff_getElem.1 hx
      exact decide_eq_true (hno i hi))
    have H := Lib.hid h
    clear hidx hno h hE hba hcs hbn hl
    go_enter Tryz.func84, Tryz.ntmps84
    go_wp2_with (go_at_call 95; refine hidx'.mono ?_; clear hidx'; rintro e w1 ⟨rfl, hb1⟩)
    go_ret
    exact ⟨n, rfl, by rw [HF.out]; exact H.out.belo hb1, ⟨hb1.os, hb1.tape, hb1.output, hb1.size, fun k hk _ => hb1.block k hk⟩⟩
  · obtain ⟨k, hk, hk1, hk2⟩ := first_ofE hno
    have hidx' : Calls Tryz.prog 95 #[.slice A n c, .func (.func 85) #[] #[.pointer (some ⟨ba, 0, none⟩)]] w fun e w' => e = .returned (.int .i64 (k : Int)) ∧ Below w.heap.size w w' := hidx.mono (by
      rintro e w' ⟨r, rfl, hf, hb⟩
      rcases hf with ⟨_, h2⟩ | ⟨k', hk', rfl, h2, h3⟩
      · exact absurd hk1 (h2 k hk)
      · rcases Nat.lt_trichotomy k k' with h4 | h4 | h4
        · exact absurd hk1 (h3 k hk h4)
        · subst h4; exact ⟨rfl, hb⟩
        · exact absurd h2 (hk2 k' hk' h4))
    rcases h.own.2 with ⟨e, h0⟩ | ⟨g, cap, cur, e, hb0, hb, hb1, hb2, hb3, hb4⟩
    · omega
    injection e with e1 _ e3
    subst e1 e3
    have hB : Blk w g 35 cur := hb
    have hFg : F g := h.foot g rfl
    have hbg : ba ≠ g := by
      rintro rfl
      unfold Blk at hB hba
      rw [hB] at hba
      injection hba with hba
      injection hba with _ hba
      exact absurd hba (by decide)
    obtain ⟨m0, m1⟩ := midR_start (keepE name) l hk (fun i hi hik => decide_eq_true (hk2 i hi hik)) (decide_eq_false (by simpa using hk1))
    have HB := Lib.hid hB
    have HM0 := Lib.hid m0
    have HM1 := Lib.hid m1
    have HC3 := Lib.hid (show cur.size = c * 3 from hb3)
    have HC4 := Lib.hid hb4
    have HL := Lib.hid hl
    have HBA := Lib.hid hbn
    have hkn : k < n := by omega
    have hk62 : k ≤ 1000000 := by omega
    have HBL := Lib.hid hba.lt
    have hc63 : c ≤ 9223372036854775807 := by unfold maxLen at hb2; omega
    have hneg : ((k : Int) == -1) = false := by rw [beq_eq_false_iff_ne]; omega
    have hk1w : IntKind.i64.wrap ((k : Int) + 1) = (k : Int) + 1 := IntWalk.i64_in _ (by omega)
    clear hidx hno h hE hba hcs hbn hl hb hB hb3 hb4 m0 m1 hk1 hk2
    go_enter Tryz.func84, Tryz.ntmps84
    go_wp2_with (go_at_call 95; refine hidx'.mono ?_; clear hidx'; rintro e w1 ⟨rfl, hbw1⟩)
    go_loopw [5, 6] (fun si sj wr => ∃ (i j : Nat) (cur' : Array Value), i < j ∧ j ≤ n ∧ si = .int .i64 (i : Int) ∧ sj = .int .i64 (j : Int) ∧ Aside (((l.take j).filter (keepE name)).length = i) ∧ Aside (Blk wr g 35 cur') ∧ Aside (cur'.size = c * 3) ∧ Aside (cur'.toList.take (n * 3) = (midR (keepE name) l i j).flatMap evCells) ∧ Aside (w.grownBy wr (some g))) (fun _ sj _ => n - (intOf sj).toNat)
    case atStart => exact ⟨k, k + 1, cur, Nat.lt_succ_self _, hkn, rfl, by go_num, HM1.out, HB.out.below hbw1 HB.out.lt, HC3.out, by show _ = _; rw [HM0.out]; exact HC4.out, ⟨hbw1.os, hbw1.tape, hbw1.output, hbw1.size, fun k hk _ => hbw1.block k hk⟩⟩
    case round =>
      obtain ⟨i, j, cur', hij, hjn, rfl, rfl, hlen, hB, hsz, ht, hg⟩ := hrel
      have hin : i < n := Nat.lt_of_lt_of_le hij hjn
      have hi62 : i ≤ 1000000 := by omega
      by_cases hlt : j < n
      · have hj1 : j + 1 ≤ n := hlt
        have hjl : j < l.length := by rw [HL.out]; exact hlt
        have cE : ∀ t u, t < 3 → (evCells l[j])[t]? = some u → wr.cell? ⟨g, j * 3 + t, none⟩ = some u := fun t u ht3 hu => by
          have h1 := midR_get (keepE name) l hlen.out (Nat.le_of_lt hij)
          have hRl : (midR (keepE name) l i j).length = n := (midR_len (keepE name) l hlen.out (by omega)).trans HL.out
          have hjR : j < (midR (keepE name) l i j).length := by omega
          rw [List.getElem?_eq_getElem hjR, List.getElem?_eq_getElem hjl] at h1
          have h2 := flatMap_get evCells 3 (midR (keepE name) l i j) (fun o _ => evCells_length o) j t hjR ht3
          rw [Option.some.inj h1, hu, ← show cur'.toList.take (n * 3) = _ from ht.out, List.getElem?_take, if_pos (by omega)] at h2
          rw [hB.out.cell, ← Array.getElem?_toList, h2]
        have c0 := cE 0 _ (by decide) rfl
        have c1 := cE 1 _ (by decide) rfl
        have c2 := cE 2 _ (by decide) rfl
        rw [Nat.add_zero] at c0
        clear cE
        have hcb : wr.cell? ⟨ba, 1, none⟩ = some (.string ⟨name.toArray⟩) := by
          rw [World.cell?_of_block (w := w) (a := ⟨ba, 1, none⟩) (hg.out.block ba HBL.out (by intro e9; injection e9 with e9; exact hbg e9))]
          exact HBA.out
        have hbal : ba < wr.heap.size := World.block_lt_of_cell? _ _ hcb
        have hgl : g < wr.heap.size := hB.out.lt
        have hp := predE_any l[j] name ba (wr.alloc (.cells (evArr l[j]) 35)) ((cells_alloc hbal _ 1).trans hcb)
        have HVAR := Lib.hid (Blk.new wr 35 (evArr l[j]))
        have HBV := Lib.hid ((Below.refl wr.heap.size wr).alloc (Nat.le_refl _) (.cells (evArr l[j]) 35))
        have hK := Lib.hid (fun h9 => midR_keep (keepE name) l hlen.out (Nat.le_of_lt hij) hjl h9)
        have hD := Lib.hid (fun h9 => midR_drop (keepE name) l hjl h9)
        have hKT := Lib.hid (show keepE name l[j] = !decide (l[j].path = name) by unfold keepE; simp)
        have hMS := Lib.hid (sets_rec evCells 3 (fun _ => rfl) hsz.out (midR_len (keepE name) l hlen.out (by omega) |>.trans HL.out) (by omega : n ≤ c) ht.out hin l[j])
        generalize l[j] = x at *
        have hc3 : i * 3 + 2 < cur'.size := by rw [hsz.out]; omega
        by_cases hhit : x.path = name
        · rw [decide_eq_true hhit] at hp
          have HKF := Lib.hid (hD.out (by rw [hKT.out, decide_eq_true hhit]; rfl))
          clear hhit
          obtain ⟨xp, xk, xd, xA, xn, xc⟩ := x
          unfold evArr at hp
          simp only at c0 c1 c2 hp
          go_wp2_with (go_at_call 85; refine hp.mono ?_; clear hp; rintro e2 w2 ⟨rfl, hb2⟩; have hb2' := HBV.out.trans (Below.mono hb2 HBV.out.size); clear hb2; have hb2 := hb2'; clear hb2')
          exact ⟨⟨i, j + 1, cur', Nat.lt_succ_of_lt hij, hj1, rfl, by go_num, by show _ = _; rw [HKF.out]; exact hlen.out, hB.out.below hb2 hB.out.lt, hsz.out, by show _ = _; unfold midR; rw [HKF.out]; exact ht.out, ⟨hb2.os.trans hg.out.os, hb2.tape.trans hg.out.tape, hb2.output.trans hg.out.output, Nat.le_trans hg.out.size hb2.size, fun q hq hne => by rw [hb2.block q (Nat.lt_of_lt_of_le hq hg.out.size), hg.out.block q hq hne]⟩⟩, by clear HKF; simp [intOf]; omega⟩
        · rw [decide_eq_false hhit] at hp
          have HKP := Lib.hid (hK.out (by rw [hKT.out, decide_eq_false hhit]; rfl))
          clear hhit
          obtain ⟨xp, xk, xd, xA, xn, xc⟩ := x
          unfold evArr at hp HVAR HBV
          simp only at c0 c1 c2 hp
          go_wp2_with (go_at_call 85; go_loud (refine hp.mono ?_; clear hp; rintro e2 w2 ⟨rfl, hb9⟩; have hb2 := HBV.out.trans (Below.mono hb9 HBV.out.size); have hV2 := HVAR.out.below hb9 HVAR.out.lt; have v0 := hV2.cell 0; have v1 := hV2.cell 1; have v2 := hV2.cell 2; simp only [List.getElem?_toArray, List.getElem?_cons_zero, List.getElem?_cons_succ] at v0 v1 v2; have hB2 := hB.out.below hb2 hB.out.lt; have i0 := hB2.cell (i * 3); have i1 := hB2.cell (i * 3 + 1); have i2 := hB2.cell (i * 3 + 2); rw [Array.getElem?_eq_getElem (Nat.lt_of_le_of_lt (Nat.le_add_right _ 2) hc3)] at i0; rw [Array.getElem?_eq_getElem (Nat.lt_of_succ_lt hc3)] at i1; rw [Array.getElem?_eq_getElem hc3] at i2; have if0 := hB2.frozen (i * 3); have if1 := hB2.frozen (i * 3 + 1); have if2 := hB2.frozen (i * 3 + 2); have HB2 := Lib.hid hB2; have HBB := Lib.hid hb2; clear hB2 hV2 hb9 hb2))
          have hb2 := HBB.out
          have HS := Lib.hid (((HB2.out.set_ (i * 3) (.string ⟨xp.toArray⟩)).set_ (i * 3 + 1) (.int .i64 xk)).set_ (i * 3 + 2) (.slice xA xn xc))
          exact ⟨⟨i + 1, j + 1, _, Nat.succ_lt_succ hij, hj1, by go_num, by go_num, HKP.out.2, HS.out, by show _ = _; rw [show ((cur'.setIfInBounds (i * 3) (.string ⟨xp.toArray⟩)).setIfInBounds (i * 3 + 1) (.int .i64 xk)).setIfInBounds (i * 3 + 2) (.slice xA xn xc) = sets cur' (i * 3) (evCells ⟨xp, xk, xd, xA, xn, xc⟩) from rfl, sets_size]; exact hsz.out, by show _ = _; rw [show ((cur'.setIfInBounds (i * 3) (.string ⟨xp.toArray⟩)).setIfInBounds (i * 3 + 1) (.int .i64 xk)).setIfInBounds (i * 3 + 2) (.slice xA xn xc) = sets cur' (i * 3) (evCells ⟨xp, xk, xd, xA, xn, xc⟩) from rfl, hMS.out, HKP.out.1], ⟨hb2.os.trans hg.out.os, hb2.tape.trans hg.out.tape, hb2.output.trans hg.out.output, by have := Nat.le_trans hg.out.size hb2.size; simpa [World.setCell] using this, fun q hq hne => by rw [Below.heap_setCell _ _ _ _ (fun e9 => hne (by rw [e9])), Below.heap_setCell _ _ _ _ (fun e9 => hne (by rw [e9])), Below.heap_setCell _ _ _ _ (fun e9 => hne (by rw [e9])), hb2.block q (Nat.lt_of_lt_of_le hq hg.out.size), hg.out.block q hq hne]⟩⟩, by clear HKP HS; simp [intOf]; omega⟩
      · obtain rfl : j = n := by omega
        have hlf : (l.filter (keepE name)).length = i := by
          have h9 := hlen.out
          rwa [List.take_of_length_le (Nat.le_of_eq HL.out)] at h9
        obtain ⟨vs, hvl, hcl⟩ := run_clear_any (W := wr) (T := 35) (sl := 22) (sz := 3) (off := i * 3) (N := j - i) (c := c - i) Tryz.underlying22 Tryz.zeroValue35 rfl (by intro v hv; simp [Value.cells] at hv; rcases hv with rfl | rfl | rfl <;> rfl) hB.out (by rw [hsz.out]; omega) (by omega)
        have HBF := Lib.hid (Blk.setCells vs (i * 3) hB.out)
        have HGF := Lib.hid (grownBy_setCells (g := g) vs (i * 3) hg.out)
        have HVL := Lib.hid hvl
        have hic : i ≤ c := by omega
        have hnec : ¬ i = c := by omega
        have hnec2 : ¬ c = i := by omega
        have hile : i ≤ j := Nat.le_of_lt hij
        have HT := Lib.hid (show (sets cur' (i * 3) vs).toList.take (i * 3) = (l.filter (keepE name)).flatMap evCells by
          have h1 : i * 3 + vs.length ≤ cur'.size := by rw [hsz.out, hvl]; omega
          have h2 : (cur'.toList.take (j * 3)).take (i * 3) = ((midR (keepE name) l i j).flatMap evCells).take (i * 3) := by rw [show cur'.toList.take (j * 3) = _ from ht.out]
          have h3 := midR_end (keepE name) l (i := i)
          rw [HL.out, hlf] at h3
          rw [(flatMap_take evCells 3 _ i (fun o _ => evCells_length o)).1, h3, List.take_take, Nat.min_eq_left (by omega)] at h2
          have h4 : cur'.toList.length = cur'.size := Array.length_toList
          rw [sets_list _ _ _ h1, List.append_assoc, List.take_append_of_le_length (by rw [List.length_take]; omega), List.take_take, Nat.min_self]
          exact h2)
        have HLF := Lib.hid hlf
        clear hvl hlf hlen
        go_wp2_with (fail)
        go_ret
        exact ⟨i, rfl, ⟨⟨by rw [flatMap_len evCells 3 _ (fun o _ => evCells_length o), HLF.out], .inr ⟨g, c, _, rfl, Nat.zero_le _, HBF.out, hic, hb2, by rw [sets_size, hsz.out], HT.out⟩⟩, fun q hq => by injection hq with hq; rw [← hq]; exact hFg⟩, HGF.out⟩
end Go.Proofs.YtibndaianhlcaaaGreatDoor
namespace Go.Proofs.YtibndaianhlcaaaGreatDoor
open Go.RowKit Go.Sort Go.Shelf
set_option linter.unusedVariables false
set_option linter.unusedSimpArgs false

section
variable {w w' : World} {F : Nat → Prop} {g : Nat} {s : Mach} {fA : Option Addr} {fn fc : Nat} {es : List EV} {uA : Option Addr} {un uc : Nat} {nA : Option Addr} {nn nc : Nat} {us : List SV} {pA : Option Addr} {pn pc : Nat}
theorem MachV.setFiles (h : MachV w F g s fA fn fc es uA un uc nA nn nc us pA pn pc) {G : Nat → Prop} (hg : w.grownBy w' (Value.slice fA fn fc).ownBlock) (hF : ∀ k, F k → G k) {fA' : Option Addr} {fn' fc' : Nat} {es' : List EV}
    (hu : Row w' G 35 3 (.slice fA' fn' fc') fn' (es'.flatMap evCells)) (hd : ∀ e ∈ es', e ∈ es ∨ Row w' G 5 1 (.slice e.A e.n e.c) e.n (e.data.map bv)) :
    MachV (w'.setCell ⟨g, 0, none⟩ (.slice fA' fn' fc')) G g ⟨es'.map EV.ent, s.users, s.units, s.plan⟩ fA' fn' fc' es' uA un uc nA nn nc us pA pn pc := by
  have ht := row_typed h.files
  have k1 : ∀ {e : TypeId}, e ≠ 35 → _ := fun {e} he => grown_other hg ht (e := e) he
  have hB : Blk w' g 53 _ := (k1 (by decide) g _ (0, 0) h.blk).trans h.blk
  have k2 : ∀ {e : TypeId}, e ≠ 53 → _ := fun {e} he => set_other hB (e := e) he 0 (.slice fA' fn' fc')
  have hs : w'.heap.size ≤ (w'.setCell ⟨g, 0, none⟩ (.slice fA' fn' fc')).heap.size := by simp [World.setCell]
  refine ⟨hB.set_ 0 _, hF _ h.foot, hu.other (k2 (by decide)), rfl, fun e he => ?_, ((h.users.other (k1 (by decide))).other (k2 (by decide))).wide hF, ((h.units.other (k1 (by decide))).other (k2 (by decide))).wide hF, h.srvs,
    fun u hu' => (((h.req u hu').other (k1 (by decide))).other (k2 (by decide))).wide hF, fun u hu' => (((h.aft u hu').other (k1 (by decide))).other (k2 (by decide))).wide hF, ((h.plan.other hg.size (k1 (by decide))).other hs (k2 (by decide))).wide hF, h.sep⟩
  rcases hd e he with h1 | h1
  · exact (((h.data e h1).other (k1 (by decide))).other (k2 (by decide))).wide hF
  · exact h1.other (k2 (by decide))
theorem MachV.kept0 (h : MachV w F g s fA fn fc es uA un uc nA nn nc us pA pn pc) (hg : w.grownBy w' (Value.slice fA fn fc).ownBlock) : w'.cell? ⟨g, 0, none⟩ = some (.slice fA fn fc) ∧ w'.frozen? ⟨g, 0, none⟩ = false := by
  have hk := grown_other hg (row_typed h.files) (e := 53) (by decide) g _ (0, 0) h.blk
  have hB : Blk w' g 53 _ := hk.trans h.blk
  exact ⟨hB.cell 0, hB.frozen 0⟩
end
/-- The files that are kept, as the model says. -/
theorem filter_ents (es : List EV) (name : Txt) : (es.filter (keepE name)).map EV.ent = (es.map EV.ent).filter fun x => decide (x.path ≠ name) := by
  rw [List.filter_map]
  rfl
end Go.Proofs.YtibndaianhlcaaaGreatDoor
namespace Go.Proofs.YtibndaianhlcaaaGreatDoor
open Go.RowKit Go.Sort Go.Shelf
set_option linter.unusedVariables false
set_option linter.unusedSimpArgs false

theorem compare_sound : ∀ a b : Txt, (Lib.compareBytes a b < 0 ↔ a < b) ∧ (Lib.compareBytes a b = 0 ↔ a = b)
  | [], [] => by simp [Lib.compareBytes]
  | [], b :: bs => by simp [Lib.compareBytes]
  | a :: as', [] => by simp [Lib.compareBytes]
  | a :: as', b :: bs => by
    have ih := compare_sound as' bs
    unfold Lib.compareBytes
    by_cases h1 : a < b
    · rw [if_pos h1]
      refine ⟨⟨fun _ => List.Lex.rel h1, fun _ => (by decide)⟩, ⟨fun h => absurd h (by decide), fun h => ?_⟩⟩
      injection h with h _
      subst h
      exact absurd h1 (by simp)
    · rw [if_neg h1]
      by_cases h2 : b < a
      · rw [if_pos h2]
        refine ⟨⟨fun h => absurd h (by decide), fun h => ?_⟩, ⟨fun h => absurd h (by decide), fun h => ?_⟩⟩
        · rcases List.cons_lt_cons_iff.1 h with h3 | ⟨h3, _⟩
          · exact absurd h3 h1
          · subst h3; exact absurd h2 h1
        · injection h with h _
          subst h
          exact absurd h2 h1
      · rw [if_neg h2]
        have hab : a = b := by
          apply UInt8.toNat_inj.1
          have e1 : ¬ a.toNat < b.toNat := h1
          have e2 : ¬ b.toNat < a.toNat := h2
          omega
        subst hab
        refine ⟨ih.1.trans ⟨fun h => List.cons_lt_cons_iff.2 (.inr ⟨rfl, h⟩), fun h => ?_⟩, ih.2.trans ⟨fun h => (by rw [h]), fun h => (by injection h)⟩⟩
        rcases List.cons_lt_cons_iff.1 h with h3 | ⟨_, h3⟩
        · exact absurd h3 h1
        · exact h3
set_option maxRecDepth 100000 in
theorem cmpE_any (x : EV) (p : Txt) (w : World) :
    Calls Tryz.prog 113 #[.agg (evArr x), .string ⟨p.toArray⟩] w fun e w' => e = .returned (.int .i64 (Lib.compareBytes x.path p)) ∧ Below w.heap.size w w' := by
  have hb := (Below.refl w.heap.size w).alloc (Nat.le_refl _) (.cells (evArr x) 35)
  have hc := Tryz.strings_Compare ⟨x.path.toArray⟩ ⟨p.toArray⟩ (w.alloc (.cells (evArr x) 35))
  have e1 : (ByteArray.mk x.path.toArray).data.toList = x.path := rfl
  have e2 : (ByteArray.mk p.toArray).data.toList = p := rfl
  rw [e1, e2] at hc
  generalize Lib.compareBytes x.path p = r at *
  have HB := Lib.hid hb
  clear hb e1 e2
  obtain ⟨xp, xk, xd, xA, xn, xc⟩ := x
  unfold evArr at hc ⊢
  simp only at hc ⊢
  go_enter Tryz.func113, Tryz.ntmps113
  go_wp2_with (go_at_call 114; refine hc.mono ?_; clear hc; rintro e2 w2 ⟨rfl, rfl⟩)
  go_ret
  exact ⟨rfl, HB.out⟩
end Go.Proofs.YtibndaianhlcaaaGreatDoor
