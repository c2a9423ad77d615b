/- Rows that are put together out of parts of others: append(append(append([]T{}, l[:k]...), x), l[j:]...), whatever T is, in whatever order its parts are made. The walk of the reference's Name (bootjackref06). The reference of layer 20: May. -/
import Derived.Test.YtibndaianhlcaaaGreatDoorPart9
import Derived.Test.YtibndaianhlcaaaGreatDoorPart7
import Derived.Test.YtibndaianhlcaaaGreatDoorPart8
import Derived.Test.YtibndaianhlcaaaGreatDoorPart2
import Derived.Deep.QuietTactic
import Derived.BigQuiet
import Derived.Test.YtibndaianhlcaaaGreatDoorPart17
namespace Go.Proofs.YtibndaianhlcaaaGreatDoor
open Go.RowKit Go.Sort
set_option linter.unusedVariables false
set_option linter.unusedSimpArgs false

theorem heap_new2 (w : World) (o1 o2 : Obj) : ((w.alloc o1).alloc o2).drew.heap[w.heap.size + 1]? = some o2 := by
  have h := heap_alloc_new (w.alloc o1) o2
  rw [World.size_alloc] at h
  exact h
/-- A slice of a slice. -/
def CutS (ty : TypeId) (x : Value) (lo hi mx : Option Value) : Sem Value := Instr.slice ty x lo hi mx
def headG (A : Option Addr) (n c k : Nat) : Value := .slice (if c = 0 then A else A.map (·.add 0)) k c
def tailG (A : Option Addr) (n c k sz : Nat) : Value := .slice (if c = k then A else A.map (·.add (k * sz))) (n - k) (c - k)
/-- Rows of elements of type e. -/
structure RowT (t e : TypeId) (sz : Nat) : Prop where
  und : Tryz.prog.underlying t = some (.slice e)
  size : (Tryz.prog.info? e).map (·.size) = some sz
  pos : 0 < sz
  app : ∀ {w : World} {base : Nat} {v : Value} {n : Nat} {xs : List Value} {B : Nat} {A : Option Addr} {m c : Nat} {ys : List Value}, w.ownsRow base e sz v n xs → Slc w B sz A m c ys → (∀ u ∈ ys, u.oneCell' = true) → n + m ≤ 1000000000 → base ≤ w.heap.size →
    ∃ A' c' w', (Builtin.append_ #[t, t] t #[v, .slice A m c]).run Tryz.prog w = .ok (.slice A' (n + m) c') w' ∧ w'.ownsRow base e sz (.slice A' (n + m) c') (n + m) (xs ++ ys) ∧ w.grownBy w' v.ownBlock ∧ ((Value.slice A' (n + m) c').ownBlock = v.ownBlock ∨ (Value.slice A' (n + m) c').ownBlock = some w.heap.size)
theorem cut_low {t e : TypeId} {sz : Nat} (T : RowT t e sz) {A : Option Addr} {n c k : Nat} {z : Int} (hz : z = (k : Int)) (hk : k ≤ c) (W : World) : (CutS t (.slice A n c) none (some (.int .i64 z)) none).run Tryz.prog W = .ok (headG A n c k) W := by
  subst hz
  have hs := T.size
  unfold CutS headG
  cases hq : Tryz.prog.info? e with
  | none => rw [hq] at hs; cases hs
  | some i => simp [Instr.slice, Instr.sliceBounds, Instr.sliceBound, run_underlying T.und, sizeOf, typeInfo, hq, asIntOf, hk]
theorem cut_high {t e : TypeId} {sz : Nat} (T : RowT t e sz) {A : Option Addr} {n c k : Nat} {z : Int} (hz : z = (k : Int)) (hk : k ≤ n) (W : World) : (CutS t (.slice A n c) (some (.int .i64 z)) none none).run Tryz.prog W = .ok (tailG A n c k sz) W := by
  subst hz
  have hs := T.size
  unfold CutS tailG
  cases hq : Tryz.prog.info? e with
  | none => rw [hq] at hs; cases hs
  | some i =>
    have hi : i.size = sz := by rw [hq] at hs; simpa using hs
    simp [Instr.slice, Instr.sliceBounds, Instr.sliceBound, run_underlying T.und, sizeOf, typeInfo, hq, hi, asIntOf, hk]
theorem head_slc {w : World} {B sz : Nat} {A : Option Addr} {n c : Nat} {xs : List Value} (h : Slc w B sz A n c xs) {k : Nat} (hk : k ≤ n) : ∃ A', headG A n c k = .slice A' k c ∧ Slc w B sz A' k c (xs.take (k * sz)) := by
  refine ⟨_, rfl, ⟨by rw [List.length_take, h.len]; exact Nat.min_eq_left (Nat.mul_le_mul_right _ hk), Nat.le_trans hk h.le, h.cmax, fun hp => ?_⟩⟩
  obtain ⟨b, off, e, hb, hc⟩ := h.at_ (by omega)
  subst e
  have hle := h.le
  refine ⟨b, off, by rw [if_neg (by omega)]; simp [addr_of_add], hb, fun j u hu => hc j u ?_⟩
  rw [List.getElem?_take] at hu
  split at hu
  · exact hu
  · cases hu
theorem tail_slc {w : World} {B sz : Nat} {A : Option Addr} {n c : Nat} {xs : List Value} (h : Slc w B sz A n c xs) {k : Nat} (hk : k ≤ n) : ∃ A' c', tailG A n c k sz = .slice A' (n - k) c' ∧ Slc w B sz A' (n - k) c' (xs.drop (k * sz)) := by
  have hle := h.le
  have hcm := h.cmax
  refine ⟨_, _, rfl, ⟨by rw [List.length_drop, h.len, Nat.sub_mul], by omega, by omega, fun hp => ?_⟩⟩
  obtain ⟨b, off, e, hb, hc⟩ := h.at_ (by omega)
  subst e
  refine ⟨b, off + k * sz, by rw [if_neg (by omega)]; simp [addr_of_add], hb, fun j u hu => ?_⟩
  rw [Nat.add_assoc]
  exact hc (k * sz + j) u (by rwa [List.getElem?_drop] at hu)
theorem empty_row (W : World) (e : TypeId) (sz base x : Nat) (hx : W.heap[x]? = some (.cells #[] e (0, 0))) (hb : base ≤ x) : W.ownsRow base e sz (.slice (some ⟨x, 0, none⟩) 0 0) 0 [] := ⟨by simp, .inr ⟨x, 0, #[], rfl, hb, hx, Nat.le_refl _, Nat.zero_le _, by simp, by simp⟩⟩
/-- append([]T{}, part...), at whatever block the empty row is. -/
theorem put_one {t e : TypeId} {sz : Nat} (T : RowT t e sz) {w W : World} {A : Option Addr} {k c : Nat} {ys : List Value} {B : Nat} (h : Slc w B sz A k c ys) (hB : B ≤ w.heap.size) (h1 : ∀ u ∈ ys, u.oneCell' = true) (hn : k ≤ 1000000000) {x : Nat} (hb : Below w.heap.size w W) (hx : W.heap[x]? = some (.cells #[] e (0, 0))) (hxb : w.heap.size ≤ x) :
    ∃ A1 c1 w1, (Builtin.append_ #[t, t] t #[.slice (some ⟨x, 0, none⟩) 0 0, .slice A k c]).run Tryz.prog W = .ok (.slice A1 k c1) w1 ∧ w1.ownsRow w.heap.size e sz (.slice A1 k c1) k ys ∧ Below w.heap.size w w1 ∧ (∀ y, y < W.heap.size → y ≠ x → w1.heap[y]? = W.heap[y]?) ∧ W.heap.size ≤ w1.heap.size := by
  obtain ⟨A', c', w', r, o, g, _⟩ := T.app (empty_row W e sz w.heap.size x hx hxb) (h.below (hb.mono hB)) h1 (by omega) hb.size
  rw [Nat.zero_add] at r o
  rw [List.nil_append] at o
  exact ⟨A', c', w', r, o, hb.grown g hb.size (fun q hq => by simp [Value.ownBlock] at hq; omega), fun y hy hne => g.block y hy (fun e => by simp [Value.ownBlock] at e; omega), g.size⟩
/-- A further part behind. -/
theorem put_more {t e : TypeId} {sz : Nat} (T : RowT t e sz) {w W : World} {A : Option Addr} {m c : Nat} {xs ys : List Value} {B : Nat} (h : Slc w B sz A m c ys) (hB : B ≤ w.heap.size) (h1 : ∀ u ∈ ys, u.oneCell' = true) {k : Nat} (hn : k + m ≤ 1000000000) {A1 : Option Addr} {c1 : Nat} (hb : Below w.heap.size w W) (ho : W.ownsRow w.heap.size e sz (.slice A1 k c1) k xs) :
    ∃ A2 c2 w2, (Builtin.append_ #[t, t] t #[.slice A1 k c1, .slice A m c]).run Tryz.prog W = .ok (.slice A2 (k + m) c2) w2 ∧ w2.ownsRow w.heap.size e sz (.slice A2 (k + m) c2) (k + m) (xs ++ ys) ∧ Below w.heap.size w w2 := by
  obtain ⟨A', c', w', r, o, g, _⟩ := T.app ho (h.below (hb.mono hB)) h1 hn hb.size
  exact ⟨A', c', w', r, o, hb.grown g hb.size (fun q hq => (ho.lt q hq).1)⟩
/-- An element of the call's own behind. -/
theorem put_new {t e : TypeId} {sz : Nat} (T : RowT t e sz) {w W : World} {xs : List Value} {xc : Array Value} (hxc : xc.size = sz) (h1 : ∀ u ∈ xc.toList, u.oneCell' = true) {k : Nat} (hn : k + 1 ≤ 1000000000) {A1 : Option Addr} {c1 y : Nat} (hb : Below w.heap.size w W) (ho : W.ownsRow w.heap.size e sz (.slice A1 k c1) k xs) (hy : Blk W y e xc) :
    ∃ A2 c2 w2, (Builtin.append_ #[t, t] t #[.slice A1 k c1, .slice (some ⟨y, 0, none⟩) 1 1]).run Tryz.prog W = .ok (.slice A2 (k + 1) c2) w2 ∧ w2.ownsRow w.heap.size e sz (.slice A2 (k + 1) c2) (k + 1) (xs ++ xc.toList) ∧ Below w.heap.size w w2 := by
  have hs := hy.slc (sz := sz) (n := 1) (c := 1) (by omega) (Nat.le_refl _) (by decide)
  rw [Nat.one_mul, List.take_of_length_le (by rw [Array.length_toList]; omega)] at hs
  obtain ⟨A', c', w', r, o, g, _⟩ := T.app ho hs h1 hn hb.size
  exact ⟨A', c', w', r, o, hb.grown g hb.size (fun q hq => (ho.lt q hq).1)⟩
/-- append(append([]T{}, l[:k]...), l[k+1:]...). -/
structure Era (w : World) (t e : TypeId) (sz : Nat) (A : Option Addr) (n c k : Nat) (xs : List Value) (A1 : Option Addr) (c1 : Nat) (w1 : World) (A2 : Option Addr) (c2 : Nat) (w2 : World) : Prop where
  r1 : (Builtin.append_ #[t, t] t #[.slice (some ⟨w.heap.size, 0, none⟩) 0 0, headG A n c k]).run Tryz.prog (w.alloc (.cells #[] e)).drew = .ok (.slice A1 k c1) w1
  r2 : (Builtin.append_ #[t, t] t #[.slice A1 k c1, tailG A n c (k + 1) sz]).run Tryz.prog w1 = .ok (.slice A2 (n - 1) c2) w2
  own : w2.ownsRow w.heap.size e sz (.slice A2 (n - 1) c2) (n - 1) (xs.take (k * sz) ++ xs.drop ((k + 1) * sz))
  bel1 : Below w.heap.size w w1
  bel : Below w.heap.size w w2
theorem era_run {t e : TypeId} {sz : Nat} (T : RowT t e sz) {w : World} {A : Option Addr} {n c : Nat} {xs : List Value} {B : Nat} (h : Slc w B sz A n c xs) (hB : B ≤ w.heap.size) (h1 : ∀ u ∈ xs, u.oneCell' = true) (hn : n ≤ 1000000000) {k : Nat} (hk : k < n) : ∃ A1 c1 w1 A2 c2 w2, Era w t e sz A n c k xs A1 c1 w1 A2 c2 w2 := by
  have hb : Below w.heap.size w (w.alloc (.cells #[] e)).drew := ((Below.refl _ w).alloc (Nat.le_refl _) _).drew
  obtain ⟨Ah, eh, hh⟩ := head_slc h (Nat.le_of_lt hk)
  obtain ⟨At, ct, et, ht⟩ := tail_slc h (show k + 1 ≤ n from hk)
  obtain ⟨A1, c1, w1, r1, o1, b1, _, _⟩ := put_one T hh hB (fun u hu => h1 u (List.mem_of_mem_take hu)) (by omega) hb (heap_alloc_new w _) (Nat.le_refl _)
  obtain ⟨A2, c2, w2, r2, o2, b2⟩ := put_more T ht hB (fun u hu => h1 u (List.mem_of_mem_drop hu)) (by omega) b1 o1
  rw [show k + (n - (k + 1)) = n - 1 by omega] at r2 o2
  exact ⟨A1, c1, w1, A2, c2, w2, by rw [eh]; exact r1, by rw [et]; exact r2, o2, b1, b2⟩
/-- The three orders of append(append(append([]T{}, l[:k]...), x), l[k:]...). -/
structure Put3 (w : World) (t e : TypeId) (sz : Nat) (A : Option Addr) (n c k : Nat) (xc : Array Value) (xs : List Value) (W : World) (x y : Nat) (A1 : Option Addr) (c1 : Nat) (w1 w1' : World) (A2 : Option Addr) (c2 : Nat) (w2 : World) (A3 : Option Addr) (c3 : Nat) (w3 : World) : Prop where
  r1 : (Builtin.append_ #[t, t] t #[.slice (some ⟨x, 0, none⟩) 0 0, headG A n c k]).run Tryz.prog W = .ok (.slice A1 k c1) w1
  r2 : (Builtin.append_ #[t, t] t #[.slice A1 k c1, .slice (some ⟨y, 0, none⟩) 1 1]).run Tryz.prog w1' = .ok (.slice A2 (k + 1) c2) w2
  r3 : (Builtin.append_ #[t, t] t #[.slice A2 (k + 1) c2, tailG A n c k sz]).run Tryz.prog w2 = .ok (.slice A3 (n + 1) c3) w3
  own : w3.ownsRow w.heap.size e sz (.slice A3 (n + 1) c3) (n + 1) (xs.take (k * sz) ++ xc.toList ++ xs.drop (k * sz))
  bel1 : Below w.heap.size w w1
  bel2 : Below w.heap.size w w2
  bel : Below w.heap.size w w3
section
variable {t e : TypeId} {sz : Nat} (T : RowT t e sz) {w : World} {A : Option Addr} {n c : Nat} {xs : List Value} {B : Nat} (h : Slc w B sz A n c xs) (hB : B ≤ w.heap.size) (h1 : ∀ u ∈ xs, u.oneCell' = true) (hn : n ≤ 1000000) {k : Nat} (hk : k ≤ n) {xc : Array Value} (hxc : xc.size = sz) (h2 : ∀ u ∈ xc.toList, u.oneCell' = true)
include T h hB h1 hn hk hxc h2
theorem put3_end {W w1 w1' : World} {x y : Nat} {A1 : Option Addr} {c1 : Nat} (r1 : (Builtin.append_ #[t, t] t #[.slice (some ⟨x, 0, none⟩) 0 0, headG A n c k]).run Tryz.prog W = .ok (.slice A1 k c1) w1) (b1 : Below w.heap.size w w1) (b1' : Below w.heap.size w w1') (o1 : w1'.ownsRow w.heap.size e sz (.slice A1 k c1) k (xs.take (k * sz))) (hy : Blk w1' y e xc) :
    ∃ A2 c2 w2 A3 c3 w3, Put3 w t e sz A n c k xc xs W x y A1 c1 w1 w1' A2 c2 w2 A3 c3 w3 := by
  obtain ⟨At, ct, et, ht⟩ := tail_slc h hk
  obtain ⟨A2, c2, w2, r2, o2, b2⟩ := put_new T hxc h2 (by omega) b1' o1 hy
  obtain ⟨A3, c3, w3, r3, o3, b3⟩ := put_more T ht hB (fun u hu => h1 u (List.mem_of_mem_drop hu)) (by omega) b2 o2
  rw [show k + 1 + (n - k) = n + 1 by omega] at r3 o3
  exact ⟨A2, c2, w2, A3, c3, w3, r1, r2, by rw [et]; exact r3, o3, b1, b2, b3⟩
theorem put3_a : ∃ A1 c1 w1 A2 c2 w2 A3 c3 w3, Put3 w t e sz A n c k xc xs ((w.alloc (.cells xc e)).alloc (.cells #[] e)).drew (w.heap.size + 1) w.heap.size A1 c1 w1 w1 A2 c2 w2 A3 c3 w3 := by
  have hb : Below w.heap.size w ((w.alloc (.cells xc e)).alloc (.cells #[] e)).drew := (((Below.refl _ w).alloc (Nat.le_refl _) _).alloc (by simp) _).drew
  obtain ⟨Ah, eh, hh⟩ := head_slc h hk
  obtain ⟨A1, c1, w1, r1, o1, b1, k1, _⟩ := put_one T hh hB (fun u hu => h1 u (List.mem_of_mem_take hu)) (by omega) hb (x := w.heap.size + 1) (heap_new2 w _ _) (by omega)
  have hy : Blk w1 w.heap.size e xc := by
    unfold Blk
    rw [k1 w.heap.size (by simp; omega) (by omega)]
    show ((w.alloc (.cells xc e)).alloc (.cells #[] e)).heap[w.heap.size]? = _
    rw [Below.heap_alloc _ _ _ (by simp)]
    exact heap_alloc_new w _
  obtain ⟨A2, c2, w2, A3, c3, w3, S⟩ := put3_end T h hB h1 hn hk hxc h2 (by rw [eh]; exact r1) b1 b1 o1 hy
  exact ⟨A1, c1, w1, A2, c2, w2, A3, c3, w3, S⟩
theorem put3_b : ∃ A1 c1 w1 A2 c2 w2 A3 c3 w3, Put3 w t e sz A n c k xc xs ((w.alloc (.cells #[] e)).alloc (.cells xc e)).drew w.heap.size (w.heap.size + 1) A1 c1 w1 w1 A2 c2 w2 A3 c3 w3 := by
  have hb : Below w.heap.size w ((w.alloc (.cells #[] e)).alloc (.cells xc e)).drew := (((Below.refl _ w).alloc (Nat.le_refl _) _).alloc (by simp) _).drew
  obtain ⟨Ah, eh, hh⟩ := head_slc h hk
  obtain ⟨A1, c1, w1, r1, o1, b1, k1, _⟩ := put_one T hh hB (fun u hu => h1 u (List.mem_of_mem_take hu)) (by omega) hb (x := w.heap.size) (by
    show ((w.alloc (.cells #[] e)).alloc (.cells xc e)).heap[w.heap.size]? = _
    rw [Below.heap_alloc _ _ _ (by simp)]; exact heap_alloc_new w _) (Nat.le_refl _)
  have hy : Blk w1 (w.heap.size + 1) e xc := by
    unfold Blk
    rw [k1 (w.heap.size + 1) (by simp) (by omega)]
    exact heap_new2 w _ _
  obtain ⟨A2, c2, w2, A3, c3, w3, S⟩ := put3_end T h hB h1 hn hk hxc h2 (by rw [eh]; exact r1) b1 b1 o1 hy
  exact ⟨A1, c1, w1, A2, c2, w2, A3, c3, w3, S⟩
theorem put3_c : ∃ A1 c1 w1 A2 c2 w2 A3 c3 w3, Put3 w t e sz A n c k xc xs (w.alloc (.cells #[] e)).drew w.heap.size w1.heap.size A1 c1 w1 (w1.alloc (.cells xc e)) A2 c2 w2 A3 c3 w3 := by
  have hb : Below w.heap.size w (w.alloc (.cells #[] e)).drew := ((Below.refl _ w).alloc (Nat.le_refl _) _).drew
  obtain ⟨Ah, eh, hh⟩ := head_slc h hk
  obtain ⟨A1, c1, w1, r1, o1, b1, _, _⟩ := put_one T hh hB (fun u hu => h1 u (List.mem_of_mem_take hu)) (by omega) hb (x := w.heap.size) (heap_alloc_new w _) (Nat.le_refl _)
  obtain ⟨A2, c2, w2, A3, c3, w3, S⟩ := put3_end T h hB h1 hn hk hxc h2 (by rw [eh]; exact r1) b1 (b1.alloc b1.size (.cells xc e)) (o1.alloc _) (Blk.new w1 _ _)
  exact ⟨A1, c1, w1, A2, c2, w2, A3, c3, w3, S⟩
end
/-- The three orders of append(append([]T{}, l...), x). -/
structure Put2 (w : World) (t e : TypeId) (sz : Nat) (A : Option Addr) (n c : Nat) (xc : Array Value) (xs : List Value) (W : World) (x y : Nat) (A1 : Option Addr) (c1 : Nat) (w1 w1' : World) (A2 : Option Addr) (c2 : Nat) (w2 : World) : Prop where
  r1 : (Builtin.append_ #[t, t] t #[.slice (some ⟨x, 0, none⟩) 0 0, .slice A n c]).run Tryz.prog W = .ok (.slice A1 n c1) w1
  r2 : (Builtin.append_ #[t, t] t #[.slice A1 n c1, .slice (some ⟨y, 0, none⟩) 1 1]).run Tryz.prog w1' = .ok (.slice A2 (n + 1) c2) w2
  own : w2.ownsRow w.heap.size e sz (.slice A2 (n + 1) c2) (n + 1) (xs ++ xc.toList)
  bel1 : Below w.heap.size w w1
  bel : Below w.heap.size w w2
section
variable {t e : TypeId} {sz : Nat} (T : RowT t e sz) {w : World} {A : Option Addr} {n c : Nat} {xs : List Value} {B : Nat} (h : Slc w B sz A n c xs) (hB : B ≤ w.heap.size) (h1 : ∀ u ∈ xs, u.oneCell' = true) (hn : n ≤ 1000000) {xc : Array Value} (hxc : xc.size = sz) (h2 : ∀ u ∈ xc.toList, u.oneCell' = true)
include T h hB h1 hn hxc h2
theorem put2_a : ∃ A1 c1 w1 A2 c2 w2, Put2 w t e sz A n c xc xs ((w.alloc (.cells xc e)).alloc (.cells #[] e)).drew (w.heap.size + 1) w.heap.size A1 c1 w1 w1 A2 c2 w2 := by
  have hb : Below w.heap.size w ((w.alloc (.cells xc e)).alloc (.cells #[] e)).drew := (((Below.refl _ w).alloc (Nat.le_refl _) _).alloc (by simp) _).drew
  obtain ⟨A1, c1, w1, r1, o1, b1, k1, _⟩ := put_one T h hB h1 (by omega) hb (x := w.heap.size + 1) (heap_new2 w _ _) (by omega)
  have hy : Blk w1 w.heap.size e xc := by
    unfold Blk
    rw [k1 w.heap.size (by simp; omega) (by omega)]
    show ((w.alloc (.cells xc e)).alloc (.cells #[] e)).heap[w.heap.size]? = _
    rw [Below.heap_alloc _ _ _ (by simp)]
    exact heap_alloc_new w _
  obtain ⟨A2, c2, w2, r2, o2, b2⟩ := put_new T hxc h2 (by omega) b1 o1 hy
  exact ⟨A1, c1, w1, A2, c2, w2, r1, r2, o2, b1, b2⟩
theorem put2_b : ∃ A1 c1 w1 A2 c2 w2, Put2 w t e sz A n c xc xs ((w.alloc (.cells #[] e)).alloc (.cells xc e)).drew w.heap.size (w.heap.size + 1) A1 c1 w1 w1 A2 c2 w2 := by
  have hb : Below w.heap.size w ((w.alloc (.cells #[] e)).alloc (.cells xc e)).drew := (((Below.refl _ w).alloc (Nat.le_refl _) _).alloc (by simp) _).drew
  obtain ⟨A1, c1, w1, r1, o1, b1, k1, _⟩ := put_one T h hB h1 (by omega) hb (x := w.heap.size) (by
    show ((w.alloc (.cells #[] e)).alloc (.cells xc e)).heap[w.heap.size]? = _
    rw [Below.heap_alloc _ _ _ (by simp)]; exact heap_alloc_new w _) (Nat.le_refl _)
  have hy : Blk w1 (w.heap.size + 1) e xc := by
    unfold Blk
    rw [k1 (w.heap.size + 1) (by simp) (by omega)]
    exact heap_new2 w _ _
  obtain ⟨A2, c2, w2, r2, o2, b2⟩ := put_new T hxc h2 (by omega) b1 o1 hy
  exact ⟨A1, c1, w1, A2, c2, w2, r1, r2, o2, b1, b2⟩
theorem put2_c : ∃ A1 c1 w1 A2 c2 w2, Put2 w t e sz A n c xc xs (w.alloc (.cells #[] e)).drew w.heap.size w1.heap.size A1 c1 w1 (w1.alloc (.cells xc e)) A2 c2 w2 := by
  have hb : Below w.heap.size w (w.alloc (.cells #[] e)).drew := ((Below.refl _ w).alloc (Nat.le_refl _) _).drew
  obtain ⟨A1, c1, w1, r1, o1, b1, _, _⟩ := put_one T h hB h1 (by omega) hb (x := w.heap.size) (heap_alloc_new w _) (Nat.le_refl _)
  obtain ⟨A2, c2, w2, r2, o2, b2⟩ := put_new T hxc h2 (by omega) (b1.alloc b1.size (.cells xc e)) (o1.alloc _) (Blk.new w1 _ _)
  exact ⟨A1, c1, w1, A2, c2, w2, r1, r2, o2, b1, b2⟩
end
theorem rowT_of {t e : TypeId} {sz bytes : Nat} {z : Value} (hu : Tryz.prog.underlying t = some (.slice e)) (hinfo : (Tryz.prog.info? e).map (fun i => (i.zero, i.size, i.bytes)) = some (some z, sz, bytes)) (hz : z.cells.size = sz) (hp : 0 < sz) (hby : bytes ≤ 100) (hpos : 0 < bytes) (hbs : bytes * 1000000000 ≤ 140737488355328) : RowT t e sz := by
  obtain ⟨i, hi, hz0, hz1, hz2⟩ := info_parts hinfo
  refine ⟨hu, by rw [hi]; simp [hz1], hp, fun {w base v n xs B A m c ys} ho hs h1 hn hb => ?_⟩
  exact append_slc (P := Tryz.prog) w base t t e i z sz bytes hu hi hz0 hz1 hz2 hz hp v n xs ho B A m c ys hs h1 (by unfold maxLen; omega) (Nat.le_trans (Nat.mul_le_mul_right _ hn) (by omega)) hb
end Go.Proofs.YtibndaianhlcaaaGreatDoor
namespace Go.Proofs.YtibndaianhlcaaaGreatDoor
open Go.RowKit
set_option linter.unusedVariables false
set_option linter.unusedSimpArgs false

def lettersL : List UInt8 := [97, 98, 99, 100, 101, 102, 103, 104, 105, 106, 107, 108, 109, 110, 111, 112, 113, 114, 115, 116, 117, 118, 119, 120, 121, 122, 65, 66, 67, 68, 69, 70, 71, 72, 73, 74, 75, 76, 77, 78, 79, 80, 81, 82, 83, 84, 85, 86, 87, 88, 89, 90, 48, 49, 50, 51, 52, 53, 54, 55, 56, 57, 46, 95, 45, 43]
theorem letters_iff (c : UInt8) : lettersL.contains c = letterB c := by
  have key : ∀ n : Fin 256, lettersL.contains (UInt8.ofNat n.1) = letterB (UInt8.ofNat n.1) := by decide +kernel
  have := key ⟨c.toNat, u8_lt c⟩
  simpa using this
theorem letters_len : lettersL.length = 66 := rfl
def hasL (c : UInt8) (j : Nat) : Bool := (lettersL.take j).contains c
theorem hasL_succ (c : UInt8) (j : Nat) (h : j < 66) : hasL c (j + 1) = (hasL c j || lettersL[j]'(by rw [letters_len]; exact h) == c) := by
  unfold hasL
  rw [List.take_succ_eq_append_getElem (by rw [letters_len]; exact h)]
  simp only [List.contains_eq_any_beq, List.any_append, List.any_cons, List.any_nil, Bool.or_false]
  congr 1
  exact Bool.beq_comm
theorem hasL_all (c : UInt8) : hasL c 66 = letterB c := by rw [← letters_iff]; rfl

theorem byte_cmp (a c : UInt8) : ((a.toNat : Int) == (c.toNat : Int)) = (a == c) := by
  rw [Bool.eq_iff_iff]
  simp only [beq_iff_eq]
  rw [← UInt8.toNat_inj]
  omega
theorem lets_cmp (c : UInt8) (j : Nat) (h : j < 66) (h' : j < (ByteArray.mk #[97, 98, 99, 100, 101, 102, 103, 104, 105, 106, 107, 108, 109, 110, 111, 112, 113, 114, 115, 116, 117, 118, 119, 120, 121, 122, 65, 66, 67, 68, 69, 70, 71, 72, 73, 74, 75, 76, 77, 78, 79, 80, 81, 82, 83, 84, 85, 86, 87, 88, 89, 90, 48, 49, 50, 51, 52, 53, 54, 55, 56, 57, 46, 95, 45, 43]).size) : (((ByteArray.mk #[97, 98, 99, 100, 101, 102, 103, 104, 105, 106, 107, 108, 109, 110, 111, 112, 113, 114, 115, 116, 117, 118, 119, 120, 121, 122, 65, 66, 67, 68, 69, 70, 71, 72, 73, 74, 75, 76, 77, 78, 79, 80, 81, 82, 83, 84, 85, 86, 87, 88, 89, 90, 48, 49, 50, 51, 52, 53, 54, 55, 56, 57, 46, 95, 45, 43])[j].toNat : Int) == (c.toNat : Int)) = (false || lettersL[j]'(by rw [letters_len]; exact h) == c) := by
  rw [byte_cmp, Bool.false_or]
  rfl

set_option maxRecDepth 100000 in
set_option maxHeartbeats 1000000 in
theorem refName_any (s : ByteArray) (w : World) (hs : s.size ≤ maxLen) :
    Calls Tryz.prog 45 #[.string s] w fun e w' => e = .returned (.bool (nameB s.data.toList)) ∧ Below w.heap.size w w' := by
  have hsz : s.data.toList.length = s.size := by rw [Array.length_toList]; rfl
  have ht : s.toList = s.data.toList := Go.ByteArray.toList_eq s
  have hget : ∀ k (h : k < s.size), s.data.toList[k]? = some s[k] := fun k h => by
    rw [List.getElem?_eq_getElem (by rw [hsz]; exact h)]
    rfl
  generalize hl : s.data.toList = l at *
  clear hl
  have hN : ¬ (l ≠ [] ∧ l.length ≤ 36 ∧ l ≠ [46] ∧ l ≠ [46, 46]) → nameB l = false := fun h => by unfold nameB; rw [decide_eq_false h]; rfl
  by_cases hlong : 36 < s.size
  · have H := Lib.hid (hN (by omega))
    clear hN hsz hget
    go_enter Tryz.func45, Tryz.ntmps45
    go_wp2
    go_ret
    exact ⟨by rw [H.out]; rfl, Below.refl _ _⟩
  by_cases h0 : l = []
  · have H := Lib.hid (hN (fun h => h.1 h0))
    subst h0
    have hz : s.size = 0 := by simpa using hsz.symm
    clear hN hsz hget
    go_enter Tryz.func45, Tryz.ntmps45
    go_wp2
    go_ret
    exact ⟨by rw [H.out]; rfl, Below.refl _ _⟩
  by_cases h1 : l = [46]
  · have H := Lib.hid (hN (fun h => h.2.2.1 h1))
    subst h1
    have hle : s.size = 1 := by simpa using hsz.symm
    clear hN hsz hget
    go_enter Tryz.func45, Tryz.ntmps45
    go_wp2
    go_ret
    exact ⟨by rw [H.out]; rfl, Below.refl _ _⟩
  by_cases h2 : l = [46, 46]
  · have H := Lib.hid (hN (fun h => h.2.2.2 h2))
    subst h2
    have hle : s.size = 2 := by simpa using hsz.symm
    clear hN hsz hget
    go_enter Tryz.func45, Tryz.ntmps45
    go_wp2
    go_ret
    exact ⟨by rw [H.out]; rfl, Below.refl _ _⟩
  have hpos : 0 < s.size := by rw [← hsz]; cases l with | nil => exact absurd rfl h0 | cons => simp
  have h1' : (l == [46]) = false := by simpa using h1
  have h2' : (l == [46, 46]) = false := by simpa using h2
  have hle : s.size ≤ 36 := by omega
  have hYES := Lib.hid (fun h => nameB_of (l := l) h0 (by omega) h1 h2 h)
  have hNO := Lib.hid (fun k hk h => nameB_not (l := l) k hk h)
  have HZ := Lib.hid hsz
  have HG := Lib.hid hget
  clear hN hsz hlong hget h0 h1 h2
  go_enter Tryz.func45, Tryz.ntmps45
  go_wp2
  go_loopw [3] (fun i wr => ∃ k : Nat, k ≤ s.size ∧ i = .int .i64 (k : Int) ∧ Aside ((l.take k).all letterB = true) ∧ Aside (Below w.heap.size w wr)) (fun i _ => s.size - (intOf i).toNat)
  case atStart => exact ⟨0, by omega, rfl, rfl, Below.refl _ _⟩
  case round =>
    obtain ⟨k, hk, rfl, hv, hb⟩ := hrel
    by_cases hlt : k < s.size
    · have hlk : k < l.length := by have := HZ.out; omega
      have HT := Lib.hid (show (l.take (k + 1)).all letterB = letterB l[k] by rw [List.take_succ_eq_append_getElem hlk, List.all_append, hv.out]; simp)
      have HK := Lib.hid (fun h => hNO.out k hlk h)
      have HGK := Lib.hid (show s[k] = l[k] from by have := HG.out k hlt; rw [List.getElem?_eq_getElem hlk] at this; exact (Option.some.inj this).symm)
      obtain ⟨wo, rfl⟩ : ∃ wo : World, wo = wr := ⟨_, rfl⟩
      go_wp2
      go_loopw [4, 5] (fun d i wr => ∃ j : Nat, j ≤ 66 ∧ i = .int .i64 (j : Int) ∧ d = .bool (hasL s[k] j) ∧ Aside (Below w.heap.size w wr)) (fun _ i _ => 66 - (intOf i).toNat)
      case atStart => exact ⟨0, by omega, rfl, rfl, hb.out⟩
      case round =>
        obtain ⟨j, hj, rfl, rfl, hb2⟩ := hrel
        by_cases hj66 : j < 66
        · have HS := Lib.hid (hasL_succ s[k] j hj66)
          cases ho : hasL s[k] j with
          | true =>
            rw [ho] at HS
            clear ho
            go_wp2
            go_quiet (fail)
            go_wp2
            exact ⟨⟨j + 1, by omega, by go_num, by rw [HS.out]; rfl, ⟨hb2.out.os, hb2.out.tape, hb2.out.output, hb2.out.size, hb2.out.block⟩⟩, by simp [intOf]; omega⟩
          | false =>
            rw [ho] at HS
            clear ho
            go_wp2
            go_quiet (fail)
            go_wp2
            exact ⟨⟨j + 1, by omega, by go_num, by rw [HS.out, lets_cmp _ j hj66], ⟨hb2.out.os, hb2.out.tape, hb2.out.output, hb2.out.size, hb2.out.block⟩⟩, by simp [intOf]; omega⟩
        · obtain rfl : j = 66 := by omega
          rw [hasL_all, HGK.out]
          cases hlet : letterB l[k] with
          | true =>
            have H3 := Lib.hid (HT.out.trans hlet)
            clear hlet
            go_wp2
            exact ⟨⟨k + 1, by omega, by go_num, H3.out, hb2.out⟩, by simp [intOf]; omega⟩
          | false =>
            have H3 := Lib.hid (HK.out hlet)
            clear hlet
            go_wp2
            go_ret
            exact ⟨by rw [H3.out]; rfl, hb2.out⟩
    · have HY := Lib.hid (hYES.out (by rw [show l.length = k by have := HZ.out; omega]; exact hv.out))
      go_wp2
      go_ret
      exact ⟨by rw [HY.out]; rfl, hb.out⟩

end Go.Proofs.YtibndaianhlcaaaGreatDoor
namespace Go.Proofs.YtibndaianhlcaaaGreatDoor
open Go.RowKit Go.Sort Go.Shelf
set_option linter.unusedVariables false
set_option linter.unusedSimpArgs false

theorem print_lo {c : UInt8} (h : (c.toNat : Int) < 32) : printB c = false := by unfold printB; exact decide_eq_false (by omega)
theorem print_hi {c : UInt8} (h : (126 : Int) < (c.toNat : Int)) : printB c = false := by unfold printB; exact decide_eq_false (by omega)
theorem print_ok {c : UInt8} (h : ¬ (c.toNat : Int) < 32) (h2 : ¬ (126 : Int) < (c.toNat : Int)) : printB c = true := by unfold printB; exact decide_eq_true (by omega)
set_option maxRecDepth 100000 in
set_option maxHeartbeats 2000000 in
theorem refMay_any {w : World} {B : Nat} (u : SV) (h1 : Slc w B 1 u.A u.n u.c (u.req.map encStr)) (h2 : Slc w B 1 u.A2 u.n2 u.c2 (u.aft.map encStr)) (hB : B ≤ w.heap.size) (hn : u.n ≤ 1000000000 ∧ u.n2 ≤ 1000000000) (hs : ∀ t ∈ u.name :: (u.req ++ u.aft), t.length ≤ 1000000000) (hst : u.start.length ≤ 1000000000) :
    Calls Tryz.prog 46 #[.agg (svArr u)] w fun e w' => e = .returned (.bool (mayU u.srv)) ∧ Below w.heap.size w w' := by
  have hbv : Below w.heap.size w (w.alloc (.cells (svArr u) 59)).drew := ((Below.refl _ w).alloc (Nat.le_refl _) _).drew
  have hzv : (w.alloc (.cells (svArr u) 59)).drew.heap.size = w.heap.size + 1 := by simp
  have hGv : Blk (w.alloc (.cells (svArr u) 59)).drew w.heap.size 59 (svArr u) := (Blk.new _ _ _).drew
  obtain ⟨A1, c1, w1, A2, c2, w2, S⟩ := names20 (w := w) u (h1.below (hbv.mono hB)) (h2.below (hbv.mono hB)) (by rw [hzv]; omega) hn
  have HG2 := Lib.hid (hGv.below S.bel hGv.lt)
  have HG1 := Lib.hid (hGv.below S.bel1 hGv.lt)
  have HG0 := Lib.hid hGv
  have HB2 := Lib.hid (hbv.trans (S.bel.mono (by rw [hzv]; omega)))
  have HW := Lib.hid S.row
  have r1 := S.r1
  have r2 := S.r2
  rw [hzv] at r1
  obtain ⟨L, hL⟩ : ∃ L, L = u.name :: (u.req ++ u.aft) := ⟨_, rfl⟩
  have HM := Lib.hid (show mayU u.srv = (L.all nameB && decide (1 ≤ u.start.length ∧ u.start.length ≤ 120) && u.start.all printB) by rw [hL]; rfl)
  rw [← hL] at HW hs
  have hLn : L.length = 1 + u.n + u.n2 := by have e1 := h1.len; have e2 := h2.len; rw [List.length_map] at e1 e2; rw [hL]; simp; omega
  obtain ⟨N, hN⟩ : ∃ N, N = 1 + u.n + u.n2 := ⟨_, rfl⟩
  rw [← hN] at r2 HW hLn
  have hN62 : N ≤ 9000000000 := by omega
  have hw2 : w.heap.size < w2.heap.size := by have := S.bel.size; omega
  have HS := Lib.hid hs
  have HLN := Lib.hid hLn
  have HN := Lib.hid hN
  clear h1 h2 hB hn S hbv hzv hGv hL hs hLn hN
  have HLEN : Hid (u.start.length ≤ 1000000000) := hst
  obtain ⟨nm, st, rq, A, n, c, af, A', n', c'⟩ := u
  have x0 := HG0.out.cell 0
  have x1 := HG0.out.cell 1
  have x2 := HG0.out.cell 2
  have x3 := HG0.out.cell 3
  have y2 := HG1.out.cell 2
  have y3 := HG1.out.cell 3
  unfold svArr at r1 x0 x1 x2 x3 y2 y3 ⊢
  simp only [List.getElem?_toArray, List.getElem?_cons_zero, List.getElem?_cons_succ] at x0 x1 x2 x3 y2 y3
  simp only at r1 r2
  have r1' : (Builtin.append_ #[23, 23] 23 #[.slice (some ⟨w.heap.size + 1, 0, none⟩) 1 1, .slice A n c]).run Tryz.prog ((w.alloc (.cells #[.string ⟨nm.toArray⟩, .string ⟨st.toArray⟩, .slice A n c, .slice A' n' c'] 59)).alloc (.cells #[.string ⟨nm.toArray⟩] 9)).drew = .ok (.slice A1 (1 + n) c1) w1 := r1
  have HR1 := Lib.hid r1'
  clear r1'
  have HR2 := Lib.hid r2
  have HX := Lib.hid (And.intro x0 (And.intro x2 x3))
  have HGA := Lib.hid ((HG0.out).alloc (.cells #[.string ⟨nm.toArray⟩] 9))
  have HXA := Lib.hid (And.intro (HGA.out.cell 0) (And.intro (HGA.out.cell 2) (HGA.out.cell 3)))
  have HX1 := Lib.hid (And.intro (HG1.out.cell 0) (And.intro (HG1.out.cell 2) (HG1.out.cell 3)))
  have HX2 := Lib.hid (And.intro (HG2.out.cell 0) (And.intro (HG2.out.cell 2) (HG2.out.cell 3)))
  clear r1 r2 x0 x1 x2 x3 y2 y3
  go_enter Tryz.func46, Tryz.ntmps46
  go_wp2_with (fail)
  go_region_held3 (fun W' => W'.cell? ⟨w.heap.size, 0, none⟩ = some (.string ⟨nm.toArray⟩) ∧ W'.cell? ⟨w.heap.size, 2, none⟩ = some (.slice A n c) ∧ W'.cell? ⟨w.heap.size, 3, none⟩ = some (.slice A' n' c')) (first | exact HX.out | exact HXA.out | exact HX1.out | exact HX2.out) (first
    | (refine step_append_at (by rfl) _ _ _ (by rfl) HR1.out (by with_reducible rfl) (by rfl) (by rfl) (by rfl) ?_)
    | (refine step_append_at (by rfl) _ _ _ (by rfl) HR2.out (by with_reducible rfl) (by rfl) (by rfl) (by rfl) ?_))
  go_wp2_with (fail)
  go_loopw [4, 5] (fun i _ wr => ∃ k : Nat, k ≤ N ∧ i = .int .i64 (k : Int) ∧ Aside ((L.take k).all nameB = true) ∧ Aside (Below w2.heap.size w2 wr)) (fun i _ _ => N - (intOf i).toNat)
  case atStart => exact ⟨0, Nat.zero_le _, rfl, rfl, Below.refl _ _⟩
  case round =>
    obtain ⟨k, hk, rfl, hall, hb⟩ := hrel
    by_cases hlt : k < N
    · obtain ⟨b, off, rfl, hbB, hc⟩ := (HW.out.below hb.out).at_ (by omega)
      have hkL : k < L.length := by rw [HLN.out]; exact hlt
      have c0 : wr.cell? ⟨b, off + k, none⟩ = some (.string ⟨L[k].toArray⟩) := hc k _ (by rw [List.getElem?_map, List.getElem?_eq_getElem hkL]; rfl)
      have hsh := HS.out _ (List.getElem_mem hkL)
      have hnm := refName_any ⟨L[k].toArray⟩ wr (by show L[k].toArray.size ≤ maxLen; rw [List.size_toArray]; unfold maxLen; omega)
      have HTK := Lib.hid (show (L.take (k + 1)).all nameB = nameB L[k] by rw [List.take_succ_eq_append_getElem hkL, List.all_append, hall.out]; simp)
      have HAL := Lib.hid (show nameB L[k] = false → L.all nameB = false from fun h9 => by rw [List.all_eq_false]; exact ⟨_, List.getElem_mem hkL, by rw [h9]; decide⟩)
      generalize L[k] = t at *
      have ht : (ByteArray.mk t.toArray).data.toList = t := rfl
      rw [ht] at hnm
      clear hc hsh ht
      cases hb9 : nameB t with
      | false =>
        rw [hb9] at hnm
        have HF := Lib.hid (show mayU ⟨nm, st, rq, af⟩ = false by have h8 := HM.out; rw [HAL.out hb9] at h8; exact h8)
        clear hb9
        go_wp2_with (go_at_call 45; refine hnm.mono ?_; clear hnm; rintro e9 w9 ⟨rfl, hb9⟩; have HB9 := Lib.hid (hb.out.trans (hb9.mono hb.out.size)); clear hb9)
        go_ret
        exact ⟨by show _ = Ending.returned (.bool (mayU ⟨nm, st, rq, af⟩)); rw [HF.out]; rfl, HB2.out.trans (HB9.out.mono (by have := HB2.out.size; omega))⟩
      | true =>
        rw [hb9] at hnm
        have HT := Lib.hid (HTK.out.trans hb9)
        clear hb9
        go_wp2_with (go_at_call 45; refine hnm.mono ?_; clear hnm; rintro e9 w9 ⟨rfl, hb9⟩; have HB9 := Lib.hid (hb.out.trans (hb9.mono hb.out.size)); clear hb9)
        exact ⟨⟨k + 1, by omega, by go_num, HT.out, HB9.out⟩, by simp [intOf]; omega⟩
    · have HM2 := Lib.hid (show mayU ⟨nm, st, rq, af⟩ = (decide (1 ≤ st.length ∧ st.length ≤ 120) && st.all printB) by
        have h8 := HM.out
        have h9 := hall.out
        rw [List.take_of_length_le (by have := HLN.out; omega)] at h9
        rw [h9, Bool.true_and] at h8
        exact h8)
      have hGr := HG2.out.below hb.out hw2
      have z1 := hGr.cell 1
      unfold svArr at z1
      simp only [List.getElem?_toArray, List.getElem?_cons_zero, List.getElem?_cons_succ] at z1
      have HBR := Lib.hid (HB2.out.trans (hb.out.mono (by have := HB2.out.size; omega)))
      have hst9 := HLEN.out
      obtain ⟨wo, hwo⟩ : ∃ wo : World, wo = wr := ⟨_, rfl⟩
      have HWO := Lib.hid hwo
      clear hGr HG0 HG1 HG2 HX HX1 HX2 HXA HGA hwo
      go_wp2_with (fail)
      go_loopw [6] (fun i wr => ∃ k : Nat, k ≤ st.length ∧ i = .int .i64 (k : Int) ∧ wr = wo ∧ Aside ((st.take k).all printB = true)) (fun i _ => st.length - (intOf i).toNat)
      case atStart => exact ⟨0, Nat.zero_le _, rfl, HWO.out.symm, rfl⟩
      case round =>
        obtain ⟨k2, hk2, rfl, rfl, hall2⟩ := hrel
        have z1' := z1
        rw [← HWO.out] at z1'
        by_cases hlt2 : k2 < st.length
        · have hx2 : k2 < (ByteArray.mk st.toArray).size := hlt2
          have hce : (ByteArray.mk st.toArray)[k2] = st[k2] := rfl
          have HTK2 := Lib.hid (show (st.take (k2 + 1)).all printB = printB st[k2] by rw [List.take_succ_eq_append_getElem hlt2, List.all_append, hall2.out]; simp)
          have HAL2 := Lib.hid (show printB st[k2] = false → mayU ⟨nm, st, rq, af⟩ = false from fun h9 => by
            have h8 : st.all printB = false := by rw [List.all_eq_false]; exact ⟨_, List.getElem_mem hlt2, by rw [h9]; decide⟩
            rw [HM2.out, h8, Bool.and_false])
          rw [← hce] at HTK2 HAL2
          clear hce
          generalize hcc : (ByteArray.mk st.toArray)[k2] = ch at *
          by_cases hc1 : (ch.toNat : Int) < 32
          · have HF := Lib.hid (HAL2.out (print_lo hc1))
            go_wp2_with (fail)
            go_ret
            exact ⟨by show _ = Ending.returned (.bool (mayU ⟨nm, st, rq, af⟩)); rw [HF.out]; rfl, HWO.out ▸ HBR.out⟩
          · by_cases hc2 : (126 : Int) < (ch.toNat : Int)
            · have HF := Lib.hid (HAL2.out (print_hi hc2))
              go_wp2_with (fail)
              go_ret
              exact ⟨by show _ = Ending.returned (.bool (mayU ⟨nm, st, rq, af⟩)); rw [HF.out]; rfl, HWO.out ▸ HBR.out⟩
            · have HT := Lib.hid (HTK2.out.trans (print_ok hc1 hc2))
              go_wp2_with (fail)
              exact ⟨⟨k2 + 1, by omega, by go_num, by first | rfl | trivial, HT.out⟩, by simp [intOf]; omega⟩
        · obtain rfl : k2 = st.length := by omega
          have HM3 := Lib.hid (show mayU ⟨nm, st, rq, af⟩ = decide (1 ≤ st.length ∧ st.length ≤ 120) by
            have h9 := hall2.out
            rw [List.take_of_length_le (Nat.le_refl _)] at h9
            rw [HM2.out, h9, Bool.and_true])
          by_cases ha : (1 : Int) ≤ (st.length : Int)
          · by_cases hbb : (st.length : Int) ≤ 120
            · have HF := Lib.hid (show mayU ⟨nm, st, rq, af⟩ = true by rw [HM3.out]; exact decide_eq_true (by omega))
              go_wp2_with (fail)
              go_ret
              exact ⟨by show _ = Ending.returned (.bool (mayU ⟨nm, st, rq, af⟩)); rw [HF.out]; rfl, HWO.out ▸ HBR.out⟩
            · have HF := Lib.hid (show mayU ⟨nm, st, rq, af⟩ = false by rw [HM3.out]; exact decide_eq_false (by omega))
              go_wp2_with (fail)
              go_ret
              exact ⟨by show _ = Ending.returned (.bool (mayU ⟨nm, st, rq, af⟩)); rw [HF.out]; rfl, HWO.out ▸ HBR.out⟩
          · have HF := Lib.hid (show mayU ⟨nm, st, rq, af⟩ = false by rw [HM3.out]; exact decide_eq_false (by omega))
            go_wp2_with (fail)
            go_ret
            exact ⟨by show _ = Ending.returned (.bool (mayU ⟨nm, st, rq, af⟩)); rw [HF.out]; rfl, HWO.out ▸ HBR.out⟩
end Go.Proofs.YtibndaianhlcaaaGreatDoor
