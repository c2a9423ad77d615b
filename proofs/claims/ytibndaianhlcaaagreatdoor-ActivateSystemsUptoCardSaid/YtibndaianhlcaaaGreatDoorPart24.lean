/- Rows that are put together out of parts of others: append(append(append([]T{}, l[:k]...), x), l[j:]...), whatever T is, in whatever order its parts are made. The reference's machine in memory; at, try. The reference of layer 20: try, stop. -/
import Derived.Test.YtibndaianhlcaaaGreatDoorPart9
import Derived.Test.YtibndaianhlcaaaGreatDoorPart7
import Derived.Test.YtibndaianhlcaaaGreatDoorPart8
import Derived.Test.YtibndaianhlcaaaGreatDoorPart23
import Derived.Test.YtibndaianhlcaaaGreatDoorPart21
namespace Go.Proofs.YtibndaianhlcaaaGreatDoor
open Go.RowKit Go.Sort
set_option linter.unusedVariables false
set_option linter.unusedSimpArgs false

theorem heap_new2 (w : World) (o1 o2 : Obj) : ((w.alloc o1).alloc o2).drew.heap[w.heap.size + 1]? = some o2 := by
  have h := heap_alloc_new (w.alloc o1) o2
  rw [World.size_alloc] at h
  exact h
/-- A slice of a slice. -/
def CutS (ty : TypeId) (x : Value) (lo hi mx : Option Value) : Sem Value := Instr.slice ty x lo hi mx
def headG (A : Option Addr) (n c k : Nat) : Value := .slice (if c = 0 then A else A.map (·.add 0)) k c
def tailG (A : Option Addr) (n c k sz : Nat) : Value := .slice (if c = k then A else A.map (·.add (k * sz))) (n - k) (c - k)
/-- Rows of elements of type e. -/
structure RowT (t e : TypeId) (sz : Nat) : Prop where
  und : Tryz.prog.underlying t = some (.slice e)
  size : (Tryz.prog.info? e).map (·.size) = some sz
  pos : 0 < sz
  app : ∀ {w : World} {base : Nat} {v : Value} {n : Nat} {xs : List Value} {B : Nat} {A : Option Addr} {m c : Nat} {ys : List Value}, w.ownsRow base e sz v n xs → Slc w B sz A m c ys → (∀ u ∈ ys, u.oneCell' = true) → n + m ≤ 1000000000 → base ≤ w.heap.size →
    ∃ A' c' w', (Builtin.append_ #[t, t] t #[v, .slice A m c]).run Tryz.prog w = .ok (.slice A' (n + m) c') w' ∧ w'.ownsRow base e sz (.slice A' (n + m) c') (n + m) (xs ++ ys) ∧ w.grownBy w' v.ownBlock ∧ ((Value.slice A' (n + m) c').ownBlock = v.ownBlock ∨ (Value.slice A' (n + m) c').ownBlock = some w.heap.size)
theorem cut_low {t e : TypeId} {sz : Nat} (T : RowT t e sz) {A : Option Addr} {n c k : Nat} {z : Int} (hz : z = (k : Int)) (hk : k ≤ c) (W : World) : (CutS t (.slice A n c) none (some (.int .i64 z)) none).run Tryz.prog W = .ok (headG A n c k) W := by
  subst hz
  have hs := T.size
  unfold CutS headG
  cases hq : Tryz.prog.info? e with
  | none => rw [hq] at hs; cases hs
  | some i => simp [Instr.slice, Instr.sliceBounds, Instr.sliceBound, run_underlying T.und, sizeOf, typeInfo, hq, asIntOf, hk]
theorem cut_high {t e : TypeId} {sz : Nat} (T : RowT t e sz) {A : Option Addr} {n c k : Nat} {z : Int} (hz : z = (k : Int)) (hk : k ≤ n) (W : World) : (CutS t (.slice A n c) (some (.int .i64 z)) none none).run Tryz.prog W = .ok (tailG A n c k sz) W := by
  subst hz
  have hs := T.size
  unfold CutS tailG
  cases hq : Tryz.prog.info? e with
  | none => rw [hq] at hs; cases hs
  | some i =>
    have hi : i.size = sz := by rw [hq] at hs; simpa using hs
    simp [Instr.slice, Instr.sliceBounds, Instr.sliceBound, run_underlying T.und, sizeOf, typeInfo, hq, hi, asIntOf, hk]
theorem head_slc {w : World} {B sz : Nat} {A : Option Addr} {n c : Nat} {xs : List Value} (h : Slc w B sz A n c xs) {k : Nat} (hk : k ≤ n) : ∃ A', headG A n c k = .slice A' k c ∧ Slc w B sz A' k c (xs.take (k * sz)) := by
  refine ⟨_, rfl, ⟨by rw [List.length_take, h.len]; exact Nat.min_eq_left (Nat.mul_le_mul_right _ hk), Nat.le_trans hk h.le, h.cmax, fun hp => ?_⟩⟩
  obtain ⟨b, off, e, hb, hc⟩ := h.at_ (by omega)
  subst e
  have hle := h.le
  refine ⟨b, off, by rw [if_neg (by omega)]; simp [addr_of_add], hb, fun j u hu => hc j u ?_⟩
  rw [List.getElem?_take] at hu
  split at hu
  · exact hu
  · cases hu
theorem tail_slc {w : World} {B sz : Nat} {A : Option Addr} {n c : Nat} {xs : List Value} (h : Slc w B sz A n c xs) {k : Nat} (hk : k ≤ n) : ∃ A' c', tailG A n c k sz = .slice A' (n - k) c' ∧ Slc w B sz A' (n - k) c' (xs.drop (k * sz)) := by
  have hle := h.le
  have hcm := h.cmax
  refine ⟨_, _, rfl, ⟨by rw [List.length_drop, h.len, Nat.sub_mul], by omega, by omega, fun hp => ?_⟩⟩
  obtain ⟨b, off, e, hb, hc⟩ := h.at_ (by omega)
  subst e
  refine ⟨b, off + k * sz, by rw [if_neg (by omega)]; simp [addr_of_add], hb, fun j u hu => ?_⟩
  rw [Nat.add_assoc]
  exact hc (k * sz + j) u (by rwa [List.getElem?_drop] at hu)
theorem empty_row (W : World) (e : TypeId) (sz base x : Nat) (hx : W.heap[x]? = some (.cells #[] e (0, 0))) (hb : base ≤ x) : W.ownsRow base e sz (.slice (some ⟨x, 0, none⟩) 0 0) 0 [] := ⟨by simp, .inr ⟨x, 0, #[], rfl, hb, hx, Nat.le_refl _, Nat.zero_le _, by simp, by simp⟩⟩
/-- append([]T{}, part...), at whatever block the empty row is. -/
theorem put_one {t e : TypeId} {sz : Nat} (T : RowT t e sz) {w W : World} {A : Option Addr} {k c : Nat} {ys : List Value} {B : Nat} (h : Slc w B sz A k c ys) (hB : B ≤ w.heap.size) (h1 : ∀ u ∈ ys, u.oneCell' = true) (hn : k ≤ 1000000000) {x : Nat} (hb : Below w.heap.size w W) (hx : W.heap[x]? = some (.cells #[] e (0, 0))) (hxb : w.heap.size ≤ x) :
    ∃ A1 c1 w1, (Builtin.append_ #[t, t] t #[.slice (some ⟨x, 0, none⟩) 0 0, .slice A k c]).run Tryz.prog W = .ok (.slice A1 k c1) w1 ∧ w1.ownsRow w.heap.size e sz (.slice A1 k c1) k ys ∧ Below w.heap.size w w1 ∧ (∀ y, y < W.heap.size → y ≠ x → w1.heap[y]? = W.heap[y]?) ∧ W.heap.size ≤ w1.heap.size := by
  obtain ⟨A', c', w', r, o, g, _⟩ := T.app (empty_row W e sz w.heap.size x hx hxb) (h.below (hb.mono hB)) h1 (by omega) hb.size
  rw [Nat.zero_add] at r o
  rw [List.nil_append] at o
  exact ⟨A', c', w', r, o, hb.grown g hb.size (fun q hq => by simp [Value.ownBlock] at hq; omega), fun y hy hne => g.block y hy (fun e => by simp [Value.ownBlock] at e; omega), g.size⟩
/-- A further part behind. -/
theorem put_more {t e : TypeId} {sz : Nat} (T : RowT t e sz) {w W : World} {A : Option Addr} {m c : Nat} {xs ys : List Value} {B : Nat} (h : Slc w B sz A m c ys) (hB : B ≤ w.heap.size) (h1 : ∀ u ∈ ys, u.oneCell' = true) {k : Nat} (hn : k + m ≤ 1000000000) {A1 : Option Addr} {c1 : Nat} (hb : Below w.heap.size w W) (ho : W.ownsRow w.heap.size e sz (.slice A1 k c1) k xs) :
    ∃ A2 c2 w2, (Builtin.append_ #[t, t] t #[.slice A1 k c1, .slice A m c]).run Tryz.prog W = .ok (.slice A2 (k + m) c2) w2 ∧ w2.ownsRow w.heap.size e sz (.slice A2 (k + m) c2) (k + m) (xs ++ ys) ∧ Below w.heap.size w w2 := by
  obtain ⟨A', c', w', r, o, g, _⟩ := T.app ho (h.below (hb.mono hB)) h1 hn hb.size
  exact ⟨A', c', w', r, o, hb.grown g hb.size (fun q hq => (ho.lt q hq).1)⟩
/-- An element of the call's own behind. -/
theorem put_new {t e : TypeId} {sz : Nat} (T : RowT t e sz) {w W : World} {xs : List Value} {xc : Array Value} (hxc : xc.size = sz) (h1 : ∀ u ∈ xc.toList, u.oneCell' = true) {k : Nat} (hn : k + 1 ≤ 1000000000) {A1 : Option Addr} {c1 y : Nat} (hb : Below w.heap.size w W) (ho : W.ownsRow w.heap.size e sz (.slice A1 k c1) k xs) (hy : Blk W y e xc) :
    ∃ A2 c2 w2, (Builtin.append_ #[t, t] t #[.slice A1 k c1, .slice (some ⟨y, 0, none⟩) 1 1]).run Tryz.prog W = .ok (.slice A2 (k + 1) c2) w2 ∧ w2.ownsRow w.heap.size e sz (.slice A2 (k + 1) c2) (k + 1) (xs ++ xc.toList) ∧ Below w.heap.size w w2 := by
  have hs := hy.slc (sz := sz) (n := 1) (c := 1) (by omega) (Nat.le_refl _) (by decide)
  rw [Nat.one_mul, List.take_of_length_le (by rw [Array.length_toList]; omega)] at hs
  obtain ⟨A', c', w', r, o, g, _⟩ := T.app ho hs h1 hn hb.size
  exact ⟨A', c', w', r, o, hb.grown g hb.size (fun q hq => (ho.lt q hq).1)⟩
/-- append(append([]T{}, l[:k]...), l[k+1:]...). -/
structure Era (w : World) (t e : TypeId) (sz : Nat) (A : Option Addr) (n c k : Nat) (xs : List Value) (A1 : Option Addr) (c1 : Nat) (w1 : World) (A2 : Option Addr) (c2 : Nat) (w2 : World) : Prop where
  r1 : (Builtin.append_ #[t, t] t #[.slice (some ⟨w.heap.size, 0, none⟩) 0 0, headG A n c k]).run Tryz.prog (w.alloc (.cells #[] e)).drew = .ok (.slice A1 k c1) w1
  r2 : (Builtin.append_ #[t, t] t #[.slice A1 k c1, tailG A n c (k + 1) sz]).run Tryz.prog w1 = .ok (.slice A2 (n - 1) c2) w2
  own : w2.ownsRow w.heap.size e sz (.slice A2 (n - 1) c2) (n - 1) (xs.take (k * sz) ++ xs.drop ((k + 1) * sz))
  bel1 : Below w.heap.size w w1
  bel : Below w.heap.size w w2
theorem era_run {t e : TypeId} {sz : Nat} (T : RowT t e sz) {w : World} {A : Option Addr} {n c : Nat} {xs : List Value} {B : Nat} (h : Slc w B sz A n c xs) (hB : B ≤ w.heap.size) (h1 : ∀ u ∈ xs, u.oneCell' = true) (hn : n ≤ 1000000000) {k : Nat} (hk : k < n) : ∃ A1 c1 w1 A2 c2 w2, Era w t e sz A n c k xs A1 c1 w1 A2 c2 w2 := by
  have hb : Below w.heap.size w (w.alloc (.cells #[] e)).drew := ((Below.refl _ w).alloc (Nat.le_refl _) _).drew
  obtain ⟨Ah, eh, hh⟩ := head_slc h (Nat.le_of_lt hk)
  obtain ⟨At, ct, et, ht⟩ := tail_slc h (show k + 1 ≤ n from hk)
  obtain ⟨A1, c1, w1, r1, o1, b1, _, _⟩ := put_one T hh hB (fun u hu => h1 u (List.mem_of_mem_take hu)) (by omega) hb (heap_alloc_new w _) (Nat.le_refl _)
  obtain ⟨A2, c2, w2, r2, o2, b2⟩ := put_more T ht hB (fun u hu => h1 u (List.mem_of_mem_drop hu)) (by omega) b1 o1
  rw [show k + (n - (k + 1)) = n - 1 by omega] at r2 o2
  exact ⟨A1, c1, w1, A2, c2, w2, by rw [eh]; exact r1, by rw [et]; exact r2, o2, b1, b2⟩
/-- The three orders of append(append(append([]T{}, l[:k]...), x), l[k:]...). -/
structure Put3 (w : World) (t e : TypeId) (sz : Nat) (A : Option Addr) (n c k : Nat) (xc : Array Value) (xs : List Value) (W : World) (x y : Nat) (A1 : Option Addr) (c1 : Nat) (w1 w1' : World) (A2 : Option Addr) (c2 : Nat) (w2 : World) (A3 : Option Addr) (c3 : Nat) (w3 : World) : Prop where
  r1 : (Builtin.append_ #[t, t] t #[.slice (some ⟨x, 0, none⟩) 0 0, headG A n c k]).run Tryz.prog W = .ok (.slice A1 k c1) w1
  r2 : (Builtin.append_ #[t, t] t #[.slice A1 k c1, .slice (some ⟨y, 0, none⟩) 1 1]).run Tryz.prog w1' = .ok (.slice A2 (k + 1) c2) w2
  r3 : (Builtin.append_ #[t, t] t #[.slice A2 (k + 1) c2, tailG A n c k sz]).run Tryz.prog w2 = .ok (.slice A3 (n + 1) c3) w3
  own : w3.ownsRow w.heap.size e sz (.slice A3 (n + 1) c3) (n + 1) (xs.take (k * sz) ++ xc.toList ++ xs.drop (k * sz))
  bel1 : Below w.heap.size w w1
  bel2 : Below w.heap.size w w2
  bel : Below w.heap.size w w3
section
variable {t e : TypeId} {sz : Nat} (T : RowT t e sz) {w : World} {A : Option Addr} {n c : Nat} {xs : List Value} {B : Nat} (h : Slc w B sz A n c xs) (hB : B ≤ w.heap.size) (h1 : ∀ u ∈ xs, u.oneCell' = true) (hn : n ≤ 1000000) {k : Nat} (hk : k ≤ n) {xc : Array Value} (hxc : xc.size = sz) (h2 : ∀ u ∈ xc.toList, u.oneCell' = true)
include T h hB h1 hn hk hxc h2
theorem put3_end {W w1 w1' : World} {x y : Nat} {A1 : Option Addr} {c1 : Nat} (r1 : (Builtin.append_ #[t, t] t #[.slice (some ⟨x, 0, none⟩) 0 0, headG A n c k]).run Tryz.prog W = .ok (.slice A1 k c1) w1) (b1 : Below w.heap.size w w1) (b1' : Below w.heap.size w w1') (o1 : w1'.ownsRow w.heap.size e sz (.slice A1 k c1) k (xs.take (k * sz))) (hy : Blk w1' y e xc) :
    ∃ A2 c2 w2 A3 c3 w3, Put3 w t e sz A n c k xc xs W x y A1 c1 w1 w1' A2 c2 w2 A3 c3 w3 := by
  obtain ⟨At, ct, et, ht⟩ := tail_slc h hk
  obtain ⟨A2, c2, w2, r2, o2, b2⟩ := put_new T hxc h2 (by omega) b1' o1 hy
  obtain ⟨A3, c3, w3, r3, o3, b3⟩ := put_more T ht hB (fun u hu => h1 u (List.mem_of_mem_drop hu)) (by omega) b2 o2
  rw [show k + 1 + (n - k) = n + 1 by omega] at r3 o3
  exact ⟨A2, c2, w2, A3, c3, w3, r1, r2, by rw [et]; exact r3, o3, b1, b2, b3⟩
theorem put3_a : ∃ A1 c1 w1 A2 c2 w2 A3 c3 w3, Put3 w t e sz A n c k xc xs ((w.alloc (.cells xc e)).alloc (.cells #[] e)).drew (w.heap.size + 1) w.heap.size A1 c1 w1 w1 A2 c2 w2 A3 c3 w3 := by
  have hb : Below w.heap.size w ((w.alloc (.cells xc e)).alloc (.cells #[] e)).drew := (((Below.refl _ w).alloc (Nat.le_refl _) _).alloc (by simp) _).drew
  obtain ⟨Ah, eh, hh⟩ := head_slc h hk
  obtain ⟨A1, c1, w1, r1, o1, b1, k1, _⟩ := put_one T hh hB (fun u hu => h1 u (List.mem_of_mem_take hu)) (by omega) hb (x := w.heap.size + 1) (heap_new2 w _ _) (by omega)
  have hy : Blk w1 w.heap.size e xc := by
    unfold Blk
    rw [k1 w.heap.size (by simp; omega) (by omega)]
    show ((w.alloc (.cells xc e)).alloc (.cells #[] e)).heap[w.heap.size]? = _
    rw [Below.heap_alloc _ _ _ (by simp)]
    exact heap_alloc_new w _
  obtain ⟨A2, c2, w2, A3, c3, w3, S⟩ := put3_end T h hB h1 hn hk hxc h2 (by rw [eh]; exact r1) b1 b1 o1 hy
  exact ⟨A1, c1, w1, A2, c2, w2, A3, c3, w3, S⟩
theorem put3_b : ∃ A1 c1 w1 A2 c2 w2 A3 c3 w3, Put3 w t e sz A n c k xc xs ((w.alloc (.cells #[] e)).alloc (.cells xc e)).drew w.heap.size (w.heap.size + 1) A1 c1 w1 w1 A2 c2 w2 A3 c3 w3 := by
  have hb : Below w.heap.size w ((w.alloc (.cells #[] e)).alloc (.cells xc e)).drew := (((Below.refl _ w).alloc (Nat.le_refl _) _).alloc (by simp) _).drew
  obtain ⟨Ah, eh, hh⟩ := head_slc h hk
  obtain ⟨A1, c1, w1, r1, o1, b1, k1, _⟩ := put_one T hh hB (fun u hu => h1 u (List.mem_of_mem_take hu)) (by omega) hb (x := w.heap.size) (by
    show ((w.alloc (.cells #[] e)).alloc (.cells xc e)).heap[w.heap.size]? = _
    rw [Below.heap_alloc _ _ _ (by simp)]; exact heap_alloc_new w _) (Nat.le_refl _)
  have hy : Blk w1 (w.heap.size + 1) e xc := by
    unfold Blk
    rw [k1 (w.heap.size + 1) (by simp) (by omega)]
    exact heap_new2 w _ _
  obtain ⟨A2, c2, w2, A3, c3, w3, S⟩ := put3_end T h hB h1 hn hk hxc h2 (by rw [eh]; exact r1) b1 b1 o1 hy
  exact ⟨A1, c1, w1, A2, c2, w2, A3, c3, w3, S⟩
theorem put3_c : ∃ A1 c1 w1 A2 c2 w2 A3 c3 w3, Put3 w t e sz A n c k xc xs (w.alloc (.cells #[] e)).drew w.heap.size w1.heap.size A1 c1 w1 (w1.alloc (.cells xc e)) A2 c2 w2 A3 c3 w3 := by
  have hb : Below w.heap.size w (w.alloc (.cells #[] e)).drew := ((Below.refl _ w).alloc (Nat.le_refl _) _).drew
  obtain ⟨Ah, eh, hh⟩ := head_slc h hk
  obtain ⟨A1, c1, w1, r1, o1, b1, _, _⟩ := put_one T hh hB (fun u hu => h1 u (List.mem_of_mem_take hu)) (by omega) hb (x := w.heap.size) (heap_alloc_new w _) (Nat.le_refl _)
  obtain ⟨A2, c2, w2, A3, c3, w3, S⟩ := put3_end T h hB h1 hn hk hxc h2 (by rw [eh]; exact r1) b1 (b1.alloc b1.size (.cells xc e)) (o1.alloc _) (Blk.new w1 _ _)
  exact ⟨A1, c1, w1, A2, c2, w2, A3, c3, w3, S⟩
end
/-- The three orders of append(append([]T{}, l...), x). -/
structure Put2 (w : World) (t e : TypeId) (sz : Nat) (A : Option Addr) (n c : Nat) (xc : Array Value) (xs : List Value) (W : World) (x y : Nat) (A1 : Option Addr) (c1 : Nat) (w1 w1' : World) (A2 : Option Addr) (c2 : Nat) (w2 : World) : Prop where
  r1 : (Builtin.append_ #[t, t] t #[.slice (some ⟨x, 0, none⟩) 0 0, .slice A n c]).run Tryz.prog W = .ok (.slice A1 n c1) w1
  r2 : (Builtin.append_ #[t, t] t #[.slice A1 n c1, .slice (some ⟨y, 0, none⟩) 1 1]).run Tryz.prog w1' = .ok (.slice A2 (n + 1) c2) w2
  own : w2.ownsRow w.heap.size e sz (.slice A2 (n + 1) c2) (n + 1) (xs ++ xc.toList)
  bel1 : Below w.heap.size w w1
  bel : Below w.heap.size w w2
section
variable {t e : TypeId} {sz : Nat} (T : RowT t e sz) {w : World} {A : Option Addr} {n c : Nat} {xs : List Value} {B : Nat} (h : Slc w B sz A n c xs) (hB : B ≤ w.heap.size) (h1 : ∀ u ∈ xs, u.oneCell' = true) (hn : n ≤ 1000000) {xc : Array Value} (hxc : xc.size = sz) (h2 : ∀ u ∈ xc.toList, u.oneCell' = true)
include T h hB h1 hn hxc h2
theorem put2_a : ∃ A1 c1 w1 A2 c2 w2, Put2 w t e sz A n c xc xs ((w.alloc (.cells xc e)).alloc (.cells #[] e)).drew (w.heap.size + 1) w.heap.size A1 c1 w1 w1 A2 c2 w2 := by
  have hb : Below w.heap.size w ((w.alloc (.cells xc e)).alloc (.cells #[] e)).drew := (((Below.refl _ w).alloc (Nat.le_refl _) _).alloc (by simp) _).drew
  obtain ⟨A1, c1, w1, r1, o1, b1, k1, _⟩ := put_one T h hB h1 (by omega) hb (x := w.heap.size + 1) (heap_new2 w _ _) (by omega)
  have hy : Blk w1 w.heap.size e xc := by
    unfold Blk
    rw [k1 w.heap.size (by simp; omega) (by omega)]
    show ((w.alloc (.cells xc e)).alloc (.cells #[] e)).heap[w.heap.size]? = _
    rw [Below.heap_alloc _ _ _ (by simp)]
    exact heap_alloc_new w _
  obtain ⟨A2, c2, w2, r2, o2, b2⟩ := put_new T hxc h2 (by omega) b1 o1 hy
  exact ⟨A1, c1, w1, A2, c2, w2, r1, r2, o2, b1, b2⟩
theorem put2_b : ∃ A1 c1 w1 A2 c2 w2, Put2 w t e sz A n c xc xs ((w.alloc (.cells #[] e)).alloc (.cells xc e)).drew w.heap.size (w.heap.size + 1) A1 c1 w1 w1 A2 c2 w2 := by
  have hb : Below w.heap.size w ((w.alloc (.cells #[] e)).alloc (.cells xc e)).drew := (((Below.refl _ w).alloc (Nat.le_refl _) _).alloc (by simp) _).drew
  obtain ⟨A1, c1, w1, r1, o1, b1, k1, _⟩ := put_one T h hB h1 (by omega) hb (x := w.heap.size) (by
    show ((w.alloc (.cells #[] e)).alloc (.cells xc e)).heap[w.heap.size]? = _
    rw [Below.heap_alloc _ _ _ (by simp)]; exact heap_alloc_new w _) (Nat.le_refl _)
  have hy : Blk w1 (w.heap.size + 1) e xc := by
    unfold Blk
    rw [k1 (w.heap.size + 1) (by simp) (by omega)]
    exact heap_new2 w _ _
  obtain ⟨A2, c2, w2, r2, o2, b2⟩ := put_new T hxc h2 (by omega) b1 o1 hy
  exact ⟨A1, c1, w1, A2, c2, w2, r1, r2, o2, b1, b2⟩
theorem put2_c : ∃ A1 c1 w1 A2 c2 w2, Put2 w t e sz A n c xc xs (w.alloc (.cells #[] e)).drew w.heap.size w1.heap.size A1 c1 w1 (w1.alloc (.cells xc e)) A2 c2 w2 := by
  have hb : Below w.heap.size w (w.alloc (.cells #[] e)).drew := ((Below.refl _ w).alloc (Nat.le_refl _) _).drew
  obtain ⟨A1, c1, w1, r1, o1, b1, _, _⟩ := put_one T h hB h1 (by omega) hb (x := w.heap.size) (heap_alloc_new w _) (Nat.le_refl _)
  obtain ⟨A2, c2, w2, r2, o2, b2⟩ := put_new T hxc h2 (by omega) (b1.alloc b1.size (.cells xc e)) (o1.alloc _) (Blk.new w1 _ _)
  exact ⟨A1, c1, w1, A2, c2, w2, r1, r2, o2, b1, b2⟩
end
theorem rowT_of {t e : TypeId} {sz bytes : Nat} {z : Value} (hu : Tryz.prog.underlying t = some (.slice e)) (hinfo : (Tryz.prog.info? e).map (fun i => (i.zero, i.size, i.bytes)) = some (some z, sz, bytes)) (hz : z.cells.size = sz) (hp : 0 < sz) (hby : bytes ≤ 100) (hpos : 0 < bytes) (hbs : bytes * 1000000000 ≤ 140737488355328) : RowT t e sz := by
  obtain ⟨i, hi, hz0, hz1, hz2⟩ := info_parts hinfo
  refine ⟨hu, by rw [hi]; simp [hz1], hp, fun {w base v n xs B A m c ys} ho hs h1 hn hb => ?_⟩
  exact append_slc (P := Tryz.prog) w base t t e i z sz bytes hu hi hz0 hz1 hz2 hz hp v n xs ho B A m c ys hs h1 (by unfold maxLen; omega) (Nat.le_trans (Nat.mul_le_mul_right _ hn) (by omega)) hb
end Go.Proofs.YtibndaianhlcaaaGreatDoor
namespace Go.Proofs.YtibndaianhlcaaaGreatDoor
open Go.RowKit Go.Sort Go.Shelf
set_option linter.unusedVariables false
set_option linter.unusedSimpArgs false

theorem rowT_txt : RowT 23 9 1 := rowT_of Tryz.underlying23 str_info rfl (by decide) (by decide) (by decide) (by decide)
theorem rowT_ent : RowT 22 35 3 := rowT_of Tryz.underlying22 ent_info rfl (by decide) (by decide) (by decide) (by decide)
theorem rowT_unit : RowT 24 59 4 := rowT_of Tryz.underlying24 unit_info rfl (by decide) (by decide) (by decide) (by decide)
theorem rowT_bool : RowT 41 4 1 := rowT_of Tryz.underlying41 bool_info rfl (by decide) (by decide) (by decide) (by decide)
structure RefV (w : World) (R : Nat → Prop) (r : Nat) (s : Mach) (o : OV) (pA : Option Addr) (pn pc : Nat) : Prop where
  blk : Blk w r 46 #[.slice o.A o.n o.c, .slice o.A2 o.n2 o.c2, .slice o.A3 o.n3 o.c3, .slice pA pn pc]
  out : ¬ R r
  obs : ObsK w R o
  ents : o.es.map EV.ent = s.files
  users : o.users = s.users
  srvs : o.us.map SV.srv = s.units
  plan : Slc w w.heap.size 1 pA pn pc (s.plan.map bl)
  pfoot : 0 < pn → ∀ a, pA = some a → R a.block
def RefAt (w : World) (R : Nat → Prop) (r : Nat) (s : Mach) : Prop := ∃ o pA pn pc, RefV w R r s o pA pn pc
def RefPost (w : World) (R : Nat → Prop) (r : Nat) (res : Mach × Int) : Ending → World → Prop := fun e w' => e = .returned (.int .i64 res.2) ∧ RefAt w' (Fn R w w') r res.1 ∧ Step w w' (fun k => k = r) (fun k => k = r)
section
variable {w w' : World} {R : Nat → Prop} {r : Nat} {s : Mach} {o : OV} {pA : Option Addr} {pn pc : Nat}
theorem RefV.step {F F' : Nat → Prop} (h : RefV w R r s o pA pn pc) (st : Step w w' F F') (hd : ∀ k, R k → ¬ F k) (hr : ¬ F r) : RefV w' R r s o pA pn pc :=
  ⟨h.blk.step st hr, h.out, h.obs.step st hd, h.ents, h.users, h.srvs, (h.plan.apart0 st (fun hn a ha hF => hd _ (h.pfoot hn a ha) hF)).more st.size, h.pfoot⟩
theorem step_below (hb : Below w.heap.size w w') : Step w w' (fun _ => False) (fun _ => False) := ⟨hb.os, hb.tape, hb.output, hb.size, fun k hk _ => hb.block k hk, fun k hk => .inl hk⟩
theorem RefV.below (h : RefV w R r s o pA pn pc) (hb : Below w.heap.size w w') : RefV w' R r s o pA pn pc := h.step (step_below hb) (fun _ _ h => h) (fun h => h)
theorem ObsK.wide {R' : Nat → Prop} (h : ObsK w R o) (hR : ∀ k, R k → R' k) : ObsK w R' o := ⟨h.at_, fun a ha => hR _ (h.files a ha), fun a ha => hR _ (h.users a ha), fun a ha => hR _ (h.units a ha), fun e he a ha => hR _ (h.data e he a ha), fun u hu a ha => hR _ (h.req u hu a ha), fun u hu a ha => hR _ (h.aft u hu a ha)⟩
theorem RefV.wide {R' : Nat → Prop} (h : RefV w R r s o pA pn pc) (hR : ∀ k, R k → R' k) (ho : ¬ R' r) : RefV w R' r s o pA pn pc :=
  ⟨h.blk, ho, h.obs.wide hR, h.ents, h.users, h.srvs, h.plan, fun hn a ha => hR _ (h.pfoot hn a ha)⟩
theorem RefV.fn (h : RefV w R r s o pA pn pc) (w' : World) : ¬ Fn R w w' r := fun hk => by rcases hk with hk | hk; exact h.out hk; have := h.blk.lt; omega
theorem RefV.facts (h : RefV w R r s o pA pn pc) : w.cell? ⟨r, 0, none⟩ = some (.slice o.A o.n o.c) ∧ w.cell? ⟨r, 1, none⟩ = some (.slice o.A2 o.n2 o.c2) ∧ w.cell? ⟨r, 2, none⟩ = some (.slice o.A3 o.n3 o.c3) ∧ w.cell? ⟨r, 3, none⟩ = some (.slice pA pn pc) ∧ ∀ i, w.frozen? ⟨r, i, none⟩ = false := ⟨h.blk.cell 0, h.blk.cell 1, h.blk.cell 2, h.blk.cell 3, h.blk.frozen⟩
theorem RefV.lens (h : RefV w R r s o pA pn pc) : s.files.length = o.n ∧ o.es.length = o.n ∧ s.users.length = o.n2 ∧ s.units.length = o.n3 ∧ o.us.length = o.n3 ∧ s.plan.length = pn := by
  have h1 := h.obs.at_.files.len
  have h2 := h.obs.at_.users.len
  have h3 := h.obs.at_.units.len
  have h4 := h.plan.len
  rw [h.users] at h2
  simp only [List.length_map, Nat.mul_one] at h2 h4
  have e1 := congrArg List.length h.ents
  have e3 := congrArg List.length h.srvs
  rw [List.length_map] at e1 e3
  exact ⟨by omega, h1, h2, by omega, h3, h4⟩
theorem step_set (p : Addr) (v : Value) : Step w (w.setCell p v) (fun k => k = p.block) (fun k => k = p.block) := (Step.refl w (fun k => k = p.block)).setCell (p := p) (.inl rfl) v
/-- What is written anew into one of its cells. -/
theorem RefV.setUnits (h : RefV w R r s o pA pn pc) {A : Option Addr} {n c : Nat} {us : List SV} (hu : UnitsAt w w.heap.size A n c us) (h1 : ∀ a, A = some a → R a.block) (h2 : ∀ u ∈ us, (∀ a, u.A = some a → R a.block) ∧ ∀ a, u.A2 = some a → R a.block) :
    RefV (w.setCell ⟨r, 2, none⟩ (.slice A n c)) R r ⟨s.files, s.users, us.map SV.srv, s.plan⟩ ⟨o.A, o.n, o.c, o.es, o.A2, o.n2, o.c2, o.users, A, n, c, us⟩ pA pn pc := by
  have hd : ∀ k, R k → ¬ k = (⟨r, 2, none⟩ : Addr).block := fun k hk e => h.out (by rw [← show k = r from e]; exact hk)
  have ho : ObsK w R ⟨o.A, o.n, o.c, o.es, o.A2, o.n2, o.c2, o.users, A, n, c, us⟩ := ⟨⟨h.obs.at_.files, h.obs.at_.users, hu⟩, h.obs.files, h.obs.users, h1, h.obs.data, fun u hu => (h2 u hu).1, fun u hu => (h2 u hu).2⟩
  exact ⟨h.blk.set_ 2 _, h.out, ho.step (step_set _ _) hd, h.ents, h.users, rfl, (h.plan.apart0 (step_set _ _) (fun hn a ha hF => hd _ (h.pfoot hn a ha) hF)).more (step_set ⟨r, 2, none⟩ (.slice A n c)).size, h.pfoot⟩
theorem RefV.setUsers (h : RefV w R r s o pA pn pc) {A : Option Addr} {n c : Nat} {l : List Txt} (hu : Slc w w.heap.size 1 A n c (l.map encStr)) (h1 : ∀ a, A = some a → R a.block) :
    RefV (w.setCell ⟨r, 1, none⟩ (.slice A n c)) R r ⟨s.files, l, s.units, s.plan⟩ ⟨o.A, o.n, o.c, o.es, A, n, c, l, o.A3, o.n3, o.c3, o.us⟩ pA pn pc := by
  have hd : ∀ k, R k → ¬ k = (⟨r, 1, none⟩ : Addr).block := fun k hk e => h.out (by rw [← show k = r from e]; exact hk)
  have ho : ObsK w R ⟨o.A, o.n, o.c, o.es, A, n, c, l, o.A3, o.n3, o.c3, o.us⟩ := ⟨⟨h.obs.at_.files, hu, h.obs.at_.units⟩, h.obs.files, h1, h.obs.units, h.obs.data, h.obs.req, h.obs.aft⟩
  exact ⟨h.blk.set_ 1 _, h.out, ho.step (step_set _ _) hd, h.ents, rfl, h.srvs, (h.plan.apart0 (step_set _ _) (fun hn a ha hF => hd _ (h.pfoot hn a ha) hF)).more (step_set ⟨r, 1, none⟩ (.slice A n c)).size, h.pfoot⟩
theorem RefV.setFiles (h : RefV w R r s o pA pn pc) {A : Option Addr} {n c : Nat} {es : List EV} (hu : EntsAt w w.heap.size A n c es) (h1 : ∀ a, A = some a → R a.block) (h2 : ∀ e ∈ es, ∀ a, e.A = some a → R a.block) :
    RefV (w.setCell ⟨r, 0, none⟩ (.slice A n c)) R r ⟨es.map EV.ent, s.users, s.units, s.plan⟩ ⟨A, n, c, es, o.A2, o.n2, o.c2, o.users, o.A3, o.n3, o.c3, o.us⟩ pA pn pc := by
  have hd : ∀ k, R k → ¬ k = (⟨r, 0, none⟩ : Addr).block := fun k hk e => h.out (by rw [← show k = r from e]; exact hk)
  have ho : ObsK w R ⟨A, n, c, es, o.A2, o.n2, o.c2, o.users, o.A3, o.n3, o.c3, o.us⟩ := ⟨⟨hu, h.obs.at_.users, h.obs.at_.units⟩, h1, h.obs.users, h.obs.units, h2, h.obs.req, h.obs.aft⟩
  exact ⟨h.blk.set_ 0 _, h.out, ho.step (step_set _ _) hd, rfl, h.users, h.srvs, (h.plan.apart0 (step_set _ _) (fun hn a ha hF => hd _ (h.pfoot hn a ha) hF)).more (step_set ⟨r, 0, none⟩ (.slice A n c)).size, h.pfoot⟩
theorem RefV.setPlan (h : RefV w R r s o pA pn pc) {A : Option Addr} {n c : Nat} {p : List Bool} (hu : Slc w w.heap.size 1 A n c (p.map bl)) (h1 : 0 < n → ∀ a, A = some a → R a.block) :
    RefV (w.setCell ⟨r, 3, none⟩ (.slice A n c)) R r ⟨s.files, s.users, s.units, p⟩ o A n c := by
  have hd : ∀ k, R k → ¬ k = (⟨r, 3, none⟩ : Addr).block := fun k hk e => h.out (by rw [← show k = r from e]; exact hk)
  exact ⟨h.blk.set_ 3 _, h.out, h.obs.step (step_set _ _) hd, h.ents, h.users, h.srvs, (hu.apart0 (step_set _ _) (fun hn a ha hF => hd _ (h1 hn a ha) hF)).more (step_set ⟨r, 3, none⟩ (.slice A n c)).size, h1⟩
theorem atU_at {l : List Srv} {n : Txt} {k : Nat} (hk : k < l.length) (h1 : l[k].name = n) (h2 : ∀ i (hi : i < l.length), i < k → l[i].name ≠ n) : atU l n = (k : Int) := by
  obtain ⟨e1, e2⟩ := idxU_eq hk h1 h2
  unfold atU
  rw [if_pos e2, e1]
theorem atU_no {l : List Srv} {n : Txt} (h : ∀ i (hi : i < l.length), l[i].name ≠ n) : atU l n = -1 := by
  unfold atU
  rw [if_neg (by rw [hasU_none h]; decide)]
set_option maxRecDepth 100000 in
set_option maxHeartbeats 1000000 in
theorem refAt20_any (h : RefV w R r s o pA pn pc) (name : Txt) :
    Calls Tryz.prog 93 #[.pointer (some ⟨r, 0, none⟩), .string ⟨name.toArray⟩] w fun e w' => e = .returned (.int .i64 (atU s.units name)) ∧ w' = w := by
  have hl := h.lens
  obtain ⟨L, hL⟩ : ∃ L, L = s.units := ⟨_, rfl⟩
  rw [← hL]
  have hLe : L = o.us.map SV.srv := by rw [hL, h.srvs]
  have hLn : L.length = o.n3 := by rw [hL]; exact hl.2.2.2.1
  have HL := Lib.hid hLe
  have HLN := Lib.hid hLn
  have m2 := h.facts.2.2.1
  have hU := h.obs.at_.units
  have hn62 : o.n3 ≤ 9223372036854775807 := by have h1 := hU.slc.le; have h2 := hU.slc.cmax; unfold maxLen at h2; omega
  have HU := Lib.hid hU
  obtain ⟨w0, hw0⟩ : ∃ w0 : World, w0 = w := ⟨_, rfl⟩
  have HW := Lib.hid hw0
  obtain ⟨A, n, c, es, A2, n2, c2, users, A3, n3, c3, us⟩ := o
  simp only at m2 hn62 HU HL HLN
  clear h hl hL hLe hLn hU hw0
  go_enter Tryz.func93, Tryz.ntmps93
  go_wp2
  go_loopw [5] (fun i wr => ∃ k : Nat, k ≤ n3 ∧ i = .int .i64 (k : Int) ∧ wr = w0 ∧ Aside (∀ j (hj : j < L.length), j < k → L[j].name ≠ name)) (fun i _ => n3 - (intOf i).toNat)
  case atStart => exact ⟨0, Nat.zero_le _, rfl, HW.out.symm, fun j _ h => absurd h (Nat.not_lt_zero _)⟩
  case round =>
    obtain ⟨k, hk, rfl, rfl, hno⟩ := hrel
    rw [← HW.out] at m2 HU
    by_cases hlt : k < n3
    · obtain ⟨b, off, rfl, hgB, hkl, c0, c1, c2', c3', p1, p2⟩ := HU.out.at_ hlt
      have hkL : k < L.length := by rw [HLN.out]; exact hlt
      have e1 : L[k] = us[k].srv := by have := HL.out; subst this; simp
      have HHIT := Lib.hid (fun (e : L[k].name = name) => atU_at hkL e (fun i hi hik => hno.out i hi hik))
      have HNEXT := Lib.hid (fun (e : L[k].name ≠ name) => show ∀ j (hj : j < L.length), j < k + 1 → L[j].name ≠ name from fun j hj hjk => by
        rcases Nat.lt_or_ge j k with h | h
        · exact hno.out j hj h
        · obtain rfl : j = k := by omega
          exact e)
      rw [e1] at HHIT HNEXT
      clear e1 c1 c2' c3' p1 p2 hgB
      generalize us[k] = x at *
      have tx : (ByteArray.mk x.name.toArray).toList = x.name := Go.ByteArray.toList_eq _
      have ty : (ByteArray.mk name.toArray).toList = name := Go.ByteArray.toList_eq _
      cases k1 : (x.name == name) with
      | true =>
        have HX := Lib.hid (HHIT.out (show x.name = name by simpa using k1))
        go_wp2
        go_ret
        exact ⟨by rw [HX.out]; rfl, HW.out⟩
      | false =>
        have HX := Lib.hid (HNEXT.out (show x.name ≠ name by simpa using k1))
        go_wp2
        exact ⟨⟨k + 1, by omega, by go_num, by first | rfl | trivial, HX.out⟩, by simp [intOf]; omega⟩
    · obtain rfl : k = n3 := by omega
      have HX := Lib.hid (atU_no (fun i hi => hno.out i hi (by have := HLN.out; omega)))
      go_wp2
      go_ret
      exact ⟨by rw [HX.out]; rfl, HW.out⟩
end
end Go.Proofs.YtibndaianhlcaaaGreatDoor
namespace Go.Proofs.YtibndaianhlcaaaGreatDoor
open Go.RowKit Go.Sort Go.Shelf
set_option linter.unusedVariables false
set_option linter.unusedSimpArgs false

theorem slice_mark_bool (x : Value) (lo hi mx : Option Value) : Instr.slice 41 x lo hi mx = CutS 41 x lo hi mx := rfl
theorem slice_mark_unit (x : Value) (lo hi mx : Option Value) : Instr.slice 24 x lo hi mx = CutS 24 x lo hi mx := rfl
theorem slice_mark_txt (x : Value) (lo hi mx : Option Value) : Instr.slice 23 x lo hi mx = CutS 23 x lo hi mx := rfl
theorem slice_mark_ent (x : Value) (lo hi mx : Option Value) : Instr.slice 22 x lo hi mx = CutS 22 x lo hi mx := rfl
theorem fn_set (F : Nat → Prop) (w w' : World) (p : Addr) (v : Value) : Fn F w (w'.setCell p v) = Fn F w w' := by
  have hsz : (w'.setCell p v).heap.size = w'.heap.size := by simp [World.setCell]
  unfold Fn
  rw [hsz]
theorem step_bel_set {w w' : World} (hb : Below w.heap.size w w') (r i : Nat) (v : Value) : Step w (w'.setCell ⟨r, i, none⟩ v) (fun k => k = r) (fun k => k = r) := (Step.of_below hb (fun k => k = r)).setCell (p := ⟨r, i, none⟩) (.inl rfl) v
theorem own_fn {w w' : World} {R : Nat → Prop} {e : TypeId} {sz : Nat} {A : Option Addr} {n m c : Nat} {xs : List Value} (h : w'.ownsRow w.heap.size e sz (.slice A m c) n xs) : ∀ a, A = some a → Fn R w w' a.block := fun a ha => .inr (own_in h a ha)
section
variable {w w' : World} {R : Nat → Prop} {r : Nat} {s : Mach} {o : OV} {pA : Option Addr} {pn pc : Nat}
def TryPost (w : World) (R : Nat → Prop) (r : Nat) (s : Mach) (o : OV) : Ending → World → Prop := fun e w' => e = .returned (.bool (failsP s.plan)) ∧ (∃ qA qn qc, RefV w' (Fn R w w') r ⟨s.files, s.users, s.units, s.plan.tail⟩ o qA qn qc ∧ qn ≤ 1000000000) ∧ Step w w' (fun k => k = r) (fun k => k = r)
theorem try_end {b : Bool} (h : RefV w R r s o pA pn pc) {w1 : World} (hb : Below w.heap.size w w1) {A1 : Option Addr} {c1 m : Nat} (hm : m ≤ 1000000000) (ho : w1.ownsRow w.heap.size 4 1 (.slice A1 m c1) m (s.plan.tail.map bl)) (hf : failsP s.plan = b) : TryPost w R r s o (.returned (.bool b)) (w1.setCell ⟨r, 3, none⟩ (.slice A1 m c1)) := by
  subst hf
  refine ⟨rfl, ⟨A1, m, c1, ?_, hm⟩, step_bel_set hb r 3 _⟩
  rw [fn_set]
  exact ((h.below hb).wide (fn_wide R w w1) (h.fn w1)).setPlan (own_slc_of ho) (fun _ => own_fn ho)
section
attribute [local go_sem ↓] slice_mark_bool
set_option maxRecDepth 100000 in
set_option maxHeartbeats 1000000 in
theorem refTry20_any (h : RefV w R r s o pA pn pc) (hn : pn ≤ 1000000000) :
    Calls Tryz.prog 94 #[.pointer (some ⟨r, 0, none⟩)] w (TryPost w R r s o) := by
  have hpl := h.lens.2.2.2.2.2
  cases hp : s.plan with
  | nil =>
    have hp0 : pn = 0 := by rw [hp] at hpl; simpa using hpl.symm
    subst hp0
    have m3 := h.facts.2.2.2.1
    have hs : (⟨s.files, s.users, s.units, s.plan.tail⟩ : Mach) = s := by cases s; simp only at hp; subst hp; rfl
    have HX : Hid (TryPost w R r s o (.returned (.bool false)) w) := ⟨by rw [hp]; rfl, ⟨pA, 0, pc, by rw [hs]; exact h.wide (fn_wide R w w) (h.fn w), by omega⟩, Step.refl _ _⟩
    clear h hs hpl
    go_enter Tryz.func94, Tryz.ntmps94
    go_wp2_with (fail)
    go_ret
    exact HX.out
  | cons b p =>
    have hpn : 1 ≤ pn := by rw [hp] at hpl; simp at hpl; omega
    obtain ⟨q, off, hA, hq, hc⟩ := h.plan.at_ (by omega)
    have c0 := hc 0 (.bool b) (by rw [hp]; rfl)
    rw [Nat.add_zero] at c0
    subst hA
    have m3 := h.facts.2.2.2.1
    have mf3 := h.facts.2.2.2.2 3
    have hcut := cut_high rowT_bool (A := some ⟨q, off, none⟩) (n := pn) (c := pc) (k := 1) (z := 1) rfl hpn
    obtain ⟨At, ct, et, ht⟩ := tail_slc h.plan hpn
    have hb0 : Below w.heap.size w (w.alloc (.cells #[] 4)) := (Below.refl _ w).alloc (Nat.le_refl _) _
    obtain ⟨A1, c1, w1, r1, o1, b1, _, hz1⟩ := put_one rowT_bool ht (Nat.le_refl _) (fun u hu => bls_one s.plan u (List.mem_of_mem_drop hu)) (by omega) hb0 (heap_alloc_new w _) (Nat.le_refl _)
    rw [← et] at r1
    have hdr : (s.plan.map bl).drop (1 * 1) = s.plan.tail.map bl := by rw [hp]; rfl
    rw [hdr] at o1
    have HX := Lib.hid (try_end h b1 (b := b) (by omega) o1 (by rw [hp]; rfl))
    have hB1 := h.blk.below b1 h.blk.lt
    have n3 := hB1.cell 3
    have nf3 := hB1.frozen 3
    simp only [List.getElem?_toArray, List.getElem?_cons_zero, List.getElem?_cons_succ] at n3
    have hrl := h.blk.lt
    have hneq : ((pn : Int) == 0) = false := by rw [beq_eq_false_iff_ne]; omega
    have h1p : (0 : Int) < (pn : Int) := by omega
    have HR1 := Lib.hid r1
    clear h hc ht et hb0 o1 b1 hdr hB1 hpl r1 hq hz1
    go_enter Tryz.func94, Tryz.ntmps94
    go_wp2_with (at_builtin; refine wpList_append_run rfl _ _ _ rfl rfl rfl HR1.out ?_; clear HR1)
    go_ret
    exact HX.out
end
theorem units_one (us : List SV) : ∀ v ∈ us.flatMap svCells, v.oneCell' = true := svCells_one us
/-- A unit less. -/
structure StopEnd (w : World) (R : Nat → Prop) (r : Nat) (s : Mach) (w2 : World) (A3 : Option Addr) (n3 c3 i : Nat) (A1 : Option Addr) (c1 : Nat) (w3 : World) (A2 : Option Addr) (c2 : Nat) (w4 : World) : Prop where
  r1 : (Builtin.append_ #[24, 24] 24 #[.slice (some ⟨w2.heap.size, 0, none⟩) 0 0, headG A3 n3 c3 i]).run Tryz.prog (w2.alloc (.cells #[] 59)).drew = .ok (.slice A1 i c1) w3
  r2 : (Builtin.append_ #[24, 24] 24 #[.slice A1 i c1, tailG A3 n3 c3 (i + 1) 4]).run Tryz.prog w3 = .ok (.slice A2 (n3 - 1) c2) w4
  a2 : w2.cell? ⟨r, 2, none⟩ = some (.slice A3 n3 c3)
  a3 : w3.cell? ⟨r, 2, none⟩ = some (.slice A3 n3 c3)
  a4 : w4.cell? ⟨r, 2, none⟩ = some (.slice A3 n3 c3)
  f4 : w4.frozen? ⟨r, 2, none⟩ = false
  post : RefPost w R r (⟨s.files, s.users, s.units.eraseIdx i, s.plan⟩, 0) (.returned (.int .i64 0)) (w4.setCell ⟨r, 2, none⟩ (.slice A2 (n3 - 1) c2))
theorem stop_end {w2 : World} {S : Nat → Prop} (h : RefV w2 S r s o pA pn pc) (hS : ∀ k, S k → Fn R w w2 k) (hst : Step w w2 (fun k => k = r) (fun k => k = r)) (hR : ¬ R r) (hrw : r < w.heap.size) {i : Nat} (hi : i < o.n3) (hn : o.n3 ≤ 1000000) :
    ∃ A1 c1 w3 A2 c2 w4, StopEnd w R r s w2 o.A3 o.n3 o.c3 i A1 c1 w3 A2 c2 w4 := by
  have hU := h.obs.at_.units
  obtain ⟨A1, c1, w3, A2, c2, w4, E⟩ := era_run rowT_unit hU.slc (Nat.le_refl _) (units_one o.us) (by omega) hi
  have h3 := h.below E.bel1
  have h4 := h.below E.bel
  have hf : ∀ k, Fn S w2 w4 k → Fn R w w4 k := fun k hk => by
    have := hst.size
    rcases hk with hk | hk
    · rcases hS k hk with h | h
      · exact .inl h
      · exact .inr ⟨h.1, by have := E.bel.size; omega⟩
    · exact .inr ⟨by omega, hk.2⟩
  have hout : ¬ Fn R w w4 r := fun hk => by rcases hk with hk | hk; exact hR hk; omega
  have hl : (o.us.take i ++ o.us.drop (i + 1)).length = o.n3 - 1 := by rw [List.length_append, List.length_take, List.length_drop, hU.len]; omega
  have ho := E.own
  have hfm := fun k => flatMap_take svCells 4 o.us k (fun x _ => svCells_length x)
  rw [(hfm i).1, (hfm (i + 1)).2, ← List.flatMap_append] at ho
  have hU4 := h4.obs.at_.units
  have hset := ((h4.wide (fn_wide S w2 w4) (h.fn w4)).wide hf hout).setUnits (A := A2) (n := o.n3 - 1) (c := c2) (us := o.us.take i ++ o.us.drop (i + 1)) ⟨own_slc_of ho, hl, fun u hu => hU4.req u (mem_cut hu), fun u hu => hU4.aft u (mem_cut hu)⟩ (fun a ha => hf _ (own_fn E.own a ha)) (fun u hu => ⟨fun a ha => hf _ (.inl (h.obs.req u (mem_cut hu) a ha)), fun a ha => hf _ (.inl (h.obs.aft u (mem_cut hu) a ha))⟩)
  refine ⟨A1, c1, w3, A2, c2, w4, E.r1, E.r2, h.facts.2.2.1, h3.facts.2.2.1, h4.facts.2.2.1, h4.facts.2.2.2.2 2, rfl, ?_, hst.trans (step_bel_set E.bel r 2 _)⟩
  rw [fn_set]
  rw [srvs_erase, h.srvs] at hset
  exact ⟨_, _, _, _, hset⟩
section
attribute [local go_sem ↓] slice_mark_unit
set_option maxRecDepth 100000 in
set_option maxHeartbeats 2000000 in
theorem refStop20_any (h : RefV w R r s o pA pn pc) (hn : pn ≤ 1000000000) (hn3 : o.n3 ≤ 1000000) (name : Txt) :
    Calls Tryz.prog 52 #[.pointer (some ⟨r, 0, none⟩), .string ⟨name.toArray⟩] w (RefPost w R r (doStop s name)) := by
  have ha := refAt20_any h name
  have hl := h.lens
  have hout := h.out
  have hrw := h.blk.lt
  have htry := refTry20_any h hn
  cases hh : hasU s.units name with
  | false =>
    have HX : Hid (RefPost w R r (doStop s name) (.returned (.int .i64 0)) w) := by
      rw [show doStop s name = (s, 0) by unfold doStop; rw [if_pos hh]]
      exact ⟨rfl, ⟨_, _, _, _, h.wide (fn_wide R w w) (h.fn w)⟩, Step.refl _ _⟩
    rw [show atU s.units name = -1 by unfold atU; rw [if_neg (by rw [hh]; decide)]] at ha
    clear h hl hh htry
    go_enter Tryz.func52, Tryz.ntmps52
    go_wp2_with (go_at_call 93; refine ha.mono ?_; clear ha; rintro e w1 ⟨rfl, rfl⟩)
    go_ret
    exact HX.out
  | true =>
    obtain ⟨hi, _⟩ := idxU_at hh
    obtain ⟨i, hix⟩ : ∃ i, i = idxU s.units name := ⟨_, rfl⟩
    rw [show atU s.units name = (idxU s.units name : Int) by unfold atU; rw [if_pos hh], ← hix] at ha
    rw [← hix] at hi
    have hin : i < o.n3 := by omega
    have hneg : ¬ (i : Int) < 0 := by omega
    cases hf : failsP s.plan with
    | true =>
      unfold TryPost at htry
      rw [hf] at htry
      have HX := Lib.hid (show doStop s name = (⟨s.files, s.users, s.units, s.plan.tail⟩, 71) by unfold doStop; rw [if_neg (by rw [hh]; decide), if_pos hf])
      clear h hl hh hf hix hi
      go_enter Tryz.func52, Tryz.ntmps52
      go_wp2_with (first
        | (go_at_call 93; refine ha.mono ?_; clear ha; rintro e w1 ⟨rfl, rfl⟩)
        | (go_at_call 94; refine htry.mono ?_; clear htry; rintro e w2 ⟨rfl, ⟨qA, qn, qc, hv2, -⟩, hst2⟩; have HV2 := Lib.hid hv2; have HS2 := Lib.hid hst2; clear hv2 hst2))
      go_ret
      rw [HX.out]
      exact ⟨rfl, ⟨_, _, _, _, HV2.out⟩, HS2.out⟩
    | false =>
      unfold TryPost at htry
      rw [hf] at htry
      have HX := Lib.hid (show doStop s name = (⟨s.files, s.users, s.units.eraseIdx i, s.plan.tail⟩, 0) by unfold doStop; rw [if_neg (by rw [hh]; decide), if_neg (by rw [hf]; decide), hix])
      have hnc := h.obs.at_.units.slc.le
      have hcl := cut_low rowT_unit (A := o.A3) (n := o.n3) (c := o.c3) (k := i) (z := (i : Int)) rfl (by omega)
      have hch := cut_high rowT_unit (A := o.A3) (n := o.n3) (c := o.c3) (k := i + 1) (z := (i : Int) + 1) (by omega) (by omega)
      have hw1 : IntKind.i64.wrap ((i : Int) + 1) = (i : Int) + 1 := IntWalk.i64_in _ (by omega)
      have HE : Hid (∀ {w2 : World} {qA : Option Addr} {qn qc : Nat}, RefV w2 (Fn R w w2) r ⟨s.files, s.users, s.units, s.plan.tail⟩ o qA qn qc → Step w w2 (fun k => k = r) (fun k => k = r) → ∃ A1 c1 w3 A2 c2 w4, StopEnd w R r ⟨s.files, s.users, s.units, s.plan.tail⟩ w2 o.A3 o.n3 o.c3 i A1 c1 w3 A2 c2 w4) := fun hv hst => stop_end hv (fun k hk => hk) hst hout hrw hin hn3
      obtain ⟨A, n, c, es, A2', n2, c2', users, A3, n3, c3, us⟩ := o
      simp only at hcl hch HE hin hn3 hnc
      clear h hl hh hf hix hi
      go_enter Tryz.func52, Tryz.ntmps52
      go_wp2_with (first
        | (go_at_call 93; refine ha.mono ?_; clear ha; rintro e w1 ⟨rfl, rfl⟩)
        | (go_at_call 94; refine htry.mono ?_; clear htry; rintro e w2 ⟨rfl, ⟨qA, qn, qc, hv2, -⟩, hst2⟩; obtain ⟨A1, c1, w3, A2, c2, w4, E⟩ := HE.out hv2 hst2; have hrw2 : r < w2.heap.size := Nat.lt_of_lt_of_le hrw hst2.size; have HR1 := Lib.hid E.r1; have HR2 := Lib.hid E.r2; have a2 := E.a2; have a3 := E.a3; have a4 := E.a4; have f4 := E.f4; have HP := Lib.hid E.post; clear hv2 hst2 E))
      go_region_law (first
        | (refine step_append_at (by rfl) _ _ _ (by rfl) HR1.out (by with_reducible rfl) (by rfl) (by rfl) (by rfl) ?_)
        | (refine step_append_at (by rfl) _ _ _ (by rfl) HR2.out (by with_reducible rfl) (by rfl) (by rfl) (by rfl) ?_))
      all_goals go_wp2_with (fail)
      all_goals go_ret
      all_goals rw [HX.out]
      all_goals exact HP.out
end
end
end Go.Proofs.YtibndaianhlcaaaGreatDoor
