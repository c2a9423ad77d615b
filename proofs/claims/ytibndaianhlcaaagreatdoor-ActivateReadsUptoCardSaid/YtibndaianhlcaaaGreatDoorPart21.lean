/- Rows that are put together out of parts of others: append(append(append([]T{}, l[:k]...), x), l[j:]...), whatever T is, in whatever order its parts are made. Small facts that the walk of activate.Acts needs. -/
import Derived.Test.YtibndaianhlcaaaGreatDoorPart9
import Derived.Test.YtibndaianhlcaaaGreatDoorPart7
import Derived.Test.YtibndaianhlcaaaGreatDoorPart8
import Derived.Test.YtibndaianhlcaaaGreatDoorPart20
namespace Go.Proofs.YtibndaianhlcaaaGreatDoor
open Go.RowKit Go.Sort
set_option linter.unusedVariables false
set_option linter.unusedSimpArgs false

theorem heap_new2 (w : World) (o1 o2 : Obj) : ((w.alloc o1).alloc o2).drew.heap[w.heap.size + 1]? = some o2 := by
  have h := heap_alloc_new (w.alloc o1) o2
  rw [World.size_alloc] at h
  exact h
/-- A slice of a slice. -/
def CutS (ty : TypeId) (x : Value) (lo hi mx : Option Value) : Sem Value := Instr.slice ty x lo hi mx
def headG (A : Option Addr) (n c k : Nat) : Value := .slice (if c = 0 then A else A.map (·.add 0)) k c
def tailG (A : Option Addr) (n c k sz : Nat) : Value := .slice (if c = k then A else A.map (·.add (k * sz))) (n - k) (c - k)
/-- Rows of elements of type e. -/
structure RowT (t e : TypeId) (sz : Nat) : Prop where
  und : Tryz.prog.underlying t = some (.slice e)
  size : (Tryz.prog.info? e).map (·.size) = some sz
  pos : 0 < sz
  app : ∀ {w : World} {base : Nat} {v : Value} {n : Nat} {xs : List Value} {B : Nat} {A : Option Addr} {m c : Nat} {ys : List Value}, w.ownsRow base e sz v n xs → Slc w B sz A m c ys → (∀ u ∈ ys, u.oneCell' = true) → n + m ≤ 1000000000 → base ≤ w.heap.size →
    ∃ A' c' w', (Builtin.append_ #[t, t] t #[v, .slice A m c]).run Tryz.prog w = .ok (.slice A' (n + m) c') w' ∧ w'.ownsRow base e sz (.slice A' (n + m) c') (n + m) (xs ++ ys) ∧ w.grownBy w' v.ownBlock ∧ ((Value.slice A' (n + m) c').ownBlock = v.ownBlock ∨ (Value.slice A' (n + m) c').ownBlock = some w.heap.size)
theorem cut_low {t e : TypeId} {sz : Nat} (T : RowT t e sz) {A : Option Addr} {n c k : Nat} {z : Int} (hz : z = (k : Int)) (hk : k ≤ c) (W : World) : (CutS t (.slice A n c) none (some (.int .i64 z)) none).run Tryz.prog W = .ok (headG A n c k) W := by
  subst hz
  have hs := T.size
  unfold CutS headG
  cases hq : Tryz.prog.info? e with
  | none => rw [hq] at hs; cases hs
  | some i => simp [Instr.slice, Instr.sliceBounds, Instr.sliceBound, run_underlying T.und, sizeOf, typeInfo, hq, asIntOf, hk]
theorem cut_high {t e : TypeId} {sz : Nat} (T : RowT t e sz) {A : Option Addr} {n c k : Nat} {z : Int} (hz : z = (k : Int)) (hk : k ≤ n) (W : World) : (CutS t (.slice A n c) (some (.int .i64 z)) none none).run Tryz.prog W = .ok (tailG A n c k sz) W := by
  subst hz
  have hs := T.size
  unfold CutS tailG
  cases hq : Tryz.prog.info? e with
  | none => rw [hq] at hs; cases hs
  | some i =>
    have hi : i.size = sz := by rw [hq] at hs; simpa using hs
    simp [Instr.slice, Instr.sliceBounds, Instr.sliceBound, run_underlying T.und, sizeOf, typeInfo, hq, hi, asIntOf, hk]
theorem head_slc {w : World} {B sz : Nat} {A : Option Addr} {n c : Nat} {xs : List Value} (h : Slc w B sz A n c xs) {k : Nat} (hk : k ≤ n) : ∃ A', headG A n c k = .slice A' k c ∧ Slc w B sz A' k c (xs.take (k * sz)) := by
  refine ⟨_, rfl, ⟨by rw [List.length_take, h.len]; exact Nat.min_eq_left (Nat.mul_le_mul_right _ hk), Nat.le_trans hk h.le, h.cmax, fun hp => ?_⟩⟩
  obtain ⟨b, off, e, hb, hc⟩ := h.at_ (by omega)
  subst e
  have hle := h.le
  refine ⟨b, off, by rw [if_neg (by omega)]; simp [addr_of_add], hb, fun j u hu => hc j u ?_⟩
  rw [List.getElem?_take] at hu
  split at hu
  · exact hu
  · cases hu
theorem tail_slc {w : World} {B sz : Nat} {A : Option Addr} {n c : Nat} {xs : List Value} (h : Slc w B sz A n c xs) {k : Nat} (hk : k ≤ n) : ∃ A' c', tailG A n c k sz = .slice A' (n - k) c' ∧ Slc w B sz A' (n - k) c' (xs.drop (k * sz)) := by
  have hle := h.le
  have hcm := h.cmax
  refine ⟨_, _, rfl, ⟨by rw [List.length_drop, h.len, Nat.sub_mul], by omega, by omega, fun hp => ?_⟩⟩
  obtain ⟨b, off, e, hb, hc⟩ := h.at_ (by omega)
  subst e
  refine ⟨b, off + k * sz, by rw [if_neg (by omega)]; simp [addr_of_add], hb, fun j u hu => ?_⟩
  rw [Nat.add_assoc]
  exact hc (k * sz + j) u (by rwa [List.getElem?_drop] at hu)
theorem empty_row (W : World) (e : TypeId) (sz base x : Nat) (hx : W.heap[x]? = some (.cells #[] e (0, 0))) (hb : base ≤ x) : W.ownsRow base e sz (.slice (some ⟨x, 0, none⟩) 0 0) 0 [] := ⟨by simp, .inr ⟨x, 0, #[], rfl, hb, hx, Nat.le_refl _, Nat.zero_le _, by simp, by simp⟩⟩
/-- append([]T{}, part...), at whatever block the empty row is. -/
theorem put_one {t e : TypeId} {sz : Nat} (T : RowT t e sz) {w W : World} {A : Option Addr} {k c : Nat} {ys : List Value} {B : Nat} (h : Slc w B sz A k c ys) (hB : B ≤ w.heap.size) (h1 : ∀ u ∈ ys, u.oneCell' = true) (hn : k ≤ 1000000000) {x : Nat} (hb : Below w.heap.size w W) (hx : W.heap[x]? = some (.cells #[] e (0, 0))) (hxb : w.heap.size ≤ x) :
    ∃ A1 c1 w1, (Builtin.append_ #[t, t] t #[.slice (some ⟨x, 0, none⟩) 0 0, .slice A k c]).run Tryz.prog W = .ok (.slice A1 k c1) w1 ∧ w1.ownsRow w.heap.size e sz (.slice A1 k c1) k ys ∧ Below w.heap.size w w1 ∧ (∀ y, y < W.heap.size → y ≠ x → w1.heap[y]? = W.heap[y]?) ∧ W.heap.size ≤ w1.heap.size := by
  obtain ⟨A', c', w', r, o, g, _⟩ := T.app (empty_row W e sz w.heap.size x hx hxb) (h.below (hb.mono hB)) h1 (by omega) hb.size
  rw [Nat.zero_add] at r o
  rw [List.nil_append] at o
  exact ⟨A', c', w', r, o, hb.grown g hb.size (fun q hq => by simp [Value.ownBlock] at hq; omega), fun y hy hne => g.block y hy (fun e => by simp [Value.ownBlock] at e; omega), g.size⟩
/-- A further part behind. -/
theorem put_more {t e : TypeId} {sz : Nat} (T : RowT t e sz) {w W : World} {A : Option Addr} {m c : Nat} {xs ys : List Value} {B : Nat} (h : Slc w B sz A m c ys) (hB : B ≤ w.heap.size) (h1 : ∀ u ∈ ys, u.oneCell' = true) {k : Nat} (hn : k + m ≤ 1000000000) {A1 : Option Addr} {c1 : Nat} (hb : Below w.heap.size w W) (ho : W.ownsRow w.heap.size e sz (.slice A1 k c1) k xs) :
    ∃ A2 c2 w2, (Builtin.append_ #[t, t] t #[.slice A1 k c1, .slice A m c]).run Tryz.prog W = .ok (.slice A2 (k + m) c2) w2 ∧ w2.ownsRow w.heap.size e sz (.slice A2 (k + m) c2) (k + m) (xs ++ ys) ∧ Below w.heap.size w w2 := by
  obtain ⟨A', c', w', r, o, g, _⟩ := T.app ho (h.below (hb.mono hB)) h1 hn hb.size
  exact ⟨A', c', w', r, o, hb.grown g hb.size (fun q hq => (ho.lt q hq).1)⟩
/-- An element of the call's own behind. -/
theorem put_new {t e : TypeId} {sz : Nat} (T : RowT t e sz) {w W : World} {xs : List Value} {xc : Array Value} (hxc : xc.size = sz) (h1 : ∀ u ∈ xc.toList, u.oneCell' = true) {k : Nat} (hn : k + 1 ≤ 1000000000) {A1 : Option Addr} {c1 y : Nat} (hb : Below w.heap.size w W) (ho : W.ownsRow w.heap.size e sz (.slice A1 k c1) k xs) (hy : Blk W y e xc) :
    ∃ A2 c2 w2, (Builtin.append_ #[t, t] t #[.slice A1 k c1, .slice (some ⟨y, 0, none⟩) 1 1]).run Tryz.prog W = .ok (.slice A2 (k + 1) c2) w2 ∧ w2.ownsRow w.heap.size e sz (.slice A2 (k + 1) c2) (k + 1) (xs ++ xc.toList) ∧ Below w.heap.size w w2 := by
  have hs := hy.slc (sz := sz) (n := 1) (c := 1) (by omega) (Nat.le_refl _) (by decide)
  rw [Nat.one_mul, List.take_of_length_le (by rw [Array.length_toList]; omega)] at hs
  obtain ⟨A', c', w', r, o, g, _⟩ := T.app ho hs h1 hn hb.size
  exact ⟨A', c', w', r, o, hb.grown g hb.size (fun q hq => (ho.lt q hq).1)⟩
/-- append(append([]T{}, l[:k]...), l[k+1:]...). -/
structure Era (w : World) (t e : TypeId) (sz : Nat) (A : Option Addr) (n c k : Nat) (xs : List Value) (A1 : Option Addr) (c1 : Nat) (w1 : World) (A2 : Option Addr) (c2 : Nat) (w2 : World) : Prop where
  r1 : (Builtin.append_ #[t, t] t #[.slice (some ⟨w.heap.size, 0, none⟩) 0 0, headG A n c k]).run Tryz.prog (w.alloc (.cells #[] e)).drew = .ok (.slice A1 k c1) w1
  r2 : (Builtin.append_ #[t, t] t #[.slice A1 k c1, tailG A n c (k + 1) sz]).run Tryz.prog w1 = .ok (.slice A2 (n - 1) c2) w2
  own : w2.ownsRow w.heap.size e sz (.slice A2 (n - 1) c2) (n - 1) (xs.take (k * sz) ++ xs.drop ((k + 1) * sz))
  bel1 : Below w.heap.size w w1
  bel : Below w.heap.size w w2
theorem era_run {t e : TypeId} {sz : Nat} (T : RowT t e sz) {w : World} {A : Option Addr} {n c : Nat} {xs : List Value} {B : Nat} (h : Slc w B sz A n c xs) (hB : B ≤ w.heap.size) (h1 : ∀ u ∈ xs, u.oneCell' = true) (hn : n ≤ 1000000000) {k : Nat} (hk : k < n) : ∃ A1 c1 w1 A2 c2 w2, Era w t e sz A n c k xs A1 c1 w1 A2 c2 w2 := by
  have hb : Below w.heap.size w (w.alloc (.cells #[] e)).drew := ((Below.refl _ w).alloc (Nat.le_refl _) _).drew
  obtain ⟨Ah, eh, hh⟩ := head_slc h (Nat.le_of_lt hk)
  obtain ⟨At, ct, et, ht⟩ := tail_slc h (show k + 1 ≤ n from hk)
  obtain ⟨A1, c1, w1, r1, o1, b1, _, _⟩ := put_one T hh hB (fun u hu => h1 u (List.mem_of_mem_take hu)) (by omega) hb (heap_alloc_new w _) (Nat.le_refl _)
  obtain ⟨A2, c2, w2, r2, o2, b2⟩ := put_more T ht hB (fun u hu => h1 u (List.mem_of_mem_drop hu)) (by omega) b1 o1
  rw [show k + (n - (k + 1)) = n - 1 by omega] at r2 o2
  exact ⟨A1, c1, w1, A2, c2, w2, by rw [eh]; exact r1, by rw [et]; exact r2, o2, b1, b2⟩
/-- The three orders of append(append(append([]T{}, l[:k]...), x), l[k:]...). -/
structure Put3 (w : World) (t e : TypeId) (sz : Nat) (A : Option Addr) (n c k : Nat) (xc : Array Value) (xs : List Value) (W : World) (x y : Nat) (A1 : Option Addr) (c1 : Nat) (w1 w1' : World) (A2 : Option Addr) (c2 : Nat) (w2 : World) (A3 : Option Addr) (c3 : Nat) (w3 : World) : Prop where
  r1 : (Builtin.append_ #[t, t] t #[.slice (some ⟨x, 0, none⟩) 0 0, headG A n c k]).run Tryz.prog W = .ok (.slice A1 k c1) w1
  r2 : (Builtin.append_ #[t, t] t #[.slice A1 k c1, .slice (some ⟨y, 0, none⟩) 1 1]).run Tryz.prog w1' = .ok (.slice A2 (k + 1) c2) w2
  r3 : (Builtin.append_ #[t, t] t #[.slice A2 (k + 1) c2, tailG A n c k sz]).run Tryz.prog w2 = .ok (.slice A3 (n + 1) c3) w3
  own : w3.ownsRow w.heap.size e sz (.slice A3 (n + 1) c3) (n + 1) (xs.take (k * sz) ++ xc.toList ++ xs.drop (k * sz))
  bel1 : Below w.heap.size w w1
  bel2 : Below w.heap.size w w2
  bel : Below w.heap.size w w3
section
variable {t e : TypeId} {sz : Nat} (T : RowT t e sz) {w : World} {A : Option Addr} {n c : Nat} {xs : List Value} {B : Nat} (h : Slc w B sz A n c xs) (hB : B ≤ w.heap.size) (h1 : ∀ u ∈ xs, u.oneCell' = true) (hn : n ≤ 1000000) {k : Nat} (hk : k ≤ n) {xc : Array Value} (hxc : xc.size = sz) (h2 : ∀ u ∈ xc.toList, u.oneCell' = true)
include T h hB h1 hn hk hxc h2
theorem put3_end {W w1 w1' : World} {x y : Nat} {A1 : Option Addr} {c1 : Nat} (r1 : (Builtin.append_ #[t, t] t #[.slice (some ⟨x, 0, none⟩) 0 0, headG A n c k]).run Tryz.prog W = .ok (.slice A1 k c1) w1) (b1 : Below w.heap.size w w1) (b1' : Below w.heap.size w w1') (o1 : w1'.ownsRow w.heap.size e sz (.slice A1 k c1) k (xs.take (k * sz))) (hy : Blk w1' y e xc) :
    ∃ A2 c2 w2 A3 c3 w3, Put3 w t e sz A n c k xc xs W x y A1 c1 w1 w1' A2 c2 w2 A3 c3 w3 := by
  obtain ⟨At, ct, et, ht⟩ := tail_slc h hk
  obtain ⟨A2, c2, w2, r2, o2, b2⟩ := put_new T hxc h2 (by omega) b1' o1 hy
  obtain ⟨A3, c3, w3, r3, o3, b3⟩ := put_more T ht hB (fun u hu => h1 u (List.mem_of_mem_drop hu)) (by omega) b2 o2
  rw [show k + 1 + (n - k) = n + 1 by omega] at r3 o3
  exact ⟨A2, c2, w2, A3, c3, w3, r1, r2, by rw [et]; exact r3, o3, b1, b2, b3⟩
theorem put3_a : ∃ A1 c1 w1 A2 c2 w2 A3 c3 w3, Put3 w t e sz A n c k xc xs ((w.alloc (.cells xc e)).alloc (.cells #[] e)).drew (w.heap.size + 1) w.heap.size A1 c1 w1 w1 A2 c2 w2 A3 c3 w3 := by
  have hb : Below w.heap.size w ((w.alloc (.cells xc e)).alloc (.cells #[] e)).drew := (((Below.refl _ w).alloc (Nat.le_refl _) _).alloc (by simp) _).drew
  obtain ⟨Ah, eh, hh⟩ := head_slc h hk
  obtain ⟨A1, c1, w1, r1, o1, b1, k1, _⟩ := put_one T hh hB (fun u hu => h1 u (List.mem_of_mem_take hu)) (by omega) hb (x := w.heap.size + 1) (heap_new2 w _ _) (by omega)
  have hy : Blk w1 w.heap.size e xc := by
    unfold Blk
    rw [k1 w.heap.size (by simp; omega) (by omega)]
    show ((w.alloc (.cells xc e)).alloc (.cells #[] e)).heap[w.heap.size]? = _
    rw [Below.heap_alloc _ _ _ (by simp)]
    exact heap_alloc_new w _
  obtain ⟨A2, c2, w2, A3, c3, w3, S⟩ := put3_end T h hB h1 hn hk hxc h2 (by rw [eh]; exact r1) b1 b1 o1 hy
  exact ⟨A1, c1, w1, A2, c2, w2, A3, c3, w3, S⟩
theorem put3_b : ∃ A1 c1 w1 A2 c2 w2 A3 c3 w3, Put3 w t e sz A n c k xc xs ((w.alloc (.cells #[] e)).alloc (.cells xc e)).drew w.heap.size (w.heap.size + 1) A1 c1 w1 w1 A2 c2 w2 A3 c3 w3 := by
  have hb : Below w.heap.size w ((w.alloc (.cells #[] e)).alloc (.cells xc e)).drew := (((Below.refl _ w).alloc (Nat.le_refl _) _).alloc (by simp) _).drew
  obtain ⟨Ah, eh, hh⟩ := head_slc h hk
  obtain ⟨A1, c1, w1, r1, o1, b1, k1, _⟩ := put_one T hh hB (fun u hu => h1 u (List.mem_of_mem_take hu)) (by omega) hb (x := w.heap.size) (by
    show ((w.alloc (.cells #[] e)).alloc (.cells xc e)).heap[w.heap.size]? = _
    rw [Below.heap_alloc _ _ _ (by simp)]; exact heap_alloc_new w _) (Nat.le_refl _)
  have hy : Blk w1 (w.heap.size + 1) e xc := by
    unfold Blk
    rw [k1 (w.heap.size + 1) (by simp) (by omega)]
    exact heap_new2 w _ _
  obtain ⟨A2, c2, w2, A3, c3, w3, S⟩ := put3_end T h hB h1 hn hk hxc h2 (by rw [eh]; exact r1) b1 b1 o1 hy
  exact ⟨A1, c1, w1, A2, c2, w2, A3, c3, w3, S⟩
theorem put3_c : ∃ A1 c1 w1 A2 c2 w2 A3 c3 w3, Put3 w t e sz A n c k xc xs (w.alloc (.cells #[] e)).drew w.heap.size w1.heap.size A1 c1 w1 (w1.alloc (.cells xc e)) A2 c2 w2 A3 c3 w3 := by
  have hb : Below w.heap.size w (w.alloc (.cells #[] e)).drew := ((Below.refl _ w).alloc (Nat.le_refl _) _).drew
  obtain ⟨Ah, eh, hh⟩ := head_slc h hk
  obtain ⟨A1, c1, w1, r1, o1, b1, _, _⟩ := put_one T hh hB (fun u hu => h1 u (List.mem_of_mem_take hu)) (by omega) hb (x := w.heap.size) (heap_alloc_new w _) (Nat.le_refl _)
  obtain ⟨A2, c2, w2, A3, c3, w3, S⟩ := put3_end T h hB h1 hn hk hxc h2 (by rw [eh]; exact r1) b1 (b1.alloc b1.size (.cells xc e)) (o1.alloc _) (Blk.new w1 _ _)
  exact ⟨A1, c1, w1, A2, c2, w2, A3, c3, w3, S⟩
end
/-- The three orders of append(append([]T{}, l...), x). -/
structure Put2 (w : World) (t e : TypeId) (sz : Nat) (A : Option Addr) (n c : Nat) (xc : Array Value) (xs : List Value) (W : World) (x y : Nat) (A1 : Option Addr) (c1 : Nat) (w1 w1' : World) (A2 : Option Addr) (c2 : Nat) (w2 : World) : Prop where
  r1 : (Builtin.append_ #[t, t] t #[.slice (some ⟨x, 0, none⟩) 0 0, .slice A n c]).run Tryz.prog W = .ok (.slice A1 n c1) w1
  r2 : (Builtin.append_ #[t, t] t #[.slice A1 n c1, .slice (some ⟨y, 0, none⟩) 1 1]).run Tryz.prog w1' = .ok (.slice A2 (n + 1) c2) w2
  own : w2.ownsRow w.heap.size e sz (.slice A2 (n + 1) c2) (n + 1) (xs ++ xc.toList)
  bel1 : Below w.heap.size w w1
  bel : Below w.heap.size w w2
section
variable {t e : TypeId} {sz : Nat} (T : RowT t e sz) {w : World} {A : Option Addr} {n c : Nat} {xs : List Value} {B : Nat} (h : Slc w B sz A n c xs) (hB : B ≤ w.heap.size) (h1 : ∀ u ∈ xs, u.oneCell' = true) (hn : n ≤ 1000000) {xc : Array Value} (hxc : xc.size = sz) (h2 : ∀ u ∈ xc.toList, u.oneCell' = true)
include T h hB h1 hn hxc h2
theorem put2_a : ∃ A1 c1 w1 A2 c2 w2, Put2 w t e sz A n c xc xs ((w.alloc (.cells xc e)).alloc (.cells #[] e)).drew (w.heap.size + 1) w.heap.size A1 c1 w1 w1 A2 c2 w2 := by
  have hb : Below w.heap.size w ((w.alloc (.cells xc e)).alloc (.cells #[] e)).drew := (((Below.refl _ w).alloc (Nat.le_refl _) _).alloc (by simp) _).drew
  obtain ⟨A1, c1, w1, r1, o1, b1, k1, _⟩ := put_one T h hB h1 (by omega) hb (x := w.heap.size + 1) (heap_new2 w _ _) (by omega)
  have hy : Blk w1 w.heap.size e xc := by
    unfold Blk
    rw [k1 w.heap.size (by simp; omega) (by omega)]
    show ((w.alloc (.cells xc e)).alloc (.cells #[] e)).heap[w.heap.size]? = _
    rw [Below.heap_alloc _ _ _ (by simp)]
    exact heap_alloc_new w _
  obtain ⟨A2, c2, w2, r2, o2, b2⟩ := put_new T hxc h2 (by omega) b1 o1 hy
  exact ⟨A1, c1, w1, A2, c2, w2, r1, r2, o2, b1, b2⟩
theorem put2_b : ∃ A1 c1 w1 A2 c2 w2, Put2 w t e sz A n c xc xs ((w.alloc (.cells #[] e)).alloc (.cells xc e)).drew w.heap.size (w.heap.size + 1) A1 c1 w1 w1 A2 c2 w2 := by
  have hb : Below w.heap.size w ((w.alloc (.cells #[] e)).alloc (.cells xc e)).drew := (((Below.refl _ w).alloc (Nat.le_refl _) _).alloc (by simp) _).drew
  obtain ⟨A1, c1, w1, r1, o1, b1, k1, _⟩ := put_one T h hB h1 (by omega) hb (x := w.heap.size) (by
    show ((w.alloc (.cells #[] e)).alloc (.cells xc e)).heap[w.heap.size]? = _
    rw [Below.heap_alloc _ _ _ (by simp)]; exact heap_alloc_new w _) (Nat.le_refl _)
  have hy : Blk w1 (w.heap.size + 1) e xc := by
    unfold Blk
    rw [k1 (w.heap.size + 1) (by simp) (by omega)]
    exact heap_new2 w _ _
  obtain ⟨A2, c2, w2, r2, o2, b2⟩ := put_new T hxc h2 (by omega) b1 o1 hy
  exact ⟨A1, c1, w1, A2, c2, w2, r1, r2, o2, b1, b2⟩
theorem put2_c : ∃ A1 c1 w1 A2 c2 w2, Put2 w t e sz A n c xc xs (w.alloc (.cells #[] e)).drew w.heap.size w1.heap.size A1 c1 w1 (w1.alloc (.cells xc e)) A2 c2 w2 := by
  have hb : Below w.heap.size w (w.alloc (.cells #[] e)).drew := ((Below.refl _ w).alloc (Nat.le_refl _) _).drew
  obtain ⟨A1, c1, w1, r1, o1, b1, _, _⟩ := put_one T h hB h1 (by omega) hb (x := w.heap.size) (heap_alloc_new w _) (Nat.le_refl _)
  obtain ⟨A2, c2, w2, r2, o2, b2⟩ := put_new T hxc h2 (by omega) (b1.alloc b1.size (.cells xc e)) (o1.alloc _) (Blk.new w1 _ _)
  exact ⟨A1, c1, w1, A2, c2, w2, r1, r2, o2, b1, b2⟩
end
theorem rowT_of {t e : TypeId} {sz bytes : Nat} {z : Value} (hu : Tryz.prog.underlying t = some (.slice e)) (hinfo : (Tryz.prog.info? e).map (fun i => (i.zero, i.size, i.bytes)) = some (some z, sz, bytes)) (hz : z.cells.size = sz) (hp : 0 < sz) (hby : bytes ≤ 100) (hpos : 0 < bytes) (hbs : bytes * 1000000000 ≤ 140737488355328) : RowT t e sz := by
  obtain ⟨i, hi, hz0, hz1, hz2⟩ := info_parts hinfo
  refine ⟨hu, by rw [hi]; simp [hz1], hp, fun {w base v n xs B A m c ys} ho hs h1 hn hb => ?_⟩
  exact append_slc (P := Tryz.prog) w base t t e i z sz bytes hu hi hz0 hz1 hz2 hz hp v n xs ho B A m c ys hs h1 (by unfold maxLen; omega) (Nat.le_trans (Nat.mul_le_mul_right _ hn) (by omega)) hb
end Go.Proofs.YtibndaianhlcaaaGreatDoor
namespace Go.Proofs.YtibndaianhlcaaaGreatDoor
open Go.RowKit
set_option linter.unusedVariables false

theorem rowT_unitA : RowT 24 59 4 := rowT_of Tryz.underlying24 unit_info rfl (by decide) (by decide) (by decide) (by decide)
theorem slice_mark_unitA (x : Value) (lo hi mx : Option Value) : Instr.slice 24 x lo hi mx = CutS 24 x lo hi mx := rfl
theorem filt_succA {α : Type} (p : α → Bool) (l : List α) {k : Nat} (hk : k < l.length) : (l.take (k + 1)).filter p = (l.take k).filter p ++ (if p l[k] then [l[k]] else []) := by
  rw [List.take_succ_eq_append_getElem hk, List.filter_append]
  congr 1
  by_cases h : p l[k] = true
  · simp [h]
  · simp [h]
end Go.Proofs.YtibndaianhlcaaaGreatDoor
